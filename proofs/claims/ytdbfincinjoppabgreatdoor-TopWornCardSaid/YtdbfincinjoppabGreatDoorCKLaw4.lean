/- A part of the proof that TopWorn always answers true. -/
import Derived.Test.YtdbfincinjoppabGreatDoorCKLaw1
import Derived.Test.YtdbfincinjoppabGreatDoorCRegion2
set_option linter.all false
namespace Go.Proofs.YtdbfincinjoppabGreatDoor
open Go.RowKit Go.Shelf
theorem ints_blk7 {S : Foot} {W : World} {g : Nat} {t : TypeId} {xs : List Int} (hB : Blk W g t (xs.map (Value.int .i64)).toArray) (hS : S g) (hn : xs.length ≤ maxLen) : Ints S W (some ⟨g, 0, none⟩) xs.length xs :=
 slice_blk7 hB hS rfl hn (fun k x hk => ⟨[.int .i64 x], rfl, fun j u hu => by
  have hj : j < 1 := of_getq hu
  obtain rfl : j = 0 := by omega
  simp at hu; subst hu
  simp [hk]⟩)
def IsIntsV (B : Nat) (xs : List Int) (v : Value) (W : World) : Prop := ∃ (A : Nat) (c : Nat), v = .slice (some ⟨A, 0, none⟩) xs.length c ∧ Ints (fun k => B ≤ k) W (some ⟨A, 0, none⟩) xs.length xs
theorem IsIntsV.bl {B : Nat} {xs : List Int} {v : Value} {W V : World} (h : IsIntsV B xs v W) (hb : Below W.heap.size W V) : IsIntsV B xs v V := by
 obtain ⟨A, c, h1, h2⟩ := h
 exact ⟨A, c, h1, h2.keep IntR.good (Keeps.below hb)⟩
theorem IsIntsV.new {B : Nat} {W : World} (xs : List Int) (t : TypeId) (hn : xs.length ≤ maxLen) (hB : B ≤ W.heap.size) {c : Nat} : IsIntsV B xs (.slice (some ⟨W.heap.size, 0, none⟩) xs.length c) (W.alloc (.cells (xs.map (Value.int .i64)).toArray t)) :=
 ⟨_, _, rfl, ints_blk7 (Blk.new _ _ _ rfl) hB hn⟩
theorem IsSeen7.bl {B : Nat} {v : Value} {W V : World} (h : IsSeen7 B v W) (hb : Below W.heap.size W V) : IsSeen7 B v V := by
 obtain ⟨A, c, h1, h2⟩ := h
 exact ⟨A, c, h1, h2.keep SeenCR.good (Keeps.below hb)⟩
def IsPairsV (B : Nat) (xs : List (Int × Int)) (v : Value) (W : World) : Prop := ∃ (A : Nat) (c : Nat), v = .slice (some ⟨A, 0, none⟩) xs.length c ∧ Pairs (fun k => B ≤ k) W (some ⟨A, 0, none⟩) xs.length xs
theorem IsPairsV.bl {B : Nat} {xs : List (Int × Int)} {v : Value} {W V : World} (h : IsPairsV B xs v W) (hb : Below W.heap.size W V) : IsPairsV B xs v V := by
 obtain ⟨A, c, h1, h2⟩ := h
 exact ⟨A, c, h1, h2.keep PairR.good (Keeps.below hb)⟩
def flat2 (xs : List (Int × Int)) : List Value := xs.flatMap fun p => [.int .i64 p.1, .int .i64 p.2]
theorem flat2_get : ∀ (xs : List (Int × Int)) (k : Nat) (p : Int × Int), xs[k]? = some p → (flat2 xs)[k * 2]? = some (.int .i64 p.1) ∧ (flat2 xs)[k * 2 + 1]? = some (.int .i64 p.2)
 | [], k, p, h => by simp at h
 | x :: xs, 0, p, h => by
  simp at h; subst h
  exact ⟨rfl, rfl⟩
 | x :: xs, k + 1, p, h => by
  obtain ⟨h1, h2⟩ := flat2_get xs k p (by simpa using h)
  have e1 : (k + 1) * 2 = k * 2 + 2 := by omega
  have e2 : k * 2 + 2 + 1 = k * 2 + 1 + 2 := by omega
  rw [e1, e2]
  exact ⟨h1, h2⟩
theorem pairs_blk7 {S : Foot} {W : World} {g : Nat} {t : TypeId} {xs : List (Int × Int)} {cs : Array Value} (hB : Blk W g t cs) (hcs : cs = (flat2 xs).toArray) (hS : S g) (hn : xs.length ≤ maxLen) : Pairs S W (some ⟨g, 0, none⟩) xs.length xs := by
 subst hcs
 refine slice_blk7 hB hS rfl hn (fun k x hk => ⟨[.int .i64 x.1, .int .i64 x.2], rfl, fun j u hu => ?_⟩)
 obtain ⟨h1, h2⟩ := flat2_get xs k x hk
 have hj : j < 2 := of_getq hu
 have hc : j = 0 ∨ j = 1 := by omega
 rcases hc with rfl | rfl
 ·rw [← hu]; simpa using h1
 rw [← hu]; simpa using h2
theorem IsPairsV.new {B : Nat} {W : World} (xs : List (Int × Int)) (t : TypeId) {cs : Array Value} (hcs : cs = (flat2 xs).toArray) (hn : xs.length ≤ maxLen) (hB : B ≤ W.heap.size) {c : Nat} : IsPairsV B xs (.slice (some ⟨W.heap.size, 0, none⟩) xs.length c) (W.alloc (.cells cs t)) :=
 ⟨_, _, rfl, pairs_blk7 (Blk.new _ _ _ rfl) hcs hB hn⟩
def IsPlsV (B : Nat) (xs : List Pl) (v : Value) (W : World) : Prop := ∃ (A : Nat) (c : Nat), v = .slice (some ⟨A, 0, none⟩) xs.length c ∧ Pls (fun k => B ≤ k) W (some ⟨A, 0, none⟩) xs.length xs
theorem IsPlsV.bl {B : Nat} {xs : List Pl} {v : Value} {W V : World} (h : IsPlsV B xs v W) (hb : Below W.heap.size W V) : IsPlsV B xs v V := by
 obtain ⟨A, c, h1, h2⟩ := h
 exact ⟨A, c, h1, h2.keep PlR.good (Keeps.below hb)⟩
def flatP (xs : List Pl) : List Value := xs.flatMap fun p => [.int .i64 (p.1 : Int), .int .i64 (p.2 : Int)]
theorem flatP_get : ∀ (xs : List Pl) (k : Nat) (p : Pl), xs[k]? = some p → (flatP xs)[k * 2]? = some (.int .i64 (p.1 : Int)) ∧ (flatP xs)[k * 2 + 1]? = some (.int .i64 (p.2 : Int))
 | [], k, p, h => by simp at h
 | x :: xs, 0, p, h => by
  simp at h; subst h
  exact ⟨rfl, rfl⟩
 | x :: xs, k + 1, p, h => by
  obtain ⟨h1, h2⟩ := flatP_get xs k p (by simpa using h)
  have e1 : (k + 1) * 2 = k * 2 + 2 := by omega
  have e2 : k * 2 + 2 + 1 = k * 2 + 1 + 2 := by omega
  rw [e1, e2]
  exact ⟨h1, h2⟩
theorem pls_blk7 {S : Foot} {W : World} {g : Nat} {t : TypeId} {xs : List Pl} {cs : Array Value} (hB : Blk W g t cs) (hcs : cs = (flatP xs).toArray) (hS : S g) (hn : xs.length ≤ maxLen) : Pls S W (some ⟨g, 0, none⟩) xs.length xs := by
 subst hcs
 refine slice_blk7 hB hS rfl hn (fun k x hk => ⟨[.int .i64 (x.1 : Int), .int .i64 (x.2 : Int)], rfl, fun j u hu => ?_⟩)
 obtain ⟨h1, h2⟩ := flatP_get xs k x hk
 have hj : j < 2 := of_getq hu
 have hc : j = 0 ∨ j = 1 := by omega
 rcases hc with rfl | rfl
 ·rw [← hu]; simpa using h1
 rw [← hu]; simpa using h2
theorem IsPlsV.new {B : Nat} {W : World} (xs : List Pl) (t : TypeId) {cs : Array Value} (hcs : cs = (flatP xs).toArray) (hn : xs.length ≤ maxLen) (hB : B ≤ W.heap.size) {c : Nat} : IsPlsV B xs (.slice (some ⟨W.heap.size, 0, none⟩) xs.length c) (W.alloc (.cells cs t)) :=
 ⟨_, _, rfl, pls_blk7 (Blk.new _ _ _ rfl) hcs hB hn⟩
def IntsV (r : List Int × Int) (v : Value) (W : World) : Prop := ∃ A n c, v = .tuple #[.slice A n c, .int .i64 r.2] ∧ Ints (fun _ => True) W A n r.1
theorem IntsV.bl {r : List Int × Int} {v : Value} {W V : World} (h : IntsV r v W) (hb : Below W.heap.size W V) : IntsV r v V := by
 obtain ⟨A, n, c, h1, h2⟩ := h
 exact ⟨A, n, c, h1, h2.keep IntR.good (Keeps.below hb)⟩
theorem IntsV.of {B : Nat} {r : List Int × Int} {e : Ending} {W : World} (h : IntsT B r e W) : ∃ v, e = .returned v ∧ IntsV r v W := by
 obtain ⟨A, c, h1, h2⟩ := h
 exact ⟨_, h1, A, _, c, rfl, h2.mono IntR.good (fun _ _ => trivial)⟩
theorem IntsV.of7 {r : List Int × Int} {e : Ending} {W : World} (h : ∃ D m kc, e = .returned (.tuple #[.slice D m kc, .int .i64 r.2]) ∧ Ints (fun _ => True) W D m r.1) : ∃ v, e = .returned v ∧ IntsV r v W := by
 obtain ⟨A, n, c, h1, h2⟩ := h
 exact ⟨_, h1, A, _, c, rfl, h2⟩
def PlsV (r : List Pl × Int) (v : Value) (W : World) : Prop := ∃ A n c, v = .tuple #[.slice A n c, .int .i64 r.2] ∧ Pls (fun _ => True) W A n r.1
theorem PlsV.bl {r : List Pl × Int} {v : Value} {W V : World} (h : PlsV r v W) (hb : Below W.heap.size W V) : PlsV r v V := by
 obtain ⟨A, n, c, h1, h2⟩ := h
 exact ⟨A, n, c, h1, h2.keep PlR.good (Keeps.below hb)⟩
theorem PlsV.of {B : Nat} {r : List Pl × Int} {e : Ending} {W : World} (h : PlsT B r e W) : ∃ v, e = .returned v ∧ PlsV r v W := by
 obtain ⟨A, c, h1, h2⟩ := h
 exact ⟨_, h1, A, _, c, rfl, h2.mono PlR.good (fun _ _ => trivial)⟩
def PlanV (r : List Pl × List Int × Int) (v : Value) (W : World) : Prop := ∃ A n c A2 n2 c2, v = .tuple #[.slice A n c, .slice A2 n2 c2, .int .i64 r.2.2] ∧ Pls (fun _ => True) W A n r.1 ∧ Ints (fun _ => True) W A2 n2 r.2.1
theorem PlanV.bl {r : List Pl × List Int × Int} {v : Value} {W V : World} (h : PlanV r v W) (hb : Below W.heap.size W V) : PlanV r v V := by
 obtain ⟨A, n, c, A2, n2, c2, h1, h2, h3⟩ := h
 exact ⟨A, n, c, A2, n2, c2, h1, h2.keep PlR.good (Keeps.below hb), h3.keep IntR.good (Keeps.below hb)⟩
theorem PlanV.of {B : Nat} {r : List Pl × List Int × Int} {e : Ending} {W : World} (h : PlanT B r e W) : ∃ v, e = .returned v ∧ PlanV r v W := by
 obtain ⟨A, c, A2, c2, h1, h2, h3⟩ := h
 exact ⟨_, h1, A, _, c, A2, _, c2, rfl, h2.mono PlR.good (fun _ _ => trivial), h3.mono IntR.good (fun _ _ => trivial)⟩
def SlI (xs : List Int) (v : Value) (W : World) : Prop := ∃ A n c, v = .slice A n c ∧ Ints (fun _ => True) W A n xs
theorem SlI.bl {xs : List Int} {v : Value} {W V : World} (h : SlI xs v W) (hb : Below W.heap.size W V) : SlI xs v V := by
 obtain ⟨A, n, c, h1, h2⟩ := h
 exact ⟨A, n, c, h1, h2.keep IntR.good (Keeps.below hb)⟩
def SlP (xs : List Pl) (v : Value) (W : World) : Prop := ∃ A n c, v = .slice A n c ∧ Pls (fun _ => True) W A n xs
theorem SlP.bl {xs : List Pl} {v : Value} {W V : World} (h : SlP xs v W) (hb : Below W.heap.size W V) : SlP xs v V := by
 obtain ⟨A, n, c, h1, h2⟩ := h
 exact ⟨A, n, c, h1, h2.keep PlR.good (Keeps.below hb)⟩
def sizE (B : Nat) (hv : Value) (lo hi : Int) : Nat → Bool → Value → World → Prop
 | 0, _, v, _ => v = hv
 | 1, _, v, _ => v = .agg #[.int .i64 0, .int .i64 3]
 | 2, _, v, _ => v = .tuple #[.agg #[.int .i64 lo, .int .i64 hi], .int .i64 0]
 | 3, _, v, _ => v = .tuple #[.agg #[.int .i64 lo, .int .i64 hi], .int .i64 0]
 | 4, _, v, _ => v = .agg #[.int .i64 lo, .int .i64 hi]
 | 5, _, v, _ => v = .int .i64 0
 | 6, b, v, W => ∃ g, B ≤ g ∧ v = .pointer (some ⟨g, 0, none⟩) ∧ Blk W g 23 (if b then #[.int .i64 lo, .int .i64 hi] else #[.int .i64 0, .int .i64 0])
 | _, _, _, _ => True
theorem sizE_stab (B : Nat) (hv : Value) (lo hi : Int) : ∀ i b v w w', Below w.heap.size w w' → sizE B hv lo hi i b v w → sizE B hv lo hi i b v w'
 | 0, _, _, _, _, _, h => h
 | 1, _, _, _, _, _, h => h
 | 2, _, _, _, _, _, h => h
 | 3, _, _, _, _, _, h => h
 | 4, _, _, _, _, _, h => h
 | 5, _, _, _, _, _, h => h
 | 6, _, _, _, _, hb, ⟨g, h1, h2, h3⟩ => ⟨g, h1, h2, h3.bl hb⟩
 | _ + 7, _, _, _, _, _, _ => trivial
def sizF (B : Nat) (hv : Value) (lo hi : Int) : Nat → Bool → Value → World → Prop
 | 0, _, v, _ => v = hv
 | 1, b, v, W => b = false → IsSeen7 B v W
 | 2, _, v, _ => v = .agg #[.int .i64 0, .int .i64 3]
 | 3, _, v, _ => v = .tuple #[.agg #[.int .i64 lo, .int .i64 hi], .int .i64 0]
 | 4, _, v, _ => v = .tuple #[.agg #[.int .i64 lo, .int .i64 hi], .int .i64 0]
 | 5, _, v, _ => v = .agg #[.int .i64 lo, .int .i64 hi]
 | 6, _, v, _ => v = .int .i64 0
 | 7, b, v, W => ∃ g, B ≤ g ∧ v = .pointer (some ⟨g, 0, none⟩) ∧ Blk W g 23 (if b then #[.int .i64 lo, .int .i64 hi] else #[.int .i64 0, .int .i64 0])
 | _, _, _, _ => True
theorem sizF_stab (B : Nat) (hv : Value) (lo hi : Int) : ∀ i b v w w', Below w.heap.size w w' → sizF B hv lo hi i b v w → sizF B hv lo hi i b v w'
 | 0, _, _, _, _, _, h => h
 | 1, _, _, _, _, hb, h => fun e => (h e).bl hb
 | 2, _, _, _, _, _, h => h
 | 3, _, _, _, _, _, h => h
 | 4, _, _, _, _, _, h => h
 | 5, _, _, _, _, _, h => h
 | 6, _, _, _, _, _, h => h
 | 7, _, _, _, _, hb, ⟨g, h1, h2, h3⟩ => ⟨g, h1, h2, h3.bl hb⟩
 | _ + 8, _, _, _, _, _, _ => trivial
set_option maxRecDepth 100000 in
set_option maxHeartbeats 4000000 in
theorem awake7_any (w : World) :
  Calls Tryz.prog 5 #[] w fun e w' => e = .returned (.bool true) ∧ Below w.heap.size w w' := by
 go_enter Tryz.func5, Tryz.ntmps5
 go_wp2_with fail
 refine (shop30_any w).mono ?_
 rintro e W1 ⟨⟨v, rfl, A1, ca1, rfl, hH1, hca1⟩, b1⟩
 obtain ⟨W2, hW2⟩ : ∃ W2, W1.alloc (.cells #[.int .i64 10, .int .i64 12, .slice (some ⟨A1, 0, none⟩) 2 ca1] 26) = W2 := ⟨_, rfl⟩
 have X1 : Blk W2 W1.heap.size 26 #[.int .i64 10, .int .i64 12, .slice (some ⟨A1, 0, none⟩) 2 ca1] := by rw [← hW2]; exact Blk.new _ _ _ rfl
 have HM := Lib.hid (show Moulds (fun _ => True) W2 (some ⟨A1, 0, none⟩) 2 exShop.moulds by rw [← hW2]; exact (hH1.keep MouldR.good (Keeps.alloc _ _)).mono MouldR.good fun _ _ => trivial)
 have HB2 : Hid (Below w.heap.size w W2) := by rw [Hid, ← hW2]; exact bl_alloc b1 _ (Nat.le_refl _)
 have hx0 := Lib.hid X1
 obtain ⟨gS, hgS⟩ : ∃ g, W1.heap.size = g := ⟨_, rfl⟩
 rw [hgS] at hx0
 have x0 := X1.cell 0
 have x1 := X1.cell 1
 have x2 := X1.cell 2
 clear hH1 b1
 go_wp2_with fail
 clear hW2 X1 x0 x1 x2
 first
 | rw [hgS]
 | skip
 clear hgS
 have HBV : Hid (Below W2.heap.size W2 W2) := Below.refl _ _
 have hx := hx0
 have AS := Lib.hid (sizE_stab W2.heap.size (.agg #[.int .i64 10, .int .i64 12, .slice (some ⟨A1, 0, none⟩) 2 ca1]) 994 1001)
 refine wp_region_invs (InvE W2.heap.size W2 (sizE W2.heap.size (.agg #[.int .i64 10, .int .i64 12, .slice (some ⟨A1, 0, none⟩) 2 ca1]) 994 1001) 7) 8 (by kernel_rfl) (by kernel_rfl) (by kernel_rfl) (by rfl) ⟨(Below.refl _ _).drew, fun i h => by cases h⟩ ?step (by rfl) (by rfl) ?fin
 case step =>
  refine StepsI.cons ?_ (StepsI.cons ?_ (StepsI.cons ?_ (StepsI.cons ?_ (StepsI.cons ?_ (StepsI.cons ?_ (StepsI.cons ?_ (StepsI.cons ?_ StepsI.nil)))))))
  all_goals
   refine StepI.of ?_
   intro ls vs W K hI hl hw hU hK
   simp only [fillA, Act.put, List.setIfInBounds_toArray, List.set_cons_zero, List.set_cons_succ, Nat.zero_add, Nat.reduceAdd] at hK ⊢
   simp [waits, Region.binds] at hw
   have hC := hI.1
  ·have hR := hx.out.bl (bl_call HBV.out hC (Nat.le_refl _))
   have k0 := hR.cell 0
   have k1 := hR.cell 1
   have k2 := hR.cell 2
   clear hR
   go_simp
   exact hK _ _ (hI.step AS.out (Below.refl _ _) hC.size (by decide) rfl)
  ·go_simp
   refine (at7_any 0 3 W).mono ?_
   rintro e w' ⟨rfl, hb⟩
   exact hK _ _ (hI.step AS.out hb hC.size (by decide) rfl)
  ·have h1 : vs 0 = _ := hI.2 0 (by simp [hw])
   have h3 : vs 1 = _ := hI.2 1 (by simp [hw])
   simp only [h1, h3] at hK ⊢
   go_simp
   refine (ksizes_any (s := exShop) (l := []) 0 3 W (HM.out.keep MouldR.good (Keeps.below (bl_call HBV.out hC (Nat.le_refl _)))) (SliceOf.nil _ _ _ _ _) hca1 rfl rfl).mono ?_
   rw [ex7_sizes]
   rintro e w' ⟨rfl, hb⟩
   exact hK _ _ (hI.step AS.out hb hC.size (by decide) rfl)
  ·have h1 : vs 2 = _ := hI.2 2 (by simp [hw])
   simp only [h1] at hK ⊢
   go_simp
   exact hK _ _ (hI.step AS.out (Below.refl _ _) hC.size (by decide) rfl)
  ·have h1 : vs 3 = _ := hI.2 3 (by simp [hw])
   simp only [h1] at hK ⊢
   go_simp
   exact hK _ _ (hI.step AS.out (Below.refl _ _) hC.size (by decide) rfl)
  ·have h1 : vs 3 = _ := hI.2 3 (by simp [hw])
   simp only [h1] at hK ⊢
   go_simp
   exact hK _ _ (hI.step AS.out (Below.refl _ _) hC.size (by decide) rfl)
  ·have h8 : ls 7 = false := (hU 7 _ rfl (by simp [waits, Region.binds])).1
   go_simp
   exact hK _ _ (hI.step AS.out (bl_alloc (Below.refl _ _) _ (Nat.le_refl _)) hC.size (by decide) ⟨_, hC.size, rfl, by rw [h8]; exact Blk.new _ _ _ rfl⟩)
  have h1 : vs 4 = _ := hI.2 4 (by simp [hw])
  obtain ⟨g4, hg4, h4, hB4⟩ := hI.2 6 (by simp [hw])
  rw [hl] at hB4
  have z0 : W.cell? ⟨g4, 0, none⟩ = some (.int .i64 0) := hB4.cell 0
  have z1 : W.cell? ⟨g4, 1, none⟩ = some (.int .i64 0) := hB4.cell 1
  have fz0 := hB4.frozen 0
  have fz1 := hB4.frozen 1
  have hl4 := hB4.lt
  simp only [h1, h4] at hK ⊢
  go_simp
  refine hK undef _ ⟨bl_set (bl_set hC hg4 _) hg4 _, fun i hi => ?_⟩
  have hb8 : updB ls 7 7 = true := by unfold updB; rw [if_pos rfl]
  rw [hb8]
  match i, hi with
  | 0, hi => exact hI.2 0 hi
  | 1, hi => exact hI.2 1 hi
  | 2, hi => exact hI.2 2 hi
  | 3, hi => exact hI.2 3 hi
  | 4, hi => exact hI.2 4 hi
  | 5, hi => exact hI.2 5 hi
  | 6, _ => exact ⟨g4, hg4, h4, hB4.set2 _ _⟩
  | _ + 7, _ => trivial
 case fin =>
  intro ls vs W hI hl hU
  have e6 : vs 5 = _ := hI.2 5 (hl 5 (by decide))
  obtain ⟨g2, hg4, h4, hB4⟩ := hI.2 6 (hl 6 (by decide))
  rw [hl 7 (by decide)] at hB4
  have Sg2 : Hid (Blk W g2 23 #[.int .i64 994, .int .i64 1001]) := hB4
  have b4 := hI.1
  simp only [fillA, Act.put, List.setIfInBounds_toArray, List.set_cons_zero, List.set_cons_succ, Nat.zero_add, Nat.reduceAdd, e6, h4]
  generalize vs 0 = u0, vs 1 = u1, vs 2 = u2, vs 3 = u3, vs 4 = u4
  clear hI hl hU e6 h4 hB4 AS
  replace HBV : Hid (Below W2.heap.size W2 W) := b4
  clear b4 hg4
  obtain ⟨V3, hV3⟩ : ∃ V, V = W := ⟨_, rfl⟩
  subst hV3
  go_simp
  go_wp2_with fail
  have AS := Lib.hid (sizF_stab V3.heap.size (.agg #[.int .i64 10, .int .i64 12, .slice (some ⟨A1, 0, none⟩) 2 ca1]) 994 999)
  refine wp_region_invs (InvE V3.heap.size V3 (sizF V3.heap.size (.agg #[.int .i64 10, .int .i64 12, .slice (some ⟨A1, 0, none⟩) 2 ca1]) 994 999) 8) 9 (by kernel_rfl) (by kernel_rfl) (by kernel_rfl) (by rfl) ⟨(Below.refl _ _).drew, fun i h => by cases h⟩ ?step (by rfl) (by rfl) ?fin
  case step =>
   refine StepsI.cons ?_ (StepsI.cons ?_ (StepsI.cons ?_ (StepsI.cons ?_ (StepsI.cons ?_ (StepsI.cons ?_ (StepsI.cons ?_ (StepsI.cons ?_ (StepsI.cons ?_ StepsI.nil))))))))
   all_goals
    refine StepI.of ?_
    intro ls vs W K hI hl hw hU hK
    simp only [fillA, Act.put, List.setIfInBounds_toArray, List.set_cons_zero, List.set_cons_succ, Nat.zero_add, Nat.reduceAdd] at hK ⊢
    simp [waits, Region.binds] at hw
    have hC := hI.1
   ·have hR := hx.out.bl (bl_call HBV.out hC (Nat.le_refl _))
    have k0 := hR.cell 0
    have k1 := hR.cell 1
    have k2 := hR.cell 2
    clear hR
    go_simp
    exact hK _ _ (hI.step AS.out (Below.refl _ _) hC.size (by decide) rfl)
   ·go_simp
    refine (seen32_any W).mono ?_
    rintro e w' ⟨⟨v, rfl, A, c, hv, hS⟩, hb⟩
    have hsz := hC.size
    exact hK _ _ (hI.step AS.out hb hC.size (by decide) (fun _ => ⟨A, c, hv, hS.mono SeenCR.good (fun k h => by omega)⟩))
   ·go_simp
    refine (at7_any 0 3 W).mono ?_
    rintro e w' ⟨rfl, hb⟩
    exact hK _ _ (hI.step AS.out hb hC.size (by decide) rfl)
   ·have h8 : ls 8 = false := (hU 8 _ rfl (by simp [waits, Region.binds])).1
    have h1 : vs 0 = _ := hI.2 0 (by simp [hw])
    obtain ⟨Aq, cq, h2, hS⟩ := hI.2 1 (by simp [hw]) h8
    have h3 : vs 2 = _ := hI.2 2 (by simp [hw])
    simp only [h1, h2, h3] at hK ⊢
    go_simp
    refine (ksizes_any (s := exShop) (l := exSeen7) 0 3 W (HM.out.keep MouldR.good (Keeps.below (bl_call HBV.out hC (Nat.le_refl _)))) (hS.mono SeenCR.good (fun _ _ => trivial)) hca1 rfl rfl).mono ?_
    rw [ex7_sizes2]
    rintro e w' ⟨rfl, hb⟩
    exact hK _ _ (hI.step AS.out hb hC.size (by decide) rfl)
   ·have h1 : vs 3 = _ := hI.2 3 (by simp [hw])
    simp only [h1] at hK ⊢
    go_simp
    exact hK _ _ (hI.step AS.out (Below.refl _ _) hC.size (by decide) rfl)
   ·have h1 : vs 4 = _ := hI.2 4 (by simp [hw])
    simp only [h1] at hK ⊢
    go_simp
    exact hK _ _ (hI.step AS.out (Below.refl _ _) hC.size (by decide) rfl)
   ·have h1 : vs 4 = _ := hI.2 4 (by simp [hw])
    simp only [h1] at hK ⊢
    go_simp
    exact hK _ _ (hI.step AS.out (Below.refl _ _) hC.size (by decide) rfl)
   ·have h8 : ls 8 = false := (hU 8 _ rfl (by simp [waits, Region.binds])).1
    go_simp
    exact hK _ _ (hI.step AS.out (bl_alloc (Below.refl _ _) _ (Nat.le_refl _)) hC.size (by decide) ⟨_, hC.size, rfl, by rw [h8]; exact Blk.new _ _ _ rfl⟩)
   have h1 : vs 5 = _ := hI.2 5 (by simp [hw])
   obtain ⟨g4, hg4, h4, hB4⟩ := hI.2 7 (by simp [hw])
   rw [hl] at hB4
   have z0 : W.cell? ⟨g4, 0, none⟩ = some (.int .i64 0) := hB4.cell 0
   have z1 : W.cell? ⟨g4, 1, none⟩ = some (.int .i64 0) := hB4.cell 1
   have fz0 := hB4.frozen 0
   have fz1 := hB4.frozen 1
   have hl4 := hB4.lt
   simp only [h1, h4] at hK ⊢
   go_simp
   refine hK undef _ ⟨bl_set (bl_set hC hg4 _) hg4 _, fun i hi => ?_⟩
   have hb8 : updB ls 8 8 = true := by unfold updB; rw [if_pos rfl]
   rw [hb8]
   match i, hi with
   | 0, hi => exact hI.2 0 hi
   | 1, _ => exact fun e => by cases e
   | 2, hi => exact hI.2 2 hi
   | 3, hi => exact hI.2 3 hi
   | 4, hi => exact hI.2 4 hi
   | 5, hi => exact hI.2 5 hi
   | 6, hi => exact hI.2 6 hi
   | 7, _ => exact ⟨g4, hg4, h4, hB4.set2 _ _⟩
   | _ + 8, _ => trivial
  case fin =>
   intro ls vs W hI hl hU
   have e6 : vs 6 = _ := hI.2 6 (hl 6 (by decide))
   obtain ⟨g4, hg4, h4, hB4⟩ := hI.2 7 (hl 7 (by decide))
   rw [hl 8 (by decide)] at hB4
   have Sg4 : Hid (Blk W g4 23 #[.int .i64 994, .int .i64 999]) := hB4
   have b4 := hI.1
   simp only [fillA, Act.put, List.setIfInBounds_toArray, List.set_cons_zero, List.set_cons_succ, Nat.zero_add, Nat.reduceAdd, e6, h4]
   generalize vs 0 = u0, vs 1 = u1, vs 2 = u2, vs 3 = u3, vs 4 = u4, vs 5 = u5
   clear hI hl hU e6 h4 hB4 AS
   have HG2 : Hid (∀ V, Below W.heap.size W V → Blk V g2 23 #[.int .i64 994, .int .i64 1001]) := fun V hb => Sg2.out.bl (bl_call b4 hb (Nat.le_refl _))
   replace HBV : Hid (Below W2.heap.size W2 W) := bl_call HBV.out b4 (Nat.le_refl _)
   clear b4 hg4 Sg2
   obtain ⟨V4, hV4⟩ : ∃ V, V = W := ⟨_, rfl⟩
   subst hV4
   go_simp
   have HMV : Hid (∀ V, Below V4.heap.size V4 V → Moulds (fun _ => True) V (some ⟨A1, 0, none⟩) 2 exShop.moulds) := fun V hb => HM.out.keep MouldR.good (Keeps.below (bl_call HBV.out hb (Nat.le_refl _)))
   have kk : Hid (∀ V, Below V4.heap.size V4 V → V.cell? ⟨gS, 0, none⟩ = some (.int .i64 10) ∧ V.cell? ⟨gS, 1, none⟩ = some (.int .i64 12) ∧ V.cell? ⟨gS, 2, none⟩ = some (.slice (some ⟨A1, 0, none⟩) 2 ca1) ∧ V.cell? ⟨g2, 0, none⟩ = some (.int .i64 994) ∧ V.cell? ⟨g2, 1, none⟩ = some (.int .i64 1001) ∧ V.cell? ⟨g4, 0, none⟩ = some (.int .i64 994) ∧ V.cell? ⟨g4, 1, none⟩ = some (.int .i64 999)) := fun V hb => by
    have hR := hx.out.bl (bl_call HBV.out hb (Nat.le_refl _))
    exact ⟨hR.cell 0, hR.cell 1, hR.cell 2, (HG2.out V hb).c0, (HG2.out V hb).c1, (Sg4.out.bl hb).c0, (Sg4.out.bl hb).c1⟩
   replace HBV : Hid (Below w.heap.size w V4) := bl_call HB2.out HBV.out (Nat.le_refl _)
   clear hx hx0 HM HB2 Sg4 HG2
   go_wp2_with fail
   have HC4 : Hid (Below V4.heap.size V4 V4) := Below.refl _ _
   refine wp_frameT ?_
   intro a0 ha0
   have tb1 : a0.tmps[1]? = some (.pointer (some ⟨gS, 0, none⟩)) := by rw [ha0]; kernel_rfl
   have hsz : a0.tmps.size = 160 := by rw [ha0]; kernel_rfl
   refine wp_region_list (fun W => Below V4.heap.size V4 W) (fun w w' => Below w.heap.size w w')
    [isV (.agg #[.int .i64 10, .int .i64 12, .slice (some ⟨A1, 0, none⟩) 2 ca1]), IsSeen7 V4.heap.size, IntsV ([12], 0), IntsV ([12], 0), SlI [12], isV (.int .i64 0), SlI [12], isV (.int .i64 0)]
    (by kernel_rfl) (by kernel_rfl) (by kernel_rfl) (by simp) (by simp) (Below.refl _ _).drew ?stab4 ?step4 ?fin4
   case stab4 => exact (StabL.is (StabL.cons (fun v W V hC hX h => h.bl hX) (StabL.cons (fun v W V hC hX h => h.bl hX) (StabL.cons (fun v W V hC hX h => h.bl hX) (StabL.cons (fun v W V hC hX h => h.bl hX) (StabL.is (StabL.cons (fun v W V hC hX h => h.bl hX) (StabL.is StabL.nil))))))))
   case step4 =>
    refine StepsL.isA ?_ (StepsL.consA ?_ (StepsL.consA ?_ (StepsL.consA ?_ (StepsL.consA ?_ (StepsL.isA ?_ (StepsL.consA ?_ (StepsL.isA ?_ StepsL.nil)))))))
    all_goals intro vs a W K ha hC hD hU hK
    all_goals try rw [if_pos (by rfl)]
    ·have r1 := fb ha (by kernel_rfl) tb1
     clear ha hU hD ha0
     obtain ⟨k0, k1, k2, k3, k4, k5, k6⟩ := kk.out W (bl_call HC4.out hC (Nat.le_refl _))
     go_simp
     exact hK _ hC (Below.refl _ _)
    ·clear ha hU hD ha0
     go_simp
     refine (seen32_any W).mono ?_
     rintro e w' ⟨⟨v, rfl, A, c, hv, hS⟩, hb⟩
     have hsz := hC.size
     exact hK _ _ (bl_call hC hb (Nat.le_refl _)) hb ⟨A, c, hv, hS.mono SeenCR.good (fun k h => by omega)⟩
    ·have r35 := fq 35 0 ha hsz (by kernel_rfl) (by decide) (hD 0 (by simp [waits, Region.binds]))
     have r36 := fg 36 1 ha hsz (by kernel_rfl) (by decide)
     have P1 : IsSeen7 V4.heap.size (vs 1) W := hD 1 (by simp [waits, Region.binds])
     obtain ⟨B36, d36, e36, hI36⟩ := P1
     rw [e36] at r36
     clear ha hU hD ha0
     go_simp
     refine (kshrinks_any (s := exShop) (l := exSeen7) W (HMV.out W (bl_call HC4.out hC (Nat.le_refl _))) (hI36.mono SeenCR.good (fun _ _ => trivial)) hca1 rfl rfl).mono ?_
     rw [ex7_shrinks]
     rintro e w' ⟨hT, hb⟩
     obtain ⟨v, rfl, hv⟩ := IntsV.of7 hT
     exact hK _ _ (bl_call hC hb (Nat.le_refl _)) hb hv
    ·have r37 := fg 37 2 ha hsz (by kernel_rfl) (by decide)
     have P2 : IntsV ([12], 0) (vs 2) W := hD 2 (by simp [waits, Region.binds])
     obtain ⟨A37, n37, c37, e37, hI37⟩ := P2
     rw [e37] at r37
     clear ha hU hD ha0
     go_simp
     exact hK _ _ hC (Below.refl _ _) (by first | exact ⟨_, _, _, rfl, hI37⟩ | exact ⟨_, _, _, _, _, _, rfl, hI37, hJ37⟩)
    ·have r34 := fg 34 3 ha hsz (by kernel_rfl) (by decide)
     have P3 : IntsV ([12], 0) (vs 3) W := hD 3 (by simp [waits, Region.binds])
     obtain ⟨A34, n34, c34, e34, hI34⟩ := P3
     rw [e34] at r34
     clear ha hU hD ha0
     go_simp
     exact hK _ _ hC (Below.refl _ _) ⟨_, _, _, rfl, hI34⟩
    ·have r34 := fg 34 3 ha hsz (by kernel_rfl) (by decide)
     have P3 : IntsV ([12], 0) (vs 3) W := hD 3 (by simp [waits, Region.binds])
     obtain ⟨A34, n34, c34, e34, hI34⟩ := P3
     rw [e34] at r34
     clear ha hU hD ha0
     go_simp
     exact hK _ hC (Below.refl _ _)
    ·have r38 := fg 38 4 ha hsz (by kernel_rfl) (by decide)
     have P4 : SlI [12] (vs 4) W := hD 4 (by simp [waits, Region.binds])
     obtain ⟨A38, n38, c38, e38, hI38⟩ := P4
     rw [e38] at r38
     clear ha hU hD ha0
     go_simp
     exact hK _ _ hC (Below.refl _ _) (by first | exact ⟨_, _, _, rfl, hI38⟩ | exact ⟨_, _, _, _, _, _, rfl, hI38, hJ38⟩)
    have r39 := fq 39 5 ha hsz (by kernel_rfl) (by decide) (hD 5 (by simp [waits, Region.binds]))
    clear ha hU hD ha0
    go_simp
    exact hK _ hC (Below.refl _ _)
   refine Fin1.none (Nat.le_refl _) ?_
   intro vs W a1 hC hE ha
   have hE0 := hE
   have E6 : SlI [12] (vs 6) W := hE 6 (by simp)
   obtain ⟨r6_A, r6_n, r6_c, r6_e, r6_h⟩ := E6
   have H_r6 := Lib.hid r6_h
   have n7_e : vs 7 = .int .i64 0 := hE 7 (by simp)
   rw [ha, ha0]
   clear ha ha0 hsz tb1
   simp only [fillA, Act.put, List.setIfInBounds_toArray, List.set_cons_zero, List.set_cons_succ, Nat.zero_add, Nat.reduceAdd, r6_e, n7_e]
   generalize vs 0 = u0, vs 1 = u1, vs 2 = u2, vs 3 = u3, vs 4 = u4, vs 5 = u5
   have HL4 : Hid (Below V4.heap.size V4 W) := bl_call HC4.out hC (Nat.le_refl _)
   replace H_r6 : Hid (∀ V, Below W.heap.size W V → Ints (fun _ => True) V r6_A r6_n [12]) := fun V hb => H_r6.out.keep IntR.good (Keeps.below hb)
   clear r6_h
   have hCk := Lib.hid hC
   clear hE hE0 hC HC4 r6_e n7_e
   clear hCk
   obtain ⟨V5, hV5⟩ : ∃ V, V = W := ⟨_, rfl⟩
   subst hV5
   go_simp
   go_wp2_with fail
   have HC5 : Hid (Below V4.heap.size V4 V5) := HL4.out
   refine wp_frameT ?_
   intro a0 ha0
   have tb1 : a0.tmps[1]? = some (.pointer (some ⟨gS, 0, none⟩)) := by rw [ha0]; kernel_rfl
   have hsz : a0.tmps.size = 160 := by rw [ha0]; kernel_rfl
   refine wp_region_list (fun W => Below V5.heap.size V5 W) (fun w w' => Below w.heap.size w w')
    [isV (.agg #[.int .i64 10, .int .i64 12, .slice (some ⟨A1, 0, none⟩) 2 ca1]), isV (.agg #[.int .i64 990, .int .i64 1000]), PlsV ([(0, 1), (0, 2), (1, 0), (1, 1)], 0), PlsV ([(0, 1), (0, 2), (1, 0), (1, 1)], 0), SlP [(0, 1), (0, 2), (1, 0), (1, 1)], isV (.int .i64 0), SlP [(0, 1), (0, 2), (1, 0), (1, 1)], isV (.int .i64 0)]
    (by kernel_rfl) (by kernel_rfl) (by kernel_rfl) (by simp) (by simp) (Below.refl _ _).drew ?stab5 ?step5 ?fin5
   case stab5 => exact (StabL.is (StabL.is (StabL.cons (fun v W V hC hX h => h.bl hX) (StabL.cons (fun v W V hC hX h => h.bl hX) (StabL.cons (fun v W V hC hX h => h.bl hX) (StabL.is (StabL.cons (fun v W V hC hX h => h.bl hX) (StabL.is StabL.nil))))))))
   case step5 =>
    refine StepsL.isA ?_ (StepsL.isA ?_ (StepsL.consA ?_ (StepsL.consA ?_ (StepsL.consA ?_ (StepsL.isA ?_ (StepsL.consA ?_ (StepsL.isA ?_ StepsL.nil)))))))
    all_goals intro vs a W K ha hC hD hU hK
    all_goals try rw [if_pos (by rfl)]
    ·have r1 := fb ha (by kernel_rfl) tb1
     clear ha hU hD ha0
     obtain ⟨k0, k1, k2, k3, k4, k5, k6⟩ := kk.out W (bl_call HC5.out hC (Nat.le_refl _))
     go_simp
     exact hK _ hC (Below.refl _ _)
    ·clear ha hU hD ha0
     go_simp
     refine (span7_any 990 1000 W).mono ?_
     rintro e w' ⟨rfl, hb⟩
     exact hK _ (bl_call hC hb (Nat.le_refl _)) hb
    ·have r41 := fq 41 0 ha hsz (by kernel_rfl) (by decide) (hD 0 (by simp [waits, Region.binds]))
     have r42 := fq 42 1 ha hsz (by kernel_rfl) (by decide) (hD 1 (by simp [waits, Region.binds]))
     clear ha hU hD ha0
     go_simp
     refine (kFits_any (s := exShop) (l := []) 990 1000 W (HMV.out W (bl_call HC5.out hC (Nat.le_refl _))) (SliceOf.nil _ _ _ _ _) hca1 rfl rfl).mono ?_
     rw [ex7_fits]
     rintro e w' ⟨hT, hb⟩
     obtain ⟨v, rfl, hv⟩ := PlsV.of hT
     exact hK _ _ (bl_call hC hb (Nat.le_refl _)) hb hv
    ·have r43 := fg 43 2 ha hsz (by kernel_rfl) (by decide)
     have P2 : PlsV ([(0, 1), (0, 2), (1, 0), (1, 1)], 0) (vs 2) W := hD 2 (by simp [waits, Region.binds])
     obtain ⟨A43, n43, c43, e43, hI43⟩ := P2
     rw [e43] at r43
     clear ha hU hD ha0
     go_simp
     exact hK _ _ hC (Below.refl _ _) (by first | exact ⟨_, _, _, rfl, hI43⟩ | exact ⟨_, _, _, _, _, _, rfl, hI43, hJ43⟩)
    ·have r40 := fg 40 3 ha hsz (by kernel_rfl) (by decide)
     have P3 : PlsV ([(0, 1), (0, 2), (1, 0), (1, 1)], 0) (vs 3) W := hD 3 (by simp [waits, Region.binds])
     obtain ⟨A40, n40, c40, e40, hI40⟩ := P3
     rw [e40] at r40
     clear ha hU hD ha0
     go_simp
     exact hK _ _ hC (Below.refl _ _) ⟨_, _, _, rfl, hI40⟩
    ·have r40 := fg 40 3 ha hsz (by kernel_rfl) (by decide)
     have P3 : PlsV ([(0, 1), (0, 2), (1, 0), (1, 1)], 0) (vs 3) W := hD 3 (by simp [waits, Region.binds])
     obtain ⟨A40, n40, c40, e40, hI40⟩ := P3
     rw [e40] at r40
     clear ha hU hD ha0
     go_simp
     exact hK _ hC (Below.refl _ _)
    ·have r44 := fg 44 4 ha hsz (by kernel_rfl) (by decide)
     have P4 : SlP [(0, 1), (0, 2), (1, 0), (1, 1)] (vs 4) W := hD 4 (by simp [waits, Region.binds])
     obtain ⟨A44, n44, c44, e44, hI44⟩ := P4
     rw [e44] at r44
     clear ha hU hD ha0
     go_simp
     exact hK _ _ hC (Below.refl _ _) (by first | exact ⟨_, _, _, rfl, hI44⟩ | exact ⟨_, _, _, _, _, _, rfl, hI44, hJ44⟩)
    have r45 := fq 45 5 ha hsz (by kernel_rfl) (by decide) (hD 5 (by simp [waits, Region.binds]))
    clear ha hU hD ha0
    go_simp
    exact hK _ hC (Below.refl _ _)
   refine Fin1.none (Nat.le_refl _) ?_
   intro vs W a1 hC hE ha
   have hE0 := hE
   have E6 : SlP [(0, 1), (0, 2), (1, 0), (1, 1)] (vs 6) W := hE 6 (by simp)
   obtain ⟨r8_A, r8_n, r8_c, r8_e, r8_h⟩ := E6
   have H_r8 := Lib.hid r8_h
   have n9_e : vs 7 = .int .i64 0 := hE 7 (by simp)
   rw [ha, ha0]
   clear ha ha0 hsz tb1
   simp only [fillA, Act.put, List.setIfInBounds_toArray, List.set_cons_zero, List.set_cons_succ, Nat.zero_add, Nat.reduceAdd, r8_e, n9_e]
   generalize vs 0 = u0, vs 1 = u1, vs 2 = u2, vs 3 = u3, vs 4 = u4, vs 5 = u5
   have HL5 : Hid (Below V4.heap.size V4 W) := bl_call HC5.out hC (Nat.le_refl _)
   replace H_r8 : Hid (∀ V, Below W.heap.size W V → Pls (fun _ => True) V r8_A r8_n [(0, 1), (0, 2), (1, 0), (1, 1)]) := fun V hb => H_r8.out.keep PlR.good (Keeps.below hb)
   clear r8_h
   have hCk := Lib.hid hC
   clear hE hE0 hC HC5 r8_e n9_e
   replace H_r6 : Hid (∀ V, Below W.heap.size W V → Ints (fun _ => True) V r6_A r6_n [12]) := fun V hb => H_r6.out V (bl_call hCk.out hb (Nat.le_refl _))
   clear hCk
   obtain ⟨V6, hV6⟩ : ∃ V, V = W := ⟨_, rfl⟩
   subst hV6
   go_simp
   go_wp2_with fail
   have HC6 : Hid (Below V4.heap.size V4 V6) := HL5.out
   refine wp_frameT ?_
   intro a0 ha0
   have tb1 : a0.tmps[1]? = some (.pointer (some ⟨gS, 0, none⟩)) := by rw [ha0]; kernel_rfl
   have hsz : a0.tmps.size = 160 := by rw [ha0]; kernel_rfl
   refine wp_region_list (fun W => Below V6.heap.size V6 W) (fun w w' => Below w.heap.size w w')
    [isV (.agg #[.int .i64 10, .int .i64 12, .slice (some ⟨A1, 0, none⟩) 2 ca1]), isV (.agg #[.int .i64 990, .int .i64 1000]), isV (.agg #[.int .i64 990, .int .i64 998]), isV (.agg #[.int .i64 998, .int .i64 1000]), IsPairsV V6.heap.size [(990, 1000), (990, 998), (998, 1000)], PlanV ([(0, 1), (0, 2), (1, 0)], [0, 1], 0), PlanV ([(0, 1), (0, 2), (1, 0)], [0, 1], 0), SlP [(0, 1), (0, 2), (1, 0)], SlI [0, 1], isV (.int .i64 0), SlP [(0, 1), (0, 2), (1, 0)], SlI [0, 1], isV (.int .i64 0)]
    (by kernel_rfl) (by kernel_rfl) (by kernel_rfl) (by simp) (by simp) (Below.refl _ _).drew ?stab6 ?step6 ?fin6
   case stab6 => exact (StabL.is (StabL.is (StabL.is (StabL.is (StabL.cons (fun v W V hC hX h => h.bl hX) (StabL.cons (fun v W V hC hX h => h.bl hX) (StabL.cons (fun v W V hC hX h => h.bl hX) (StabL.cons (fun v W V hC hX h => h.bl hX) (StabL.cons (fun v W V hC hX h => h.bl hX) (StabL.is (StabL.cons (fun v W V hC hX h => h.bl hX) (StabL.cons (fun v W V hC hX h => h.bl hX) (StabL.is StabL.nil)))))))))))))
   case step6 =>
    refine StepsL.isA ?_ (StepsL.isA ?_ (StepsL.isA ?_ (StepsL.isA ?_ (StepsL.consA ?_ (StepsL.consA ?_ (StepsL.consA ?_ (StepsL.consA ?_ (StepsL.consA ?_ (StepsL.isA ?_ (StepsL.consA ?_ (StepsL.consA ?_ (StepsL.isA ?_ StepsL.nil))))))))))))
    all_goals intro vs a W K ha hC hD hU hK
    all_goals try rw [if_pos (by rfl)]
    ·have r1 := fb ha (by kernel_rfl) tb1
     clear ha hU hD ha0
     obtain ⟨k0, k1, k2, k3, k4, k5, k6⟩ := kk.out W (bl_call HC6.out hC (Nat.le_refl _))
     go_simp
     exact hK _ hC (Below.refl _ _)
    ·clear ha hU hD ha0
     go_simp
     refine (span7_any 990 1000 W).mono ?_
     rintro e w' ⟨rfl, hb⟩
     exact hK _ (bl_call hC hb (Nat.le_refl _)) hb
    ·clear ha hU hD ha0
     go_simp
     refine (span7_any 990 998 W).mono ?_
     rintro e w' ⟨rfl, hb⟩
     exact hK _ (bl_call hC hb (Nat.le_refl _)) hb
    ·clear ha hU hD ha0
     go_simp
     refine (span7_any 998 1000 W).mono ?_
     rintro e w' ⟨rfl, hb⟩
     exact hK _ (bl_call hC hb (Nat.le_refl _)) hb
    ·have r48 := fq 48 1 ha hsz (by kernel_rfl) (by decide) (hD 1 (by simp [waits, Region.binds]))
     have r49 := fq 49 2 ha hsz (by kernel_rfl) (by decide) (hD 2 (by simp [waits, Region.binds]))
     have r50 := fq 50 3 ha hsz (by kernel_rfl) (by decide) (hD 3 (by simp [waits, Region.binds]))
     clear ha hU hD ha0
     go_simp
     exact hK _ _ (bl_alloc hC _ (Nat.le_refl _)) (bl_alloc (Below.refl _ _) _ (Nat.le_refl _)) (IsPairsV.new [(990, 1000), (990, 998), (998, 1000)] _ (by rfl) (by decide) hC.size)
    ·have r47 := fq 47 0 ha hsz (by kernel_rfl) (by decide) (hD 0 (by simp [waits, Region.binds]))
     have r51 := fg 51 4 ha hsz (by kernel_rfl) (by decide)
     have P4 : IsPairsV V6.heap.size [(990, 1000), (990, 998), (998, 1000)] (vs 4) W := hD 4 (by simp [waits, Region.binds])
     obtain ⟨B51, d51, e51, hI51⟩ := P4
     rw [e51] at r51
     clear ha hU hD ha0
     go_simp
     refine (kplan_any (s := exShop) (l := []) (p := [(990, 1000), (990, 998), (998, 1000)]) W (HMV.out W (bl_call HC6.out hC (Nat.le_refl _))) (SliceOf.nil _ _ _ _ _) (hI51.mono PairR.good (fun _ _ => trivial)) hca1 rfl rfl).mono ?_
     rw [ex7_plan]
     rintro e w' ⟨hT, hb⟩
     obtain ⟨v, rfl, hv⟩ := PlanV.of hT
     exact hK _ _ (bl_call hC hb (Nat.le_refl _)) hb hv
    ·have r52 := fg 52 5 ha hsz (by kernel_rfl) (by decide)
     have P5 : PlanV ([(0, 1), (0, 2), (1, 0)], [0, 1], 0) (vs 5) W := hD 5 (by simp [waits, Region.binds])
     obtain ⟨A52, n52, c52, B52, m52, d52, e52, hI52, hJ52⟩ := P5
     rw [e52] at r52
     clear ha hU hD ha0
     go_simp
     exact hK _ _ hC (Below.refl _ _) (by first | exact ⟨_, _, _, rfl, hI52⟩ | exact ⟨_, _, _, _, _, _, rfl, hI52, hJ52⟩)
    ·have r46 := fg 46 6 ha hsz (by kernel_rfl) (by decide)
     have P6 : PlanV ([(0, 1), (0, 2), (1, 0)], [0, 1], 0) (vs 6) W := hD 6 (by simp [waits, Region.binds])
     obtain ⟨A46, n46, c46, B46, m46, d46, e46, hI46, hJ46⟩ := P6
     rw [e46] at r46
     clear ha hU hD ha0
     go_simp
     exact hK _ _ hC (Below.refl _ _) ⟨_, _, _, rfl, hI46⟩
    ·have r46 := fg 46 6 ha hsz (by kernel_rfl) (by decide)
     have P6 : PlanV ([(0, 1), (0, 2), (1, 0)], [0, 1], 0) (vs 6) W := hD 6 (by simp [waits, Region.binds])
     obtain ⟨A46, n46, c46, B46, m46, d46, e46, hI46, hJ46⟩ := P6
     rw [e46] at r46
     clear ha hU hD ha0
     go_simp
     exact hK _ _ hC (Below.refl _ _) ⟨_, _, _, rfl, hJ46⟩
    ·have r46 := fg 46 6 ha hsz (by kernel_rfl) (by decide)
     have P6 : PlanV ([(0, 1), (0, 2), (1, 0)], [0, 1], 0) (vs 6) W := hD 6 (by simp [waits, Region.binds])
     obtain ⟨A46, n46, c46, B46, m46, d46, e46, hI46, hJ46⟩ := P6
     rw [e46] at r46
     clear ha hU hD ha0
     go_simp
     exact hK _ hC (Below.refl _ _)
    ·have r53 := fg 53 7 ha hsz (by kernel_rfl) (by decide)
     have P7 : SlP [(0, 1), (0, 2), (1, 0)] (vs 7) W := hD 7 (by simp [waits, Region.binds])
     obtain ⟨A53, n53, c53, e53, hI53⟩ := P7
     rw [e53] at r53
     clear ha hU hD ha0
     go_simp
     exact hK _ _ hC (Below.refl _ _) (by first | exact ⟨_, _, _, rfl, hI53⟩ | exact ⟨_, _, _, _, _, _, rfl, hI53, hJ53⟩)
    ·have r54 := fg 54 8 ha hsz (by kernel_rfl) (by decide)
     have P8 : SlI [0, 1] (vs 8) W := hD 8 (by simp [waits, Region.binds])
     obtain ⟨A54, n54, c54, e54, hI54⟩ := P8
     rw [e54] at r54
     clear ha hU hD ha0
     go_simp
     exact hK _ _ hC (Below.refl _ _) (by first | exact ⟨_, _, _, rfl, hI54⟩ | exact ⟨_, _, _, _, _, _, rfl, hI54, hJ54⟩)
    have r55 := fq 55 9 ha hsz (by kernel_rfl) (by decide) (hD 9 (by simp [waits, Region.binds]))
    clear ha hU hD ha0
    go_simp
    exact hK _ hC (Below.refl _ _)
   refine Fin1.none (Nat.le_refl _) ?_
   intro vs W a1 hC hE ha
   have hE0 := hE
   have E10 : SlP [(0, 1), (0, 2), (1, 0)] (vs 10) W := hE 10 (by simp)
   obtain ⟨r10_A, r10_n, r10_c, r10_e, r10_h⟩ := E10
   have H_r10 := Lib.hid r10_h
   have E11 : SlI [0, 1] (vs 11) W := hE 11 (by simp)
   obtain ⟨r11_A, r11_n, r11_c, r11_e, r11_h⟩ := E11
   have H_r11 := Lib.hid r11_h
   have n12_e : vs 12 = .int .i64 0 := hE 12 (by simp)
   rw [ha, ha0]
   clear ha ha0 hsz tb1
   simp only [fillA, Act.put, List.setIfInBounds_toArray, List.set_cons_zero, List.set_cons_succ, Nat.zero_add, Nat.reduceAdd, r10_e, r11_e, n12_e]
   generalize vs 0 = u0, vs 1 = u1, vs 2 = u2, vs 3 = u3, vs 4 = u4, vs 5 = u5, vs 6 = u6, vs 7 = u7, vs 8 = u8, vs 9 = u9
   have HL6 : Hid (Below V4.heap.size V4 W) := bl_call HC6.out hC (Nat.le_refl _)
   replace H_r10 : Hid (∀ V, Below W.heap.size W V → Pls (fun _ => True) V r10_A r10_n [(0, 1), (0, 2), (1, 0)]) := fun V hb => H_r10.out.keep PlR.good (Keeps.below hb)
   clear r10_h
   replace H_r11 : Hid (∀ V, Below W.heap.size W V → Ints (fun _ => True) V r11_A r11_n [0, 1]) := fun V hb => H_r11.out.keep IntR.good (Keeps.below hb)
   clear r11_h
   have hCk := Lib.hid hC
   clear hE hE0 hC HC6 r10_e r11_e n12_e
   replace H_r6 : Hid (∀ V, Below W.heap.size W V → Ints (fun _ => True) V r6_A r6_n [12]) := fun V hb => H_r6.out V (bl_call hCk.out hb (Nat.le_refl _))
   replace H_r8 : Hid (∀ V, Below W.heap.size W V → Pls (fun _ => True) V r8_A r8_n [(0, 1), (0, 2), (1, 0), (1, 1)]) := fun V hb => H_r8.out V (bl_call hCk.out hb (Nat.le_refl _))
   clear hCk
   obtain ⟨V7, hV7⟩ : ∃ V, V = W := ⟨_, rfl⟩
   subst hV7
   go_simp
   go_wp2_with fail
   have HC7 : Hid (Below V4.heap.size V4 V7) := HL6.out
   refine wp_frameT ?_
   intro a0 ha0
   have tb1 : a0.tmps[1]? = some (.pointer (some ⟨gS, 0, none⟩)) := by rw [ha0]; kernel_rfl
   have hsz : a0.tmps.size = 160 := by rw [ha0]; kernel_rfl
   refine wp_region_list (fun W => Below V7.heap.size V7 W) (fun w w' => Below w.heap.size w w')
    [isV (.agg #[.int .i64 10, .int .i64 12, .slice (some ⟨A1, 0, none⟩) 2 ca1]), isV (.agg #[.int .i64 990, .int .i64 998]), isV (.agg #[.int .i64 992, .int .i64 998]), isV (.agg #[.int .i64 990, .int .i64 998]), IsPairsV V7.heap.size [(990, 998), (992, 998), (990, 998)], IntsV ([0, 1, 2], 0), IntsV ([0, 1, 2], 0), SlI [0, 1, 2], isV (.int .i64 0), SlI [0, 1, 2], isV (.int .i64 0)]
    (by kernel_rfl) (by kernel_rfl) (by kernel_rfl) (by simp) (by simp) (Below.refl _ _).drew ?stab7 ?step7 ?fin7
   case stab7 => exact (StabL.is (StabL.is (StabL.is (StabL.is (StabL.cons (fun v W V hC hX h => h.bl hX) (StabL.cons (fun v W V hC hX h => h.bl hX) (StabL.cons (fun v W V hC hX h => h.bl hX) (StabL.cons (fun v W V hC hX h => h.bl hX) (StabL.is (StabL.cons (fun v W V hC hX h => h.bl hX) (StabL.is StabL.nil)))))))))))
   case step7 =>
    refine StepsL.isA ?_ (StepsL.isA ?_ (StepsL.isA ?_ (StepsL.isA ?_ (StepsL.consA ?_ (StepsL.consA ?_ (StepsL.consA ?_ (StepsL.consA ?_ (StepsL.isA ?_ (StepsL.consA ?_ (StepsL.isA ?_ StepsL.nil))))))))))
    all_goals intro vs a W K ha hC hD hU hK
    all_goals try rw [if_pos (by rfl)]
    ·have r1 := fb ha (by kernel_rfl) tb1
     clear ha hU hD ha0
     obtain ⟨k0, k1, k2, k3, k4, k5, k6⟩ := kk.out W (bl_call HC7.out hC (Nat.le_refl _))
     go_simp
     exact hK _ hC (Below.refl _ _)
    ·clear ha hU hD ha0
     go_simp
     refine (span7_any 990 998 W).mono ?_
     rintro e w' ⟨rfl, hb⟩
     exact hK _ (bl_call hC hb (Nat.le_refl _)) hb
    ·clear ha hU hD ha0
     go_simp
     refine (span7_any 992 998 W).mono ?_
     rintro e w' ⟨rfl, hb⟩
     exact hK _ (bl_call hC hb (Nat.le_refl _)) hb
    ·clear ha hU hD ha0
     go_simp
     refine (span7_any 990 998 W).mono ?_
     rintro e w' ⟨rfl, hb⟩
     exact hK _ (bl_call hC hb (Nat.le_refl _)) hb
    ·have r58 := fq 58 1 ha hsz (by kernel_rfl) (by decide) (hD 1 (by simp [waits, Region.binds]))
     have r59 := fq 59 2 ha hsz (by kernel_rfl) (by decide) (hD 2 (by simp [waits, Region.binds]))
     have r60 := fq 60 3 ha hsz (by kernel_rfl) (by decide) (hD 3 (by simp [waits, Region.binds]))
     clear ha hU hD ha0
     go_simp
     exact hK _ _ (bl_alloc hC _ (Nat.le_refl _)) (bl_alloc (Below.refl _ _) _ (Nat.le_refl _)) (IsPairsV.new [(990, 998), (992, 998), (990, 998)] _ (by rfl) (by decide) hC.size)
    ·have r57 := fq 57 0 ha hsz (by kernel_rfl) (by decide) (hD 0 (by simp [waits, Region.binds]))
     have r61 := fg 61 4 ha hsz (by kernel_rfl) (by decide)
     have P4 : IsPairsV V7.heap.size [(990, 998), (992, 998), (990, 998)] (vs 4) W := hD 4 (by simp [waits, Region.binds])
     obtain ⟨B61, d61, e61, hI61⟩ := P4
     rw [e61] at r61
     clear ha hU hD ha0
     go_simp
     refine (klacks_any (s := exShop) (l := []) (p := [(990, 998), (992, 998), (990, 998)]) W (HMV.out W (bl_call HC7.out hC (Nat.le_refl _))) (SliceOf.nil _ _ _ _ _) (hI61.mono PairR.good (fun _ _ => trivial)) hca1 rfl rfl).mono ?_
     rw [ex7_lacks]
     rintro e w' ⟨hT, hb⟩
     obtain ⟨v, rfl, hv⟩ := IntsV.of hT
     exact hK _ _ (bl_call hC hb (Nat.le_refl _)) hb hv
    ·have r62 := fg 62 5 ha hsz (by kernel_rfl) (by decide)
     have P5 : IntsV ([0, 1, 2], 0) (vs 5) W := hD 5 (by simp [waits, Region.binds])
     obtain ⟨A62, n62, c62, e62, hI62⟩ := P5
     rw [e62] at r62
     clear ha hU hD ha0
     go_simp
     exact hK _ _ hC (Below.refl _ _) (by first | exact ⟨_, _, _, rfl, hI62⟩ | exact ⟨_, _, _, _, _, _, rfl, hI62, hJ62⟩)
    ·have r56 := fg 56 6 ha hsz (by kernel_rfl) (by decide)
     have P6 : IntsV ([0, 1, 2], 0) (vs 6) W := hD 6 (by simp [waits, Region.binds])
     obtain ⟨A56, n56, c56, e56, hI56⟩ := P6
     rw [e56] at r56
     clear ha hU hD ha0
     go_simp
     exact hK _ _ hC (Below.refl _ _) ⟨_, _, _, rfl, hI56⟩
    ·have r56 := fg 56 6 ha hsz (by kernel_rfl) (by decide)
     have P6 : IntsV ([0, 1, 2], 0) (vs 6) W := hD 6 (by simp [waits, Region.binds])
     obtain ⟨A56, n56, c56, e56, hI56⟩ := P6
     rw [e56] at r56
     clear ha hU hD ha0
     go_simp
     exact hK _ hC (Below.refl _ _)
    ·have r63 := fg 63 7 ha hsz (by kernel_rfl) (by decide)
     have P7 : SlI [0, 1, 2] (vs 7) W := hD 7 (by simp [waits, Region.binds])
     obtain ⟨A63, n63, c63, e63, hI63⟩ := P7
     rw [e63] at r63
     clear ha hU hD ha0
     go_simp
     exact hK _ _ hC (Below.refl _ _) (by first | exact ⟨_, _, _, rfl, hI63⟩ | exact ⟨_, _, _, _, _, _, rfl, hI63, hJ63⟩)
    have r64 := fq 64 8 ha hsz (by kernel_rfl) (by decide) (hD 8 (by simp [waits, Region.binds]))
    clear ha hU hD ha0
    go_simp
    exact hK _ hC (Below.refl _ _)
   refine Fin1.none (Nat.le_refl _) ?_
   intro vs W a1 hC hE ha
   have hE0 := hE
   have E9 : SlI [0, 1, 2] (vs 9) W := hE 9 (by simp)
   obtain ⟨r13_A, r13_n, r13_c, r13_e, r13_h⟩ := E9
   have H_r13 := Lib.hid r13_h
   have n14_e : vs 10 = .int .i64 0 := hE 10 (by simp)
   rw [ha, ha0]
   clear ha ha0 hsz tb1
   simp only [fillA, Act.put, List.setIfInBounds_toArray, List.set_cons_zero, List.set_cons_succ, Nat.zero_add, Nat.reduceAdd, r13_e, n14_e]
   generalize vs 0 = u0, vs 1 = u1, vs 2 = u2, vs 3 = u3, vs 4 = u4, vs 5 = u5, vs 6 = u6, vs 7 = u7, vs 8 = u8
   have HL7 : Hid (Below V4.heap.size V4 W) := bl_call HC7.out hC (Nat.le_refl _)
   replace H_r13 : Hid (∀ V, Below W.heap.size W V → Ints (fun _ => True) V r13_A r13_n [0, 1, 2]) := fun V hb => H_r13.out.keep IntR.good (Keeps.below hb)
   clear r13_h
   have hCk := Lib.hid hC
   clear hE hE0 hC HC7 r13_e n14_e
   replace H_r6 : Hid (∀ V, Below W.heap.size W V → Ints (fun _ => True) V r6_A r6_n [12]) := fun V hb => H_r6.out V (bl_call hCk.out hb (Nat.le_refl _))
   replace H_r8 : Hid (∀ V, Below W.heap.size W V → Pls (fun _ => True) V r8_A r8_n [(0, 1), (0, 2), (1, 0), (1, 1)]) := fun V hb => H_r8.out V (bl_call hCk.out hb (Nat.le_refl _))
   replace H_r10 : Hid (∀ V, Below W.heap.size W V → Pls (fun _ => True) V r10_A r10_n [(0, 1), (0, 2), (1, 0)]) := fun V hb => H_r10.out V (bl_call hCk.out hb (Nat.le_refl _))
   replace H_r11 : Hid (∀ V, Below W.heap.size W V → Ints (fun _ => True) V r11_A r11_n [0, 1]) := fun V hb => H_r11.out V (bl_call hCk.out hb (Nat.le_refl _))
   clear hCk
   obtain ⟨V8, hV8⟩ : ∃ V, V = W := ⟨_, rfl⟩
   subst hV8
   go_simp
   go_wp2_with fail
   have HC8 : Hid (Below V4.heap.size V4 V8) := HL7.out
   refine wp_frameT ?_
   intro a0 ha0
   have tb1 : a0.tmps[1]? = some (.pointer (some ⟨gS, 0, none⟩)) := by rw [ha0]; kernel_rfl
   have hsz : a0.tmps.size = 160 := by rw [ha0]; kernel_rfl
   refine wp_region_list (fun W => Below V8.heap.size V8 W) (fun w w' => Below w.heap.size w w')
    [isV (.agg #[.int .i64 10, .int .i64 12, .slice (some ⟨A1, 0, none⟩) 2 ca1]), isV (.agg #[.int .i64 990, .int .i64 998]), isV (.agg #[.int .i64 992, .int .i64 998]), isV (.agg #[.int .i64 990, .int .i64 998]), IsPairsV V8.heap.size [(990, 998), (992, 998), (990, 998)], IntsV ([0, 1], 0), IntsV ([0, 1], 0), SlI [0, 1], isV (.int .i64 0), SlI [0, 1], isV (.int .i64 0)]
    (by kernel_rfl) (by kernel_rfl) (by kernel_rfl) (by simp) (by simp) (Below.refl _ _).drew ?stab8 ?step8 ?fin8
   case stab8 => exact (StabL.is (StabL.is (StabL.is (StabL.is (StabL.cons (fun v W V hC hX h => h.bl hX) (StabL.cons (fun v W V hC hX h => h.bl hX) (StabL.cons (fun v W V hC hX h => h.bl hX) (StabL.cons (fun v W V hC hX h => h.bl hX) (StabL.is (StabL.cons (fun v W V hC hX h => h.bl hX) (StabL.is StabL.nil)))))))))))
   case step8 =>
    refine StepsL.isA ?_ (StepsL.isA ?_ (StepsL.isA ?_ (StepsL.isA ?_ (StepsL.consA ?_ (StepsL.consA ?_ (StepsL.consA ?_ (StepsL.consA ?_ (StepsL.isA ?_ (StepsL.consA ?_ (StepsL.isA ?_ StepsL.nil))))))))))
    all_goals intro vs a W K ha hC hD hU hK
    all_goals try rw [if_pos (by rfl)]
    ·have r1 := fb ha (by kernel_rfl) tb1
     clear ha hU hD ha0
     obtain ⟨k0, k1, k2, k3, k4, k5, k6⟩ := kk.out W (bl_call HC8.out hC (Nat.le_refl _))
     go_simp
     exact hK _ hC (Below.refl _ _)
    ·clear ha hU hD ha0
     go_simp
     refine (span7_any 990 998 W).mono ?_
     rintro e w' ⟨rfl, hb⟩
     exact hK _ (bl_call hC hb (Nat.le_refl _)) hb
    ·clear ha hU hD ha0
     go_simp
     refine (span7_any 992 998 W).mono ?_
     rintro e w' ⟨rfl, hb⟩
     exact hK _ (bl_call hC hb (Nat.le_refl _)) hb
    ·clear ha hU hD ha0
     go_simp
     refine (span7_any 990 998 W).mono ?_
     rintro e w' ⟨rfl, hb⟩
     exact hK _ (bl_call hC hb (Nat.le_refl _)) hb
    ·have r67 := fq 67 1 ha hsz (by kernel_rfl) (by decide) (hD 1 (by simp [waits, Region.binds]))
     have r68 := fq 68 2 ha hsz (by kernel_rfl) (by decide) (hD 2 (by simp [waits, Region.binds]))
     have r69 := fq 69 3 ha hsz (by kernel_rfl) (by decide) (hD 3 (by simp [waits, Region.binds]))
     clear ha hU hD ha0
     go_simp
     exact hK _ _ (bl_alloc hC _ (Nat.le_refl _)) (bl_alloc (Below.refl _ _) _ (Nat.le_refl _)) (IsPairsV.new [(990, 998), (992, 998), (990, 998)] _ (by rfl) (by decide) hC.size)
    ·have r66 := fq 66 0 ha hsz (by kernel_rfl) (by decide) (hD 0 (by simp [waits, Region.binds]))
     have r70 := fg 70 4 ha hsz (by kernel_rfl) (by decide)
     have P4 : IsPairsV V8.heap.size [(990, 998), (992, 998), (990, 998)] (vs 4) W := hD 4 (by simp [waits, Region.binds])
     obtain ⟨B70, d70, e70, hI70⟩ := P4
     rw [e70] at r70
     clear ha hU hD ha0
     go_simp
     refine (ksome_any (s := exShop) (l := []) (p := [(990, 998), (992, 998), (990, 998)]) W (HMV.out W (bl_call HC8.out hC (Nat.le_refl _))) (SliceOf.nil _ _ _ _ _) (hI70.mono PairR.good (fun _ _ => trivial)) hca1 rfl rfl).mono ?_
     rw [ex7_some]
     rintro e w' ⟨hT, hb⟩
     obtain ⟨v, rfl, hv⟩ := IntsV.of hT
     exact hK _ _ (bl_call hC hb (Nat.le_refl _)) hb hv
    ·have r71 := fg 71 5 ha hsz (by kernel_rfl) (by decide)
     have P5 : IntsV ([0, 1], 0) (vs 5) W := hD 5 (by simp [waits, Region.binds])
     obtain ⟨A71, n71, c71, e71, hI71⟩ := P5
     rw [e71] at r71
     clear ha hU hD ha0
     go_simp
     exact hK _ _ hC (Below.refl _ _) (by first | exact ⟨_, _, _, rfl, hI71⟩ | exact ⟨_, _, _, _, _, _, rfl, hI71, hJ71⟩)
    ·have r65 := fg 65 6 ha hsz (by kernel_rfl) (by decide)
     have P6 : IntsV ([0, 1], 0) (vs 6) W := hD 6 (by simp [waits, Region.binds])
     obtain ⟨A65, n65, c65, e65, hI65⟩ := P6
     rw [e65] at r65
     clear ha hU hD ha0
     go_simp
     exact hK _ _ hC (Below.refl _ _) ⟨_, _, _, rfl, hI65⟩
    ·have r65 := fg 65 6 ha hsz (by kernel_rfl) (by decide)
     have P6 : IntsV ([0, 1], 0) (vs 6) W := hD 6 (by simp [waits, Region.binds])
     obtain ⟨A65, n65, c65, e65, hI65⟩ := P6
     rw [e65] at r65
     clear ha hU hD ha0
     go_simp
     exact hK _ hC (Below.refl _ _)
    ·have r72 := fg 72 7 ha hsz (by kernel_rfl) (by decide)
     have P7 : SlI [0, 1] (vs 7) W := hD 7 (by simp [waits, Region.binds])
     obtain ⟨A72, n72, c72, e72, hI72⟩ := P7
     rw [e72] at r72
     clear ha hU hD ha0
     go_simp
     exact hK _ _ hC (Below.refl _ _) (by first | exact ⟨_, _, _, rfl, hI72⟩ | exact ⟨_, _, _, _, _, _, rfl, hI72, hJ72⟩)
    have r73 := fq 73 8 ha hsz (by kernel_rfl) (by decide) (hD 8 (by simp [waits, Region.binds]))
    clear ha hU hD ha0
    go_simp
    exact hK _ hC (Below.refl _ _)
   refine Fin1.none (Nat.le_refl _) ?_
   intro vs W a1 hC hE ha
   have hE0 := hE
   have E9 : SlI [0, 1] (vs 9) W := hE 9 (by simp)
   obtain ⟨r15_A, r15_n, r15_c, r15_e, r15_h⟩ := E9
   have H_r15 := Lib.hid r15_h
   have n16_e : vs 10 = .int .i64 0 := hE 10 (by simp)
   rw [ha, ha0]
   clear ha ha0 hsz tb1
   simp only [fillA, Act.put, List.setIfInBounds_toArray, List.set_cons_zero, List.set_cons_succ, Nat.zero_add, Nat.reduceAdd, r15_e, n16_e]
   generalize vs 0 = u0, vs 1 = u1, vs 2 = u2, vs 3 = u3, vs 4 = u4, vs 5 = u5, vs 6 = u6, vs 7 = u7, vs 8 = u8
   have HL8 : Hid (Below V4.heap.size V4 W) := bl_call HC8.out hC (Nat.le_refl _)
   replace H_r15 : Hid (∀ V, Below W.heap.size W V → Ints (fun _ => True) V r15_A r15_n [0, 1]) := fun V hb => H_r15.out.keep IntR.good (Keeps.below hb)
   clear r15_h
   have hCk := Lib.hid hC
   clear hE hE0 hC HC8 r15_e n16_e
   replace H_r6 : Hid (∀ V, Below W.heap.size W V → Ints (fun _ => True) V r6_A r6_n [12]) := fun V hb => H_r6.out V (bl_call hCk.out hb (Nat.le_refl _))
   replace H_r8 : Hid (∀ V, Below W.heap.size W V → Pls (fun _ => True) V r8_A r8_n [(0, 1), (0, 2), (1, 0), (1, 1)]) := fun V hb => H_r8.out V (bl_call hCk.out hb (Nat.le_refl _))
   replace H_r10 : Hid (∀ V, Below W.heap.size W V → Pls (fun _ => True) V r10_A r10_n [(0, 1), (0, 2), (1, 0)]) := fun V hb => H_r10.out V (bl_call hCk.out hb (Nat.le_refl _))
   replace H_r11 : Hid (∀ V, Below W.heap.size W V → Ints (fun _ => True) V r11_A r11_n [0, 1]) := fun V hb => H_r11.out V (bl_call hCk.out hb (Nat.le_refl _))
   replace H_r13 : Hid (∀ V, Below W.heap.size W V → Ints (fun _ => True) V r13_A r13_n [0, 1, 2]) := fun V hb => H_r13.out V (bl_call hCk.out hb (Nat.le_refl _))
   clear hCk
   obtain ⟨V9, hV9⟩ : ∃ V, V = W := ⟨_, rfl⟩
   subst hV9
   go_simp
   go_wp2_with fail
   have HC9 : Hid (Below V4.heap.size V4 V9) := HL8.out
   refine wp_frameT ?_
   intro a0 ha0
   have tb1 : a0.tmps[1]? = some (.pointer (some ⟨gS, 0, none⟩)) := by rw [ha0]; kernel_rfl
   have hsz : a0.tmps.size = 160 := by rw [ha0]; kernel_rfl
   refine wp_region_list (fun W => Below V9.heap.size V9 W) (fun w w' => Below w.heap.size w w')
    [isV (.agg #[.int .i64 10, .int .i64 12, .slice (some ⟨A1, 0, none⟩) 2 ca1]), isV (.agg #[.int .i64 990, .int .i64 1000]), isV (.agg #[.int .i64 999, .int .i64 1000]), IsPairsV V9.heap.size [(990, 1000), (999, 1000)], PlanV ([], [], 8), PlanV ([], [], 8), SlP [], SlI [], isV (.int .i64 8), SlP [], SlI [], isV (.int .i64 8)]
    (by kernel_rfl) (by kernel_rfl) (by kernel_rfl) (by simp) (by simp) (Below.refl _ _).drew ?stab9 ?step9 ?fin9
   case stab9 => exact (StabL.is (StabL.is (StabL.is (StabL.cons (fun v W V hC hX h => h.bl hX) (StabL.cons (fun v W V hC hX h => h.bl hX) (StabL.cons (fun v W V hC hX h => h.bl hX) (StabL.cons (fun v W V hC hX h => h.bl hX) (StabL.cons (fun v W V hC hX h => h.bl hX) (StabL.is (StabL.cons (fun v W V hC hX h => h.bl hX) (StabL.cons (fun v W V hC hX h => h.bl hX) (StabL.is StabL.nil))))))))))))
   case step9 =>
    refine StepsL.isA ?_ (StepsL.isA ?_ (StepsL.isA ?_ (StepsL.consA ?_ (StepsL.consA ?_ (StepsL.consA ?_ (StepsL.consA ?_ (StepsL.consA ?_ (StepsL.isA ?_ (StepsL.consA ?_ (StepsL.consA ?_ (StepsL.isA ?_ StepsL.nil)))))))))))
    all_goals intro vs a W K ha hC hD hU hK
    all_goals try rw [if_pos (by rfl)]
    ·have r1 := fb ha (by kernel_rfl) tb1
     clear ha hU hD ha0
     obtain ⟨k0, k1, k2, k3, k4, k5, k6⟩ := kk.out W (bl_call HC9.out hC (Nat.le_refl _))
     go_simp
     exact hK _ hC (Below.refl _ _)
    ·clear ha hU hD ha0
     go_simp
     refine (span7_any 990 1000 W).mono ?_
     rintro e w' ⟨rfl, hb⟩
     exact hK _ (bl_call hC hb (Nat.le_refl _)) hb
    ·clear ha hU hD ha0
     go_simp
     refine (span7_any 999 1000 W).mono ?_
     rintro e w' ⟨rfl, hb⟩
     exact hK _ (bl_call hC hb (Nat.le_refl _)) hb
    ·have r76 := fq 76 1 ha hsz (by kernel_rfl) (by decide) (hD 1 (by simp [waits, Region.binds]))
     have r77 := fq 77 2 ha hsz (by kernel_rfl) (by decide) (hD 2 (by simp [waits, Region.binds]))
     clear ha hU hD ha0
     go_simp
     exact hK _ _ (bl_alloc hC _ (Nat.le_refl _)) (bl_alloc (Below.refl _ _) _ (Nat.le_refl _)) (IsPairsV.new [(990, 1000), (999, 1000)] _ (by rfl) (by decide) hC.size)
    ·have r75 := fq 75 0 ha hsz (by kernel_rfl) (by decide) (hD 0 (by simp [waits, Region.binds]))
     have r78 := fg 78 3 ha hsz (by kernel_rfl) (by decide)
     have P3 : IsPairsV V9.heap.size [(990, 1000), (999, 1000)] (vs 3) W := hD 3 (by simp [waits, Region.binds])
     obtain ⟨B78, d78, e78, hI78⟩ := P3
     rw [e78] at r78
     clear ha hU hD ha0
     go_simp
     refine (kplan_any (s := exShop) (l := []) (p := [(990, 1000), (999, 1000)]) W (HMV.out W (bl_call HC9.out hC (Nat.le_refl _))) (SliceOf.nil _ _ _ _ _) (hI78.mono PairR.good (fun _ _ => trivial)) hca1 rfl rfl).mono ?_
     rw [ex7_none]
     rintro e w' ⟨hT, hb⟩
     obtain ⟨v, rfl, hv⟩ := PlanV.of hT
     exact hK _ _ (bl_call hC hb (Nat.le_refl _)) hb hv
    ·have r79 := fg 79 4 ha hsz (by kernel_rfl) (by decide)
     have P4 : PlanV ([], [], 8) (vs 4) W := hD 4 (by simp [waits, Region.binds])
     obtain ⟨A79, n79, c79, B79, m79, d79, e79, hI79, hJ79⟩ := P4
     rw [e79] at r79
     clear ha hU hD ha0
     go_simp
     exact hK _ _ hC (Below.refl _ _) (by first | exact ⟨_, _, _, rfl, hI79⟩ | exact ⟨_, _, _, _, _, _, rfl, hI79, hJ79⟩)
    ·have r74 := fg 74 5 ha hsz (by kernel_rfl) (by decide)
     have P5 : PlanV ([], [], 8) (vs 5) W := hD 5 (by simp [waits, Region.binds])
     obtain ⟨A74, n74, c74, B74, m74, d74, e74, hI74, hJ74⟩ := P5
     rw [e74] at r74
     clear ha hU hD ha0
     go_simp
     exact hK _ _ hC (Below.refl _ _) ⟨_, _, _, rfl, hI74⟩
    ·have r74 := fg 74 5 ha hsz (by kernel_rfl) (by decide)
     have P5 : PlanV ([], [], 8) (vs 5) W := hD 5 (by simp [waits, Region.binds])
     obtain ⟨A74, n74, c74, B74, m74, d74, e74, hI74, hJ74⟩ := P5
     rw [e74] at r74
     clear ha hU hD ha0
     go_simp
     exact hK _ _ hC (Below.refl _ _) ⟨_, _, _, rfl, hJ74⟩
    ·have r74 := fg 74 5 ha hsz (by kernel_rfl) (by decide)
     have P5 : PlanV ([], [], 8) (vs 5) W := hD 5 (by simp [waits, Region.binds])
     obtain ⟨A74, n74, c74, B74, m74, d74, e74, hI74, hJ74⟩ := P5
     rw [e74] at r74
     clear ha hU hD ha0
     go_simp
     exact hK _ hC (Below.refl _ _)
    ·have r80 := fg 80 6 ha hsz (by kernel_rfl) (by decide)
     have P6 : SlP [] (vs 6) W := hD 6 (by simp [waits, Region.binds])
     obtain ⟨A80, n80, c80, e80, hI80⟩ := P6
     rw [e80] at r80
     clear ha hU hD ha0
     go_simp
     exact hK _ _ hC (Below.refl _ _) (by first | exact ⟨_, _, _, rfl, hI80⟩ | exact ⟨_, _, _, _, _, _, rfl, hI80, hJ80⟩)
    ·have r81 := fg 81 7 ha hsz (by kernel_rfl) (by decide)
     have P7 : SlI [] (vs 7) W := hD 7 (by simp [waits, Region.binds])
     obtain ⟨A81, n81, c81, e81, hI81⟩ := P7
     rw [e81] at r81
     clear ha hU hD ha0
     go_simp
     exact hK _ _ hC (Below.refl _ _) (by first | exact ⟨_, _, _, rfl, hI81⟩ | exact ⟨_, _, _, _, _, _, rfl, hI81, hJ81⟩)
    have r82 := fq 82 8 ha hsz (by kernel_rfl) (by decide) (hD 8 (by simp [waits, Region.binds]))
    clear ha hU hD ha0
    go_simp
    exact hK _ hC (Below.refl _ _)
   refine Fin1.none (Nat.le_refl _) ?_
   intro vs W a1 hC hE ha
   have hE0 := hE
   have E9 : SlP [] (vs 9) W := hE 9 (by simp)
   obtain ⟨r17_A, r17_n, r17_c, r17_e, r17_h⟩ := E9
   have H_r17 := Lib.hid r17_h
   have E10 : SlI [] (vs 10) W := hE 10 (by simp)
   obtain ⟨r18_A, r18_n, r18_c, r18_e, r18_h⟩ := E10
   have H_r18 := Lib.hid r18_h
   have n19_e : vs 11 = .int .i64 8 := hE 11 (by simp)
   rw [ha, ha0]
   clear ha ha0 hsz tb1
   simp only [fillA, Act.put, List.setIfInBounds_toArray, List.set_cons_zero, List.set_cons_succ, Nat.zero_add, Nat.reduceAdd, r17_e, r18_e, n19_e]
   generalize vs 0 = u0, vs 1 = u1, vs 2 = u2, vs 3 = u3, vs 4 = u4, vs 5 = u5, vs 6 = u6, vs 7 = u7, vs 8 = u8
   have HL9 : Hid (Below V4.heap.size V4 W) := bl_call HC9.out hC (Nat.le_refl _)
   replace H_r17 : Hid (∀ V, Below W.heap.size W V → Pls (fun _ => True) V r17_A r17_n []) := fun V hb => H_r17.out.keep PlR.good (Keeps.below hb)
   clear r17_h
   replace H_r18 : Hid (∀ V, Below W.heap.size W V → Ints (fun _ => True) V r18_A r18_n []) := fun V hb => H_r18.out.keep IntR.good (Keeps.below hb)
   clear r18_h
   have hCk := Lib.hid hC
   clear hE hE0 hC HC9 r17_e r18_e n19_e
   replace H_r6 : Hid (∀ V, Below W.heap.size W V → Ints (fun _ => True) V r6_A r6_n [12]) := fun V hb => H_r6.out V (bl_call hCk.out hb (Nat.le_refl _))
   replace H_r8 : Hid (∀ V, Below W.heap.size W V → Pls (fun _ => True) V r8_A r8_n [(0, 1), (0, 2), (1, 0), (1, 1)]) := fun V hb => H_r8.out V (bl_call hCk.out hb (Nat.le_refl _))
   replace H_r10 : Hid (∀ V, Below W.heap.size W V → Pls (fun _ => True) V r10_A r10_n [(0, 1), (0, 2), (1, 0)]) := fun V hb => H_r10.out V (bl_call hCk.out hb (Nat.le_refl _))
   replace H_r11 : Hid (∀ V, Below W.heap.size W V → Ints (fun _ => True) V r11_A r11_n [0, 1]) := fun V hb => H_r11.out V (bl_call hCk.out hb (Nat.le_refl _))
   replace H_r13 : Hid (∀ V, Below W.heap.size W V → Ints (fun _ => True) V r13_A r13_n [0, 1, 2]) := fun V hb => H_r13.out V (bl_call hCk.out hb (Nat.le_refl _))
   replace H_r15 : Hid (∀ V, Below W.heap.size W V → Ints (fun _ => True) V r15_A r15_n [0, 1]) := fun V hb => H_r15.out V (bl_call hCk.out hb (Nat.le_refl _))
   clear hCk
   obtain ⟨V10, hV10⟩ : ∃ V, V = W := ⟨_, rfl⟩
   subst hV10
   go_simp
   go_wp2_with fail
   have HC10 : Hid (Below V4.heap.size V4 V10) := HL9.out
   refine wp_frameT ?_
   intro a0 ha0
   have tb2 : a0.tmps[2]? = some (.pointer (some ⟨g2, 0, none⟩)) := by rw [ha0]; kernel_rfl
   have tb3 : a0.tmps[3]? = some (.int .i64 0) := by rw [ha0]; kernel_rfl
   have tb4 : a0.tmps[4]? = some (.pointer (some ⟨g4, 0, none⟩)) := by rw [ha0]; kernel_rfl
   have tb5 : a0.tmps[5]? = some (.int .i64 0) := by rw [ha0]; kernel_rfl
   have tb6 : a0.tmps[6]? = some (.slice r6_A r6_n r6_c) := by rw [ha0]; kernel_rfl
   have tb7 : a0.tmps[7]? = some (.int .i64 0) := by rw [ha0]; kernel_rfl
   have tb8 : a0.tmps[8]? = some (.slice r8_A r8_n r8_c) := by rw [ha0]; kernel_rfl
   have tb9 : a0.tmps[9]? = some (.int .i64 0) := by rw [ha0]; kernel_rfl
   have tb10 : a0.tmps[10]? = some (.slice r10_A r10_n r10_c) := by rw [ha0]; kernel_rfl
   have tb11 : a0.tmps[11]? = some (.slice r11_A r11_n r11_c) := by rw [ha0]; kernel_rfl
   have tb12 : a0.tmps[12]? = some (.int .i64 0) := by rw [ha0]; kernel_rfl
   have tb13 : a0.tmps[13]? = some (.slice r13_A r13_n r13_c) := by rw [ha0]; kernel_rfl
   have tb14 : a0.tmps[14]? = some (.int .i64 0) := by rw [ha0]; kernel_rfl
   have tb15 : a0.tmps[15]? = some (.slice r15_A r15_n r15_c) := by rw [ha0]; kernel_rfl
   have tb16 : a0.tmps[16]? = some (.int .i64 0) := by rw [ha0]; kernel_rfl
   have tb19 : a0.tmps[19]? = some (.int .i64 8) := by rw [ha0]; kernel_rfl
   have hsz : a0.tmps.size = 160 := by rw [ha0]; kernel_rfl
   refine wp_region_list (fun W => Below V10.heap.size V10 W) (fun w w' => Below w.heap.size w w')
    [isV (.int .i64 0), isV (.bool true), isV (.bool true), isV (.int .i64 0), isV (.bool true), isV (.bool true), isV (.bool true), isV (.int .i64 0), isV (.bool true), isV (.bool true), isV (.bool true), isV (.int .i64 0), isV (.bool true), isV (.bool true), isV (.bool true), isV (.int .i64 0), isV (.bool true), isV (.bool true), isV (.bool true), isV (.int .i64 0), isV (.bool true), isV (.bool true), isV (.bool true), isV (.int .i64 0), isV (.bool true), isV (.bool true), isV (.bool true), isV (.int .i64 8), isV (.bool true), isV (.bool true), isV (.bool true), isV (.agg #[.int .i64 994, .int .i64 1001]), isV (.agg #[.int .i64 994, .int .i64 1001]), isV (.bool true), isV (.bool true), isV (.bool true), isV (.agg #[.int .i64 994, .int .i64 999]), isV (.agg #[.int .i64 994, .int .i64 999]), isV (.bool true), isV (.bool true), isV (.bool true), isV (.slice r6_A r6_n r6_c), IsIntsV V10.heap.size [12], isV (.bool true), isV (.bool true), isV (.bool true), isV (.slice r8_A r8_n r8_c), isV (.agg #[.int .i64 0, .int .i64 1]), isV (.agg #[.int .i64 0, .int .i64 2]), isV (.agg #[.int .i64 1, .int .i64 0]), isV (.agg #[.int .i64 1, .int .i64 1]), IsPlsV V10.heap.size [(0, 1), (0, 2), (1, 0), (1, 1)], isV (.bool true), isV (.bool true), isV (.bool true), isV (.slice r10_A r10_n r10_c), isV (.agg #[.int .i64 0, .int .i64 1]), isV (.agg #[.int .i64 0, .int .i64 2]), isV (.agg #[.int .i64 1, .int .i64 0]), IsPlsV V10.heap.size [(0, 1), (0, 2), (1, 0)], isV (.bool true), isV (.bool true), isV (.bool true), isV (.slice r11_A r11_n r11_c), IsIntsV V10.heap.size [0, 1], isV (.bool true), isV (.bool true), isV (.bool true), isV (.slice r13_A r13_n r13_c), IsIntsV V10.heap.size [0, 1, 2], isV (.bool true), isV (.bool true), isV (.bool true), isV (.slice r15_A r15_n r15_c), IsIntsV V10.heap.size [0, 1], isV (.bool true), isV (.bool true), isV (.bool true)]
    (by kernel_rfl) (by kernel_rfl) (by kernel_rfl) (by simp) (by simp) (Below.refl _ _).drew ?stabT ?stepT ?finT
   case stabT => exact (StabL.is (StabL.is (StabL.is (StabL.is (StabL.is (StabL.is (StabL.is (StabL.is (StabL.is (StabL.is (StabL.is (StabL.is (StabL.is (StabL.is (StabL.is (StabL.is (StabL.is (StabL.is (StabL.is (StabL.is (StabL.is (StabL.is (StabL.is (StabL.is (StabL.is (StabL.is (StabL.is (StabL.is (StabL.is (StabL.is (StabL.is (StabL.is (StabL.is (StabL.is (StabL.is (StabL.is (StabL.is (StabL.is (StabL.is (StabL.is (StabL.is (StabL.is (StabL.cons (fun v W V hC hX h => h.bl hX) (StabL.is (StabL.is (StabL.is (StabL.is (StabL.is (StabL.is (StabL.is (StabL.is (StabL.cons (fun v W V hC hX h => h.bl hX) (StabL.is (StabL.is (StabL.is (StabL.is (StabL.is (StabL.is (StabL.is (StabL.cons (fun v W V hC hX h => h.bl hX) (StabL.is (StabL.is (StabL.is (StabL.is (StabL.cons (fun v W V hC hX h => h.bl hX) (StabL.is (StabL.is (StabL.is (StabL.is (StabL.cons (fun v W V hC hX h => h.bl hX) (StabL.is (StabL.is (StabL.is (StabL.is (StabL.cons (fun v W V hC hX h => h.bl hX) (StabL.is (StabL.is (StabL.is StabL.nil))))))))))))))))))))))))))))))))))))))))))))))))))))))))))))))))))))))))))))))
   case stepT =>
    refine StepsL.isA ?_ (StepsL.isA ?_ (StepsL.isA ?_ (StepsL.isA ?_ (StepsL.isA ?_ (StepsL.isA ?_ (StepsL.isA ?_ (StepsL.isA ?_ (StepsL.isA ?_ (StepsL.isA ?_ (StepsL.isA ?_ (StepsL.isA ?_ (StepsL.isA ?_ (StepsL.isA ?_ (StepsL.isA ?_ (StepsL.isA ?_ (StepsL.isA ?_ (StepsL.isA ?_ (StepsL.isA ?_ (StepsL.isA ?_ (StepsL.isA ?_ (StepsL.isA ?_ (StepsL.isA ?_ (StepsL.isA ?_ (StepsL.isA ?_ (StepsL.isA ?_ (StepsL.isA ?_ (StepsL.isA ?_ (StepsL.isA ?_ (StepsL.isA ?_ (StepsL.isA ?_ (StepsL.isA ?_ (StepsL.isA ?_ (StepsL.isA ?_ (StepsL.isA ?_ (StepsL.isA ?_ (StepsL.isA ?_ (StepsL.isA ?_ (StepsL.isA ?_ (StepsL.isA ?_ (StepsL.isA ?_ (StepsL.isA ?_ (StepsL.consA ?_ (StepsL.isA ?_ (StepsL.isA ?_ (StepsL.isA ?_ (StepsL.isA ?_ (StepsL.isA ?_ (StepsL.isA ?_ (StepsL.isA ?_ (StepsL.isA ?_ (StepsL.consA ?_ (StepsL.isA ?_ (StepsL.isA ?_ (StepsL.isA ?_ (StepsL.isA ?_ (StepsL.isA ?_ (StepsL.isA ?_ (StepsL.isA ?_ (StepsL.consA ?_ (StepsL.isA ?_ (StepsL.isA ?_ (StepsL.isA ?_ (StepsL.isA ?_ (StepsL.consA ?_ (StepsL.isA ?_ (StepsL.isA ?_ (StepsL.isA ?_ (StepsL.isA ?_ (StepsL.consA ?_ (StepsL.isA ?_ (StepsL.isA ?_ (StepsL.isA ?_ (StepsL.isA ?_ (StepsL.consA ?_ (StepsL.isA ?_ (StepsL.isA ?_ (StepsL.isA ?_ StepsL.nil)))))))))))))))))))))))))))))))))))))))))))))))))))))))))))))))))))))))))))))
    all_goals intro vs a W K ha hC hD hU hK
    all_goals try rw [if_pos (by rfl)]
    ·have r3 := fb ha (by kernel_rfl) tb3
     clear ha hU hD ha0
     go_simp
     exact hK _ hC (Below.refl _ _)
    ·have r83 := fq 83 0 ha hsz (by kernel_rfl) (by decide) (hD 0 (by simp [waits, Region.binds]))
     clear ha hU hD ha0
     go_simp
     exact hK _ hC (Below.refl _ _)
    ·have r84 := fq 84 1 ha hsz (by kernel_rfl) (by decide) (hD 1 (by simp [waits, Region.binds]))
     clear ha hU hD ha0
     go_simp
     exact hK _ hC (Below.refl _ _)
    ·have r85 := fg 85 2 ha hsz (by kernel_rfl) (by decide)
     have q2 : vs 2 = .bool true := hD 2 (by simp [waits, Region.binds])
     rw [q2] at r85
     have r5 := fb ha (by kernel_rfl) tb5
     clear ha hU hD ha0
     rw [if_pos (by simp [Region.wanted, yielded, r85])]
     go_simp
     exact hK _ hC (Below.refl _ _)
    ·have r85 := fg 85 2 ha hsz (by kernel_rfl) (by decide)
     have q2 : vs 2 = .bool true := hD 2 (by simp [waits, Region.binds])
     rw [q2] at r85
     have r86 := fq 86 3 ha hsz (by kernel_rfl) (by decide) (hD 3 (by simp [waits, Region.binds]))
     clear ha hU hD ha0
     rw [if_pos (by simp [Region.wanted, yielded, r85])]
     go_simp
     exact hK _ hC (Below.refl _ _)
    ·have r85 := fq 85 2 ha hsz (by kernel_rfl) (by decide) (hD 2 (by simp [waits, Region.binds]))
     have r87 := fq 87 4 ha hsz (by kernel_rfl) (by decide) (hD 4 (by simp [waits, Region.binds]))
     clear ha hU hD ha0
     go_simp
     exact hK _ hC (Below.refl _ _)
    ·have r88 := fq 88 5 ha hsz (by kernel_rfl) (by decide) (hD 5 (by simp [waits, Region.binds]))
     clear ha hU hD ha0
     go_simp
     exact hK _ hC (Below.refl _ _)
    ·have r89 := fg 89 6 ha hsz (by kernel_rfl) (by decide)
     have q6 : vs 6 = .bool true := hD 6 (by simp [waits, Region.binds])
     rw [q6] at r89
     have r7 := fb ha (by kernel_rfl) tb7
     clear ha hU hD ha0
     rw [if_pos (by simp [Region.wanted, yielded, r89])]
     go_simp
     exact hK _ hC (Below.refl _ _)
    ·have r89 := fg 89 6 ha hsz (by kernel_rfl) (by decide)
     have q6 : vs 6 = .bool true := hD 6 (by simp [waits, Region.binds])
     rw [q6] at r89
     have r90 := fq 90 7 ha hsz (by kernel_rfl) (by decide) (hD 7 (by simp [waits, Region.binds]))
     clear ha hU hD ha0
     rw [if_pos (by simp [Region.wanted, yielded, r89])]
     go_simp
     exact hK _ hC (Below.refl _ _)
    ·have r89 := fq 89 6 ha hsz (by kernel_rfl) (by decide) (hD 6 (by simp [waits, Region.binds]))
     have r91 := fq 91 8 ha hsz (by kernel_rfl) (by decide) (hD 8 (by simp [waits, Region.binds]))
     clear ha hU hD ha0
     go_simp
     exact hK _ hC (Below.refl _ _)
    ·have r92 := fq 92 9 ha hsz (by kernel_rfl) (by decide) (hD 9 (by simp [waits, Region.binds]))
     clear ha hU hD ha0
     go_simp
     exact hK _ hC (Below.refl _ _)
    ·have r93 := fg 93 10 ha hsz (by kernel_rfl) (by decide)
     have q10 : vs 10 = .bool true := hD 10 (by simp [waits, Region.binds])
     rw [q10] at r93
     have r9 := fb ha (by kernel_rfl) tb9
     clear ha hU hD ha0
     rw [if_pos (by simp [Region.wanted, yielded, r93])]
     go_simp
     exact hK _ hC (Below.refl _ _)
    ·have r93 := fg 93 10 ha hsz (by kernel_rfl) (by decide)
     have q10 : vs 10 = .bool true := hD 10 (by simp [waits, Region.binds])
     rw [q10] at r93
     have r94 := fq 94 11 ha hsz (by kernel_rfl) (by decide) (hD 11 (by simp [waits, Region.binds]))
     clear ha hU hD ha0
     rw [if_pos (by simp [Region.wanted, yielded, r93])]
     go_simp
     exact hK _ hC (Below.refl _ _)
    ·have r93 := fq 93 10 ha hsz (by kernel_rfl) (by decide) (hD 10 (by simp [waits, Region.binds]))
     have r95 := fq 95 12 ha hsz (by kernel_rfl) (by decide) (hD 12 (by simp [waits, Region.binds]))
     clear ha hU hD ha0
     go_simp
     exact hK _ hC (Below.refl _ _)
    ·have r96 := fq 96 13 ha hsz (by kernel_rfl) (by decide) (hD 13 (by simp [waits, Region.binds]))
     clear ha hU hD ha0
     go_simp
     exact hK _ hC (Below.refl _ _)
    ·have r97 := fg 97 14 ha hsz (by kernel_rfl) (by decide)
     have q14 : vs 14 = .bool true := hD 14 (by simp [waits, Region.binds])
     rw [q14] at r97
     have r12 := fb ha (by kernel_rfl) tb12
     clear ha hU hD ha0
     rw [if_pos (by simp [Region.wanted, yielded, r97])]
     go_simp
     exact hK _ hC (Below.refl _ _)
    ·have r97 := fg 97 14 ha hsz (by kernel_rfl) (by decide)
     have q14 : vs 14 = .bool true := hD 14 (by simp [waits, Region.binds])
     rw [q14] at r97
     have r98 := fq 98 15 ha hsz (by kernel_rfl) (by decide) (hD 15 (by simp [waits, Region.binds]))
     clear ha hU hD ha0
     rw [if_pos (by simp [Region.wanted, yielded, r97])]
     go_simp
     exact hK _ hC (Below.refl _ _)
    ·have r97 := fq 97 14 ha hsz (by kernel_rfl) (by decide) (hD 14 (by simp [waits, Region.binds]))
     have r99 := fq 99 16 ha hsz (by kernel_rfl) (by decide) (hD 16 (by simp [waits, Region.binds]))
     clear ha hU hD ha0
     go_simp
     exact hK _ hC (Below.refl _ _)
    ·have r100 := fq 100 17 ha hsz (by kernel_rfl) (by decide) (hD 17 (by simp [waits, Region.binds]))
     clear ha hU hD ha0
     go_simp
     exact hK _ hC (Below.refl _ _)
    ·have r101 := fg 101 18 ha hsz (by kernel_rfl) (by decide)
     have q18 : vs 18 = .bool true := hD 18 (by simp [waits, Region.binds])
     rw [q18] at r101
     have r14 := fb ha (by kernel_rfl) tb14
     clear ha hU hD ha0
     rw [if_pos (by simp [Region.wanted, yielded, r101])]
     go_simp
     exact hK _ hC (Below.refl _ _)
    ·have r101 := fg 101 18 ha hsz (by kernel_rfl) (by decide)
     have q18 : vs 18 = .bool true := hD 18 (by simp [waits, Region.binds])
     rw [q18] at r101
     have r102 := fq 102 19 ha hsz (by kernel_rfl) (by decide) (hD 19 (by simp [waits, Region.binds]))
     clear ha hU hD ha0
     rw [if_pos (by simp [Region.wanted, yielded, r101])]
     go_simp
     exact hK _ hC (Below.refl _ _)
    ·have r101 := fq 101 18 ha hsz (by kernel_rfl) (by decide) (hD 18 (by simp [waits, Region.binds]))
     have r103 := fq 103 20 ha hsz (by kernel_rfl) (by decide) (hD 20 (by simp [waits, Region.binds]))
     clear ha hU hD ha0
     go_simp
     exact hK _ hC (Below.refl _ _)
    ·have r104 := fq 104 21 ha hsz (by kernel_rfl) (by decide) (hD 21 (by simp [waits, Region.binds]))
     clear ha hU hD ha0
     go_simp
     exact hK _ hC (Below.refl _ _)
    ·have r105 := fg 105 22 ha hsz (by kernel_rfl) (by decide)
     have q22 : vs 22 = .bool true := hD 22 (by simp [waits, Region.binds])
     rw [q22] at r105
     have r16 := fb ha (by kernel_rfl) tb16
     clear ha hU hD ha0
     rw [if_pos (by simp [Region.wanted, yielded, r105])]
     go_simp
     exact hK _ hC (Below.refl _ _)
    ·have r105 := fg 105 22 ha hsz (by kernel_rfl) (by decide)
     have q22 : vs 22 = .bool true := hD 22 (by simp [waits, Region.binds])
     rw [q22] at r105
     have r106 := fq 106 23 ha hsz (by kernel_rfl) (by decide) (hD 23 (by simp [waits, Region.binds]))
     clear ha hU hD ha0
     rw [if_pos (by simp [Region.wanted, yielded, r105])]
     go_simp
     exact hK _ hC (Below.refl _ _)
    ·have r105 := fq 105 22 ha hsz (by kernel_rfl) (by decide) (hD 22 (by simp [waits, Region.binds]))
     have r107 := fq 107 24 ha hsz (by kernel_rfl) (by decide) (hD 24 (by simp [waits, Region.binds]))
     clear ha hU hD ha0
     go_simp
     exact hK _ hC (Below.refl _ _)
    ·have r108 := fq 108 25 ha hsz (by kernel_rfl) (by decide) (hD 25 (by simp [waits, Region.binds]))
     clear ha hU hD ha0
     go_simp
     exact hK _ hC (Below.refl _ _)
    ·have r109 := fg 109 26 ha hsz (by kernel_rfl) (by decide)
     have q26 : vs 26 = .bool true := hD 26 (by simp [waits, Region.binds])
     rw [q26] at r109
     have r19 := fb ha (by kernel_rfl) tb19
     clear ha hU hD ha0
     rw [if_pos (by simp [Region.wanted, yielded, r109])]
     go_simp
     exact hK _ hC (Below.refl _ _)
    ·have r109 := fg 109 26 ha hsz (by kernel_rfl) (by decide)
     have q26 : vs 26 = .bool true := hD 26 (by simp [waits, Region.binds])
     rw [q26] at r109
     have r110 := fq 110 27 ha hsz (by kernel_rfl) (by decide) (hD 27 (by simp [waits, Region.binds]))
     clear ha hU hD ha0
     rw [if_pos (by simp [Region.wanted, yielded, r109])]
     go_simp
     exact hK _ hC (Below.refl _ _)
    ·have r109 := fq 109 26 ha hsz (by kernel_rfl) (by decide) (hD 26 (by simp [waits, Region.binds]))
     have r111 := fq 111 28 ha hsz (by kernel_rfl) (by decide) (hD 28 (by simp [waits, Region.binds]))
     clear ha hU hD ha0
     go_simp
     exact hK _ hC (Below.refl _ _)
    ·have r112 := fq 112 29 ha hsz (by kernel_rfl) (by decide) (hD 29 (by simp [waits, Region.binds]))
     clear ha hU hD ha0
     go_simp
     exact hK _ hC (Below.refl _ _)
    ·have r113 := fg 113 30 ha hsz (by kernel_rfl) (by decide)
     have q30 : vs 30 = .bool true := hD 30 (by simp [waits, Region.binds])
     rw [q30] at r113
     have r2 := fb ha (by kernel_rfl) tb2
     clear ha hU hD ha0
     rw [if_pos (by simp [Region.wanted, yielded, r113])]
     obtain ⟨k0, k1, k2, k3, k4, k5, k6⟩ := kk.out W (bl_call HC10.out hC (Nat.le_refl _))
     go_simp
     exact hK _ hC (Below.refl _ _)
    ·have r113 := fg 113 30 ha hsz (by kernel_rfl) (by decide)
     have q30 : vs 30 = .bool true := hD 30 (by simp [waits, Region.binds])
     rw [q30] at r113
     clear ha hU hD ha0
     rw [if_pos (by simp [Region.wanted, yielded, r113])]
     go_simp
     refine (span7_any 994 1001 W).mono ?_
     rintro e w' ⟨rfl, hb⟩
     exact hK _ (bl_call hC hb (Nat.le_refl _)) hb
    ·have r113 := fg 113 30 ha hsz (by kernel_rfl) (by decide)
     have q30 : vs 30 = .bool true := hD 30 (by simp [waits, Region.binds])
     rw [q30] at r113
     have r114 := fq 114 31 ha hsz (by kernel_rfl) (by decide) (hD 31 (by simp [waits, Region.binds]))
     have r115 := fq 115 32 ha hsz (by kernel_rfl) (by decide) (hD 32 (by simp [waits, Region.binds]))
     clear ha hU hD ha0
     rw [if_pos (by simp [Region.wanted, yielded, r113])]
     go_simp
     exact hK _ hC (Below.refl _ _)
    ·have r113 := fq 113 30 ha hsz (by kernel_rfl) (by decide) (hD 30 (by simp [waits, Region.binds]))
     have r116 := fq 116 33 ha hsz (by kernel_rfl) (by decide) (hD 33 (by simp [waits, Region.binds]))
     clear ha hU hD ha0
     go_simp
     exact hK _ hC (Below.refl _ _)
    ·have r117 := fq 117 34 ha hsz (by kernel_rfl) (by decide) (hD 34 (by simp [waits, Region.binds]))
     clear ha hU hD ha0
     go_simp
     exact hK _ hC (Below.refl _ _)
    ·have r118 := fg 118 35 ha hsz (by kernel_rfl) (by decide)
     have q35 : vs 35 = .bool true := hD 35 (by simp [waits, Region.binds])
     rw [q35] at r118
     have r4 := fb ha (by kernel_rfl) tb4
     clear ha hU hD ha0
     rw [if_pos (by simp [Region.wanted, yielded, r118])]
     obtain ⟨k0, k1, k2, k3, k4, k5, k6⟩ := kk.out W (bl_call HC10.out hC (Nat.le_refl _))
     go_simp
     exact hK _ hC (Below.refl _ _)
    ·have r118 := fg 118 35 ha hsz (by kernel_rfl) (by decide)
     have q35 : vs 35 = .bool true := hD 35 (by simp [waits, Region.binds])
     rw [q35] at r118
     clear ha hU hD ha0
     rw [if_pos (by simp [Region.wanted, yielded, r118])]
     go_simp
     refine (span7_any 994 999 W).mono ?_
     rintro e w' ⟨rfl, hb⟩
     exact hK _ (bl_call hC hb (Nat.le_refl _)) hb
    ·have r118 := fg 118 35 ha hsz (by kernel_rfl) (by decide)
     have q35 : vs 35 = .bool true := hD 35 (by simp [waits, Region.binds])
     rw [q35] at r118
     have r119 := fq 119 36 ha hsz (by kernel_rfl) (by decide) (hD 36 (by simp [waits, Region.binds]))
     have r120 := fq 120 37 ha hsz (by kernel_rfl) (by decide) (hD 37 (by simp [waits, Region.binds]))
     clear ha hU hD ha0
     rw [if_pos (by simp [Region.wanted, yielded, r118])]
     go_simp
     exact hK _ hC (Below.refl _ _)
    ·have r118 := fq 118 35 ha hsz (by kernel_rfl) (by decide) (hD 35 (by simp [waits, Region.binds]))
     have r121 := fq 121 38 ha hsz (by kernel_rfl) (by decide) (hD 38 (by simp [waits, Region.binds]))
     clear ha hU hD ha0
     go_simp
     exact hK _ hC (Below.refl _ _)
    ·have r122 := fq 122 39 ha hsz (by kernel_rfl) (by decide) (hD 39 (by simp [waits, Region.binds]))
     clear ha hU hD ha0
     go_simp
     exact hK _ hC (Below.refl _ _)
    ·have r123 := fg 123 40 ha hsz (by kernel_rfl) (by decide)
     have q40 : vs 40 = .bool true := hD 40 (by simp [waits, Region.binds])
     rw [q40] at r123
     have r6 := fb ha (by kernel_rfl) tb6
     clear ha hU hD ha0
     rw [if_pos (by simp [Region.wanted, yielded, r123])]
     go_simp
     exact hK _ hC (Below.refl _ _)
    ·have r123 := fg 123 40 ha hsz (by kernel_rfl) (by decide)
     have q40 : vs 40 = .bool true := hD 40 (by simp [waits, Region.binds])
     rw [q40] at r123
     clear ha hU hD ha0
     rw [if_pos (by simp [Region.wanted, yielded, r123])]
     go_simp
     exact hK _ _ (bl_alloc hC _ (Nat.le_refl _)) (bl_alloc (Below.refl _ _) _ (Nat.le_refl _)) (IsIntsV.new [12] _ (by decide) hC.size)
    ·have r123 := fg 123 40 ha hsz (by kernel_rfl) (by decide)
     have q40 : vs 40 = .bool true := hD 40 (by simp [waits, Region.binds])
     rw [q40] at r123
     have r124 := fq 124 41 ha hsz (by kernel_rfl) (by decide) (hD 41 (by simp [waits, Region.binds]))
     have r125 := fg 125 42 ha hsz (by kernel_rfl) (by decide)
     have P42 : IsIntsV V10.heap.size [12] (vs 42) W := hD 42 (by simp [waits, Region.binds])
     obtain ⟨B125, d125, e125, hI125⟩ := P42
     rw [e125] at r125
     clear ha hU hD ha0
     rw [if_pos (by simp [Region.wanted, yielded, r123])]
     go_simp
     refine (ints_any W (H_r6.out W hC) hI125).mono ?_
     rintro e w' ⟨rfl, q, rfl⟩
     rw [decide_eq_true rfl]
     exact hK _ (bl_drewN hC q) (bl_drewN (Below.refl _ _) q)
    ·have r123 := fq 123 40 ha hsz (by kernel_rfl) (by decide) (hD 40 (by simp [waits, Region.binds]))
     have r126 := fq 126 43 ha hsz (by kernel_rfl) (by decide) (hD 43 (by simp [waits, Region.binds]))
     clear ha hU hD ha0
     go_simp
     exact hK _ hC (Below.refl _ _)
    ·have r127 := fq 127 44 ha hsz (by kernel_rfl) (by decide) (hD 44 (by simp [waits, Region.binds]))
     clear ha hU hD ha0
     go_simp
     exact hK _ hC (Below.refl _ _)
    ·have r128 := fg 128 45 ha hsz (by kernel_rfl) (by decide)
     have q45 : vs 45 = .bool true := hD 45 (by simp [waits, Region.binds])
     rw [q45] at r128
     have r8 := fb ha (by kernel_rfl) tb8
     clear ha hU hD ha0
     rw [if_pos (by simp [Region.wanted, yielded, r128])]
     go_simp
     exact hK _ hC (Below.refl _ _)
    ·have r128 := fg 128 45 ha hsz (by kernel_rfl) (by decide)
     have q45 : vs 45 = .bool true := hD 45 (by simp [waits, Region.binds])
     rw [q45] at r128
     clear ha hU hD ha0
     rw [if_pos (by simp [Region.wanted, yielded, r128])]
     go_simp
     refine (at7_any 0 1 W).mono ?_
     rintro e w' ⟨rfl, hb⟩
     exact hK _ (bl_call hC hb (Nat.le_refl _)) hb
    ·have r128 := fg 128 45 ha hsz (by kernel_rfl) (by decide)
     have q45 : vs 45 = .bool true := hD 45 (by simp [waits, Region.binds])
     rw [q45] at r128
     clear ha hU hD ha0
     rw [if_pos (by simp [Region.wanted, yielded, r128])]
     go_simp
     refine (at7_any 0 2 W).mono ?_
     rintro e w' ⟨rfl, hb⟩
     exact hK _ (bl_call hC hb (Nat.le_refl _)) hb
    ·have r128 := fg 128 45 ha hsz (by kernel_rfl) (by decide)
     have q45 : vs 45 = .bool true := hD 45 (by simp [waits, Region.binds])
     rw [q45] at r128
     clear ha hU hD ha0
     rw [if_pos (by simp [Region.wanted, yielded, r128])]
     go_simp
     refine (at7_any 1 0 W).mono ?_
     rintro e w' ⟨rfl, hb⟩
     exact hK _ (bl_call hC hb (Nat.le_refl _)) hb
    ·have r128 := fg 128 45 ha hsz (by kernel_rfl) (by decide)
     have q45 : vs 45 = .bool true := hD 45 (by simp [waits, Region.binds])
     rw [q45] at r128
     clear ha hU hD ha0
     rw [if_pos (by simp [Region.wanted, yielded, r128])]
     go_simp
     refine (at7_any 1 1 W).mono ?_
     rintro e w' ⟨rfl, hb⟩
     exact hK _ (bl_call hC hb (Nat.le_refl _)) hb
    ·have r128 := fg 128 45 ha hsz (by kernel_rfl) (by decide)
     have q45 : vs 45 = .bool true := hD 45 (by simp [waits, Region.binds])
     rw [q45] at r128
     have r130 := fq 130 47 ha hsz (by kernel_rfl) (by decide) (hD 47 (by simp [waits, Region.binds]))
     have r131 := fq 131 48 ha hsz (by kernel_rfl) (by decide) (hD 48 (by simp [waits, Region.binds]))
     have r132 := fq 132 49 ha hsz (by kernel_rfl) (by decide) (hD 49 (by simp [waits, Region.binds]))
     have r133 := fq 133 50 ha hsz (by kernel_rfl) (by decide) (hD 50 (by simp [waits, Region.binds]))
     clear ha hU hD ha0
     rw [if_pos (by simp [Region.wanted, yielded, r128])]
     go_simp
     exact hK _ _ (bl_alloc hC _ (Nat.le_refl _)) (bl_alloc (Below.refl _ _) _ (Nat.le_refl _)) (IsPlsV.new [(0, 1), (0, 2), (1, 0), (1, 1)] _ (by rfl) (by decide) hC.size)
    ·have r128 := fg 128 45 ha hsz (by kernel_rfl) (by decide)
     have q45 : vs 45 = .bool true := hD 45 (by simp [waits, Region.binds])
     rw [q45] at r128
     have r129 := fq 129 46 ha hsz (by kernel_rfl) (by decide) (hD 46 (by simp [waits, Region.binds]))
     have r134 := fg 134 51 ha hsz (by kernel_rfl) (by decide)
     have P51 : IsPlsV V10.heap.size [(0, 1), (0, 2), (1, 0), (1, 1)] (vs 51) W := hD 51 (by simp [waits, Region.binds])
     obtain ⟨B134, d134, e134, hI134⟩ := P51
     rw [e134] at r134
     clear ha hU hD ha0
     rw [if_pos (by simp [Region.wanted, yielded, r128])]
     go_simp
     refine (same7_any W (H_r8.out W hC) hI134).mono ?_
     rintro e w' ⟨rfl, q, rfl⟩
     rw [decide_eq_true rfl]
     exact hK _ (bl_drewN hC q) (bl_drewN (Below.refl _ _) q)
    ·have r128 := fq 128 45 ha hsz (by kernel_rfl) (by decide) (hD 45 (by simp [waits, Region.binds]))
     have r135 := fq 135 52 ha hsz (by kernel_rfl) (by decide) (hD 52 (by simp [waits, Region.binds]))
     clear ha hU hD ha0
     go_simp
     exact hK _ hC (Below.refl _ _)
    ·have r136 := fq 136 53 ha hsz (by kernel_rfl) (by decide) (hD 53 (by simp [waits, Region.binds]))
     clear ha hU hD ha0
     go_simp
     exact hK _ hC (Below.refl _ _)
    ·have r137 := fg 137 54 ha hsz (by kernel_rfl) (by decide)
     have q54 : vs 54 = .bool true := hD 54 (by simp [waits, Region.binds])
     rw [q54] at r137
     have r10 := fb ha (by kernel_rfl) tb10
     clear ha hU hD ha0
     rw [if_pos (by simp [Region.wanted, yielded, r137])]
     go_simp
     exact hK _ hC (Below.refl _ _)
    ·have r137 := fg 137 54 ha hsz (by kernel_rfl) (by decide)
     have q54 : vs 54 = .bool true := hD 54 (by simp [waits, Region.binds])
     rw [q54] at r137
     clear ha hU hD ha0
     rw [if_pos (by simp [Region.wanted, yielded, r137])]
     go_simp
     refine (at7_any 0 1 W).mono ?_
     rintro e w' ⟨rfl, hb⟩
     exact hK _ (bl_call hC hb (Nat.le_refl _)) hb
    ·have r137 := fg 137 54 ha hsz (by kernel_rfl) (by decide)
     have q54 : vs 54 = .bool true := hD 54 (by simp [waits, Region.binds])
     rw [q54] at r137
     clear ha hU hD ha0
     rw [if_pos (by simp [Region.wanted, yielded, r137])]
     go_simp
     refine (at7_any 0 2 W).mono ?_
     rintro e w' ⟨rfl, hb⟩
     exact hK _ (bl_call hC hb (Nat.le_refl _)) hb
    ·have r137 := fg 137 54 ha hsz (by kernel_rfl) (by decide)
     have q54 : vs 54 = .bool true := hD 54 (by simp [waits, Region.binds])
     rw [q54] at r137
     clear ha hU hD ha0
     rw [if_pos (by simp [Region.wanted, yielded, r137])]
     go_simp
     refine (at7_any 1 0 W).mono ?_
     rintro e w' ⟨rfl, hb⟩
     exact hK _ (bl_call hC hb (Nat.le_refl _)) hb
    ·have r137 := fg 137 54 ha hsz (by kernel_rfl) (by decide)
     have q54 : vs 54 = .bool true := hD 54 (by simp [waits, Region.binds])
     rw [q54] at r137
     have r139 := fq 139 56 ha hsz (by kernel_rfl) (by decide) (hD 56 (by simp [waits, Region.binds]))
     have r140 := fq 140 57 ha hsz (by kernel_rfl) (by decide) (hD 57 (by simp [waits, Region.binds]))
     have r141 := fq 141 58 ha hsz (by kernel_rfl) (by decide) (hD 58 (by simp [waits, Region.binds]))
     clear ha hU hD ha0
     rw [if_pos (by simp [Region.wanted, yielded, r137])]
     go_simp
     exact hK _ _ (bl_alloc hC _ (Nat.le_refl _)) (bl_alloc (Below.refl _ _) _ (Nat.le_refl _)) (IsPlsV.new [(0, 1), (0, 2), (1, 0)] _ (by rfl) (by decide) hC.size)
    ·have r137 := fg 137 54 ha hsz (by kernel_rfl) (by decide)
     have q54 : vs 54 = .bool true := hD 54 (by simp [waits, Region.binds])
     rw [q54] at r137
     have r138 := fq 138 55 ha hsz (by kernel_rfl) (by decide) (hD 55 (by simp [waits, Region.binds]))
     have r142 := fg 142 59 ha hsz (by kernel_rfl) (by decide)
     have P59 : IsPlsV V10.heap.size [(0, 1), (0, 2), (1, 0)] (vs 59) W := hD 59 (by simp [waits, Region.binds])
     obtain ⟨B142, d142, e142, hI142⟩ := P59
     rw [e142] at r142
     clear ha hU hD ha0
     rw [if_pos (by simp [Region.wanted, yielded, r137])]
     go_simp
     refine (same7_any W (H_r10.out W hC) hI142).mono ?_
     rintro e w' ⟨rfl, q, rfl⟩
     rw [decide_eq_true rfl]
     exact hK _ (bl_drewN hC q) (bl_drewN (Below.refl _ _) q)
    ·have r137 := fq 137 54 ha hsz (by kernel_rfl) (by decide) (hD 54 (by simp [waits, Region.binds]))
     have r143 := fq 143 60 ha hsz (by kernel_rfl) (by decide) (hD 60 (by simp [waits, Region.binds]))
     clear ha hU hD ha0
     go_simp
     exact hK _ hC (Below.refl _ _)
    ·have r144 := fq 144 61 ha hsz (by kernel_rfl) (by decide) (hD 61 (by simp [waits, Region.binds]))
     clear ha hU hD ha0
     go_simp
     exact hK _ hC (Below.refl _ _)
    ·have r145 := fg 145 62 ha hsz (by kernel_rfl) (by decide)
     have q62 : vs 62 = .bool true := hD 62 (by simp [waits, Region.binds])
     rw [q62] at r145
     have r11 := fb ha (by kernel_rfl) tb11
     clear ha hU hD ha0
     rw [if_pos (by simp [Region.wanted, yielded, r145])]
     go_simp
     exact hK _ hC (Below.refl _ _)
    ·have r145 := fg 145 62 ha hsz (by kernel_rfl) (by decide)
     have q62 : vs 62 = .bool true := hD 62 (by simp [waits, Region.binds])
     rw [q62] at r145
     clear ha hU hD ha0
     rw [if_pos (by simp [Region.wanted, yielded, r145])]
     go_simp
     exact hK _ _ (bl_alloc hC _ (Nat.le_refl _)) (bl_alloc (Below.refl _ _) _ (Nat.le_refl _)) (IsIntsV.new [0, 1] _ (by decide) hC.size)
    ·have r145 := fg 145 62 ha hsz (by kernel_rfl) (by decide)
     have q62 : vs 62 = .bool true := hD 62 (by simp [waits, Region.binds])
     rw [q62] at r145
     have r146 := fq 146 63 ha hsz (by kernel_rfl) (by decide) (hD 63 (by simp [waits, Region.binds]))
     have r147 := fg 147 64 ha hsz (by kernel_rfl) (by decide)
     have P64 : IsIntsV V10.heap.size [0, 1] (vs 64) W := hD 64 (by simp [waits, Region.binds])
     obtain ⟨B147, d147, e147, hI147⟩ := P64
     rw [e147] at r147
     clear ha hU hD ha0
     rw [if_pos (by simp [Region.wanted, yielded, r145])]
     go_simp
     refine (ints_any W (H_r11.out W hC) hI147).mono ?_
     rintro e w' ⟨rfl, q, rfl⟩
     rw [decide_eq_true rfl]
     exact hK _ (bl_drewN hC q) (bl_drewN (Below.refl _ _) q)
    ·have r145 := fq 145 62 ha hsz (by kernel_rfl) (by decide) (hD 62 (by simp [waits, Region.binds]))
     have r148 := fq 148 65 ha hsz (by kernel_rfl) (by decide) (hD 65 (by simp [waits, Region.binds]))
     clear ha hU hD ha0
     go_simp
     exact hK _ hC (Below.refl _ _)
    ·have r149 := fq 149 66 ha hsz (by kernel_rfl) (by decide) (hD 66 (by simp [waits, Region.binds]))
     clear ha hU hD ha0
     go_simp
     exact hK _ hC (Below.refl _ _)
    ·have r150 := fg 150 67 ha hsz (by kernel_rfl) (by decide)
     have q67 : vs 67 = .bool true := hD 67 (by simp [waits, Region.binds])
     rw [q67] at r150
     have r13 := fb ha (by kernel_rfl) tb13
     clear ha hU hD ha0
     rw [if_pos (by simp [Region.wanted, yielded, r150])]
     go_simp
     exact hK _ hC (Below.refl _ _)
    ·have r150 := fg 150 67 ha hsz (by kernel_rfl) (by decide)
     have q67 : vs 67 = .bool true := hD 67 (by simp [waits, Region.binds])
     rw [q67] at r150
     clear ha hU hD ha0
     rw [if_pos (by simp [Region.wanted, yielded, r150])]
     go_simp
     exact hK _ _ (bl_alloc hC _ (Nat.le_refl _)) (bl_alloc (Below.refl _ _) _ (Nat.le_refl _)) (IsIntsV.new [0, 1, 2] _ (by decide) hC.size)
    ·have r150 := fg 150 67 ha hsz (by kernel_rfl) (by decide)
     have q67 : vs 67 = .bool true := hD 67 (by simp [waits, Region.binds])
     rw [q67] at r150
     have r151 := fq 151 68 ha hsz (by kernel_rfl) (by decide) (hD 68 (by simp [waits, Region.binds]))
     have r152 := fg 152 69 ha hsz (by kernel_rfl) (by decide)
     have P69 : IsIntsV V10.heap.size [0, 1, 2] (vs 69) W := hD 69 (by simp [waits, Region.binds])
     obtain ⟨B152, d152, e152, hI152⟩ := P69
     rw [e152] at r152
     clear ha hU hD ha0
     rw [if_pos (by simp [Region.wanted, yielded, r150])]
     go_simp
     refine (ints_any W (H_r13.out W hC) hI152).mono ?_
     rintro e w' ⟨rfl, q, rfl⟩
     rw [decide_eq_true rfl]
     exact hK _ (bl_drewN hC q) (bl_drewN (Below.refl _ _) q)
    ·have r150 := fq 150 67 ha hsz (by kernel_rfl) (by decide) (hD 67 (by simp [waits, Region.binds]))
     have r153 := fq 153 70 ha hsz (by kernel_rfl) (by decide) (hD 70 (by simp [waits, Region.binds]))
     clear ha hU hD ha0
     go_simp
     exact hK _ hC (Below.refl _ _)
    ·have r154 := fq 154 71 ha hsz (by kernel_rfl) (by decide) (hD 71 (by simp [waits, Region.binds]))
     clear ha hU hD ha0
     go_simp
     exact hK _ hC (Below.refl _ _)
    ·have r155 := fg 155 72 ha hsz (by kernel_rfl) (by decide)
     have q72 : vs 72 = .bool true := hD 72 (by simp [waits, Region.binds])
     rw [q72] at r155
     have r15 := fb ha (by kernel_rfl) tb15
     clear ha hU hD ha0
     rw [if_pos (by simp [Region.wanted, yielded, r155])]
     go_simp
     exact hK _ hC (Below.refl _ _)
    ·have r155 := fg 155 72 ha hsz (by kernel_rfl) (by decide)
     have q72 : vs 72 = .bool true := hD 72 (by simp [waits, Region.binds])
     rw [q72] at r155
     clear ha hU hD ha0
     rw [if_pos (by simp [Region.wanted, yielded, r155])]
     go_simp
     exact hK _ _ (bl_alloc hC _ (Nat.le_refl _)) (bl_alloc (Below.refl _ _) _ (Nat.le_refl _)) (IsIntsV.new [0, 1] _ (by decide) hC.size)
    ·have r155 := fg 155 72 ha hsz (by kernel_rfl) (by decide)
     have q72 : vs 72 = .bool true := hD 72 (by simp [waits, Region.binds])
     rw [q72] at r155
     have r156 := fq 156 73 ha hsz (by kernel_rfl) (by decide) (hD 73 (by simp [waits, Region.binds]))
     have r157 := fg 157 74 ha hsz (by kernel_rfl) (by decide)
     have P74 : IsIntsV V10.heap.size [0, 1] (vs 74) W := hD 74 (by simp [waits, Region.binds])
     obtain ⟨B157, d157, e157, hI157⟩ := P74
     rw [e157] at r157
     clear ha hU hD ha0
     rw [if_pos (by simp [Region.wanted, yielded, r155])]
     go_simp
     refine (ints_any W (H_r15.out W hC) hI157).mono ?_
     rintro e w' ⟨rfl, q, rfl⟩
     rw [decide_eq_true rfl]
     exact hK _ (bl_drewN hC q) (bl_drewN (Below.refl _ _) q)
    ·have r155 := fq 155 72 ha hsz (by kernel_rfl) (by decide) (hD 72 (by simp [waits, Region.binds]))
     have r158 := fq 158 75 ha hsz (by kernel_rfl) (by decide) (hD 75 (by simp [waits, Region.binds]))
     clear ha hU hD ha0
     go_simp
     exact hK _ hC (Below.refl _ _)
    have r159 := fq 159 76 ha hsz (by kernel_rfl) (by decide) (hD 76 (by simp [waits, Region.binds]))
    clear ha hU hD ha0
    go_simp
    exact hK _ hC (Below.refl _ _)
   refine Fin1.none (Nat.le_refl _) ?_
   intro vs W a1 hC hE ha
   have e0 : vs 77 = .bool true := hE 77 (by simp)
   have r0 : a1.tmps[0]? = some (vs 77) := by rw [ha]; exact fillA_get0 (j := 77) (by kernel_rfl) (by rw [hsz]; decide)
   have hdf1 : a1.defers = [] := by rw [ha, fillA_defers, ha0]
   rw [e0] at r0
   have hBF := bl_call (bl_call HBV.out HC10.out (Nat.le_refl _)) hC (Nat.le_refl _)
   clear ha hE hC e0
   go_simp
   go_wp2
   refine bodyPost_ret (results_tmp rfl _ _ _) hdf1 ?_
   exact ⟨by simp [r0], hBF⟩
end Go.Proofs.YtdbfincinjoppabGreatDoor
