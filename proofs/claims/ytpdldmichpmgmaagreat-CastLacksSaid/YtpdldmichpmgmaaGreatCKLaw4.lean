/- Walks, layer 7: Awake. -/
import Derived.Test.YtpdldmichpmgmaaGreatCKLaws1
import Derived.Test.YtpdldmichpmgmaaGreatCTRegs
set_option linter.unusedVariables false
set_option linter.unusedSimpArgs false
set_option linter.all false
namespace Go.Proofs.YtpdldmichpmgmaaGreat
open Go.RowKit Go.Shelf

theorem ints_blk7 {S : Foot} {W : World} {g : Nat} {t : TypeId} {xs : List Int} (hB : Blk W g t (xs.map (Value.int .i64)).toArray) (hS : S g) (hn : xs.length ≤ maxLen) : Ints S W (some ⟨g, 0, none⟩) xs.length xs :=
  slice_blk7 hB hS rfl hn (fun k x hk => ⟨[.int .i64 x], rfl, fun j u hu => by
    have hj : j < 1 := of_getq hu
    obtain rfl : j = 0 := by omega
    simp at hu; subst hu
    simp [hk]⟩)
/-- a slice of numbers, from a block on -/
def IsIntsV (B : Nat) (xs : List Int) (v : Value) (W : World) : Prop := ∃ (A : Nat) (c : Nat), v = .slice (some ⟨A, 0, none⟩) xs.length c ∧ Ints (fun k => B ≤ k) W (some ⟨A, 0, none⟩) xs.length xs
theorem IsIntsV.bl {B : Nat} {xs : List Int} {v : Value} {W V : World} (h : IsIntsV B xs v W) (hb : Below W.heap.size W V) : IsIntsV B xs v V := by
  obtain ⟨A, c, h1, h2⟩ := h
  exact ⟨A, c, h1, h2.keep IntR.good (Keeps.below hb)⟩
theorem IsIntsV.new {B : Nat} {W : World} (xs : List Int) (t : TypeId) (hn : xs.length ≤ maxLen) (hB : B ≤ W.heap.size) {c : Nat} : IsIntsV B xs (.slice (some ⟨W.heap.size, 0, none⟩) xs.length c) (W.alloc (.cells (xs.map (Value.int .i64)).toArray t)) :=
  ⟨_, _, rfl, ints_blk7 (Blk.new _ _ _ rfl) hB hn⟩
theorem IsSeen7.bl {B : Nat} {v : Value} {W V : World} (h : IsSeen7 B v W) (hb : Below W.heap.size W V) : IsSeen7 B v V := by
  obtain ⟨A, c, h1, h2⟩ := h
  exact ⟨A, c, h1, h2.keep SeenCR.good (Keeps.below hb)⟩
def pairV (p : Int × Int) : Value := .agg #[.int .i64 p.1, .int .i64 p.2]
/-- a slice of spans, from a block on -/
def IsPairsV (B : Nat) (xs : List (Int × Int)) (v : Value) (W : World) : Prop := ∃ (A : Nat) (c : Nat), v = .slice (some ⟨A, 0, none⟩) xs.length c ∧ Pairs (fun k => B ≤ k) W (some ⟨A, 0, none⟩) xs.length xs
theorem IsPairsV.bl {B : Nat} {xs : List (Int × Int)} {v : Value} {W V : World} (h : IsPairsV B xs v W) (hb : Below W.heap.size W V) : IsPairsV B xs v V := by
  obtain ⟨A, c, h1, h2⟩ := h
  exact ⟨A, c, h1, h2.keep PairR.good (Keeps.below hb)⟩
def flat2 (xs : List (Int × Int)) : List Value := xs.flatMap fun p => [.int .i64 p.1, .int .i64 p.2]
theorem flat2_get : ∀ (xs : List (Int × Int)) (k : Nat) (p : Int × Int), xs[k]? = some p → (flat2 xs)[k * 2]? = some (.int .i64 p.1) ∧ (flat2 xs)[k * 2 + 1]? = some (.int .i64 p.2)
  | [], k, p, h => by simp at h
  | x :: xs, 0, p, h => by
    simp at h; subst h
    exact ⟨rfl, rfl⟩
  | x :: xs, k + 1, p, h => by
    obtain ⟨h1, h2⟩ := flat2_get xs k p (by simpa using h)
    have e1 : (k + 1) * 2 = k * 2 + 2 := by omega
    have e2 : k * 2 + 2 + 1 = k * 2 + 1 + 2 := by omega
    rw [e1, e2]
    exact ⟨h1, h2⟩
theorem pairs_blk7 {S : Foot} {W : World} {g : Nat} {t : TypeId} {xs : List (Int × Int)} {cs : Array Value} (hB : Blk W g t cs) (hcs : cs = (flat2 xs).toArray) (hS : S g) (hn : xs.length ≤ maxLen) : Pairs S W (some ⟨g, 0, none⟩) xs.length xs := by
  subst hcs
  refine slice_blk7 hB hS rfl hn (fun k x hk => ⟨[.int .i64 x.1, .int .i64 x.2], rfl, fun j u hu => ?_⟩)
  obtain ⟨h1, h2⟩ := flat2_get xs k x hk
  have hj : j < 2 := of_getq hu
  have hc : j = 0 ∨ j = 1 := by omega
  rcases hc with rfl | rfl
  · rw [← hu]; simpa using h1
  · rw [← hu]; simpa using h2
theorem IsPairsV.new {B : Nat} {W : World} (xs : List (Int × Int)) (t : TypeId) {cs : Array Value} (hcs : cs = (flat2 xs).toArray) (hn : xs.length ≤ maxLen) (hB : B ≤ W.heap.size) {c : Nat} : IsPairsV B xs (.slice (some ⟨W.heap.size, 0, none⟩) xs.length c) (W.alloc (.cells cs t)) :=
  ⟨_, _, rfl, pairs_blk7 (Blk.new _ _ _ rfl) hcs hB hn⟩
/-- a slice of casts, from a block on -/
def IsPlsV (B : Nat) (xs : List Pl) (v : Value) (W : World) : Prop := ∃ (A : Nat) (c : Nat), v = .slice (some ⟨A, 0, none⟩) xs.length c ∧ Pls (fun k => B ≤ k) W (some ⟨A, 0, none⟩) xs.length xs
theorem IsPlsV.bl {B : Nat} {xs : List Pl} {v : Value} {W V : World} (h : IsPlsV B xs v W) (hb : Below W.heap.size W V) : IsPlsV B xs v V := by
  obtain ⟨A, c, h1, h2⟩ := h
  exact ⟨A, c, h1, h2.keep PlR.good (Keeps.below hb)⟩
def flatP (xs : List Pl) : List Value := xs.flatMap fun p => [.int .i64 (p.1 : Int), .int .i64 (p.2 : Int)]
theorem flatP_get : ∀ (xs : List Pl) (k : Nat) (p : Pl), xs[k]? = some p → (flatP xs)[k * 2]? = some (.int .i64 (p.1 : Int)) ∧ (flatP xs)[k * 2 + 1]? = some (.int .i64 (p.2 : Int))
  | [], k, p, h => by simp at h
  | x :: xs, 0, p, h => by
    simp at h; subst h
    exact ⟨rfl, rfl⟩
  | x :: xs, k + 1, p, h => by
    obtain ⟨h1, h2⟩ := flatP_get xs k p (by simpa using h)
    have e1 : (k + 1) * 2 = k * 2 + 2 := by omega
    have e2 : k * 2 + 2 + 1 = k * 2 + 1 + 2 := by omega
    rw [e1, e2]
    exact ⟨h1, h2⟩
theorem pls_blk7 {S : Foot} {W : World} {g : Nat} {t : TypeId} {xs : List Pl} {cs : Array Value} (hB : Blk W g t cs) (hcs : cs = (flatP xs).toArray) (hS : S g) (hn : xs.length ≤ maxLen) : Pls S W (some ⟨g, 0, none⟩) xs.length xs := by
  subst hcs
  refine slice_blk7 hB hS rfl hn (fun k x hk => ⟨[.int .i64 (x.1 : Int), .int .i64 (x.2 : Int)], rfl, fun j u hu => ?_⟩)
  obtain ⟨h1, h2⟩ := flatP_get xs k x hk
  have hj : j < 2 := of_getq hu
  have hc : j = 0 ∨ j = 1 := by omega
  rcases hc with rfl | rfl
  · rw [← hu]; simpa using h1
  · rw [← hu]; simpa using h2
theorem IsPlsV.new {B : Nat} {W : World} (xs : List Pl) (t : TypeId) {cs : Array Value} (hcs : cs = (flatP xs).toArray) (hn : xs.length ≤ maxLen) (hB : B ≤ W.heap.size) {c : Nat} : IsPlsV B xs (.slice (some ⟨W.heap.size, 0, none⟩) xs.length c) (W.alloc (.cells cs t)) :=
  ⟨_, _, rfl, pls_blk7 (Blk.new _ _ _ rfl) hcs hB hn⟩
/-- what answers promise, as a property of the value -/
def IntsV (r : List Int × Int) (v : Value) (W : World) : Prop := ∃ A n c, v = .tuple #[.slice A n c, .int .i64 r.2] ∧ Ints (fun _ => True) W A n r.1
theorem IntsV.bl {r : List Int × Int} {v : Value} {W V : World} (h : IntsV r v W) (hb : Below W.heap.size W V) : IntsV r v V := by
  obtain ⟨A, n, c, h1, h2⟩ := h
  exact ⟨A, n, c, h1, h2.keep IntR.good (Keeps.below hb)⟩
theorem IntsV.of {B : Nat} {r : List Int × Int} {e : Ending} {W : World} (h : IntsT B r e W) : ∃ v, e = .returned v ∧ IntsV r v W := by
  obtain ⟨A, c, h1, h2⟩ := h
  exact ⟨_, h1, A, _, c, rfl, h2.mono IntR.good (fun _ _ => trivial)⟩
theorem IntsV.of7 {r : List Int × Int} {e : Ending} {W : World} (h : ∃ D m kc, e = .returned (.tuple #[.slice D m kc, .int .i64 r.2]) ∧ Ints (fun _ => True) W D m r.1) : ∃ v, e = .returned v ∧ IntsV r v W := by
  obtain ⟨A, n, c, h1, h2⟩ := h
  exact ⟨_, h1, A, _, c, rfl, h2⟩
def PlsV (r : List Pl × Int) (v : Value) (W : World) : Prop := ∃ A n c, v = .tuple #[.slice A n c, .int .i64 r.2] ∧ Pls (fun _ => True) W A n r.1
theorem PlsV.bl {r : List Pl × Int} {v : Value} {W V : World} (h : PlsV r v W) (hb : Below W.heap.size W V) : PlsV r v V := by
  obtain ⟨A, n, c, h1, h2⟩ := h
  exact ⟨A, n, c, h1, h2.keep PlR.good (Keeps.below hb)⟩
theorem PlsV.of {B : Nat} {r : List Pl × Int} {e : Ending} {W : World} (h : PlsT B r e W) : ∃ v, e = .returned v ∧ PlsV r v W := by
  obtain ⟨A, c, h1, h2⟩ := h
  exact ⟨_, h1, A, _, c, rfl, h2.mono PlR.good (fun _ _ => trivial)⟩
def PlanV (r : List Pl × List Int × Int) (v : Value) (W : World) : Prop := ∃ A n c A2 n2 c2, v = .tuple #[.slice A n c, .slice A2 n2 c2, .int .i64 r.2.2] ∧ Pls (fun _ => True) W A n r.1 ∧ Ints (fun _ => True) W A2 n2 r.2.1
theorem PlanV.bl {r : List Pl × List Int × Int} {v : Value} {W V : World} (h : PlanV r v W) (hb : Below W.heap.size W V) : PlanV r v V := by
  obtain ⟨A, n, c, A2, n2, c2, h1, h2, h3⟩ := h
  exact ⟨A, n, c, A2, n2, c2, h1, h2.keep PlR.good (Keeps.below hb), h3.keep IntR.good (Keeps.below hb)⟩
theorem PlanV.of {B : Nat} {r : List Pl × List Int × Int} {e : Ending} {W : World} (h : PlanT B r e W) : ∃ v, e = .returned v ∧ PlanV r v W := by
  obtain ⟨A, c, A2, c2, h1, h2, h3⟩ := h
  exact ⟨_, h1, A, _, c, A2, _, c2, rfl, h2.mono PlR.good (fun _ _ => trivial), h3.mono IntR.good (fun _ _ => trivial)⟩
def SlI (xs : List Int) (v : Value) (W : World) : Prop := ∃ A n c, v = .slice A n c ∧ Ints (fun _ => True) W A n xs
theorem SlI.bl {xs : List Int} {v : Value} {W V : World} (h : SlI xs v W) (hb : Below W.heap.size W V) : SlI xs v V := by
  obtain ⟨A, n, c, h1, h2⟩ := h
  exact ⟨A, n, c, h1, h2.keep IntR.good (Keeps.below hb)⟩
def SlP (xs : List Pl) (v : Value) (W : World) : Prop := ∃ A n c, v = .slice A n c ∧ Pls (fun _ => True) W A n xs
theorem SlP.bl {xs : List Pl} {v : Value} {W V : World} (h : SlP xs v W) (hb : Below W.heap.size W V) : SlP xs v V := by
  obtain ⟨A, n, c, h1, h2⟩ := h
  exact ⟨A, n, c, h1, h2.keep PlR.good (Keeps.below hb)⟩

/-- what the operations of the regions with Sizes promise -/
def sizE (B : Nat) (hv : Value) (lo hi : Int) : Nat → Bool → Value → World → Prop
  | 0, _, v, _ => v = hv
  | 1, _, v, _ => v = .agg #[.int .i64 0, .int .i64 3]
  | 2, _, v, _ => v = .tuple #[.agg #[.int .i64 lo, .int .i64 hi], .int .i64 0]
  | 3, _, v, _ => v = .tuple #[.agg #[.int .i64 lo, .int .i64 hi], .int .i64 0]
  | 4, _, v, _ => v = .agg #[.int .i64 lo, .int .i64 hi]
  | 5, _, v, _ => v = .int .i64 0
  | 6, b, v, W => ∃ g, B ≤ g ∧ v = .pointer (some ⟨g, 0, none⟩) ∧ Blk W g 23 (if b then #[.int .i64 lo, .int .i64 hi] else #[.int .i64 0, .int .i64 0])
  | _, _, _, _ => True
theorem sizE_stab (B : Nat) (hv : Value) (lo hi : Int) : ∀ i b v w w', Below w.heap.size w w' → sizE B hv lo hi i b v w → sizE B hv lo hi i b v w'
  | 0, _, _, _, _, _, h => h
  | 1, _, _, _, _, _, h => h
  | 2, _, _, _, _, _, h => h
  | 3, _, _, _, _, _, h => h
  | 4, _, _, _, _, _, h => h
  | 5, _, _, _, _, _, h => h
  | 6, _, _, _, _, hb, ⟨g, h1, h2, h3⟩ => ⟨g, h1, h2, h3.bl hb⟩
  | _ + 7, _, _, _, _, _, _ => trivial
def sizF (B : Nat) (hv : Value) (lo hi : Int) : Nat → Bool → Value → World → Prop
  | 0, _, v, _ => v = hv
  | 1, b, v, W => b = false → IsSeen7 B v W
  | 2, _, v, _ => v = .agg #[.int .i64 0, .int .i64 3]
  | 3, _, v, _ => v = .tuple #[.agg #[.int .i64 lo, .int .i64 hi], .int .i64 0]
  | 4, _, v, _ => v = .tuple #[.agg #[.int .i64 lo, .int .i64 hi], .int .i64 0]
  | 5, _, v, _ => v = .agg #[.int .i64 lo, .int .i64 hi]
  | 6, _, v, _ => v = .int .i64 0
  | 7, b, v, W => ∃ g, B ≤ g ∧ v = .pointer (some ⟨g, 0, none⟩) ∧ Blk W g 23 (if b then #[.int .i64 lo, .int .i64 hi] else #[.int .i64 0, .int .i64 0])
  | _, _, _, _ => True
theorem sizF_stab (B : Nat) (hv : Value) (lo hi : Int) : ∀ i b v w w', Below w.heap.size w w' → sizF B hv lo hi i b v w → sizF B hv lo hi i b v w'
  | 0, _, _, _, _, _, h => h
  | 1, _, _, _, _, hb, h => fun e => (h e).bl hb
  | 2, _, _, _, _, _, h => h
  | 3, _, _, _, _, _, h => h
  | 4, _, _, _, _, _, h => h
  | 5, _, _, _, _, _, h => h
  | 6, _, _, _, _, _, h => h
  | 7, _, _, _, _, hb, ⟨g, h1, h2, h3⟩ => ⟨g, h1, h2, h3.bl hb⟩
  | _ + 8, _, _, _, _, _, _ => trivial

set_option maxRecDepth 100000 in
set_option maxHeartbeats 4000000 in
theorem awake7_any (w : World) :
    Calls Tryz.prog 15 #[] w fun e w' => e = .returned (.bool true) ∧ Below w.heap.size w w' := by
  go_enter Tryz.func15, Tryz.ntmps15
  go_wp2_with fail
  refine (shop30_any w).mono ?_
  rintro e W1 ⟨⟨v, rfl, A1, ca1, rfl, hH1, hca1⟩, b1⟩
  obtain ⟨W2, hW2⟩ : ∃ W2, W1.alloc (.cells #[.int .i64 10, .int .i64 12, .slice (some ⟨A1, 0, none⟩) 2 ca1] 26) = W2 := ⟨_, rfl⟩
  have X1 : Blk W2 W1.heap.size 26 #[.int .i64 10, .int .i64 12, .slice (some ⟨A1, 0, none⟩) 2 ca1] := by rw [← hW2]; exact Blk.new _ _ _ rfl
  have HM := Lib.hid (show Moulds (fun _ => True) W2 (some ⟨A1, 0, none⟩) 2 exShop.moulds by rw [← hW2]; exact (hH1.keep MouldR.good (Keeps.alloc _ _)).mono MouldR.good fun _ _ => trivial)
  have HB2 : Hid (Below w.heap.size w W2) := by rw [Hid, ← hW2]; exact bl_alloc b1 _ (Nat.le_refl _)
  have hx0 := Lib.hid X1
  obtain ⟨gS, hgS⟩ : ∃ g, W1.heap.size = g := ⟨_, rfl⟩
  rw [hgS] at hx0
  have x0 := X1.cell 0
  have x1 := X1.cell 1
  have x2 := X1.cell 2
  clear hH1 b1
  go_wp2_with fail
  clear hW2 X1 x0 x1 x2
  first
  | rw [hgS]
  | skip
  clear hgS
  have HBV : Hid (Below W2.heap.size W2 W2) := Below.refl _ _
  have hx := hx0
  have AS := Lib.hid (sizE_stab W2.heap.size (.agg #[.int .i64 10, .int .i64 12, .slice (some ⟨A1, 0, none⟩) 2 ca1]) 994 1001)
  refine wp_region_invs (InvE W2.heap.size W2 (sizE W2.heap.size (.agg #[.int .i64 10, .int .i64 12, .slice (some ⟨A1, 0, none⟩) 2 ca1]) 994 1001) 7) 8 (by kernel_rfl) (by kernel_rfl) (by kernel_rfl) (by rfl) ⟨(Below.refl _ _).drew, fun i h => by cases h⟩ ?step (by rfl) (by rfl) ?fin
  case step =>
    refine StepsI.cons ?_ (StepsI.cons ?_ (StepsI.cons ?_ (StepsI.cons ?_ (StepsI.cons ?_ (StepsI.cons ?_ (StepsI.cons ?_ (StepsI.cons ?_ StepsI.nil)))))))
    all_goals
      refine StepI.of ?_
      intro ls vs W K hI hl hw hU hK
      simp only [fillA, Act.put, List.setIfInBounds_toArray, List.set_cons_zero, List.set_cons_succ, Nat.zero_add, Nat.reduceAdd] at hK ⊢
      simp [waits, Region.binds] at hw
      have hC := hI.1
    · have hR := hx.out.bl (bl_call HBV.out hC (Nat.le_refl _))
      have k0 := hR.cell 0
      have k1 := hR.cell 1
      have k2 := hR.cell 2
      clear hR
      go_simp
      exact hK _ _ (hI.step AS.out (Below.refl _ _) hC.size (by decide) rfl)
    · go_simp
      refine (at7_any 0 3 W).mono ?_
      rintro e w' ⟨rfl, hb⟩
      exact hK _ _ (hI.step AS.out hb hC.size (by decide) rfl)
    · have h1 : vs 0 = _ := hI.2 0 (by simp [hw])
      have h3 : vs 1 = _ := hI.2 1 (by simp [hw])
      simp only [h1, h3] at hK ⊢
      go_simp
      refine (ksizes_any (s := exShop) (l := []) 0 3 W (HM.out.keep MouldR.good (Keeps.below (bl_call HBV.out hC (Nat.le_refl _)))) (SliceOf.nil _ _ _ _ _) hca1 rfl rfl).mono ?_
      rw [ex7_sizes]
      rintro e w' ⟨rfl, hb⟩
      exact hK _ _ (hI.step AS.out hb hC.size (by decide) rfl)
    · have h1 : vs 2 = _ := hI.2 2 (by simp [hw])
      simp only [h1] at hK ⊢
      go_simp
      exact hK _ _ (hI.step AS.out (Below.refl _ _) hC.size (by decide) rfl)
    · have h1 : vs 3 = _ := hI.2 3 (by simp [hw])
      simp only [h1] at hK ⊢
      go_simp
      exact hK _ _ (hI.step AS.out (Below.refl _ _) hC.size (by decide) rfl)
    · have h1 : vs 3 = _ := hI.2 3 (by simp [hw])
      simp only [h1] at hK ⊢
      go_simp
      exact hK _ _ (hI.step AS.out (Below.refl _ _) hC.size (by decide) rfl)
    · have h8 : ls 7 = false := (hU 7 _ rfl (by simp [waits, Region.binds])).1
      go_simp
      exact hK _ _ (hI.step AS.out (bl_alloc (Below.refl _ _) _ (Nat.le_refl _)) hC.size (by decide) ⟨_, hC.size, rfl, by rw [h8]; exact Blk.new _ _ _ rfl⟩)
    · have h1 : vs 4 = _ := hI.2 4 (by simp [hw])
      obtain ⟨g4, hg4, h4, hB4⟩ := hI.2 6 (by simp [hw])
      rw [hl] at hB4
      have z0 : W.cell? ⟨g4, 0, none⟩ = some (.int .i64 0) := hB4.cell 0
      have z1 : W.cell? ⟨g4, 1, none⟩ = some (.int .i64 0) := hB4.cell 1
      have fz0 := hB4.frozen 0
      have fz1 := hB4.frozen 1
      have hl4 := hB4.lt
      simp only [h1, h4] at hK ⊢
      go_simp
      refine hK undef _ ⟨bl_set (bl_set hC hg4 _) hg4 _, fun i hi => ?_⟩
      have hb8 : updB ls 7 7 = true := by unfold updB; rw [if_pos rfl]
      rw [hb8]
      match i, hi with
      | 0, hi => exact hI.2 0 hi
      | 1, hi => exact hI.2 1 hi
      | 2, hi => exact hI.2 2 hi
      | 3, hi => exact hI.2 3 hi
      | 4, hi => exact hI.2 4 hi
      | 5, hi => exact hI.2 5 hi
      | 6, _ => exact ⟨g4, hg4, h4, hB4.set2 _ _⟩
      | _ + 7, _ => trivial
  case fin =>
    intro ls vs W hI hl hU
    have e6 : vs 5 = _ := hI.2 5 (hl 5 (by decide))
    obtain ⟨g2, hg4, h4, hB4⟩ := hI.2 6 (hl 6 (by decide))
    rw [hl 7 (by decide)] at hB4
    have Sg2 : Hid (Blk W g2 23 #[.int .i64 994, .int .i64 1001]) := hB4
    have b4 := hI.1
    simp only [fillA, Act.put, List.setIfInBounds_toArray, List.set_cons_zero, List.set_cons_succ, Nat.zero_add, Nat.reduceAdd, e6, h4]
    obtain ⟨u0, hu0⟩ : ∃ v0, vs 0 = v0 := ⟨_, rfl⟩
    obtain ⟨u1, hu1⟩ : ∃ v0, vs 1 = v0 := ⟨_, rfl⟩
    obtain ⟨u2, hu2⟩ : ∃ v0, vs 2 = v0 := ⟨_, rfl⟩
    obtain ⟨u3, hu3⟩ : ∃ v0, vs 3 = v0 := ⟨_, rfl⟩
    obtain ⟨u4, hu4⟩ : ∃ v0, vs 4 = v0 := ⟨_, rfl⟩
    rw [hu0, hu1, hu2, hu3, hu4]
    clear hu0 hu1 hu2 hu3 hu4
    clear hI hl hU e6 h4 hB4 AS
    replace HBV : Hid (Below W2.heap.size W2 W) := b4
    clear b4 hg4
    obtain ⟨V3, hV3⟩ : ∃ V, V = W := ⟨_, rfl⟩
    subst hV3
    go_simp
    go_wp2_with fail
    have AS := Lib.hid (sizF_stab V3.heap.size (.agg #[.int .i64 10, .int .i64 12, .slice (some ⟨A1, 0, none⟩) 2 ca1]) 994 999)
    refine wp_region_invs (InvE V3.heap.size V3 (sizF V3.heap.size (.agg #[.int .i64 10, .int .i64 12, .slice (some ⟨A1, 0, none⟩) 2 ca1]) 994 999) 8) 9 (by kernel_rfl) (by kernel_rfl) (by kernel_rfl) (by rfl) ⟨(Below.refl _ _).drew, fun i h => by cases h⟩ ?step (by rfl) (by rfl) ?fin
    case step =>
      refine StepsI.cons ?_ (StepsI.cons ?_ (StepsI.cons ?_ (StepsI.cons ?_ (StepsI.cons ?_ (StepsI.cons ?_ (StepsI.cons ?_ (StepsI.cons ?_ (StepsI.cons ?_ StepsI.nil))))))))
      all_goals
        refine StepI.of ?_
        intro ls vs W K hI hl hw hU hK
        simp only [fillA, Act.put, List.setIfInBounds_toArray, List.set_cons_zero, List.set_cons_succ, Nat.zero_add, Nat.reduceAdd] at hK ⊢
        simp [waits, Region.binds] at hw
        have hC := hI.1
      · have hR := hx.out.bl (bl_call HBV.out hC (Nat.le_refl _))
        have k0 := hR.cell 0
        have k1 := hR.cell 1
        have k2 := hR.cell 2
        clear hR
        go_simp
        exact hK _ _ (hI.step AS.out (Below.refl _ _) hC.size (by decide) rfl)
      · go_simp
        refine (seen32_any W).mono ?_
        rintro e w' ⟨⟨v, rfl, A, c, hv, hS⟩, hb⟩
        have hsz := hC.size
        exact hK _ _ (hI.step AS.out hb hC.size (by decide) (fun _ => ⟨A, c, hv, hS.mono SeenCR.good (fun k h => by omega)⟩))
      · go_simp
        refine (at7_any 0 3 W).mono ?_
        rintro e w' ⟨rfl, hb⟩
        exact hK _ _ (hI.step AS.out hb hC.size (by decide) rfl)
      · have h8 : ls 8 = false := (hU 8 _ rfl (by simp [waits, Region.binds])).1
        have h1 : vs 0 = _ := hI.2 0 (by simp [hw])
        obtain ⟨Aq, cq, h2, hS⟩ := hI.2 1 (by simp [hw]) h8
        have h3 : vs 2 = _ := hI.2 2 (by simp [hw])
        simp only [h1, h2, h3] at hK ⊢
        go_simp
        refine (ksizes_any (s := exShop) (l := exSeen7) 0 3 W (HM.out.keep MouldR.good (Keeps.below (bl_call HBV.out hC (Nat.le_refl _)))) (hS.mono SeenCR.good (fun _ _ => trivial)) hca1 rfl rfl).mono ?_
        rw [ex7_sizes2]
        rintro e w' ⟨rfl, hb⟩
        exact hK _ _ (hI.step AS.out hb hC.size (by decide) rfl)
      · have h1 : vs 3 = _ := hI.2 3 (by simp [hw])
        simp only [h1] at hK ⊢
        go_simp
        exact hK _ _ (hI.step AS.out (Below.refl _ _) hC.size (by decide) rfl)
      · have h1 : vs 4 = _ := hI.2 4 (by simp [hw])
        simp only [h1] at hK ⊢
        go_simp
        exact hK _ _ (hI.step AS.out (Below.refl _ _) hC.size (by decide) rfl)
      · have h1 : vs 4 = _ := hI.2 4 (by simp [hw])
        simp only [h1] at hK ⊢
        go_simp
        exact hK _ _ (hI.step AS.out (Below.refl _ _) hC.size (by decide) rfl)
      · have h8 : ls 8 = false := (hU 8 _ rfl (by simp [waits, Region.binds])).1
        go_simp
        exact hK _ _ (hI.step AS.out (bl_alloc (Below.refl _ _) _ (Nat.le_refl _)) hC.size (by decide) ⟨_, hC.size, rfl, by rw [h8]; exact Blk.new _ _ _ rfl⟩)
      · have h1 : vs 5 = _ := hI.2 5 (by simp [hw])
        obtain ⟨g4, hg4, h4, hB4⟩ := hI.2 7 (by simp [hw])
        rw [hl] at hB4
        have z0 : W.cell? ⟨g4, 0, none⟩ = some (.int .i64 0) := hB4.cell 0
        have z1 : W.cell? ⟨g4, 1, none⟩ = some (.int .i64 0) := hB4.cell 1
        have fz0 := hB4.frozen 0
        have fz1 := hB4.frozen 1
        have hl4 := hB4.lt
        simp only [h1, h4] at hK ⊢
        go_simp
        refine hK undef _ ⟨bl_set (bl_set hC hg4 _) hg4 _, fun i hi => ?_⟩
        have hb8 : updB ls 8 8 = true := by unfold updB; rw [if_pos rfl]
        rw [hb8]
        match i, hi with
        | 0, hi => exact hI.2 0 hi
        | 1, _ => exact fun e => by cases e
        | 2, hi => exact hI.2 2 hi
        | 3, hi => exact hI.2 3 hi
        | 4, hi => exact hI.2 4 hi
        | 5, hi => exact hI.2 5 hi
        | 6, hi => exact hI.2 6 hi
        | 7, _ => exact ⟨g4, hg4, h4, hB4.set2 _ _⟩
        | _ + 8, _ => trivial
    case fin =>
      intro ls vs W hI hl hU
      have e6 : vs 6 = _ := hI.2 6 (hl 6 (by decide))
      obtain ⟨g4, hg4, h4, hB4⟩ := hI.2 7 (hl 7 (by decide))
      rw [hl 8 (by decide)] at hB4
      have Sg4 : Hid (Blk W g4 23 #[.int .i64 994, .int .i64 999]) := hB4
      have b4 := hI.1
      simp only [fillA, Act.put, List.setIfInBounds_toArray, List.set_cons_zero, List.set_cons_succ, Nat.zero_add, Nat.reduceAdd, e6, h4]
      obtain ⟨u0, hu0⟩ : ∃ v0, vs 0 = v0 := ⟨_, rfl⟩
      obtain ⟨u1, hu1⟩ : ∃ v0, vs 1 = v0 := ⟨_, rfl⟩
      obtain ⟨u2, hu2⟩ : ∃ v0, vs 2 = v0 := ⟨_, rfl⟩
      obtain ⟨u3, hu3⟩ : ∃ v0, vs 3 = v0 := ⟨_, rfl⟩
      obtain ⟨u4, hu4⟩ : ∃ v0, vs 4 = v0 := ⟨_, rfl⟩
      obtain ⟨u5, hu5⟩ : ∃ v0, vs 5 = v0 := ⟨_, rfl⟩
      rw [hu0, hu1, hu2, hu3, hu4, hu5]
      clear hu0 hu1 hu2 hu3 hu4 hu5
      clear hI hl hU e6 h4 hB4 AS
      have HG2 : Hid (∀ V, Below W.heap.size W V → Blk V g2 23 #[.int .i64 994, .int .i64 1001]) := fun V hb => Sg2.out.bl (bl_call b4 hb (Nat.le_refl _))
      replace HBV : Hid (Below W2.heap.size W2 W) := bl_call HBV.out b4 (Nat.le_refl _)
      clear b4 hg4 Sg2
      obtain ⟨V4, hV4⟩ : ∃ V, V = W := ⟨_, rfl⟩
      subst hV4
      go_simp
      have HMV : Hid (∀ V, Below V4.heap.size V4 V → Moulds (fun _ => True) V (some ⟨A1, 0, none⟩) 2 exShop.moulds) := fun V hb => HM.out.keep MouldR.good (Keeps.below (bl_call HBV.out hb (Nat.le_refl _)))
      have kk : Hid (∀ V, Below V4.heap.size V4 V → V.cell? ⟨gS, 0, none⟩ = some (.int .i64 10) ∧ V.cell? ⟨gS, 1, none⟩ = some (.int .i64 12) ∧ V.cell? ⟨gS, 2, none⟩ = some (.slice (some ⟨A1, 0, none⟩) 2 ca1) ∧ V.cell? ⟨g2, 0, none⟩ = some (.int .i64 994) ∧ V.cell? ⟨g2, 1, none⟩ = some (.int .i64 1001) ∧ V.cell? ⟨g4, 0, none⟩ = some (.int .i64 994) ∧ V.cell? ⟨g4, 1, none⟩ = some (.int .i64 999)) := fun V hb => by
        have hR := hx.out.bl (bl_call HBV.out hb (Nat.le_refl _))
        exact ⟨hR.cell 0, hR.cell 1, hR.cell 2, (HG2.out V hb).c0, (HG2.out V hb).c1, (Sg4.out.bl hb).c0, (Sg4.out.bl hb).c1⟩
      replace HBV : Hid (Below w.heap.size w V4) := bl_call HB2.out HBV.out (Nat.le_refl _)
      clear hx hx0 HM HB2 Sg4 HG2
      go_wp2_with fail
      have HC4 : Hid (Below V4.heap.size V4 V4) := Below.refl _ _
      refine wp_frameT ?_
      intro a0 ha0
      have tb1 : a0.tmps[1]? = some (.pointer (some ⟨gS, 0, none⟩)) := by rw [ha0]; kernel_rfl
      have hsz : a0.tmps.size = 160 := by rw [ha0]; kernel_rfl
      refine wp_region_list (fun W => Below V4.heap.size V4 W) (fun w w' => Below w.heap.size w w')
        [isV (.agg #[.int .i64 10, .int .i64 12, .slice (some ⟨A1, 0, none⟩) 2 ca1]), IsSeen7 V4.heap.size, IntsV ([12], 0), IntsV ([12], 0), SlI [12], isV (.int .i64 0), SlI [12], isV (.int .i64 0)]
        (by kernel_rfl) (by kernel_rfl) (by kernel_rfl) (by simp) (by simp) (Below.refl _ _).drew ?stab4 ?step4 ?fin4
      case stab4 => exact (StabL.is (StabL.cons (fun v W V hC hX h => h.bl hX) (StabL.cons (fun v W V hC hX h => h.bl hX) (StabL.cons (fun v W V hC hX h => h.bl hX) (StabL.cons (fun v W V hC hX h => h.bl hX) (StabL.is (StabL.cons (fun v W V hC hX h => h.bl hX) (StabL.is StabL.nil))))))))
      case step4 =>
        refine StepsL.isA ?_ (StepsL.consA ?_ (StepsL.consA ?_ (StepsL.consA ?_ (StepsL.consA ?_ (StepsL.isA ?_ (StepsL.consA ?_ (StepsL.isA ?_ StepsL.nil)))))))
        · -- 0
          intro vs a W K ha hC hD hU hK
          have r1 : a.tmps[1]? = some (.pointer (some ⟨gS, 0, none⟩)) := by rw [ha, fillA_base0 (by kernel_rfl)]; exact tb1
          clear ha hU hD ha0
          rw [if_pos (by rfl)]
          obtain ⟨k0, k1, k2, k3, k4, k5, k6⟩ := kk.out W (bl_call HC4.out hC (Nat.le_refl _))
          go_simp
          exact hK _ hC (Below.refl _ _)
        · -- 1
          intro vs a W K ha hC hD hU hK
          clear ha hU hD ha0
          rw [if_pos (by rfl)]
          go_simp
          refine (seen32_any W).mono ?_
          rintro e w' ⟨⟨v, rfl, A, c, hv, hS⟩, hb⟩
          have hsz := hC.size
          exact hK _ _ (bl_call hC hb (Nat.le_refl _)) hb ⟨A, c, hv, hS.mono SeenCR.good (fun k h => by omega)⟩
        · -- 2
          intro vs a W K ha hC hD hU hK
          have r35 : a.tmps[35]? = some (vs 0) := by rw [ha]; exact fillA_get0 (j := 0) (by kernel_rfl) (by rw [hsz]; decide)
          have q0 : vs 0 = .agg #[.int .i64 10, .int .i64 12, .slice (some ⟨A1, 0, none⟩) 2 ca1] := hD 0 (by simp [waits, Region.binds])
          rw [q0] at r35
          have r36 : a.tmps[36]? = some (vs 1) := by rw [ha]; exact fillA_get0 (j := 1) (by kernel_rfl) (by rw [hsz]; decide)
          have P1 : IsSeen7 V4.heap.size (vs 1) W := hD 1 (by simp [waits, Region.binds])
          obtain ⟨B36, d36, e36, hI36⟩ := P1
          rw [e36] at r36
          clear ha hU hD ha0
          rw [if_pos (by rfl)]
          go_simp
          refine (kshrinks_any (s := exShop) (l := exSeen7) W (HMV.out W (bl_call HC4.out hC (Nat.le_refl _))) (hI36.mono SeenCR.good (fun _ _ => trivial)) hca1 rfl rfl).mono ?_
          rw [ex7_shrinks]
          rintro e w' ⟨hT, hb⟩
          obtain ⟨v, rfl, hv⟩ := IntsV.of7 hT
          exact hK _ _ (bl_call hC hb (Nat.le_refl _)) hb hv
        · -- 3
          intro vs a W K ha hC hD hU hK
          have r37 : a.tmps[37]? = some (vs 2) := by rw [ha]; exact fillA_get0 (j := 2) (by kernel_rfl) (by rw [hsz]; decide)
          have P2 : IntsV ([12], 0) (vs 2) W := hD 2 (by simp [waits, Region.binds])
          obtain ⟨A37, n37, c37, e37, hI37⟩ := P2
          rw [e37] at r37
          clear ha hU hD ha0
          rw [if_pos (by rfl)]
          go_simp
          exact hK _ _ hC (Below.refl _ _) (by first | exact ⟨_, _, _, rfl, hI37⟩ | exact ⟨_, _, _, _, _, _, rfl, hI37, hJ37⟩)
        · -- 4
          intro vs a W K ha hC hD hU hK
          have r34 : a.tmps[34]? = some (vs 3) := by rw [ha]; exact fillA_get0 (j := 3) (by kernel_rfl) (by rw [hsz]; decide)
          have P3 : IntsV ([12], 0) (vs 3) W := hD 3 (by simp [waits, Region.binds])
          obtain ⟨A34, n34, c34, e34, hI34⟩ := P3
          rw [e34] at r34
          clear ha hU hD ha0
          rw [if_pos (by rfl)]
          go_simp
          exact hK _ _ hC (Below.refl _ _) ⟨_, _, _, rfl, hI34⟩
        · -- 5
          intro vs a W K ha hC hD hU hK
          have r34 : a.tmps[34]? = some (vs 3) := by rw [ha]; exact fillA_get0 (j := 3) (by kernel_rfl) (by rw [hsz]; decide)
          have P3 : IntsV ([12], 0) (vs 3) W := hD 3 (by simp [waits, Region.binds])
          obtain ⟨A34, n34, c34, e34, hI34⟩ := P3
          rw [e34] at r34
          clear ha hU hD ha0
          rw [if_pos (by rfl)]
          go_simp
          exact hK _ hC (Below.refl _ _)
        · -- 6
          intro vs a W K ha hC hD hU hK
          have r38 : a.tmps[38]? = some (vs 4) := by rw [ha]; exact fillA_get0 (j := 4) (by kernel_rfl) (by rw [hsz]; decide)
          have P4 : SlI [12] (vs 4) W := hD 4 (by simp [waits, Region.binds])
          obtain ⟨A38, n38, c38, e38, hI38⟩ := P4
          rw [e38] at r38
          clear ha hU hD ha0
          rw [if_pos (by rfl)]
          go_simp
          exact hK _ _ hC (Below.refl _ _) (by first | exact ⟨_, _, _, rfl, hI38⟩ | exact ⟨_, _, _, _, _, _, rfl, hI38, hJ38⟩)
        · -- 7
          intro vs a W K ha hC hD hU hK
          have r39 : a.tmps[39]? = some (vs 5) := by rw [ha]; exact fillA_get0 (j := 5) (by kernel_rfl) (by rw [hsz]; decide)
          have q5 : vs 5 = .int .i64 0 := hD 5 (by simp [waits, Region.binds])
          rw [q5] at r39
          clear ha hU hD ha0
          rw [if_pos (by rfl)]
          go_simp
          exact hK _ hC (Below.refl _ _)
      case fin4 =>
        refine Fin1.none (Nat.le_refl _) ?_
        intro vs W a1 hC hE ha
        have hE0 := hE
        have E6 : SlI [12] (vs 6) W := hE 6 (by simp)
        obtain ⟨r6_A, r6_n, r6_c, r6_e, r6_h⟩ := E6
        have H_r6 := Lib.hid r6_h
        have n7_e : vs 7 = .int .i64 0 := hE 7 (by simp)
        rw [ha, ha0]
        clear ha ha0 hsz tb1
        simp only [fillA, Act.put, List.setIfInBounds_toArray, List.set_cons_zero, List.set_cons_succ, Nat.zero_add, Nat.reduceAdd, r6_e, n7_e]
        obtain ⟨u0, hu0⟩ : ∃ v0, vs 0 = v0 := ⟨_, rfl⟩
        obtain ⟨u1, hu1⟩ : ∃ v0, vs 1 = v0 := ⟨_, rfl⟩
        obtain ⟨u2, hu2⟩ : ∃ v0, vs 2 = v0 := ⟨_, rfl⟩
        obtain ⟨u3, hu3⟩ : ∃ v0, vs 3 = v0 := ⟨_, rfl⟩
        obtain ⟨u4, hu4⟩ : ∃ v0, vs 4 = v0 := ⟨_, rfl⟩
        obtain ⟨u5, hu5⟩ : ∃ v0, vs 5 = v0 := ⟨_, rfl⟩
        rw [hu0, hu1, hu2, hu3, hu4, hu5]
        clear hu0 hu1 hu2 hu3 hu4 hu5
        have HL4 : Hid (Below V4.heap.size V4 W) := bl_call HC4.out hC (Nat.le_refl _)
        replace H_r6 : Hid (∀ V, Below W.heap.size W V → Ints (fun _ => True) V r6_A r6_n [12]) := fun V hb => H_r6.out.keep IntR.good (Keeps.below hb)
        clear r6_h
        have hCk := Lib.hid hC
        clear hE hE0 hC HC4 r6_e n7_e
        clear hCk
        obtain ⟨V5, hV5⟩ : ∃ V, V = W := ⟨_, rfl⟩
        subst hV5
        go_simp
        go_wp2_with fail
        have HC5 : Hid (Below V4.heap.size V4 V5) := HL4.out
        refine wp_frameT ?_
        intro a0 ha0
        have tb1 : a0.tmps[1]? = some (.pointer (some ⟨gS, 0, none⟩)) := by rw [ha0]; kernel_rfl
        have hsz : a0.tmps.size = 160 := by rw [ha0]; kernel_rfl
        refine wp_region_list (fun W => Below V5.heap.size V5 W) (fun w w' => Below w.heap.size w w')
          [isV (.agg #[.int .i64 10, .int .i64 12, .slice (some ⟨A1, 0, none⟩) 2 ca1]), isV (.agg #[.int .i64 990, .int .i64 1000]), PlsV ([(0, 1), (0, 2), (1, 0), (1, 1)], 0), PlsV ([(0, 1), (0, 2), (1, 0), (1, 1)], 0), SlP [(0, 1), (0, 2), (1, 0), (1, 1)], isV (.int .i64 0), SlP [(0, 1), (0, 2), (1, 0), (1, 1)], isV (.int .i64 0)]
          (by kernel_rfl) (by kernel_rfl) (by kernel_rfl) (by simp) (by simp) (Below.refl _ _).drew ?stab5 ?step5 ?fin5
        case stab5 => exact (StabL.is (StabL.is (StabL.cons (fun v W V hC hX h => h.bl hX) (StabL.cons (fun v W V hC hX h => h.bl hX) (StabL.cons (fun v W V hC hX h => h.bl hX) (StabL.is (StabL.cons (fun v W V hC hX h => h.bl hX) (StabL.is StabL.nil))))))))
        case step5 =>
          refine StepsL.isA ?_ (StepsL.isA ?_ (StepsL.consA ?_ (StepsL.consA ?_ (StepsL.consA ?_ (StepsL.isA ?_ (StepsL.consA ?_ (StepsL.isA ?_ StepsL.nil)))))))
          · -- 0
            intro vs a W K ha hC hD hU hK
            have r1 : a.tmps[1]? = some (.pointer (some ⟨gS, 0, none⟩)) := by rw [ha, fillA_base0 (by kernel_rfl)]; exact tb1
            clear ha hU hD ha0
            rw [if_pos (by rfl)]
            obtain ⟨k0, k1, k2, k3, k4, k5, k6⟩ := kk.out W (bl_call HC5.out hC (Nat.le_refl _))
            go_simp
            exact hK _ hC (Below.refl _ _)
          · -- 1
            intro vs a W K ha hC hD hU hK
            clear ha hU hD ha0
            rw [if_pos (by rfl)]
            go_simp
            refine (span7_any 990 1000 W).mono ?_
            rintro e w' ⟨rfl, hb⟩
            exact hK _ (bl_call hC hb (Nat.le_refl _)) hb
          · -- 2
            intro vs a W K ha hC hD hU hK
            have r41 : a.tmps[41]? = some (vs 0) := by rw [ha]; exact fillA_get0 (j := 0) (by kernel_rfl) (by rw [hsz]; decide)
            have q0 : vs 0 = .agg #[.int .i64 10, .int .i64 12, .slice (some ⟨A1, 0, none⟩) 2 ca1] := hD 0 (by simp [waits, Region.binds])
            rw [q0] at r41
            have r42 : a.tmps[42]? = some (vs 1) := by rw [ha]; exact fillA_get0 (j := 1) (by kernel_rfl) (by rw [hsz]; decide)
            have q1 : vs 1 = .agg #[.int .i64 990, .int .i64 1000] := hD 1 (by simp [waits, Region.binds])
            rw [q1] at r42
            clear ha hU hD ha0
            rw [if_pos (by rfl)]
            go_simp
            refine (kFits_any (s := exShop) (l := []) 990 1000 W (HMV.out W (bl_call HC5.out hC (Nat.le_refl _))) (SliceOf.nil _ _ _ _ _) hca1 rfl rfl).mono ?_
            rw [ex7_fits]
            rintro e w' ⟨hT, hb⟩
            obtain ⟨v, rfl, hv⟩ := PlsV.of hT
            exact hK _ _ (bl_call hC hb (Nat.le_refl _)) hb hv
          · -- 3
            intro vs a W K ha hC hD hU hK
            have r43 : a.tmps[43]? = some (vs 2) := by rw [ha]; exact fillA_get0 (j := 2) (by kernel_rfl) (by rw [hsz]; decide)
            have P2 : PlsV ([(0, 1), (0, 2), (1, 0), (1, 1)], 0) (vs 2) W := hD 2 (by simp [waits, Region.binds])
            obtain ⟨A43, n43, c43, e43, hI43⟩ := P2
            rw [e43] at r43
            clear ha hU hD ha0
            rw [if_pos (by rfl)]
            go_simp
            exact hK _ _ hC (Below.refl _ _) (by first | exact ⟨_, _, _, rfl, hI43⟩ | exact ⟨_, _, _, _, _, _, rfl, hI43, hJ43⟩)
          · -- 4
            intro vs a W K ha hC hD hU hK
            have r40 : a.tmps[40]? = some (vs 3) := by rw [ha]; exact fillA_get0 (j := 3) (by kernel_rfl) (by rw [hsz]; decide)
            have P3 : PlsV ([(0, 1), (0, 2), (1, 0), (1, 1)], 0) (vs 3) W := hD 3 (by simp [waits, Region.binds])
            obtain ⟨A40, n40, c40, e40, hI40⟩ := P3
            rw [e40] at r40
            clear ha hU hD ha0
            rw [if_pos (by rfl)]
            go_simp
            exact hK _ _ hC (Below.refl _ _) ⟨_, _, _, rfl, hI40⟩
          · -- 5
            intro vs a W K ha hC hD hU hK
            have r40 : a.tmps[40]? = some (vs 3) := by rw [ha]; exact fillA_get0 (j := 3) (by kernel_rfl) (by rw [hsz]; decide)
            have P3 : PlsV ([(0, 1), (0, 2), (1, 0), (1, 1)], 0) (vs 3) W := hD 3 (by simp [waits, Region.binds])
            obtain ⟨A40, n40, c40, e40, hI40⟩ := P3
            rw [e40] at r40
            clear ha hU hD ha0
            rw [if_pos (by rfl)]
            go_simp
            exact hK _ hC (Below.refl _ _)
          · -- 6
            intro vs a W K ha hC hD hU hK
            have r44 : a.tmps[44]? = some (vs 4) := by rw [ha]; exact fillA_get0 (j := 4) (by kernel_rfl) (by rw [hsz]; decide)
            have P4 : SlP [(0, 1), (0, 2), (1, 0), (1, 1)] (vs 4) W := hD 4 (by simp [waits, Region.binds])
            obtain ⟨A44, n44, c44, e44, hI44⟩ := P4
            rw [e44] at r44
            clear ha hU hD ha0
            rw [if_pos (by rfl)]
            go_simp
            exact hK _ _ hC (Below.refl _ _) (by first | exact ⟨_, _, _, rfl, hI44⟩ | exact ⟨_, _, _, _, _, _, rfl, hI44, hJ44⟩)
          · -- 7
            intro vs a W K ha hC hD hU hK
            have r45 : a.tmps[45]? = some (vs 5) := by rw [ha]; exact fillA_get0 (j := 5) (by kernel_rfl) (by rw [hsz]; decide)
            have q5 : vs 5 = .int .i64 0 := hD 5 (by simp [waits, Region.binds])
            rw [q5] at r45
            clear ha hU hD ha0
            rw [if_pos (by rfl)]
            go_simp
            exact hK _ hC (Below.refl _ _)
        case fin5 =>
          refine Fin1.none (Nat.le_refl _) ?_
          intro vs W a1 hC hE ha
          have hE0 := hE
          have E6 : SlP [(0, 1), (0, 2), (1, 0), (1, 1)] (vs 6) W := hE 6 (by simp)
          obtain ⟨r8_A, r8_n, r8_c, r8_e, r8_h⟩ := E6
          have H_r8 := Lib.hid r8_h
          have n9_e : vs 7 = .int .i64 0 := hE 7 (by simp)
          rw [ha, ha0]
          clear ha ha0 hsz tb1
          simp only [fillA, Act.put, List.setIfInBounds_toArray, List.set_cons_zero, List.set_cons_succ, Nat.zero_add, Nat.reduceAdd, r8_e, n9_e]
          obtain ⟨u0, hu0⟩ : ∃ v0, vs 0 = v0 := ⟨_, rfl⟩
          obtain ⟨u1, hu1⟩ : ∃ v0, vs 1 = v0 := ⟨_, rfl⟩
          obtain ⟨u2, hu2⟩ : ∃ v0, vs 2 = v0 := ⟨_, rfl⟩
          obtain ⟨u3, hu3⟩ : ∃ v0, vs 3 = v0 := ⟨_, rfl⟩
          obtain ⟨u4, hu4⟩ : ∃ v0, vs 4 = v0 := ⟨_, rfl⟩
          obtain ⟨u5, hu5⟩ : ∃ v0, vs 5 = v0 := ⟨_, rfl⟩
          rw [hu0, hu1, hu2, hu3, hu4, hu5]
          clear hu0 hu1 hu2 hu3 hu4 hu5
          have HL5 : Hid (Below V4.heap.size V4 W) := bl_call HC5.out hC (Nat.le_refl _)
          replace H_r8 : Hid (∀ V, Below W.heap.size W V → Pls (fun _ => True) V r8_A r8_n [(0, 1), (0, 2), (1, 0), (1, 1)]) := fun V hb => H_r8.out.keep PlR.good (Keeps.below hb)
          clear r8_h
          have hCk := Lib.hid hC
          clear hE hE0 hC HC5 r8_e n9_e
          replace H_r6 : Hid (∀ V, Below W.heap.size W V → Ints (fun _ => True) V r6_A r6_n [12]) := fun V hb => H_r6.out V (bl_call hCk.out hb (Nat.le_refl _))
          clear hCk
          obtain ⟨V6, hV6⟩ : ∃ V, V = W := ⟨_, rfl⟩
          subst hV6
          go_simp
          go_wp2_with fail
          have HC6 : Hid (Below V4.heap.size V4 V6) := HL5.out
          refine wp_frameT ?_
          intro a0 ha0
          have tb1 : a0.tmps[1]? = some (.pointer (some ⟨gS, 0, none⟩)) := by rw [ha0]; kernel_rfl
          have hsz : a0.tmps.size = 160 := by rw [ha0]; kernel_rfl
          refine wp_region_list (fun W => Below V6.heap.size V6 W) (fun w w' => Below w.heap.size w w')
            [isV (.agg #[.int .i64 10, .int .i64 12, .slice (some ⟨A1, 0, none⟩) 2 ca1]), isV (.agg #[.int .i64 990, .int .i64 1000]), isV (.agg #[.int .i64 990, .int .i64 998]), isV (.agg #[.int .i64 998, .int .i64 1000]), IsPairsV V6.heap.size [(990, 1000), (990, 998), (998, 1000)], PlanV ([(0, 1), (0, 2), (1, 0)], [0, 1], 0), PlanV ([(0, 1), (0, 2), (1, 0)], [0, 1], 0), SlP [(0, 1), (0, 2), (1, 0)], SlI [0, 1], isV (.int .i64 0), SlP [(0, 1), (0, 2), (1, 0)], SlI [0, 1], isV (.int .i64 0)]
            (by kernel_rfl) (by kernel_rfl) (by kernel_rfl) (by simp) (by simp) (Below.refl _ _).drew ?stab6 ?step6 ?fin6
          case stab6 => exact (StabL.is (StabL.is (StabL.is (StabL.is (StabL.cons (fun v W V hC hX h => h.bl hX) (StabL.cons (fun v W V hC hX h => h.bl hX) (StabL.cons (fun v W V hC hX h => h.bl hX) (StabL.cons (fun v W V hC hX h => h.bl hX) (StabL.cons (fun v W V hC hX h => h.bl hX) (StabL.is (StabL.cons (fun v W V hC hX h => h.bl hX) (StabL.cons (fun v W V hC hX h => h.bl hX) (StabL.is StabL.nil)))))))))))))
          case step6 =>
            refine StepsL.isA ?_ (StepsL.isA ?_ (StepsL.isA ?_ (StepsL.isA ?_ (StepsL.consA ?_ (StepsL.consA ?_ (StepsL.consA ?_ (StepsL.consA ?_ (StepsL.consA ?_ (StepsL.isA ?_ (StepsL.consA ?_ (StepsL.consA ?_ (StepsL.isA ?_ StepsL.nil))))))))))))
            · -- 0
              intro vs a W K ha hC hD hU hK
              have r1 : a.tmps[1]? = some (.pointer (some ⟨gS, 0, none⟩)) := by rw [ha, fillA_base0 (by kernel_rfl)]; exact tb1
              clear ha hU hD ha0
              rw [if_pos (by rfl)]
              obtain ⟨k0, k1, k2, k3, k4, k5, k6⟩ := kk.out W (bl_call HC6.out hC (Nat.le_refl _))
              go_simp
              exact hK _ hC (Below.refl _ _)
            · -- 1
              intro vs a W K ha hC hD hU hK
              clear ha hU hD ha0
              rw [if_pos (by rfl)]
              go_simp
              refine (span7_any 990 1000 W).mono ?_
              rintro e w' ⟨rfl, hb⟩
              exact hK _ (bl_call hC hb (Nat.le_refl _)) hb
            · -- 2
              intro vs a W K ha hC hD hU hK
              clear ha hU hD ha0
              rw [if_pos (by rfl)]
              go_simp
              refine (span7_any 990 998 W).mono ?_
              rintro e w' ⟨rfl, hb⟩
              exact hK _ (bl_call hC hb (Nat.le_refl _)) hb
            · -- 3
              intro vs a W K ha hC hD hU hK
              clear ha hU hD ha0
              rw [if_pos (by rfl)]
              go_simp
              refine (span7_any 998 1000 W).mono ?_
              rintro e w' ⟨rfl, hb⟩
              exact hK _ (bl_call hC hb (Nat.le_refl _)) hb
            · -- 4
              intro vs a W K ha hC hD hU hK
              have r48 : a.tmps[48]? = some (vs 1) := by rw [ha]; exact fillA_get0 (j := 1) (by kernel_rfl) (by rw [hsz]; decide)
              have q1 : vs 1 = .agg #[.int .i64 990, .int .i64 1000] := hD 1 (by simp [waits, Region.binds])
              rw [q1] at r48
              have r49 : a.tmps[49]? = some (vs 2) := by rw [ha]; exact fillA_get0 (j := 2) (by kernel_rfl) (by rw [hsz]; decide)
              have q2 : vs 2 = .agg #[.int .i64 990, .int .i64 998] := hD 2 (by simp [waits, Region.binds])
              rw [q2] at r49
              have r50 : a.tmps[50]? = some (vs 3) := by rw [ha]; exact fillA_get0 (j := 3) (by kernel_rfl) (by rw [hsz]; decide)
              have q3 : vs 3 = .agg #[.int .i64 998, .int .i64 1000] := hD 3 (by simp [waits, Region.binds])
              rw [q3] at r50
              clear ha hU hD ha0
              rw [if_pos (by rfl)]
              go_simp
              exact hK _ _ (bl_alloc hC _ (Nat.le_refl _)) (bl_alloc (Below.refl _ _) _ (Nat.le_refl _)) (IsPairsV.new [(990, 1000), (990, 998), (998, 1000)] _ (by rfl) (by decide) hC.size)
            · -- 5
              intro vs a W K ha hC hD hU hK
              have r47 : a.tmps[47]? = some (vs 0) := by rw [ha]; exact fillA_get0 (j := 0) (by kernel_rfl) (by rw [hsz]; decide)
              have q0 : vs 0 = .agg #[.int .i64 10, .int .i64 12, .slice (some ⟨A1, 0, none⟩) 2 ca1] := hD 0 (by simp [waits, Region.binds])
              rw [q0] at r47
              have r51 : a.tmps[51]? = some (vs 4) := by rw [ha]; exact fillA_get0 (j := 4) (by kernel_rfl) (by rw [hsz]; decide)
              have P4 : IsPairsV V6.heap.size [(990, 1000), (990, 998), (998, 1000)] (vs 4) W := hD 4 (by simp [waits, Region.binds])
              obtain ⟨B51, d51, e51, hI51⟩ := P4
              rw [e51] at r51
              clear ha hU hD ha0
              rw [if_pos (by rfl)]
              go_simp
              refine (kplan_any (s := exShop) (l := []) (p := [(990, 1000), (990, 998), (998, 1000)]) W (HMV.out W (bl_call HC6.out hC (Nat.le_refl _))) (SliceOf.nil _ _ _ _ _) (hI51.mono PairR.good (fun _ _ => trivial)) hca1 rfl rfl).mono ?_
              rw [ex7_plan]
              rintro e w' ⟨hT, hb⟩
              obtain ⟨v, rfl, hv⟩ := PlanV.of hT
              exact hK _ _ (bl_call hC hb (Nat.le_refl _)) hb hv
            · -- 6
              intro vs a W K ha hC hD hU hK
              have r52 : a.tmps[52]? = some (vs 5) := by rw [ha]; exact fillA_get0 (j := 5) (by kernel_rfl) (by rw [hsz]; decide)
              have P5 : PlanV ([(0, 1), (0, 2), (1, 0)], [0, 1], 0) (vs 5) W := hD 5 (by simp [waits, Region.binds])
              obtain ⟨A52, n52, c52, B52, m52, d52, e52, hI52, hJ52⟩ := P5
              rw [e52] at r52
              clear ha hU hD ha0
              rw [if_pos (by rfl)]
              go_simp
              exact hK _ _ hC (Below.refl _ _) (by first | exact ⟨_, _, _, rfl, hI52⟩ | exact ⟨_, _, _, _, _, _, rfl, hI52, hJ52⟩)
            · -- 7
              intro vs a W K ha hC hD hU hK
              have r46 : a.tmps[46]? = some (vs 6) := by rw [ha]; exact fillA_get0 (j := 6) (by kernel_rfl) (by rw [hsz]; decide)
              have P6 : PlanV ([(0, 1), (0, 2), (1, 0)], [0, 1], 0) (vs 6) W := hD 6 (by simp [waits, Region.binds])
              obtain ⟨A46, n46, c46, B46, m46, d46, e46, hI46, hJ46⟩ := P6
              rw [e46] at r46
              clear ha hU hD ha0
              rw [if_pos (by rfl)]
              go_simp
              exact hK _ _ hC (Below.refl _ _) ⟨_, _, _, rfl, hI46⟩
            · -- 8
              intro vs a W K ha hC hD hU hK
              have r46 : a.tmps[46]? = some (vs 6) := by rw [ha]; exact fillA_get0 (j := 6) (by kernel_rfl) (by rw [hsz]; decide)
              have P6 : PlanV ([(0, 1), (0, 2), (1, 0)], [0, 1], 0) (vs 6) W := hD 6 (by simp [waits, Region.binds])
              obtain ⟨A46, n46, c46, B46, m46, d46, e46, hI46, hJ46⟩ := P6
              rw [e46] at r46
              clear ha hU hD ha0
              rw [if_pos (by rfl)]
              go_simp
              exact hK _ _ hC (Below.refl _ _) ⟨_, _, _, rfl, hJ46⟩
            · -- 9
              intro vs a W K ha hC hD hU hK
              have r46 : a.tmps[46]? = some (vs 6) := by rw [ha]; exact fillA_get0 (j := 6) (by kernel_rfl) (by rw [hsz]; decide)
              have P6 : PlanV ([(0, 1), (0, 2), (1, 0)], [0, 1], 0) (vs 6) W := hD 6 (by simp [waits, Region.binds])
              obtain ⟨A46, n46, c46, B46, m46, d46, e46, hI46, hJ46⟩ := P6
              rw [e46] at r46
              clear ha hU hD ha0
              rw [if_pos (by rfl)]
              go_simp
              exact hK _ hC (Below.refl _ _)
            · -- 10
              intro vs a W K ha hC hD hU hK
              have r53 : a.tmps[53]? = some (vs 7) := by rw [ha]; exact fillA_get0 (j := 7) (by kernel_rfl) (by rw [hsz]; decide)
              have P7 : SlP [(0, 1), (0, 2), (1, 0)] (vs 7) W := hD 7 (by simp [waits, Region.binds])
              obtain ⟨A53, n53, c53, e53, hI53⟩ := P7
              rw [e53] at r53
              clear ha hU hD ha0
              rw [if_pos (by rfl)]
              go_simp
              exact hK _ _ hC (Below.refl _ _) (by first | exact ⟨_, _, _, rfl, hI53⟩ | exact ⟨_, _, _, _, _, _, rfl, hI53, hJ53⟩)
            · -- 11
              intro vs a W K ha hC hD hU hK
              have r54 : a.tmps[54]? = some (vs 8) := by rw [ha]; exact fillA_get0 (j := 8) (by kernel_rfl) (by rw [hsz]; decide)
              have P8 : SlI [0, 1] (vs 8) W := hD 8 (by simp [waits, Region.binds])
              obtain ⟨A54, n54, c54, e54, hI54⟩ := P8
              rw [e54] at r54
              clear ha hU hD ha0
              rw [if_pos (by rfl)]
              go_simp
              exact hK _ _ hC (Below.refl _ _) (by first | exact ⟨_, _, _, rfl, hI54⟩ | exact ⟨_, _, _, _, _, _, rfl, hI54, hJ54⟩)
            · -- 12
              intro vs a W K ha hC hD hU hK
              have r55 : a.tmps[55]? = some (vs 9) := by rw [ha]; exact fillA_get0 (j := 9) (by kernel_rfl) (by rw [hsz]; decide)
              have q9 : vs 9 = .int .i64 0 := hD 9 (by simp [waits, Region.binds])
              rw [q9] at r55
              clear ha hU hD ha0
              rw [if_pos (by rfl)]
              go_simp
              exact hK _ hC (Below.refl _ _)
          case fin6 =>
            refine Fin1.none (Nat.le_refl _) ?_
            intro vs W a1 hC hE ha
            have hE0 := hE
            have E10 : SlP [(0, 1), (0, 2), (1, 0)] (vs 10) W := hE 10 (by simp)
            obtain ⟨r10_A, r10_n, r10_c, r10_e, r10_h⟩ := E10
            have H_r10 := Lib.hid r10_h
            have E11 : SlI [0, 1] (vs 11) W := hE 11 (by simp)
            obtain ⟨r11_A, r11_n, r11_c, r11_e, r11_h⟩ := E11
            have H_r11 := Lib.hid r11_h
            have n12_e : vs 12 = .int .i64 0 := hE 12 (by simp)
            rw [ha, ha0]
            clear ha ha0 hsz tb1
            simp only [fillA, Act.put, List.setIfInBounds_toArray, List.set_cons_zero, List.set_cons_succ, Nat.zero_add, Nat.reduceAdd, r10_e, r11_e, n12_e]
            obtain ⟨u0, hu0⟩ : ∃ v0, vs 0 = v0 := ⟨_, rfl⟩
            obtain ⟨u1, hu1⟩ : ∃ v0, vs 1 = v0 := ⟨_, rfl⟩
            obtain ⟨u2, hu2⟩ : ∃ v0, vs 2 = v0 := ⟨_, rfl⟩
            obtain ⟨u3, hu3⟩ : ∃ v0, vs 3 = v0 := ⟨_, rfl⟩
            obtain ⟨u4, hu4⟩ : ∃ v0, vs 4 = v0 := ⟨_, rfl⟩
            obtain ⟨u5, hu5⟩ : ∃ v0, vs 5 = v0 := ⟨_, rfl⟩
            obtain ⟨u6, hu6⟩ : ∃ v0, vs 6 = v0 := ⟨_, rfl⟩
            obtain ⟨u7, hu7⟩ : ∃ v0, vs 7 = v0 := ⟨_, rfl⟩
            obtain ⟨u8, hu8⟩ : ∃ v0, vs 8 = v0 := ⟨_, rfl⟩
            obtain ⟨u9, hu9⟩ : ∃ v0, vs 9 = v0 := ⟨_, rfl⟩
            rw [hu0, hu1, hu2, hu3, hu4, hu5, hu6, hu7, hu8, hu9]
            clear hu0 hu1 hu2 hu3 hu4 hu5 hu6 hu7 hu8 hu9
            have HL6 : Hid (Below V4.heap.size V4 W) := bl_call HC6.out hC (Nat.le_refl _)
            replace H_r10 : Hid (∀ V, Below W.heap.size W V → Pls (fun _ => True) V r10_A r10_n [(0, 1), (0, 2), (1, 0)]) := fun V hb => H_r10.out.keep PlR.good (Keeps.below hb)
            clear r10_h
            replace H_r11 : Hid (∀ V, Below W.heap.size W V → Ints (fun _ => True) V r11_A r11_n [0, 1]) := fun V hb => H_r11.out.keep IntR.good (Keeps.below hb)
            clear r11_h
            have hCk := Lib.hid hC
            clear hE hE0 hC HC6 r10_e r11_e n12_e
            replace H_r6 : Hid (∀ V, Below W.heap.size W V → Ints (fun _ => True) V r6_A r6_n [12]) := fun V hb => H_r6.out V (bl_call hCk.out hb (Nat.le_refl _))
            replace H_r8 : Hid (∀ V, Below W.heap.size W V → Pls (fun _ => True) V r8_A r8_n [(0, 1), (0, 2), (1, 0), (1, 1)]) := fun V hb => H_r8.out V (bl_call hCk.out hb (Nat.le_refl _))
            clear hCk
            obtain ⟨V7, hV7⟩ : ∃ V, V = W := ⟨_, rfl⟩
            subst hV7
            go_simp
            go_wp2_with fail
            have HC7 : Hid (Below V4.heap.size V4 V7) := HL6.out
            refine wp_frameT ?_
            intro a0 ha0
            have tb1 : a0.tmps[1]? = some (.pointer (some ⟨gS, 0, none⟩)) := by rw [ha0]; kernel_rfl
            have hsz : a0.tmps.size = 160 := by rw [ha0]; kernel_rfl
            refine wp_region_list (fun W => Below V7.heap.size V7 W) (fun w w' => Below w.heap.size w w')
              [isV (.agg #[.int .i64 10, .int .i64 12, .slice (some ⟨A1, 0, none⟩) 2 ca1]), isV (.agg #[.int .i64 990, .int .i64 998]), isV (.agg #[.int .i64 992, .int .i64 998]), isV (.agg #[.int .i64 990, .int .i64 998]), IsPairsV V7.heap.size [(990, 998), (992, 998), (990, 998)], IntsV ([0, 1, 2], 0), IntsV ([0, 1, 2], 0), SlI [0, 1, 2], isV (.int .i64 0), SlI [0, 1, 2], isV (.int .i64 0)]
              (by kernel_rfl) (by kernel_rfl) (by kernel_rfl) (by simp) (by simp) (Below.refl _ _).drew ?stab7 ?step7 ?fin7
            case stab7 => exact (StabL.is (StabL.is (StabL.is (StabL.is (StabL.cons (fun v W V hC hX h => h.bl hX) (StabL.cons (fun v W V hC hX h => h.bl hX) (StabL.cons (fun v W V hC hX h => h.bl hX) (StabL.cons (fun v W V hC hX h => h.bl hX) (StabL.is (StabL.cons (fun v W V hC hX h => h.bl hX) (StabL.is StabL.nil)))))))))))
            case step7 =>
              refine StepsL.isA ?_ (StepsL.isA ?_ (StepsL.isA ?_ (StepsL.isA ?_ (StepsL.consA ?_ (StepsL.consA ?_ (StepsL.consA ?_ (StepsL.consA ?_ (StepsL.isA ?_ (StepsL.consA ?_ (StepsL.isA ?_ StepsL.nil))))))))))
              · -- 0
                intro vs a W K ha hC hD hU hK
                have r1 : a.tmps[1]? = some (.pointer (some ⟨gS, 0, none⟩)) := by rw [ha, fillA_base0 (by kernel_rfl)]; exact tb1
                clear ha hU hD ha0
                rw [if_pos (by rfl)]
                obtain ⟨k0, k1, k2, k3, k4, k5, k6⟩ := kk.out W (bl_call HC7.out hC (Nat.le_refl _))
                go_simp
                exact hK _ hC (Below.refl _ _)
              · -- 1
                intro vs a W K ha hC hD hU hK
                clear ha hU hD ha0
                rw [if_pos (by rfl)]
                go_simp
                refine (span7_any 990 998 W).mono ?_
                rintro e w' ⟨rfl, hb⟩
                exact hK _ (bl_call hC hb (Nat.le_refl _)) hb
              · -- 2
                intro vs a W K ha hC hD hU hK
                clear ha hU hD ha0
                rw [if_pos (by rfl)]
                go_simp
                refine (span7_any 992 998 W).mono ?_
                rintro e w' ⟨rfl, hb⟩
                exact hK _ (bl_call hC hb (Nat.le_refl _)) hb
              · -- 3
                intro vs a W K ha hC hD hU hK
                clear ha hU hD ha0
                rw [if_pos (by rfl)]
                go_simp
                refine (span7_any 990 998 W).mono ?_
                rintro e w' ⟨rfl, hb⟩
                exact hK _ (bl_call hC hb (Nat.le_refl _)) hb
              · -- 4
                intro vs a W K ha hC hD hU hK
                have r58 : a.tmps[58]? = some (vs 1) := by rw [ha]; exact fillA_get0 (j := 1) (by kernel_rfl) (by rw [hsz]; decide)
                have q1 : vs 1 = .agg #[.int .i64 990, .int .i64 998] := hD 1 (by simp [waits, Region.binds])
                rw [q1] at r58
                have r59 : a.tmps[59]? = some (vs 2) := by rw [ha]; exact fillA_get0 (j := 2) (by kernel_rfl) (by rw [hsz]; decide)
                have q2 : vs 2 = .agg #[.int .i64 992, .int .i64 998] := hD 2 (by simp [waits, Region.binds])
                rw [q2] at r59
                have r60 : a.tmps[60]? = some (vs 3) := by rw [ha]; exact fillA_get0 (j := 3) (by kernel_rfl) (by rw [hsz]; decide)
                have q3 : vs 3 = .agg #[.int .i64 990, .int .i64 998] := hD 3 (by simp [waits, Region.binds])
                rw [q3] at r60
                clear ha hU hD ha0
                rw [if_pos (by rfl)]
                go_simp
                exact hK _ _ (bl_alloc hC _ (Nat.le_refl _)) (bl_alloc (Below.refl _ _) _ (Nat.le_refl _)) (IsPairsV.new [(990, 998), (992, 998), (990, 998)] _ (by rfl) (by decide) hC.size)
              · -- 5
                intro vs a W K ha hC hD hU hK
                have r57 : a.tmps[57]? = some (vs 0) := by rw [ha]; exact fillA_get0 (j := 0) (by kernel_rfl) (by rw [hsz]; decide)
                have q0 : vs 0 = .agg #[.int .i64 10, .int .i64 12, .slice (some ⟨A1, 0, none⟩) 2 ca1] := hD 0 (by simp [waits, Region.binds])
                rw [q0] at r57
                have r61 : a.tmps[61]? = some (vs 4) := by rw [ha]; exact fillA_get0 (j := 4) (by kernel_rfl) (by rw [hsz]; decide)
                have P4 : IsPairsV V7.heap.size [(990, 998), (992, 998), (990, 998)] (vs 4) W := hD 4 (by simp [waits, Region.binds])
                obtain ⟨B61, d61, e61, hI61⟩ := P4
                rw [e61] at r61
                clear ha hU hD ha0
                rw [if_pos (by rfl)]
                go_simp
                refine (klacks_any (s := exShop) (l := []) (p := [(990, 998), (992, 998), (990, 998)]) W (HMV.out W (bl_call HC7.out hC (Nat.le_refl _))) (SliceOf.nil _ _ _ _ _) (hI61.mono PairR.good (fun _ _ => trivial)) hca1 rfl rfl).mono ?_
                rw [ex7_lacks]
                rintro e w' ⟨hT, hb⟩
                obtain ⟨v, rfl, hv⟩ := IntsV.of hT
                exact hK _ _ (bl_call hC hb (Nat.le_refl _)) hb hv
              · -- 6
                intro vs a W K ha hC hD hU hK
                have r62 : a.tmps[62]? = some (vs 5) := by rw [ha]; exact fillA_get0 (j := 5) (by kernel_rfl) (by rw [hsz]; decide)
                have P5 : IntsV ([0, 1, 2], 0) (vs 5) W := hD 5 (by simp [waits, Region.binds])
                obtain ⟨A62, n62, c62, e62, hI62⟩ := P5
                rw [e62] at r62
                clear ha hU hD ha0
                rw [if_pos (by rfl)]
                go_simp
                exact hK _ _ hC (Below.refl _ _) (by first | exact ⟨_, _, _, rfl, hI62⟩ | exact ⟨_, _, _, _, _, _, rfl, hI62, hJ62⟩)
              · -- 7
                intro vs a W K ha hC hD hU hK
                have r56 : a.tmps[56]? = some (vs 6) := by rw [ha]; exact fillA_get0 (j := 6) (by kernel_rfl) (by rw [hsz]; decide)
                have P6 : IntsV ([0, 1, 2], 0) (vs 6) W := hD 6 (by simp [waits, Region.binds])
                obtain ⟨A56, n56, c56, e56, hI56⟩ := P6
                rw [e56] at r56
                clear ha hU hD ha0
                rw [if_pos (by rfl)]
                go_simp
                exact hK _ _ hC (Below.refl _ _) ⟨_, _, _, rfl, hI56⟩
              · -- 8
                intro vs a W K ha hC hD hU hK
                have r56 : a.tmps[56]? = some (vs 6) := by rw [ha]; exact fillA_get0 (j := 6) (by kernel_rfl) (by rw [hsz]; decide)
                have P6 : IntsV ([0, 1, 2], 0) (vs 6) W := hD 6 (by simp [waits, Region.binds])
                obtain ⟨A56, n56, c56, e56, hI56⟩ := P6
                rw [e56] at r56
                clear ha hU hD ha0
                rw [if_pos (by rfl)]
                go_simp
                exact hK _ hC (Below.refl _ _)
              · -- 9
                intro vs a W K ha hC hD hU hK
                have r63 : a.tmps[63]? = some (vs 7) := by rw [ha]; exact fillA_get0 (j := 7) (by kernel_rfl) (by rw [hsz]; decide)
                have P7 : SlI [0, 1, 2] (vs 7) W := hD 7 (by simp [waits, Region.binds])
                obtain ⟨A63, n63, c63, e63, hI63⟩ := P7
                rw [e63] at r63
                clear ha hU hD ha0
                rw [if_pos (by rfl)]
                go_simp
                exact hK _ _ hC (Below.refl _ _) (by first | exact ⟨_, _, _, rfl, hI63⟩ | exact ⟨_, _, _, _, _, _, rfl, hI63, hJ63⟩)
              · -- 10
                intro vs a W K ha hC hD hU hK
                have r64 : a.tmps[64]? = some (vs 8) := by rw [ha]; exact fillA_get0 (j := 8) (by kernel_rfl) (by rw [hsz]; decide)
                have q8 : vs 8 = .int .i64 0 := hD 8 (by simp [waits, Region.binds])
                rw [q8] at r64
                clear ha hU hD ha0
                rw [if_pos (by rfl)]
                go_simp
                exact hK _ hC (Below.refl _ _)
            case fin7 =>
              refine Fin1.none (Nat.le_refl _) ?_
              intro vs W a1 hC hE ha
              have hE0 := hE
              have E9 : SlI [0, 1, 2] (vs 9) W := hE 9 (by simp)
              obtain ⟨r13_A, r13_n, r13_c, r13_e, r13_h⟩ := E9
              have H_r13 := Lib.hid r13_h
              have n14_e : vs 10 = .int .i64 0 := hE 10 (by simp)
              rw [ha, ha0]
              clear ha ha0 hsz tb1
              simp only [fillA, Act.put, List.setIfInBounds_toArray, List.set_cons_zero, List.set_cons_succ, Nat.zero_add, Nat.reduceAdd, r13_e, n14_e]
              obtain ⟨u0, hu0⟩ : ∃ v0, vs 0 = v0 := ⟨_, rfl⟩
              obtain ⟨u1, hu1⟩ : ∃ v0, vs 1 = v0 := ⟨_, rfl⟩
              obtain ⟨u2, hu2⟩ : ∃ v0, vs 2 = v0 := ⟨_, rfl⟩
              obtain ⟨u3, hu3⟩ : ∃ v0, vs 3 = v0 := ⟨_, rfl⟩
              obtain ⟨u4, hu4⟩ : ∃ v0, vs 4 = v0 := ⟨_, rfl⟩
              obtain ⟨u5, hu5⟩ : ∃ v0, vs 5 = v0 := ⟨_, rfl⟩
              obtain ⟨u6, hu6⟩ : ∃ v0, vs 6 = v0 := ⟨_, rfl⟩
              obtain ⟨u7, hu7⟩ : ∃ v0, vs 7 = v0 := ⟨_, rfl⟩
              obtain ⟨u8, hu8⟩ : ∃ v0, vs 8 = v0 := ⟨_, rfl⟩
              rw [hu0, hu1, hu2, hu3, hu4, hu5, hu6, hu7, hu8]
              clear hu0 hu1 hu2 hu3 hu4 hu5 hu6 hu7 hu8
              have HL7 : Hid (Below V4.heap.size V4 W) := bl_call HC7.out hC (Nat.le_refl _)
              replace H_r13 : Hid (∀ V, Below W.heap.size W V → Ints (fun _ => True) V r13_A r13_n [0, 1, 2]) := fun V hb => H_r13.out.keep IntR.good (Keeps.below hb)
              clear r13_h
              have hCk := Lib.hid hC
              clear hE hE0 hC HC7 r13_e n14_e
              replace H_r6 : Hid (∀ V, Below W.heap.size W V → Ints (fun _ => True) V r6_A r6_n [12]) := fun V hb => H_r6.out V (bl_call hCk.out hb (Nat.le_refl _))
              replace H_r8 : Hid (∀ V, Below W.heap.size W V → Pls (fun _ => True) V r8_A r8_n [(0, 1), (0, 2), (1, 0), (1, 1)]) := fun V hb => H_r8.out V (bl_call hCk.out hb (Nat.le_refl _))
              replace H_r10 : Hid (∀ V, Below W.heap.size W V → Pls (fun _ => True) V r10_A r10_n [(0, 1), (0, 2), (1, 0)]) := fun V hb => H_r10.out V (bl_call hCk.out hb (Nat.le_refl _))
              replace H_r11 : Hid (∀ V, Below W.heap.size W V → Ints (fun _ => True) V r11_A r11_n [0, 1]) := fun V hb => H_r11.out V (bl_call hCk.out hb (Nat.le_refl _))
              clear hCk
              obtain ⟨V8, hV8⟩ : ∃ V, V = W := ⟨_, rfl⟩
              subst hV8
              go_simp
              go_wp2_with fail
              have HC8 : Hid (Below V4.heap.size V4 V8) := HL7.out
              refine wp_frameT ?_
              intro a0 ha0
              have tb1 : a0.tmps[1]? = some (.pointer (some ⟨gS, 0, none⟩)) := by rw [ha0]; kernel_rfl
              have hsz : a0.tmps.size = 160 := by rw [ha0]; kernel_rfl
              refine wp_region_list (fun W => Below V8.heap.size V8 W) (fun w w' => Below w.heap.size w w')
                [isV (.agg #[.int .i64 10, .int .i64 12, .slice (some ⟨A1, 0, none⟩) 2 ca1]), isV (.agg #[.int .i64 990, .int .i64 998]), isV (.agg #[.int .i64 992, .int .i64 998]), isV (.agg #[.int .i64 990, .int .i64 998]), IsPairsV V8.heap.size [(990, 998), (992, 998), (990, 998)], IntsV ([0, 1], 0), IntsV ([0, 1], 0), SlI [0, 1], isV (.int .i64 0), SlI [0, 1], isV (.int .i64 0)]
                (by kernel_rfl) (by kernel_rfl) (by kernel_rfl) (by simp) (by simp) (Below.refl _ _).drew ?stab8 ?step8 ?fin8
              case stab8 => exact (StabL.is (StabL.is (StabL.is (StabL.is (StabL.cons (fun v W V hC hX h => h.bl hX) (StabL.cons (fun v W V hC hX h => h.bl hX) (StabL.cons (fun v W V hC hX h => h.bl hX) (StabL.cons (fun v W V hC hX h => h.bl hX) (StabL.is (StabL.cons (fun v W V hC hX h => h.bl hX) (StabL.is StabL.nil)))))))))))
              case step8 =>
                refine StepsL.isA ?_ (StepsL.isA ?_ (StepsL.isA ?_ (StepsL.isA ?_ (StepsL.consA ?_ (StepsL.consA ?_ (StepsL.consA ?_ (StepsL.consA ?_ (StepsL.isA ?_ (StepsL.consA ?_ (StepsL.isA ?_ StepsL.nil))))))))))
                · -- 0
                  intro vs a W K ha hC hD hU hK
                  have r1 : a.tmps[1]? = some (.pointer (some ⟨gS, 0, none⟩)) := by rw [ha, fillA_base0 (by kernel_rfl)]; exact tb1
                  clear ha hU hD ha0
                  rw [if_pos (by rfl)]
                  obtain ⟨k0, k1, k2, k3, k4, k5, k6⟩ := kk.out W (bl_call HC8.out hC (Nat.le_refl _))
                  go_simp
                  exact hK _ hC (Below.refl _ _)
                · -- 1
                  intro vs a W K ha hC hD hU hK
                  clear ha hU hD ha0
                  rw [if_pos (by rfl)]
                  go_simp
                  refine (span7_any 990 998 W).mono ?_
                  rintro e w' ⟨rfl, hb⟩
                  exact hK _ (bl_call hC hb (Nat.le_refl _)) hb
                · -- 2
                  intro vs a W K ha hC hD hU hK
                  clear ha hU hD ha0
                  rw [if_pos (by rfl)]
                  go_simp
                  refine (span7_any 992 998 W).mono ?_
                  rintro e w' ⟨rfl, hb⟩
                  exact hK _ (bl_call hC hb (Nat.le_refl _)) hb
                · -- 3
                  intro vs a W K ha hC hD hU hK
                  clear ha hU hD ha0
                  rw [if_pos (by rfl)]
                  go_simp
                  refine (span7_any 990 998 W).mono ?_
                  rintro e w' ⟨rfl, hb⟩
                  exact hK _ (bl_call hC hb (Nat.le_refl _)) hb
                · -- 4
                  intro vs a W K ha hC hD hU hK
                  have r67 : a.tmps[67]? = some (vs 1) := by rw [ha]; exact fillA_get0 (j := 1) (by kernel_rfl) (by rw [hsz]; decide)
                  have q1 : vs 1 = .agg #[.int .i64 990, .int .i64 998] := hD 1 (by simp [waits, Region.binds])
                  rw [q1] at r67
                  have r68 : a.tmps[68]? = some (vs 2) := by rw [ha]; exact fillA_get0 (j := 2) (by kernel_rfl) (by rw [hsz]; decide)
                  have q2 : vs 2 = .agg #[.int .i64 992, .int .i64 998] := hD 2 (by simp [waits, Region.binds])
                  rw [q2] at r68
                  have r69 : a.tmps[69]? = some (vs 3) := by rw [ha]; exact fillA_get0 (j := 3) (by kernel_rfl) (by rw [hsz]; decide)
                  have q3 : vs 3 = .agg #[.int .i64 990, .int .i64 998] := hD 3 (by simp [waits, Region.binds])
                  rw [q3] at r69
                  clear ha hU hD ha0
                  rw [if_pos (by rfl)]
                  go_simp
                  exact hK _ _ (bl_alloc hC _ (Nat.le_refl _)) (bl_alloc (Below.refl _ _) _ (Nat.le_refl _)) (IsPairsV.new [(990, 998), (992, 998), (990, 998)] _ (by rfl) (by decide) hC.size)
                · -- 5
                  intro vs a W K ha hC hD hU hK
                  have r66 : a.tmps[66]? = some (vs 0) := by rw [ha]; exact fillA_get0 (j := 0) (by kernel_rfl) (by rw [hsz]; decide)
                  have q0 : vs 0 = .agg #[.int .i64 10, .int .i64 12, .slice (some ⟨A1, 0, none⟩) 2 ca1] := hD 0 (by simp [waits, Region.binds])
                  rw [q0] at r66
                  have r70 : a.tmps[70]? = some (vs 4) := by rw [ha]; exact fillA_get0 (j := 4) (by kernel_rfl) (by rw [hsz]; decide)
                  have P4 : IsPairsV V8.heap.size [(990, 998), (992, 998), (990, 998)] (vs 4) W := hD 4 (by simp [waits, Region.binds])
                  obtain ⟨B70, d70, e70, hI70⟩ := P4
                  rw [e70] at r70
                  clear ha hU hD ha0
                  rw [if_pos (by rfl)]
                  go_simp
                  refine (ksome_any (s := exShop) (l := []) (p := [(990, 998), (992, 998), (990, 998)]) W (HMV.out W (bl_call HC8.out hC (Nat.le_refl _))) (SliceOf.nil _ _ _ _ _) (hI70.mono PairR.good (fun _ _ => trivial)) hca1 rfl rfl).mono ?_
                  rw [ex7_some]
                  rintro e w' ⟨hT, hb⟩
                  obtain ⟨v, rfl, hv⟩ := IntsV.of hT
                  exact hK _ _ (bl_call hC hb (Nat.le_refl _)) hb hv
                · -- 6
                  intro vs a W K ha hC hD hU hK
                  have r71 : a.tmps[71]? = some (vs 5) := by rw [ha]; exact fillA_get0 (j := 5) (by kernel_rfl) (by rw [hsz]; decide)
                  have P5 : IntsV ([0, 1], 0) (vs 5) W := hD 5 (by simp [waits, Region.binds])
                  obtain ⟨A71, n71, c71, e71, hI71⟩ := P5
                  rw [e71] at r71
                  clear ha hU hD ha0
                  rw [if_pos (by rfl)]
                  go_simp
                  exact hK _ _ hC (Below.refl _ _) (by first | exact ⟨_, _, _, rfl, hI71⟩ | exact ⟨_, _, _, _, _, _, rfl, hI71, hJ71⟩)
                · -- 7
                  intro vs a W K ha hC hD hU hK
                  have r65 : a.tmps[65]? = some (vs 6) := by rw [ha]; exact fillA_get0 (j := 6) (by kernel_rfl) (by rw [hsz]; decide)
                  have P6 : IntsV ([0, 1], 0) (vs 6) W := hD 6 (by simp [waits, Region.binds])
                  obtain ⟨A65, n65, c65, e65, hI65⟩ := P6
                  rw [e65] at r65
                  clear ha hU hD ha0
                  rw [if_pos (by rfl)]
                  go_simp
                  exact hK _ _ hC (Below.refl _ _) ⟨_, _, _, rfl, hI65⟩
                · -- 8
                  intro vs a W K ha hC hD hU hK
                  have r65 : a.tmps[65]? = some (vs 6) := by rw [ha]; exact fillA_get0 (j := 6) (by kernel_rfl) (by rw [hsz]; decide)
                  have P6 : IntsV ([0, 1], 0) (vs 6) W := hD 6 (by simp [waits, Region.binds])
                  obtain ⟨A65, n65, c65, e65, hI65⟩ := P6
                  rw [e65] at r65
                  clear ha hU hD ha0
                  rw [if_pos (by rfl)]
                  go_simp
                  exact hK _ hC (Below.refl _ _)
                · -- 9
                  intro vs a W K ha hC hD hU hK
                  have r72 : a.tmps[72]? = some (vs 7) := by rw [ha]; exact fillA_get0 (j := 7) (by kernel_rfl) (by rw [hsz]; decide)
                  have P7 : SlI [0, 1] (vs 7) W := hD 7 (by simp [waits, Region.binds])
                  obtain ⟨A72, n72, c72, e72, hI72⟩ := P7
                  rw [e72] at r72
                  clear ha hU hD ha0
                  rw [if_pos (by rfl)]
                  go_simp
                  exact hK _ _ hC (Below.refl _ _) (by first | exact ⟨_, _, _, rfl, hI72⟩ | exact ⟨_, _, _, _, _, _, rfl, hI72, hJ72⟩)
                · -- 10
                  intro vs a W K ha hC hD hU hK
                  have r73 : a.tmps[73]? = some (vs 8) := by rw [ha]; exact fillA_get0 (j := 8) (by kernel_rfl) (by rw [hsz]; decide)
                  have q8 : vs 8 = .int .i64 0 := hD 8 (by simp [waits, Region.binds])
                  rw [q8] at r73
                  clear ha hU hD ha0
                  rw [if_pos (by rfl)]
                  go_simp
                  exact hK _ hC (Below.refl _ _)
              case fin8 =>
                refine Fin1.none (Nat.le_refl _) ?_
                intro vs W a1 hC hE ha
                have hE0 := hE
                have E9 : SlI [0, 1] (vs 9) W := hE 9 (by simp)
                obtain ⟨r15_A, r15_n, r15_c, r15_e, r15_h⟩ := E9
                have H_r15 := Lib.hid r15_h
                have n16_e : vs 10 = .int .i64 0 := hE 10 (by simp)
                rw [ha, ha0]
                clear ha ha0 hsz tb1
                simp only [fillA, Act.put, List.setIfInBounds_toArray, List.set_cons_zero, List.set_cons_succ, Nat.zero_add, Nat.reduceAdd, r15_e, n16_e]
                obtain ⟨u0, hu0⟩ : ∃ v0, vs 0 = v0 := ⟨_, rfl⟩
                obtain ⟨u1, hu1⟩ : ∃ v0, vs 1 = v0 := ⟨_, rfl⟩
                obtain ⟨u2, hu2⟩ : ∃ v0, vs 2 = v0 := ⟨_, rfl⟩
                obtain ⟨u3, hu3⟩ : ∃ v0, vs 3 = v0 := ⟨_, rfl⟩
                obtain ⟨u4, hu4⟩ : ∃ v0, vs 4 = v0 := ⟨_, rfl⟩
                obtain ⟨u5, hu5⟩ : ∃ v0, vs 5 = v0 := ⟨_, rfl⟩
                obtain ⟨u6, hu6⟩ : ∃ v0, vs 6 = v0 := ⟨_, rfl⟩
                obtain ⟨u7, hu7⟩ : ∃ v0, vs 7 = v0 := ⟨_, rfl⟩
                obtain ⟨u8, hu8⟩ : ∃ v0, vs 8 = v0 := ⟨_, rfl⟩
                rw [hu0, hu1, hu2, hu3, hu4, hu5, hu6, hu7, hu8]
                clear hu0 hu1 hu2 hu3 hu4 hu5 hu6 hu7 hu8
                have HL8 : Hid (Below V4.heap.size V4 W) := bl_call HC8.out hC (Nat.le_refl _)
                replace H_r15 : Hid (∀ V, Below W.heap.size W V → Ints (fun _ => True) V r15_A r15_n [0, 1]) := fun V hb => H_r15.out.keep IntR.good (Keeps.below hb)
                clear r15_h
                have hCk := Lib.hid hC
                clear hE hE0 hC HC8 r15_e n16_e
                replace H_r6 : Hid (∀ V, Below W.heap.size W V → Ints (fun _ => True) V r6_A r6_n [12]) := fun V hb => H_r6.out V (bl_call hCk.out hb (Nat.le_refl _))
                replace H_r8 : Hid (∀ V, Below W.heap.size W V → Pls (fun _ => True) V r8_A r8_n [(0, 1), (0, 2), (1, 0), (1, 1)]) := fun V hb => H_r8.out V (bl_call hCk.out hb (Nat.le_refl _))
                replace H_r10 : Hid (∀ V, Below W.heap.size W V → Pls (fun _ => True) V r10_A r10_n [(0, 1), (0, 2), (1, 0)]) := fun V hb => H_r10.out V (bl_call hCk.out hb (Nat.le_refl _))
                replace H_r11 : Hid (∀ V, Below W.heap.size W V → Ints (fun _ => True) V r11_A r11_n [0, 1]) := fun V hb => H_r11.out V (bl_call hCk.out hb (Nat.le_refl _))
                replace H_r13 : Hid (∀ V, Below W.heap.size W V → Ints (fun _ => True) V r13_A r13_n [0, 1, 2]) := fun V hb => H_r13.out V (bl_call hCk.out hb (Nat.le_refl _))
                clear hCk
                obtain ⟨V9, hV9⟩ : ∃ V, V = W := ⟨_, rfl⟩
                subst hV9
                go_simp
                go_wp2_with fail
                have HC9 : Hid (Below V4.heap.size V4 V9) := HL8.out
                refine wp_frameT ?_
                intro a0 ha0
                have tb1 : a0.tmps[1]? = some (.pointer (some ⟨gS, 0, none⟩)) := by rw [ha0]; kernel_rfl
                have hsz : a0.tmps.size = 160 := by rw [ha0]; kernel_rfl
                refine wp_region_list (fun W => Below V9.heap.size V9 W) (fun w w' => Below w.heap.size w w')
                  [isV (.agg #[.int .i64 10, .int .i64 12, .slice (some ⟨A1, 0, none⟩) 2 ca1]), isV (.agg #[.int .i64 990, .int .i64 1000]), isV (.agg #[.int .i64 999, .int .i64 1000]), IsPairsV V9.heap.size [(990, 1000), (999, 1000)], PlanV ([], [], 8), PlanV ([], [], 8), SlP [], SlI [], isV (.int .i64 8), SlP [], SlI [], isV (.int .i64 8)]
                  (by kernel_rfl) (by kernel_rfl) (by kernel_rfl) (by simp) (by simp) (Below.refl _ _).drew ?stab9 ?step9 ?fin9
                case stab9 => exact (StabL.is (StabL.is (StabL.is (StabL.cons (fun v W V hC hX h => h.bl hX) (StabL.cons (fun v W V hC hX h => h.bl hX) (StabL.cons (fun v W V hC hX h => h.bl hX) (StabL.cons (fun v W V hC hX h => h.bl hX) (StabL.cons (fun v W V hC hX h => h.bl hX) (StabL.is (StabL.cons (fun v W V hC hX h => h.bl hX) (StabL.cons (fun v W V hC hX h => h.bl hX) (StabL.is StabL.nil))))))))))))
                case step9 =>
                  refine StepsL.isA ?_ (StepsL.isA ?_ (StepsL.isA ?_ (StepsL.consA ?_ (StepsL.consA ?_ (StepsL.consA ?_ (StepsL.consA ?_ (StepsL.consA ?_ (StepsL.isA ?_ (StepsL.consA ?_ (StepsL.consA ?_ (StepsL.isA ?_ StepsL.nil)))))))))))
                  · -- 0
                    intro vs a W K ha hC hD hU hK
                    have r1 : a.tmps[1]? = some (.pointer (some ⟨gS, 0, none⟩)) := by rw [ha, fillA_base0 (by kernel_rfl)]; exact tb1
                    clear ha hU hD ha0
                    rw [if_pos (by rfl)]
                    obtain ⟨k0, k1, k2, k3, k4, k5, k6⟩ := kk.out W (bl_call HC9.out hC (Nat.le_refl _))
                    go_simp
                    exact hK _ hC (Below.refl _ _)
                  · -- 1
                    intro vs a W K ha hC hD hU hK
                    clear ha hU hD ha0
                    rw [if_pos (by rfl)]
                    go_simp
                    refine (span7_any 990 1000 W).mono ?_
                    rintro e w' ⟨rfl, hb⟩
                    exact hK _ (bl_call hC hb (Nat.le_refl _)) hb
                  · -- 2
                    intro vs a W K ha hC hD hU hK
                    clear ha hU hD ha0
                    rw [if_pos (by rfl)]
                    go_simp
                    refine (span7_any 999 1000 W).mono ?_
                    rintro e w' ⟨rfl, hb⟩
                    exact hK _ (bl_call hC hb (Nat.le_refl _)) hb
                  · -- 3
                    intro vs a W K ha hC hD hU hK
                    have r76 : a.tmps[76]? = some (vs 1) := by rw [ha]; exact fillA_get0 (j := 1) (by kernel_rfl) (by rw [hsz]; decide)
                    have q1 : vs 1 = .agg #[.int .i64 990, .int .i64 1000] := hD 1 (by simp [waits, Region.binds])
                    rw [q1] at r76
                    have r77 : a.tmps[77]? = some (vs 2) := by rw [ha]; exact fillA_get0 (j := 2) (by kernel_rfl) (by rw [hsz]; decide)
                    have q2 : vs 2 = .agg #[.int .i64 999, .int .i64 1000] := hD 2 (by simp [waits, Region.binds])
                    rw [q2] at r77
                    clear ha hU hD ha0
                    rw [if_pos (by rfl)]
                    go_simp
                    exact hK _ _ (bl_alloc hC _ (Nat.le_refl _)) (bl_alloc (Below.refl _ _) _ (Nat.le_refl _)) (IsPairsV.new [(990, 1000), (999, 1000)] _ (by rfl) (by decide) hC.size)
                  · -- 4
                    intro vs a W K ha hC hD hU hK
                    have r75 : a.tmps[75]? = some (vs 0) := by rw [ha]; exact fillA_get0 (j := 0) (by kernel_rfl) (by rw [hsz]; decide)
                    have q0 : vs 0 = .agg #[.int .i64 10, .int .i64 12, .slice (some ⟨A1, 0, none⟩) 2 ca1] := hD 0 (by simp [waits, Region.binds])
                    rw [q0] at r75
                    have r78 : a.tmps[78]? = some (vs 3) := by rw [ha]; exact fillA_get0 (j := 3) (by kernel_rfl) (by rw [hsz]; decide)
                    have P3 : IsPairsV V9.heap.size [(990, 1000), (999, 1000)] (vs 3) W := hD 3 (by simp [waits, Region.binds])
                    obtain ⟨B78, d78, e78, hI78⟩ := P3
                    rw [e78] at r78
                    clear ha hU hD ha0
                    rw [if_pos (by rfl)]
                    go_simp
                    refine (kplan_any (s := exShop) (l := []) (p := [(990, 1000), (999, 1000)]) W (HMV.out W (bl_call HC9.out hC (Nat.le_refl _))) (SliceOf.nil _ _ _ _ _) (hI78.mono PairR.good (fun _ _ => trivial)) hca1 rfl rfl).mono ?_
                    rw [ex7_none]
                    rintro e w' ⟨hT, hb⟩
                    obtain ⟨v, rfl, hv⟩ := PlanV.of hT
                    exact hK _ _ (bl_call hC hb (Nat.le_refl _)) hb hv
                  · -- 5
                    intro vs a W K ha hC hD hU hK
                    have r79 : a.tmps[79]? = some (vs 4) := by rw [ha]; exact fillA_get0 (j := 4) (by kernel_rfl) (by rw [hsz]; decide)
                    have P4 : PlanV ([], [], 8) (vs 4) W := hD 4 (by simp [waits, Region.binds])
                    obtain ⟨A79, n79, c79, B79, m79, d79, e79, hI79, hJ79⟩ := P4
                    rw [e79] at r79
                    clear ha hU hD ha0
                    rw [if_pos (by rfl)]
                    go_simp
                    exact hK _ _ hC (Below.refl _ _) (by first | exact ⟨_, _, _, rfl, hI79⟩ | exact ⟨_, _, _, _, _, _, rfl, hI79, hJ79⟩)
                  · -- 6
                    intro vs a W K ha hC hD hU hK
                    have r74 : a.tmps[74]? = some (vs 5) := by rw [ha]; exact fillA_get0 (j := 5) (by kernel_rfl) (by rw [hsz]; decide)
                    have P5 : PlanV ([], [], 8) (vs 5) W := hD 5 (by simp [waits, Region.binds])
                    obtain ⟨A74, n74, c74, B74, m74, d74, e74, hI74, hJ74⟩ := P5
                    rw [e74] at r74
                    clear ha hU hD ha0
                    rw [if_pos (by rfl)]
                    go_simp
                    exact hK _ _ hC (Below.refl _ _) ⟨_, _, _, rfl, hI74⟩
                  · -- 7
                    intro vs a W K ha hC hD hU hK
                    have r74 : a.tmps[74]? = some (vs 5) := by rw [ha]; exact fillA_get0 (j := 5) (by kernel_rfl) (by rw [hsz]; decide)
                    have P5 : PlanV ([], [], 8) (vs 5) W := hD 5 (by simp [waits, Region.binds])
                    obtain ⟨A74, n74, c74, B74, m74, d74, e74, hI74, hJ74⟩ := P5
                    rw [e74] at r74
                    clear ha hU hD ha0
                    rw [if_pos (by rfl)]
                    go_simp
                    exact hK _ _ hC (Below.refl _ _) ⟨_, _, _, rfl, hJ74⟩
                  · -- 8
                    intro vs a W K ha hC hD hU hK
                    have r74 : a.tmps[74]? = some (vs 5) := by rw [ha]; exact fillA_get0 (j := 5) (by kernel_rfl) (by rw [hsz]; decide)
                    have P5 : PlanV ([], [], 8) (vs 5) W := hD 5 (by simp [waits, Region.binds])
                    obtain ⟨A74, n74, c74, B74, m74, d74, e74, hI74, hJ74⟩ := P5
                    rw [e74] at r74
                    clear ha hU hD ha0
                    rw [if_pos (by rfl)]
                    go_simp
                    exact hK _ hC (Below.refl _ _)
                  · -- 9
                    intro vs a W K ha hC hD hU hK
                    have r80 : a.tmps[80]? = some (vs 6) := by rw [ha]; exact fillA_get0 (j := 6) (by kernel_rfl) (by rw [hsz]; decide)
                    have P6 : SlP [] (vs 6) W := hD 6 (by simp [waits, Region.binds])
                    obtain ⟨A80, n80, c80, e80, hI80⟩ := P6
                    rw [e80] at r80
                    clear ha hU hD ha0
                    rw [if_pos (by rfl)]
                    go_simp
                    exact hK _ _ hC (Below.refl _ _) (by first | exact ⟨_, _, _, rfl, hI80⟩ | exact ⟨_, _, _, _, _, _, rfl, hI80, hJ80⟩)
                  · -- 10
                    intro vs a W K ha hC hD hU hK
                    have r81 : a.tmps[81]? = some (vs 7) := by rw [ha]; exact fillA_get0 (j := 7) (by kernel_rfl) (by rw [hsz]; decide)
                    have P7 : SlI [] (vs 7) W := hD 7 (by simp [waits, Region.binds])
                    obtain ⟨A81, n81, c81, e81, hI81⟩ := P7
                    rw [e81] at r81
                    clear ha hU hD ha0
                    rw [if_pos (by rfl)]
                    go_simp
                    exact hK _ _ hC (Below.refl _ _) (by first | exact ⟨_, _, _, rfl, hI81⟩ | exact ⟨_, _, _, _, _, _, rfl, hI81, hJ81⟩)
                  · -- 11
                    intro vs a W K ha hC hD hU hK
                    have r82 : a.tmps[82]? = some (vs 8) := by rw [ha]; exact fillA_get0 (j := 8) (by kernel_rfl) (by rw [hsz]; decide)
                    have q8 : vs 8 = .int .i64 8 := hD 8 (by simp [waits, Region.binds])
                    rw [q8] at r82
                    clear ha hU hD ha0
                    rw [if_pos (by rfl)]
                    go_simp
                    exact hK _ hC (Below.refl _ _)
                case fin9 =>
                  refine Fin1.none (Nat.le_refl _) ?_
                  intro vs W a1 hC hE ha
                  have hE0 := hE
                  have E9 : SlP [] (vs 9) W := hE 9 (by simp)
                  obtain ⟨r17_A, r17_n, r17_c, r17_e, r17_h⟩ := E9
                  have H_r17 := Lib.hid r17_h
                  have E10 : SlI [] (vs 10) W := hE 10 (by simp)
                  obtain ⟨r18_A, r18_n, r18_c, r18_e, r18_h⟩ := E10
                  have H_r18 := Lib.hid r18_h
                  have n19_e : vs 11 = .int .i64 8 := hE 11 (by simp)
                  rw [ha, ha0]
                  clear ha ha0 hsz tb1
                  simp only [fillA, Act.put, List.setIfInBounds_toArray, List.set_cons_zero, List.set_cons_succ, Nat.zero_add, Nat.reduceAdd, r17_e, r18_e, n19_e]
                  obtain ⟨u0, hu0⟩ : ∃ v0, vs 0 = v0 := ⟨_, rfl⟩
                  obtain ⟨u1, hu1⟩ : ∃ v0, vs 1 = v0 := ⟨_, rfl⟩
                  obtain ⟨u2, hu2⟩ : ∃ v0, vs 2 = v0 := ⟨_, rfl⟩
                  obtain ⟨u3, hu3⟩ : ∃ v0, vs 3 = v0 := ⟨_, rfl⟩
                  obtain ⟨u4, hu4⟩ : ∃ v0, vs 4 = v0 := ⟨_, rfl⟩
                  obtain ⟨u5, hu5⟩ : ∃ v0, vs 5 = v0 := ⟨_, rfl⟩
                  obtain ⟨u6, hu6⟩ : ∃ v0, vs 6 = v0 := ⟨_, rfl⟩
                  obtain ⟨u7, hu7⟩ : ∃ v0, vs 7 = v0 := ⟨_, rfl⟩
                  obtain ⟨u8, hu8⟩ : ∃ v0, vs 8 = v0 := ⟨_, rfl⟩
                  rw [hu0, hu1, hu2, hu3, hu4, hu5, hu6, hu7, hu8]
                  clear hu0 hu1 hu2 hu3 hu4 hu5 hu6 hu7 hu8
                  have HL9 : Hid (Below V4.heap.size V4 W) := bl_call HC9.out hC (Nat.le_refl _)
                  replace H_r17 : Hid (∀ V, Below W.heap.size W V → Pls (fun _ => True) V r17_A r17_n []) := fun V hb => H_r17.out.keep PlR.good (Keeps.below hb)
                  clear r17_h
                  replace H_r18 : Hid (∀ V, Below W.heap.size W V → Ints (fun _ => True) V r18_A r18_n []) := fun V hb => H_r18.out.keep IntR.good (Keeps.below hb)
                  clear r18_h
                  have hCk := Lib.hid hC
                  clear hE hE0 hC HC9 r17_e r18_e n19_e
                  replace H_r6 : Hid (∀ V, Below W.heap.size W V → Ints (fun _ => True) V r6_A r6_n [12]) := fun V hb => H_r6.out V (bl_call hCk.out hb (Nat.le_refl _))
                  replace H_r8 : Hid (∀ V, Below W.heap.size W V → Pls (fun _ => True) V r8_A r8_n [(0, 1), (0, 2), (1, 0), (1, 1)]) := fun V hb => H_r8.out V (bl_call hCk.out hb (Nat.le_refl _))
                  replace H_r10 : Hid (∀ V, Below W.heap.size W V → Pls (fun _ => True) V r10_A r10_n [(0, 1), (0, 2), (1, 0)]) := fun V hb => H_r10.out V (bl_call hCk.out hb (Nat.le_refl _))
                  replace H_r11 : Hid (∀ V, Below W.heap.size W V → Ints (fun _ => True) V r11_A r11_n [0, 1]) := fun V hb => H_r11.out V (bl_call hCk.out hb (Nat.le_refl _))
                  replace H_r13 : Hid (∀ V, Below W.heap.size W V → Ints (fun _ => True) V r13_A r13_n [0, 1, 2]) := fun V hb => H_r13.out V (bl_call hCk.out hb (Nat.le_refl _))
                  replace H_r15 : Hid (∀ V, Below W.heap.size W V → Ints (fun _ => True) V r15_A r15_n [0, 1]) := fun V hb => H_r15.out V (bl_call hCk.out hb (Nat.le_refl _))
                  clear hCk
                  obtain ⟨V10, hV10⟩ : ∃ V, V = W := ⟨_, rfl⟩
                  subst hV10
                  go_simp
                  go_wp2_with fail
                  have HC10 : Hid (Below V4.heap.size V4 V10) := HL9.out
                  refine wp_frameT ?_
                  intro a0 ha0
                  have tb2 : a0.tmps[2]? = some (.pointer (some ⟨g2, 0, none⟩)) := by rw [ha0]; kernel_rfl
                  have tb3 : a0.tmps[3]? = some (.int .i64 0) := by rw [ha0]; kernel_rfl
                  have tb4 : a0.tmps[4]? = some (.pointer (some ⟨g4, 0, none⟩)) := by rw [ha0]; kernel_rfl
                  have tb5 : a0.tmps[5]? = some (.int .i64 0) := by rw [ha0]; kernel_rfl
                  have tb6 : a0.tmps[6]? = some (.slice r6_A r6_n r6_c) := by rw [ha0]; kernel_rfl
                  have tb7 : a0.tmps[7]? = some (.int .i64 0) := by rw [ha0]; kernel_rfl
                  have tb8 : a0.tmps[8]? = some (.slice r8_A r8_n r8_c) := by rw [ha0]; kernel_rfl
                  have tb9 : a0.tmps[9]? = some (.int .i64 0) := by rw [ha0]; kernel_rfl
                  have tb10 : a0.tmps[10]? = some (.slice r10_A r10_n r10_c) := by rw [ha0]; kernel_rfl
                  have tb11 : a0.tmps[11]? = some (.slice r11_A r11_n r11_c) := by rw [ha0]; kernel_rfl
                  have tb12 : a0.tmps[12]? = some (.int .i64 0) := by rw [ha0]; kernel_rfl
                  have tb13 : a0.tmps[13]? = some (.slice r13_A r13_n r13_c) := by rw [ha0]; kernel_rfl
                  have tb14 : a0.tmps[14]? = some (.int .i64 0) := by rw [ha0]; kernel_rfl
                  have tb15 : a0.tmps[15]? = some (.slice r15_A r15_n r15_c) := by rw [ha0]; kernel_rfl
                  have tb16 : a0.tmps[16]? = some (.int .i64 0) := by rw [ha0]; kernel_rfl
                  have tb19 : a0.tmps[19]? = some (.int .i64 8) := by rw [ha0]; kernel_rfl
                  have hsz : a0.tmps.size = 160 := by rw [ha0]; kernel_rfl
                  refine wp_region_list (fun W => Below V10.heap.size V10 W) (fun w w' => Below w.heap.size w w')
                    [isV (.int .i64 0), isV (.bool true), isV (.bool true), isV (.int .i64 0), isV (.bool true), isV (.bool true), isV (.bool true), isV (.int .i64 0), isV (.bool true), isV (.bool true), isV (.bool true), isV (.int .i64 0), isV (.bool true), isV (.bool true), isV (.bool true), isV (.int .i64 0), isV (.bool true), isV (.bool true), isV (.bool true), isV (.int .i64 0), isV (.bool true), isV (.bool true), isV (.bool true), isV (.int .i64 0), isV (.bool true), isV (.bool true), isV (.bool true), isV (.int .i64 8), isV (.bool true), isV (.bool true), isV (.bool true), isV (.agg #[.int .i64 994, .int .i64 1001]), isV (.agg #[.int .i64 994, .int .i64 1001]), isV (.bool true), isV (.bool true), isV (.bool true), isV (.agg #[.int .i64 994, .int .i64 999]), isV (.agg #[.int .i64 994, .int .i64 999]), isV (.bool true), isV (.bool true), isV (.bool true), isV (.slice r6_A r6_n r6_c), IsIntsV V10.heap.size [12], isV (.bool true), isV (.bool true), isV (.bool true), isV (.slice r8_A r8_n r8_c), isV (.agg #[.int .i64 0, .int .i64 1]), isV (.agg #[.int .i64 0, .int .i64 2]), isV (.agg #[.int .i64 1, .int .i64 0]), isV (.agg #[.int .i64 1, .int .i64 1]), IsPlsV V10.heap.size [(0, 1), (0, 2), (1, 0), (1, 1)], isV (.bool true), isV (.bool true), isV (.bool true), isV (.slice r10_A r10_n r10_c), isV (.agg #[.int .i64 0, .int .i64 1]), isV (.agg #[.int .i64 0, .int .i64 2]), isV (.agg #[.int .i64 1, .int .i64 0]), IsPlsV V10.heap.size [(0, 1), (0, 2), (1, 0)], isV (.bool true), isV (.bool true), isV (.bool true), isV (.slice r11_A r11_n r11_c), IsIntsV V10.heap.size [0, 1], isV (.bool true), isV (.bool true), isV (.bool true), isV (.slice r13_A r13_n r13_c), IsIntsV V10.heap.size [0, 1, 2], isV (.bool true), isV (.bool true), isV (.bool true), isV (.slice r15_A r15_n r15_c), IsIntsV V10.heap.size [0, 1], isV (.bool true), isV (.bool true), isV (.bool true)]
                    (by kernel_rfl) (by kernel_rfl) (by kernel_rfl) (by simp) (by simp) (Below.refl _ _).drew ?stabT ?stepT ?finT
                  case stabT => exact (StabL.is (StabL.is (StabL.is (StabL.is (StabL.is (StabL.is (StabL.is (StabL.is (StabL.is (StabL.is (StabL.is (StabL.is (StabL.is (StabL.is (StabL.is (StabL.is (StabL.is (StabL.is (StabL.is (StabL.is (StabL.is (StabL.is (StabL.is (StabL.is (StabL.is (StabL.is (StabL.is (StabL.is (StabL.is (StabL.is (StabL.is (StabL.is (StabL.is (StabL.is (StabL.is (StabL.is (StabL.is (StabL.is (StabL.is (StabL.is (StabL.is (StabL.is (StabL.cons (fun v W V hC hX h => h.bl hX) (StabL.is (StabL.is (StabL.is (StabL.is (StabL.is (StabL.is (StabL.is (StabL.is (StabL.cons (fun v W V hC hX h => h.bl hX) (StabL.is (StabL.is (StabL.is (StabL.is (StabL.is (StabL.is (StabL.is (StabL.cons (fun v W V hC hX h => h.bl hX) (StabL.is (StabL.is (StabL.is (StabL.is (StabL.cons (fun v W V hC hX h => h.bl hX) (StabL.is (StabL.is (StabL.is (StabL.is (StabL.cons (fun v W V hC hX h => h.bl hX) (StabL.is (StabL.is (StabL.is (StabL.is (StabL.cons (fun v W V hC hX h => h.bl hX) (StabL.is (StabL.is (StabL.is StabL.nil))))))))))))))))))))))))))))))))))))))))))))))))))))))))))))))))))))))))))))))
                  case stepT =>
                    refine StepsL.isA ?_ (StepsL.isA ?_ (StepsL.isA ?_ (StepsL.isA ?_ (StepsL.isA ?_ (StepsL.isA ?_ (StepsL.isA ?_ (StepsL.isA ?_ (StepsL.isA ?_ (StepsL.isA ?_ (StepsL.isA ?_ (StepsL.isA ?_ (StepsL.isA ?_ (StepsL.isA ?_ (StepsL.isA ?_ (StepsL.isA ?_ (StepsL.isA ?_ (StepsL.isA ?_ (StepsL.isA ?_ (StepsL.isA ?_ (StepsL.isA ?_ (StepsL.isA ?_ (StepsL.isA ?_ (StepsL.isA ?_ (StepsL.isA ?_ (StepsL.isA ?_ (StepsL.isA ?_ (StepsL.isA ?_ (StepsL.isA ?_ (StepsL.isA ?_ (StepsL.isA ?_ (StepsL.isA ?_ (StepsL.isA ?_ (StepsL.isA ?_ (StepsL.isA ?_ (StepsL.isA ?_ (StepsL.isA ?_ (StepsL.isA ?_ (StepsL.isA ?_ (StepsL.isA ?_ (StepsL.isA ?_ (StepsL.isA ?_ (StepsL.consA ?_ (StepsL.isA ?_ (StepsL.isA ?_ (StepsL.isA ?_ (StepsL.isA ?_ (StepsL.isA ?_ (StepsL.isA ?_ (StepsL.isA ?_ (StepsL.isA ?_ (StepsL.consA ?_ (StepsL.isA ?_ (StepsL.isA ?_ (StepsL.isA ?_ (StepsL.isA ?_ (StepsL.isA ?_ (StepsL.isA ?_ (StepsL.isA ?_ (StepsL.consA ?_ (StepsL.isA ?_ (StepsL.isA ?_ (StepsL.isA ?_ (StepsL.isA ?_ (StepsL.consA ?_ (StepsL.isA ?_ (StepsL.isA ?_ (StepsL.isA ?_ (StepsL.isA ?_ (StepsL.consA ?_ (StepsL.isA ?_ (StepsL.isA ?_ (StepsL.isA ?_ (StepsL.isA ?_ (StepsL.consA ?_ (StepsL.isA ?_ (StepsL.isA ?_ (StepsL.isA ?_ StepsL.nil)))))))))))))))))))))))))))))))))))))))))))))))))))))))))))))))))))))))))))))
                    · -- 0
                      intro vs a W K ha hC hD hU hK
                      have r3 : a.tmps[3]? = some (.int .i64 0) := by rw [ha, fillA_base0 (by kernel_rfl)]; exact tb3
                      clear ha hU hD ha0
                      rw [if_pos (by rfl)]
                      go_simp
                      exact hK _ hC (Below.refl _ _)
                    · -- 1
                      intro vs a W K ha hC hD hU hK
                      have r83 : a.tmps[83]? = some (vs 0) := by rw [ha]; exact fillA_get0 (j := 0) (by kernel_rfl) (by rw [hsz]; decide)
                      have q0 : vs 0 = .int .i64 0 := hD 0 (by simp [waits, Region.binds])
                      rw [q0] at r83
                      clear ha hU hD ha0
                      rw [if_pos (by rfl)]
                      go_simp
                      exact hK _ hC (Below.refl _ _)
                    · -- 2
                      intro vs a W K ha hC hD hU hK
                      have r84 : a.tmps[84]? = some (vs 1) := by rw [ha]; exact fillA_get0 (j := 1) (by kernel_rfl) (by rw [hsz]; decide)
                      have q1 : vs 1 = .bool true := hD 1 (by simp [waits, Region.binds])
                      rw [q1] at r84
                      clear ha hU hD ha0
                      rw [if_pos (by rfl)]
                      go_simp
                      exact hK _ hC (Below.refl _ _)
                    · -- 3
                      intro vs a W K ha hC hD hU hK
                      have r85 : a.tmps[85]? = some (vs 2) := by rw [ha]; exact fillA_get0 (j := 2) (by kernel_rfl) (by rw [hsz]; decide)
                      have q2 : vs 2 = .bool true := hD 2 (by simp [waits, Region.binds])
                      rw [q2] at r85
                      have r5 : a.tmps[5]? = some (.int .i64 0) := by rw [ha, fillA_base0 (by kernel_rfl)]; exact tb5
                      clear ha hU hD ha0
                      rw [if_pos (by simp [Region.wanted, yielded, r85])]
                      go_simp
                      exact hK _ hC (Below.refl _ _)
                    · -- 4
                      intro vs a W K ha hC hD hU hK
                      have r85 : a.tmps[85]? = some (vs 2) := by rw [ha]; exact fillA_get0 (j := 2) (by kernel_rfl) (by rw [hsz]; decide)
                      have q2 : vs 2 = .bool true := hD 2 (by simp [waits, Region.binds])
                      rw [q2] at r85
                      have r86 : a.tmps[86]? = some (vs 3) := by rw [ha]; exact fillA_get0 (j := 3) (by kernel_rfl) (by rw [hsz]; decide)
                      have q3 : vs 3 = .int .i64 0 := hD 3 (by simp [waits, Region.binds])
                      rw [q3] at r86
                      clear ha hU hD ha0
                      rw [if_pos (by simp [Region.wanted, yielded, r85])]
                      go_simp
                      exact hK _ hC (Below.refl _ _)
                    · -- 5
                      intro vs a W K ha hC hD hU hK
                      have r85 : a.tmps[85]? = some (vs 2) := by rw [ha]; exact fillA_get0 (j := 2) (by kernel_rfl) (by rw [hsz]; decide)
                      have q2 : vs 2 = .bool true := hD 2 (by simp [waits, Region.binds])
                      rw [q2] at r85
                      have r87 : a.tmps[87]? = some (vs 4) := by rw [ha]; exact fillA_get0 (j := 4) (by kernel_rfl) (by rw [hsz]; decide)
                      have q4 : vs 4 = .bool true := hD 4 (by simp [waits, Region.binds])
                      rw [q4] at r87
                      clear ha hU hD ha0
                      rw [if_pos (by rfl)]
                      go_simp
                      exact hK _ hC (Below.refl _ _)
                    · -- 6
                      intro vs a W K ha hC hD hU hK
                      have r88 : a.tmps[88]? = some (vs 5) := by rw [ha]; exact fillA_get0 (j := 5) (by kernel_rfl) (by rw [hsz]; decide)
                      have q5 : vs 5 = .bool true := hD 5 (by simp [waits, Region.binds])
                      rw [q5] at r88
                      clear ha hU hD ha0
                      rw [if_pos (by rfl)]
                      go_simp
                      exact hK _ hC (Below.refl _ _)
                    · -- 7
                      intro vs a W K ha hC hD hU hK
                      have r89 : a.tmps[89]? = some (vs 6) := by rw [ha]; exact fillA_get0 (j := 6) (by kernel_rfl) (by rw [hsz]; decide)
                      have q6 : vs 6 = .bool true := hD 6 (by simp [waits, Region.binds])
                      rw [q6] at r89
                      have r7 : a.tmps[7]? = some (.int .i64 0) := by rw [ha, fillA_base0 (by kernel_rfl)]; exact tb7
                      clear ha hU hD ha0
                      rw [if_pos (by simp [Region.wanted, yielded, r89])]
                      go_simp
                      exact hK _ hC (Below.refl _ _)
                    · -- 8
                      intro vs a W K ha hC hD hU hK
                      have r89 : a.tmps[89]? = some (vs 6) := by rw [ha]; exact fillA_get0 (j := 6) (by kernel_rfl) (by rw [hsz]; decide)
                      have q6 : vs 6 = .bool true := hD 6 (by simp [waits, Region.binds])
                      rw [q6] at r89
                      have r90 : a.tmps[90]? = some (vs 7) := by rw [ha]; exact fillA_get0 (j := 7) (by kernel_rfl) (by rw [hsz]; decide)
                      have q7 : vs 7 = .int .i64 0 := hD 7 (by simp [waits, Region.binds])
                      rw [q7] at r90
                      clear ha hU hD ha0
                      rw [if_pos (by simp [Region.wanted, yielded, r89])]
                      go_simp
                      exact hK _ hC (Below.refl _ _)
                    · -- 9
                      intro vs a W K ha hC hD hU hK
                      have r89 : a.tmps[89]? = some (vs 6) := by rw [ha]; exact fillA_get0 (j := 6) (by kernel_rfl) (by rw [hsz]; decide)
                      have q6 : vs 6 = .bool true := hD 6 (by simp [waits, Region.binds])
                      rw [q6] at r89
                      have r91 : a.tmps[91]? = some (vs 8) := by rw [ha]; exact fillA_get0 (j := 8) (by kernel_rfl) (by rw [hsz]; decide)
                      have q8 : vs 8 = .bool true := hD 8 (by simp [waits, Region.binds])
                      rw [q8] at r91
                      clear ha hU hD ha0
                      rw [if_pos (by rfl)]
                      go_simp
                      exact hK _ hC (Below.refl _ _)
                    · -- 10
                      intro vs a W K ha hC hD hU hK
                      have r92 : a.tmps[92]? = some (vs 9) := by rw [ha]; exact fillA_get0 (j := 9) (by kernel_rfl) (by rw [hsz]; decide)
                      have q9 : vs 9 = .bool true := hD 9 (by simp [waits, Region.binds])
                      rw [q9] at r92
                      clear ha hU hD ha0
                      rw [if_pos (by rfl)]
                      go_simp
                      exact hK _ hC (Below.refl _ _)
                    · -- 11
                      intro vs a W K ha hC hD hU hK
                      have r93 : a.tmps[93]? = some (vs 10) := by rw [ha]; exact fillA_get0 (j := 10) (by kernel_rfl) (by rw [hsz]; decide)
                      have q10 : vs 10 = .bool true := hD 10 (by simp [waits, Region.binds])
                      rw [q10] at r93
                      have r9 : a.tmps[9]? = some (.int .i64 0) := by rw [ha, fillA_base0 (by kernel_rfl)]; exact tb9
                      clear ha hU hD ha0
                      rw [if_pos (by simp [Region.wanted, yielded, r93])]
                      go_simp
                      exact hK _ hC (Below.refl _ _)
                    · -- 12
                      intro vs a W K ha hC hD hU hK
                      have r93 : a.tmps[93]? = some (vs 10) := by rw [ha]; exact fillA_get0 (j := 10) (by kernel_rfl) (by rw [hsz]; decide)
                      have q10 : vs 10 = .bool true := hD 10 (by simp [waits, Region.binds])
                      rw [q10] at r93
                      have r94 : a.tmps[94]? = some (vs 11) := by rw [ha]; exact fillA_get0 (j := 11) (by kernel_rfl) (by rw [hsz]; decide)
                      have q11 : vs 11 = .int .i64 0 := hD 11 (by simp [waits, Region.binds])
                      rw [q11] at r94
                      clear ha hU hD ha0
                      rw [if_pos (by simp [Region.wanted, yielded, r93])]
                      go_simp
                      exact hK _ hC (Below.refl _ _)
                    · -- 13
                      intro vs a W K ha hC hD hU hK
                      have r93 : a.tmps[93]? = some (vs 10) := by rw [ha]; exact fillA_get0 (j := 10) (by kernel_rfl) (by rw [hsz]; decide)
                      have q10 : vs 10 = .bool true := hD 10 (by simp [waits, Region.binds])
                      rw [q10] at r93
                      have r95 : a.tmps[95]? = some (vs 12) := by rw [ha]; exact fillA_get0 (j := 12) (by kernel_rfl) (by rw [hsz]; decide)
                      have q12 : vs 12 = .bool true := hD 12 (by simp [waits, Region.binds])
                      rw [q12] at r95
                      clear ha hU hD ha0
                      rw [if_pos (by rfl)]
                      go_simp
                      exact hK _ hC (Below.refl _ _)
                    · -- 14
                      intro vs a W K ha hC hD hU hK
                      have r96 : a.tmps[96]? = some (vs 13) := by rw [ha]; exact fillA_get0 (j := 13) (by kernel_rfl) (by rw [hsz]; decide)
                      have q13 : vs 13 = .bool true := hD 13 (by simp [waits, Region.binds])
                      rw [q13] at r96
                      clear ha hU hD ha0
                      rw [if_pos (by rfl)]
                      go_simp
                      exact hK _ hC (Below.refl _ _)
                    · -- 15
                      intro vs a W K ha hC hD hU hK
                      have r97 : a.tmps[97]? = some (vs 14) := by rw [ha]; exact fillA_get0 (j := 14) (by kernel_rfl) (by rw [hsz]; decide)
                      have q14 : vs 14 = .bool true := hD 14 (by simp [waits, Region.binds])
                      rw [q14] at r97
                      have r12 : a.tmps[12]? = some (.int .i64 0) := by rw [ha, fillA_base0 (by kernel_rfl)]; exact tb12
                      clear ha hU hD ha0
                      rw [if_pos (by simp [Region.wanted, yielded, r97])]
                      go_simp
                      exact hK _ hC (Below.refl _ _)
                    · -- 16
                      intro vs a W K ha hC hD hU hK
                      have r97 : a.tmps[97]? = some (vs 14) := by rw [ha]; exact fillA_get0 (j := 14) (by kernel_rfl) (by rw [hsz]; decide)
                      have q14 : vs 14 = .bool true := hD 14 (by simp [waits, Region.binds])
                      rw [q14] at r97
                      have r98 : a.tmps[98]? = some (vs 15) := by rw [ha]; exact fillA_get0 (j := 15) (by kernel_rfl) (by rw [hsz]; decide)
                      have q15 : vs 15 = .int .i64 0 := hD 15 (by simp [waits, Region.binds])
                      rw [q15] at r98
                      clear ha hU hD ha0
                      rw [if_pos (by simp [Region.wanted, yielded, r97])]
                      go_simp
                      exact hK _ hC (Below.refl _ _)
                    · -- 17
                      intro vs a W K ha hC hD hU hK
                      have r97 : a.tmps[97]? = some (vs 14) := by rw [ha]; exact fillA_get0 (j := 14) (by kernel_rfl) (by rw [hsz]; decide)
                      have q14 : vs 14 = .bool true := hD 14 (by simp [waits, Region.binds])
                      rw [q14] at r97
                      have r99 : a.tmps[99]? = some (vs 16) := by rw [ha]; exact fillA_get0 (j := 16) (by kernel_rfl) (by rw [hsz]; decide)
                      have q16 : vs 16 = .bool true := hD 16 (by simp [waits, Region.binds])
                      rw [q16] at r99
                      clear ha hU hD ha0
                      rw [if_pos (by rfl)]
                      go_simp
                      exact hK _ hC (Below.refl _ _)
                    · -- 18
                      intro vs a W K ha hC hD hU hK
                      have r100 : a.tmps[100]? = some (vs 17) := by rw [ha]; exact fillA_get0 (j := 17) (by kernel_rfl) (by rw [hsz]; decide)
                      have q17 : vs 17 = .bool true := hD 17 (by simp [waits, Region.binds])
                      rw [q17] at r100
                      clear ha hU hD ha0
                      rw [if_pos (by rfl)]
                      go_simp
                      exact hK _ hC (Below.refl _ _)
                    · -- 19
                      intro vs a W K ha hC hD hU hK
                      have r101 : a.tmps[101]? = some (vs 18) := by rw [ha]; exact fillA_get0 (j := 18) (by kernel_rfl) (by rw [hsz]; decide)
                      have q18 : vs 18 = .bool true := hD 18 (by simp [waits, Region.binds])
                      rw [q18] at r101
                      have r14 : a.tmps[14]? = some (.int .i64 0) := by rw [ha, fillA_base0 (by kernel_rfl)]; exact tb14
                      clear ha hU hD ha0
                      rw [if_pos (by simp [Region.wanted, yielded, r101])]
                      go_simp
                      exact hK _ hC (Below.refl _ _)
                    · -- 20
                      intro vs a W K ha hC hD hU hK
                      have r101 : a.tmps[101]? = some (vs 18) := by rw [ha]; exact fillA_get0 (j := 18) (by kernel_rfl) (by rw [hsz]; decide)
                      have q18 : vs 18 = .bool true := hD 18 (by simp [waits, Region.binds])
                      rw [q18] at r101
                      have r102 : a.tmps[102]? = some (vs 19) := by rw [ha]; exact fillA_get0 (j := 19) (by kernel_rfl) (by rw [hsz]; decide)
                      have q19 : vs 19 = .int .i64 0 := hD 19 (by simp [waits, Region.binds])
                      rw [q19] at r102
                      clear ha hU hD ha0
                      rw [if_pos (by simp [Region.wanted, yielded, r101])]
                      go_simp
                      exact hK _ hC (Below.refl _ _)
                    · -- 21
                      intro vs a W K ha hC hD hU hK
                      have r101 : a.tmps[101]? = some (vs 18) := by rw [ha]; exact fillA_get0 (j := 18) (by kernel_rfl) (by rw [hsz]; decide)
                      have q18 : vs 18 = .bool true := hD 18 (by simp [waits, Region.binds])
                      rw [q18] at r101
                      have r103 : a.tmps[103]? = some (vs 20) := by rw [ha]; exact fillA_get0 (j := 20) (by kernel_rfl) (by rw [hsz]; decide)
                      have q20 : vs 20 = .bool true := hD 20 (by simp [waits, Region.binds])
                      rw [q20] at r103
                      clear ha hU hD ha0
                      rw [if_pos (by rfl)]
                      go_simp
                      exact hK _ hC (Below.refl _ _)
                    · -- 22
                      intro vs a W K ha hC hD hU hK
                      have r104 : a.tmps[104]? = some (vs 21) := by rw [ha]; exact fillA_get0 (j := 21) (by kernel_rfl) (by rw [hsz]; decide)
                      have q21 : vs 21 = .bool true := hD 21 (by simp [waits, Region.binds])
                      rw [q21] at r104
                      clear ha hU hD ha0
                      rw [if_pos (by rfl)]
                      go_simp
                      exact hK _ hC (Below.refl _ _)
                    · -- 23
                      intro vs a W K ha hC hD hU hK
                      have r105 : a.tmps[105]? = some (vs 22) := by rw [ha]; exact fillA_get0 (j := 22) (by kernel_rfl) (by rw [hsz]; decide)
                      have q22 : vs 22 = .bool true := hD 22 (by simp [waits, Region.binds])
                      rw [q22] at r105
                      have r16 : a.tmps[16]? = some (.int .i64 0) := by rw [ha, fillA_base0 (by kernel_rfl)]; exact tb16
                      clear ha hU hD ha0
                      rw [if_pos (by simp [Region.wanted, yielded, r105])]
                      go_simp
                      exact hK _ hC (Below.refl _ _)
                    · -- 24
                      intro vs a W K ha hC hD hU hK
                      have r105 : a.tmps[105]? = some (vs 22) := by rw [ha]; exact fillA_get0 (j := 22) (by kernel_rfl) (by rw [hsz]; decide)
                      have q22 : vs 22 = .bool true := hD 22 (by simp [waits, Region.binds])
                      rw [q22] at r105
                      have r106 : a.tmps[106]? = some (vs 23) := by rw [ha]; exact fillA_get0 (j := 23) (by kernel_rfl) (by rw [hsz]; decide)
                      have q23 : vs 23 = .int .i64 0 := hD 23 (by simp [waits, Region.binds])
                      rw [q23] at r106
                      clear ha hU hD ha0
                      rw [if_pos (by simp [Region.wanted, yielded, r105])]
                      go_simp
                      exact hK _ hC (Below.refl _ _)
                    · -- 25
                      intro vs a W K ha hC hD hU hK
                      have r105 : a.tmps[105]? = some (vs 22) := by rw [ha]; exact fillA_get0 (j := 22) (by kernel_rfl) (by rw [hsz]; decide)
                      have q22 : vs 22 = .bool true := hD 22 (by simp [waits, Region.binds])
                      rw [q22] at r105
                      have r107 : a.tmps[107]? = some (vs 24) := by rw [ha]; exact fillA_get0 (j := 24) (by kernel_rfl) (by rw [hsz]; decide)
                      have q24 : vs 24 = .bool true := hD 24 (by simp [waits, Region.binds])
                      rw [q24] at r107
                      clear ha hU hD ha0
                      rw [if_pos (by rfl)]
                      go_simp
                      exact hK _ hC (Below.refl _ _)
                    · -- 26
                      intro vs a W K ha hC hD hU hK
                      have r108 : a.tmps[108]? = some (vs 25) := by rw [ha]; exact fillA_get0 (j := 25) (by kernel_rfl) (by rw [hsz]; decide)
                      have q25 : vs 25 = .bool true := hD 25 (by simp [waits, Region.binds])
                      rw [q25] at r108
                      clear ha hU hD ha0
                      rw [if_pos (by rfl)]
                      go_simp
                      exact hK _ hC (Below.refl _ _)
                    · -- 27
                      intro vs a W K ha hC hD hU hK
                      have r109 : a.tmps[109]? = some (vs 26) := by rw [ha]; exact fillA_get0 (j := 26) (by kernel_rfl) (by rw [hsz]; decide)
                      have q26 : vs 26 = .bool true := hD 26 (by simp [waits, Region.binds])
                      rw [q26] at r109
                      have r19 : a.tmps[19]? = some (.int .i64 8) := by rw [ha, fillA_base0 (by kernel_rfl)]; exact tb19
                      clear ha hU hD ha0
                      rw [if_pos (by simp [Region.wanted, yielded, r109])]
                      go_simp
                      exact hK _ hC (Below.refl _ _)
                    · -- 28
                      intro vs a W K ha hC hD hU hK
                      have r109 : a.tmps[109]? = some (vs 26) := by rw [ha]; exact fillA_get0 (j := 26) (by kernel_rfl) (by rw [hsz]; decide)
                      have q26 : vs 26 = .bool true := hD 26 (by simp [waits, Region.binds])
                      rw [q26] at r109
                      have r110 : a.tmps[110]? = some (vs 27) := by rw [ha]; exact fillA_get0 (j := 27) (by kernel_rfl) (by rw [hsz]; decide)
                      have q27 : vs 27 = .int .i64 8 := hD 27 (by simp [waits, Region.binds])
                      rw [q27] at r110
                      clear ha hU hD ha0
                      rw [if_pos (by simp [Region.wanted, yielded, r109])]
                      go_simp
                      exact hK _ hC (Below.refl _ _)
                    · -- 29
                      intro vs a W K ha hC hD hU hK
                      have r109 : a.tmps[109]? = some (vs 26) := by rw [ha]; exact fillA_get0 (j := 26) (by kernel_rfl) (by rw [hsz]; decide)
                      have q26 : vs 26 = .bool true := hD 26 (by simp [waits, Region.binds])
                      rw [q26] at r109
                      have r111 : a.tmps[111]? = some (vs 28) := by rw [ha]; exact fillA_get0 (j := 28) (by kernel_rfl) (by rw [hsz]; decide)
                      have q28 : vs 28 = .bool true := hD 28 (by simp [waits, Region.binds])
                      rw [q28] at r111
                      clear ha hU hD ha0
                      rw [if_pos (by rfl)]
                      go_simp
                      exact hK _ hC (Below.refl _ _)
                    · -- 30
                      intro vs a W K ha hC hD hU hK
                      have r112 : a.tmps[112]? = some (vs 29) := by rw [ha]; exact fillA_get0 (j := 29) (by kernel_rfl) (by rw [hsz]; decide)
                      have q29 : vs 29 = .bool true := hD 29 (by simp [waits, Region.binds])
                      rw [q29] at r112
                      clear ha hU hD ha0
                      rw [if_pos (by rfl)]
                      go_simp
                      exact hK _ hC (Below.refl _ _)
                    · -- 31
                      intro vs a W K ha hC hD hU hK
                      have r113 : a.tmps[113]? = some (vs 30) := by rw [ha]; exact fillA_get0 (j := 30) (by kernel_rfl) (by rw [hsz]; decide)
                      have q30 : vs 30 = .bool true := hD 30 (by simp [waits, Region.binds])
                      rw [q30] at r113
                      have r2 : a.tmps[2]? = some (.pointer (some ⟨g2, 0, none⟩)) := by rw [ha, fillA_base0 (by kernel_rfl)]; exact tb2
                      clear ha hU hD ha0
                      rw [if_pos (by simp [Region.wanted, yielded, r113])]
                      obtain ⟨k0, k1, k2, k3, k4, k5, k6⟩ := kk.out W (bl_call HC10.out hC (Nat.le_refl _))
                      go_simp
                      exact hK _ hC (Below.refl _ _)
                    · -- 32
                      intro vs a W K ha hC hD hU hK
                      have r113 : a.tmps[113]? = some (vs 30) := by rw [ha]; exact fillA_get0 (j := 30) (by kernel_rfl) (by rw [hsz]; decide)
                      have q30 : vs 30 = .bool true := hD 30 (by simp [waits, Region.binds])
                      rw [q30] at r113
                      clear ha hU hD ha0
                      rw [if_pos (by simp [Region.wanted, yielded, r113])]
                      go_simp
                      refine (span7_any 994 1001 W).mono ?_
                      rintro e w' ⟨rfl, hb⟩
                      exact hK _ (bl_call hC hb (Nat.le_refl _)) hb
                    · -- 33
                      intro vs a W K ha hC hD hU hK
                      have r113 : a.tmps[113]? = some (vs 30) := by rw [ha]; exact fillA_get0 (j := 30) (by kernel_rfl) (by rw [hsz]; decide)
                      have q30 : vs 30 = .bool true := hD 30 (by simp [waits, Region.binds])
                      rw [q30] at r113
                      have r114 : a.tmps[114]? = some (vs 31) := by rw [ha]; exact fillA_get0 (j := 31) (by kernel_rfl) (by rw [hsz]; decide)
                      have q31 : vs 31 = .agg #[.int .i64 994, .int .i64 1001] := hD 31 (by simp [waits, Region.binds])
                      rw [q31] at r114
                      have r115 : a.tmps[115]? = some (vs 32) := by rw [ha]; exact fillA_get0 (j := 32) (by kernel_rfl) (by rw [hsz]; decide)
                      have q32 : vs 32 = .agg #[.int .i64 994, .int .i64 1001] := hD 32 (by simp [waits, Region.binds])
                      rw [q32] at r115
                      clear ha hU hD ha0
                      rw [if_pos (by simp [Region.wanted, yielded, r113])]
                      go_simp
                      exact hK _ hC (Below.refl _ _)
                    · -- 34
                      intro vs a W K ha hC hD hU hK
                      have r113 : a.tmps[113]? = some (vs 30) := by rw [ha]; exact fillA_get0 (j := 30) (by kernel_rfl) (by rw [hsz]; decide)
                      have q30 : vs 30 = .bool true := hD 30 (by simp [waits, Region.binds])
                      rw [q30] at r113
                      have r116 : a.tmps[116]? = some (vs 33) := by rw [ha]; exact fillA_get0 (j := 33) (by kernel_rfl) (by rw [hsz]; decide)
                      have q33 : vs 33 = .bool true := hD 33 (by simp [waits, Region.binds])
                      rw [q33] at r116
                      clear ha hU hD ha0
                      rw [if_pos (by rfl)]
                      go_simp
                      exact hK _ hC (Below.refl _ _)
                    · -- 35
                      intro vs a W K ha hC hD hU hK
                      have r117 : a.tmps[117]? = some (vs 34) := by rw [ha]; exact fillA_get0 (j := 34) (by kernel_rfl) (by rw [hsz]; decide)
                      have q34 : vs 34 = .bool true := hD 34 (by simp [waits, Region.binds])
                      rw [q34] at r117
                      clear ha hU hD ha0
                      rw [if_pos (by rfl)]
                      go_simp
                      exact hK _ hC (Below.refl _ _)
                    · -- 36
                      intro vs a W K ha hC hD hU hK
                      have r118 : a.tmps[118]? = some (vs 35) := by rw [ha]; exact fillA_get0 (j := 35) (by kernel_rfl) (by rw [hsz]; decide)
                      have q35 : vs 35 = .bool true := hD 35 (by simp [waits, Region.binds])
                      rw [q35] at r118
                      have r4 : a.tmps[4]? = some (.pointer (some ⟨g4, 0, none⟩)) := by rw [ha, fillA_base0 (by kernel_rfl)]; exact tb4
                      clear ha hU hD ha0
                      rw [if_pos (by simp [Region.wanted, yielded, r118])]
                      obtain ⟨k0, k1, k2, k3, k4, k5, k6⟩ := kk.out W (bl_call HC10.out hC (Nat.le_refl _))
                      go_simp
                      exact hK _ hC (Below.refl _ _)
                    · -- 37
                      intro vs a W K ha hC hD hU hK
                      have r118 : a.tmps[118]? = some (vs 35) := by rw [ha]; exact fillA_get0 (j := 35) (by kernel_rfl) (by rw [hsz]; decide)
                      have q35 : vs 35 = .bool true := hD 35 (by simp [waits, Region.binds])
                      rw [q35] at r118
                      clear ha hU hD ha0
                      rw [if_pos (by simp [Region.wanted, yielded, r118])]
                      go_simp
                      refine (span7_any 994 999 W).mono ?_
                      rintro e w' ⟨rfl, hb⟩
                      exact hK _ (bl_call hC hb (Nat.le_refl _)) hb
                    · -- 38
                      intro vs a W K ha hC hD hU hK
                      have r118 : a.tmps[118]? = some (vs 35) := by rw [ha]; exact fillA_get0 (j := 35) (by kernel_rfl) (by rw [hsz]; decide)
                      have q35 : vs 35 = .bool true := hD 35 (by simp [waits, Region.binds])
                      rw [q35] at r118
                      have r119 : a.tmps[119]? = some (vs 36) := by rw [ha]; exact fillA_get0 (j := 36) (by kernel_rfl) (by rw [hsz]; decide)
                      have q36 : vs 36 = .agg #[.int .i64 994, .int .i64 999] := hD 36 (by simp [waits, Region.binds])
                      rw [q36] at r119
                      have r120 : a.tmps[120]? = some (vs 37) := by rw [ha]; exact fillA_get0 (j := 37) (by kernel_rfl) (by rw [hsz]; decide)
                      have q37 : vs 37 = .agg #[.int .i64 994, .int .i64 999] := hD 37 (by simp [waits, Region.binds])
                      rw [q37] at r120
                      clear ha hU hD ha0
                      rw [if_pos (by simp [Region.wanted, yielded, r118])]
                      go_simp
                      exact hK _ hC (Below.refl _ _)
                    · -- 39
                      intro vs a W K ha hC hD hU hK
                      have r118 : a.tmps[118]? = some (vs 35) := by rw [ha]; exact fillA_get0 (j := 35) (by kernel_rfl) (by rw [hsz]; decide)
                      have q35 : vs 35 = .bool true := hD 35 (by simp [waits, Region.binds])
                      rw [q35] at r118
                      have r121 : a.tmps[121]? = some (vs 38) := by rw [ha]; exact fillA_get0 (j := 38) (by kernel_rfl) (by rw [hsz]; decide)
                      have q38 : vs 38 = .bool true := hD 38 (by simp [waits, Region.binds])
                      rw [q38] at r121
                      clear ha hU hD ha0
                      rw [if_pos (by rfl)]
                      go_simp
                      exact hK _ hC (Below.refl _ _)
                    · -- 40
                      intro vs a W K ha hC hD hU hK
                      have r122 : a.tmps[122]? = some (vs 39) := by rw [ha]; exact fillA_get0 (j := 39) (by kernel_rfl) (by rw [hsz]; decide)
                      have q39 : vs 39 = .bool true := hD 39 (by simp [waits, Region.binds])
                      rw [q39] at r122
                      clear ha hU hD ha0
                      rw [if_pos (by rfl)]
                      go_simp
                      exact hK _ hC (Below.refl _ _)
                    · -- 41
                      intro vs a W K ha hC hD hU hK
                      have r123 : a.tmps[123]? = some (vs 40) := by rw [ha]; exact fillA_get0 (j := 40) (by kernel_rfl) (by rw [hsz]; decide)
                      have q40 : vs 40 = .bool true := hD 40 (by simp [waits, Region.binds])
                      rw [q40] at r123
                      have r6 : a.tmps[6]? = some (.slice r6_A r6_n r6_c) := by rw [ha, fillA_base0 (by kernel_rfl)]; exact tb6
                      clear ha hU hD ha0
                      rw [if_pos (by simp [Region.wanted, yielded, r123])]
                      go_simp
                      exact hK _ hC (Below.refl _ _)
                    · -- 42
                      intro vs a W K ha hC hD hU hK
                      have r123 : a.tmps[123]? = some (vs 40) := by rw [ha]; exact fillA_get0 (j := 40) (by kernel_rfl) (by rw [hsz]; decide)
                      have q40 : vs 40 = .bool true := hD 40 (by simp [waits, Region.binds])
                      rw [q40] at r123
                      clear ha hU hD ha0
                      rw [if_pos (by simp [Region.wanted, yielded, r123])]
                      go_simp
                      exact hK _ _ (bl_alloc hC _ (Nat.le_refl _)) (bl_alloc (Below.refl _ _) _ (Nat.le_refl _)) (IsIntsV.new [12] _ (by decide) hC.size)
                    · -- 43
                      intro vs a W K ha hC hD hU hK
                      have r123 : a.tmps[123]? = some (vs 40) := by rw [ha]; exact fillA_get0 (j := 40) (by kernel_rfl) (by rw [hsz]; decide)
                      have q40 : vs 40 = .bool true := hD 40 (by simp [waits, Region.binds])
                      rw [q40] at r123
                      have r124 : a.tmps[124]? = some (vs 41) := by rw [ha]; exact fillA_get0 (j := 41) (by kernel_rfl) (by rw [hsz]; decide)
                      have q41 : vs 41 = .slice r6_A r6_n r6_c := hD 41 (by simp [waits, Region.binds])
                      rw [q41] at r124
                      have r125 : a.tmps[125]? = some (vs 42) := by rw [ha]; exact fillA_get0 (j := 42) (by kernel_rfl) (by rw [hsz]; decide)
                      have P42 : IsIntsV V10.heap.size [12] (vs 42) W := hD 42 (by simp [waits, Region.binds])
                      obtain ⟨B125, d125, e125, hI125⟩ := P42
                      rw [e125] at r125
                      clear ha hU hD ha0
                      rw [if_pos (by simp [Region.wanted, yielded, r123])]
                      go_simp
                      refine (ints_any W (H_r6.out W hC) hI125).mono ?_
                      rintro e w' ⟨rfl, q, rfl⟩
                      rw [decide_eq_true rfl]
                      exact hK _ (bl_drewN hC q) (bl_drewN (Below.refl _ _) q)
                    · -- 44
                      intro vs a W K ha hC hD hU hK
                      have r123 : a.tmps[123]? = some (vs 40) := by rw [ha]; exact fillA_get0 (j := 40) (by kernel_rfl) (by rw [hsz]; decide)
                      have q40 : vs 40 = .bool true := hD 40 (by simp [waits, Region.binds])
                      rw [q40] at r123
                      have r126 : a.tmps[126]? = some (vs 43) := by rw [ha]; exact fillA_get0 (j := 43) (by kernel_rfl) (by rw [hsz]; decide)
                      have q43 : vs 43 = .bool true := hD 43 (by simp [waits, Region.binds])
                      rw [q43] at r126
                      clear ha hU hD ha0
                      rw [if_pos (by rfl)]
                      go_simp
                      exact hK _ hC (Below.refl _ _)
                    · -- 45
                      intro vs a W K ha hC hD hU hK
                      have r127 : a.tmps[127]? = some (vs 44) := by rw [ha]; exact fillA_get0 (j := 44) (by kernel_rfl) (by rw [hsz]; decide)
                      have q44 : vs 44 = .bool true := hD 44 (by simp [waits, Region.binds])
                      rw [q44] at r127
                      clear ha hU hD ha0
                      rw [if_pos (by rfl)]
                      go_simp
                      exact hK _ hC (Below.refl _ _)
                    · -- 46
                      intro vs a W K ha hC hD hU hK
                      have r128 : a.tmps[128]? = some (vs 45) := by rw [ha]; exact fillA_get0 (j := 45) (by kernel_rfl) (by rw [hsz]; decide)
                      have q45 : vs 45 = .bool true := hD 45 (by simp [waits, Region.binds])
                      rw [q45] at r128
                      have r8 : a.tmps[8]? = some (.slice r8_A r8_n r8_c) := by rw [ha, fillA_base0 (by kernel_rfl)]; exact tb8
                      clear ha hU hD ha0
                      rw [if_pos (by simp [Region.wanted, yielded, r128])]
                      go_simp
                      exact hK _ hC (Below.refl _ _)
                    · -- 47
                      intro vs a W K ha hC hD hU hK
                      have r128 : a.tmps[128]? = some (vs 45) := by rw [ha]; exact fillA_get0 (j := 45) (by kernel_rfl) (by rw [hsz]; decide)
                      have q45 : vs 45 = .bool true := hD 45 (by simp [waits, Region.binds])
                      rw [q45] at r128
                      clear ha hU hD ha0
                      rw [if_pos (by simp [Region.wanted, yielded, r128])]
                      go_simp
                      refine (at7_any 0 1 W).mono ?_
                      rintro e w' ⟨rfl, hb⟩
                      exact hK _ (bl_call hC hb (Nat.le_refl _)) hb
                    · -- 48
                      intro vs a W K ha hC hD hU hK
                      have r128 : a.tmps[128]? = some (vs 45) := by rw [ha]; exact fillA_get0 (j := 45) (by kernel_rfl) (by rw [hsz]; decide)
                      have q45 : vs 45 = .bool true := hD 45 (by simp [waits, Region.binds])
                      rw [q45] at r128
                      clear ha hU hD ha0
                      rw [if_pos (by simp [Region.wanted, yielded, r128])]
                      go_simp
                      refine (at7_any 0 2 W).mono ?_
                      rintro e w' ⟨rfl, hb⟩
                      exact hK _ (bl_call hC hb (Nat.le_refl _)) hb
                    · -- 49
                      intro vs a W K ha hC hD hU hK
                      have r128 : a.tmps[128]? = some (vs 45) := by rw [ha]; exact fillA_get0 (j := 45) (by kernel_rfl) (by rw [hsz]; decide)
                      have q45 : vs 45 = .bool true := hD 45 (by simp [waits, Region.binds])
                      rw [q45] at r128
                      clear ha hU hD ha0
                      rw [if_pos (by simp [Region.wanted, yielded, r128])]
                      go_simp
                      refine (at7_any 1 0 W).mono ?_
                      rintro e w' ⟨rfl, hb⟩
                      exact hK _ (bl_call hC hb (Nat.le_refl _)) hb
                    · -- 50
                      intro vs a W K ha hC hD hU hK
                      have r128 : a.tmps[128]? = some (vs 45) := by rw [ha]; exact fillA_get0 (j := 45) (by kernel_rfl) (by rw [hsz]; decide)
                      have q45 : vs 45 = .bool true := hD 45 (by simp [waits, Region.binds])
                      rw [q45] at r128
                      clear ha hU hD ha0
                      rw [if_pos (by simp [Region.wanted, yielded, r128])]
                      go_simp
                      refine (at7_any 1 1 W).mono ?_
                      rintro e w' ⟨rfl, hb⟩
                      exact hK _ (bl_call hC hb (Nat.le_refl _)) hb
                    · -- 51
                      intro vs a W K ha hC hD hU hK
                      have r128 : a.tmps[128]? = some (vs 45) := by rw [ha]; exact fillA_get0 (j := 45) (by kernel_rfl) (by rw [hsz]; decide)
                      have q45 : vs 45 = .bool true := hD 45 (by simp [waits, Region.binds])
                      rw [q45] at r128
                      have r130 : a.tmps[130]? = some (vs 47) := by rw [ha]; exact fillA_get0 (j := 47) (by kernel_rfl) (by rw [hsz]; decide)
                      have q47 : vs 47 = .agg #[.int .i64 0, .int .i64 1] := hD 47 (by simp [waits, Region.binds])
                      rw [q47] at r130
                      have r131 : a.tmps[131]? = some (vs 48) := by rw [ha]; exact fillA_get0 (j := 48) (by kernel_rfl) (by rw [hsz]; decide)
                      have q48 : vs 48 = .agg #[.int .i64 0, .int .i64 2] := hD 48 (by simp [waits, Region.binds])
                      rw [q48] at r131
                      have r132 : a.tmps[132]? = some (vs 49) := by rw [ha]; exact fillA_get0 (j := 49) (by kernel_rfl) (by rw [hsz]; decide)
                      have q49 : vs 49 = .agg #[.int .i64 1, .int .i64 0] := hD 49 (by simp [waits, Region.binds])
                      rw [q49] at r132
                      have r133 : a.tmps[133]? = some (vs 50) := by rw [ha]; exact fillA_get0 (j := 50) (by kernel_rfl) (by rw [hsz]; decide)
                      have q50 : vs 50 = .agg #[.int .i64 1, .int .i64 1] := hD 50 (by simp [waits, Region.binds])
                      rw [q50] at r133
                      clear ha hU hD ha0
                      rw [if_pos (by simp [Region.wanted, yielded, r128])]
                      go_simp
                      exact hK _ _ (bl_alloc hC _ (Nat.le_refl _)) (bl_alloc (Below.refl _ _) _ (Nat.le_refl _)) (IsPlsV.new [(0, 1), (0, 2), (1, 0), (1, 1)] _ (by rfl) (by decide) hC.size)
                    · -- 52
                      intro vs a W K ha hC hD hU hK
                      have r128 : a.tmps[128]? = some (vs 45) := by rw [ha]; exact fillA_get0 (j := 45) (by kernel_rfl) (by rw [hsz]; decide)
                      have q45 : vs 45 = .bool true := hD 45 (by simp [waits, Region.binds])
                      rw [q45] at r128
                      have r129 : a.tmps[129]? = some (vs 46) := by rw [ha]; exact fillA_get0 (j := 46) (by kernel_rfl) (by rw [hsz]; decide)
                      have q46 : vs 46 = .slice r8_A r8_n r8_c := hD 46 (by simp [waits, Region.binds])
                      rw [q46] at r129
                      have r134 : a.tmps[134]? = some (vs 51) := by rw [ha]; exact fillA_get0 (j := 51) (by kernel_rfl) (by rw [hsz]; decide)
                      have P51 : IsPlsV V10.heap.size [(0, 1), (0, 2), (1, 0), (1, 1)] (vs 51) W := hD 51 (by simp [waits, Region.binds])
                      obtain ⟨B134, d134, e134, hI134⟩ := P51
                      rw [e134] at r134
                      clear ha hU hD ha0
                      rw [if_pos (by simp [Region.wanted, yielded, r128])]
                      go_simp
                      refine (same7_any W (H_r8.out W hC) hI134).mono ?_
                      rintro e w' ⟨rfl, q, rfl⟩
                      rw [decide_eq_true rfl]
                      exact hK _ (bl_drewN hC q) (bl_drewN (Below.refl _ _) q)
                    · -- 53
                      intro vs a W K ha hC hD hU hK
                      have r128 : a.tmps[128]? = some (vs 45) := by rw [ha]; exact fillA_get0 (j := 45) (by kernel_rfl) (by rw [hsz]; decide)
                      have q45 : vs 45 = .bool true := hD 45 (by simp [waits, Region.binds])
                      rw [q45] at r128
                      have r135 : a.tmps[135]? = some (vs 52) := by rw [ha]; exact fillA_get0 (j := 52) (by kernel_rfl) (by rw [hsz]; decide)
                      have q52 : vs 52 = .bool true := hD 52 (by simp [waits, Region.binds])
                      rw [q52] at r135
                      clear ha hU hD ha0
                      rw [if_pos (by rfl)]
                      go_simp
                      exact hK _ hC (Below.refl _ _)
                    · -- 54
                      intro vs a W K ha hC hD hU hK
                      have r136 : a.tmps[136]? = some (vs 53) := by rw [ha]; exact fillA_get0 (j := 53) (by kernel_rfl) (by rw [hsz]; decide)
                      have q53 : vs 53 = .bool true := hD 53 (by simp [waits, Region.binds])
                      rw [q53] at r136
                      clear ha hU hD ha0
                      rw [if_pos (by rfl)]
                      go_simp
                      exact hK _ hC (Below.refl _ _)
                    · -- 55
                      intro vs a W K ha hC hD hU hK
                      have r137 : a.tmps[137]? = some (vs 54) := by rw [ha]; exact fillA_get0 (j := 54) (by kernel_rfl) (by rw [hsz]; decide)
                      have q54 : vs 54 = .bool true := hD 54 (by simp [waits, Region.binds])
                      rw [q54] at r137
                      have r10 : a.tmps[10]? = some (.slice r10_A r10_n r10_c) := by rw [ha, fillA_base0 (by kernel_rfl)]; exact tb10
                      clear ha hU hD ha0
                      rw [if_pos (by simp [Region.wanted, yielded, r137])]
                      go_simp
                      exact hK _ hC (Below.refl _ _)
                    · -- 56
                      intro vs a W K ha hC hD hU hK
                      have r137 : a.tmps[137]? = some (vs 54) := by rw [ha]; exact fillA_get0 (j := 54) (by kernel_rfl) (by rw [hsz]; decide)
                      have q54 : vs 54 = .bool true := hD 54 (by simp [waits, Region.binds])
                      rw [q54] at r137
                      clear ha hU hD ha0
                      rw [if_pos (by simp [Region.wanted, yielded, r137])]
                      go_simp
                      refine (at7_any 0 1 W).mono ?_
                      rintro e w' ⟨rfl, hb⟩
                      exact hK _ (bl_call hC hb (Nat.le_refl _)) hb
                    · -- 57
                      intro vs a W K ha hC hD hU hK
                      have r137 : a.tmps[137]? = some (vs 54) := by rw [ha]; exact fillA_get0 (j := 54) (by kernel_rfl) (by rw [hsz]; decide)
                      have q54 : vs 54 = .bool true := hD 54 (by simp [waits, Region.binds])
                      rw [q54] at r137
                      clear ha hU hD ha0
                      rw [if_pos (by simp [Region.wanted, yielded, r137])]
                      go_simp
                      refine (at7_any 0 2 W).mono ?_
                      rintro e w' ⟨rfl, hb⟩
                      exact hK _ (bl_call hC hb (Nat.le_refl _)) hb
                    · -- 58
                      intro vs a W K ha hC hD hU hK
                      have r137 : a.tmps[137]? = some (vs 54) := by rw [ha]; exact fillA_get0 (j := 54) (by kernel_rfl) (by rw [hsz]; decide)
                      have q54 : vs 54 = .bool true := hD 54 (by simp [waits, Region.binds])
                      rw [q54] at r137
                      clear ha hU hD ha0
                      rw [if_pos (by simp [Region.wanted, yielded, r137])]
                      go_simp
                      refine (at7_any 1 0 W).mono ?_
                      rintro e w' ⟨rfl, hb⟩
                      exact hK _ (bl_call hC hb (Nat.le_refl _)) hb
                    · -- 59
                      intro vs a W K ha hC hD hU hK
                      have r137 : a.tmps[137]? = some (vs 54) := by rw [ha]; exact fillA_get0 (j := 54) (by kernel_rfl) (by rw [hsz]; decide)
                      have q54 : vs 54 = .bool true := hD 54 (by simp [waits, Region.binds])
                      rw [q54] at r137
                      have r139 : a.tmps[139]? = some (vs 56) := by rw [ha]; exact fillA_get0 (j := 56) (by kernel_rfl) (by rw [hsz]; decide)
                      have q56 : vs 56 = .agg #[.int .i64 0, .int .i64 1] := hD 56 (by simp [waits, Region.binds])
                      rw [q56] at r139
                      have r140 : a.tmps[140]? = some (vs 57) := by rw [ha]; exact fillA_get0 (j := 57) (by kernel_rfl) (by rw [hsz]; decide)
                      have q57 : vs 57 = .agg #[.int .i64 0, .int .i64 2] := hD 57 (by simp [waits, Region.binds])
                      rw [q57] at r140
                      have r141 : a.tmps[141]? = some (vs 58) := by rw [ha]; exact fillA_get0 (j := 58) (by kernel_rfl) (by rw [hsz]; decide)
                      have q58 : vs 58 = .agg #[.int .i64 1, .int .i64 0] := hD 58 (by simp [waits, Region.binds])
                      rw [q58] at r141
                      clear ha hU hD ha0
                      rw [if_pos (by simp [Region.wanted, yielded, r137])]
                      go_simp
                      exact hK _ _ (bl_alloc hC _ (Nat.le_refl _)) (bl_alloc (Below.refl _ _) _ (Nat.le_refl _)) (IsPlsV.new [(0, 1), (0, 2), (1, 0)] _ (by rfl) (by decide) hC.size)
                    · -- 60
                      intro vs a W K ha hC hD hU hK
                      have r137 : a.tmps[137]? = some (vs 54) := by rw [ha]; exact fillA_get0 (j := 54) (by kernel_rfl) (by rw [hsz]; decide)
                      have q54 : vs 54 = .bool true := hD 54 (by simp [waits, Region.binds])
                      rw [q54] at r137
                      have r138 : a.tmps[138]? = some (vs 55) := by rw [ha]; exact fillA_get0 (j := 55) (by kernel_rfl) (by rw [hsz]; decide)
                      have q55 : vs 55 = .slice r10_A r10_n r10_c := hD 55 (by simp [waits, Region.binds])
                      rw [q55] at r138
                      have r142 : a.tmps[142]? = some (vs 59) := by rw [ha]; exact fillA_get0 (j := 59) (by kernel_rfl) (by rw [hsz]; decide)
                      have P59 : IsPlsV V10.heap.size [(0, 1), (0, 2), (1, 0)] (vs 59) W := hD 59 (by simp [waits, Region.binds])
                      obtain ⟨B142, d142, e142, hI142⟩ := P59
                      rw [e142] at r142
                      clear ha hU hD ha0
                      rw [if_pos (by simp [Region.wanted, yielded, r137])]
                      go_simp
                      refine (same7_any W (H_r10.out W hC) hI142).mono ?_
                      rintro e w' ⟨rfl, q, rfl⟩
                      rw [decide_eq_true rfl]
                      exact hK _ (bl_drewN hC q) (bl_drewN (Below.refl _ _) q)
                    · -- 61
                      intro vs a W K ha hC hD hU hK
                      have r137 : a.tmps[137]? = some (vs 54) := by rw [ha]; exact fillA_get0 (j := 54) (by kernel_rfl) (by rw [hsz]; decide)
                      have q54 : vs 54 = .bool true := hD 54 (by simp [waits, Region.binds])
                      rw [q54] at r137
                      have r143 : a.tmps[143]? = some (vs 60) := by rw [ha]; exact fillA_get0 (j := 60) (by kernel_rfl) (by rw [hsz]; decide)
                      have q60 : vs 60 = .bool true := hD 60 (by simp [waits, Region.binds])
                      rw [q60] at r143
                      clear ha hU hD ha0
                      rw [if_pos (by rfl)]
                      go_simp
                      exact hK _ hC (Below.refl _ _)
                    · -- 62
                      intro vs a W K ha hC hD hU hK
                      have r144 : a.tmps[144]? = some (vs 61) := by rw [ha]; exact fillA_get0 (j := 61) (by kernel_rfl) (by rw [hsz]; decide)
                      have q61 : vs 61 = .bool true := hD 61 (by simp [waits, Region.binds])
                      rw [q61] at r144
                      clear ha hU hD ha0
                      rw [if_pos (by rfl)]
                      go_simp
                      exact hK _ hC (Below.refl _ _)
                    · -- 63
                      intro vs a W K ha hC hD hU hK
                      have r145 : a.tmps[145]? = some (vs 62) := by rw [ha]; exact fillA_get0 (j := 62) (by kernel_rfl) (by rw [hsz]; decide)
                      have q62 : vs 62 = .bool true := hD 62 (by simp [waits, Region.binds])
                      rw [q62] at r145
                      have r11 : a.tmps[11]? = some (.slice r11_A r11_n r11_c) := by rw [ha, fillA_base0 (by kernel_rfl)]; exact tb11
                      clear ha hU hD ha0
                      rw [if_pos (by simp [Region.wanted, yielded, r145])]
                      go_simp
                      exact hK _ hC (Below.refl _ _)
                    · -- 64
                      intro vs a W K ha hC hD hU hK
                      have r145 : a.tmps[145]? = some (vs 62) := by rw [ha]; exact fillA_get0 (j := 62) (by kernel_rfl) (by rw [hsz]; decide)
                      have q62 : vs 62 = .bool true := hD 62 (by simp [waits, Region.binds])
                      rw [q62] at r145
                      clear ha hU hD ha0
                      rw [if_pos (by simp [Region.wanted, yielded, r145])]
                      go_simp
                      exact hK _ _ (bl_alloc hC _ (Nat.le_refl _)) (bl_alloc (Below.refl _ _) _ (Nat.le_refl _)) (IsIntsV.new [0, 1] _ (by decide) hC.size)
                    · -- 65
                      intro vs a W K ha hC hD hU hK
                      have r145 : a.tmps[145]? = some (vs 62) := by rw [ha]; exact fillA_get0 (j := 62) (by kernel_rfl) (by rw [hsz]; decide)
                      have q62 : vs 62 = .bool true := hD 62 (by simp [waits, Region.binds])
                      rw [q62] at r145
                      have r146 : a.tmps[146]? = some (vs 63) := by rw [ha]; exact fillA_get0 (j := 63) (by kernel_rfl) (by rw [hsz]; decide)
                      have q63 : vs 63 = .slice r11_A r11_n r11_c := hD 63 (by simp [waits, Region.binds])
                      rw [q63] at r146
                      have r147 : a.tmps[147]? = some (vs 64) := by rw [ha]; exact fillA_get0 (j := 64) (by kernel_rfl) (by rw [hsz]; decide)
                      have P64 : IsIntsV V10.heap.size [0, 1] (vs 64) W := hD 64 (by simp [waits, Region.binds])
                      obtain ⟨B147, d147, e147, hI147⟩ := P64
                      rw [e147] at r147
                      clear ha hU hD ha0
                      rw [if_pos (by simp [Region.wanted, yielded, r145])]
                      go_simp
                      refine (ints_any W (H_r11.out W hC) hI147).mono ?_
                      rintro e w' ⟨rfl, q, rfl⟩
                      rw [decide_eq_true rfl]
                      exact hK _ (bl_drewN hC q) (bl_drewN (Below.refl _ _) q)
                    · -- 66
                      intro vs a W K ha hC hD hU hK
                      have r145 : a.tmps[145]? = some (vs 62) := by rw [ha]; exact fillA_get0 (j := 62) (by kernel_rfl) (by rw [hsz]; decide)
                      have q62 : vs 62 = .bool true := hD 62 (by simp [waits, Region.binds])
                      rw [q62] at r145
                      have r148 : a.tmps[148]? = some (vs 65) := by rw [ha]; exact fillA_get0 (j := 65) (by kernel_rfl) (by rw [hsz]; decide)
                      have q65 : vs 65 = .bool true := hD 65 (by simp [waits, Region.binds])
                      rw [q65] at r148
                      clear ha hU hD ha0
                      rw [if_pos (by rfl)]
                      go_simp
                      exact hK _ hC (Below.refl _ _)
                    · -- 67
                      intro vs a W K ha hC hD hU hK
                      have r149 : a.tmps[149]? = some (vs 66) := by rw [ha]; exact fillA_get0 (j := 66) (by kernel_rfl) (by rw [hsz]; decide)
                      have q66 : vs 66 = .bool true := hD 66 (by simp [waits, Region.binds])
                      rw [q66] at r149
                      clear ha hU hD ha0
                      rw [if_pos (by rfl)]
                      go_simp
                      exact hK _ hC (Below.refl _ _)
                    · -- 68
                      intro vs a W K ha hC hD hU hK
                      have r150 : a.tmps[150]? = some (vs 67) := by rw [ha]; exact fillA_get0 (j := 67) (by kernel_rfl) (by rw [hsz]; decide)
                      have q67 : vs 67 = .bool true := hD 67 (by simp [waits, Region.binds])
                      rw [q67] at r150
                      have r13 : a.tmps[13]? = some (.slice r13_A r13_n r13_c) := by rw [ha, fillA_base0 (by kernel_rfl)]; exact tb13
                      clear ha hU hD ha0
                      rw [if_pos (by simp [Region.wanted, yielded, r150])]
                      go_simp
                      exact hK _ hC (Below.refl _ _)
                    · -- 69
                      intro vs a W K ha hC hD hU hK
                      have r150 : a.tmps[150]? = some (vs 67) := by rw [ha]; exact fillA_get0 (j := 67) (by kernel_rfl) (by rw [hsz]; decide)
                      have q67 : vs 67 = .bool true := hD 67 (by simp [waits, Region.binds])
                      rw [q67] at r150
                      clear ha hU hD ha0
                      rw [if_pos (by simp [Region.wanted, yielded, r150])]
                      go_simp
                      exact hK _ _ (bl_alloc hC _ (Nat.le_refl _)) (bl_alloc (Below.refl _ _) _ (Nat.le_refl _)) (IsIntsV.new [0, 1, 2] _ (by decide) hC.size)
                    · -- 70
                      intro vs a W K ha hC hD hU hK
                      have r150 : a.tmps[150]? = some (vs 67) := by rw [ha]; exact fillA_get0 (j := 67) (by kernel_rfl) (by rw [hsz]; decide)
                      have q67 : vs 67 = .bool true := hD 67 (by simp [waits, Region.binds])
                      rw [q67] at r150
                      have r151 : a.tmps[151]? = some (vs 68) := by rw [ha]; exact fillA_get0 (j := 68) (by kernel_rfl) (by rw [hsz]; decide)
                      have q68 : vs 68 = .slice r13_A r13_n r13_c := hD 68 (by simp [waits, Region.binds])
                      rw [q68] at r151
                      have r152 : a.tmps[152]? = some (vs 69) := by rw [ha]; exact fillA_get0 (j := 69) (by kernel_rfl) (by rw [hsz]; decide)
                      have P69 : IsIntsV V10.heap.size [0, 1, 2] (vs 69) W := hD 69 (by simp [waits, Region.binds])
                      obtain ⟨B152, d152, e152, hI152⟩ := P69
                      rw [e152] at r152
                      clear ha hU hD ha0
                      rw [if_pos (by simp [Region.wanted, yielded, r150])]
                      go_simp
                      refine (ints_any W (H_r13.out W hC) hI152).mono ?_
                      rintro e w' ⟨rfl, q, rfl⟩
                      rw [decide_eq_true rfl]
                      exact hK _ (bl_drewN hC q) (bl_drewN (Below.refl _ _) q)
                    · -- 71
                      intro vs a W K ha hC hD hU hK
                      have r150 : a.tmps[150]? = some (vs 67) := by rw [ha]; exact fillA_get0 (j := 67) (by kernel_rfl) (by rw [hsz]; decide)
                      have q67 : vs 67 = .bool true := hD 67 (by simp [waits, Region.binds])
                      rw [q67] at r150
                      have r153 : a.tmps[153]? = some (vs 70) := by rw [ha]; exact fillA_get0 (j := 70) (by kernel_rfl) (by rw [hsz]; decide)
                      have q70 : vs 70 = .bool true := hD 70 (by simp [waits, Region.binds])
                      rw [q70] at r153
                      clear ha hU hD ha0
                      rw [if_pos (by rfl)]
                      go_simp
                      exact hK _ hC (Below.refl _ _)
                    · -- 72
                      intro vs a W K ha hC hD hU hK
                      have r154 : a.tmps[154]? = some (vs 71) := by rw [ha]; exact fillA_get0 (j := 71) (by kernel_rfl) (by rw [hsz]; decide)
                      have q71 : vs 71 = .bool true := hD 71 (by simp [waits, Region.binds])
                      rw [q71] at r154
                      clear ha hU hD ha0
                      rw [if_pos (by rfl)]
                      go_simp
                      exact hK _ hC (Below.refl _ _)
                    · -- 73
                      intro vs a W K ha hC hD hU hK
                      have r155 : a.tmps[155]? = some (vs 72) := by rw [ha]; exact fillA_get0 (j := 72) (by kernel_rfl) (by rw [hsz]; decide)
                      have q72 : vs 72 = .bool true := hD 72 (by simp [waits, Region.binds])
                      rw [q72] at r155
                      have r15 : a.tmps[15]? = some (.slice r15_A r15_n r15_c) := by rw [ha, fillA_base0 (by kernel_rfl)]; exact tb15
                      clear ha hU hD ha0
                      rw [if_pos (by simp [Region.wanted, yielded, r155])]
                      go_simp
                      exact hK _ hC (Below.refl _ _)
                    · -- 74
                      intro vs a W K ha hC hD hU hK
                      have r155 : a.tmps[155]? = some (vs 72) := by rw [ha]; exact fillA_get0 (j := 72) (by kernel_rfl) (by rw [hsz]; decide)
                      have q72 : vs 72 = .bool true := hD 72 (by simp [waits, Region.binds])
                      rw [q72] at r155
                      clear ha hU hD ha0
                      rw [if_pos (by simp [Region.wanted, yielded, r155])]
                      go_simp
                      exact hK _ _ (bl_alloc hC _ (Nat.le_refl _)) (bl_alloc (Below.refl _ _) _ (Nat.le_refl _)) (IsIntsV.new [0, 1] _ (by decide) hC.size)
                    · -- 75
                      intro vs a W K ha hC hD hU hK
                      have r155 : a.tmps[155]? = some (vs 72) := by rw [ha]; exact fillA_get0 (j := 72) (by kernel_rfl) (by rw [hsz]; decide)
                      have q72 : vs 72 = .bool true := hD 72 (by simp [waits, Region.binds])
                      rw [q72] at r155
                      have r156 : a.tmps[156]? = some (vs 73) := by rw [ha]; exact fillA_get0 (j := 73) (by kernel_rfl) (by rw [hsz]; decide)
                      have q73 : vs 73 = .slice r15_A r15_n r15_c := hD 73 (by simp [waits, Region.binds])
                      rw [q73] at r156
                      have r157 : a.tmps[157]? = some (vs 74) := by rw [ha]; exact fillA_get0 (j := 74) (by kernel_rfl) (by rw [hsz]; decide)
                      have P74 : IsIntsV V10.heap.size [0, 1] (vs 74) W := hD 74 (by simp [waits, Region.binds])
                      obtain ⟨B157, d157, e157, hI157⟩ := P74
                      rw [e157] at r157
                      clear ha hU hD ha0
                      rw [if_pos (by simp [Region.wanted, yielded, r155])]
                      go_simp
                      refine (ints_any W (H_r15.out W hC) hI157).mono ?_
                      rintro e w' ⟨rfl, q, rfl⟩
                      rw [decide_eq_true rfl]
                      exact hK _ (bl_drewN hC q) (bl_drewN (Below.refl _ _) q)
                    · -- 76
                      intro vs a W K ha hC hD hU hK
                      have r155 : a.tmps[155]? = some (vs 72) := by rw [ha]; exact fillA_get0 (j := 72) (by kernel_rfl) (by rw [hsz]; decide)
                      have q72 : vs 72 = .bool true := hD 72 (by simp [waits, Region.binds])
                      rw [q72] at r155
                      have r158 : a.tmps[158]? = some (vs 75) := by rw [ha]; exact fillA_get0 (j := 75) (by kernel_rfl) (by rw [hsz]; decide)
                      have q75 : vs 75 = .bool true := hD 75 (by simp [waits, Region.binds])
                      rw [q75] at r158
                      clear ha hU hD ha0
                      rw [if_pos (by rfl)]
                      go_simp
                      exact hK _ hC (Below.refl _ _)
                    · -- 77
                      intro vs a W K ha hC hD hU hK
                      have r159 : a.tmps[159]? = some (vs 76) := by rw [ha]; exact fillA_get0 (j := 76) (by kernel_rfl) (by rw [hsz]; decide)
                      have q76 : vs 76 = .bool true := hD 76 (by simp [waits, Region.binds])
                      rw [q76] at r159
                      clear ha hU hD ha0
                      rw [if_pos (by rfl)]
                      go_simp
                      exact hK _ hC (Below.refl _ _)
                  case finT =>
                    refine Fin1.none (Nat.le_refl _) ?_
                    intro vs W a1 hC hE ha
                    have e0 : vs 77 = .bool true := hE 77 (by simp)
                    have r0 : a1.tmps[0]? = some (vs 77) := by rw [ha]; exact fillA_get0 (j := 77) (by kernel_rfl) (by rw [hsz]; decide)
                    have hdf1 : a1.defers = [] := by rw [ha, fillA_defers, ha0]
                    rw [e0] at r0
                    have hBF := bl_call (bl_call HBV.out HC10.out (Nat.le_refl _)) hC (Nat.le_refl _)
                    clear ha hE hC e0
                    go_simp
                    go_wp2
                    refine bodyPost_ret (results_tmp rfl _ _ _) hdf1 ?_
                    exact ⟨by simp [r0], hBF⟩
end Go.Proofs.YtpdldmichpmgmaaGreat
