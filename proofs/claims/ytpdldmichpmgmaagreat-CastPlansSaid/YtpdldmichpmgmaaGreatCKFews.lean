/- Walks, layer 7, the reference: All, the casts that fit each piece. -/
import Derived.Test.YtpdldmichpmgmaaGreatCKOuts
import Derived.Test.YtpdldmichpmgmaaGreatCKPlanP
import Derived.Test.YtpdldmichpmgmaaGreatCKRefL
import Derived.Test.YtpdldmichpmgmaaGreatCKRefs2
import Derived.Test.YtpdldmichpmgmaaGreatCKRefs3
import Derived.Test.YtpdldmichpmgmaaGreatCKSeeks
import Derived.Test.YtpdldmichpmgmaaGreatCTRegs
import Derived.Test.YtpdldmichpmgmaaGreatCTSorts
set_option linter.unusedVariables false
set_option linter.unusedSimpArgs false
set_option linter.all false
namespace Go.Proofs.YtpdldmichpmgmaaGreat
open Go.RowKit Go.Shelf

/-- new lists of casts, as an answer -/
def IsOrds7 (w0 : Nat) (xs : List (List Pl)) (m : Nat) (e : Ending) (w' : World) : Prop := ∃ A' c', e = .returned (.slice A' m c') ∧ Ords (fun k => w0 ≤ k) w' A' m xs
theorem ords_one {S : Foot} {w : World} {g len c : Nat} {A : Option Addr} {t : TypeId} {L : List Pl} (hB : Blk w g t #[.slice A len c]) (hg : S g) (h : Pls S w A len L) : Ords S w (some ⟨g, 0, none⟩) 1 [L] := by
  refine ⟨rfl, show 1 ≤ maxLen by decide, fun j x hx => ?_⟩
  have hj : j = 0 := by have := of_getq' hx; simp at this; omega
  subst hj
  simp at hx; subst hx
  refine ⟨g, 0, [.slice A len c], rfl, hg, hB.lt, ⟨A, len, c, rfl, h⟩, fun j u hu => ?_⟩
  have hj : j = 0 := by have := of_getq' hu; simp at this; omega
  subst hj
  simp at hu; subst hu
  exact hB.cell 0
/-- what the operations of a round of All promise; 9: the append -/
def allE7 (B wB : Nat) (ov sv lv pv : Value) (pp : Value) (r : Nat) (pa pz : Int) (L : List Pl) (K : List (List Pl)) : Nat → Bool → Value → World → Prop
  | 0, _, v, _ => v = ov
  | 1, _, v, _ => v = sv
  | 2, _, v, _ => v = lv
  | 3, _, v, _ => v = pv
  | 4, _, v, _ => v = .int .i64 r
  | 5, _, v, _ => v = pp
  | 6, _, v, _ => v = .agg #[.int .i64 pa, .int .i64 pz]
  | 7, p, v, W => p = true ∨ ∃ A c, v = .slice A L.length c ∧ Pls (fun k => B ≤ k) W A L.length L
  | 8, p, v, W => p = true ∨ ∃ g A c, v = .slice (some ⟨g, 0, none⟩) 1 1 ∧ B ≤ g ∧ Blk W g 29 #[.slice A L.length c] ∧ Pls (fun k => B ≤ k) W A L.length L
  | 9, _, v, W => ∃ A c, v = .slice A (r + 1) c ∧ OwnT (fun k => wB ≤ k) OrdR 1 W wB 29 v (K ++ [L])
  | _, _, _, _ => True
theorem allE7_stab (B wB : Nat) (ov sv lv pv : Value) (pp : Value) (r : Nat) (pa pz : Int) (L : List Pl) (K : List (List Pl)) : ∀ i p v w w', Below w.heap.size w w' → allE7 B wB ov sv lv pv pp r pa pz L K i p v w → allE7 B wB ov sv lv pv pp r pa pz L K i p v w'
  | 0, _, _, _, _, _, h => h
  | 1, _, _, _, _, _, h => h
  | 2, _, _, _, _, _, h => h
  | 3, _, _, _, _, _, h => h
  | 4, _, _, _, _, _, h => h
  | 5, _, _, _, _, _, h => h
  | 6, _, _, _, _, _, h => h
  | 7, _, _, _, _, hb, h => h.imp id fun ⟨A, c, h1, h2⟩ => ⟨A, c, h1, h2.keep PlR.good (Keeps.below hb)⟩
  | 8, _, _, _, _, hb, h => h.imp id fun ⟨g, A, c, h1, h2, h3, h4⟩ => ⟨g, A, c, h1, h2, h3.bl hb, h4.keep PlR.good (Keeps.below hb)⟩
  | 9, _, _, _, _, hb, ⟨A, c, h1, h2⟩ => ⟨A, c, h1, OwnT.below OrdR.good h2 hb⟩
  | _ + 10, _, _, _, _, _, _ => trivial
structure AllI7 (B : Nat) (W0 : World) (E : Nat → Bool → Value → World → Prop) (V : World) (ov : Value) (K : List (List Pl)) (ls : Nat → Bool) (vs : Nat → Value) (w : World) : Prop where
  bl : Below B W0 w
  sz : V.heap.size ≤ w.heap.size
  own : ls 9 = false → OwnT (fun k => B ≤ k) OrdR 1 w B 29 ov K
  all : ∀ i, ls i = true → E i (ls 9) (vs i) w
theorem AllI7.step {B : Nat} {W0 : World} {E : Nat → Bool → Value → World → Prop} {V : World} {ov : Value} {K : List (List Pl)} {ls : Nat → Bool} {vs : Nat → Value} {w w' : World} {j : Nat} {v : Value} (stab : ∀ i p v w w', Below w.heap.size w w' → E i p v w → E i p v w') (hI : AllI7 B W0 E V ov K ls vs w) (hb : Below w.heap.size w w') (hB : B ≤ w.heap.size) (hj : j ≠ 9) (hv : E j (ls 9) v w') : AllI7 B W0 E V ov K (updB ls j) (updV vs j v) w' := by
  have h0 : updB ls j 9 = ls 9 := by unfold updB; rw [if_neg (fun e => hj e.symm)]
  refine ⟨hI.bl.trans (hb.mono hB), Nat.le_trans hI.sz hb.size, fun h => OwnT.below OrdR.good (hI.own (by rw [← h0]; exact h)) hb, fun i hi => ?_⟩
  rw [h0]
  by_cases hij : i = j
  · subst hij; simpa [updV] using hv
  · have : updB ls j i = ls i := by unfold updB; rw [if_neg hij]
    rw [this] at hi
    rw [show updV vs j v i = vs i by simp [updV, hij]]
    exact stab _ _ _ _ _ hb (hI.all i hi)

set_option maxHeartbeats 8000000 in
set_option maxRecDepth 100000 in
theorem rall7_any {A C P : Option Addr} {n ca q cc m pc : Nat} {s : Shop} {l : List SeenC} {p : List (Int × Int)} {klo khi : Int} (w : World) (g : Moulds (fun _ => True) w A n s.moulds) (gs : SeenCs (fun _ => True) w C q l) (gp : Pairs (fun _ => True) w P m p) (h1 : s.klo = klo) (h2 : s.khi = khi)
    (hk : OkS s) (hne : known7 s l ≠ []) (hq6 : l.length ≤ 6) (hsn : ∀ (j : Nat) (y : SeenC), l[j]? = some y → 0 ≤ y.cast ∧ y.cast ≤ 8) (hm : m ≤ 8) :
    Calls Tryz.prog 28 #[.agg #[.int .i64 klo, .int .i64 khi, .slice A n ca], .slice C q cc, .slice P m pc] w fun e w' => IsOrds7 w.heap.size (allL s l p) m e w' ∧ Below w.heap.size w w' := by
  obtain ⟨i1, hi1, hy0, hy1, hy2⟩ := info_parts infoPls7
  have Hm := Lib.hid gp.len
  have hml := gp.le
  obtain ⟨W0, hW⟩ : ∃ W0, w.alloc (.cells #[.int .i64 klo, .int .i64 khi, .slice A n ca] 26) = W0 := ⟨_, rfl⟩
  have X : Blk W0 w.heap.size 26 #[.int .i64 klo, .int .i64 khi, .slice A n ca] := by rw [← hW]; exact Blk.new _ _ _ rfl
  have hBW : Below w.heap.size w W0 := by rw [← hW]; exact bl_alloc (Below.refl _ _) _ (Nat.le_refl _)
  have hWs := hBW.size
  have HP : Hid (∀ V, Below W0.heap.size W0 V → Pairs (fun _ => True) V P m p) := fun V hb => (gp.keep PairR.good (Keeps.below hBW)).keep PairR.good (Keeps.below hb)
  have kk : Hid (∀ V, Below W0.heap.size W0 V → V.cell? ⟨w.heap.size, 0, none⟩ = some (.int .i64 klo) ∧ V.cell? ⟨w.heap.size, 1, none⟩ = some (.int .i64 khi) ∧ V.cell? ⟨w.heap.size, 2, none⟩ = some (.slice A n ca)) := fun V hb => ⟨(X.bl hb).cell 0, (X.bl hb).cell 1, (X.bl hb).cell 2⟩
  have HF : Hid (∀ (V : World) (pa pz : Int), Below W0.heap.size W0 V → Calls Tryz.prog 53 #[.agg #[.int .i64 klo, .int .i64 khi, .slice A n ca], .slice C q cc, .agg #[.int .i64 pa, .int .i64 pz]] V fun e w' => IsPls7 V.heap.size (fit7 s l pa pz) e w' ∧ Below V.heap.size V w') := fun V pa pz hb =>
    rfit7_any pa pz V ((g.keep MouldR.good (Keeps.below hBW)).keep MouldR.good (Keeps.below hb)) ((gs.keep SeenCR.good (Keeps.below hBW)).keep SeenCR.good (Keeps.below hb)) h1 h2 hk hne hq6 hsn
  have HAL : Hid ((allL s l p).length = m) := by unfold allL; rw [Hid, List.length_map]; exact Hm.out
  clear X g gs gp hk hne hsn
  go_enter Tryz.func28, Tryz.ntmps28
  go_wp2_with fail
  clear hW
  go_loopw [7, 8] (fun o i wr => ∃ (r cap : Nat) (An : Option Addr), r ≤ m ∧ i = .int .i64 r ∧ o = .slice An r cap ∧ Hid (Below W0.heap.size W0 wr) ∧ Hid (OwnT (fun k => W0.heap.size ≤ k) OrdR 1 wr W0.heap.size 29 (.slice An r cap) ((allL s l p).take r))) (fun _ i _ => m - (intOf i).toNat)
  case atStart => exact ⟨0, 0, none, Nat.zero_le _, rfl, rfl, Below.refl _ _, by rw [List.take_zero]; exact OwnT.nil _ _ _ _ _ _⟩
  case round =>
    obtain ⟨r, cap, An, hr, rfl, rfl, HB, HO⟩ := hrel
    by_cases hlt : r < m
    · have hri : (r : Int) < m := by omega
      obtain ⟨bP, oP, pa, pz, rfl, _, d0, d1, Hx⟩ := Pairs.get (HP.out W0 (Below.refl _ _)) hlt
      have HD0 := Lib.hid d0
      have HD1 := Lib.hid d1
      have HTL : Hid (((allL s l p).take r).length = r) := by rw [Hid, List.length_take, HAL.out]; omega
      have HTS : Hid ((allL s l p).take (r + 1) = (allL s l p).take r ++ [fit7 s l pa pz]) := all_snoc Hx.out
      obtain ⟨V, hV⟩ : ∃ V, V = wr := ⟨_, rfl⟩
      subst hV
      obtain ⟨L, hL⟩ : ∃ L, fit7 s l pa pz = L := ⟨_, rfl⟩
      have HLe := Lib.hid hL
      rw [hL] at HTS
      have hOb : ∀ g, (Value.slice An r cap).ownBlock = some g → g < V.heap.size := fun g hg => (OwnL.block HO.out g hg).2
      have HOb := Lib.hid hOb
      have hwV := HB.out.size
      clear d0 d1 hL hOb
      go_wp2_with fail
      have AS := Lib.hid (allE7_stab V.heap.size W0.heap.size (.slice An r cap) (.agg #[.int .i64 klo, .int .i64 khi, .slice A n ca]) (.slice C q cc) (.slice (some ⟨bP, oP, none⟩) m pc) (.pointer (some ⟨bP, oP + r * 2, none⟩)) r pa pz L ((allL s l p).take r))
      refine wp_region_invs (fun ls vs ww => AllI7 W0.heap.size W0 (allE7 V.heap.size W0.heap.size (.slice An r cap) (.agg #[.int .i64 klo, .int .i64 khi, .slice A n ca]) (.slice C q cc) (.slice (some ⟨bP, oP, none⟩) m pc) (.pointer (some ⟨bP, oP + r * 2, none⟩)) r pa pz L ((allL s l p).take r)) V (.slice An r cap) ((allL s l p).take r) ls vs ww) 10 (by kernel_rfl) (by kernel_rfl) (by kernel_rfl) (by rfl) ⟨HB.out.drew, Nat.le_refl _, fun _ => OwnL.keep OrdR.good HO.out (Keeps.drew _), fun i h => by cases h⟩ ?step (by rfl) (by rfl) ?fin
      case step =>
        refine StepsI.cons ?_ (StepsI.cons ?_ (StepsI.cons ?_ (StepsI.cons ?_ (StepsI.cons ?_ (StepsI.cons ?_ (StepsI.cons ?_ (StepsI.cons ?_ (StepsI.cons ?_ (StepsI.cons ?_ StepsI.nil)))))))))
        all_goals
          refine StepI.of ?_
          intro ls vs W K hI hl hw hU hK
          simp only [fillA, Act.put, List.setIfInBounds_toArray, List.set_cons_zero, List.set_cons_succ, Nat.zero_add, Nat.reduceAdd] at hK ⊢
          simp [waits, Region.binds] at hw
          have hC := hI.bl
        · have hM : vs 10 = .slice An r cap := (hU 10 _ rfl (by simp [waits, Region.binds])).2
          simp only [hM] at hK ⊢
          go_simp
          exact hK _ _ (hI.step AS.out (Below.refl _ _) hC.size (by decide) rfl)
        · obtain ⟨x0, x1, x2⟩ := kk.out W hC
          go_simp
          exact hK _ _ (hI.step AS.out (Below.refl _ _) hC.size (by decide) rfl)
        · go_simp
          exact hK _ _ (hI.step AS.out (Below.refl _ _) hC.size (by decide) rfl)
        · go_simp
          exact hK _ _ (hI.step AS.out (Below.refl _ _) hC.size (by decide) rfl)
        · go_simp
          exact hK _ _ (hI.step AS.out (Below.refl _ _) hC.size (by decide) rfl)
        · have q3 : vs 3 = _ := hI.all 3 (by simp [hw])
          have q4 : vs 4 = _ := hI.all 4 (by simp [hw])
          simp only [q3, q4] at hK ⊢
          go_simp
          exact hK _ _ (hI.step AS.out (Below.refl _ _) hC.size (by decide) rfl)
        · have q5 : vs 5 = _ := hI.all 5 (by simp [hw])
          simp only [q5] at hK ⊢
          have k0 := getc hC HD0.out
          have k1 := getc hC HD1.out
          go_simp
          exact hK _ _ (hI.step AS.out (Below.refl _ _) hC.size (by decide) rfl)
        · have q1 : vs 1 = _ := hI.all 1 (by simp [hw])
          have q2 : vs 2 = _ := hI.all 2 (by simp [hw])
          have q6 : vs 6 = _ := hI.all 6 (by simp [hw])
          simp only [q1, q2, q6] at hK ⊢
          go_simp
          refine (HF.out W pa pz hC).mono ?_
          rintro e w' ⟨⟨A9, c9, rfl, hP9⟩, hb⟩
          rw [HLe.out] at hP9 ⊢
          exact hK _ _ (hI.step AS.out hb hC.size (by decide) (.inr ⟨A9, c9, rfl, hP9.mono PlR.good (fun k hk => Nat.le_trans hI.sz hk)⟩))
        · have h9 : ls 9 = false := (hU 9 _ rfl (by simp [waits, Region.binds])).1
          obtain ⟨A9, c9, h7, hP9⟩ := (hI.all 7 (by simp [hw])).resolve_left (by rw [h9]; decide)
          simp only [h7] at hK ⊢
          go_simp
          exact hK _ _ (hI.step AS.out (bl_alloc (Below.refl _ _) _ (Nat.le_refl _)) hC.size (by decide) (.inr ⟨_, A9, c9, rfl, hI.sz, Blk.new _ _ _ rfl, hP9.keep PlR.good (Keeps.alloc _ _)⟩))
        · obtain ⟨g9, A9, c9, h8, hg9, hB9, hP9⟩ := (hI.all 8 (by simp [hw])).resolve_left (by rw [hl]; decide)
          have q0 : vs 0 = _ := hI.all 0 (by simp [hw])
          simp only [h8, q0] at hK ⊢
          rw [if_pos (by rfl)]
          have hO9 := hI.own hl
          obtain ⟨A4, c4, w', hrun, hO4, hg4, _⟩ := run_append_allt W 63 63 (fun k => W0.heap.size ≤ k) OrdR.good W0.heap.size 29 i1 _ 24 Tryz.underlying63 hi1 hy0 hy1 hy2 rfl (.slice An r cap) ((allL s l p).take r) r HTL.out hO9 (some ⟨g9, 0, none⟩) 1 1 [L] (ords_one hB9 hg9 hP9) (fun k h1 h2 => ⟨Nat.le_trans hwV h1, fun e => by have := HOb.out k e; omega⟩) (by simp only [maxLen]; omega) (by omega) hC.size
          refine wp_append_of_run rfl rfl rfl hrun ?_
          have hB2 : Below W0.heap.size W0 w' := bl_grown hC hO9 hg4 (Nat.le_refl _) (Nat.le_refl _)
          refine hK _ _ ⟨hB2, Nat.le_trans hI.sz hg4.size, (fun h => by unfold updB at h; rw [if_pos rfl] at h; cases h), fun i hi => ?_⟩
          have hb9 : updB ls 9 9 = true := by unfold updB; rw [if_pos rfl]
          rw [hb9]
          match i, hi with
          | 0, hi => exact hI.all 0 hi
          | 1, hi => exact hI.all 1 hi
          | 2, hi => exact hI.all 2 hi
          | 3, hi => exact hI.all 3 hi
          | 4, hi => exact hI.all 4 hi
          | 5, hi => exact hI.all 5 hi
          | 6, hi => exact hI.all 6 hi
          | 7, _ => exact .inl rfl
          | 8, _ => exact .inl rfl
          | 9, _ => exact ⟨A4, c4, rfl, hO4⟩
          | _ + 10, _ => trivial
      case fin =>
        intro ls vs W hI hl hU
        clear hU
        have hC := hI.bl
        have e9 := hI.all 9 (hl 9 (by decide))
        simp only [fillA, Act.put, List.setIfInBounds_toArray, List.set_cons_zero, List.set_cons_succ, Nat.zero_add, Nat.reduceAdd]
        obtain ⟨A7, c7, h9, hO7⟩ := e9
        rw [h9] at hO7 ⊢
        obtain ⟨u0, hu0⟩ : ∃ v0, vs 0 = v0 := ⟨_, rfl⟩
        obtain ⟨u1, hu1⟩ : ∃ v0, vs 1 = v0 := ⟨_, rfl⟩
        obtain ⟨u2, hu2⟩ : ∃ v0, vs 2 = v0 := ⟨_, rfl⟩
        obtain ⟨u3, hu3⟩ : ∃ v0, vs 3 = v0 := ⟨_, rfl⟩
        obtain ⟨u4, hu4⟩ : ∃ v0, vs 4 = v0 := ⟨_, rfl⟩
        obtain ⟨u5, hu5⟩ : ∃ v0, vs 5 = v0 := ⟨_, rfl⟩
        obtain ⟨u6, hu6⟩ : ∃ v0, vs 6 = v0 := ⟨_, rfl⟩
        obtain ⟨u7, hu7⟩ : ∃ v0, vs 7 = v0 := ⟨_, rfl⟩
        obtain ⟨u8, hu8⟩ : ∃ v0, vs 8 = v0 := ⟨_, rfl⟩
        rw [hu0, hu1, hu2, hu3, hu4, hu5, hu6, hu7, hu8]
        clear hu0 hu1 hu2 hu3 hu4 hu5 hu6 hu7 hu8
        clear h9 hI hl AS
        have HBX : Hid (Below W0.heap.size W0 W) := hC
        have HO7 : Hid (OwnT (fun k => W0.heap.size ≤ k) OrdR 1 W W0.heap.size 29 (.slice A7 (r + 1) c7) ((allL s l p).take (r + 1))) := by rw [Hid, HTS.out]; exact hO7
        clear hO7 hC
        go_simp
        go_wp2_with fail
        go_roundw
        case rel => exact ⟨r + 1, c7, A7, by omega, by go_num, rfl, HBX.out, HO7.out⟩
        case measure => simp [intOf]; omega
    · obtain rfl : r = m := by omega
      have hri : ¬ (r : Int) < r := by omega
      have hfull : (allL s l p).take r = allL s l p := List.take_of_length_le (by rw [HAL.out]; exact Nat.le_refl _)
      rw [hfull] at HO
      go_wp2_with fail
      go_ret
      exact ⟨⟨An, cap, rfl, OwnT.slice OrdR.good HO.out rfl (by simp only [maxLen]; omega) (fun _ h => Nat.le_trans hWs h) (fun _ h => Nat.le_trans hWs h)⟩, bl_call hBW HB.out (Nat.le_refl _)⟩
end Go.Proofs.YtpdldmichpmgmaaGreat

namespace Go.Proofs.YtpdldmichpmgmaaGreat

theorem lexC_of_take : ∀ {a b : List Int} {k : Nat} {x y : Int}, a.take k = b.take k → a[k]? = some x → b[k]? = some y → x < y → lexC a b < 0
  | [], _, k, x, _, _, h, _, _ => by simp at h
  | _ :: _, [], k, _, y, _, _, h, _ => by simp at h
  | u :: a, v :: b, 0, x, y, _, h1, h2, hxy => by
    simp at h1 h2
    subst h1; subst h2
    exact lexC_neg.2 (.inl hxy)
  | u :: a, v :: b, k + 1, x, y, ht, h1, h2, hxy => by
    rw [List.take_succ_cons, List.take_succ_cons] at ht
    injection ht with e1 e2
    refine lexC_neg.2 (.inr ⟨e1, lexC_of_take e2 (by simpa using h1) (by simpa using h2) hxy⟩)
/-- the order of the sets: the shorter ones first, then number by number -/
def BefS (a b : List Int) : Prop := a.length < b.length ∨ (a.length = b.length ∧ lexC a b < 0)
theorem sets_bef {n : Nat} (hn : n < 9) : (setsL n).Pairwise BefS := by
  unfold setsL
  rw [List.pairwise_flatMap]
  refine ⟨fun k hk => ?_, ?_⟩
  · have hk9 : k < 9 := by have := List.mem_range.1 hk; omega
    have h := lex_pair n hn k hk9
    refine List.Pairwise.imp_of_mem (fun {a b} ha hb hl => .inr ⟨?_, hl⟩) h
    rw [(lex_set ha).2, (lex_set hb).2]
  · refine List.Pairwise.imp (fun {i j} hij x hx y hy => .inl ?_) (List.pairwise_lt_range (n := n + 1))
    rw [(lex_set hx).2, (lex_set hy).2]; exact hij
theorem bef_irr {a b : List Int} (h : BefS a b) (h2 : BefS b a) : False := by
  rcases h with h | ⟨h, h1⟩
  · rcases h2 with h2 | ⟨h2, _⟩ <;> omega
  · rcases h2 with h2 | ⟨_, h3⟩
    · omega
    · have := lexC_trans _ _ _ h1 h3
      rw [lexC_refl] at this
      omega
/-- what stands before in a list that is in order -/
theorem bef_in {n : Nat} (hn : n < 9) {A B : List (List Int)} {u t : List Int} (e : setsL n = A ++ u :: B) (ht : t ∈ setsL n) (h : BefS t u) : t ∈ A := by
  have hp := sets_bef hn
  rw [e] at hp ht
  rcases List.mem_append.1 ht with h1 | h1
  · exact h1
  · exfalso
    have hp2 := (List.pairwise_append.1 hp).2.1
    rcases List.mem_cons.1 h1 with h1 | h1
    · rw [h1] at h; exact bef_irr h h
    · exact bef_irr h ((List.pairwise_cons.1 hp2).1 t h1)
theorem only_lack {s : Shop} {l : List SeenC} {p : List (Int × Int)} {set : List Int} (h0 : orderE s l p = 0) : (fewestL (onlyL (allL s l p) set [])).isSome = true ↔ ¬ CanS (allL s l p) set := by
  obtain ⟨hok, hne, _, _⟩ := order_zero h0
  have hu := fun j => all_hu (p := p) hok hne j
  have h1 := fewest_iff (only_hu hu set []) hF8
  have h2 := can_only (all := allL s l p) (set := set) (but := []) (i := 0) (Nat.zero_le _)
  rw [List.drop_zero] at h2
  rw [h2] at h1
  have h3 : CanP (allL s l p) (fun a => hasN set a.1) (fun j => decide (0 ≤ j)) [] (allL s l p).length ↔ CanS (allL s l p) set := ⟨fun h => can_congr (fun j _ => by simp) h, fun h => can_congr (fun j _ => by simp) h⟩
  rw [h3] at h1
  rw [← h1]
  cases fewestL (onlyL (allL s l p) set []) <;> simp
theorem plan_nonempty {o : List (List Pl)} {set : List Int} (h : CanS o set) (ho : 1 ≤ o.length) : 1 ≤ set.length := by
  obtain ⟨M, h1, _⟩ := h
  have := (h1 0 (by omega) rfl).2.1
  unfold hasN at this
  simp only [decide_eq_true_eq] at this
  exact List.length_pos_of_mem this
theorem fewest_none {s : Shop} {l : List SeenC} {p : List (Int × Int)} {set : List Int} (h0 : orderE s l p = 0) (hs : set ∈ setsL s.moulds.length) (h : (planR s l p).2.2 ≠ 0) : (planR s l p).2.2 = 8 ∧ (fewestL (onlyL (allL s l p) set [])).isSome = true := by
  rcases plan_cases h0 with ⟨A, u, B, e1, e2, e3, e4⟩ | ⟨h1, h2⟩
  · rw [e4] at h; exact absurd rfl h
  · exact ⟨by rw [h2], (only_lack h0).2 (h1 set hs)⟩
theorem fewest_bef {s : Shop} {l : List SeenC} {p : List (Int × Int)} {set : List Int} (h0 : orderE s l p = 0) (hn : s.moulds.length < 9) (hs : set ∈ setsL s.moulds.length) (h : (planR s l p).2.2 = 0) : 1 ≤ (planR s l p).2.1.length ∧ (BefS set (planR s l p).2.1 → (fewestL (onlyL (allL s l p) set [])).isSome = true) := by
  obtain ⟨_, _, hp1, _⟩ := order_zero h0
  rcases plan_cases h0 with ⟨A, u, B, e1, e2, e3, e4⟩ | ⟨h1, h2⟩
  · rw [e4]
    dsimp only
    exact ⟨plan_nonempty e3 (by rw [allL_len]; exact hp1), fun hb => (only_lack h0).2 (e2 _ (bef_in hn e1 hs hb))⟩
  · rw [h2] at h; cases h
theorem sets_few (n : Nat) : setsL n = [] :: fewU n n := sets_first n
theorem lacksR_0 {s : Shop} {l : List SeenC} {p : List (Int × Int)} (h0 : orderE s l p = 0) : lacksR s l p = match fewestL (allL s l p) with | some X => (X, 0) | none => ([], 4) := by
  obtain ⟨hok, hne, _, _⟩ := order_zero h0
  have hf := lacks_find (fun j => all_hu (p := p) hok hne j) hF8
  rw [allL_len] at hf
  rw [lacksR, if_neg (by simp [h0]), hf]
  cases fewestL (allL s l p) <;> rfl
theorem few_mem {n : Nat} {x : List Int} (hx : x ∈ setsL n) (h1 : 1 ≤ x.length) : x ∈ fewU n n := by
  rw [sets_few] at hx
  rcases List.mem_cons.1 hx with e | e
  · rw [e] at h1; simp at h1
  · exact e
theorem lacks_none7 {s : Shop} {l : List SeenC} {p : List (Int × Int)} (h0 : orderE s l p = 0) (h : fewestL (allL s l p) = none) : (planR s l p).2.2 = 0 ∧ ∀ x ∈ setsL p.length, 1 ≤ x.length → lackB (allL s l p) x = false := by
  obtain ⟨hok, hne, _, _⟩ := order_zero h0
  refine ⟨plan_ok h0 ((fewest_iff (fun j => all_hu (p := p) hok hne j) hF8).1 h), fun x hx h1 => ?_⟩
  rw [fewest_def, allL_len, List.find?_eq_none] at h
  have := h x (few_mem hx h1)
  simpa using this
theorem lacks_some7 {s : Shop} {l : List SeenC} {p : List (Int × Int)} {X : List Int} (h0 : orderE s l p = 0) (h : fewestL (allL s l p) = some X) : (planR s l p).2.2 = 8 ∧ 1 ≤ X.length ∧ IsSet p.length X ∧ lackB (allL s l p) X = true ∧ ∀ x ∈ setsL p.length, 1 ≤ x.length → lackB (allL s l p) x = true → X.length ≤ x.length := by
  obtain ⟨hok, hne, _, _⟩ := order_zero h0
  have hno : ¬ CanP (allL s l p) (fun _ => true) (fun _ => true) [] (allL s l p).length := fun hc => by
    rw [(fewest_iff (fun j => all_hu (p := p) hok hne j) hF8).2 hc] at h; cases h
  rw [fewest_def, allL_len] at h
  rw [List.find?_eq_some_iff_append] at h
  obtain ⟨h1, A, B, h2, h3⟩ := h
  have hX : X ∈ fewU p.length p.length := by rw [h2]; simp
  have hXs : X ∈ setsL p.length := by rw [sets_few]; exact List.mem_cons_of_mem _ hX
  have hX1 : 1 ≤ X.length := by
    unfold fewU at hX
    obtain ⟨k, _, hk⟩ := List.mem_flatMap.1 hX
    rw [(lex_set hk).2]; omega
  refine ⟨plan_none h0 hno, hX1, sets_set hXs, h1, fun x hx hx1 hxl => ?_⟩
  have hord := sets_order p.length
  rw [sets_few, h2] at hord
  have hord := (List.pairwise_cons.1 hord).2
  have hxf := few_mem hx hx1
  rw [h2] at hxf
  rcases List.mem_append.1 hxf with hm | hm
  · have := h3 x hm
    rw [hxl] at this
    simp at this
  · rcases List.mem_cons.1 hm with hm | hm
    · rw [hm]; exact Nat.le_refl _
    · exact (List.pairwise_cons.1 (List.pairwise_append.1 hord).2.1).1 x hm
end Go.Proofs.YtpdldmichpmgmaaGreat

namespace Go.Proofs.YtpdldmichpmgmaaGreat
open Go.RowKit Go.Shelf

theorem all40 {s : Shop} {l : List SeenC} {p : List (Int × Int)} (h0 : orderE s l p = 0) : ∀ x ∈ allL s l p, x.length ≤ 40 := by
  obtain ⟨hok, hne, _, _⟩ := order_zero h0
  intro x hx
  obtain ⟨j, hj, e⟩ := List.getElem_of_mem hx
  have := (all_hu (p := p) hok hne j).1
  rw [getD_of (List.getElem?_eq_getElem hj), e] at this
  omega
theorem only40 {all : List (List Pl)} (h : ∀ x ∈ all, x.length ≤ 40) (set : List Int) (but : List Pl) : ∀ x ∈ onlyL all set but, x.length ≤ 40 := by
  intro x hx
  rw [onlyL_def] at hx
  obtain ⟨y, hy, rfl⟩ := List.mem_map.1 hx
  exact Nat.le_trans (List.length_filter_le _ _) (h y hy)
theorem rall7_0 {A C P : Option Addr} {n ca q cc m pc : Nat} {s : Shop} {l : List SeenC} {p : List (Int × Int)} {klo khi : Int} (w : World) (g : Moulds (fun _ => True) w A n s.moulds) (gs : SeenCs (fun _ => True) w C q l) (gp : Pairs (fun _ => True) w P m p) (h1 : s.klo = klo) (h2 : s.khi = khi) (h0 : orderE s l p = 0) :
    Calls Tryz.prog 28 #[.agg #[.int .i64 klo, .int .i64 khi, .slice A n ca], .slice C q cc, .slice P m pc] w fun e w' => IsOrds7 w.heap.size (allL s l p) m e w' ∧ Below w.heap.size w w' := by
  obtain ⟨hok, hne, hp1, hp6⟩ := order_zero h0
  obtain ⟨_, hq6, hsn⟩ := seen7_all (order_parts h0).1
  exact rall7_any w g gs gp h1 h2 hok hne hq6 hsn (by have := gp.len; omega)
end Go.Proofs.YtpdldmichpmgmaaGreat
