/- Walks, layer 7, the reference: All, the casts that fit each piece. -/
import Derived.Test.YtpdldmichpmgmaaGreatCKOuts
import Derived.Test.YtpdldmichpmgmaaGreatCKRefL
import Derived.Test.YtpdldmichpmgmaaGreatCKRefO
import Derived.Test.YtpdldmichpmgmaaGreatCKSeeks
import Derived.Test.YtpdldmichpmgmaaGreatCTRegs
set_option linter.unusedVariables false
set_option linter.unusedSimpArgs false
set_option linter.all false
namespace Go.Proofs.YtpdldmichpmgmaaGreat
open Go.RowKit Go.Shelf

/-- new lists of casts, as an answer -/
def IsOrds7 (w0 : Nat) (xs : List (List Pl)) (m : Nat) (e : Ending) (w' : World) : Prop := ∃ A' c', e = .returned (.slice A' m c') ∧ Ords (fun k => w0 ≤ k) w' A' m xs
theorem ords_one {S : Foot} {w : World} {g len c : Nat} {A : Option Addr} {t : TypeId} {L : List Pl} (hB : Blk w g t #[.slice A len c]) (hg : S g) (h : Pls S w A len L) : Ords S w (some ⟨g, 0, none⟩) 1 [L] := by
  refine ⟨rfl, show 1 ≤ maxLen by decide, fun j x hx => ?_⟩
  have hj : j = 0 := by have := of_getq' hx; simp at this; omega
  subst hj
  simp at hx; subst hx
  refine ⟨g, 0, [.slice A len c], rfl, hg, hB.lt, ⟨A, len, c, rfl, h⟩, fun j u hu => ?_⟩
  have hj : j = 0 := by have := of_getq' hu; simp at this; omega
  subst hj
  simp at hu; subst hu
  exact hB.cell 0
/-- what the operations of a round of All promise; 9: the append -/
def allE7 (B wB : Nat) (ov sv lv pv : Value) (pp : Value) (r : Nat) (pa pz : Int) (L : List Pl) (K : List (List Pl)) : Nat → Bool → Value → World → Prop
  | 0, _, v, _ => v = ov
  | 1, _, v, _ => v = sv
  | 2, _, v, _ => v = lv
  | 3, _, v, _ => v = pv
  | 4, _, v, _ => v = .int .i64 r
  | 5, _, v, _ => v = pp
  | 6, _, v, _ => v = .agg #[.int .i64 pa, .int .i64 pz]
  | 7, p, v, W => p = true ∨ ∃ A c, v = .slice A L.length c ∧ Pls (fun k => B ≤ k) W A L.length L
  | 8, p, v, W => p = true ∨ ∃ g A c, v = .slice (some ⟨g, 0, none⟩) 1 1 ∧ B ≤ g ∧ Blk W g 29 #[.slice A L.length c] ∧ Pls (fun k => B ≤ k) W A L.length L
  | 9, _, v, W => ∃ A c, v = .slice A (r + 1) c ∧ OwnT (fun k => wB ≤ k) OrdR 1 W wB 29 v (K ++ [L])
  | _, _, _, _ => True
theorem allE7_stab (B wB : Nat) (ov sv lv pv : Value) (pp : Value) (r : Nat) (pa pz : Int) (L : List Pl) (K : List (List Pl)) : ∀ i p v w w', Below w.heap.size w w' → allE7 B wB ov sv lv pv pp r pa pz L K i p v w → allE7 B wB ov sv lv pv pp r pa pz L K i p v w'
  | 0, _, _, _, _, _, h => h
  | 1, _, _, _, _, _, h => h
  | 2, _, _, _, _, _, h => h
  | 3, _, _, _, _, _, h => h
  | 4, _, _, _, _, _, h => h
  | 5, _, _, _, _, _, h => h
  | 6, _, _, _, _, _, h => h
  | 7, _, _, _, _, hb, h => h.imp id fun ⟨A, c, h1, h2⟩ => ⟨A, c, h1, h2.keep PlR.good (Keeps.below hb)⟩
  | 8, _, _, _, _, hb, h => h.imp id fun ⟨g, A, c, h1, h2, h3, h4⟩ => ⟨g, A, c, h1, h2, h3.bl hb, h4.keep PlR.good (Keeps.below hb)⟩
  | 9, _, _, _, _, hb, ⟨A, c, h1, h2⟩ => ⟨A, c, h1, OwnT.below OrdR.good h2 hb⟩
  | _ + 10, _, _, _, _, _, _ => trivial
structure AllI7 (B : Nat) (W0 : World) (E : Nat → Bool → Value → World → Prop) (V : World) (ov : Value) (K : List (List Pl)) (ls : Nat → Bool) (vs : Nat → Value) (w : World) : Prop where
  bl : Below B W0 w
  sz : V.heap.size ≤ w.heap.size
  own : ls 9 = false → OwnT (fun k => B ≤ k) OrdR 1 w B 29 ov K
  all : ∀ i, ls i = true → E i (ls 9) (vs i) w
theorem AllI7.step {B : Nat} {W0 : World} {E : Nat → Bool → Value → World → Prop} {V : World} {ov : Value} {K : List (List Pl)} {ls : Nat → Bool} {vs : Nat → Value} {w w' : World} {j : Nat} {v : Value} (stab : ∀ i p v w w', Below w.heap.size w w' → E i p v w → E i p v w') (hI : AllI7 B W0 E V ov K ls vs w) (hb : Below w.heap.size w w') (hB : B ≤ w.heap.size) (hj : j ≠ 9) (hv : E j (ls 9) v w') : AllI7 B W0 E V ov K (updB ls j) (updV vs j v) w' := by
  have h0 : updB ls j 9 = ls 9 := by unfold updB; rw [if_neg (fun e => hj e.symm)]
  refine ⟨hI.bl.trans (hb.mono hB), Nat.le_trans hI.sz hb.size, fun h => OwnT.below OrdR.good (hI.own (by rw [← h0]; exact h)) hb, fun i hi => ?_⟩
  rw [h0]
  by_cases hij : i = j
  · subst hij; simpa [updV] using hv
  · have : updB ls j i = ls i := by unfold updB; rw [if_neg hij]
    rw [this] at hi
    rw [show updV vs j v i = vs i by simp [updV, hij]]
    exact stab _ _ _ _ _ hb (hI.all i hi)

set_option maxHeartbeats 8000000 in
set_option maxRecDepth 100000 in
theorem rall7_any {A C P : Option Addr} {n ca q cc m pc : Nat} {s : Shop} {l : List SeenC} {p : List (Int × Int)} {klo khi : Int} (w : World) (g : Moulds (fun _ => True) w A n s.moulds) (gs : SeenCs (fun _ => True) w C q l) (gp : Pairs (fun _ => True) w P m p) (h1 : s.klo = klo) (h2 : s.khi = khi)
    (hk : OkS s) (hne : known7 s l ≠ []) (hq6 : l.length ≤ 6) (hsn : ∀ (j : Nat) (y : SeenC), l[j]? = some y → 0 ≤ y.cast ∧ y.cast ≤ 8) (hm : m ≤ 8) :
    Calls Tryz.prog 28 #[.agg #[.int .i64 klo, .int .i64 khi, .slice A n ca], .slice C q cc, .slice P m pc] w fun e w' => IsOrds7 w.heap.size (allL s l p) m e w' ∧ Below w.heap.size w w' := by
  obtain ⟨i1, hi1, hy0, hy1, hy2⟩ := info_parts infoPls7
  have Hm := Lib.hid gp.len
  have hml := gp.le
  obtain ⟨W0, hW⟩ : ∃ W0, w.alloc (.cells #[.int .i64 klo, .int .i64 khi, .slice A n ca] 26) = W0 := ⟨_, rfl⟩
  have X : Blk W0 w.heap.size 26 #[.int .i64 klo, .int .i64 khi, .slice A n ca] := by rw [← hW]; exact Blk.new _ _ _ rfl
  have hBW : Below w.heap.size w W0 := by rw [← hW]; exact bl_alloc (Below.refl _ _) _ (Nat.le_refl _)
  have hWs := hBW.size
  have HP : Hid (∀ V, Below W0.heap.size W0 V → Pairs (fun _ => True) V P m p) := fun V hb => (gp.keep PairR.good (Keeps.below hBW)).keep PairR.good (Keeps.below hb)
  have kk : Hid (∀ V, Below W0.heap.size W0 V → V.cell? ⟨w.heap.size, 0, none⟩ = some (.int .i64 klo) ∧ V.cell? ⟨w.heap.size, 1, none⟩ = some (.int .i64 khi) ∧ V.cell? ⟨w.heap.size, 2, none⟩ = some (.slice A n ca)) := fun V hb => ⟨(X.bl hb).cell 0, (X.bl hb).cell 1, (X.bl hb).cell 2⟩
  have HF : Hid (∀ (V : World) (pa pz : Int), Below W0.heap.size W0 V → Calls Tryz.prog 53 #[.agg #[.int .i64 klo, .int .i64 khi, .slice A n ca], .slice C q cc, .agg #[.int .i64 pa, .int .i64 pz]] V fun e w' => IsPls7 V.heap.size (fit7 s l pa pz) e w' ∧ Below V.heap.size V w') := fun V pa pz hb =>
    rfit7_any pa pz V ((g.keep MouldR.good (Keeps.below hBW)).keep MouldR.good (Keeps.below hb)) ((gs.keep SeenCR.good (Keeps.below hBW)).keep SeenCR.good (Keeps.below hb)) h1 h2 hk hne hq6 hsn
  have HAL : Hid ((allL s l p).length = m) := by unfold allL; rw [Hid, List.length_map]; exact Hm.out
  clear X g gs gp hk hne hsn
  go_enter Tryz.func28, Tryz.ntmps28
  go_wp2_with fail
  clear hW
  go_loopw [7, 8] (fun o i wr => ∃ (r cap : Nat) (An : Option Addr), r ≤ m ∧ i = .int .i64 r ∧ o = .slice An r cap ∧ Hid (Below W0.heap.size W0 wr) ∧ Hid (OwnT (fun k => W0.heap.size ≤ k) OrdR 1 wr W0.heap.size 29 (.slice An r cap) ((allL s l p).take r))) (fun _ i _ => m - (intOf i).toNat)
  case atStart => exact ⟨0, 0, none, Nat.zero_le _, rfl, rfl, Below.refl _ _, by rw [List.take_zero]; exact OwnT.nil _ _ _ _ _ _⟩
  case round =>
    obtain ⟨r, cap, An, hr, rfl, rfl, HB, HO⟩ := hrel
    by_cases hlt : r < m
    · have hri : (r : Int) < m := by omega
      obtain ⟨bP, oP, pa, pz, rfl, _, d0, d1, Hx⟩ := Pairs.get (HP.out W0 (Below.refl _ _)) hlt
      have HD0 := Lib.hid d0
      have HD1 := Lib.hid d1
      have HTL : Hid (((allL s l p).take r).length = r) := by rw [Hid, List.length_take, HAL.out]; omega
      have HTS : Hid ((allL s l p).take (r + 1) = (allL s l p).take r ++ [fit7 s l pa pz]) := all_snoc Hx.out
      obtain ⟨V, hV⟩ : ∃ V, V = wr := ⟨_, rfl⟩
      subst hV
      obtain ⟨L, hL⟩ : ∃ L, fit7 s l pa pz = L := ⟨_, rfl⟩
      have HLe := Lib.hid hL
      rw [hL] at HTS
      have hOb : ∀ g, (Value.slice An r cap).ownBlock = some g → g < V.heap.size := fun g hg => (OwnL.block HO.out g hg).2
      have HOb := Lib.hid hOb
      have hwV := HB.out.size
      clear d0 d1 hL hOb
      go_wp2_with fail
      have AS := Lib.hid (allE7_stab V.heap.size W0.heap.size (.slice An r cap) (.agg #[.int .i64 klo, .int .i64 khi, .slice A n ca]) (.slice C q cc) (.slice (some ⟨bP, oP, none⟩) m pc) (.pointer (some ⟨bP, oP + r * 2, none⟩)) r pa pz L ((allL s l p).take r))
      refine wp_region_invs (fun ls vs ww => AllI7 W0.heap.size W0 (allE7 V.heap.size W0.heap.size (.slice An r cap) (.agg #[.int .i64 klo, .int .i64 khi, .slice A n ca]) (.slice C q cc) (.slice (some ⟨bP, oP, none⟩) m pc) (.pointer (some ⟨bP, oP + r * 2, none⟩)) r pa pz L ((allL s l p).take r)) V (.slice An r cap) ((allL s l p).take r) ls vs ww) 10 (by kernel_rfl) (by kernel_rfl) (by kernel_rfl) (by rfl) ⟨HB.out.drew, Nat.le_refl _, fun _ => OwnL.keep OrdR.good HO.out (Keeps.drew _), fun i h => by cases h⟩ ?step (by rfl) (by rfl) ?fin
      case step =>
        refine StepsI.cons ?_ (StepsI.cons ?_ (StepsI.cons ?_ (StepsI.cons ?_ (StepsI.cons ?_ (StepsI.cons ?_ (StepsI.cons ?_ (StepsI.cons ?_ (StepsI.cons ?_ (StepsI.cons ?_ StepsI.nil)))))))))
        all_goals
          refine StepI.of ?_
          intro ls vs W K hI hl hw hU hK
          simp only [fillA, Act.put, List.setIfInBounds_toArray, List.set_cons_zero, List.set_cons_succ, Nat.zero_add, Nat.reduceAdd] at hK ⊢
          simp [waits, Region.binds] at hw
          have hC := hI.bl
        · have hM : vs 10 = .slice An r cap := (hU 10 _ rfl (by simp [waits, Region.binds])).2
          simp only [hM] at hK ⊢
          go_simp
          exact hK _ _ (hI.step AS.out (Below.refl _ _) hC.size (by decide) rfl)
        · obtain ⟨x0, x1, x2⟩ := kk.out W hC
          go_simp
          exact hK _ _ (hI.step AS.out (Below.refl _ _) hC.size (by decide) rfl)
        · go_simp
          exact hK _ _ (hI.step AS.out (Below.refl _ _) hC.size (by decide) rfl)
        · go_simp
          exact hK _ _ (hI.step AS.out (Below.refl _ _) hC.size (by decide) rfl)
        · go_simp
          exact hK _ _ (hI.step AS.out (Below.refl _ _) hC.size (by decide) rfl)
        · have q3 : vs 3 = _ := hI.all 3 (by simp [hw])
          have q4 : vs 4 = _ := hI.all 4 (by simp [hw])
          simp only [q3, q4] at hK ⊢
          go_simp
          exact hK _ _ (hI.step AS.out (Below.refl _ _) hC.size (by decide) rfl)
        · have q5 : vs 5 = _ := hI.all 5 (by simp [hw])
          simp only [q5] at hK ⊢
          have k0 := getc hC HD0.out
          have k1 := getc hC HD1.out
          go_simp
          exact hK _ _ (hI.step AS.out (Below.refl _ _) hC.size (by decide) rfl)
        · have q1 : vs 1 = _ := hI.all 1 (by simp [hw])
          have q2 : vs 2 = _ := hI.all 2 (by simp [hw])
          have q6 : vs 6 = _ := hI.all 6 (by simp [hw])
          simp only [q1, q2, q6] at hK ⊢
          go_simp
          refine (HF.out W pa pz hC).mono ?_
          rintro e w' ⟨⟨A9, c9, rfl, hP9⟩, hb⟩
          rw [HLe.out] at hP9 ⊢
          exact hK _ _ (hI.step AS.out hb hC.size (by decide) (.inr ⟨A9, c9, rfl, hP9.mono PlR.good (fun k hk => Nat.le_trans hI.sz hk)⟩))
        · have h9 : ls 9 = false := (hU 9 _ rfl (by simp [waits, Region.binds])).1
          obtain ⟨A9, c9, h7, hP9⟩ := (hI.all 7 (by simp [hw])).resolve_left (by rw [h9]; decide)
          simp only [h7] at hK ⊢
          go_simp
          exact hK _ _ (hI.step AS.out (bl_alloc (Below.refl _ _) _ (Nat.le_refl _)) hC.size (by decide) (.inr ⟨_, A9, c9, rfl, hI.sz, Blk.new _ _ _ rfl, hP9.keep PlR.good (Keeps.alloc _ _)⟩))
        · obtain ⟨g9, A9, c9, h8, hg9, hB9, hP9⟩ := (hI.all 8 (by simp [hw])).resolve_left (by rw [hl]; decide)
          have q0 : vs 0 = _ := hI.all 0 (by simp [hw])
          simp only [h8, q0] at hK ⊢
          rw [if_pos (by rfl)]
          have hO9 := hI.own hl
          obtain ⟨A4, c4, w', hrun, hO4, hg4, _⟩ := run_append_allt W 63 63 (fun k => W0.heap.size ≤ k) OrdR.good W0.heap.size 29 i1 _ 24 Tryz.underlying63 hi1 hy0 hy1 hy2 rfl (.slice An r cap) ((allL s l p).take r) r HTL.out hO9 (some ⟨g9, 0, none⟩) 1 1 [L] (ords_one hB9 hg9 hP9) (fun k h1 h2 => ⟨Nat.le_trans hwV h1, fun e => by have := HOb.out k e; omega⟩) (by simp only [maxLen]; omega) (by omega) hC.size
          refine wp_append_of_run rfl rfl rfl hrun ?_
          have hB2 : Below W0.heap.size W0 w' := bl_grown hC hO9 hg4 (Nat.le_refl _) (Nat.le_refl _)
          refine hK _ _ ⟨hB2, Nat.le_trans hI.sz hg4.size, (fun h => by unfold updB at h; rw [if_pos rfl] at h; cases h), fun i hi => ?_⟩
          have hb9 : updB ls 9 9 = true := by unfold updB; rw [if_pos rfl]
          rw [hb9]
          match i, hi with
          | 0, hi => exact hI.all 0 hi
          | 1, hi => exact hI.all 1 hi
          | 2, hi => exact hI.all 2 hi
          | 3, hi => exact hI.all 3 hi
          | 4, hi => exact hI.all 4 hi
          | 5, hi => exact hI.all 5 hi
          | 6, hi => exact hI.all 6 hi
          | 7, _ => exact .inl rfl
          | 8, _ => exact .inl rfl
          | 9, _ => exact ⟨A4, c4, rfl, hO4⟩
          | _ + 10, _ => trivial
      case fin =>
        intro ls vs W hI hl hU
        clear hU
        have hC := hI.bl
        have e9 := hI.all 9 (hl 9 (by decide))
        simp only [fillA, Act.put, List.setIfInBounds_toArray, List.set_cons_zero, List.set_cons_succ, Nat.zero_add, Nat.reduceAdd]
        obtain ⟨A7, c7, h9, hO7⟩ := e9
        rw [h9] at hO7 ⊢
        obtain ⟨u0, hu0⟩ : ∃ v0, vs 0 = v0 := ⟨_, rfl⟩
        obtain ⟨u1, hu1⟩ : ∃ v0, vs 1 = v0 := ⟨_, rfl⟩
        obtain ⟨u2, hu2⟩ : ∃ v0, vs 2 = v0 := ⟨_, rfl⟩
        obtain ⟨u3, hu3⟩ : ∃ v0, vs 3 = v0 := ⟨_, rfl⟩
        obtain ⟨u4, hu4⟩ : ∃ v0, vs 4 = v0 := ⟨_, rfl⟩
        obtain ⟨u5, hu5⟩ : ∃ v0, vs 5 = v0 := ⟨_, rfl⟩
        obtain ⟨u6, hu6⟩ : ∃ v0, vs 6 = v0 := ⟨_, rfl⟩
        obtain ⟨u7, hu7⟩ : ∃ v0, vs 7 = v0 := ⟨_, rfl⟩
        obtain ⟨u8, hu8⟩ : ∃ v0, vs 8 = v0 := ⟨_, rfl⟩
        rw [hu0, hu1, hu2, hu3, hu4, hu5, hu6, hu7, hu8]
        clear hu0 hu1 hu2 hu3 hu4 hu5 hu6 hu7 hu8
        clear h9 hI hl AS
        have HBX : Hid (Below W0.heap.size W0 W) := hC
        have HO7 : Hid (OwnT (fun k => W0.heap.size ≤ k) OrdR 1 W W0.heap.size 29 (.slice A7 (r + 1) c7) ((allL s l p).take (r + 1))) := by rw [Hid, HTS.out]; exact hO7
        clear hO7 hC
        go_simp
        go_wp2_with fail
        go_roundw
        case rel => exact ⟨r + 1, c7, A7, by omega, by go_num, rfl, HBX.out, HO7.out⟩
        case measure => simp [intOf]; omega
    · obtain rfl : r = m := by omega
      have hri : ¬ (r : Int) < r := by omega
      have hfull : (allL s l p).take r = allL s l p := List.take_of_length_le (by rw [HAL.out]; exact Nat.le_refl _)
      rw [hfull] at HO
      go_wp2_with fail
      go_ret
      exact ⟨⟨An, cap, rfl, OwnT.slice OrdR.good HO.out rfl (by simp only [maxLen]; omega) (fun _ h => Nat.le_trans hWs h) (fun _ h => Nat.le_trans hWs h)⟩, bl_call hBW HB.out (Nat.le_refl _)⟩
end Go.Proofs.YtpdldmichpmgmaaGreat
