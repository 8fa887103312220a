/- Walks, layer 7, the reference: Plan. -/
import Derived.Test.YtpdldmichpmgmaaGreatCKPlnP
import Derived.Test.YtpdldmichpmgmaaGreatCKRefM
import Derived.Test.YtpdldmichpmgmaaGreatCKRefU
import Derived.Test.YtpdldmichpmgmaaGreatCTRegs
set_option linter.unusedVariables false
set_option linter.unusedSimpArgs false
set_option linter.all false
namespace Go.Proofs.YtpdldmichpmgmaaGreat
open Go.RowKit Go.Shelf

/-- a plan, its moulds and an error, as an answer -/
def PlanF (r : List Pl × List Int × Int) (e : Ending) (w' : World) : Prop := ∃ A c A2 c2, e = .returned (.tuple #[.slice A r.1.length c, .slice A2 r.2.1.length c2, .int .i64 r.2.2]) ∧ Pls (fun _ => True) w' A r.1.length r.1 ∧ Ints (fun _ => True) w' A2 r.2.1.length r.2.1
theorem PlanF.nil {e : Int} {w' : World} : PlanF ([], [], e) (.returned (.tuple #[.slice none 0 0, .slice none 0 0, .int .i64 e])) w' := ⟨none, 0, none, 0, rfl, SliceOf.nil _ _ _ _ _, SliceOf.nil _ _ _ _ _⟩
def IsPlV (n : Nat) (xs : List Pl) (v : Value) (W : World) : Prop := ∃ A c, v = .slice A n c ∧ Pls (fun _ => True) W A n xs
theorem IsPlsF.v {xs : List Pl} {n : Nat} {e : Ending} {w : World} (h : IsPlsF xs e w) (hn : xs.length = n) : ∃ v, e = .returned v ∧ IsPlV n xs v w := by
  obtain ⟨A, c, rfl, h2⟩ := h
  rw [hn] at h2 ⊢
  exact ⟨_, rfl, A, c, rfl, h2⟩
theorem IsPlV.bl {n : Nat} {xs : List Pl} {v : Value} {w w' : World} (h : IsPlV n xs v w) (hb : Below w.heap.size w w') : IsPlV n xs v w' := by
  obtain ⟨A, c, e, h2⟩ := h
  exact ⟨A, c, e, h2.keep PlR.good (Keeps.below hb)⟩

set_option maxHeartbeats 16000000 in
set_option maxRecDepth 100000 in
theorem rplan7_any {A C P : Option Addr} {n ca q cc m pc : Nat} {s : Shop} {l : List SeenC} {p : List (Int × Int)} {klo khi : Int} (w : World) (g : Moulds (fun _ => True) w A n s.moulds) (gs : SeenCs (fun _ => True) w C q l) (gp : Pairs (fun _ => True) w P m p) (h1 : s.klo = klo) (h2 : s.khi = khi) :
    Calls Tryz.prog 8 #[.agg #[.int .i64 klo, .int .i64 khi, .slice A n ca], .slice C q cc, .slice P m pc] w fun e w' => PlanF (planR s l p) e w' ∧ Below w.heap.size w w' := by
  obtain ⟨W0, hW⟩ : ∃ W0, w.alloc (.cells #[.int .i64 klo, .int .i64 khi, .slice A n ca] 26) = W0 := ⟨_, rfl⟩
  have X : Blk W0 w.heap.size 26 #[.int .i64 klo, .int .i64 khi, .slice A n ca] := by rw [← hW]; exact Blk.new _ _ _ rfl
  have hBW : Below w.heap.size w W0 := by rw [← hW]; exact bl_alloc (Below.refl _ _) _ (Nat.le_refl _)
  have HG : Hid (∀ V, Below W0.heap.size W0 V → Moulds (fun _ => True) V A n s.moulds) := fun V hb => (g.keep MouldR.good (Keeps.below hBW)).keep MouldR.good (Keeps.below hb)
  have HS : Hid (∀ V, Below W0.heap.size W0 V → SeenCs (fun _ => True) V C q l) := fun V hb => (gs.keep SeenCR.good (Keeps.below hBW)).keep SeenCR.good (Keeps.below hb)
  have HP : Hid (∀ V, Below W0.heap.size W0 V → Pairs (fun _ => True) V P m p) := fun V hb => (gp.keep PairR.good (Keeps.below hBW)).keep PairR.good (Keeps.below hb)
  have kk : Hid (∀ V, Below W0.heap.size W0 V → V.cell? ⟨w.heap.size, 0, none⟩ = some (.int .i64 klo) ∧ V.cell? ⟨w.heap.size, 1, none⟩ = some (.int .i64 khi) ∧ V.cell? ⟨w.heap.size, 2, none⟩ = some (.slice A n ca)) := fun V hb => ⟨(X.bl hb).cell 0, (X.bl hb).cell 1, (X.bl hb).cell 2⟩
  have Hn := Lib.hid g.len
  have Hm := Lib.hid gp.len
  have hnl := g.le
  clear X g gs gp
  obtain ⟨x0, x1, x2⟩ := kk.out W0 (Below.refl _ _)
  go_enter Tryz.func8, Tryz.ntmps8
  go_wp2_with fail
  clear hW x0 x1 x2
  refine (rorder7_any W0 (HG.out W0 (Below.refl _ _)) (HS.out W0 (Below.refl _ _)) (HP.out W0 (Below.refl _ _)) h1 h2).mono ?_
  rintro e V1 ⟨rfl, b1⟩
  by_cases h0 : orderE s l p = 0
  · have HOE := Lib.hid h0
    obtain ⟨hok, _, hp1, hp6⟩ := order_zero h0
    rw [Hm.out] at hp1 hp6
    have hn4 : n ≤ 4 := by rw [← Hn.out]; exact hok.nm.2
    rw [h0]
    clear h0 hok
    have HB1 := Lib.hid b1
    obtain ⟨x0, x1, x2⟩ := kk.out V1 b1
    clear b1
    go_wp2_with fail
    clear x0 x1 x2
    refine (rall7_0 V1 (HG.out V1 HB1.out) (HS.out V1 HB1.out) (HP.out V1 HB1.out) h1 h2 HOE.out).mono ?_
    rintro e V2 ⟨⟨F1, f1, rfl, hF⟩, c2⟩
    have HF : Hid (∀ V, Below V2.heap.size V2 V → Ords (fun _ => True) V F1 m (allL s l p)) := fun V hb => (hF.keep OrdR.good (Keeps.below hb)).mono OrdR.good (fun _ _ => trivial)
    have HB2 : Hid (Below W0.heap.size W0 V2) := bl_call HB1.out c2 (Nat.le_refl _)
    clear hF c2
    go_wp2_with fail
    go_loopw [11] (fun i wr => ∃ k : Nat, k ≤ n ∧ i = .int .i64 ((k + 1 : Nat) : Int) ∧ Hid (Below V2.heap.size V2 wr) ∧ Hid (∀ x ∈ fewU n k, planB (allL s l p) x = false)) (fun i _ => n + 1 - (intOf i).toNat)
    case atStart => exact ⟨0, Nat.zero_le _, rfl, Below.refl _ _, fun x hx => by simp [fewU] at hx⟩
    case round =>
      obtain ⟨k, hk, rfl, HB, HN⟩ := hrel
      have HBw : Hid (Below W0.heap.size W0 wr) := bl_call HB2.out HB.out (Nat.le_refl _)
      obtain ⟨_, _, x2⟩ := kk.out wr HBw.out
      obtain ⟨k1, hk1⟩ : ∃ k1, k + 1 = k1 := ⟨_, rfl⟩
      have HK := Lib.hid hk1
      rw [hk1]
      by_cases hlt : k < n
      · have hki : (k1 : Int) ≤ n := by omega
        have hk1n : k1 ≤ n := by omega
        clear hk1
        go_wp2_with fail
        clear x2
        refine (rlists7_any k1 (S := fun _ => True) (xs := []) wr (SliceOf.nil _ _ _ _ _) (by omega) (fun y hy => by simp at hy) (by omega)).mono ?_
        rw [fromN_nil, listsB_nil, numF_zero]
        rintro e V3 ⟨⟨R, rc, rfl, hR⟩, c3⟩
        obtain ⟨LL, hLL⟩ : ∃ LL, lexL k1 (numbersL n) = LL := ⟨_, rfl⟩
        have HLL := Lib.hid hLL
        rw [hLL] at hR ⊢
        obtain ⟨qn, hq⟩ : ∃ q, LL.length = q := ⟨_, rfl⟩
        rw [hq] at hR ⊢
        have HQ := Lib.hid hq
        have HR : Hid (∀ V, Below V3.heap.size V3 V → Rows7 (fun _ => True) V R qn LL) := fun V hb => (hR.keep Rows7.good (Keeps.below hb)).mono Rows7.good (fun _ _ => trivial)
        have H23 : Hid (Below V2.heap.size V2 V3) := bl_call HB.out c3 (Nat.le_refl _)
        have hql := hR.le
        clear hLL hq hR c3 HB
        go_wp2_with fail
        go_loopw [13] (fun i wr => ∃ j : Nat, j ≤ qn ∧ i = .int .i64 j ∧ Hid (Below V3.heap.size V3 wr) ∧ Hid (∀ x ∈ LL.take j, planB (allL s l p) x = false)) (fun i _ => qn - (intOf i).toNat)
        case atStart => exact ⟨0, Nat.zero_le _, rfl, Below.refl _ _, fun x hx => by simp at hx⟩
        case round =>
          obtain ⟨j, hj, rfl, HBj, HNj⟩ := hrel
          by_cases hlj : j < qn
          · have hji : (j : Int) < qn := by omega
            obtain ⟨bR, oR, A1, n1, c1, t, rfl, _, htc, ht, Ht⟩ := Rows7.get (HR.out wr HBj.out) hlj
            have Hn1 := Lib.hid ht.len
            have HT : Hid (∀ V, Below wr.heap.size wr V → Ints (fun _ => True) V A1 n1 t) := fun V hb => ht.keep IntR.good (Keeps.below hb)
            have kt : Hid (∀ V, Below wr.heap.size wr V → V.cell? ⟨bR, oR + j, none⟩ = some (.slice A1 n1 c1)) := fun V hb => getc hb htc
            have H2w : Hid (Below V2.heap.size V2 wr) := bl_call H23.out HBj.out (Nat.le_refl _)
            clear ht
            go_wp2_with fail
            refine (ronly7_any (but := []) wr (HF.out wr H2w.out) (HT.out wr (Below.refl _ _)) (SliceOf.nil _ _ (fun _ => True) _ _) (by omega) (all40 HOE.out)).mono ?_
            rintro e V4 ⟨⟨G1, g1, rfl, hG, _⟩, c4⟩
            go_wp2_with fail
            refine (rfewest7_any V4 hG (by omega) (only40 (all40 HOE.out) _ _)).mono ?_
            rintro e V5 ⟨⟨J1, j1, rfl, _⟩, c5⟩
            obtain ⟨lk, hlk⟩ : ∃ x, (fewestL (onlyL (allL s l p) t [])).isSome = x := ⟨_, rfl⟩
            obtain ⟨jn, hjn⟩ : ∃ x, ((fewestL (onlyL (allL s l p) t [])).getD []).length = x := ⟨_, rfl⟩
            rw [hlk, hjn]
            have hpb : planB (allL s l p) t = !lk := by
              rw [← hlk]
              unfold planB
              cases fewestL (onlyL (allL s l p) t []) <;> rfl
            have HPB := Lib.hid hpb
            have Hw5 : Hid (Below wr.heap.size wr V5) := bl_call c4 c5 (Nat.le_refl _)
            clear hlk hjn hpb hG c4 c5 htc
            cases lk with
            | true =>
              have HN2 : Hid (∀ x ∈ LL.take (j + 1), planB (allL s l p) x = false) := fun x hx => by
                rw [take_snoc_get Ht.out] at hx
                rcases List.mem_append.1 hx with hx | hx
                · exact HNj.out x hx
                · rw [List.mem_singleton] at hx; rw [hx, HPB.out]; rfl
              have H35 : Hid (Below V3.heap.size V3 V5) := bl_call HBj.out Hw5.out (Nat.le_refl _)
              go_wp2_with fail
              go_roundw
              case rel => exact ⟨j + 1, by omega, by go_num, H35.out, HN2.out⟩
              case measure => simp [intOf]; omega
            | false =>
              have HPF : Hid (planR s l p = (firstL (allL s l p) t m, t, 0)) := by
                have := plan_found (k := k) (j := j) HOE.out (by rw [Hn.out]; exact hlt) (by rw [Hn.out]; exact HN.out) (by rw [HK.out, Hn.out, HLL.out]; exact HNj.out) (by rw [HK.out, Hn.out, HLL.out]; exact Ht.out) (by rw [HPB.out]; rfl)
                rw [Hm.out] at this
                exact this
              have H25 : Hid (Below V2.heap.size V2 V5) := bl_call H2w.out Hw5.out (Nat.le_refl _)
              obtain ⟨fl, hfl⟩ : ∃ x, firstL (allL s l p) t m = x := ⟨_, rfl⟩
              have HFI : Hid (∀ V, Below V5.heap.size V5 V → Calls Tryz.prog 36 #[.slice F1 m f1, .slice A1 n1 c1] V fun e w' => IsPlsF fl e w' ∧ Below V.heap.size V w') := fun V hb => by
                rw [← hfl]
                exact rfirst7_any V (HF.out V (bl_call H25.out hb (Nat.le_refl _))) (HT.out V (bl_call Hw5.out hb (Nat.le_refl _))) (by omega) (all40 HOE.out)
              rw [hfl] at HPF
              obtain ⟨nf, hnf⟩ : ∃ x, fl.length = x := ⟨_, rfl⟩
              have HNF := Lib.hid hnf
              clear hfl hnf
              go_wp2_with fail
              refine wp_frameT ?_
              intro a0 ha0
              have tb10 : a0.tmps[10]? = some (.slice F1 m f1) := by rw [ha0]; kernel_rfl
              have tb12 : a0.tmps[12]? = some (.slice (some ⟨bR, oR, none⟩) qn rc) := by rw [ha0]; kernel_rfl
              have tb13 : a0.tmps[13]? = some (.int .i64 (j : Int)) := by rw [ha0]; kernel_rfl
              have hsz : a0.tmps.size = 67 := by rw [ha0]; kernel_rfl
              refine wp_region_list (fun W => Below V5.heap.size V5 W) (fun w w' => Below w.heap.size w w')
                [isV (.slice F1 m f1), isV (.slice (some ⟨bR, oR, none⟩) qn rc), isV (.int .i64 (j : Int)), isV (.pointer (some ⟨bR, oR + j, none⟩)), isV (.slice A1 n1 c1), IsPlV nf fl, isV (.slice (some ⟨bR, oR, none⟩) qn rc), isV (.int .i64 (j : Int)), isV (.pointer (some ⟨bR, oR + j, none⟩)), isV (.slice A1 n1 c1), IsPlV nf fl, isV (.slice A1 n1 c1), isV (.int .i64 0)]
                (by kernel_rfl) (by kernel_rfl) (by kernel_rfl) (by simp) (by simp) (Below.refl _ _).drew ?stabA ?stepA ?finA
              case stabA => exact (StabL.is (StabL.is (StabL.is (StabL.is (StabL.is (StabL.cons (fun v w V hC hX h => h.bl hX) (StabL.is (StabL.is (StabL.is (StabL.is (StabL.cons (fun v w V hC hX h => h.bl hX) (StabL.is (StabL.is StabL.nil)))))))))))))
              case stepA =>
                refine StepsL.isA ?_ (StepsL.isA ?_ (StepsL.isA ?_ (StepsL.isA ?_ (StepsL.isA ?_ (StepsL.consA ?_ (StepsL.isA ?_ (StepsL.isA ?_ (StepsL.isA ?_ (StepsL.isA ?_ (StepsL.consA ?_ (StepsL.isA ?_ (StepsL.isA ?_ StepsL.nil))))))))))))
                · -- 0
                  intro vs a W K ha hC hD hU hK
                  have r10 : a.tmps[10]? = some (.slice F1 m f1) := by rw [ha, fillA_base0 (by kernel_rfl)]; exact tb10
                  clear ha hU hD ha0
                  rw [if_pos (by rfl)]
                  go_simp
                  exact hK _ hC (Below.refl _ _)
                · -- 1
                  intro vs a W K ha hC hD hU hK
                  have r12 : a.tmps[12]? = some (.slice (some ⟨bR, oR, none⟩) qn rc) := by rw [ha, fillA_base0 (by kernel_rfl)]; exact tb12
                  clear ha hU hD ha0
                  rw [if_pos (by rfl)]
                  go_simp
                  exact hK _ hC (Below.refl _ _)
                · -- 2
                  intro vs a W K ha hC hD hU hK
                  have r13 : a.tmps[13]? = some (.int .i64 (j : Int)) := by rw [ha, fillA_base0 (by kernel_rfl)]; exact tb13
                  clear ha hU hD ha0
                  rw [if_pos (by rfl)]
                  go_simp
                  exact hK _ hC (Below.refl _ _)
                · -- 3
                  intro vs a W K ha hC hD hU hK
                  have r58 : a.tmps[58]? = some (vs 1) := by rw [ha]; exact fillA_get0 (j := 1) (by kernel_rfl) (by rw [hsz]; decide)
                  have q1 : vs 1 = .slice (some ⟨bR, oR, none⟩) qn rc := hD 1 (by simp [waits, Region.binds])
                  rw [q1] at r58
                  have r59 : a.tmps[59]? = some (vs 2) := by rw [ha]; exact fillA_get0 (j := 2) (by kernel_rfl) (by rw [hsz]; decide)
                  have q2 : vs 2 = .int .i64 (j : Int) := hD 2 (by simp [waits, Region.binds])
                  rw [q2] at r59
                  clear ha hU hD ha0
                  rw [if_pos (by rfl)]
                  go_simp
                  exact hK _ hC (Below.refl _ _)
                · -- 4
                  intro vs a W K ha hC hD hU hK
                  have r60 : a.tmps[60]? = some (vs 3) := by rw [ha]; exact fillA_get0 (j := 3) (by kernel_rfl) (by rw [hsz]; decide)
                  have q3 : vs 3 = .pointer (some ⟨bR, oR + j, none⟩) := hD 3 (by simp [waits, Region.binds])
                  rw [q3] at r60
                  clear ha hU hD ha0
                  rw [if_pos (by rfl)]
                  have kt0 := kt.out W (bl_call Hw5.out hC (Nat.le_refl _))
                  go_simp
                  exact hK _ hC (Below.refl _ _)
                · -- 5
                  intro vs a W K ha hC hD hU hK
                  have r57 : a.tmps[57]? = some (vs 0) := by rw [ha]; exact fillA_get0 (j := 0) (by kernel_rfl) (by rw [hsz]; decide)
                  have q0 : vs 0 = .slice F1 m f1 := hD 0 (by simp [waits, Region.binds])
                  rw [q0] at r57
                  have r61 : a.tmps[61]? = some (vs 4) := by rw [ha]; exact fillA_get0 (j := 4) (by kernel_rfl) (by rw [hsz]; decide)
                  have q4 : vs 4 = .slice A1 n1 c1 := hD 4 (by simp [waits, Region.binds])
                  rw [q4] at r61
                  clear ha hU hD ha0
                  rw [if_pos (by rfl)]
                  go_simp
                  refine (HFI.out W hC).mono ?_
                  rintro e w' ⟨hT, hb⟩
                  obtain ⟨v, rfl, hv⟩ := hT.v HNF.out
                  exact hK _ _ (bl_call hC hb (Nat.le_refl _)) hb hv
                · -- 6
                  intro vs a W K ha hC hD hU hK
                  have r12 : a.tmps[12]? = some (.slice (some ⟨bR, oR, none⟩) qn rc) := by rw [ha, fillA_base0 (by kernel_rfl)]; exact tb12
                  clear ha hU hD ha0
                  rw [if_pos (by rfl)]
                  go_simp
                  exact hK _ hC (Below.refl _ _)
                · -- 7
                  intro vs a W K ha hC hD hU hK
                  have r13 : a.tmps[13]? = some (.int .i64 (j : Int)) := by rw [ha, fillA_base0 (by kernel_rfl)]; exact tb13
                  clear ha hU hD ha0
                  rw [if_pos (by rfl)]
                  go_simp
                  exact hK _ hC (Below.refl _ _)
                · -- 8
                  intro vs a W K ha hC hD hU hK
                  have r63 : a.tmps[63]? = some (vs 6) := by rw [ha]; exact fillA_get0 (j := 6) (by kernel_rfl) (by rw [hsz]; decide)
                  have q6 : vs 6 = .slice (some ⟨bR, oR, none⟩) qn rc := hD 6 (by simp [waits, Region.binds])
                  rw [q6] at r63
                  have r64 : a.tmps[64]? = some (vs 7) := by rw [ha]; exact fillA_get0 (j := 7) (by kernel_rfl) (by rw [hsz]; decide)
                  have q7 : vs 7 = .int .i64 (j : Int) := hD 7 (by simp [waits, Region.binds])
                  rw [q7] at r64
                  clear ha hU hD ha0
                  rw [if_pos (by rfl)]
                  go_simp
                  exact hK _ hC (Below.refl _ _)
                · -- 9
                  intro vs a W K ha hC hD hU hK
                  have r65 : a.tmps[65]? = some (vs 8) := by rw [ha]; exact fillA_get0 (j := 8) (by kernel_rfl) (by rw [hsz]; decide)
                  have q8 : vs 8 = .pointer (some ⟨bR, oR + j, none⟩) := hD 8 (by simp [waits, Region.binds])
                  rw [q8] at r65
                  clear ha hU hD ha0
                  rw [if_pos (by rfl)]
                  have kt0 := kt.out W (bl_call Hw5.out hC (Nat.le_refl _))
                  go_simp
                  exact hK _ hC (Below.refl _ _)
                · -- 10
                  intro vs a W K ha hC hD hU hK
                  have r62 : a.tmps[62]? = some (vs 5) := by rw [ha]; exact fillA_get0 (j := 5) (by kernel_rfl) (by rw [hsz]; decide)
                  have P5 : IsPlV nf fl (vs 5) W := hD 5 (by simp [waits, Region.binds])
                  obtain ⟨D62, d62, e62, hI62⟩ := P5
                  rw [e62] at r62
                  clear ha hU hD ha0
                  rw [if_pos (by rfl)]
                  go_simp
                  exact hK _ _ hC (Below.refl _ _) ⟨_, _, rfl, hI62⟩
                · -- 11
                  intro vs a W K ha hC hD hU hK
                  have r66 : a.tmps[66]? = some (vs 9) := by rw [ha]; exact fillA_get0 (j := 9) (by kernel_rfl) (by rw [hsz]; decide)
                  have q9 : vs 9 = .slice A1 n1 c1 := hD 9 (by simp [waits, Region.binds])
                  rw [q9] at r66
                  clear ha hU hD ha0
                  rw [if_pos (by rfl)]
                  go_simp
                  exact hK _ hC (Below.refl _ _)
                · -- 12
                  intro vs a W K ha hC hD hU hK
                  clear ha hU hD ha0
                  rw [if_pos (by rfl)]
                  go_simp
                  exact hK _ hC (Below.refl _ _)
              case finA =>
                refine Fin1.none (Nat.le_refl _) ?_
                intro vs W a1 hC hE ha
                have E10 : IsPlV nf fl (vs 10) W := hE 10 (by simp)
                have e11 : vs 11 = .slice A1 n1 c1 := hE 11 (by simp)
                have e12 : vs 12 = .int .i64 0 := hE 12 (by simp)
                obtain ⟨D, dc, e10, hD⟩ := E10
                rw [ha, ha0]
                clear ha ha0 hsz tb10 tb12 tb13
                simp only [fillA, Act.put, List.setIfInBounds_toArray, List.set_cons_zero, List.set_cons_succ, Nat.zero_add, Nat.reduceAdd, e10, e11, e12]
                obtain ⟨u0, hu0⟩ : ∃ v0, vs 0 = v0 := ⟨_, rfl⟩
                obtain ⟨u1, hu1⟩ : ∃ v0, vs 1 = v0 := ⟨_, rfl⟩
                obtain ⟨u2, hu2⟩ : ∃ v0, vs 2 = v0 := ⟨_, rfl⟩
                obtain ⟨u3, hu3⟩ : ∃ v0, vs 3 = v0 := ⟨_, rfl⟩
                obtain ⟨u4, hu4⟩ : ∃ v0, vs 4 = v0 := ⟨_, rfl⟩
                obtain ⟨u5, hu5⟩ : ∃ v0, vs 5 = v0 := ⟨_, rfl⟩
                obtain ⟨u6, hu6⟩ : ∃ v0, vs 6 = v0 := ⟨_, rfl⟩
                obtain ⟨u7, hu7⟩ : ∃ v0, vs 7 = v0 := ⟨_, rfl⟩
                obtain ⟨u8, hu8⟩ : ∃ v0, vs 8 = v0 := ⟨_, rfl⟩
                obtain ⟨u9, hu9⟩ : ∃ v0, vs 9 = v0 := ⟨_, rfl⟩
                rw [hu0, hu1, hu2, hu3, hu4, hu5, hu6, hu7, hu8, hu9]
                clear hu0 hu1 hu2 hu3 hu4 hu5 hu6 hu7 hu8 hu9
                have HTW : Hid (Ints (fun _ => True) W A1 n1 t) := HT.out W (bl_call Hw5.out hC (Nat.le_refl _))
                have HBE : Hid (Below w.heap.size w W) := bl_call hBW (bl_call HB2.out (bl_call H25.out hC (Nat.le_refl _)) (Nat.le_refl _)) (Nat.le_refl _)
                have HD := Lib.hid hD
                clear hE e10 e11 e12 hC hD
                go_wp2_with fail
                go_ret3
                refine ⟨?_, HBE.out⟩
                rw [HPF.out]
                exact ⟨D, dc, A1, c1, by simp [HNF.out, Hn1.out], by simpa [HNF.out] using HD.out, by simpa [Hn1.out] using HTW.out⟩
          · obtain rfl : j = qn := by omega
            have hji : ¬ (j : Int) < j := by omega
            have HN2 : Hid (∀ x ∈ fewU n (k + 1), planB (allL s l p) x = false) := fun x hx => by
              rw [fewU_succ, HK.out, HLL.out] at hx
              rcases List.mem_append.1 hx with hx | hx
              · exact HN.out x hx
              · exact HNj.out x (by rw [List.take_of_length_le (by rw [HQ.out]; exact Nat.le_refl _)]; exact hx)
            have H2w : Hid (Below V2.heap.size V2 wr) := bl_call H23.out HBj.out (Nat.le_refl _)
            have hw1 : IntKind.i64.wrap ((k1 : Int) + 1) = (k1 : Int) + 1 := by rw [IntKind.wrap_i64]; omega
            go_wp2_with fail
            go_roundw
            case rel => exact ⟨k + 1, by omega, by rw [HK.out]; go_num, H2w.out, HN2.out⟩
            case measure => simp [intOf]; omega
      · obtain rfl : k = n := by omega
        have hki : ¬ (k1 : Int) ≤ k := by omega
        have HPN : Hid (planR s l p = ([], [], 8)) := plan_not HOE.out (by rw [Hn.out]; exact HN.out)
        clear hk1
        go_wp2_with fail
        go_ret3
        refine ⟨?_, bl_call hBW HBw.out (Nat.le_refl _)⟩
        rw [HPN.out]
        exact PlanF.nil
  · have HR := Lib.hid (planR_bad h0)
    obtain ⟨ev, hev⟩ : ∃ x, orderE s l p = x := ⟨_, rfl⟩
    rw [hev] at h0 HR
    rw [hev]
    have hvb : (ev != 0) = true := by simpa using h0
    have HB1 := Lib.hid b1
    clear h0 hev b1
    go_wp2_with fail
    go_ret3
    refine ⟨?_, bl_call hBW HB1.out (Nat.le_refl _)⟩
    rw [HR.out]
    exact PlanF.nil
end Go.Proofs.YtpdldmichpmgmaaGreat
