/- Walks, layer 7: the law CastPlanned. -/
import Derived.Test.YtpdldmichpmgmaaGreatCKFttQ
import Derived.Test.YtpdldmichpmgmaaGreatCKLaw4
import Derived.Test.YtpdldmichpmgmaaGreatCKOut5
import Derived.Test.YtpdldmichpmgmaaGreatCKOuts
import Derived.Test.YtpdldmichpmgmaaGreatCKPlanC
import Derived.Test.YtpdldmichpmgmaaGreatCKPndP
import Derived.Test.YtpdldmichpmgmaaGreatCKRefM
import Derived.Test.YtpdldmichpmgmaaGreatCKRefs1
import Derived.Test.YtpdldmichpmgmaaGreatCTRegs
set_option linter.unusedVariables false
set_option linter.unusedSimpArgs false
set_option linter.all false
namespace Go.Proofs.YtpdldmichpmgmaaGreat
open Go.RowKit Go.Shelf

set_option maxRecDepth 100000 in
set_option maxHeartbeats 8000000 in
theorem plannedLaw_any {A XA XB : Option Addr} {n ca xn xc xm xd : Nat} {s : Shop} {klo khi : Int} {O : Option Addr} {m od : Nat} {p : List (Int × Int)} {xs ys : List Nat} (w : World) (g : Moulds (fun _ => True) w A n s.moulds) (hX : Bytes (fun _ => True) w XA xn xs) (hY : Bytes (fun _ => True) w XB xm ys) (hP : Pairs (fun _ => True) w O m p) (hca : n ≤ ca) (h1 : s.klo = klo) (h2 : s.khi = khi) :
    Calls Tryz.prog 4 #[.agg #[.int .i64 klo, .int .i64 khi, .slice A n ca], .agg #[.slice XA xn xc, .slice XB xm xd, .slice O m od]] w fun e w' => e = .returned (.bool true) ∧ Below w.heap.size w w' := by
  obtain ⟨W, hW⟩ : ∃ W, (w.alloc (.cells #[.int .i64 klo, .int .i64 khi, .slice A n ca] 26)).alloc (.cells #[.slice XA xn xc, .slice XB xm xd, .slice O m od] 44) = W := ⟨_, rfl⟩
  have X : Blk W w.heap.size 26 #[.int .i64 klo, .int .i64 khi, .slice A n ca] := by rw [← hW]; exact (Blk.new _ _ _ rfl).alloc _
  have Z : Blk W (w.heap.size + 1) 44 #[.slice XA xn xc, .slice XB xm xd, .slice O m od] := by rw [← hW]; exact Blk.new _ _ _ (by simp)
  have hBW : Below w.heap.size w W := by rw [← hW]; exact bl_alloc (bl_alloc (Below.refl _ _) _ (Nat.le_refl _)) _ (Nat.le_refl _)
  have HG : Hid (∀ V, Below W.heap.size W V → Moulds (fun _ => True) V A n s.moulds) := fun V hb => (g.keep MouldR.good (Keeps.below hBW)).keep MouldR.good (Keeps.below hb)
  have HXS : Hid (∀ V, Below W.heap.size W V → Bytes (fun _ => True) V XA xn xs) := fun V hb => (hX.keep ByteR.good (Keeps.below hBW)).keep ByteR.good (Keeps.below hb)
  have HYS : Hid (∀ V, Below W.heap.size W V → Bytes (fun _ => True) V XB xm ys) := fun V hb => (hY.keep ByteR.good (Keeps.below hBW)).keep ByteR.good (Keeps.below hb)
  have HPS : Hid (∀ V, Below W.heap.size W V → Pairs (fun _ => True) V O m p) := fun V hb => (hP.keep PairR.good (Keeps.below hBW)).keep PairR.good (Keeps.below hb)
  have kk : Hid (∀ V, Below W.heap.size W V → V.cell? ⟨w.heap.size, 0, none⟩ = some (.int .i64 klo) ∧ V.cell? ⟨w.heap.size, 1, none⟩ = some (.int .i64 khi) ∧ V.cell? ⟨w.heap.size, 2, none⟩ = some (.slice A n ca) ∧ V.cell? ⟨w.heap.size + 1, 0, none⟩ = some (.slice XA xn xc) ∧ V.cell? ⟨w.heap.size + 1, 1, none⟩ = some (.slice XB xm xd) ∧ V.cell? ⟨w.heap.size + 1, 2, none⟩ = some (.slice O m od)) :=
    fun V hb => ⟨(X.bl hb).cell 0, (X.bl hb).cell 1, (X.bl hb).cell 2, (Z.bl hb).cell 0, (Z.bl hb).cell 1, (Z.bl hb).cell 2⟩
  have Hn := Lib.hid g.len
  have hnl := g.le
  have Hm := Lib.hid hP.len
  have hml := hP.le
  clear X Z g hX hY hP
  obtain ⟨x0, x1, x2, y0, y1, y2⟩ := kk.out W (Below.refl _ _)
  go_enter Tryz.func4, Tryz.ntmps4
  go_wp2_with fail
  clear hW x0 x1 x2 y0 y1 y2
  refine (valid7_any W (HG.out W (Below.refl _ _)) h1 h2).mono ?_
  rintro e V1 ⟨rfl, b1⟩
  obtain ⟨x0, x1, x2, y0, y1, y2⟩ := kk.out V1 b1
  by_cases he : err7 s = 0
  · have heb : (err7 s == 0) = true := by rw [he]; rfl
    rw [heb]
    have HE : Hid ((check7 s).2.2 = 0) := he
    have hok := okS_of HE.out
    have HOK := Lib.hid hok
    have HTR := Lib.hid (any_truth hok xs)
    clear he heb
    go_wp2_with fail
    clear x0 x1 x2 y0 y1 y2
    refine (any7_any V1 (HG.out V1 b1) (HXS.out V1 b1) h1 h2 hok).mono ?_
    rintro e V2 ⟨⟨T, tc, rfl, hT⟩, c2⟩
    have b2 := bl_call b1 c2 (Nat.le_refl _)
    obtain ⟨k0, hk0⟩ : ∃ x, anyS7 s xs = x := ⟨_, rfl⟩
    obtain ⟨tw, htw⟩ : ∃ x, anyT7 s xs = x := ⟨_, rfl⟩
    rw [hk0, htw] at HTR
    rw [htw] at hT
    rw [hk0, htw]
    have Htn : Hid (tw.length = n) := HTR.out.len.trans Hn.out
    rw [Htn.out] at hT
    rw [Htn.out]
    obtain ⟨gT, hgT⟩ : ∃ x, V2.heap.size = x := ⟨_, rfl⟩
    obtain ⟨V3, hV3⟩ : ∃ V, V2.alloc (.cells #[.int .i64 k0, .slice T n tc] 48) = V := ⟨_, rfl⟩
    have S3 : Blk V3 gT 48 #[.int .i64 k0, .slice T n tc] := by rw [← hV3]; exact Blk.new _ _ _ hgT.symm
    have b3 : Below W.heap.size W V3 := by rw [← hV3]; exact bl_alloc b2 _ (Nat.le_refl _)
    have hT3 : Pairs (fun _ => True) V3 T n tw := by rw [← hV3]; exact (hT.keep PairR.good (Keeps.alloc _ _)).mono PairR.good (fun _ _ => trivial)
    obtain ⟨x0, x1, x2, y0, y1, y2⟩ := kk.out V3 b3
    have s0 := S3.cell 0
    have s1 := S3.cell 1
    clear hk0 htw hT c2
    go_wp2_with fail
    clear x0 x1 x2 y0 y1 y2 s0 s1 hV3 hgT
    have HBD := Lib.hid (truth_bd hok HTR.out)
    have HKB := Lib.hid (truth_k hok HTR.out)
    refine (told7_any V3 (HG.out V3 b3) (HYS.out V3 b3) hT3 hok Hn.out.symm HBD.out HKB.out).mono ?_
    rintro e V4 ⟨⟨C, cc, rfl, hS⟩, c4⟩
    have b4 := bl_call b3 c4 (Nat.le_refl _)
    obtain ⟨l, hl⟩ : ∃ x, toldL7 s k0 tw ys = x := ⟨_, rfl⟩
    have HSI : Hid (∀ y ∈ l, SeenIn s k0 tw y) := by rw [← hl]; exact toldL_seen hok HTR.out ys
    have HL6 : Hid (l.length ≤ 6) := by rw [← hl]; exact toldL_len _ _ _ _
    rw [hl] at hS
    rw [hl]
    obtain ⟨q, hq⟩ : ∃ x, l.length = x := ⟨_, rfl⟩
    rw [hq] at hS
    rw [hq]
    have HSN : Hid (seen7 s l = (0, 0)) := seen_ok HE.out HL6.out HSI.out
    have hs0 : (seen7 s l).2 = 0 := by rw [HSN.out]
    have hkn := truth_known hok HTR.out HSI.out
    have hne := List.ne_nil_of_mem hkn
    have HS : Hid (∀ V, Below V4.heap.size V4 V → SeenCs (fun _ => True) V C q l) := fun V hb => (hS.keep SeenCR.good (Keeps.below hb)).mono SeenCR.good (fun _ _ => trivial)
    have HTV : Hid (∀ V, Below V4.heap.size V4 V → Pairs (fun _ => True) V T n tw) := fun V hb => hT3.keep PairR.good (Keeps.below (bl_call c4 hb (Nat.le_refl _)))
    have S4 := Lib.hid (S3.bl c4)
    have HKN := Lib.hid hkn
    have HB4 := Lib.hid b4
    have HSH := Lib.hid (shrinksR_n hs0 hne)
    have HSZ : Hid (∀ m c : Nat, m < n → c < castsN s m → sizesR s l m c = (size7 s l m c, 0) ∧ (size7 s l m c).1 ≤ madeT k0 tw m c ∧ madeT k0 tw m c ≤ (size7 s l m c).2) := fun m c hm hc => by
      rw [← Hn.out] at hm
      exact ⟨sizesR_in hs0 hok hm hc hne, truth_size hok HTR.out HSI.out hm c⟩
    clear hl hq hS hT3 S3 c4 hs0 hkn hne b3 b4 b2 b1
    obtain ⟨x0, x1, x2, _, _, y2⟩ := kk.out V4 HB4.out
    go_wp2_with fail
    clear x0 x1 x2 y2
    refine (kplan_cap (cc := cc) V4 (HG.out V4 HB4.out) (HS.out V4 (Below.refl _ _)) (HPS.out V4 HB4.out) hca h1 h2).mono ?_
    rintro e V5 ⟨⟨D, kc, E, ec, rfl, hD, hE, hcap⟩, c5⟩
    obtain ⟨P, hP1⟩ : ∃ x, (planR s l p).1 = x := ⟨_, rfl⟩
    obtain ⟨u, hP2⟩ : ∃ x, (planR s l p).2.1 = x := ⟨_, rfl⟩
    obtain ⟨re, hP3⟩ : ∃ x, (planR s l p).2.2 = x := ⟨_, rfl⟩
    have HPR : Hid (planR s l p = (P, u, re)) := by rw [Hid, ← hP1, ← hP2, ← hP3]
    rw [hP1] at hD hcap
    rw [hP2] at hE
    rw [hP1, hP2, hP3]
    clear hP1 hP2 hP3
    obtain ⟨nP, hnP⟩ : ∃ x, P.length = x := ⟨_, rfl⟩
    obtain ⟨nU, hnU⟩ : ∃ x, u.length = x := ⟨_, rfl⟩
    rw [hnP] at hD hcap
    rw [hnU] at hE
    rw [hnP, hnU]
    have HNP := Lib.hid hnP
    have HNU := Lib.hid hnU
    clear hnP hnU
    have HD : Hid (∀ V, Below V5.heap.size V5 V → Pls (fun _ => True) V D nP P) := fun V hb => (hD.keep PlR.good (Keeps.below hb)).mono PlR.good (fun _ _ => trivial)
    have HU : Hid (∀ V, Below V5.heap.size V5 V → Ints (fun _ => True) V E nU u) := fun V hb => (hE.keep IntR.good (Keeps.below hb)).mono IntR.good (fun _ _ => trivial)
    have hPl := hD.le
    have hUl := hE.le
    have H45 : Hid (Below V4.heap.size V4 V5) := c5
    have HB5 : Hid (Below W.heap.size W V5) := bl_call HB4.out c5 (Nat.le_refl _)
    clear hD hE c5
    obtain ⟨x0, x1, x2, _, _, y2⟩ := kk.out V5 HB5.out
    go_wp2_with fail
    clear x0 x1 x2 y2
    refine (rorder7_any V5 (HG.out V5 HB5.out) (HS.out V5 H45.out) (HPS.out V5 HB5.out) h1 h2).mono ?_
    rintro e V6 ⟨rfl, c6⟩
    have H56 : Hid (Below V5.heap.size V5 V6) := c6
    have HB6 : Hid (Below W.heap.size W V6) := bl_call HB5.out c6 (Nat.le_refl _)
    have H46 : Hid (Below V4.heap.size V4 V6) := bl_call H45.out c6 (Nat.le_refl _)
    clear c6
    by_cases h0 : orderE s l p = 0
    · rw [h0]
      obtain ⟨_, hne, hp1, hp6⟩ := order_zero h0
      rw [Hm.out] at hp1 hp6
      have hpd := planned h0
      rw [HPR.out] at hpd
      clear h0
      rcases hpd with hpd | ⟨P2, u2, hpd, hlen, hnd, hall, hset, huse⟩
      · injection hpd with e1 hpd
        injection hpd with e2 e3
        obtain rfl : nP = 0 := by rw [← HNP.out, e1]; rfl
        obtain rfl : nU = 0 := by rw [← HNU.out, e2]; rfl
        subst e3
        obtain ⟨x0, x1, x2, _, _, y2⟩ := kk.out V6 HB6.out
        go_wp2_with fail
        clear x0 x1 x2 y2
        refine (awake7_any V6).mono ?_
        rintro e V99 ⟨rfl, c99⟩
        have b99 := bl_call hBW (bl_call HB6.out c99 (Nat.le_refl _)) (Nat.le_refl _)
        clear c99
        go_wp2
        go_ret
        exact ⟨by rfl, b99⟩
      · injection hpd with e1 hpd
        injection hpd with e2 e3
        subst e1 e2 e3
        have hnm : nP = m := by rw [← HNP.out, hlen, Hm.out]
        subst hnm
        have HND := Lib.hid hnd
        have HALL := Lib.hid hall
        have HSET := Lib.hid hset
        have HUSE := Lib.hid huse
        clear hlen hnd hall hset huse
        obtain ⟨x0, x1, x2, _, _, y2⟩ := kk.out V6 HB6.out
        have hmm : ((nP : Int) != (nP : Int)) = false := by simp
        go_wp2_with fail
        clear x0 x1 x2 y2
        go_loopw [14] (fun i wr => ∃ k : Nat, k ≤ nP ∧ i = .int .i64 k ∧ Hid (Below V6.heap.size V6 wr)) (fun i _ => nP - (intOf i).toNat)
        case atStart => exact ⟨0, Nat.zero_le _, rfl, Below.refl _ _⟩
        case round =>
          obtain ⟨k, hk, rfl, HBk⟩ := hrel
          have H5k : Hid (Below V5.heap.size V5 wr) := bl_call H56.out HBk.out (Nat.le_refl _)
          have HBWk : Hid (Below W.heap.size W wr) := bl_call HB6.out HBk.out (Nat.le_refl _)
          by_cases hlt : k < nP
          · have hki : (k : Int) < nP := by omega
            have hkc : k ≤ kc := by omega
            have hkci : (k : Int) ≤ kc := by omega
            have hkn : k ≤ nP := by omega
            have hkni : (k : Int) ≤ nP := by omega
            obtain ⟨bF, oF, ya, yb, hDe, _, d0, d1, HxF⟩ := Pls.get (HD.out wr H5k.out) hlt
            subst hDe
            obtain ⟨bO, oO, pa, pz, hOe, _, g0, g1, HxP⟩ := Pairs.get (HPS.out wr HBWk.out) hlt
            subst hOe
            obtain ⟨hin, hmu⟩ := HALL.out k _ HxF.out
            rw [getD_of HxP.out] at hin
            dsimp only at hin hmu
            have hfi := fit_in HOK.out hin
            have HTH := Lib.hid (there_of HOK.out hfi.1 hfi.2)
            have hyn : ya < n := by rw [← Hn.out]; exact hfi.1
            have hcb := (castsN_bd HOK.out hfi.1).2.1
            have hyc : yb ≤ 8 := by omega
            have HNH := Lib.hid (planned_new HND.out HxF.out)
            have HMU := Lib.hid hmu
            obtain ⟨nn, hnn⟩ : ∃ x, madeT k0 tw ya yb = x := ⟨_, rfl⟩
            have HNN := Lib.hid hnn
            clear hnn
            have HIB : Hid (inB nn pa pz = true) := by
              rw [Hid, inB_iff, ← HNN.out]
              exact fitting_is HOK.out HTR.out HSI.out hfi.1 hfi.2 hin
            have H4k : Hid (Below V4.heap.size V4 wr) := bl_call H45.out H5k.out (Nat.le_refl _)
            have HCM : Hid (∀ V, Below wr.heap.size wr V → Calls Tryz.prog 24 #[.agg #[.int .i64 k0, .slice T n tc], .agg #[.int .i64 ya, .int .i64 yb]] V fun e w' => e = .returned (.int .i64 nn) ∧ Below V.heap.size V w') := fun V hb => by
              have hmt : ya < tw.length := by rw [Htn.out]; exact hyn
              have hx : tw[ya]? = some (tw[ya]) := List.getElem?_eq_getElem hmt
              obtain ⟨p1, p2⟩ := HBD.out _ (List.getElem_mem hmt)
              have := lmade7_any (tc := tc) (c := yb) V (HTV.out V (bl_call H4k.out hb (Nat.le_refl _))) (a := (tw[ya]).1) (v := (tw[ya]).2) hx p1 p2 hyc HKB.out
              rw [show made7 (tw[ya]).1 (tw[ya]).2 (yb : Int) k0 = nn by rw [← HNN.out, madeT, getD_of hx]] at this
              exact this
            have ks : Hid (∀ V, Below wr.heap.size wr V → V.cell? ⟨gT, 0, none⟩ = some (.int .i64 k0) ∧ V.cell? ⟨gT, 1, none⟩ = some (.slice T n tc)) := fun V hb => ⟨(S4.out.bl (bl_call H4k.out hb (Nat.le_refl _))).cell 0, (S4.out.bl (bl_call H4k.out hb (Nat.le_refl _))).cell 1⟩
            have kq : Hid (∀ V, Below wr.heap.size wr V → V.cell? ⟨bF, oF + k * 2, none⟩ = some (.int .i64 (ya : Int)) ∧ V.cell? ⟨bF, oF + k * 2 + 1, none⟩ = some (.int .i64 (yb : Int)) ∧ V.cell? ⟨bO, oO + k * 2, none⟩ = some (.int .i64 pa) ∧ V.cell? ⟨bO, oO + k * 2 + 1, none⟩ = some (.int .i64 pz)) := fun V hb => ⟨getc hb d0, getc hb d1, getc hb g0, getc hb g1⟩
            clear d0 d1 g0 g1 hin hmu hfi hcb
            go_wp2_with fail
            refine wp_frameT ?_
            intro a0 ha0
            have tb2 : a0.tmps[2]? = some (.pointer (some ⟨w.heap.size, 0, none⟩)) := by rw [ha0]; kernel_rfl
            have tb3 : a0.tmps[3]? = some (.pointer (some ⟨w.heap.size + 1, 0, none⟩)) := by rw [ha0]; kernel_rfl
            have tb8 : a0.tmps[8]? = some (.pointer (some ⟨gT, 0, none⟩)) := by rw [ha0]; kernel_rfl
            have tb10 : a0.tmps[10]? = some (.slice (some ⟨bF, oF, none⟩) nP kc) := by rw [ha0]; kernel_rfl
            have tb11 : a0.tmps[11]? = some (.slice E nU ec) := by rw [ha0]; kernel_rfl
            have tb14 : a0.tmps[14]? = some (.int .i64 (k : Int)) := by rw [ha0]; kernel_rfl
            have hsz : a0.tmps.size = 192 := by rw [ha0]; kernel_rfl
            refine wp_region_list (fun W => Below wr.heap.size wr W) (fun w w' => Below w.heap.size w w')
              [isV (.agg #[.int .i64 klo, .int .i64 khi, .slice A n ca]), isV (.slice (some ⟨bF, oF, none⟩) nP kc), isV (.int .i64 (k : Int)), isV (.pointer (some ⟨bF, oF + k * 2, none⟩)), isV (.agg #[.int .i64 (ya : Int), .int .i64 (yb : Int)]), isV (.bool true), isV (.bool false), isV (.bool false), isV (.slice (some ⟨bF, oF, none⟩) nP kc), isV (.int .i64 (k : Int)), isV (.slice (some ⟨bF, oF, none⟩) k kc), isV (.slice (some ⟨bF, oF, none⟩) nP kc), isV (.int .i64 (k : Int)), isV (.pointer (some ⟨bF, oF + k * 2, none⟩)), isV (.agg #[.int .i64 (ya : Int), .int .i64 (yb : Int)]), isV (.bool false), isV (.bool false), isV (.bool false), isV (.slice E nU ec), isV (.slice (some ⟨bF, oF, none⟩) nP kc), isV (.int .i64 (k : Int)), isV (.pointer (some ⟨bF, oF + k * 2, none⟩)), isV (.pointer (some ⟨bF, oF + k * 2, none⟩)), isV (.int .i64 (ya : Int)), isV (.bool true), isV (.bool false), isV (.bool false), isV (.bool false), isV (.agg #[.int .i64 k0, .slice T n tc]), isV (.slice (some ⟨bF, oF, none⟩) nP kc), isV (.int .i64 (k : Int)), isV (.pointer (some ⟨bF, oF + k * 2, none⟩)), isV (.agg #[.int .i64 (ya : Int), .int .i64 (yb : Int)]), isV (.int .i64 nn), isV (.pointer (some ⟨w.heap.size + 1, 2, none⟩)), isV (.slice (some ⟨bO, oO, none⟩) nP od), isV (.int .i64 (k : Int)), isV (.pointer (some ⟨bO, oO + k * 2, none⟩)), isV (.agg #[.int .i64 pa, .int .i64 pz]), isV (.bool true), isV (.bool false), isV (.bool false)]
              (by kernel_rfl) (by kernel_rfl) (by kernel_rfl) (by simp) (by simp) (Below.refl _ _).drew ?stabA ?stepA ?finA
            case stabA => exact (StabL.is (StabL.is (StabL.is (StabL.is (StabL.is (StabL.is (StabL.is (StabL.is (StabL.is (StabL.is (StabL.is (StabL.is (StabL.is (StabL.is (StabL.is (StabL.is (StabL.is (StabL.is (StabL.is (StabL.is (StabL.is (StabL.is (StabL.is (StabL.is (StabL.is (StabL.is (StabL.is (StabL.is (StabL.is (StabL.is (StabL.is (StabL.is (StabL.is (StabL.is (StabL.is (StabL.is (StabL.is (StabL.is (StabL.is (StabL.is (StabL.is (StabL.is StabL.nil))))))))))))))))))))))))))))))))))))))))))
            case stepA =>
              refine StepsL.isA ?_ (StepsL.isA ?_ (StepsL.isA ?_ (StepsL.isA ?_ (StepsL.isA ?_ (StepsL.isA ?_ (StepsL.isA ?_ (StepsL.isA ?_ (StepsL.isA ?_ (StepsL.isA ?_ (StepsL.isA ?_ (StepsL.isA ?_ (StepsL.isA ?_ (StepsL.isA ?_ (StepsL.isA ?_ (StepsL.isA ?_ (StepsL.isA ?_ (StepsL.isA ?_ (StepsL.isA ?_ (StepsL.isA ?_ (StepsL.isA ?_ (StepsL.isA ?_ (StepsL.isA ?_ (StepsL.isA ?_ (StepsL.isA ?_ (StepsL.isA ?_ (StepsL.isA ?_ (StepsL.isA ?_ (StepsL.isA ?_ (StepsL.isA ?_ (StepsL.isA ?_ (StepsL.isA ?_ (StepsL.isA ?_ (StepsL.isA ?_ (StepsL.isA ?_ (StepsL.isA ?_ (StepsL.isA ?_ (StepsL.isA ?_ (StepsL.isA ?_ (StepsL.isA ?_ (StepsL.isA ?_ (StepsL.isA ?_ StepsL.nil)))))))))))))))))))))))))))))))))))))))))
              · -- 0
                intro vs a W K ha hC hD hU hK
                have r2 : a.tmps[2]? = some (.pointer (some ⟨w.heap.size, 0, none⟩)) := by rw [ha, fillA_base0 (by kernel_rfl)]; exact tb2
                clear ha hU hD ha0
                rw [if_pos (by rfl)]
                obtain ⟨k1x, k2x, k3x, _, _, k6x⟩ := kk.out W (bl_call HBWk.out hC (Nat.le_refl _))
                obtain ⟨kf0, kf1, kf2, kf3⟩ := kq.out W hC
                obtain ⟨kt0, kt1⟩ := ks.out W hC
                go_simp
                exact hK _ hC (Below.refl _ _)
              · -- 1
                intro vs a W K ha hC hD hU hK
                have r10 : a.tmps[10]? = some (.slice (some ⟨bF, oF, none⟩) nP kc) := by rw [ha, fillA_base0 (by kernel_rfl)]; exact tb10
                clear ha hU hD ha0
                rw [if_pos (by rfl)]
                go_simp
                exact hK _ hC (Below.refl _ _)
              · -- 2
                intro vs a W K ha hC hD hU hK
                have r14 : a.tmps[14]? = some (.int .i64 (k : Int)) := by rw [ha, fillA_base0 (by kernel_rfl)]; exact tb14
                clear ha hU hD ha0
                rw [if_pos (by rfl)]
                go_simp
                exact hK _ hC (Below.refl _ _)
              · -- 3
                intro vs a W K ha hC hD hU hK
                have r107 : a.tmps[107]? = some (vs 1) := by rw [ha]; exact fillA_get0 (j := 1) (by kernel_rfl) (by rw [hsz]; decide)
                have q1 : vs 1 = .slice (some ⟨bF, oF, none⟩) nP kc := hD 1 (by simp [waits, Region.binds])
                rw [q1] at r107
                have r108 : a.tmps[108]? = some (vs 2) := by rw [ha]; exact fillA_get0 (j := 2) (by kernel_rfl) (by rw [hsz]; decide)
                have q2 : vs 2 = .int .i64 (k : Int) := hD 2 (by simp [waits, Region.binds])
                rw [q2] at r108
                clear ha hU hD ha0
                rw [if_pos (by rfl)]
                go_simp
                exact hK _ hC (Below.refl _ _)
              · -- 4
                intro vs a W K ha hC hD hU hK
                have r109 : a.tmps[109]? = some (vs 3) := by rw [ha]; exact fillA_get0 (j := 3) (by kernel_rfl) (by rw [hsz]; decide)
                have q3 : vs 3 = .pointer (some ⟨bF, oF + k * 2, none⟩) := hD 3 (by simp [waits, Region.binds])
                rw [q3] at r109
                clear ha hU hD ha0
                rw [if_pos (by rfl)]
                obtain ⟨k1x, k2x, k3x, _, _, k6x⟩ := kk.out W (bl_call HBWk.out hC (Nat.le_refl _))
                obtain ⟨kf0, kf1, kf2, kf3⟩ := kq.out W hC
                obtain ⟨kt0, kt1⟩ := ks.out W hC
                go_simp
                exact hK _ hC (Below.refl _ _)
              · -- 5
                intro vs a W K ha hC hD hU hK
                have r106 : a.tmps[106]? = some (vs 0) := by rw [ha]; exact fillA_get0 (j := 0) (by kernel_rfl) (by rw [hsz]; decide)
                have q0 : vs 0 = .agg #[.int .i64 klo, .int .i64 khi, .slice A n ca] := hD 0 (by simp [waits, Region.binds])
                rw [q0] at r106
                have r110 : a.tmps[110]? = some (vs 4) := by rw [ha]; exact fillA_get0 (j := 4) (by kernel_rfl) (by rw [hsz]; decide)
                have q4 : vs 4 = .agg #[.int .i64 (ya : Int), .int .i64 (yb : Int)] := hD 4 (by simp [waits, Region.binds])
                rw [q4] at r110
                clear ha hU hD ha0
                rw [if_pos (by rfl)]
                go_simp
                refine (rthere7_any (ya : Int) (yb : Int) HOK.out W (HG.out W (bl_call HBWk.out hC (Nat.le_refl _)))).mono ?_
                rw [HTH.out]
                rintro e w' ⟨rfl, hb⟩
                exact hK _ (bl_call hC hb (Nat.le_refl _)) hb
              · -- 6
                intro vs a W K ha hC hD hU hK
                have r111 : a.tmps[111]? = some (vs 5) := by rw [ha]; exact fillA_get0 (j := 5) (by kernel_rfl) (by rw [hsz]; decide)
                have q5 : vs 5 = .bool true := hD 5 (by simp [waits, Region.binds])
                rw [q5] at r111
                clear ha hU hD ha0
                rw [if_pos (by rfl)]
                go_simp
                exact hK _ hC (Below.refl _ _)
              · -- 7
                intro vs a W K ha hC hD hU hK
                have r112 : a.tmps[112]? = some (vs 6) := by rw [ha]; exact fillA_get0 (j := 6) (by kernel_rfl) (by rw [hsz]; decide)
                have q6 : vs 6 = .bool false := hD 6 (by simp [waits, Region.binds])
                rw [q6] at r112
                clear ha hU hD ha0
                rw [if_pos (by rfl)]
                go_simp
                exact hK _ hC (Below.refl _ _)
              · -- 8
                intro vs a W K ha hC hD hU hK
                have r113 : a.tmps[113]? = some (vs 7) := by rw [ha]; exact fillA_get0 (j := 7) (by kernel_rfl) (by rw [hsz]; decide)
                have q7 : vs 7 = .bool false := hD 7 (by simp [waits, Region.binds])
                rw [q7] at r113
                have r10 : a.tmps[10]? = some (.slice (some ⟨bF, oF, none⟩) nP kc) := by rw [ha, fillA_base0 (by kernel_rfl)]; exact tb10
                clear ha hU hD ha0
                rw [if_pos (by simp [Region.wanted, yielded, r113])]
                go_simp
                exact hK _ hC (Below.refl _ _)
              · -- 9
                intro vs a W K ha hC hD hU hK
                have r113 : a.tmps[113]? = some (vs 7) := by rw [ha]; exact fillA_get0 (j := 7) (by kernel_rfl) (by rw [hsz]; decide)
                have q7 : vs 7 = .bool false := hD 7 (by simp [waits, Region.binds])
                rw [q7] at r113
                have r14 : a.tmps[14]? = some (.int .i64 (k : Int)) := by rw [ha, fillA_base0 (by kernel_rfl)]; exact tb14
                clear ha hU hD ha0
                rw [if_pos (by simp [Region.wanted, yielded, r113])]
                go_simp
                exact hK _ hC (Below.refl _ _)
              · -- 10
                intro vs a W K ha hC hD hU hK
                have r113 : a.tmps[113]? = some (vs 7) := by rw [ha]; exact fillA_get0 (j := 7) (by kernel_rfl) (by rw [hsz]; decide)
                have q7 : vs 7 = .bool false := hD 7 (by simp [waits, Region.binds])
                rw [q7] at r113
                have r114 : a.tmps[114]? = some (vs 8) := by rw [ha]; exact fillA_get0 (j := 8) (by kernel_rfl) (by rw [hsz]; decide)
                have q8 : vs 8 = .slice (some ⟨bF, oF, none⟩) nP kc := hD 8 (by simp [waits, Region.binds])
                rw [q8] at r114
                have r115 : a.tmps[115]? = some (vs 9) := by rw [ha]; exact fillA_get0 (j := 9) (by kernel_rfl) (by rw [hsz]; decide)
                have q9 : vs 9 = .int .i64 (k : Int) := hD 9 (by simp [waits, Region.binds])
                rw [q9] at r115
                clear ha hU hD ha0
                rw [if_pos (by simp [Region.wanted, yielded, r113])]
                go_simp
                exact hK _ hC (Below.refl _ _)
              · -- 11
                intro vs a W K ha hC hD hU hK
                have r113 : a.tmps[113]? = some (vs 7) := by rw [ha]; exact fillA_get0 (j := 7) (by kernel_rfl) (by rw [hsz]; decide)
                have q7 : vs 7 = .bool false := hD 7 (by simp [waits, Region.binds])
                rw [q7] at r113
                have r10 : a.tmps[10]? = some (.slice (some ⟨bF, oF, none⟩) nP kc) := by rw [ha, fillA_base0 (by kernel_rfl)]; exact tb10
                clear ha hU hD ha0
                rw [if_pos (by simp [Region.wanted, yielded, r113])]
                go_simp
                exact hK _ hC (Below.refl _ _)
              · -- 12
                intro vs a W K ha hC hD hU hK
                have r113 : a.tmps[113]? = some (vs 7) := by rw [ha]; exact fillA_get0 (j := 7) (by kernel_rfl) (by rw [hsz]; decide)
                have q7 : vs 7 = .bool false := hD 7 (by simp [waits, Region.binds])
                rw [q7] at r113
                have r14 : a.tmps[14]? = some (.int .i64 (k : Int)) := by rw [ha, fillA_base0 (by kernel_rfl)]; exact tb14
                clear ha hU hD ha0
                rw [if_pos (by simp [Region.wanted, yielded, r113])]
                go_simp
                exact hK _ hC (Below.refl _ _)
              · -- 13
                intro vs a W K ha hC hD hU hK
                have r113 : a.tmps[113]? = some (vs 7) := by rw [ha]; exact fillA_get0 (j := 7) (by kernel_rfl) (by rw [hsz]; decide)
                have q7 : vs 7 = .bool false := hD 7 (by simp [waits, Region.binds])
                rw [q7] at r113
                have r117 : a.tmps[117]? = some (vs 11) := by rw [ha]; exact fillA_get0 (j := 11) (by kernel_rfl) (by rw [hsz]; decide)
                have q11 : vs 11 = .slice (some ⟨bF, oF, none⟩) nP kc := hD 11 (by simp [waits, Region.binds])
                rw [q11] at r117
                have r118 : a.tmps[118]? = some (vs 12) := by rw [ha]; exact fillA_get0 (j := 12) (by kernel_rfl) (by rw [hsz]; decide)
                have q12 : vs 12 = .int .i64 (k : Int) := hD 12 (by simp [waits, Region.binds])
                rw [q12] at r118
                clear ha hU hD ha0
                rw [if_pos (by simp [Region.wanted, yielded, r113])]
                go_simp
                exact hK _ hC (Below.refl _ _)
              · -- 14
                intro vs a W K ha hC hD hU hK
                have r113 : a.tmps[113]? = some (vs 7) := by rw [ha]; exact fillA_get0 (j := 7) (by kernel_rfl) (by rw [hsz]; decide)
                have q7 : vs 7 = .bool false := hD 7 (by simp [waits, Region.binds])
                rw [q7] at r113
                have r119 : a.tmps[119]? = some (vs 13) := by rw [ha]; exact fillA_get0 (j := 13) (by kernel_rfl) (by rw [hsz]; decide)
                have q13 : vs 13 = .pointer (some ⟨bF, oF + k * 2, none⟩) := hD 13 (by simp [waits, Region.binds])
                rw [q13] at r119
                clear ha hU hD ha0
                rw [if_pos (by simp [Region.wanted, yielded, r113])]
                obtain ⟨k1x, k2x, k3x, _, _, k6x⟩ := kk.out W (bl_call HBWk.out hC (Nat.le_refl _))
                obtain ⟨kf0, kf1, kf2, kf3⟩ := kq.out W hC
                obtain ⟨kt0, kt1⟩ := ks.out W hC
                go_simp
                exact hK _ hC (Below.refl _ _)
              · -- 15
                intro vs a W K ha hC hD hU hK
                have r113 : a.tmps[113]? = some (vs 7) := by rw [ha]; exact fillA_get0 (j := 7) (by kernel_rfl) (by rw [hsz]; decide)
                have q7 : vs 7 = .bool false := hD 7 (by simp [waits, Region.binds])
                rw [q7] at r113
                have r116 : a.tmps[116]? = some (vs 10) := by rw [ha]; exact fillA_get0 (j := 10) (by kernel_rfl) (by rw [hsz]; decide)
                have q10 : vs 10 = .slice (some ⟨bF, oF, none⟩) k kc := hD 10 (by simp [waits, Region.binds])
                rw [q10] at r116
                have r120 : a.tmps[120]? = some (vs 14) := by rw [ha]; exact fillA_get0 (j := 14) (by kernel_rfl) (by rw [hsz]; decide)
                have q14 : vs 14 = .agg #[.int .i64 (ya : Int), .int .i64 (yb : Int)] := hD 14 (by simp [waits, Region.binds])
                rw [q14] at r120
                clear ha hU hD ha0
                rw [if_pos (by simp [Region.wanted, yielded, r113])]
                go_simp
                refine (has7_any (ya, yb) W ((HD.out W (bl_call H5k.out hC (Nat.le_refl _))).take (k := k) (by omega))).mono ?_
                rw [decide_eq_false HNH.out]
                rintro e w' ⟨rfl, hb⟩
                exact hK _ (bl_call hC hb (Nat.le_refl _)) hb
              · -- 16
                intro vs a W K ha hC hD hU hK
                have r113 : a.tmps[113]? = some (vs 7) := by rw [ha]; exact fillA_get0 (j := 7) (by kernel_rfl) (by rw [hsz]; decide)
                have q7 : vs 7 = .bool false := hD 7 (by simp [waits, Region.binds])
                rw [q7] at r113
                have r121 : a.tmps[121]? = some (vs 15) := by rw [ha]; exact fillA_get0 (j := 15) (by kernel_rfl) (by rw [hsz]; decide)
                have q15 : vs 15 = .bool false := hD 15 (by simp [waits, Region.binds])
                rw [q15] at r121
                clear ha hU hD ha0
                rw [if_pos (by rfl)]
                go_simp
                exact hK _ hC (Below.refl _ _)
              · -- 17
                intro vs a W K ha hC hD hU hK
                have r122 : a.tmps[122]? = some (vs 16) := by rw [ha]; exact fillA_get0 (j := 16) (by kernel_rfl) (by rw [hsz]; decide)
                have q16 : vs 16 = .bool false := hD 16 (by simp [waits, Region.binds])
                rw [q16] at r122
                clear ha hU hD ha0
                rw [if_pos (by rfl)]
                go_simp
                exact hK _ hC (Below.refl _ _)
              · -- 18
                intro vs a W K ha hC hD hU hK
                have r123 : a.tmps[123]? = some (vs 17) := by rw [ha]; exact fillA_get0 (j := 17) (by kernel_rfl) (by rw [hsz]; decide)
                have q17 : vs 17 = .bool false := hD 17 (by simp [waits, Region.binds])
                rw [q17] at r123
                have r11 : a.tmps[11]? = some (.slice E nU ec) := by rw [ha, fillA_base0 (by kernel_rfl)]; exact tb11
                clear ha hU hD ha0
                rw [if_pos (by simp [Region.wanted, yielded, r123])]
                go_simp
                exact hK _ hC (Below.refl _ _)
              · -- 19
                intro vs a W K ha hC hD hU hK
                have r123 : a.tmps[123]? = some (vs 17) := by rw [ha]; exact fillA_get0 (j := 17) (by kernel_rfl) (by rw [hsz]; decide)
                have q17 : vs 17 = .bool false := hD 17 (by simp [waits, Region.binds])
                rw [q17] at r123
                have r10 : a.tmps[10]? = some (.slice (some ⟨bF, oF, none⟩) nP kc) := by rw [ha, fillA_base0 (by kernel_rfl)]; exact tb10
                clear ha hU hD ha0
                rw [if_pos (by simp [Region.wanted, yielded, r123])]
                go_simp
                exact hK _ hC (Below.refl _ _)
              · -- 20
                intro vs a W K ha hC hD hU hK
                have r123 : a.tmps[123]? = some (vs 17) := by rw [ha]; exact fillA_get0 (j := 17) (by kernel_rfl) (by rw [hsz]; decide)
                have q17 : vs 17 = .bool false := hD 17 (by simp [waits, Region.binds])
                rw [q17] at r123
                have r14 : a.tmps[14]? = some (.int .i64 (k : Int)) := by rw [ha, fillA_base0 (by kernel_rfl)]; exact tb14
                clear ha hU hD ha0
                rw [if_pos (by simp [Region.wanted, yielded, r123])]
                go_simp
                exact hK _ hC (Below.refl _ _)
              · -- 21
                intro vs a W K ha hC hD hU hK
                have r123 : a.tmps[123]? = some (vs 17) := by rw [ha]; exact fillA_get0 (j := 17) (by kernel_rfl) (by rw [hsz]; decide)
                have q17 : vs 17 = .bool false := hD 17 (by simp [waits, Region.binds])
                rw [q17] at r123
                have r125 : a.tmps[125]? = some (vs 19) := by rw [ha]; exact fillA_get0 (j := 19) (by kernel_rfl) (by rw [hsz]; decide)
                have q19 : vs 19 = .slice (some ⟨bF, oF, none⟩) nP kc := hD 19 (by simp [waits, Region.binds])
                rw [q19] at r125
                have r126 : a.tmps[126]? = some (vs 20) := by rw [ha]; exact fillA_get0 (j := 20) (by kernel_rfl) (by rw [hsz]; decide)
                have q20 : vs 20 = .int .i64 (k : Int) := hD 20 (by simp [waits, Region.binds])
                rw [q20] at r126
                clear ha hU hD ha0
                rw [if_pos (by simp [Region.wanted, yielded, r123])]
                go_simp
                exact hK _ hC (Below.refl _ _)
              · -- 22
                intro vs a W K ha hC hD hU hK
                have r123 : a.tmps[123]? = some (vs 17) := by rw [ha]; exact fillA_get0 (j := 17) (by kernel_rfl) (by rw [hsz]; decide)
                have q17 : vs 17 = .bool false := hD 17 (by simp [waits, Region.binds])
                rw [q17] at r123
                have r127 : a.tmps[127]? = some (vs 21) := by rw [ha]; exact fillA_get0 (j := 21) (by kernel_rfl) (by rw [hsz]; decide)
                have q21 : vs 21 = .pointer (some ⟨bF, oF + k * 2, none⟩) := hD 21 (by simp [waits, Region.binds])
                rw [q21] at r127
                clear ha hU hD ha0
                rw [if_pos (by simp [Region.wanted, yielded, r123])]
                go_simp
                exact hK _ hC (Below.refl _ _)
              · -- 23
                intro vs a W K ha hC hD hU hK
                have r123 : a.tmps[123]? = some (vs 17) := by rw [ha]; exact fillA_get0 (j := 17) (by kernel_rfl) (by rw [hsz]; decide)
                have q17 : vs 17 = .bool false := hD 17 (by simp [waits, Region.binds])
                rw [q17] at r123
                have r128 : a.tmps[128]? = some (vs 22) := by rw [ha]; exact fillA_get0 (j := 22) (by kernel_rfl) (by rw [hsz]; decide)
                have q22 : vs 22 = .pointer (some ⟨bF, oF + k * 2, none⟩) := hD 22 (by simp [waits, Region.binds])
                rw [q22] at r128
                clear ha hU hD ha0
                rw [if_pos (by simp [Region.wanted, yielded, r123])]
                obtain ⟨k1x, k2x, k3x, _, _, k6x⟩ := kk.out W (bl_call HBWk.out hC (Nat.le_refl _))
                obtain ⟨kf0, kf1, kf2, kf3⟩ := kq.out W hC
                obtain ⟨kt0, kt1⟩ := ks.out W hC
                go_simp
                exact hK _ hC (Below.refl _ _)
              · -- 24
                intro vs a W K ha hC hD hU hK
                have r123 : a.tmps[123]? = some (vs 17) := by rw [ha]; exact fillA_get0 (j := 17) (by kernel_rfl) (by rw [hsz]; decide)
                have q17 : vs 17 = .bool false := hD 17 (by simp [waits, Region.binds])
                rw [q17] at r123
                have r124 : a.tmps[124]? = some (vs 18) := by rw [ha]; exact fillA_get0 (j := 18) (by kernel_rfl) (by rw [hsz]; decide)
                have q18 : vs 18 = .slice E nU ec := hD 18 (by simp [waits, Region.binds])
                rw [q18] at r124
                have r129 : a.tmps[129]? = some (vs 23) := by rw [ha]; exact fillA_get0 (j := 23) (by kernel_rfl) (by rw [hsz]; decide)
                have q23 : vs 23 = .int .i64 (ya : Int) := hD 23 (by simp [waits, Region.binds])
                rw [q23] at r129
                clear ha hU hD ha0
                rw [if_pos (by simp [Region.wanted, yielded, r123])]
                go_simp
                refine (has_any (ya : Int) W (HU.out W (bl_call H5k.out hC (Nat.le_refl _)))).mono ?_
                rw [decide_eq_true HMU.out]
                rintro e w' ⟨rfl, rfl⟩
                exact hK _ hC (Below.refl _ _)
              · -- 25
                intro vs a W K ha hC hD hU hK
                have r123 : a.tmps[123]? = some (vs 17) := by rw [ha]; exact fillA_get0 (j := 17) (by kernel_rfl) (by rw [hsz]; decide)
                have q17 : vs 17 = .bool false := hD 17 (by simp [waits, Region.binds])
                rw [q17] at r123
                have r130 : a.tmps[130]? = some (vs 24) := by rw [ha]; exact fillA_get0 (j := 24) (by kernel_rfl) (by rw [hsz]; decide)
                have q24 : vs 24 = .bool true := hD 24 (by simp [waits, Region.binds])
                rw [q24] at r130
                clear ha hU hD ha0
                rw [if_pos (by simp [Region.wanted, yielded, r123])]
                go_simp
                exact hK _ hC (Below.refl _ _)
              · -- 26
                intro vs a W K ha hC hD hU hK
                have r123 : a.tmps[123]? = some (vs 17) := by rw [ha]; exact fillA_get0 (j := 17) (by kernel_rfl) (by rw [hsz]; decide)
                have q17 : vs 17 = .bool false := hD 17 (by simp [waits, Region.binds])
                rw [q17] at r123
                have r131 : a.tmps[131]? = some (vs 25) := by rw [ha]; exact fillA_get0 (j := 25) (by kernel_rfl) (by rw [hsz]; decide)
                have q25 : vs 25 = .bool false := hD 25 (by simp [waits, Region.binds])
                rw [q25] at r131
                clear ha hU hD ha0
                rw [if_pos (by rfl)]
                go_simp
                exact hK _ hC (Below.refl _ _)
              · -- 27
                intro vs a W K ha hC hD hU hK
                have r132 : a.tmps[132]? = some (vs 26) := by rw [ha]; exact fillA_get0 (j := 26) (by kernel_rfl) (by rw [hsz]; decide)
                have q26 : vs 26 = .bool false := hD 26 (by simp [waits, Region.binds])
                rw [q26] at r132
                clear ha hU hD ha0
                rw [if_pos (by rfl)]
                go_simp
                exact hK _ hC (Below.refl _ _)
              · -- 28
                intro vs a W K ha hC hD hU hK
                have r133 : a.tmps[133]? = some (vs 27) := by rw [ha]; exact fillA_get0 (j := 27) (by kernel_rfl) (by rw [hsz]; decide)
                have q27 : vs 27 = .bool false := hD 27 (by simp [waits, Region.binds])
                rw [q27] at r133
                have r8 : a.tmps[8]? = some (.pointer (some ⟨gT, 0, none⟩)) := by rw [ha, fillA_base0 (by kernel_rfl)]; exact tb8
                clear ha hU hD ha0
                rw [if_pos (by simp [Region.wanted, yielded, r133])]
                obtain ⟨k1x, k2x, k3x, _, _, k6x⟩ := kk.out W (bl_call HBWk.out hC (Nat.le_refl _))
                obtain ⟨kf0, kf1, kf2, kf3⟩ := kq.out W hC
                obtain ⟨kt0, kt1⟩ := ks.out W hC
                go_simp
                exact hK _ hC (Below.refl _ _)
              · -- 29
                intro vs a W K ha hC hD hU hK
                have r133 : a.tmps[133]? = some (vs 27) := by rw [ha]; exact fillA_get0 (j := 27) (by kernel_rfl) (by rw [hsz]; decide)
                have q27 : vs 27 = .bool false := hD 27 (by simp [waits, Region.binds])
                rw [q27] at r133
                have r10 : a.tmps[10]? = some (.slice (some ⟨bF, oF, none⟩) nP kc) := by rw [ha, fillA_base0 (by kernel_rfl)]; exact tb10
                clear ha hU hD ha0
                rw [if_pos (by simp [Region.wanted, yielded, r133])]
                go_simp
                exact hK _ hC (Below.refl _ _)
              · -- 30
                intro vs a W K ha hC hD hU hK
                have r133 : a.tmps[133]? = some (vs 27) := by rw [ha]; exact fillA_get0 (j := 27) (by kernel_rfl) (by rw [hsz]; decide)
                have q27 : vs 27 = .bool false := hD 27 (by simp [waits, Region.binds])
                rw [q27] at r133
                have r14 : a.tmps[14]? = some (.int .i64 (k : Int)) := by rw [ha, fillA_base0 (by kernel_rfl)]; exact tb14
                clear ha hU hD ha0
                rw [if_pos (by simp [Region.wanted, yielded, r133])]
                go_simp
                exact hK _ hC (Below.refl _ _)
              · -- 31
                intro vs a W K ha hC hD hU hK
                have r133 : a.tmps[133]? = some (vs 27) := by rw [ha]; exact fillA_get0 (j := 27) (by kernel_rfl) (by rw [hsz]; decide)
                have q27 : vs 27 = .bool false := hD 27 (by simp [waits, Region.binds])
                rw [q27] at r133
                have r135 : a.tmps[135]? = some (vs 29) := by rw [ha]; exact fillA_get0 (j := 29) (by kernel_rfl) (by rw [hsz]; decide)
                have q29 : vs 29 = .slice (some ⟨bF, oF, none⟩) nP kc := hD 29 (by simp [waits, Region.binds])
                rw [q29] at r135
                have r136 : a.tmps[136]? = some (vs 30) := by rw [ha]; exact fillA_get0 (j := 30) (by kernel_rfl) (by rw [hsz]; decide)
                have q30 : vs 30 = .int .i64 (k : Int) := hD 30 (by simp [waits, Region.binds])
                rw [q30] at r136
                clear ha hU hD ha0
                rw [if_pos (by simp [Region.wanted, yielded, r133])]
                go_simp
                exact hK _ hC (Below.refl _ _)
              · -- 32
                intro vs a W K ha hC hD hU hK
                have r133 : a.tmps[133]? = some (vs 27) := by rw [ha]; exact fillA_get0 (j := 27) (by kernel_rfl) (by rw [hsz]; decide)
                have q27 : vs 27 = .bool false := hD 27 (by simp [waits, Region.binds])
                rw [q27] at r133
                have r137 : a.tmps[137]? = some (vs 31) := by rw [ha]; exact fillA_get0 (j := 31) (by kernel_rfl) (by rw [hsz]; decide)
                have q31 : vs 31 = .pointer (some ⟨bF, oF + k * 2, none⟩) := hD 31 (by simp [waits, Region.binds])
                rw [q31] at r137
                clear ha hU hD ha0
                rw [if_pos (by simp [Region.wanted, yielded, r133])]
                obtain ⟨k1x, k2x, k3x, _, _, k6x⟩ := kk.out W (bl_call HBWk.out hC (Nat.le_refl _))
                obtain ⟨kf0, kf1, kf2, kf3⟩ := kq.out W hC
                obtain ⟨kt0, kt1⟩ := ks.out W hC
                go_simp
                exact hK _ hC (Below.refl _ _)
              · -- 33
                intro vs a W K ha hC hD hU hK
                have r133 : a.tmps[133]? = some (vs 27) := by rw [ha]; exact fillA_get0 (j := 27) (by kernel_rfl) (by rw [hsz]; decide)
                have q27 : vs 27 = .bool false := hD 27 (by simp [waits, Region.binds])
                rw [q27] at r133
                have r134 : a.tmps[134]? = some (vs 28) := by rw [ha]; exact fillA_get0 (j := 28) (by kernel_rfl) (by rw [hsz]; decide)
                have q28 : vs 28 = .agg #[.int .i64 k0, .slice T n tc] := hD 28 (by simp [waits, Region.binds])
                rw [q28] at r134
                have r138 : a.tmps[138]? = some (vs 32) := by rw [ha]; exact fillA_get0 (j := 32) (by kernel_rfl) (by rw [hsz]; decide)
                have q32 : vs 32 = .agg #[.int .i64 (ya : Int), .int .i64 (yb : Int)] := hD 32 (by simp [waits, Region.binds])
                rw [q32] at r138
                clear ha hU hD ha0
                rw [if_pos (by simp [Region.wanted, yielded, r133])]
                go_simp
                refine (HCM.out W hC).mono ?_
                rintro e w' ⟨rfl, hb⟩
                exact hK _ (bl_call hC hb (Nat.le_refl _)) hb
              · -- 34
                intro vs a W K ha hC hD hU hK
                have r133 : a.tmps[133]? = some (vs 27) := by rw [ha]; exact fillA_get0 (j := 27) (by kernel_rfl) (by rw [hsz]; decide)
                have q27 : vs 27 = .bool false := hD 27 (by simp [waits, Region.binds])
                rw [q27] at r133
                have r3 : a.tmps[3]? = some (.pointer (some ⟨w.heap.size + 1, 0, none⟩)) := by rw [ha, fillA_base0 (by kernel_rfl)]; exact tb3
                clear ha hU hD ha0
                rw [if_pos (by simp [Region.wanted, yielded, r133])]
                go_simp
                exact hK _ hC (Below.refl _ _)
              · -- 35
                intro vs a W K ha hC hD hU hK
                have r133 : a.tmps[133]? = some (vs 27) := by rw [ha]; exact fillA_get0 (j := 27) (by kernel_rfl) (by rw [hsz]; decide)
                have q27 : vs 27 = .bool false := hD 27 (by simp [waits, Region.binds])
                rw [q27] at r133
                have r140 : a.tmps[140]? = some (vs 34) := by rw [ha]; exact fillA_get0 (j := 34) (by kernel_rfl) (by rw [hsz]; decide)
                have q34 : vs 34 = .pointer (some ⟨w.heap.size + 1, 2, none⟩) := hD 34 (by simp [waits, Region.binds])
                rw [q34] at r140
                clear ha hU hD ha0
                rw [if_pos (by simp [Region.wanted, yielded, r133])]
                obtain ⟨k1x, k2x, k3x, _, _, k6x⟩ := kk.out W (bl_call HBWk.out hC (Nat.le_refl _))
                obtain ⟨kf0, kf1, kf2, kf3⟩ := kq.out W hC
                obtain ⟨kt0, kt1⟩ := ks.out W hC
                go_simp
                exact hK _ hC (Below.refl _ _)
              · -- 36
                intro vs a W K ha hC hD hU hK
                have r133 : a.tmps[133]? = some (vs 27) := by rw [ha]; exact fillA_get0 (j := 27) (by kernel_rfl) (by rw [hsz]; decide)
                have q27 : vs 27 = .bool false := hD 27 (by simp [waits, Region.binds])
                rw [q27] at r133
                have r14 : a.tmps[14]? = some (.int .i64 (k : Int)) := by rw [ha, fillA_base0 (by kernel_rfl)]; exact tb14
                clear ha hU hD ha0
                rw [if_pos (by simp [Region.wanted, yielded, r133])]
                go_simp
                exact hK _ hC (Below.refl _ _)
              · -- 37
                intro vs a W K ha hC hD hU hK
                have r133 : a.tmps[133]? = some (vs 27) := by rw [ha]; exact fillA_get0 (j := 27) (by kernel_rfl) (by rw [hsz]; decide)
                have q27 : vs 27 = .bool false := hD 27 (by simp [waits, Region.binds])
                rw [q27] at r133
                have r141 : a.tmps[141]? = some (vs 35) := by rw [ha]; exact fillA_get0 (j := 35) (by kernel_rfl) (by rw [hsz]; decide)
                have q35 : vs 35 = .slice (some ⟨bO, oO, none⟩) nP od := hD 35 (by simp [waits, Region.binds])
                rw [q35] at r141
                have r142 : a.tmps[142]? = some (vs 36) := by rw [ha]; exact fillA_get0 (j := 36) (by kernel_rfl) (by rw [hsz]; decide)
                have q36 : vs 36 = .int .i64 (k : Int) := hD 36 (by simp [waits, Region.binds])
                rw [q36] at r142
                clear ha hU hD ha0
                rw [if_pos (by simp [Region.wanted, yielded, r133])]
                go_simp
                exact hK _ hC (Below.refl _ _)
              · -- 38
                intro vs a W K ha hC hD hU hK
                have r133 : a.tmps[133]? = some (vs 27) := by rw [ha]; exact fillA_get0 (j := 27) (by kernel_rfl) (by rw [hsz]; decide)
                have q27 : vs 27 = .bool false := hD 27 (by simp [waits, Region.binds])
                rw [q27] at r133
                have r143 : a.tmps[143]? = some (vs 37) := by rw [ha]; exact fillA_get0 (j := 37) (by kernel_rfl) (by rw [hsz]; decide)
                have q37 : vs 37 = .pointer (some ⟨bO, oO + k * 2, none⟩) := hD 37 (by simp [waits, Region.binds])
                rw [q37] at r143
                clear ha hU hD ha0
                rw [if_pos (by simp [Region.wanted, yielded, r133])]
                obtain ⟨k1x, k2x, k3x, _, _, k6x⟩ := kk.out W (bl_call HBWk.out hC (Nat.le_refl _))
                obtain ⟨kf0, kf1, kf2, kf3⟩ := kq.out W hC
                obtain ⟨kt0, kt1⟩ := ks.out W hC
                go_simp
                exact hK _ hC (Below.refl _ _)
              · -- 39
                intro vs a W K ha hC hD hU hK
                have r133 : a.tmps[133]? = some (vs 27) := by rw [ha]; exact fillA_get0 (j := 27) (by kernel_rfl) (by rw [hsz]; decide)
                have q27 : vs 27 = .bool false := hD 27 (by simp [waits, Region.binds])
                rw [q27] at r133
                have r139 : a.tmps[139]? = some (vs 33) := by rw [ha]; exact fillA_get0 (j := 33) (by kernel_rfl) (by rw [hsz]; decide)
                have q33 : vs 33 = .int .i64 nn := hD 33 (by simp [waits, Region.binds])
                rw [q33] at r139
                have r144 : a.tmps[144]? = some (vs 38) := by rw [ha]; exact fillA_get0 (j := 38) (by kernel_rfl) (by rw [hsz]; decide)
                have q38 : vs 38 = .agg #[.int .i64 pa, .int .i64 pz] := hD 38 (by simp [waits, Region.binds])
                rw [q38] at r144
                clear ha hU hD ha0
                rw [if_pos (by simp [Region.wanted, yielded, r133])]
                go_simp
                refine (inspan_any nn pa pz W).mono ?_
                rw [HIB.out]
                rintro e w' ⟨rfl, hb⟩
                exact hK _ (bl_call hC hb (Nat.le_refl _)) hb
              · -- 40
                intro vs a W K ha hC hD hU hK
                have r133 : a.tmps[133]? = some (vs 27) := by rw [ha]; exact fillA_get0 (j := 27) (by kernel_rfl) (by rw [hsz]; decide)
                have q27 : vs 27 = .bool false := hD 27 (by simp [waits, Region.binds])
                rw [q27] at r133
                have r145 : a.tmps[145]? = some (vs 39) := by rw [ha]; exact fillA_get0 (j := 39) (by kernel_rfl) (by rw [hsz]; decide)
                have q39 : vs 39 = .bool true := hD 39 (by simp [waits, Region.binds])
                rw [q39] at r145
                clear ha hU hD ha0
                rw [if_pos (by simp [Region.wanted, yielded, r133])]
                go_simp
                exact hK _ hC (Below.refl _ _)
              · -- 41
                intro vs a W K ha hC hD hU hK
                have r133 : a.tmps[133]? = some (vs 27) := by rw [ha]; exact fillA_get0 (j := 27) (by kernel_rfl) (by rw [hsz]; decide)
                have q27 : vs 27 = .bool false := hD 27 (by simp [waits, Region.binds])
                rw [q27] at r133
                have r146 : a.tmps[146]? = some (vs 40) := by rw [ha]; exact fillA_get0 (j := 40) (by kernel_rfl) (by rw [hsz]; decide)
                have q40 : vs 40 = .bool false := hD 40 (by simp [waits, Region.binds])
                rw [q40] at r146
                clear ha hU hD ha0
                rw [if_pos (by rfl)]
                go_simp
                exact hK _ hC (Below.refl _ _)
            case finA =>
              refine Fin1.none (Nat.le_refl _) ?_
              intro vs W a1 hC hE ha
              have eL : vs 41 = .bool false := hE 41 (by simp)
              rw [ha, ha0]
              clear ha ha0 hsz tb2 tb3 tb8 tb10 tb11 tb14
              simp only [fillA, Act.put, List.setIfInBounds_toArray, List.set_cons_zero, List.set_cons_succ, Nat.zero_add, Nat.reduceAdd, eL]
              obtain ⟨u0, hu0⟩ : ∃ v0, vs 0 = v0 := ⟨_, rfl⟩
              obtain ⟨u1, hu1⟩ : ∃ v0, vs 1 = v0 := ⟨_, rfl⟩
              obtain ⟨u2, hu2⟩ : ∃ v0, vs 2 = v0 := ⟨_, rfl⟩
              obtain ⟨u3, hu3⟩ : ∃ v0, vs 3 = v0 := ⟨_, rfl⟩
              obtain ⟨u4, hu4⟩ : ∃ v0, vs 4 = v0 := ⟨_, rfl⟩
              obtain ⟨u5, hu5⟩ : ∃ v0, vs 5 = v0 := ⟨_, rfl⟩
              obtain ⟨u6, hu6⟩ : ∃ v0, vs 6 = v0 := ⟨_, rfl⟩
              obtain ⟨u7, hu7⟩ : ∃ v0, vs 7 = v0 := ⟨_, rfl⟩
              obtain ⟨u8, hu8⟩ : ∃ v0, vs 8 = v0 := ⟨_, rfl⟩
              obtain ⟨u9, hu9⟩ : ∃ v0, vs 9 = v0 := ⟨_, rfl⟩
              obtain ⟨u10, hu10⟩ : ∃ v0, vs 10 = v0 := ⟨_, rfl⟩
              obtain ⟨u11, hu11⟩ : ∃ v0, vs 11 = v0 := ⟨_, rfl⟩
              obtain ⟨u12, hu12⟩ : ∃ v0, vs 12 = v0 := ⟨_, rfl⟩
              obtain ⟨u13, hu13⟩ : ∃ v0, vs 13 = v0 := ⟨_, rfl⟩
              obtain ⟨u14, hu14⟩ : ∃ v0, vs 14 = v0 := ⟨_, rfl⟩
              obtain ⟨u15, hu15⟩ : ∃ v0, vs 15 = v0 := ⟨_, rfl⟩
              obtain ⟨u16, hu16⟩ : ∃ v0, vs 16 = v0 := ⟨_, rfl⟩
              obtain ⟨u17, hu17⟩ : ∃ v0, vs 17 = v0 := ⟨_, rfl⟩
              obtain ⟨u18, hu18⟩ : ∃ v0, vs 18 = v0 := ⟨_, rfl⟩
              obtain ⟨u19, hu19⟩ : ∃ v0, vs 19 = v0 := ⟨_, rfl⟩
              obtain ⟨u20, hu20⟩ : ∃ v0, vs 20 = v0 := ⟨_, rfl⟩
              obtain ⟨u21, hu21⟩ : ∃ v0, vs 21 = v0 := ⟨_, rfl⟩
              obtain ⟨u22, hu22⟩ : ∃ v0, vs 22 = v0 := ⟨_, rfl⟩
              obtain ⟨u23, hu23⟩ : ∃ v0, vs 23 = v0 := ⟨_, rfl⟩
              obtain ⟨u24, hu24⟩ : ∃ v0, vs 24 = v0 := ⟨_, rfl⟩
              obtain ⟨u25, hu25⟩ : ∃ v0, vs 25 = v0 := ⟨_, rfl⟩
              obtain ⟨u26, hu26⟩ : ∃ v0, vs 26 = v0 := ⟨_, rfl⟩
              obtain ⟨u27, hu27⟩ : ∃ v0, vs 27 = v0 := ⟨_, rfl⟩
              obtain ⟨u28, hu28⟩ : ∃ v0, vs 28 = v0 := ⟨_, rfl⟩
              obtain ⟨u29, hu29⟩ : ∃ v0, vs 29 = v0 := ⟨_, rfl⟩
              obtain ⟨u30, hu30⟩ : ∃ v0, vs 30 = v0 := ⟨_, rfl⟩
              obtain ⟨u31, hu31⟩ : ∃ v0, vs 31 = v0 := ⟨_, rfl⟩
              obtain ⟨u32, hu32⟩ : ∃ v0, vs 32 = v0 := ⟨_, rfl⟩
              obtain ⟨u33, hu33⟩ : ∃ v0, vs 33 = v0 := ⟨_, rfl⟩
              obtain ⟨u34, hu34⟩ : ∃ v0, vs 34 = v0 := ⟨_, rfl⟩
              obtain ⟨u35, hu35⟩ : ∃ v0, vs 35 = v0 := ⟨_, rfl⟩
              obtain ⟨u36, hu36⟩ : ∃ v0, vs 36 = v0 := ⟨_, rfl⟩
              obtain ⟨u37, hu37⟩ : ∃ v0, vs 37 = v0 := ⟨_, rfl⟩
              obtain ⟨u38, hu38⟩ : ∃ v0, vs 38 = v0 := ⟨_, rfl⟩
              obtain ⟨u39, hu39⟩ : ∃ v0, vs 39 = v0 := ⟨_, rfl⟩
              obtain ⟨u40, hu40⟩ : ∃ v0, vs 40 = v0 := ⟨_, rfl⟩
              rw [hu0, hu1, hu2, hu3, hu4, hu5, hu6, hu7, hu8, hu9, hu10, hu11, hu12, hu13, hu14, hu15, hu16, hu17, hu18, hu19, hu20, hu21, hu22, hu23, hu24, hu25, hu26, hu27, hu28, hu29, hu30, hu31, hu32, hu33, hu34, hu35, hu36, hu37, hu38, hu39, hu40]
              clear hu0 hu1 hu2 hu3 hu4 hu5 hu6 hu7 hu8 hu9 hu10 hu11 hu12 hu13 hu14 hu15 hu16 hu17 hu18 hu19 hu20 hu21 hu22 hu23 hu24 hu25 hu26 hu27 hu28 hu29 hu30 hu31 hu32 hu33 hu34 hu35 hu36 hu37 hu38 hu39 hu40
              have HEND : Hid (Below V6.heap.size V6 W) := bl_call HBk.out hC (Nat.le_refl _)
              clear hE eL hC
              go_wp2_with fail
              go_roundw
              case rel => exact ⟨k + 1, by omega, by go_num, HEND.out⟩
              case measure => simp [intOf]; omega
          · obtain rfl : k = nP := by omega
            have hki : ¬ (k : Int) < k := by omega
            clear hlt
            go_wp2_with fail
            have H6n := HBk
            obtain ⟨Wn, hWn⟩ : ∃ V : World, V = wr := ⟨_, rfl⟩
            subst hWn
            have HKL : Hid (P.length ≤ k) := by rw [Hid, HNP.out]; exact Nat.le_refl _
            go_loopw [15] (fun i wr => ∃ j : Nat, j ≤ nU ∧ i = .int .i64 j ∧ Hid (Below Wn.heap.size Wn wr)) (fun i _ => nU - (intOf i).toNat)
            case atStart => exact ⟨0, Nat.zero_le _, rfl, Below.refl _ _⟩
            case round =>
              obtain ⟨j, hj, rfl, HBj⟩ := hrel
              have H5j : Hid (Below V5.heap.size V5 wr) := bl_call H5k.out HBj.out (Nat.le_refl _)
              have HBWj : Hid (Below W.heap.size W wr) := bl_call HBWk.out HBj.out (Nat.le_refl _)
              by_cases hlj : j < nU
              · have hji : (j : Int) < nU := by omega
                obtain ⟨bE, oE, x, hEe, hxc, HxE⟩ := Ints.get (HU.out wr H5j.out) hlj
                subst hEe
                have HXU : Hid (∃ a ∈ P, (a.1 : Int) = x) := HUSE.out x (List.mem_of_getElem? HxE.out)
                have kx : Hid (∀ V, Below wr.heap.size wr V → V.cell? ⟨bE, oE + j, none⟩ = some (.int .i64 x)) := fun V hb => getc hb hxc
                clear hxc
                obtain ⟨Wj, hWj⟩ : ∃ V : World, V = wr := ⟨_, rfl⟩
                subst hWj
                go_wp2_with fail
                go_loopw [16, 17] (fun us i wr => ∃ k2 : Nat, k2 ≤ k ∧ i = .int .i64 k2 ∧ us = .bool (usedL P x k2) ∧ Hid (Below Wj.heap.size Wj wr)) (fun _ i _ => k - (intOf i).toNat)
                case atStart => exact ⟨0, Nat.zero_le _, rfl, by simp [usedL], Below.refl _ _⟩
                case round =>
                  obtain ⟨k2, hk2, rfl, rfl, HB2⟩ := hrel
                  by_cases hl2 : k2 < k
                  · have hki2 : (k2 : Int) < k := by omega
                    have H52 : Hid (Below V5.heap.size V5 wr) := bl_call H5j.out HB2.out (Nat.le_refl _)
                    obtain ⟨bF, oF, ya, yb, hDe, _, d0, _, HxF⟩ := Pls.get (HD.out wr H52.out) hl2
                    subst hDe
                    have kq2 : Hid (∀ V, Below wr.heap.size wr V → V.cell? ⟨bF, oF + k2 * 2, none⟩ = some (.int .i64 (ya : Int))) := fun V hb => getc hb d0
                    clear d0
                    have hus := usedL_succ (x := x) HxF.out
                    dsimp only at hus
                    obtain ⟨ub, hub⟩ : ∃ b, usedL P x k2 = b := ⟨_, rfl⟩
                    rw [hub] at hus ⊢
                    clear hub
                    cases ub with
                    | true =>
                      have HUS : Hid (usedL P x (k2 + 1) = true) := by rw [Hid, hus]; rfl
                      clear hus
                      go_wp2_with fail
                      refine wp_frameT ?_
                      intro a0 ha0
                      have hsz : a0.tmps.size = 192 := by rw [ha0]; kernel_rfl
                      refine wp_region_list (fun W => Below wr.heap.size wr W) (fun w w' => Below w.heap.size w w')
                        [isV (.bool true), isV (.bool true), isV (undef), isV (undef), isV (undef), isV (undef), isV (undef), isV (undef), isV (undef), isV (undef), isV (undef), isV (undef), isV (.bool true)]
                        (by kernel_rfl) (by kernel_rfl) (by kernel_rfl) (by simp) (by simp) (Below.refl _ _).drew ?stabB ?stepB ?finB
                      case stabB => exact (StabL.is (StabL.is (StabL.is (StabL.is (StabL.is (StabL.is (StabL.is (StabL.is (StabL.is (StabL.is (StabL.is (StabL.is (StabL.is StabL.nil)))))))))))))
                      case stepB =>
                        refine StepsL.isA ?_ (StepsL.isA ?_ (StepsL.isA ?_ (StepsL.isA ?_ (StepsL.isA ?_ (StepsL.isA ?_ (StepsL.isA ?_ (StepsL.isA ?_ (StepsL.isA ?_ (StepsL.isA ?_ (StepsL.isA ?_ (StepsL.isA ?_ (StepsL.isA ?_ StepsL.nil))))))))))))
                        · -- 0
                          intro vs a W K ha hC hD hU hK
                          have r16 : a.tmps[16]? = some (vs 13) := by rw [ha]; exact fillA_get0 (j := 13) (by kernel_rfl) (by rw [hsz]; decide)
                          have q13 : vs 13 = .bool true := (hU 13 _ rfl (by simp [waits, Region.binds])).trans (by rw [ha0]; kernel_rfl)
                          rw [q13] at r16
                          clear ha hU hD ha0
                          rw [if_pos (by rfl)]
                          go_simp
                          exact hK _ hC (Below.refl _ _)
                        · -- 1
                          intro vs a W K ha hC hD hU hK
                          have r160 : a.tmps[160]? = some (vs 0) := by rw [ha]; exact fillA_get0 (j := 0) (by kernel_rfl) (by rw [hsz]; decide)
                          have q0 : vs 0 = .bool true := hD 0 (by simp [waits, Region.binds])
                          rw [q0] at r160
                          clear ha hU hD ha0
                          rw [if_pos (by rfl)]
                          go_simp
                          exact hK _ hC (Below.refl _ _)
                        · -- 2
                          intro vs a W K ha hC hD hU hK
                          have r161 : a.tmps[161]? = some (vs 1) := by rw [ha]; exact fillA_get0 (j := 1) (by kernel_rfl) (by rw [hsz]; decide)
                          have q1 : vs 1 = .bool true := hD 1 (by simp [waits, Region.binds])
                          rw [q1] at r161
                          clear ha hU hD ha0
                          rw [if_neg (by simp [Region.wanted, yielded, r161, undef])]
                        · -- 3
                          intro vs a W K ha hC hD hU hK
                          have r161 : a.tmps[161]? = some (vs 1) := by rw [ha]; exact fillA_get0 (j := 1) (by kernel_rfl) (by rw [hsz]; decide)
                          have q1 : vs 1 = .bool true := hD 1 (by simp [waits, Region.binds])
                          rw [q1] at r161
                          clear ha hU hD ha0
                          rw [if_neg (by simp [Region.wanted, yielded, r161, undef])]
                        · -- 4
                          intro vs a W K ha hC hD hU hK
                          have r161 : a.tmps[161]? = some (vs 1) := by rw [ha]; exact fillA_get0 (j := 1) (by kernel_rfl) (by rw [hsz]; decide)
                          have q1 : vs 1 = .bool true := hD 1 (by simp [waits, Region.binds])
                          rw [q1] at r161
                          clear ha hU hD ha0
                          rw [if_neg (by simp [Region.wanted, yielded, r161, undef])]
                        · -- 5
                          intro vs a W K ha hC hD hU hK
                          have r161 : a.tmps[161]? = some (vs 1) := by rw [ha]; exact fillA_get0 (j := 1) (by kernel_rfl) (by rw [hsz]; decide)
                          have q1 : vs 1 = .bool true := hD 1 (by simp [waits, Region.binds])
                          rw [q1] at r161
                          clear ha hU hD ha0
                          rw [if_neg (by simp [Region.wanted, yielded, r161, undef])]
                        · -- 6
                          intro vs a W K ha hC hD hU hK
                          have r161 : a.tmps[161]? = some (vs 1) := by rw [ha]; exact fillA_get0 (j := 1) (by kernel_rfl) (by rw [hsz]; decide)
                          have q1 : vs 1 = .bool true := hD 1 (by simp [waits, Region.binds])
                          rw [q1] at r161
                          clear ha hU hD ha0
                          rw [if_neg (by simp [Region.wanted, yielded, r161, undef])]
                        · -- 7
                          intro vs a W K ha hC hD hU hK
                          have r161 : a.tmps[161]? = some (vs 1) := by rw [ha]; exact fillA_get0 (j := 1) (by kernel_rfl) (by rw [hsz]; decide)
                          have q1 : vs 1 = .bool true := hD 1 (by simp [waits, Region.binds])
                          rw [q1] at r161
                          clear ha hU hD ha0
                          rw [if_neg (by simp [Region.wanted, yielded, r161, undef])]
                        · -- 8
                          intro vs a W K ha hC hD hU hK
                          have r161 : a.tmps[161]? = some (vs 1) := by rw [ha]; exact fillA_get0 (j := 1) (by kernel_rfl) (by rw [hsz]; decide)
                          have q1 : vs 1 = .bool true := hD 1 (by simp [waits, Region.binds])
                          rw [q1] at r161
                          clear ha hU hD ha0
                          rw [if_neg (by simp [Region.wanted, yielded, r161, undef])]
                        · -- 9
                          intro vs a W K ha hC hD hU hK
                          have r161 : a.tmps[161]? = some (vs 1) := by rw [ha]; exact fillA_get0 (j := 1) (by kernel_rfl) (by rw [hsz]; decide)
                          have q1 : vs 1 = .bool true := hD 1 (by simp [waits, Region.binds])
                          rw [q1] at r161
                          clear ha hU hD ha0
                          rw [if_neg (by simp [Region.wanted, yielded, r161, undef])]
                        · -- 10
                          intro vs a W K ha hC hD hU hK
                          have r161 : a.tmps[161]? = some (vs 1) := by rw [ha]; exact fillA_get0 (j := 1) (by kernel_rfl) (by rw [hsz]; decide)
                          have q1 : vs 1 = .bool true := hD 1 (by simp [waits, Region.binds])
                          rw [q1] at r161
                          clear ha hU hD ha0
                          rw [if_neg (by simp [Region.wanted, yielded, r161, undef])]
                        · -- 11
                          intro vs a W K ha hC hD hU hK
                          have r161 : a.tmps[161]? = some (vs 1) := by rw [ha]; exact fillA_get0 (j := 1) (by kernel_rfl) (by rw [hsz]; decide)
                          have q1 : vs 1 = .bool true := hD 1 (by simp [waits, Region.binds])
                          rw [q1] at r161
                          clear ha hU hD ha0
                          rw [if_neg (by simp [Region.wanted, yielded, r161, undef])]
                        · -- 12
                          intro vs a W K ha hC hD hU hK
                          have r161 : a.tmps[161]? = some (vs 1) := by rw [ha]; exact fillA_get0 (j := 1) (by kernel_rfl) (by rw [hsz]; decide)
                          have q1 : vs 1 = .bool true := hD 1 (by simp [waits, Region.binds])
                          rw [q1] at r161
                          have r171 : a.tmps[171]? = some (vs 11) := by rw [ha]; exact fillA_get0 (j := 11) (by kernel_rfl) (by rw [hsz]; decide)
                          have q11 : vs 11 = undef := hD 11 (by simp [waits, Region.binds])
                          rw [q11] at r171
                          clear ha hU hD ha0
                          rw [if_pos (by rfl)]
                          go_simp
                          exact hK _ hC (Below.refl _ _)
                      case finB =>
                        intro vs W hC hE hU
                        rw [ha0]
                        clear hU hsz 
                        have eL : vs 12 = .bool true := hE 12 (by simp)
                        simp only [fillA, Act.put, List.setIfInBounds_toArray, List.set_cons_zero, List.set_cons_succ, Nat.zero_add, Nat.reduceAdd, eL]
                        obtain ⟨u0, hu0⟩ : ∃ v0, vs 0 = v0 := ⟨_, rfl⟩
                        obtain ⟨u1, hu1⟩ : ∃ v0, vs 1 = v0 := ⟨_, rfl⟩
                        obtain ⟨u2, hu2⟩ : ∃ v0, vs 2 = v0 := ⟨_, rfl⟩
                        obtain ⟨u3, hu3⟩ : ∃ v0, vs 3 = v0 := ⟨_, rfl⟩
                        obtain ⟨u4, hu4⟩ : ∃ v0, vs 4 = v0 := ⟨_, rfl⟩
                        obtain ⟨u5, hu5⟩ : ∃ v0, vs 5 = v0 := ⟨_, rfl⟩
                        obtain ⟨u6, hu6⟩ : ∃ v0, vs 6 = v0 := ⟨_, rfl⟩
                        obtain ⟨u7, hu7⟩ : ∃ v0, vs 7 = v0 := ⟨_, rfl⟩
                        obtain ⟨u8, hu8⟩ : ∃ v0, vs 8 = v0 := ⟨_, rfl⟩
                        obtain ⟨u9, hu9⟩ : ∃ v0, vs 9 = v0 := ⟨_, rfl⟩
                        obtain ⟨u10, hu10⟩ : ∃ v0, vs 10 = v0 := ⟨_, rfl⟩
                        obtain ⟨u11, hu11⟩ : ∃ v0, vs 11 = v0 := ⟨_, rfl⟩
                        rw [hu0, hu1, hu2, hu3, hu4, hu5, hu6, hu7, hu8, hu9, hu10, hu11]
                        clear hu0 hu1 hu2 hu3 hu4 hu5 hu6 hu7 hu8 hu9 hu10 hu11
                        have HEND : Hid (Below Wj.heap.size Wj W) := bl_call HB2.out hC (Nat.le_refl _)
                        clear hE eL hC
                        go_simp
                        go_wp2_with fail
                        go_roundw
                        case rel => exact ⟨k2 + 1, by omega, by go_num, by rw [HUS.out], HEND.out⟩
                        case measure => simp [intOf]; omega
                    | false =>
                      by_cases hyx : (ya : Int) = x
                      · have HUS : Hid (usedL P x (k2 + 1) = true) := by rw [Hid, hus, decide_eq_true hyx]; rfl
                        have hyxd : decide ((ya : Int) = x) = true := decide_eq_true hyx
                        have hyxb : ((ya : Int) == x) = true := by simpa using hyx
                        clear hus hyx
                        go_wp2_with fail
                        refine wp_frameT ?_
                        intro a0 ha0
                        have tb10 : a0.tmps[10]? = some (.slice (some ⟨bF, oF, none⟩) k kc) := by rw [ha0]; kernel_rfl
                        have tb11 : a0.tmps[11]? = some (.slice (some ⟨bE, oE, none⟩) nU ec) := by rw [ha0]; kernel_rfl
                        have tb15 : a0.tmps[15]? = some (.int .i64 (j : Int)) := by rw [ha0]; kernel_rfl
                        have tb17 : a0.tmps[17]? = some (.int .i64 (k2 : Int)) := by rw [ha0]; kernel_rfl
                        have hsz : a0.tmps.size = 192 := by rw [ha0]; kernel_rfl
                        refine wp_region_list (fun W => Below wr.heap.size wr W) (fun w w' => Below w.heap.size w w')
                          [isV (.bool false), isV (.bool false), isV (.slice (some ⟨bF, oF, none⟩) k kc), isV (.int .i64 (k2 : Int)), isV (.pointer (some ⟨bF, oF + k2 * 2, none⟩)), isV (.pointer (some ⟨bF, oF + k2 * 2, none⟩)), isV (.int .i64 (ya : Int)), isV (.slice (some ⟨bE, oE, none⟩) nU ec), isV (.int .i64 (j : Int)), isV (.pointer (some ⟨bE, oE + j, none⟩)), isV (.int .i64 x), isV (.bool true), isV (.bool true)]
                          (by kernel_rfl) (by kernel_rfl) (by kernel_rfl) (by simp) (by simp) (Below.refl _ _).drew ?stabC ?stepC ?finC
                        case stabC => exact (StabL.is (StabL.is (StabL.is (StabL.is (StabL.is (StabL.is (StabL.is (StabL.is (StabL.is (StabL.is (StabL.is (StabL.is (StabL.is StabL.nil)))))))))))))
                        case stepC =>
                          refine StepsL.isA ?_ (StepsL.isA ?_ (StepsL.isA ?_ (StepsL.isA ?_ (StepsL.isA ?_ (StepsL.isA ?_ (StepsL.isA ?_ (StepsL.isA ?_ (StepsL.isA ?_ (StepsL.isA ?_ (StepsL.isA ?_ (StepsL.isA ?_ (StepsL.isA ?_ StepsL.nil))))))))))))
                          · -- 0
                            intro vs a W K ha hC hD hU hK
                            have r16 : a.tmps[16]? = some (vs 13) := by rw [ha]; exact fillA_get0 (j := 13) (by kernel_rfl) (by rw [hsz]; decide)
                            have q13 : vs 13 = .bool false := (hU 13 _ rfl (by simp [waits, Region.binds])).trans (by rw [ha0]; kernel_rfl)
                            rw [q13] at r16
                            clear ha hU hD ha0
                            rw [if_pos (by rfl)]
                            go_simp
                            exact hK _ hC (Below.refl _ _)
                          · -- 1
                            intro vs a W K ha hC hD hU hK
                            have r160 : a.tmps[160]? = some (vs 0) := by rw [ha]; exact fillA_get0 (j := 0) (by kernel_rfl) (by rw [hsz]; decide)
                            have q0 : vs 0 = .bool false := hD 0 (by simp [waits, Region.binds])
                            rw [q0] at r160
                            clear ha hU hD ha0
                            rw [if_pos (by rfl)]
                            go_simp
                            exact hK _ hC (Below.refl _ _)
                          · -- 2
                            intro vs a W K ha hC hD hU hK
                            have r161 : a.tmps[161]? = some (vs 1) := by rw [ha]; exact fillA_get0 (j := 1) (by kernel_rfl) (by rw [hsz]; decide)
                            have q1 : vs 1 = .bool false := hD 1 (by simp [waits, Region.binds])
                            rw [q1] at r161
                            have r10 : a.tmps[10]? = some (.slice (some ⟨bF, oF, none⟩) k kc) := by rw [ha, fillA_base0 (by kernel_rfl)]; exact tb10
                            clear ha hU hD ha0
                            rw [if_pos (by simp [Region.wanted, yielded, r161])]
                            go_simp
                            exact hK _ hC (Below.refl _ _)
                          · -- 3
                            intro vs a W K ha hC hD hU hK
                            have r161 : a.tmps[161]? = some (vs 1) := by rw [ha]; exact fillA_get0 (j := 1) (by kernel_rfl) (by rw [hsz]; decide)
                            have q1 : vs 1 = .bool false := hD 1 (by simp [waits, Region.binds])
                            rw [q1] at r161
                            have r17 : a.tmps[17]? = some (.int .i64 (k2 : Int)) := by rw [ha, fillA_base0 (by kernel_rfl)]; exact tb17
                            clear ha hU hD ha0
                            rw [if_pos (by simp [Region.wanted, yielded, r161])]
                            go_simp
                            exact hK _ hC (Below.refl _ _)
                          · -- 4
                            intro vs a W K ha hC hD hU hK
                            have r161 : a.tmps[161]? = some (vs 1) := by rw [ha]; exact fillA_get0 (j := 1) (by kernel_rfl) (by rw [hsz]; decide)
                            have q1 : vs 1 = .bool false := hD 1 (by simp [waits, Region.binds])
                            rw [q1] at r161
                            have r162 : a.tmps[162]? = some (vs 2) := by rw [ha]; exact fillA_get0 (j := 2) (by kernel_rfl) (by rw [hsz]; decide)
                            have q2 : vs 2 = .slice (some ⟨bF, oF, none⟩) k kc := hD 2 (by simp [waits, Region.binds])
                            rw [q2] at r162
                            have r163 : a.tmps[163]? = some (vs 3) := by rw [ha]; exact fillA_get0 (j := 3) (by kernel_rfl) (by rw [hsz]; decide)
                            have q3 : vs 3 = .int .i64 (k2 : Int) := hD 3 (by simp [waits, Region.binds])
                            rw [q3] at r163
                            clear ha hU hD ha0
                            rw [if_pos (by simp [Region.wanted, yielded, r161])]
                            go_simp
                            exact hK _ hC (Below.refl _ _)
                          · -- 5
                            intro vs a W K ha hC hD hU hK
                            have r161 : a.tmps[161]? = some (vs 1) := by rw [ha]; exact fillA_get0 (j := 1) (by kernel_rfl) (by rw [hsz]; decide)
                            have q1 : vs 1 = .bool false := hD 1 (by simp [waits, Region.binds])
                            rw [q1] at r161
                            have r164 : a.tmps[164]? = some (vs 4) := by rw [ha]; exact fillA_get0 (j := 4) (by kernel_rfl) (by rw [hsz]; decide)
                            have q4 : vs 4 = .pointer (some ⟨bF, oF + k2 * 2, none⟩) := hD 4 (by simp [waits, Region.binds])
                            rw [q4] at r164
                            clear ha hU hD ha0
                            rw [if_pos (by simp [Region.wanted, yielded, r161])]
                            go_simp
                            exact hK _ hC (Below.refl _ _)
                          · -- 6
                            intro vs a W K ha hC hD hU hK
                            have r161 : a.tmps[161]? = some (vs 1) := by rw [ha]; exact fillA_get0 (j := 1) (by kernel_rfl) (by rw [hsz]; decide)
                            have q1 : vs 1 = .bool false := hD 1 (by simp [waits, Region.binds])
                            rw [q1] at r161
                            have r165 : a.tmps[165]? = some (vs 5) := by rw [ha]; exact fillA_get0 (j := 5) (by kernel_rfl) (by rw [hsz]; decide)
                            have q5 : vs 5 = .pointer (some ⟨bF, oF + k2 * 2, none⟩) := hD 5 (by simp [waits, Region.binds])
                            rw [q5] at r165
                            clear ha hU hD ha0
                            rw [if_pos (by simp [Region.wanted, yielded, r161])]
                            have kp := kq2.out W hC
                            have kxx := kx.out W (bl_call HB2.out hC (Nat.le_refl _))
                            go_simp
                            exact hK _ hC (Below.refl _ _)
                          · -- 7
                            intro vs a W K ha hC hD hU hK
                            have r161 : a.tmps[161]? = some (vs 1) := by rw [ha]; exact fillA_get0 (j := 1) (by kernel_rfl) (by rw [hsz]; decide)
                            have q1 : vs 1 = .bool false := hD 1 (by simp [waits, Region.binds])
                            rw [q1] at r161
                            have r11 : a.tmps[11]? = some (.slice (some ⟨bE, oE, none⟩) nU ec) := by rw [ha, fillA_base0 (by kernel_rfl)]; exact tb11
                            clear ha hU hD ha0
                            rw [if_pos (by simp [Region.wanted, yielded, r161])]
                            go_simp
                            exact hK _ hC (Below.refl _ _)
                          · -- 8
                            intro vs a W K ha hC hD hU hK
                            have r161 : a.tmps[161]? = some (vs 1) := by rw [ha]; exact fillA_get0 (j := 1) (by kernel_rfl) (by rw [hsz]; decide)
                            have q1 : vs 1 = .bool false := hD 1 (by simp [waits, Region.binds])
                            rw [q1] at r161
                            have r15 : a.tmps[15]? = some (.int .i64 (j : Int)) := by rw [ha, fillA_base0 (by kernel_rfl)]; exact tb15
                            clear ha hU hD ha0
                            rw [if_pos (by simp [Region.wanted, yielded, r161])]
                            go_simp
                            exact hK _ hC (Below.refl _ _)
                          · -- 9
                            intro vs a W K ha hC hD hU hK
                            have r161 : a.tmps[161]? = some (vs 1) := by rw [ha]; exact fillA_get0 (j := 1) (by kernel_rfl) (by rw [hsz]; decide)
                            have q1 : vs 1 = .bool false := hD 1 (by simp [waits, Region.binds])
                            rw [q1] at r161
                            have r167 : a.tmps[167]? = some (vs 7) := by rw [ha]; exact fillA_get0 (j := 7) (by kernel_rfl) (by rw [hsz]; decide)
                            have q7 : vs 7 = .slice (some ⟨bE, oE, none⟩) nU ec := hD 7 (by simp [waits, Region.binds])
                            rw [q7] at r167
                            have r168 : a.tmps[168]? = some (vs 8) := by rw [ha]; exact fillA_get0 (j := 8) (by kernel_rfl) (by rw [hsz]; decide)
                            have q8 : vs 8 = .int .i64 (j : Int) := hD 8 (by simp [waits, Region.binds])
                            rw [q8] at r168
                            clear ha hU hD ha0
                            rw [if_pos (by simp [Region.wanted, yielded, r161])]
                            go_simp
                            exact hK _ hC (Below.refl _ _)
                          · -- 10
                            intro vs a W K ha hC hD hU hK
                            have r161 : a.tmps[161]? = some (vs 1) := by rw [ha]; exact fillA_get0 (j := 1) (by kernel_rfl) (by rw [hsz]; decide)
                            have q1 : vs 1 = .bool false := hD 1 (by simp [waits, Region.binds])
                            rw [q1] at r161
                            have r169 : a.tmps[169]? = some (vs 9) := by rw [ha]; exact fillA_get0 (j := 9) (by kernel_rfl) (by rw [hsz]; decide)
                            have q9 : vs 9 = .pointer (some ⟨bE, oE + j, none⟩) := hD 9 (by simp [waits, Region.binds])
                            rw [q9] at r169
                            clear ha hU hD ha0
                            rw [if_pos (by simp [Region.wanted, yielded, r161])]
                            have kp := kq2.out W hC
                            have kxx := kx.out W (bl_call HB2.out hC (Nat.le_refl _))
                            go_simp
                            exact hK _ hC (Below.refl _ _)
                          · -- 11
                            intro vs a W K ha hC hD hU hK
                            have r161 : a.tmps[161]? = some (vs 1) := by rw [ha]; exact fillA_get0 (j := 1) (by kernel_rfl) (by rw [hsz]; decide)
                            have q1 : vs 1 = .bool false := hD 1 (by simp [waits, Region.binds])
                            rw [q1] at r161
                            have r166 : a.tmps[166]? = some (vs 6) := by rw [ha]; exact fillA_get0 (j := 6) (by kernel_rfl) (by rw [hsz]; decide)
                            have q6 : vs 6 = .int .i64 (ya : Int) := hD 6 (by simp [waits, Region.binds])
                            rw [q6] at r166
                            have r170 : a.tmps[170]? = some (vs 10) := by rw [ha]; exact fillA_get0 (j := 10) (by kernel_rfl) (by rw [hsz]; decide)
                            have q10 : vs 10 = .int .i64 x := hD 10 (by simp [waits, Region.binds])
                            rw [q10] at r170
                            clear ha hU hD ha0
                            rw [if_pos (by simp [Region.wanted, yielded, r161])]
                            go_simp
                            exact hK _ hC (Below.refl _ _)
                          · -- 12
                            intro vs a W K ha hC hD hU hK
                            have r161 : a.tmps[161]? = some (vs 1) := by rw [ha]; exact fillA_get0 (j := 1) (by kernel_rfl) (by rw [hsz]; decide)
                            have q1 : vs 1 = .bool false := hD 1 (by simp [waits, Region.binds])
                            rw [q1] at r161
                            have r171 : a.tmps[171]? = some (vs 11) := by rw [ha]; exact fillA_get0 (j := 11) (by kernel_rfl) (by rw [hsz]; decide)
                            have q11 : vs 11 = .bool true := hD 11 (by simp [waits, Region.binds])
                            rw [q11] at r171
                            clear ha hU hD ha0
                            rw [if_pos (by rfl)]
                            go_simp
                            exact hK _ hC (Below.refl _ _)
                        case finC =>
                          intro vs W hC hE hU
                          rw [ha0]
                          clear hU hsz tb10 tb11 tb15 tb17
                          have eL : vs 12 = .bool true := hE 12 (by simp)
                          simp only [fillA, Act.put, List.setIfInBounds_toArray, List.set_cons_zero, List.set_cons_succ, Nat.zero_add, Nat.reduceAdd, eL]
                          obtain ⟨u0, hu0⟩ : ∃ v0, vs 0 = v0 := ⟨_, rfl⟩
                          obtain ⟨u1, hu1⟩ : ∃ v0, vs 1 = v0 := ⟨_, rfl⟩
                          obtain ⟨u2, hu2⟩ : ∃ v0, vs 2 = v0 := ⟨_, rfl⟩
                          obtain ⟨u3, hu3⟩ : ∃ v0, vs 3 = v0 := ⟨_, rfl⟩
                          obtain ⟨u4, hu4⟩ : ∃ v0, vs 4 = v0 := ⟨_, rfl⟩
                          obtain ⟨u5, hu5⟩ : ∃ v0, vs 5 = v0 := ⟨_, rfl⟩
                          obtain ⟨u6, hu6⟩ : ∃ v0, vs 6 = v0 := ⟨_, rfl⟩
                          obtain ⟨u7, hu7⟩ : ∃ v0, vs 7 = v0 := ⟨_, rfl⟩
                          obtain ⟨u8, hu8⟩ : ∃ v0, vs 8 = v0 := ⟨_, rfl⟩
                          obtain ⟨u9, hu9⟩ : ∃ v0, vs 9 = v0 := ⟨_, rfl⟩
                          obtain ⟨u10, hu10⟩ : ∃ v0, vs 10 = v0 := ⟨_, rfl⟩
                          obtain ⟨u11, hu11⟩ : ∃ v0, vs 11 = v0 := ⟨_, rfl⟩
                          rw [hu0, hu1, hu2, hu3, hu4, hu5, hu6, hu7, hu8, hu9, hu10, hu11]
                          clear hu0 hu1 hu2 hu3 hu4 hu5 hu6 hu7 hu8 hu9 hu10 hu11
                          have HEND : Hid (Below Wj.heap.size Wj W) := bl_call HB2.out hC (Nat.le_refl _)
                          clear hE eL hC
                          go_simp
                          go_wp2_with fail
                          go_roundw
                          case rel => exact ⟨k2 + 1, by omega, by go_num, by rw [HUS.out], HEND.out⟩
                          case measure => simp [intOf]; omega
                      · have HUS : Hid (usedL P x (k2 + 1) = false) := by rw [Hid, hus, decide_eq_false hyx]; rfl
                        have hyxd : decide ((ya : Int) = x) = false := decide_eq_false hyx
                        have hyxb : ((ya : Int) == x) = false := by simpa using hyx
                        clear hus
                        go_wp2_with fail
                        refine wp_frameT ?_
                        intro a0 ha0
                        have tb10 : a0.tmps[10]? = some (.slice (some ⟨bF, oF, none⟩) k kc) := by rw [ha0]; kernel_rfl
                        have tb11 : a0.tmps[11]? = some (.slice (some ⟨bE, oE, none⟩) nU ec) := by rw [ha0]; kernel_rfl
                        have tb15 : a0.tmps[15]? = some (.int .i64 (j : Int)) := by rw [ha0]; kernel_rfl
                        have tb17 : a0.tmps[17]? = some (.int .i64 (k2 : Int)) := by rw [ha0]; kernel_rfl
                        have hsz : a0.tmps.size = 192 := by rw [ha0]; kernel_rfl
                        refine wp_region_list (fun W => Below wr.heap.size wr W) (fun w w' => Below w.heap.size w w')
                          [isV (.bool false), isV (.bool false), isV (.slice (some ⟨bF, oF, none⟩) k kc), isV (.int .i64 (k2 : Int)), isV (.pointer (some ⟨bF, oF + k2 * 2, none⟩)), isV (.pointer (some ⟨bF, oF + k2 * 2, none⟩)), isV (.int .i64 (ya : Int)), isV (.slice (some ⟨bE, oE, none⟩) nU ec), isV (.int .i64 (j : Int)), isV (.pointer (some ⟨bE, oE + j, none⟩)), isV (.int .i64 x), isV (.bool false), isV (.bool false)]
                          (by kernel_rfl) (by kernel_rfl) (by kernel_rfl) (by simp) (by simp) (Below.refl _ _).drew ?stabD ?stepD ?finD
                        case stabD => exact (StabL.is (StabL.is (StabL.is (StabL.is (StabL.is (StabL.is (StabL.is (StabL.is (StabL.is (StabL.is (StabL.is (StabL.is (StabL.is StabL.nil)))))))))))))
                        case stepD =>
                          refine StepsL.isA ?_ (StepsL.isA ?_ (StepsL.isA ?_ (StepsL.isA ?_ (StepsL.isA ?_ (StepsL.isA ?_ (StepsL.isA ?_ (StepsL.isA ?_ (StepsL.isA ?_ (StepsL.isA ?_ (StepsL.isA ?_ (StepsL.isA ?_ (StepsL.isA ?_ StepsL.nil))))))))))))
                          · -- 0
                            intro vs a W K ha hC hD hU hK
                            have r16 : a.tmps[16]? = some (vs 13) := by rw [ha]; exact fillA_get0 (j := 13) (by kernel_rfl) (by rw [hsz]; decide)
                            have q13 : vs 13 = .bool false := (hU 13 _ rfl (by simp [waits, Region.binds])).trans (by rw [ha0]; kernel_rfl)
                            rw [q13] at r16
                            clear ha hU hD ha0
                            rw [if_pos (by rfl)]
                            go_simp
                            exact hK _ hC (Below.refl _ _)
                          · -- 1
                            intro vs a W K ha hC hD hU hK
                            have r160 : a.tmps[160]? = some (vs 0) := by rw [ha]; exact fillA_get0 (j := 0) (by kernel_rfl) (by rw [hsz]; decide)
                            have q0 : vs 0 = .bool false := hD 0 (by simp [waits, Region.binds])
                            rw [q0] at r160
                            clear ha hU hD ha0
                            rw [if_pos (by rfl)]
                            go_simp
                            exact hK _ hC (Below.refl _ _)
                          · -- 2
                            intro vs a W K ha hC hD hU hK
                            have r161 : a.tmps[161]? = some (vs 1) := by rw [ha]; exact fillA_get0 (j := 1) (by kernel_rfl) (by rw [hsz]; decide)
                            have q1 : vs 1 = .bool false := hD 1 (by simp [waits, Region.binds])
                            rw [q1] at r161
                            have r10 : a.tmps[10]? = some (.slice (some ⟨bF, oF, none⟩) k kc) := by rw [ha, fillA_base0 (by kernel_rfl)]; exact tb10
                            clear ha hU hD ha0
                            rw [if_pos (by simp [Region.wanted, yielded, r161])]
                            go_simp
                            exact hK _ hC (Below.refl _ _)
                          · -- 3
                            intro vs a W K ha hC hD hU hK
                            have r161 : a.tmps[161]? = some (vs 1) := by rw [ha]; exact fillA_get0 (j := 1) (by kernel_rfl) (by rw [hsz]; decide)
                            have q1 : vs 1 = .bool false := hD 1 (by simp [waits, Region.binds])
                            rw [q1] at r161
                            have r17 : a.tmps[17]? = some (.int .i64 (k2 : Int)) := by rw [ha, fillA_base0 (by kernel_rfl)]; exact tb17
                            clear ha hU hD ha0
                            rw [if_pos (by simp [Region.wanted, yielded, r161])]
                            go_simp
                            exact hK _ hC (Below.refl _ _)
                          · -- 4
                            intro vs a W K ha hC hD hU hK
                            have r161 : a.tmps[161]? = some (vs 1) := by rw [ha]; exact fillA_get0 (j := 1) (by kernel_rfl) (by rw [hsz]; decide)
                            have q1 : vs 1 = .bool false := hD 1 (by simp [waits, Region.binds])
                            rw [q1] at r161
                            have r162 : a.tmps[162]? = some (vs 2) := by rw [ha]; exact fillA_get0 (j := 2) (by kernel_rfl) (by rw [hsz]; decide)
                            have q2 : vs 2 = .slice (some ⟨bF, oF, none⟩) k kc := hD 2 (by simp [waits, Region.binds])
                            rw [q2] at r162
                            have r163 : a.tmps[163]? = some (vs 3) := by rw [ha]; exact fillA_get0 (j := 3) (by kernel_rfl) (by rw [hsz]; decide)
                            have q3 : vs 3 = .int .i64 (k2 : Int) := hD 3 (by simp [waits, Region.binds])
                            rw [q3] at r163
                            clear ha hU hD ha0
                            rw [if_pos (by simp [Region.wanted, yielded, r161])]
                            go_simp
                            exact hK _ hC (Below.refl _ _)
                          · -- 5
                            intro vs a W K ha hC hD hU hK
                            have r161 : a.tmps[161]? = some (vs 1) := by rw [ha]; exact fillA_get0 (j := 1) (by kernel_rfl) (by rw [hsz]; decide)
                            have q1 : vs 1 = .bool false := hD 1 (by simp [waits, Region.binds])
                            rw [q1] at r161
                            have r164 : a.tmps[164]? = some (vs 4) := by rw [ha]; exact fillA_get0 (j := 4) (by kernel_rfl) (by rw [hsz]; decide)
                            have q4 : vs 4 = .pointer (some ⟨bF, oF + k2 * 2, none⟩) := hD 4 (by simp [waits, Region.binds])
                            rw [q4] at r164
                            clear ha hU hD ha0
                            rw [if_pos (by simp [Region.wanted, yielded, r161])]
                            go_simp
                            exact hK _ hC (Below.refl _ _)
                          · -- 6
                            intro vs a W K ha hC hD hU hK
                            have r161 : a.tmps[161]? = some (vs 1) := by rw [ha]; exact fillA_get0 (j := 1) (by kernel_rfl) (by rw [hsz]; decide)
                            have q1 : vs 1 = .bool false := hD 1 (by simp [waits, Region.binds])
                            rw [q1] at r161
                            have r165 : a.tmps[165]? = some (vs 5) := by rw [ha]; exact fillA_get0 (j := 5) (by kernel_rfl) (by rw [hsz]; decide)
                            have q5 : vs 5 = .pointer (some ⟨bF, oF + k2 * 2, none⟩) := hD 5 (by simp [waits, Region.binds])
                            rw [q5] at r165
                            clear ha hU hD ha0
                            rw [if_pos (by simp [Region.wanted, yielded, r161])]
                            have kp := kq2.out W hC
                            have kxx := kx.out W (bl_call HB2.out hC (Nat.le_refl _))
                            go_simp
                            exact hK _ hC (Below.refl _ _)
                          · -- 7
                            intro vs a W K ha hC hD hU hK
                            have r161 : a.tmps[161]? = some (vs 1) := by rw [ha]; exact fillA_get0 (j := 1) (by kernel_rfl) (by rw [hsz]; decide)
                            have q1 : vs 1 = .bool false := hD 1 (by simp [waits, Region.binds])
                            rw [q1] at r161
                            have r11 : a.tmps[11]? = some (.slice (some ⟨bE, oE, none⟩) nU ec) := by rw [ha, fillA_base0 (by kernel_rfl)]; exact tb11
                            clear ha hU hD ha0
                            rw [if_pos (by simp [Region.wanted, yielded, r161])]
                            go_simp
                            exact hK _ hC (Below.refl _ _)
                          · -- 8
                            intro vs a W K ha hC hD hU hK
                            have r161 : a.tmps[161]? = some (vs 1) := by rw [ha]; exact fillA_get0 (j := 1) (by kernel_rfl) (by rw [hsz]; decide)
                            have q1 : vs 1 = .bool false := hD 1 (by simp [waits, Region.binds])
                            rw [q1] at r161
                            have r15 : a.tmps[15]? = some (.int .i64 (j : Int)) := by rw [ha, fillA_base0 (by kernel_rfl)]; exact tb15
                            clear ha hU hD ha0
                            rw [if_pos (by simp [Region.wanted, yielded, r161])]
                            go_simp
                            exact hK _ hC (Below.refl _ _)
                          · -- 9
                            intro vs a W K ha hC hD hU hK
                            have r161 : a.tmps[161]? = some (vs 1) := by rw [ha]; exact fillA_get0 (j := 1) (by kernel_rfl) (by rw [hsz]; decide)
                            have q1 : vs 1 = .bool false := hD 1 (by simp [waits, Region.binds])
                            rw [q1] at r161
                            have r167 : a.tmps[167]? = some (vs 7) := by rw [ha]; exact fillA_get0 (j := 7) (by kernel_rfl) (by rw [hsz]; decide)
                            have q7 : vs 7 = .slice (some ⟨bE, oE, none⟩) nU ec := hD 7 (by simp [waits, Region.binds])
                            rw [q7] at r167
                            have r168 : a.tmps[168]? = some (vs 8) := by rw [ha]; exact fillA_get0 (j := 8) (by kernel_rfl) (by rw [hsz]; decide)
                            have q8 : vs 8 = .int .i64 (j : Int) := hD 8 (by simp [waits, Region.binds])
                            rw [q8] at r168
                            clear ha hU hD ha0
                            rw [if_pos (by simp [Region.wanted, yielded, r161])]
                            go_simp
                            exact hK _ hC (Below.refl _ _)
                          · -- 10
                            intro vs a W K ha hC hD hU hK
                            have r161 : a.tmps[161]? = some (vs 1) := by rw [ha]; exact fillA_get0 (j := 1) (by kernel_rfl) (by rw [hsz]; decide)
                            have q1 : vs 1 = .bool false := hD 1 (by simp [waits, Region.binds])
                            rw [q1] at r161
                            have r169 : a.tmps[169]? = some (vs 9) := by rw [ha]; exact fillA_get0 (j := 9) (by kernel_rfl) (by rw [hsz]; decide)
                            have q9 : vs 9 = .pointer (some ⟨bE, oE + j, none⟩) := hD 9 (by simp [waits, Region.binds])
                            rw [q9] at r169
                            clear ha hU hD ha0
                            rw [if_pos (by simp [Region.wanted, yielded, r161])]
                            have kp := kq2.out W hC
                            have kxx := kx.out W (bl_call HB2.out hC (Nat.le_refl _))
                            go_simp
                            exact hK _ hC (Below.refl _ _)
                          · -- 11
                            intro vs a W K ha hC hD hU hK
                            have r161 : a.tmps[161]? = some (vs 1) := by rw [ha]; exact fillA_get0 (j := 1) (by kernel_rfl) (by rw [hsz]; decide)
                            have q1 : vs 1 = .bool false := hD 1 (by simp [waits, Region.binds])
                            rw [q1] at r161
                            have r166 : a.tmps[166]? = some (vs 6) := by rw [ha]; exact fillA_get0 (j := 6) (by kernel_rfl) (by rw [hsz]; decide)
                            have q6 : vs 6 = .int .i64 (ya : Int) := hD 6 (by simp [waits, Region.binds])
                            rw [q6] at r166
                            have r170 : a.tmps[170]? = some (vs 10) := by rw [ha]; exact fillA_get0 (j := 10) (by kernel_rfl) (by rw [hsz]; decide)
                            have q10 : vs 10 = .int .i64 x := hD 10 (by simp [waits, Region.binds])
                            rw [q10] at r170
                            clear ha hU hD ha0
                            rw [if_pos (by simp [Region.wanted, yielded, r161])]
                            go_simp
                            exact hK _ hC (Below.refl _ _)
                          · -- 12
                            intro vs a W K ha hC hD hU hK
                            have r161 : a.tmps[161]? = some (vs 1) := by rw [ha]; exact fillA_get0 (j := 1) (by kernel_rfl) (by rw [hsz]; decide)
                            have q1 : vs 1 = .bool false := hD 1 (by simp [waits, Region.binds])
                            rw [q1] at r161
                            have r171 : a.tmps[171]? = some (vs 11) := by rw [ha]; exact fillA_get0 (j := 11) (by kernel_rfl) (by rw [hsz]; decide)
                            have q11 : vs 11 = .bool false := hD 11 (by simp [waits, Region.binds])
                            rw [q11] at r171
                            clear ha hU hD ha0
                            rw [if_pos (by rfl)]
                            go_simp
                            exact hK _ hC (Below.refl _ _)
                        case finD =>
                          intro vs W hC hE hU
                          rw [ha0]
                          clear hU hsz tb10 tb11 tb15 tb17
                          have eL : vs 12 = .bool false := hE 12 (by simp)
                          simp only [fillA, Act.put, List.setIfInBounds_toArray, List.set_cons_zero, List.set_cons_succ, Nat.zero_add, Nat.reduceAdd, eL]
                          obtain ⟨u0, hu0⟩ : ∃ v0, vs 0 = v0 := ⟨_, rfl⟩
                          obtain ⟨u1, hu1⟩ : ∃ v0, vs 1 = v0 := ⟨_, rfl⟩
                          obtain ⟨u2, hu2⟩ : ∃ v0, vs 2 = v0 := ⟨_, rfl⟩
                          obtain ⟨u3, hu3⟩ : ∃ v0, vs 3 = v0 := ⟨_, rfl⟩
                          obtain ⟨u4, hu4⟩ : ∃ v0, vs 4 = v0 := ⟨_, rfl⟩
                          obtain ⟨u5, hu5⟩ : ∃ v0, vs 5 = v0 := ⟨_, rfl⟩
                          obtain ⟨u6, hu6⟩ : ∃ v0, vs 6 = v0 := ⟨_, rfl⟩
                          obtain ⟨u7, hu7⟩ : ∃ v0, vs 7 = v0 := ⟨_, rfl⟩
                          obtain ⟨u8, hu8⟩ : ∃ v0, vs 8 = v0 := ⟨_, rfl⟩
                          obtain ⟨u9, hu9⟩ : ∃ v0, vs 9 = v0 := ⟨_, rfl⟩
                          obtain ⟨u10, hu10⟩ : ∃ v0, vs 10 = v0 := ⟨_, rfl⟩
                          obtain ⟨u11, hu11⟩ : ∃ v0, vs 11 = v0 := ⟨_, rfl⟩
                          rw [hu0, hu1, hu2, hu3, hu4, hu5, hu6, hu7, hu8, hu9, hu10, hu11]
                          clear hu0 hu1 hu2 hu3 hu4 hu5 hu6 hu7 hu8 hu9 hu10 hu11
                          have HEND : Hid (Below Wj.heap.size Wj W) := bl_call HB2.out hC (Nat.le_refl _)
                          clear hE eL hC
                          go_simp
                          go_wp2_with fail
                          go_roundw
                          case rel => exact ⟨k2 + 1, by omega, by go_num, by rw [HUS.out], HEND.out⟩
                          case measure => simp [intOf]; omega
                  · obtain rfl : k2 = k := by omega
                    have hki2 : ¬ (k2 : Int) < k2 := by omega
                    clear hl2
                    rw [usedL_all HKL.out HXU.out]
                    have HBend : Hid (Below Wn.heap.size Wn wr) := bl_call HBj.out HB2.out (Nat.le_refl _)
                    rcases Nat.eq_zero_or_pos j with hj0 | hjp
                    · subst hj0
                      go_wp2_with fail
                      refine wp_frameT ?_
                      intro a0 ha0
                      have tb15 : a0.tmps[15]? = some (.int .i64 ((0 : Nat) : Int)) := by rw [ha0]; kernel_rfl
                      have tb16 : a0.tmps[16]? = some (.bool true) := by rw [ha0]; kernel_rfl
                      have hsz : a0.tmps.size = 192 := by rw [ha0]; kernel_rfl
                      refine wp_region_list (fun W => Below wr.heap.size wr W) (fun w w' => Below w.heap.size w w')
                        [isV (.bool true), isV (.bool false), isV (.bool false), isV (.int .i64 ((0 : Nat) : Int)), isV (.bool false), isV (.bool false), isV (undef), isV (undef), isV (undef), isV (undef), isV (undef), isV (undef), isV (undef), isV (undef), isV (undef), isV (undef), isV (.bool false), isV (.bool false)]
                        (by kernel_rfl) (by kernel_rfl) (by kernel_rfl) (by simp) (by simp) (Below.refl _ _).drew ?stabE ?stepE ?finE
                      case stabE => exact (StabL.is (StabL.is (StabL.is (StabL.is (StabL.is (StabL.is (StabL.is (StabL.is (StabL.is (StabL.is (StabL.is (StabL.is (StabL.is (StabL.is (StabL.is (StabL.is (StabL.is (StabL.is StabL.nil))))))))))))))))))
                      case stepE =>
                        refine StepsL.isA ?_ (StepsL.isA ?_ (StepsL.isA ?_ (StepsL.isA ?_ (StepsL.isA ?_ (StepsL.isA ?_ (StepsL.isA ?_ (StepsL.isA ?_ (StepsL.isA ?_ (StepsL.isA ?_ (StepsL.isA ?_ (StepsL.isA ?_ (StepsL.isA ?_ (StepsL.isA ?_ (StepsL.isA ?_ (StepsL.isA ?_ (StepsL.isA ?_ (StepsL.isA ?_ StepsL.nil)))))))))))))))))
                        · -- 0
                          intro vs a W K ha hC hD hU hK
                          have r16 : a.tmps[16]? = some (.bool true) := by rw [ha, fillA_base0 (by kernel_rfl)]; exact tb16
                          clear ha hU hD ha0
                          rw [if_pos (by rfl)]
                          go_simp
                          exact hK _ hC (Below.refl _ _)
                        · -- 1
                          intro vs a W K ha hC hD hU hK
                          have r173 : a.tmps[173]? = some (vs 0) := by rw [ha]; exact fillA_get0 (j := 0) (by kernel_rfl) (by rw [hsz]; decide)
                          have q0 : vs 0 = .bool true := hD 0 (by simp [waits, Region.binds])
                          rw [q0] at r173
                          clear ha hU hD ha0
                          rw [if_pos (by rfl)]
                          go_simp
                          exact hK _ hC (Below.refl _ _)
                        · -- 2
                          intro vs a W K ha hC hD hU hK
                          have r174 : a.tmps[174]? = some (vs 1) := by rw [ha]; exact fillA_get0 (j := 1) (by kernel_rfl) (by rw [hsz]; decide)
                          have q1 : vs 1 = .bool false := hD 1 (by simp [waits, Region.binds])
                          rw [q1] at r174
                          clear ha hU hD ha0
                          rw [if_pos (by rfl)]
                          go_simp
                          exact hK _ hC (Below.refl _ _)
                        · -- 3
                          intro vs a W K ha hC hD hU hK
                          have r175 : a.tmps[175]? = some (vs 2) := by rw [ha]; exact fillA_get0 (j := 2) (by kernel_rfl) (by rw [hsz]; decide)
                          have q2 : vs 2 = .bool false := hD 2 (by simp [waits, Region.binds])
                          rw [q2] at r175
                          have r15 : a.tmps[15]? = some (.int .i64 ((0 : Nat) : Int)) := by rw [ha, fillA_base0 (by kernel_rfl)]; exact tb15
                          clear ha hU hD ha0
                          rw [if_pos (by simp [Region.wanted, yielded, r175])]
                          go_simp
                          exact hK _ hC (Below.refl _ _)
                        · -- 4
                          intro vs a W K ha hC hD hU hK
                          have r175 : a.tmps[175]? = some (vs 2) := by rw [ha]; exact fillA_get0 (j := 2) (by kernel_rfl) (by rw [hsz]; decide)
                          have q2 : vs 2 = .bool false := hD 2 (by simp [waits, Region.binds])
                          rw [q2] at r175
                          have r176 : a.tmps[176]? = some (vs 3) := by rw [ha]; exact fillA_get0 (j := 3) (by kernel_rfl) (by rw [hsz]; decide)
                          have q3 : vs 3 = .int .i64 ((0 : Nat) : Int) := hD 3 (by simp [waits, Region.binds])
                          rw [q3] at r176
                          clear ha hU hD ha0
                          rw [if_pos (by simp [Region.wanted, yielded, r175])]
                          go_simp
                          exact hK _ hC (Below.refl _ _)
                        · -- 5
                          intro vs a W K ha hC hD hU hK
                          have r175 : a.tmps[175]? = some (vs 2) := by rw [ha]; exact fillA_get0 (j := 2) (by kernel_rfl) (by rw [hsz]; decide)
                          have q2 : vs 2 = .bool false := hD 2 (by simp [waits, Region.binds])
                          rw [q2] at r175
                          have r177 : a.tmps[177]? = some (vs 4) := by rw [ha]; exact fillA_get0 (j := 4) (by kernel_rfl) (by rw [hsz]; decide)
                          have q4 : vs 4 = .bool false := hD 4 (by simp [waits, Region.binds])
                          rw [q4] at r177
                          clear ha hU hD ha0
                          rw [if_pos (by simp [Region.wanted, yielded, r175])]
                          go_simp
                          exact hK _ hC (Below.refl _ _)
                        · -- 6
                          intro vs a W K ha hC hD hU hK
                          have r178 : a.tmps[178]? = some (vs 5) := by rw [ha]; exact fillA_get0 (j := 5) (by kernel_rfl) (by rw [hsz]; decide)
                          have q5 : vs 5 = .bool false := hD 5 (by simp [waits, Region.binds])
                          rw [q5] at r178
                          clear ha hU hD ha0
                          rw [if_neg (by simp [Region.wanted, yielded, r178, undef])]
                        · -- 7
                          intro vs a W K ha hC hD hU hK
                          have r178 : a.tmps[178]? = some (vs 5) := by rw [ha]; exact fillA_get0 (j := 5) (by kernel_rfl) (by rw [hsz]; decide)
                          have q5 : vs 5 = .bool false := hD 5 (by simp [waits, Region.binds])
                          rw [q5] at r178
                          clear ha hU hD ha0
                          rw [if_neg (by simp [Region.wanted, yielded, r178, undef])]
                        · -- 8
                          intro vs a W K ha hC hD hU hK
                          have r178 : a.tmps[178]? = some (vs 5) := by rw [ha]; exact fillA_get0 (j := 5) (by kernel_rfl) (by rw [hsz]; decide)
                          have q5 : vs 5 = .bool false := hD 5 (by simp [waits, Region.binds])
                          rw [q5] at r178
                          clear ha hU hD ha0
                          rw [if_neg (by simp [Region.wanted, yielded, r178, undef])]
                        · -- 9
                          intro vs a W K ha hC hD hU hK
                          have r178 : a.tmps[178]? = some (vs 5) := by rw [ha]; exact fillA_get0 (j := 5) (by kernel_rfl) (by rw [hsz]; decide)
                          have q5 : vs 5 = .bool false := hD 5 (by simp [waits, Region.binds])
                          rw [q5] at r178
                          clear ha hU hD ha0
                          rw [if_neg (by simp [Region.wanted, yielded, r178, undef])]
                        · -- 10
                          intro vs a W K ha hC hD hU hK
                          have r178 : a.tmps[178]? = some (vs 5) := by rw [ha]; exact fillA_get0 (j := 5) (by kernel_rfl) (by rw [hsz]; decide)
                          have q5 : vs 5 = .bool false := hD 5 (by simp [waits, Region.binds])
                          rw [q5] at r178
                          clear ha hU hD ha0
                          rw [if_neg (by simp [Region.wanted, yielded, r178, undef])]
                        · -- 11
                          intro vs a W K ha hC hD hU hK
                          have r178 : a.tmps[178]? = some (vs 5) := by rw [ha]; exact fillA_get0 (j := 5) (by kernel_rfl) (by rw [hsz]; decide)
                          have q5 : vs 5 = .bool false := hD 5 (by simp [waits, Region.binds])
                          rw [q5] at r178
                          clear ha hU hD ha0
                          rw [if_neg (by simp [Region.wanted, yielded, r178, undef])]
                        · -- 12
                          intro vs a W K ha hC hD hU hK
                          have r178 : a.tmps[178]? = some (vs 5) := by rw [ha]; exact fillA_get0 (j := 5) (by kernel_rfl) (by rw [hsz]; decide)
                          have q5 : vs 5 = .bool false := hD 5 (by simp [waits, Region.binds])
                          rw [q5] at r178
                          clear ha hU hD ha0
                          rw [if_neg (by simp [Region.wanted, yielded, r178, undef])]
                        · -- 13
                          intro vs a W K ha hC hD hU hK
                          have r178 : a.tmps[178]? = some (vs 5) := by rw [ha]; exact fillA_get0 (j := 5) (by kernel_rfl) (by rw [hsz]; decide)
                          have q5 : vs 5 = .bool false := hD 5 (by simp [waits, Region.binds])
                          rw [q5] at r178
                          clear ha hU hD ha0
                          rw [if_neg (by simp [Region.wanted, yielded, r178, undef])]
                        · -- 14
                          intro vs a W K ha hC hD hU hK
                          have r178 : a.tmps[178]? = some (vs 5) := by rw [ha]; exact fillA_get0 (j := 5) (by kernel_rfl) (by rw [hsz]; decide)
                          have q5 : vs 5 = .bool false := hD 5 (by simp [waits, Region.binds])
                          rw [q5] at r178
                          clear ha hU hD ha0
                          rw [if_neg (by simp [Region.wanted, yielded, r178, undef])]
                        · -- 15
                          intro vs a W K ha hC hD hU hK
                          have r178 : a.tmps[178]? = some (vs 5) := by rw [ha]; exact fillA_get0 (j := 5) (by kernel_rfl) (by rw [hsz]; decide)
                          have q5 : vs 5 = .bool false := hD 5 (by simp [waits, Region.binds])
                          rw [q5] at r178
                          clear ha hU hD ha0
                          rw [if_neg (by simp [Region.wanted, yielded, r178, undef])]
                        · -- 16
                          intro vs a W K ha hC hD hU hK
                          have r175 : a.tmps[175]? = some (vs 2) := by rw [ha]; exact fillA_get0 (j := 2) (by kernel_rfl) (by rw [hsz]; decide)
                          have q2 : vs 2 = .bool false := hD 2 (by simp [waits, Region.binds])
                          rw [q2] at r175
                          have r178 : a.tmps[178]? = some (vs 5) := by rw [ha]; exact fillA_get0 (j := 5) (by kernel_rfl) (by rw [hsz]; decide)
                          have q5 : vs 5 = .bool false := hD 5 (by simp [waits, Region.binds])
                          rw [q5] at r178
                          have r188 : a.tmps[188]? = some (vs 15) := by rw [ha]; exact fillA_get0 (j := 15) (by kernel_rfl) (by rw [hsz]; decide)
                          have q15 : vs 15 = undef := hD 15 (by simp [waits, Region.binds])
                          rw [q15] at r188
                          clear ha hU hD ha0
                          rw [if_pos (by simp [Region.wanted, yielded, r175])]
                          go_simp
                          exact hK _ hC (Below.refl _ _)
                        · -- 17
                          intro vs a W K ha hC hD hU hK
                          have r175 : a.tmps[175]? = some (vs 2) := by rw [ha]; exact fillA_get0 (j := 2) (by kernel_rfl) (by rw [hsz]; decide)
                          have q2 : vs 2 = .bool false := hD 2 (by simp [waits, Region.binds])
                          rw [q2] at r175
                          have r189 : a.tmps[189]? = some (vs 16) := by rw [ha]; exact fillA_get0 (j := 16) (by kernel_rfl) (by rw [hsz]; decide)
                          have q16 : vs 16 = .bool false := hD 16 (by simp [waits, Region.binds])
                          rw [q16] at r189
                          clear ha hU hD ha0
                          rw [if_pos (by rfl)]
                          go_simp
                          exact hK _ hC (Below.refl _ _)
                      case finE =>
                        refine Fin1.none (Nat.le_refl _) ?_
                        intro vs W a1 hC hE ha
                        have eL : vs 17 = .bool false := hE 17 (by simp)
                        rw [ha, ha0]
                        clear ha ha0 hsz tb15 tb16
                        simp only [fillA, Act.put, List.setIfInBounds_toArray, List.set_cons_zero, List.set_cons_succ, Nat.zero_add, Nat.reduceAdd, eL]
                        obtain ⟨u0, hu0⟩ : ∃ v0, vs 0 = v0 := ⟨_, rfl⟩
                        obtain ⟨u1, hu1⟩ : ∃ v0, vs 1 = v0 := ⟨_, rfl⟩
                        obtain ⟨u2, hu2⟩ : ∃ v0, vs 2 = v0 := ⟨_, rfl⟩
                        obtain ⟨u3, hu3⟩ : ∃ v0, vs 3 = v0 := ⟨_, rfl⟩
                        obtain ⟨u4, hu4⟩ : ∃ v0, vs 4 = v0 := ⟨_, rfl⟩
                        obtain ⟨u5, hu5⟩ : ∃ v0, vs 5 = v0 := ⟨_, rfl⟩
                        obtain ⟨u6, hu6⟩ : ∃ v0, vs 6 = v0 := ⟨_, rfl⟩
                        obtain ⟨u7, hu7⟩ : ∃ v0, vs 7 = v0 := ⟨_, rfl⟩
                        obtain ⟨u8, hu8⟩ : ∃ v0, vs 8 = v0 := ⟨_, rfl⟩
                        obtain ⟨u9, hu9⟩ : ∃ v0, vs 9 = v0 := ⟨_, rfl⟩
                        obtain ⟨u10, hu10⟩ : ∃ v0, vs 10 = v0 := ⟨_, rfl⟩
                        obtain ⟨u11, hu11⟩ : ∃ v0, vs 11 = v0 := ⟨_, rfl⟩
                        obtain ⟨u12, hu12⟩ : ∃ v0, vs 12 = v0 := ⟨_, rfl⟩
                        obtain ⟨u13, hu13⟩ : ∃ v0, vs 13 = v0 := ⟨_, rfl⟩
                        obtain ⟨u14, hu14⟩ : ∃ v0, vs 14 = v0 := ⟨_, rfl⟩
                        obtain ⟨u15, hu15⟩ : ∃ v0, vs 15 = v0 := ⟨_, rfl⟩
                        obtain ⟨u16, hu16⟩ : ∃ v0, vs 16 = v0 := ⟨_, rfl⟩
                        rw [hu0, hu1, hu2, hu3, hu4, hu5, hu6, hu7, hu8, hu9, hu10, hu11, hu12, hu13, hu14, hu15, hu16]
                        clear hu0 hu1 hu2 hu3 hu4 hu5 hu6 hu7 hu8 hu9 hu10 hu11 hu12 hu13 hu14 hu15 hu16
                        have HEND : Hid (Below Wn.heap.size Wn W) := bl_call HBend.out hC (Nat.le_refl _)
                        clear hE eL hC
                        go_wp2_with fail
                        go_roundw
                        case rel => exact ⟨0 + 1, by omega, by go_num, HEND.out⟩
                        case measure => simp [intOf]; omega
                    · obtain ⟨j1, hj1⟩ : ∃ j1, j = j1 + 1 := ⟨j - 1, by omega⟩
                      have hxc1 : Hid (∃ x1, wr.cell? ⟨bE, oE + j1, none⟩ = some (.int .i64 x1) ∧ u[j1]? = some x1) := by
                        obtain ⟨b3, o3, x3, hEe3, hx3, HxE3⟩ := Ints.get (HU.out wr (bl_call H5j.out HB2.out (Nat.le_refl _))) (show j1 < nU by omega)
                        injection hEe3 with hEe3
                        injection hEe3 with f1 f2
                        subst f1 f2
                        exact ⟨x3, hx3, HxE3.out⟩
                      obtain ⟨x1, hx1, hxe1⟩ := hxc1.out
                      have hxx := set_asc7 HSET.out hxe1 (by rw [← hj1]; exact HxE.out)
                      have hle3 : ¬ x ≤ x1 := by omega
                      have hle3d : decide (x ≤ x1) = false := decide_eq_false hle3
                      have kx1 : Hid (∀ V, Below wr.heap.size wr V → V.cell? ⟨bE, oE + j1, none⟩ = some (.int .i64 x1)) := fun V hb => getc hb hx1
                      have hwj : IntKind.i64.wrap ((j : Int) - 1) = (j1 : Int) := by rw [IntKind.wrap_i64]; omega
                      have hj1n : j1 < nU := by omega
                      have hj1i : (j1 : Int) < nU := by omega
                      have hjpi : (0 : Int) < (j : Int) := by omega
                      have HJ1 := Lib.hid hj1
                      clear hj1 hx1 hxe1 hxx hxc1
                      go_wp2_with fail
                      refine wp_frameT ?_
                      intro a0 ha0
                      have tb11 : a0.tmps[11]? = some (.slice (some ⟨bE, oE, none⟩) nU ec) := by rw [ha0]; kernel_rfl
                      have tb15 : a0.tmps[15]? = some (.int .i64 (j : Int)) := by rw [ha0]; kernel_rfl
                      have tb16 : a0.tmps[16]? = some (.bool true) := by rw [ha0]; kernel_rfl
                      have hsz : a0.tmps.size = 192 := by rw [ha0]; kernel_rfl
                      refine wp_region_list (fun W => Below wr.heap.size wr W) (fun w w' => Below w.heap.size w w')
                        [isV (.bool true), isV (.bool false), isV (.bool false), isV (.int .i64 (j : Int)), isV (.bool true), isV (.bool true), isV (.slice (some ⟨bE, oE, none⟩) nU ec), isV (.int .i64 (j : Int)), isV (.pointer (some ⟨bE, oE + j, none⟩)), isV (.int .i64 x), isV (.slice (some ⟨bE, oE, none⟩) nU ec), isV (.int .i64 (j : Int)), isV (.int .i64 (j1 : Int)), isV (.pointer (some ⟨bE, oE + j1, none⟩)), isV (.int .i64 x1), isV (.bool false), isV (.bool false), isV (.bool false)]
                        (by kernel_rfl) (by kernel_rfl) (by kernel_rfl) (by simp) (by simp) (Below.refl _ _).drew ?stabG ?stepG ?finG
                      case stabG => exact (StabL.is (StabL.is (StabL.is (StabL.is (StabL.is (StabL.is (StabL.is (StabL.is (StabL.is (StabL.is (StabL.is (StabL.is (StabL.is (StabL.is (StabL.is (StabL.is (StabL.is (StabL.is StabL.nil))))))))))))))))))
                      case stepG =>
                        refine StepsL.isA ?_ (StepsL.isA ?_ (StepsL.isA ?_ (StepsL.isA ?_ (StepsL.isA ?_ (StepsL.isA ?_ (StepsL.isA ?_ (StepsL.isA ?_ (StepsL.isA ?_ (StepsL.isA ?_ (StepsL.isA ?_ (StepsL.isA ?_ (StepsL.isA ?_ (StepsL.isA ?_ (StepsL.isA ?_ (StepsL.isA ?_ (StepsL.isA ?_ (StepsL.isA ?_ StepsL.nil)))))))))))))))))
                        · -- 0
                          intro vs a W K ha hC hD hU hK
                          have r16 : a.tmps[16]? = some (.bool true) := by rw [ha, fillA_base0 (by kernel_rfl)]; exact tb16
                          clear ha hU hD ha0
                          rw [if_pos (by rfl)]
                          go_simp
                          exact hK _ hC (Below.refl _ _)
                        · -- 1
                          intro vs a W K ha hC hD hU hK
                          have r173 : a.tmps[173]? = some (vs 0) := by rw [ha]; exact fillA_get0 (j := 0) (by kernel_rfl) (by rw [hsz]; decide)
                          have q0 : vs 0 = .bool true := hD 0 (by simp [waits, Region.binds])
                          rw [q0] at r173
                          clear ha hU hD ha0
                          rw [if_pos (by rfl)]
                          go_simp
                          exact hK _ hC (Below.refl _ _)
                        · -- 2
                          intro vs a W K ha hC hD hU hK
                          have r174 : a.tmps[174]? = some (vs 1) := by rw [ha]; exact fillA_get0 (j := 1) (by kernel_rfl) (by rw [hsz]; decide)
                          have q1 : vs 1 = .bool false := hD 1 (by simp [waits, Region.binds])
                          rw [q1] at r174
                          clear ha hU hD ha0
                          rw [if_pos (by rfl)]
                          go_simp
                          exact hK _ hC (Below.refl _ _)
                        · -- 3
                          intro vs a W K ha hC hD hU hK
                          have r175 : a.tmps[175]? = some (vs 2) := by rw [ha]; exact fillA_get0 (j := 2) (by kernel_rfl) (by rw [hsz]; decide)
                          have q2 : vs 2 = .bool false := hD 2 (by simp [waits, Region.binds])
                          rw [q2] at r175
                          have r15 : a.tmps[15]? = some (.int .i64 (j : Int)) := by rw [ha, fillA_base0 (by kernel_rfl)]; exact tb15
                          clear ha hU hD ha0
                          rw [if_pos (by simp [Region.wanted, yielded, r175])]
                          go_simp
                          exact hK _ hC (Below.refl _ _)
                        · -- 4
                          intro vs a W K ha hC hD hU hK
                          have r175 : a.tmps[175]? = some (vs 2) := by rw [ha]; exact fillA_get0 (j := 2) (by kernel_rfl) (by rw [hsz]; decide)
                          have q2 : vs 2 = .bool false := hD 2 (by simp [waits, Region.binds])
                          rw [q2] at r175
                          have r176 : a.tmps[176]? = some (vs 3) := by rw [ha]; exact fillA_get0 (j := 3) (by kernel_rfl) (by rw [hsz]; decide)
                          have q3 : vs 3 = .int .i64 (j : Int) := hD 3 (by simp [waits, Region.binds])
                          rw [q3] at r176
                          clear ha hU hD ha0
                          rw [if_pos (by simp [Region.wanted, yielded, r175])]
                          go_simp
                          exact hK _ hC (Below.refl _ _)
                        · -- 5
                          intro vs a W K ha hC hD hU hK
                          have r175 : a.tmps[175]? = some (vs 2) := by rw [ha]; exact fillA_get0 (j := 2) (by kernel_rfl) (by rw [hsz]; decide)
                          have q2 : vs 2 = .bool false := hD 2 (by simp [waits, Region.binds])
                          rw [q2] at r175
                          have r177 : a.tmps[177]? = some (vs 4) := by rw [ha]; exact fillA_get0 (j := 4) (by kernel_rfl) (by rw [hsz]; decide)
                          have q4 : vs 4 = .bool true := hD 4 (by simp [waits, Region.binds])
                          rw [q4] at r177
                          clear ha hU hD ha0
                          rw [if_pos (by simp [Region.wanted, yielded, r175])]
                          go_simp
                          exact hK _ hC (Below.refl _ _)
                        · -- 6
                          intro vs a W K ha hC hD hU hK
                          have r178 : a.tmps[178]? = some (vs 5) := by rw [ha]; exact fillA_get0 (j := 5) (by kernel_rfl) (by rw [hsz]; decide)
                          have q5 : vs 5 = .bool true := hD 5 (by simp [waits, Region.binds])
                          rw [q5] at r178
                          have r11 : a.tmps[11]? = some (.slice (some ⟨bE, oE, none⟩) nU ec) := by rw [ha, fillA_base0 (by kernel_rfl)]; exact tb11
                          clear ha hU hD ha0
                          rw [if_pos (by simp [Region.wanted, yielded, r178])]
                          go_simp
                          exact hK _ hC (Below.refl _ _)
                        · -- 7
                          intro vs a W K ha hC hD hU hK
                          have r178 : a.tmps[178]? = some (vs 5) := by rw [ha]; exact fillA_get0 (j := 5) (by kernel_rfl) (by rw [hsz]; decide)
                          have q5 : vs 5 = .bool true := hD 5 (by simp [waits, Region.binds])
                          rw [q5] at r178
                          have r15 : a.tmps[15]? = some (.int .i64 (j : Int)) := by rw [ha, fillA_base0 (by kernel_rfl)]; exact tb15
                          clear ha hU hD ha0
                          rw [if_pos (by simp [Region.wanted, yielded, r178])]
                          go_simp
                          exact hK _ hC (Below.refl _ _)
                        · -- 8
                          intro vs a W K ha hC hD hU hK
                          have r178 : a.tmps[178]? = some (vs 5) := by rw [ha]; exact fillA_get0 (j := 5) (by kernel_rfl) (by rw [hsz]; decide)
                          have q5 : vs 5 = .bool true := hD 5 (by simp [waits, Region.binds])
                          rw [q5] at r178
                          have r179 : a.tmps[179]? = some (vs 6) := by rw [ha]; exact fillA_get0 (j := 6) (by kernel_rfl) (by rw [hsz]; decide)
                          have q6 : vs 6 = .slice (some ⟨bE, oE, none⟩) nU ec := hD 6 (by simp [waits, Region.binds])
                          rw [q6] at r179
                          have r180 : a.tmps[180]? = some (vs 7) := by rw [ha]; exact fillA_get0 (j := 7) (by kernel_rfl) (by rw [hsz]; decide)
                          have q7 : vs 7 = .int .i64 (j : Int) := hD 7 (by simp [waits, Region.binds])
                          rw [q7] at r180
                          clear ha hU hD ha0
                          rw [if_pos (by simp [Region.wanted, yielded, r178])]
                          go_simp
                          exact hK _ hC (Below.refl _ _)
                        · -- 9
                          intro vs a W K ha hC hD hU hK
                          have r178 : a.tmps[178]? = some (vs 5) := by rw [ha]; exact fillA_get0 (j := 5) (by kernel_rfl) (by rw [hsz]; decide)
                          have q5 : vs 5 = .bool true := hD 5 (by simp [waits, Region.binds])
                          rw [q5] at r178
                          have r181 : a.tmps[181]? = some (vs 8) := by rw [ha]; exact fillA_get0 (j := 8) (by kernel_rfl) (by rw [hsz]; decide)
                          have q8 : vs 8 = .pointer (some ⟨bE, oE + j, none⟩) := hD 8 (by simp [waits, Region.binds])
                          rw [q8] at r181
                          clear ha hU hD ha0
                          rw [if_pos (by simp [Region.wanted, yielded, r178])]
                          have kxx := kx.out W (bl_call HB2.out hC (Nat.le_refl _))
                          have kxy := kx1.out W hC
                          go_simp
                          exact hK _ hC (Below.refl _ _)
                        · -- 10
                          intro vs a W K ha hC hD hU hK
                          have r178 : a.tmps[178]? = some (vs 5) := by rw [ha]; exact fillA_get0 (j := 5) (by kernel_rfl) (by rw [hsz]; decide)
                          have q5 : vs 5 = .bool true := hD 5 (by simp [waits, Region.binds])
                          rw [q5] at r178
                          have r11 : a.tmps[11]? = some (.slice (some ⟨bE, oE, none⟩) nU ec) := by rw [ha, fillA_base0 (by kernel_rfl)]; exact tb11
                          clear ha hU hD ha0
                          rw [if_pos (by simp [Region.wanted, yielded, r178])]
                          go_simp
                          exact hK _ hC (Below.refl _ _)
                        · -- 11
                          intro vs a W K ha hC hD hU hK
                          have r178 : a.tmps[178]? = some (vs 5) := by rw [ha]; exact fillA_get0 (j := 5) (by kernel_rfl) (by rw [hsz]; decide)
                          have q5 : vs 5 = .bool true := hD 5 (by simp [waits, Region.binds])
                          rw [q5] at r178
                          have r15 : a.tmps[15]? = some (.int .i64 (j : Int)) := by rw [ha, fillA_base0 (by kernel_rfl)]; exact tb15
                          clear ha hU hD ha0
                          rw [if_pos (by simp [Region.wanted, yielded, r178])]
                          go_simp
                          exact hK _ hC (Below.refl _ _)
                        · -- 12
                          intro vs a W K ha hC hD hU hK
                          have r178 : a.tmps[178]? = some (vs 5) := by rw [ha]; exact fillA_get0 (j := 5) (by kernel_rfl) (by rw [hsz]; decide)
                          have q5 : vs 5 = .bool true := hD 5 (by simp [waits, Region.binds])
                          rw [q5] at r178
                          have r184 : a.tmps[184]? = some (vs 11) := by rw [ha]; exact fillA_get0 (j := 11) (by kernel_rfl) (by rw [hsz]; decide)
                          have q11 : vs 11 = .int .i64 (j : Int) := hD 11 (by simp [waits, Region.binds])
                          rw [q11] at r184
                          clear ha hU hD ha0
                          rw [if_pos (by simp [Region.wanted, yielded, r178])]
                          go_simp
                          exact hK _ hC (Below.refl _ _)
                        · -- 13
                          intro vs a W K ha hC hD hU hK
                          have r178 : a.tmps[178]? = some (vs 5) := by rw [ha]; exact fillA_get0 (j := 5) (by kernel_rfl) (by rw [hsz]; decide)
                          have q5 : vs 5 = .bool true := hD 5 (by simp [waits, Region.binds])
                          rw [q5] at r178
                          have r183 : a.tmps[183]? = some (vs 10) := by rw [ha]; exact fillA_get0 (j := 10) (by kernel_rfl) (by rw [hsz]; decide)
                          have q10 : vs 10 = .slice (some ⟨bE, oE, none⟩) nU ec := hD 10 (by simp [waits, Region.binds])
                          rw [q10] at r183
                          have r185 : a.tmps[185]? = some (vs 12) := by rw [ha]; exact fillA_get0 (j := 12) (by kernel_rfl) (by rw [hsz]; decide)
                          have q12 : vs 12 = .int .i64 (j1 : Int) := hD 12 (by simp [waits, Region.binds])
                          rw [q12] at r185
                          clear ha hU hD ha0
                          rw [if_pos (by simp [Region.wanted, yielded, r178])]
                          go_simp
                          exact hK _ hC (Below.refl _ _)
                        · -- 14
                          intro vs a W K ha hC hD hU hK
                          have r178 : a.tmps[178]? = some (vs 5) := by rw [ha]; exact fillA_get0 (j := 5) (by kernel_rfl) (by rw [hsz]; decide)
                          have q5 : vs 5 = .bool true := hD 5 (by simp [waits, Region.binds])
                          rw [q5] at r178
                          have r186 : a.tmps[186]? = some (vs 13) := by rw [ha]; exact fillA_get0 (j := 13) (by kernel_rfl) (by rw [hsz]; decide)
                          have q13 : vs 13 = .pointer (some ⟨bE, oE + j1, none⟩) := hD 13 (by simp [waits, Region.binds])
                          rw [q13] at r186
                          clear ha hU hD ha0
                          rw [if_pos (by simp [Region.wanted, yielded, r178])]
                          have kxx := kx.out W (bl_call HB2.out hC (Nat.le_refl _))
                          have kxy := kx1.out W hC
                          go_simp
                          exact hK _ hC (Below.refl _ _)
                        · -- 15
                          intro vs a W K ha hC hD hU hK
                          have r178 : a.tmps[178]? = some (vs 5) := by rw [ha]; exact fillA_get0 (j := 5) (by kernel_rfl) (by rw [hsz]; decide)
                          have q5 : vs 5 = .bool true := hD 5 (by simp [waits, Region.binds])
                          rw [q5] at r178
                          have r182 : a.tmps[182]? = some (vs 9) := by rw [ha]; exact fillA_get0 (j := 9) (by kernel_rfl) (by rw [hsz]; decide)
                          have q9 : vs 9 = .int .i64 x := hD 9 (by simp [waits, Region.binds])
                          rw [q9] at r182
                          have r187 : a.tmps[187]? = some (vs 14) := by rw [ha]; exact fillA_get0 (j := 14) (by kernel_rfl) (by rw [hsz]; decide)
                          have q14 : vs 14 = .int .i64 x1 := hD 14 (by simp [waits, Region.binds])
                          rw [q14] at r187
                          clear ha hU hD ha0
                          rw [if_pos (by simp [Region.wanted, yielded, r178])]
                          go_simp
                          exact hK _ hC (Below.refl _ _)
                        · -- 16
                          intro vs a W K ha hC hD hU hK
                          have r175 : a.tmps[175]? = some (vs 2) := by rw [ha]; exact fillA_get0 (j := 2) (by kernel_rfl) (by rw [hsz]; decide)
                          have q2 : vs 2 = .bool false := hD 2 (by simp [waits, Region.binds])
                          rw [q2] at r175
                          have r178 : a.tmps[178]? = some (vs 5) := by rw [ha]; exact fillA_get0 (j := 5) (by kernel_rfl) (by rw [hsz]; decide)
                          have q5 : vs 5 = .bool true := hD 5 (by simp [waits, Region.binds])
                          rw [q5] at r178
                          have r188 : a.tmps[188]? = some (vs 15) := by rw [ha]; exact fillA_get0 (j := 15) (by kernel_rfl) (by rw [hsz]; decide)
                          have q15 : vs 15 = .bool false := hD 15 (by simp [waits, Region.binds])
                          rw [q15] at r188
                          clear ha hU hD ha0
                          rw [if_pos (by simp [Region.wanted, yielded, r175])]
                          go_simp
                          exact hK _ hC (Below.refl _ _)
                        · -- 17
                          intro vs a W K ha hC hD hU hK
                          have r175 : a.tmps[175]? = some (vs 2) := by rw [ha]; exact fillA_get0 (j := 2) (by kernel_rfl) (by rw [hsz]; decide)
                          have q2 : vs 2 = .bool false := hD 2 (by simp [waits, Region.binds])
                          rw [q2] at r175
                          have r189 : a.tmps[189]? = some (vs 16) := by rw [ha]; exact fillA_get0 (j := 16) (by kernel_rfl) (by rw [hsz]; decide)
                          have q16 : vs 16 = .bool false := hD 16 (by simp [waits, Region.binds])
                          rw [q16] at r189
                          clear ha hU hD ha0
                          rw [if_pos (by rfl)]
                          go_simp
                          exact hK _ hC (Below.refl _ _)
                      case finG =>
                        refine Fin1.none (Nat.le_refl _) ?_
                        intro vs W a1 hC hE ha
                        have eL : vs 17 = .bool false := hE 17 (by simp)
                        rw [ha, ha0]
                        clear ha ha0 hsz tb11 tb15 tb16
                        simp only [fillA, Act.put, List.setIfInBounds_toArray, List.set_cons_zero, List.set_cons_succ, Nat.zero_add, Nat.reduceAdd, eL]
                        obtain ⟨u0, hu0⟩ : ∃ v0, vs 0 = v0 := ⟨_, rfl⟩
                        obtain ⟨u1, hu1⟩ : ∃ v0, vs 1 = v0 := ⟨_, rfl⟩
                        obtain ⟨u2, hu2⟩ : ∃ v0, vs 2 = v0 := ⟨_, rfl⟩
                        obtain ⟨u3, hu3⟩ : ∃ v0, vs 3 = v0 := ⟨_, rfl⟩
                        obtain ⟨u4, hu4⟩ : ∃ v0, vs 4 = v0 := ⟨_, rfl⟩
                        obtain ⟨u5, hu5⟩ : ∃ v0, vs 5 = v0 := ⟨_, rfl⟩
                        obtain ⟨u6, hu6⟩ : ∃ v0, vs 6 = v0 := ⟨_, rfl⟩
                        obtain ⟨u7, hu7⟩ : ∃ v0, vs 7 = v0 := ⟨_, rfl⟩
                        obtain ⟨u8, hu8⟩ : ∃ v0, vs 8 = v0 := ⟨_, rfl⟩
                        obtain ⟨u9, hu9⟩ : ∃ v0, vs 9 = v0 := ⟨_, rfl⟩
                        obtain ⟨u10, hu10⟩ : ∃ v0, vs 10 = v0 := ⟨_, rfl⟩
                        obtain ⟨u11, hu11⟩ : ∃ v0, vs 11 = v0 := ⟨_, rfl⟩
                        obtain ⟨u12, hu12⟩ : ∃ v0, vs 12 = v0 := ⟨_, rfl⟩
                        obtain ⟨u13, hu13⟩ : ∃ v0, vs 13 = v0 := ⟨_, rfl⟩
                        obtain ⟨u14, hu14⟩ : ∃ v0, vs 14 = v0 := ⟨_, rfl⟩
                        obtain ⟨u15, hu15⟩ : ∃ v0, vs 15 = v0 := ⟨_, rfl⟩
                        obtain ⟨u16, hu16⟩ : ∃ v0, vs 16 = v0 := ⟨_, rfl⟩
                        rw [hu0, hu1, hu2, hu3, hu4, hu5, hu6, hu7, hu8, hu9, hu10, hu11, hu12, hu13, hu14, hu15, hu16]
                        clear hu0 hu1 hu2 hu3 hu4 hu5 hu6 hu7 hu8 hu9 hu10 hu11 hu12 hu13 hu14 hu15 hu16
                        have HEND : Hid (Below Wn.heap.size Wn W) := bl_call HBend.out hC (Nat.le_refl _)
                        clear hE eL hC
                        go_wp2_with fail
                        go_roundw
                        case rel => exact ⟨j + 1, by omega, by go_num, HEND.out⟩
                        case measure => simp [intOf]; omega
              · obtain rfl : j = nU := by omega
                have hji : ¬ (j : Int) < j := by omega
                go_wp2_with fail
                refine (awake7_any wr).mono ?_
                rintro e V99 ⟨rfl, c99⟩
                have b99 := bl_call hBW (bl_call HBWj.out c99 (Nat.le_refl _)) (Nat.le_refl _)
                clear c99
                go_wp2
                go_ret
                exact ⟨by rfl, b99⟩
    · have hR := HPR.out
      rw [planR_bad h0] at hR
      injection hR with e1 hR
      injection hR with e2 e3
      obtain rfl : nP = 0 := by rw [← HNP.out, ← e1]; rfl
      obtain rfl : nU = 0 := by rw [← HNU.out, ← e2]; rfl
      rw [e3] at h0 ⊢
      have hvb : (re != 0) = true := by simpa using h0
      have hvv : (re == re) = true := by simp
      clear e1 e2 e3 h0
      go_wp2_with fail
      refine (awake7_any V6).mono ?_
      rintro e V99 ⟨rfl, c99⟩
      have b99 := bl_call hBW (bl_call HB6.out c99 (Nat.le_refl _)) (Nat.le_refl _)
      clear c99
      go_wp2
      go_ret
      exact ⟨by rfl, b99⟩
  · have heb : (err7 s == 0) = false := by simpa using he
    rw [heb]
    have h0 : orderE s [] p ≠ 0 := orderE_seen (by rw [seen7_bad he]; exact he)
    have HPB := Lib.hid (planR_bad h0)
    obtain ⟨ev, hev⟩ : ∃ x, orderE s [] p = x := ⟨_, rfl⟩
    rw [hev] at h0 HPB
    have hvb : (ev != 0) = true := by simpa using h0
    clear he heb hev h0
    go_wp2_with fail
    clear x0 x1 x2 y0 y1 y2
    refine (kplan_any (l := []) V1 (HG.out V1 b1) (SliceOf.nil _ _ _ _ _) (HPS.out V1 b1) hca h1 h2).mono ?_
    rw [HPB.out]
    rintro e V2 ⟨⟨D, kc, E, ec, rfl, _, _⟩, c2⟩
    have b2 := bl_call b1 c2 (Nat.le_refl _)
    clear c2
    go_wp2_with fail
    refine (awake7_any V2).mono ?_
    rintro e V99 ⟨rfl, c99⟩
    have b99 := bl_call hBW (bl_call b2 c99 (Nat.le_refl _)) (Nat.le_refl _)
    clear c99
    go_wp2
    go_ret
    exact ⟨by rfl, b99⟩
end Go.Proofs.YtpdldmichpmgmaaGreat
