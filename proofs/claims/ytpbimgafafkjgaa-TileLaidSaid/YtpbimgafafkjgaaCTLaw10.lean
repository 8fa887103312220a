/- Walks: the law TileLaid. -/
import Derived.Test.YtpbimgafafkjgaaCTLaw2
import Derived.Test.YtpbimgafafkjgaaCTOuts1
import Derived.Test.YtpbimgafafkjgaaCTOuts6
import Derived.Test.YtpbimgafafkjgaaCTRegs
set_option linter.unusedVariables false
set_option linter.unusedSimpArgs false
set_option linter.all false
namespace Go.Proofs.Ytpbimgafafkjgaa
open Go.RowKit

theorem lay_bad8 {h : Hall} {l : List Seen} (hb : good8 h l = false) : ∃ f, layR h l = ([], 0, f) ∧ must8 h l = ([], f) ∧ f ≠ 0 := by
  have hE : hallE h l ≠ 0 := by
    by_cases e1 : (seen8 h l).2 = 0
    · have ha : agree8 h l = false := by
        unfold good8 at hb
        rw [e1] at hb
        simpa using hb
      unfold hallE
      rw [if_neg (fun hh => hh e1), if_pos ha]; decide
    · unfold hallE
      rw [if_pos e1]; exact e1
  exact ⟨hallE h l, by rw [layR, if_pos hE], by rw [must8, if_pos hE], hE⟩
/-- new rows, as a value -/
def NewRowsV (B m : Nat) (L : List (List Int)) (v : Value) (W : World) : Prop := ∃ (A : Option Addr) (c : Nat), v = .slice A m c ∧ Rows (fun k => B ≤ k) W A m L
theorem NewRowsV.bl {B m : Nat} {L : List (List Int)} {v : Value} {W V : World} (h : NewRowsV B m L v W) (hb : Below W.heap.size W V) : NewRowsV B m L v V := by
  obtain ⟨A, c, h1, h2⟩ := h
  exact ⟨A, c, h1, h2.keep (SlR.good IntR.good) (Keeps.below hb)⟩

set_option maxRecDepth 100000 in
set_option maxHeartbeats 8000000 in
theorem laidLaw_any {A B C D : Option Addr} {n ca m cb q cc xn xc : Nat} {h : Hall} {l : List Seen} {xs : List Nat} {alo ahi most : Int} (w : World) (g : HallAt (fun _ => True) w A n B m h) (gs : Seens (fun _ => True) w C q l) (gx : Bytes (fun _ => True) w D xn xs) (hca : n ≤ ca) (h1 : h.alo = alo) (h2 : h.ahi = ahi) (h3 : h.most = most) :
    Calls Try.prog 10 #[.agg #[.int .i64 alo, .int .i64 ahi, .int .i64 most, .slice A n ca, .slice B m cb], .slice C q cc, .slice D xn xc] w fun e w' => e = .returned (.bool true) ∧ Below w.heap.size w w' := by
  have Hm := Lib.hid g.rs.len
  have Hn := Lib.hid g.ts.len
  obtain ⟨W0, hW⟩ : ∃ W, w.alloc (.cells #[.int .i64 alo, .int .i64 ahi, .int .i64 most, .slice A n ca, .slice B m cb] 27) = W := ⟨_, rfl⟩
  obtain ⟨g0, hg0⟩ : ∃ g0, w.heap.size = g0 := ⟨_, rfl⟩
  have X : Blk W0 g0 27 #[.int .i64 alo, .int .i64 ahi, .int .i64 most, .slice A n ca, .slice B m cb] := by rw [← hW, ← hg0]; exact Blk.new _ _ _ rfl
  have HBW : Hid (Below w.heap.size w W0) := by rw [Hid, ← hW]; exact bl_alloc (Below.refl _ _) _ (Nat.le_refl _)
  have HG := Lib.hid (g.keep (Keeps.below HBW.out))
  have HS := Lib.hid (gs.keep SeenR.good (Keeps.below HBW.out))
  have HX := Lib.hid (gx.keep ByteR.good (Keeps.below HBW.out))
  have kk : Hid (∀ V, Below W0.heap.size W0 V → V.cell? ⟨g0, 0, none⟩ = some (.int .i64 alo) ∧ V.cell? ⟨g0, 1, none⟩ = some (.int .i64 ahi) ∧ V.cell? ⟨g0, 2, none⟩ = some (.int .i64 most) ∧ V.cell? ⟨g0, 3, none⟩ = some (.slice A n ca) ∧ V.cell? ⟨g0, 4, none⟩ = some (.slice B m cb)) :=
    fun V hb => ⟨(X.bl hb).cell 0, (X.bl hb).cell 1, (X.bl hb).cell 2, (X.bl hb).cell 3, (X.bl hb).cell 4⟩
  clear X g gs gx
  obtain ⟨x0, x1, x2, x3, x4⟩ := kk.out W0 (Below.refl _ _)
  go_enter Try.func10, Try.ntmps10
  go_wp2_with fail
  clear hW
  clear x0 x1 x2 x3 x4
  refine (tlay_any W0 HG.out HS.out hca h1 h2 h3).mono ?_
  rintro e V1 ⟨b1, AR, nR, cR, rfl, hR⟩
  obtain ⟨m1, hm1⟩ : ∃ x, (layR h l).2.1 = x := ⟨_, rfl⟩
  obtain ⟨f1, hf1⟩ : ∃ x, (layR h l).2.2 = x := ⟨_, rfl⟩
  obtain ⟨R1, hR1⟩ : ∃ x, (layR h l).1 = x := ⟨_, rfl⟩
  rw [hR1] at hR
  rw [hm1, hf1]
  have HM1 := Lib.hid hm1
  have HF1 := Lib.hid hf1
  have HR1 := Lib.hid hR1
  have HRL := Lib.hid hR.1
  have HR := Lib.hid hR
  clear hm1 hf1 hR1 hR
  obtain ⟨x0, x1, x2, x3, x4⟩ := kk.out V1 b1
  go_wp2_with fail
  clear x0 x1 x2 x3 x4
  refine (good_any V1 (HG.out.keep (Keeps.below b1)) (HS.out.keep SeenR.good (Keeps.below b1)) h1 h2 h3).mono ?_
  rintro e V2 ⟨rfl, c2⟩
  have b2 := bl_call b1 c2 (Nat.le_refl _)
  have HR2 := Lib.hid (HR.out.keep (SlR.good IntR.good) (Keeps.below c2))
  clear c2 b1 HR
  obtain ⟨gb, hgb⟩ : ∃ gb, good8 h l = gb := ⟨_, rfl⟩
  rw [hgb]
  cases gb with
  | false =>
    obtain ⟨f, q1, _, q3⟩ := lay_bad8 hgb
    have e1 : m1 = 0 := by rw [← HM1.out, q1]
    have e2 : f1 = f := by rw [← HF1.out, q1]
    have e3 : nR = 0 := by rw [← HRL.out, ← HR1.out, q1]; rfl
    subst e1; subst e2; subst e3
    have hfb : (f1 != 0) = true := by simpa using q3
    clear q1 q3 hgb
    go_wp2_with fail
    refine (awake_any V2).mono ?_
    rintro e Vz ⟨rfl, cz⟩
    go_wp2
    go_ret
    exact ⟨by rfl, bl_call HBW.out (bl_call b2 cz (Nat.le_refl _)) (Nat.le_refl _)⟩
  | true =>
    obtain ⟨e1, ea⟩ := good8_parts hgb
    have HE1 := Lib.hid e1
    have HEA := Lib.hid ea
    have HKK : Hid (OkH h) := okH_of (seen_zero e1).1
    have hpk := laid_pack e1 ea
    clear e1 ea hgb
    obtain ⟨ly, lb, hly⟩ : ∃ a b, layingT h l (layoutL h xs) = (a, b) := ⟨_, _, rfl⟩
    have HLY := Lib.hid hly
    have HPK := Lib.hid hpk
    clear hly hpk
    go_wp2_with fail
    refine wp_region_list (fun W => Below V2.heap.size V2 W) (fun w w' => Below w.heap.size w w')
      [isV (.agg #[.int .i64 alo, .int .i64 ahi, .int .i64 most, .slice A n ca, .slice B m cb]), isV (.slice C q cc), isV (.agg #[.int .i64 alo, .int .i64 ahi, .int .i64 most, .slice A n ca, .slice B m cb]), isV (.slice D xn xc), NewRowsV V2.heap.size m (layoutL h xs), isV (.tuple #[.int .i64 ly, .bool lb]), isV (.tuple #[.int .i64 ly, .bool lb]), isV (.int .i64 ly), isV (.bool lb), isV (.int .i64 ly)]
      (by kernel_rfl) (by kernel_rfl) (by kernel_rfl) (by simp) (by simp) (Below.refl _ _).drew ?stab ?step ?fin
    case stab => exact (StabL.is (StabL.is (StabL.is (StabL.is (StabL.cons (fun v W V hC hX hq => NewRowsV.bl hq hX) (StabL.is (StabL.is (StabL.is (StabL.is (StabL.is StabL.nil))))))))))
    case step =>
      refine StepsL.is ?_ (StepsL.is ?_ (StepsL.is ?_ (StepsL.is ?_ (StepsL.cons ?_ (StepsL.is ?_ (StepsL.is ?_ (StepsL.is ?_ (StepsL.is ?_ (StepsL.is ?_ StepsL.nil)))))))))
      all_goals
        intro vs W K hC hD hU hK
        simp only [fillA, Act.put, List.setIfInBounds_toArray, List.set_cons_zero, List.set_cons_succ, Nat.zero_add, Nat.reduceAdd] at hK ⊢
        simp [waits, Region.binds] at hD
        try simp only [envOf, List.getD_cons_succ, List.getD_cons_zero, isV] at hD
        try simp only [hD] at hK ⊢
      · obtain ⟨x0, x1, x2, x3, x4⟩ := kk.out W (bl_call b2 hC (Nat.le_refl _))
        go_simp; exact hK _ hC (Below.refl _ _)
      · go_simp; exact hK _ hC (Below.refl _ _)
      · obtain ⟨x0, x1, x2, x3, x4⟩ := kk.out W (bl_call b2 hC (Nat.le_refl _))
        go_simp; exact hK _ hC (Below.refl _ _)
      · go_simp; exact hK _ hC (Below.refl _ _)
      · go_simp
        refine (layout_any (ca := ca) (cb := cb) (cc := xc) W (HG.out.keep (Keeps.below (bl_call b2 hC (Nat.le_refl _)))) (HX.out.keep ByteR.good (Keeps.below (bl_call b2 hC (Nat.le_refl _)))) rfl rfl rfl HKK.out).mono ?_
        rintro e w' ⟨⟨A', c', rfl, hR⟩, hb⟩
        exact hK _ _ (bl_call hC hb (Nat.le_refl _)) hb ⟨A', c', rfl, hR.mono (SlR.good IntR.good) fun k hk => Nat.le_trans hC.size hk⟩
      · obtain ⟨q0, q1, A4, c4, q4, hR4⟩ := hD
        simp only [q0, q1, q4] at hK ⊢
        go_simp
        refine (laying_any (ca := ca) (cb := cb) (cc := cc) (rc := c4) W (HG.out.keep (Keeps.below (bl_call b2 hC (Nat.le_refl _)))) (HS.out.keep SeenR.good (Keeps.below (bl_call b2 hC (Nat.le_refl _)))) hR4 h1 h2 h3 HE1.out HEA.out).mono ?_
        rintro e w' ⟨rfl, hb⟩
        rw [HLY.out]
        exact hK _ (bl_call hC hb (Nat.le_refl _)) hb
      · go_simp; exact hK _ hC (Below.refl _ _)
      · go_simp; exact hK _ hC (Below.refl _ _)
      · go_simp; exact hK _ hC (Below.refl _ _)
      · go_simp; exact hK _ hC (Below.refl _ _)
    case fin =>
      intro vs W hC hE hU
      have e9 : vs 9 = .int .i64 ly := hE 9 (by simp)
      have e8 : vs 8 = .bool lb := hE 8 (by simp)
      simp only [fillA, Act.put, List.setIfInBounds_toArray, List.set_cons_zero, List.set_cons_succ, Nat.zero_add, Nat.reduceAdd, e8, e9]
      obtain ⟨u0, hu0⟩ : ∃ v0, vs 0 = v0 := ⟨_, rfl⟩
      obtain ⟨u1, hu1⟩ : ∃ v0, vs 1 = v0 := ⟨_, rfl⟩
      obtain ⟨u2, hu2⟩ : ∃ v0, vs 2 = v0 := ⟨_, rfl⟩
      obtain ⟨u3, hu3⟩ : ∃ v0, vs 3 = v0 := ⟨_, rfl⟩
      obtain ⟨u4, hu4⟩ : ∃ v0, vs 4 = v0 := ⟨_, rfl⟩
      obtain ⟨u5, hu5⟩ : ∃ v0, vs 5 = v0 := ⟨_, rfl⟩
      obtain ⟨u6, hu6⟩ : ∃ v0, vs 6 = v0 := ⟨_, rfl⟩
      obtain ⟨u7, hu7⟩ : ∃ v0, vs 7 = v0 := ⟨_, rfl⟩
      rw [hu0, hu1, hu2, hu3, hu4, hu5, hu6, hu7]
      clear hu0 hu1 hu2 hu3 hu4 hu5 hu6 hu7
      clear hE hU e8 e9
      obtain ⟨U1, hU1⟩ : ∃ V, V = W := ⟨_, rfl⟩
      subst hU1
      have b3 := bl_call b2 hC (Nat.le_refl _)
      have HR3 := Lib.hid (HR2.out.keep (SlR.good IntR.good) (Keeps.below hC))
      clear hC b2 HR2
      go_simp
      rcases HPK.out with ⟨q1, _, q3⟩ | ⟨rows, g1, q1, _, q3, q4⟩
      · have e1 : m1 = 0 := by rw [← HM1.out, q1]
        have e2 : f1 = 8 := by rw [← HF1.out, q1]
        have e3 : nR = 0 := by rw [← HRL.out, ← HR1.out, q1]; rfl
        have e4 : lb = false := by have := q3 (layoutL h xs); rw [HLY.out] at this; exact this
        subst e1; subst e2; subst e3; subst e4
        clear q1 q3 HPK
        go_wp2_with fail
        refine (awake_any U1).mono ?_
        rintro e Vz ⟨rfl, cz⟩
        go_wp2
        go_ret
        exact ⟨by rfl, bl_call HBW.out (bl_call b3 cz (Nat.le_refl _)) (Nat.le_refl _)⟩
      · have e1 : m1 = g1 := by rw [← HM1.out, q1]
        have e2 : f1 = 0 := by rw [← HF1.out, q1]
        have e3 : R1 = rows := by rw [← HR1.out, q1]
        have HQ3 : Hid (layingT h l R1 = (g1, true)) := by rw [Hid, e3]; exact q3
        have HQ4 : Hid (lb = true → g1 ≤ ly) := fun e => by
          have := q4 (layoutL h xs) (by rw [HLY.out]; exact e)
          rw [HLY.out] at this
          exact this
        subst e1; subst e2
        clear q1 q3 q4 HPK e3
        obtain ⟨x0, x1, x2, x3, x4⟩ := kk.out U1 b3
        go_wp2_with fail
        clear x0 x1 x2 x3 x4
        refine (laying_any (ca := ca) (cb := cb) (cc := cc) (rc := cR) U1 (HG.out.keep (Keeps.below b3)) (HS.out.keep SeenR.good (Keeps.below b3)) HR3.out h1 h2 h3 HE1.out HEA.out).mono ?_
        rintro e U2 ⟨rfl, c4⟩
        rw [HQ3.out]
        have b4 := bl_call b3 c4 (Nat.le_refl _)
        clear b3 c4 HR3
        cases lb with
        | false =>
          go_wp2_with fail
          refine (awake_any U2).mono ?_
          rintro e Vz ⟨rfl, cz⟩
          go_wp2
          go_ret
          exact ⟨by rfl, bl_call HBW.out (bl_call b4 cz (Nat.le_refl _)) (Nat.le_refl _)⟩
        | true =>
          have hle : m1 ≤ ly := HQ4.out rfl
          go_wp2_with fail
          refine (awake_any U2).mono ?_
          rintro e Vz ⟨rfl, cz⟩
          go_wp2
          go_ret
          exact ⟨by rfl, bl_call HBW.out (bl_call b4 cz (Nat.le_refl _)) (Nat.le_refl _)⟩

end Go.Proofs.Ytpbimgafafkjgaa
