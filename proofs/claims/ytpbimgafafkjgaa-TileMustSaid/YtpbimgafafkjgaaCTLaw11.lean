/- Walks: the law TileMust. -/
import Derived.Test.YtpbimgafafkjgaaCTLaw2
import Derived.Test.YtpbimgafafkjgaaCTMusts
import Derived.Test.YtpbimgafafkjgaaCTOuts1
import Derived.Test.YtpbimgafafkjgaaCTOuts6
import Derived.Test.YtpbimgafafkjgaaCTRefsP
import Derived.Test.YtpbimgafafkjgaaCTRegs
set_option linter.unusedVariables false
set_option linter.unusedSimpArgs false
set_option linter.all false
namespace Go.Proofs.Ytpbimgafafkjgaa
open Go.RowKit

theorem must_bad8 {h : Hall} {l : List Seen} (hb : good8 h l = false) : ∃ f, layR h l = ([], 0, f) ∧ must8 h l = ([], f) ∧ f ≠ 0 := by
  have hE : hallE h l ≠ 0 := by
    by_cases e1 : (seen8 h l).2 = 0
    · have ha : agree8 h l = false := by
        unfold good8 at hb
        rw [e1] at hb
        simpa using hb
      unfold hallE
      rw [if_neg (fun hh => hh e1), if_pos ha]; decide
    · unfold hallE
      rw [if_pos e1]; exact e1
  exact ⟨hallE h l, by rw [layR, if_pos hE], by rw [must8, if_pos hE], hE⟩
/-- new rows, as a value -/
def NewRowsW (B m : Nat) (L : List (List Int)) (v : Value) (W : World) : Prop := ∃ (A : Option Addr) (c : Nat), v = .slice A m c ∧ Rows (fun k => B ≤ k) W A m L
theorem NewRowsW.bl {B m : Nat} {L : List (List Int)} {v : Value} {W V : World} (h : NewRowsW B m L v W) (hb : Below W.heap.size W V) : NewRowsW B m L v V := by
  obtain ⟨A, c, h1, h2⟩ := h
  exact ⟨A, c, h1, h2.keep (SlR.good IntR.good) (Keeps.below hb)⟩

theorem wp_frameM {c : Code} {P : Program} {Q : Exit → Act → World → Prop} {a : Act} {w : World} (h : ∀ a0 : Act, a0 = a → c.wp P Q a0 w) : c.wp P Q a w := h a rfl
/-- is a number in one of the first rows -/
def usedK (L : List (List Int)) (t : Int) (k : Nat) : Bool := (List.range k).any fun r => decide (t ∈ L.getD r [])
theorem usedK_succ {L : List (List Int)} {t : Int} {k : Nat} {x : List Int} (h : L[k]? = some x) : usedK L t (k + 1) = (usedK L t k || decide (t ∈ x)) := by
  have hg : L.getD k [] = x := by rw [List.getD_eq_getElem?_getD, h]; rfl
  unfold usedK
  rw [List.range_succ, List.any_append, List.any_cons, List.any_nil, Bool.or_false, hg]
theorem usedK_yes {L : List (List Int)} {t : Int} {k r : Nat} (hr : r < k) (h : t ∈ L.getD r []) : usedK L t k = true := by
  unfold usedK
  exact List.any_eq_true.2 ⟨r, List.mem_range.2 hr, by simpa using h⟩

set_option maxRecDepth 100000 in
set_option maxHeartbeats 8000000 in
theorem mustLaw_any {A B C D : Option Addr} {n ca m cb q cc xn xc : Nat} {h : Hall} {l : List Seen} {xs : List Nat} {alo ahi most : Int} (w : World) (g : HallAt (fun _ => True) w A n B m h) (gs : Seens (fun _ => True) w C q l) (gx : Bytes (fun _ => True) w D xn xs) (hca : n ≤ ca) (h1 : h.alo = alo) (h2 : h.ahi = ahi) (h3 : h.most = most) :
    Calls Try.prog 11 #[.agg #[.int .i64 alo, .int .i64 ahi, .int .i64 most, .slice A n ca, .slice B m cb], .slice C q cc, .slice D xn xc] w fun e w' => e = .returned (.bool true) ∧ Below w.heap.size w w' := by
  have Hm := Lib.hid g.rs.len
  have Hn := Lib.hid g.ts.len
  obtain ⟨W0, hW⟩ : ∃ W, w.alloc (.cells #[.int .i64 alo, .int .i64 ahi, .int .i64 most, .slice A n ca, .slice B m cb] 27) = W := ⟨_, rfl⟩
  obtain ⟨g0, hg0⟩ : ∃ g0, w.heap.size = g0 := ⟨_, rfl⟩
  have X : Blk W0 g0 27 #[.int .i64 alo, .int .i64 ahi, .int .i64 most, .slice A n ca, .slice B m cb] := by rw [← hW, ← hg0]; exact Blk.new _ _ _ rfl
  have HBW : Hid (Below w.heap.size w W0) := by rw [Hid, ← hW]; exact bl_alloc (Below.refl _ _) _ (Nat.le_refl _)
  have HG := Lib.hid (g.keep (Keeps.below HBW.out))
  have HS := Lib.hid (gs.keep SeenR.good (Keeps.below HBW.out))
  have HX := Lib.hid (gx.keep ByteR.good (Keeps.below HBW.out))
  have kk : Hid (∀ V, Below W0.heap.size W0 V → V.cell? ⟨g0, 0, none⟩ = some (.int .i64 alo) ∧ V.cell? ⟨g0, 1, none⟩ = some (.int .i64 ahi) ∧ V.cell? ⟨g0, 2, none⟩ = some (.int .i64 most) ∧ V.cell? ⟨g0, 3, none⟩ = some (.slice A n ca) ∧ V.cell? ⟨g0, 4, none⟩ = some (.slice B m cb)) :=
    fun V hb => ⟨(X.bl hb).cell 0, (X.bl hb).cell 1, (X.bl hb).cell 2, (X.bl hb).cell 3, (X.bl hb).cell 4⟩
  clear X g gs gx
  obtain ⟨x0, x1, x2, x3, x4⟩ := kk.out W0 (Below.refl _ _)
  go_enter Try.func11, Try.ntmps11
  go_wp2_with fail
  clear hW
  clear x0 x1 x2 x3 x4
  refine (good_any W0 HG.out HS.out h1 h2 h3).mono ?_
  rintro e V1 ⟨rfl, b1⟩
  obtain ⟨gb, hgb⟩ : ∃ gb, good8 h l = gb := ⟨_, rfl⟩
  rw [hgb]
  cases gb with
  | false =>
    obtain ⟨f, _, q2, q3⟩ := must_bad8 hgb
    obtain ⟨f1, hf1⟩ : ∃ x, (must8 h l).2 = x := ⟨_, rfl⟩
    have e2 : f1 = f := by rw [← hf1, q2]
    have hfb : (f1 != 0) = true := by rw [e2]; simpa using q3
    have HF1 := Lib.hid hf1
    clear hf1 e2 q2 q3 hgb
    obtain ⟨x0, x1, x2, x3, x4⟩ := kk.out V1 b1
    go_wp2_with fail
    clear x0 x1 x2 x3 x4
    refine (tmust_any V1 (HG.out.keep (Keeps.below b1)) (HS.out.keep SeenR.good (Keeps.below b1)) hca h1 h2 h3).mono ?_
    rintro e V2 ⟨c2, SA, nS, cS, rfl, _⟩
    rw [HF1.out]
    have b2 := bl_call b1 c2 (Nat.le_refl _)
    go_wp2_with fail
    refine (awake_any V2).mono ?_
    rintro e Vz ⟨rfl, cz⟩
    go_wp2
    go_ret
    exact ⟨by rfl, bl_call HBW.out (bl_call b2 cz (Nat.le_refl _)) (Nat.le_refl _)⟩
  | true =>
    obtain ⟨e1, ea⟩ := good8_parts hgb
    have HE1 := Lib.hid e1
    have HEA := Lib.hid ea
    have HKK : Hid (OkH h) := okH_of (seen_zero e1).1
    have hpk := must_pack e1 ea
    have HH0 : Hid (hallE h l = 0) := hallE_ok e1 ea
    clear e1 ea hgb
    have hm1 : 1 ≤ m ∧ m ≤ 3 := by have := HKK.out.nr; rw [Hm.out] at this; exact this
    have hn1 : 1 ≤ n ∧ n ≤ 8 := by have := HKK.out.nt; rw [Hn.out] at this; exact this
    have HPK := Lib.hid hpk
    clear hpk
    obtain ⟨x0, x1, x2, x3, x4⟩ := kk.out V1 b1
    go_wp2_with fail
    clear x0 x1 x2 x3 x4
    refine (tmust_any V1 (HG.out.keep (Keeps.below b1)) (HS.out.keep SeenR.good (Keeps.below b1)) hca h1 h2 h3).mono ?_
    rintro e V2 ⟨c2, SA, nS, cS, rfl, hS⟩
    have b2 := bl_call b1 c2 (Nat.le_refl _)
    obtain ⟨f1, hf1⟩ : ∃ x, (must8 h l).2 = x := ⟨_, rfl⟩
    obtain ⟨S1, hS1⟩ : ∃ x, (must8 h l).1 = x := ⟨_, rfl⟩
    rw [hS1] at hS
    rw [hf1]
    have HF1 := Lib.hid hf1
    have HS1 := Lib.hid hS1
    have HSI := Lib.hid hS
    clear hf1 hS1 hS c2 b1
    obtain ⟨x0, x1, x2, x3, x4⟩ := kk.out V2 b2
    go_wp2_with fail
    clear x0 x1 x2 x3 x4
    refine (tlay_any V2 (HG.out.keep (Keeps.below b2)) (HS.out.keep SeenR.good (Keeps.below b2)) hca h1 h2 h3).mono ?_
    rintro e V3 ⟨c3, AR, nR, cR, rfl, hR⟩
    have b3 := bl_call b2 c3 (Nat.le_refl _)
    obtain ⟨m1, hm1⟩ : ∃ x, (layR h l).2.1 = x := ⟨_, rfl⟩
    obtain ⟨f2, hf2⟩ : ∃ x, (layR h l).2.2 = x := ⟨_, rfl⟩
    obtain ⟨R1, hR1⟩ : ∃ x, (layR h l).1 = x := ⟨_, rfl⟩
    rw [hR1] at hR
    rw [hm1, hf2]
    have HF2 := Lib.hid hf2
    have HR1 := Lib.hid hR1
    have HRI := Lib.hid hR
    have HSJ := Lib.hid (HSI.out.keep IntR.good (Keeps.below c3))
    clear hm1 hf2 hR1 hR c3 b2 HSI
    rcases HPK.out with ⟨q1, q2⟩ | ⟨rows, g1, SS, q1, q2, q3, q4, q5, q6, q7, q8⟩
    · have e1 : f1 = 8 := by rw [← HF1.out, q1]
      have e2 : f2 = 8 := by rw [← HF2.out, q2]
      have e3 : nS = 0 := by rw [← HSJ.out.1, ← HS1.out, q1]; rfl
      subst e1; subst e2; subst e3
      clear q1 q2 HPK
      go_wp2_with fail
      refine (awake_any V3).mono ?_
      rintro e Vz ⟨rfl, cz⟩
      go_wp2
      go_ret
      exact ⟨by rfl, bl_call HBW.out (bl_call b3 cz (Nat.le_refl _)) (Nat.le_refl _)⟩
    · have e1 : f1 = 0 := by rw [← HF1.out, q1]
      have e2 : f2 = 0 := by rw [← HF2.out, q2]
      have e3 : S1 = SS := by rw [← HS1.out, q1]
      have e4 : R1 = rows := by rw [← HR1.out, q2]
      rw [← e3] at q4 q5 q6 q7 q8
      rw [← e4] at q3 q4
      have e5 : m = nR := by rw [← HRI.out.1, q3, Hm.out]
      subst e1; subst e2; subst e5
      have HQ4 := Lib.hid q4
      have HQ5 := Lib.hid q5
      have HQ6 := Lib.hid q6
      have HQ7 := Lib.hid q7
      have HQ8 := Lib.hid q8
      clear q1 q2 q3 q4 q5 q6 q7 q8 e3 e4 HPK
      obtain ⟨ly, lb, hly⟩ : ∃ a b, layingT h l (layoutL h xs) = (a, b) := ⟨_, _, rfl⟩
      have HLY := Lib.hid hly
      clear hly
      go_wp2_with fail
      refine wp_frameM ?_
      intro a0 ha0
      have tb1 : a0.tmps[1]? = some (.slice C q cc) := by rw [ha0]; kernel_rfl
      have tb2 : a0.tmps[2]? = some (.slice D xn xc) := by rw [ha0]; kernel_rfl
      have tb3 : a0.tmps[3]? = some (.pointer (some ⟨g0, 0, none⟩)) := by rw [ha0]; kernel_rfl
      have hsz : a0.tmps.size = 178 := by rw [ha0]; kernel_rfl
      refine wp_region_list (fun W => Below V3.heap.size V3 W) (fun w w' => Below w.heap.size w w')
        [isV (.agg #[.int .i64 alo, .int .i64 ahi, .int .i64 most, .slice A n ca, .slice B m cb]), isV (.slice C q cc), isV (.agg #[.int .i64 alo, .int .i64 ahi, .int .i64 most, .slice A n ca, .slice B m cb]), isV (.slice D xn xc), NewRowsW V3.heap.size m (layoutL h xs), isV (.tuple #[.int .i64 ly, .bool lb]), isV (.tuple #[.int .i64 ly, .bool lb]), isV (.int .i64 ly), isV (.bool lb), isV (.int .i64 ly)]
        (by kernel_rfl) (by kernel_rfl) (by kernel_rfl) (by simp) (by simp) (Below.refl _ _).drew ?stabA ?stepA ?finA
      case stabA => exact (StabL.is (StabL.is (StabL.is (StabL.is (StabL.cons (fun v W V hC hX hq => NewRowsW.bl hq hX) (StabL.is (StabL.is (StabL.is (StabL.is (StabL.is StabL.nil))))))))))
      case stepA =>
        refine StepsL.isA ?_ (StepsL.isA ?_ (StepsL.isA ?_ (StepsL.isA ?_ (StepsL.consA ?_ (StepsL.isA ?_ (StepsL.isA ?_ (StepsL.isA ?_ (StepsL.isA ?_ (StepsL.isA ?_ StepsL.nil)))))))))
        · -- 0
          intro vs a W K ha hC hD hU hK
          have r3 : a.tmps[3]? = some (.pointer (some ⟨g0, 0, none⟩)) := by rw [ha, fillA_base0 (by kernel_rfl)]; exact tb3
          clear ha hU hD ha0
          rw [if_pos (by rfl)]
          obtain ⟨x0, x1, x2, x3, x4⟩ := kk.out W (bl_call b3 hC (Nat.le_refl _))
          go_simp
          exact hK _ hC (Below.refl _ _)
        · -- 1
          intro vs a W K ha hC hD hU hK
          have r1 : a.tmps[1]? = some (.slice C q cc) := by rw [ha, fillA_base0 (by kernel_rfl)]; exact tb1
          clear ha hU hD ha0
          rw [if_pos (by rfl)]
          go_simp
          exact hK _ hC (Below.refl _ _)
        · -- 2
          intro vs a W K ha hC hD hU hK
          have r3 : a.tmps[3]? = some (.pointer (some ⟨g0, 0, none⟩)) := by rw [ha, fillA_base0 (by kernel_rfl)]; exact tb3
          clear ha hU hD ha0
          rw [if_pos (by rfl)]
          obtain ⟨x0, x1, x2, x3, x4⟩ := kk.out W (bl_call b3 hC (Nat.le_refl _))
          go_simp
          exact hK _ hC (Below.refl _ _)
        · -- 3
          intro vs a W K ha hC hD hU hK
          have r2 : a.tmps[2]? = some (.slice D xn xc) := by rw [ha, fillA_base0 (by kernel_rfl)]; exact tb2
          clear ha hU hD ha0
          rw [if_pos (by rfl)]
          go_simp
          exact hK _ hC (Below.refl _ _)
        · -- 4
          intro vs a W K ha hC hD hU hK
          have r75 : a.tmps[75]? = some (vs 2) := by rw [ha]; exact fillA_get0 (j := 2) (by kernel_rfl) (by rw [hsz]; decide)
          have q2 : vs 2 = .agg #[.int .i64 alo, .int .i64 ahi, .int .i64 most, .slice A n ca, .slice B m cb] := hD 2 (by simp [waits, Region.binds])
          rw [q2] at r75
          have r76 : a.tmps[76]? = some (vs 3) := by rw [ha]; exact fillA_get0 (j := 3) (by kernel_rfl) (by rw [hsz]; decide)
          have q3 : vs 3 = .slice D xn xc := hD 3 (by simp [waits, Region.binds])
          rw [q3] at r76
          clear ha hU hD ha0
          rw [if_pos (by rfl)]
          go_simp
          refine (layout_any (ca := ca) (cb := cb) (cc := xc) W (HG.out.keep (Keeps.below (bl_call b3 hC (Nat.le_refl _)))) (HX.out.keep ByteR.good (Keeps.below (bl_call b3 hC (Nat.le_refl _)))) rfl rfl rfl HKK.out).mono ?_
          rintro e w' ⟨⟨A', c', rfl, hR⟩, hb⟩
          exact hK _ _ (bl_call hC hb (Nat.le_refl _)) hb ⟨A', c', rfl, hR.mono (SlR.good IntR.good) fun k hk => Nat.le_trans hC.size hk⟩
        · -- 5
          intro vs a W K ha hC hD hU hK
          have r73 : a.tmps[73]? = some (vs 0) := by rw [ha]; exact fillA_get0 (j := 0) (by kernel_rfl) (by rw [hsz]; decide)
          have q0 : vs 0 = .agg #[.int .i64 alo, .int .i64 ahi, .int .i64 most, .slice A n ca, .slice B m cb] := hD 0 (by simp [waits, Region.binds])
          rw [q0] at r73
          have r74 : a.tmps[74]? = some (vs 1) := by rw [ha]; exact fillA_get0 (j := 1) (by kernel_rfl) (by rw [hsz]; decide)
          have q1 : vs 1 = .slice C q cc := hD 1 (by simp [waits, Region.binds])
          rw [q1] at r74
          have r77 : a.tmps[77]? = some (vs 4) := by rw [ha]; exact fillA_get0 (j := 4) (by kernel_rfl) (by rw [hsz]; decide)
          have P4 : NewRowsW V3.heap.size m (layoutL h xs) (vs 4) W := hD 4 (by simp [waits, Region.binds])
          clear ha hU hD ha0
          rw [if_pos (by rfl)]
          obtain ⟨A4, c4, q4, hR4⟩ := P4
          rw [q4] at r77
          go_simp
          refine (laying_any (ca := ca) (cb := cb) (cc := cc) (rc := c4) W (HG.out.keep (Keeps.below (bl_call b3 hC (Nat.le_refl _)))) (HS.out.keep SeenR.good (Keeps.below (bl_call b3 hC (Nat.le_refl _)))) hR4 h1 h2 h3 HE1.out HEA.out).mono ?_
          rintro e w' ⟨rfl, hb⟩
          rw [HLY.out]
          exact hK _ (bl_call hC hb (Nat.le_refl _)) hb
        · -- 6
          intro vs a W K ha hC hD hU hK
          have r78 : a.tmps[78]? = some (vs 5) := by rw [ha]; exact fillA_get0 (j := 5) (by kernel_rfl) (by rw [hsz]; decide)
          have q5 : vs 5 = .tuple #[.int .i64 ly, .bool lb] := hD 5 (by simp [waits, Region.binds])
          rw [q5] at r78
          clear ha hU hD ha0
          rw [if_pos (by rfl)]
          go_simp
          exact hK _ hC (Below.refl _ _)
        · -- 7
          intro vs a W K ha hC hD hU hK
          have r72 : a.tmps[72]? = some (vs 6) := by rw [ha]; exact fillA_get0 (j := 6) (by kernel_rfl) (by rw [hsz]; decide)
          have q6 : vs 6 = .tuple #[.int .i64 ly, .bool lb] := hD 6 (by simp [waits, Region.binds])
          rw [q6] at r72
          clear ha hU hD ha0
          rw [if_pos (by rfl)]
          go_simp
          exact hK _ hC (Below.refl _ _)
        · -- 8
          intro vs a W K ha hC hD hU hK
          have r72 : a.tmps[72]? = some (vs 6) := by rw [ha]; exact fillA_get0 (j := 6) (by kernel_rfl) (by rw [hsz]; decide)
          have q6 : vs 6 = .tuple #[.int .i64 ly, .bool lb] := hD 6 (by simp [waits, Region.binds])
          rw [q6] at r72
          clear ha hU hD ha0
          rw [if_pos (by rfl)]
          go_simp
          exact hK _ hC (Below.refl _ _)
        · -- 9
          intro vs a W K ha hC hD hU hK
          have r79 : a.tmps[79]? = some (vs 7) := by rw [ha]; exact fillA_get0 (j := 7) (by kernel_rfl) (by rw [hsz]; decide)
          have q7 : vs 7 = .int .i64 ly := hD 7 (by simp [waits, Region.binds])
          rw [q7] at r79
          clear ha hU hD ha0
          rw [if_pos (by rfl)]
          go_simp
          exact hK _ hC (Below.refl _ _)
      case finA =>
        intro vs W hC hE hU
        rw [ha0]
        clear hU hsz tb1 tb2 tb3
        have e9 : vs 9 = .int .i64 ly := hE 9 (by simp)
        have e8 : vs 8 = .bool lb := hE 8 (by simp)
        simp only [fillA, Act.put, List.setIfInBounds_toArray, List.set_cons_zero, List.set_cons_succ, Nat.zero_add, Nat.reduceAdd, e8, e9]
        obtain ⟨u0, hu0⟩ : ∃ v0, vs 0 = v0 := ⟨_, rfl⟩
        obtain ⟨u1, hu1⟩ : ∃ v0, vs 1 = v0 := ⟨_, rfl⟩
        obtain ⟨u2, hu2⟩ : ∃ v0, vs 2 = v0 := ⟨_, rfl⟩
        obtain ⟨u3, hu3⟩ : ∃ v0, vs 3 = v0 := ⟨_, rfl⟩
        obtain ⟨u4, hu4⟩ : ∃ v0, vs 4 = v0 := ⟨_, rfl⟩
        obtain ⟨u5, hu5⟩ : ∃ v0, vs 5 = v0 := ⟨_, rfl⟩
        obtain ⟨u6, hu6⟩ : ∃ v0, vs 6 = v0 := ⟨_, rfl⟩
        obtain ⟨u7, hu7⟩ : ∃ v0, vs 7 = v0 := ⟨_, rfl⟩
        rw [hu0, hu1, hu2, hu3, hu4, hu5, hu6, hu7]
        clear hu0 hu1 hu2 hu3 hu4 hu5 hu6 hu7
        clear hE e8 e9
        obtain ⟨U1, hU1⟩ : ∃ V, V = W := ⟨_, rfl⟩
        subst hU1
        have b4 := bl_call b3 hC (Nat.le_refl _)
        have HRK := Lib.hid (HRI.out.keep (SlR.good IntR.good) (Keeps.below hC))
        have HSK := Lib.hid (HSJ.out.keep IntR.good (Keeps.below hC))
        clear hC b3 HRI HSJ
        have HSL : Hid (lb = true → ∀ t ∈ S1, usedK (layoutL h xs) t m = true) := fun e t ht => by
          obtain ⟨r, hr1, hr2⟩ := HQ5.out (layoutL h xs) (by rw [HLY.out]; exact e) t ht
          exact usedK_yes (by rw [← Hm.out]; exact hr1) hr2
        have HUR : Hid (∀ t ∈ S1, usedK R1 t m = true) := fun t ht => by
          obtain ⟨r, hr1, hr2⟩ := HQ4.out t ht
          exact usedK_yes (by rw [← Hm.out]; exact hr1) hr2
        clear HQ4 HQ5 HLY
        obtain ⟨x0, x1, x2, x3, x4⟩ := kk.out U1 b4
        go_simp
        go_wp2_with fail
        clear x0 x1 x2 x3 x4
        refine (layout_any (ca := ca) (cb := cb) (cc := xc) U1 (HG.out.keep (Keeps.below b4)) (HX.out.keep ByteR.good (Keeps.below b4)) rfl rfl rfl HKK.out).mono ?_
        rintro e U2 ⟨⟨LA, lc, rfl, hL⟩, c5⟩
        have b5 := bl_call b4 c5 (Nat.le_refl _)
        have hRm := HRK.out.keep (SlR.good IntR.good) (Keeps.below c5)
        have hSm := HSK.out.keep IntR.good (Keeps.below c5)
        clear c5 b4 HRK HSK
        obtain ⟨bR, oR, _, _, _, _, rfl, _⟩ := Rows.get hRm (k := 0) (by omega)
        obtain ⟨bL, oL, _, _, _, _, rfl, _⟩ := Rows.get hL (k := 0) (by omega)
        have HRM := Lib.hid hRm
        have HSM := Lib.hid hSm
        have HLM := Lib.hid hL
        clear hRm hSm hL
        obtain ⟨LL, hLL⟩ : ∃ x, layoutL h xs = x := ⟨_, rfl⟩
        rw [hLL] at HSL HLM
        clear hLL
        have HSl : Hid (S1.length = nS) := HSM.out.1
        have hnS : nS ≤ maxLen := HSM.out.2.1
        simp only [maxLen] at hnS
        go_wp2_with fail
        go_loopw [17] (fun i wr => ∃ k : Nat, i = .int .i64 k ∧ k ≤ nS ∧ Below U2.heap.size U2 wr) (fun i _ => nS - (intOf i).toNat)
        case atStart => exact ⟨0, rfl, Nat.zero_le _, Below.refl _ _⟩
        case round =>
          obtain ⟨k, rfl, hk, hB⟩ := hrel
          by_cases hlt : k < nS
          · rcases Nat.eq_zero_or_pos k with hz | hz
            · subst hz
              have hki : (0 : Int) < nS := by omega
              obtain ⟨bS, oS, t, rfl, hct, Ht⟩ := Ints.get (HSM.out.keep IntR.good (Keeps.below hB)) hlt
              have htm : t ∈ S1 := List.mem_of_getElem? Ht.out
              obtain ⟨ht0, htn⟩ := HQ6.out t htm
              rw [Hn.out] at htn
              have HUT := Lib.hid (HUR.out t htm)
              have HST : Hid (lb = true → usedK LL t m = true) := fun e => HSL.out e t htm
              have r1 : decide (t < 0) = false := decide_eq_false (by omega)
              have r2 : decide ((n : Int) ≤ t) = false := decide_eq_false (by omega)
              have b6 := bl_call b5 hB (Nat.le_refl _)
              have hct0 : wr.cell? ⟨bS, oS, none⟩ = some (.int .i64 t) := by simpa using hct
              clear hct
              have hct := hct0
              clear hct0
              have HCT := Lib.hid hct
              clear htm ht0 htn
              obtain ⟨x0, x1, x2, x3, x4⟩ := kk.out _ b6
              go_wp2_with fail
              go_quiet (fail)
              clear x0 x1 x2 x3 x4
              clear r1 r2 hct
              obtain ⟨X1, hX1⟩ : ∃ V, wr.drewN nq = V := ⟨_, rfl⟩
              have hB2 : Below U2.heap.size U2 X1 := by rw [← hX1]; exact bl_drewN hB _
              have hd1 : Below wr.heap.size wr X1 := by rw [← hX1]; exact bl_drewN (Below.refl _ _) _
              have hB2 : Below U2.heap.size U2 X1 := bl_call hB hd1 (Nat.le_refl _)
              have HCU := Lib.hid (getc hd1 HCT.out)
              rw [hX1]
              clear hX1 hd1 HCT b6 hB
              go_wp2_with fail
              go_loopw [18, 19, 20] (fun uv sv rv wr => ∃ j : Nat, rv = .int .i64 j ∧ j ≤ m ∧ uv = .bool (usedK R1 t j) ∧ sv = .bool (usedK LL t j) ∧ Below X1.heap.size X1 wr) (fun _ _ rv _ => m - (intOf rv).toNat)
              case atStart => exact ⟨0, rfl, Nat.zero_le _, rfl, rfl, Below.refl _ _⟩
              case round =>
                obtain ⟨j, rfl, hj, rfl, rfl, hB3⟩ := hrel
                by_cases hjm : j < m
                · have hji : (j : Int) < m := by omega
                  have hB4 := bl_call hB2 hB3 (Nat.le_refl _)
                  obtain ⟨bR2, oR2, x1, A1, n1, c1, hA1, hc1, hI1, Hx1⟩ := Rows.get (HRM.out.keep (SlR.good IntR.good) (Keeps.below hB4)) hjm
                  obtain ⟨rfl, rfl⟩ : bR2 = bR ∧ oR2 = oR := by simpa [eq_comm] using hA1
                  obtain ⟨bL2, oL2, x2, A2, n2, c2, hA2, hc2, hI2, Hx2⟩ := Rows.get (HLM.out.keep (SlR.good IntR.good) (Keeps.below hB4)) hjm
                  obtain ⟨rfl, rfl⟩ : bL2 = bL ∧ oL2 = oL := by simpa [eq_comm] using hA2
                  have HS1 : Hid (usedK R1 t (j + 1) = (usedK R1 t j || decide (t ∈ x1))) := usedK_succ Hx1.out
                  have HS2 : Hid (usedK LL t (j + 1) = (usedK LL t j || decide (t ∈ x2))) := usedK_succ Hx2.out
                  obtain ⟨d1, hd1⟩ : ∃ d, decide (t ∈ x1) = d := ⟨_, rfl⟩
                  obtain ⟨d2, hd2⟩ : ∃ d, decide (t ∈ x2) = d := ⟨_, rfl⟩
                  rw [hd1] at HS1
                  rw [hd2] at HS2
                  obtain ⟨u1, hu1⟩ : ∃ d, usedK R1 t j = d := ⟨_, rfl⟩
                  obtain ⟨u2, hu2⟩ : ∃ d, usedK LL t j = d := ⟨_, rfl⟩
                  rw [hu1] at HS1 ⊢
                  rw [hu2] at HS2 ⊢
                  have ct := getc hB3 HCU.out
                  have HH1 : Hid (∀ z, Calls Try.prog 46 #[.slice A1 n1 c1, .int .i64 t] (wr.drewN z) (fun e w' => e = .returned (.bool d1) ∧ w' = wr.drewN z)) := fun z => (has_any (c := c1) t _ (hI1.keep IntR.good (Keeps.drewN _ _))).mono fun e w' hh => ⟨by rw [hh.1, hd1], hh.2.symm⟩
                  have HX2i := Lib.hid hI2
                  have HD2 := Lib.hid hd2
                  have HC2 := Lib.hid hc2
                  clear hd1 hd2 hu1 hu2 hI1 hI2 hc2 hA1 hA2
                  go_wp2_with fail
                  cases u1 with
                  | false =>
                    go_quiet ((go_at_call 46; with_reducible refine Calls.quiet_of_same (n := _) (HH1.out _)))
                    clear hc1 ct HH1
                    obtain ⟨X2, hX2⟩ : ∃ V, wr.drewN nq = V := ⟨_, rfl⟩
                    have hd3 : Below wr.heap.size wr X2 := by rw [← hX2]; exact bl_drewN (Below.refl _ _) _
                    have hB5 := bl_call hB3 hd3 (Nat.le_refl _)
                    have hc2 := getc hd3 HC2.out
                    have ct := getc hB5 HCU.out
                    have HH2 : Hid (∀ z, Calls Try.prog 46 #[.slice A2 n2 c2, .int .i64 t] (World.drewN X2 z) (fun e w' => e = .returned (.bool d2) ∧ w' = World.drewN X2 z)) := fun z => (has_any (c := c2) t _ ((HX2i.out.keep IntR.good (Keeps.below hd3)).keep IntR.good (Keeps.drewN _ _))).mono fun e w' hh => ⟨by rw [hh.1, HD2.out], hh.2.symm⟩
                    rw [hX2]
                    clear hX2 hd3 hB3
                    go_wp2_with fail
                    cases u2 with
                    | false =>
                      go_quiet ((go_at_call 46; with_reducible refine Calls.quiet_of_same (n := _) (HH2.out _)))
                      clear hc2 ct HH2
                      go_wp2_with fail
                      go_roundw
                      case rel => exact ⟨j + 1, by go_num, by omega, by rw [HS1.out]; rfl, by rw [HS2.out]; rfl, bl_drewN hB5 _⟩
                      case measure => simp [intOf]; omega
                    | true =>
                      go_quiet ((go_at_call 46; with_reducible refine Calls.quiet_of_same (n := _) (HH2.out _)))
                      clear hc2 ct HH2
                      go_wp2_with fail
                      go_roundw
                      case rel => exact ⟨j + 1, by go_num, by omega, by rw [HS1.out]; rfl, by rw [HS2.out]; rfl, bl_drewN hB5 _⟩
                      case measure => simp [intOf]; omega
                  | true =>
                    go_quiet ((go_at_call 46; with_reducible refine Calls.quiet_of_same (n := _) (HH1.out _)))
                    clear hc1 ct HH1
                    obtain ⟨X2, hX2⟩ : ∃ V, wr.drewN nq = V := ⟨_, rfl⟩
                    have hd3 : Below wr.heap.size wr X2 := by rw [← hX2]; exact bl_drewN (Below.refl _ _) _
                    have hB5 := bl_call hB3 hd3 (Nat.le_refl _)
                    have hc2 := getc hd3 HC2.out
                    have ct := getc hB5 HCU.out
                    have HH2 : Hid (∀ z, Calls Try.prog 46 #[.slice A2 n2 c2, .int .i64 t] (World.drewN X2 z) (fun e w' => e = .returned (.bool d2) ∧ w' = World.drewN X2 z)) := fun z => (has_any (c := c2) t _ ((HX2i.out.keep IntR.good (Keeps.below hd3)).keep IntR.good (Keeps.drewN _ _))).mono fun e w' hh => ⟨by rw [hh.1, HD2.out], hh.2.symm⟩
                    rw [hX2]
                    clear hX2 hd3 hB3
                    go_wp2_with fail
                    cases u2 with
                    | false =>
                      go_quiet ((go_at_call 46; with_reducible refine Calls.quiet_of_same (n := _) (HH2.out _)))
                      clear hc2 ct HH2
                      go_wp2_with fail
                      go_roundw
                      case rel => exact ⟨j + 1, by go_num, by omega, by rw [HS1.out]; rfl, by rw [HS2.out]; rfl, bl_drewN hB5 _⟩
                      case measure => simp [intOf]; omega
                    | true =>
                      go_quiet ((go_at_call 46; with_reducible refine Calls.quiet_of_same (n := _) (HH2.out _)))
                      clear hc2 ct HH2
                      go_wp2_with fail
                      go_roundw
                      case rel => exact ⟨j + 1, by go_num, by omega, by rw [HS1.out]; rfl, by rw [HS2.out]; rfl, bl_drewN hB5 _⟩
                      case measure => simp [intOf]; omega
                · have hmj : m = j := by omega
                  subst hmj
                  have hji : ¬ (m : Int) < m := by omega
                  rw [HUT.out]
                  obtain ⟨sb, hsb⟩ : ∃ b, usedK LL t m = b := ⟨_, rfl⟩
                  rw [hsb]
                  have hB6 := bl_call hB2 hB3 (Nat.le_refl _)
                  clear hj hjm
                  cases lb with
                  | false =>
                    go_wp2_with fail
                    go_roundw
                    case rel => exact ⟨0 + 1, by go_num, by omega, hB6⟩
                    case measure => simp [intOf]; omega
                  | true =>
                    have hst := HST.out rfl
                    rw [hsb] at hst
                    subst hst
                    go_wp2_with fail
                    go_roundw
                    case rel => exact ⟨0 + 1, by go_num, by omega, hB6⟩
                    case measure => simp [intOf]; omega
            · obtain ⟨i9, rfl⟩ : ∃ i9, k = i9 + 1 := ⟨k - 1, by omega⟩
              have hki : ((i9 + 1 : Nat) : Int) < nS := by omega
              have hkj : (i9 : Int) + 1 < nS := by omega
              have hkw : IntKind.i64.wrap (((i9 + 1 : Nat) : Int) - 1) = (i9 : Int) := by rw [IntKind.wrap_i64]; omega
              have hkw2 : IntKind.i64.wrap ((i9 : Int) + 1 - 1) = (i9 : Int) := by rw [IntKind.wrap_i64]; omega
              have hk0 : (0 : Int) < (i9 : Int) + 1 := by omega
              have hka : (i9 : Int) < nS := by omega
              have hkb : ¬ (i9 : Int) + 1 < 0 := by omega
              obtain ⟨bS, oS, t, rfl, hct, Ht⟩ := Ints.get (HSM.out.keep IntR.good (Keeps.below hB)) hlt
              have htm : t ∈ S1 := List.mem_of_getElem? Ht.out
              obtain ⟨ht0, htn⟩ := HQ6.out t htm
              rw [Hn.out] at htn
              have HUT := Lib.hid (HUR.out t htm)
              have HST : Hid (lb = true → usedK LL t m = true) := fun e => HSL.out e t htm
              have r1 : decide (t < 0) = false := decide_eq_false (by omega)
              have r2 : decide ((n : Int) ≤ t) = false := decide_eq_false (by omega)
              have b6 := bl_call b5 hB (Nat.le_refl _)
              obtain ⟨bS2, oS2, t2, hA2, hct2, Ht2⟩ := Ints.get (HSM.out.keep IntR.good (Keeps.below hB)) (k := i9) (by omega)
              obtain ⟨rfl, rfl⟩ : bS2 = bS ∧ oS2 = oS := by simpa [eq_comm] using hA2
              have htt : t2 < t := by
                obtain ⟨q1, rfl⟩ := List.getElem?_eq_some_iff.1 Ht.out
                obtain ⟨q2, rfl⟩ := List.getElem?_eq_some_iff.1 Ht2.out
                exact List.pairwise_iff_getElem.1 HQ7.out i9 (i9 + 1) q2 q1 (by omega)
              have r3 : decide (t ≤ t2) = false := decide_eq_false (by omega)
              clear hA2
              have HCT := Lib.hid hct
              clear htm ht0 htn
              obtain ⟨x0, x1, x2, x3, x4⟩ := kk.out _ b6
              go_wp2_with fail
              go_quiet (fail)
              clear x0 x1 x2 x3 x4
              clear r1 r2 hct r3 hct2 hkw hkw2 htt
              obtain ⟨X1, hX1⟩ : ∃ V, wr.drewN nq = V := ⟨_, rfl⟩
              have hB2 : Below U2.heap.size U2 X1 := by rw [← hX1]; exact bl_drewN hB _
              have hd1 : Below wr.heap.size wr X1 := by rw [← hX1]; exact bl_drewN (Below.refl _ _) _
              have hB2 : Below U2.heap.size U2 X1 := bl_call hB hd1 (Nat.le_refl _)
              have HCU := Lib.hid (getc hd1 HCT.out)
              rw [hX1]
              clear hX1 hd1 HCT b6 hB
              go_wp2_with fail
              go_loopw [18, 19, 20] (fun uv sv rv wr => ∃ j : Nat, rv = .int .i64 j ∧ j ≤ m ∧ uv = .bool (usedK R1 t j) ∧ sv = .bool (usedK LL t j) ∧ Below X1.heap.size X1 wr) (fun _ _ rv _ => m - (intOf rv).toNat)
              case atStart => exact ⟨0, rfl, Nat.zero_le _, rfl, rfl, Below.refl _ _⟩
              case round =>
                obtain ⟨j, rfl, hj, rfl, rfl, hB3⟩ := hrel
                by_cases hjm : j < m
                · have hji : (j : Int) < m := by omega
                  have hB4 := bl_call hB2 hB3 (Nat.le_refl _)
                  obtain ⟨bR2, oR2, x1, A1, n1, c1, hA1, hc1, hI1, Hx1⟩ := Rows.get (HRM.out.keep (SlR.good IntR.good) (Keeps.below hB4)) hjm
                  obtain ⟨rfl, rfl⟩ : bR2 = bR ∧ oR2 = oR := by simpa [eq_comm] using hA1
                  obtain ⟨bL2, oL2, x2, A2, n2, c2, hA2, hc2, hI2, Hx2⟩ := Rows.get (HLM.out.keep (SlR.good IntR.good) (Keeps.below hB4)) hjm
                  obtain ⟨rfl, rfl⟩ : bL2 = bL ∧ oL2 = oL := by simpa [eq_comm] using hA2
                  have HS1 : Hid (usedK R1 t (j + 1) = (usedK R1 t j || decide (t ∈ x1))) := usedK_succ Hx1.out
                  have HS2 : Hid (usedK LL t (j + 1) = (usedK LL t j || decide (t ∈ x2))) := usedK_succ Hx2.out
                  obtain ⟨d1, hd1⟩ : ∃ d, decide (t ∈ x1) = d := ⟨_, rfl⟩
                  obtain ⟨d2, hd2⟩ : ∃ d, decide (t ∈ x2) = d := ⟨_, rfl⟩
                  rw [hd1] at HS1
                  rw [hd2] at HS2
                  obtain ⟨u1, hu1⟩ : ∃ d, usedK R1 t j = d := ⟨_, rfl⟩
                  obtain ⟨u2, hu2⟩ : ∃ d, usedK LL t j = d := ⟨_, rfl⟩
                  rw [hu1] at HS1 ⊢
                  rw [hu2] at HS2 ⊢
                  have ct := getc hB3 HCU.out
                  have HH1 : Hid (∀ z, Calls Try.prog 46 #[.slice A1 n1 c1, .int .i64 t] (wr.drewN z) (fun e w' => e = .returned (.bool d1) ∧ w' = wr.drewN z)) := fun z => (has_any (c := c1) t _ (hI1.keep IntR.good (Keeps.drewN _ _))).mono fun e w' hh => ⟨by rw [hh.1, hd1], hh.2.symm⟩
                  have HX2i := Lib.hid hI2
                  have HD2 := Lib.hid hd2
                  have HC2 := Lib.hid hc2
                  clear hd1 hd2 hu1 hu2 hI1 hI2 hc2 hA1 hA2
                  go_wp2_with fail
                  cases u1 with
                  | false =>
                    go_quiet ((go_at_call 46; with_reducible refine Calls.quiet_of_same (n := _) (HH1.out _)))
                    clear hc1 ct HH1
                    obtain ⟨X2, hX2⟩ : ∃ V, wr.drewN nq = V := ⟨_, rfl⟩
                    have hd3 : Below wr.heap.size wr X2 := by rw [← hX2]; exact bl_drewN (Below.refl _ _) _
                    have hB5 := bl_call hB3 hd3 (Nat.le_refl _)
                    have hc2 := getc hd3 HC2.out
                    have ct := getc hB5 HCU.out
                    have HH2 : Hid (∀ z, Calls Try.prog 46 #[.slice A2 n2 c2, .int .i64 t] (World.drewN X2 z) (fun e w' => e = .returned (.bool d2) ∧ w' = World.drewN X2 z)) := fun z => (has_any (c := c2) t _ ((HX2i.out.keep IntR.good (Keeps.below hd3)).keep IntR.good (Keeps.drewN _ _))).mono fun e w' hh => ⟨by rw [hh.1, HD2.out], hh.2.symm⟩
                    rw [hX2]
                    clear hX2 hd3 hB3
                    go_wp2_with fail
                    cases u2 with
                    | false =>
                      go_quiet ((go_at_call 46; with_reducible refine Calls.quiet_of_same (n := _) (HH2.out _)))
                      clear hc2 ct HH2
                      go_wp2_with fail
                      go_roundw
                      case rel => exact ⟨j + 1, by go_num, by omega, by rw [HS1.out]; rfl, by rw [HS2.out]; rfl, bl_drewN hB5 _⟩
                      case measure => simp [intOf]; omega
                    | true =>
                      go_quiet ((go_at_call 46; with_reducible refine Calls.quiet_of_same (n := _) (HH2.out _)))
                      clear hc2 ct HH2
                      go_wp2_with fail
                      go_roundw
                      case rel => exact ⟨j + 1, by go_num, by omega, by rw [HS1.out]; rfl, by rw [HS2.out]; rfl, bl_drewN hB5 _⟩
                      case measure => simp [intOf]; omega
                  | true =>
                    go_quiet ((go_at_call 46; with_reducible refine Calls.quiet_of_same (n := _) (HH1.out _)))
                    clear hc1 ct HH1
                    obtain ⟨X2, hX2⟩ : ∃ V, wr.drewN nq = V := ⟨_, rfl⟩
                    have hd3 : Below wr.heap.size wr X2 := by rw [← hX2]; exact bl_drewN (Below.refl _ _) _
                    have hB5 := bl_call hB3 hd3 (Nat.le_refl _)
                    have hc2 := getc hd3 HC2.out
                    have ct := getc hB5 HCU.out
                    have HH2 : Hid (∀ z, Calls Try.prog 46 #[.slice A2 n2 c2, .int .i64 t] (World.drewN X2 z) (fun e w' => e = .returned (.bool d2) ∧ w' = World.drewN X2 z)) := fun z => (has_any (c := c2) t _ ((HX2i.out.keep IntR.good (Keeps.below hd3)).keep IntR.good (Keeps.drewN _ _))).mono fun e w' hh => ⟨by rw [hh.1, HD2.out], hh.2.symm⟩
                    rw [hX2]
                    clear hX2 hd3 hB3
                    go_wp2_with fail
                    cases u2 with
                    | false =>
                      go_quiet ((go_at_call 46; with_reducible refine Calls.quiet_of_same (n := _) (HH2.out _)))
                      clear hc2 ct HH2
                      go_wp2_with fail
                      go_roundw
                      case rel => exact ⟨j + 1, by go_num, by omega, by rw [HS1.out]; rfl, by rw [HS2.out]; rfl, bl_drewN hB5 _⟩
                      case measure => simp [intOf]; omega
                    | true =>
                      go_quiet ((go_at_call 46; with_reducible refine Calls.quiet_of_same (n := _) (HH2.out _)))
                      clear hc2 ct HH2
                      go_wp2_with fail
                      go_roundw
                      case rel => exact ⟨j + 1, by go_num, by omega, by rw [HS1.out]; rfl, by rw [HS2.out]; rfl, bl_drewN hB5 _⟩
                      case measure => simp [intOf]; omega
                · have hmj : m = j := by omega
                  subst hmj
                  have hji : ¬ (m : Int) < m := by omega
                  rw [HUT.out]
                  obtain ⟨sb, hsb⟩ : ∃ b, usedK LL t m = b := ⟨_, rfl⟩
                  rw [hsb]
                  have hB6 := bl_call hB2 hB3 (Nat.le_refl _)
                  clear hj hjm
                  cases lb with
                  | false =>
                    go_wp2_with fail
                    go_roundw
                    case rel => exact ⟨(i9 + 1) + 1, by go_num, by omega, hB6⟩
                    case measure => simp [intOf]; omega
                  | true =>
                    have hst := HST.out rfl
                    rw [hsb] at hst
                    subst hst
                    go_wp2_with fail
                    go_roundw
                    case rel => exact ⟨(i9 + 1) + 1, by go_num, by omega, hB6⟩
                    case measure => simp [intOf]; omega
          · have hnk : nS = k := by omega
            subst hnk
            have hki : ¬ (nS : Int) < nS := by omega
            clear hk hlt
            have b6 := bl_call b5 hB (Nat.le_refl _)
            obtain ⟨tv, htv⟩ : ∃ t, turnL xs 3 = t := ⟨_, rfl⟩
            have HTV := Lib.hid htv
            obtain ⟨kt, hkt⟩ : ∃ r, tv % n = r := ⟨_, rfl⟩
            have hktn : kt < n := by rw [← hkt]; exact Nat.mod_lt _ (by omega)
            have hmod : ((tv : Int)).tmod (n : Int) = (kt : Int) := by
              rw [Int.tmod_eq_emod_of_nonneg (by omega), ← hkt]; rfl
            have hmz : ¬ (n : Int) = 0 := by omega
            have hmz3 : ¬ n = 0 := by omega
            have hmz2 : ((n : Int) == 0) = false := by simp; omega
            clear htv hkt
            have HQ9 := Lib.hid (HQ8.out kt (by rw [Hn.out]; exact hktn))
            go_wp2_with fail
            refine wp_region_list (fun W => Below wr.heap.size wr W) (fun w w' => Below w.heap.size w w')
              [isV (.slice D xn xc), isV (.int .i64 tv), isV (.pointer (some ⟨g0, 3, none⟩)), isV (.slice A n ca), isV (.int .i64 n), isV (.int .i64 kt)]
              (by kernel_rfl) (by kernel_rfl) (by kernel_rfl) (by simp) (by simp) (Below.refl _ _).drew ?stab ?step ?fin
            case stab => exact (StabL.is (StabL.is (StabL.is (StabL.is (StabL.is (StabL.is StabL.nil))))))
            case step =>
              refine StepsL.is ?_ (StepsL.is ?_ (StepsL.is ?_ (StepsL.is ?_ (StepsL.is ?_ (StepsL.is ?_ StepsL.nil)))))
              all_goals
                intro vs W K hC hD hU hK
                simp only [fillA, Act.put, List.setIfInBounds_toArray, List.set_cons_zero, List.set_cons_succ, Nat.zero_add, Nat.reduceAdd] at hK ⊢
                simp [waits, Region.binds] at hD
                try simp only [envOf, List.getD_cons_succ, List.getD_cons_zero, isV] at hD
                try simp only [hD] at hK ⊢
              · go_simp; exact hK _ hC (Below.refl _ _)
              · go_simp
                refine (turn_any 3 W (HX.out.keep ByteR.good (Keeps.below (bl_call b6 hC (Nat.le_refl _))))).mono ?_
                rintro e w' ⟨rfl, rfl⟩
                rw [HTV.out]
                exact hK _ hC (Below.refl _ _)
              · go_simp; exact hK _ hC (Below.refl _ _)
              · obtain ⟨x0, x1, x2, x3, x4⟩ := kk.out W (bl_call b6 hC (Nat.le_refl _))
                go_simp; exact hK _ hC (Below.refl _ _)
              · go_simp; exact hK _ hC (Below.refl _ _)
              · go_simp; exact hK _ hC (Below.refl _ _)
            case fin =>
              intro vs W hC hE hU
              have e5 : vs 5 = .int .i64 kt := hE 5 (by simp)
              simp only [fillA, Act.put, List.setIfInBounds_toArray, List.set_cons_zero, List.set_cons_succ, Nat.zero_add, Nat.reduceAdd, e5]
              obtain ⟨u0, hu0⟩ : ∃ v0, vs 0 = v0 := ⟨_, rfl⟩
              obtain ⟨u1, hu1⟩ : ∃ v0, vs 1 = v0 := ⟨_, rfl⟩
              obtain ⟨u2, hu2⟩ : ∃ v0, vs 2 = v0 := ⟨_, rfl⟩
              obtain ⟨u3, hu3⟩ : ∃ v0, vs 3 = v0 := ⟨_, rfl⟩
              obtain ⟨u4, hu4⟩ : ∃ v0, vs 4 = v0 := ⟨_, rfl⟩
              rw [hu0, hu1, hu2, hu3, hu4]
              clear hu0 hu1 hu2 hu3 hu4
              clear hE hU e5 hmod hmz hmz2 hmz3
              have b7 := bl_call b6 hC (Nat.le_refl _)
              have hI := (HSM.out.keep IntR.good (Keeps.below hB)).keep IntR.good (Keeps.below hC)
              clear hC b6 hB
              obtain ⟨hb, hhb⟩ : ∃ b, decide ((kt : Int) ∈ S1) = b := ⟨_, rfl⟩
              have HHB := Lib.hid hhb
              clear hhb
              go_simp
              go_wp2_with fail
              refine (has_any (kt : Int) W hI).mono ?_
              rintro e w2 ⟨rfl, rfl⟩
              rw [HHB.out]
              clear hI
              cases hb with
              | false =>
                have hw : withoutR h l kt = true := by
                  rcases HQ9.out with h9 | h9
                  · exact absurd h9 (of_decide_eq_false HHB.out)
                  · exact h9
                have HW := Lib.hid hw
                clear hw
                obtain ⟨x0, x1, x2, x3, x4⟩ := kk.out _ b7
                go_wp2_with fail
                clear x0 x1 x2 x3 x4
                refine (rwithout_any (ca := ca) (cb := cb) (cc := cc) (kt : Int) _ (HG.out.keep (Keeps.below b7)) (HS.out.keep SeenR.good (Keeps.below b7)) h1 h2 h3 HH0.out).mono ?_
                rintro e w3 ⟨rfl, c8⟩
                rw [HW.out]
                have b8 := bl_call b7 c8 (Nat.le_refl _)
                go_wp2_with fail
                refine (awake_any w3).mono ?_
                rintro e Vz ⟨rfl, cz⟩
                go_wp2
                go_ret
                exact ⟨by rfl, bl_call HBW.out (bl_call b8 cz (Nat.le_refl _)) (Nat.le_refl _)⟩
              | true =>
                go_wp2_with fail
                refine (awake_any _).mono ?_
                rintro e Vz ⟨rfl, cz⟩
                go_wp2
                go_ret
                exact ⟨by rfl, bl_call HBW.out (bl_call b7 cz (Nat.le_refl _)) (Nat.le_refl _)⟩

end Go.Proofs.Ytpbimgafafkjgaa
