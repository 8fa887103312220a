/- Walks: the law of the examples. -/
import Derived.Test.YtkbpmcpmcmnfgaaDoorCLaw6
set_option linter.unusedVariables false
set_option linter.unusedSimpArgs false
set_option linter.all false
namespace Go.Proofs.YtkbpmcpmcmnfgaaDoor
open Go.RowKit

set_option maxRecDepth 100000 in
set_option maxHeartbeats 8000000 in
theorem known_any (w : World) (htab : TabOk w) :
    Calls Tryd.prog 6 #[] w fun e w' => e = .returned (.bool true) ∧ Below w.heap.size w w' := by
  go_enter Tryd.func6, Tryd.ntmps6
  go_wp2_with fail
  refine (claim_any (S := fun _ => True) (l := []) _ (.inl ⟨rfl, rfl, rfl, rfl⟩)).mono ?_
  rintro e w1 ⟨A1, B1, C1, ca1, cb1, cc1, rfl, ha1, hb1, hc1, hk1⟩
  go_wp2_with fail
  refine (one_any 2 47 _).mono ?_
  rintro e w2 ⟨M2, m2, rfl, hM2, hk2⟩
  go_wp2_with fail
  refine (claim_any (l := [⟨2, 47⟩]) _ (.inr ⟨rfl, 2, 47, rfl, hM2⟩)).mono ?_
  rintro e w5 ⟨A2, B2, C2, ca2, cb2, cc2, rfl, ha2, hb2, hc2, hk3⟩
  have hB5 : Below w.heap.size w w5 := bl_call (bl_call hk1 hk2 (Nat.le_refl _)) hk3 (Nat.le_refl _)
  have hd1 : ClaimAt (fun _ => True) w5 A1 3 B1 3 C1 2 (claimC []) := (hc1.mono' (fun _ _ => trivial)).keep (Keeps.below (bl_call hk2 hk3 (Nat.le_refl _)))
  have hd2 : ClaimAt (fun _ => True) w5 A2 3 B2 3 C2 3 (claimC [⟨2, 47⟩]) := hc2.mono' (fun _ _ => trivial)
  have ht5 := htab.bl hB5
  clear hc1 hc2 hM2 hk1 hk2 hk3 htab
  go_wp2_with fail
  obtain ⟨W0, hW0⟩ : ∃ W0, (w5.alloc (.cells #[.slice A1 3 ca1, .slice B1 3 cb1, .slice C1 2 cc1] 26)).alloc (.cells #[.slice A2 3 ca2, .slice B2 3 cb2, .slice C2 3 cc2] 26) = W0 := ⟨_, rfl⟩
  have h50 : Below w5.heap.size w5 W0 := by rw [← hW0]; exact bl_alloc (bl_alloc (Below.refl _ _) _ (Nat.le_refl _)) _ (Nat.le_refl _)
  have X1 : Blk W0 w5.heap.size 26 #[.slice A1 3 ca1, .slice B1 3 cb1, .slice C1 2 cc1] := by rw [← hW0]; exact (Blk.new _ _ _ rfl).alloc _
  have X2 : Blk W0 (w5.heap.size + 1) 26 #[.slice A2 3 ca2, .slice B2 3 cb2, .slice C2 3 cc2] := by rw [← hW0]; exact Blk.new _ _ _ (by simp)
  rw [hW0]
  have e1 := hd1.keep (Keeps.below h50)
  have e2 := hd2.keep (Keeps.below h50)
  have t0 := ht5.bl h50
  have hB0 := bl_call hB5 h50 (Nat.le_refl _)
  clear hW0 h50 hd1 hd2 ht5 hB5
  refine (bsets_any W0 t0 e1 ha1 hb1).mono ?_
  rintro e v1 ⟨As, ns, cs, rfl, hRs, h1⟩
  rw [ex2_sets] at hRs ⊢
  have q0 := (X2.bl h1).cell 0
  have q1 := (X2.bl h1).cell 1
  have q2 := (X2.bl h1).cell 2
  go_wp2_with fail
  clear q0 q1 q2
  refine (bmust_any v1 (t0.bl h1) (e2.keep (Keeps.below h1)) ha2 hb2).mono ?_
  rintro e v2 ⟨Am, nm, cm, Ay, ny, cy, rfl, hIm, hIy, hv2⟩
  rw [ex2_must] at hIm hIy ⊢
  have h2 := bl_call h1 hv2 (Nat.le_refl _)
  have q0 := (X1.bl h2).cell 0
  have q1 := (X1.bl h2).cell 1
  have q2 := (X1.bl h2).cell 2
  go_wp2_with fail
  clear q0 q1 q2
  refine (bamount_any 1 v2 (e1.keep (Keeps.below h2)) ha1 hb1).mono ?_
  rintro e v3 ⟨rfl, hv3⟩
  rw [ex2_amount1]
  have h3 : Below W0.heap.size W0 (v3.alloc (.cells #[.int .i64 0, .int .i64 1] 44)) := bl_alloc (bl_call h2 hv3 (Nat.le_refl _)) _ (Nat.le_refl _)
  have Y1 : Blk (v3.alloc (.cells #[.int .i64 0, .int .i64 1] 44)) v3.heap.size 44 #[.int .i64 0, .int .i64 1] := Blk.new _ _ _ rfl
  have q0 := (X1.bl h3).cell 0
  have q1 := (X1.bl h3).cell 1
  have q2 := (X1.bl h3).cell 2
  go_wp2_with fail
  clear q0 q1 q2
  have hv2m : Below v2.heap.size v2 (v3.alloc (.cells #[.int .i64 0, .int .i64 1] 44)) := bl_alloc hv3 _ (Nat.le_refl _)
  obtain ⟨v3e, hv3e⟩ : ∃ v3e, v3.alloc (.cells #[.int .i64 0, .int .i64 1] 44) = v3e := ⟨_, rfl⟩
  rw [hv3e] at h3 Y1 hv2m ⊢
  clear hv3e
  refine (bamount_any 2 v3e (e1.keep (Keeps.below h3)) ha1 hb1).mono ?_
  rintro e v4 ⟨rfl, hv4⟩
  rw [ex2_amount2]
  have h4 : Below W0.heap.size W0 (v4.alloc (.cells #[.int .i64 0, .int .i64 1] 44)) := bl_alloc (bl_call h3 hv4 (Nat.le_refl _)) _ (Nat.le_refl _)
  have Y2 : Blk (v4.alloc (.cells #[.int .i64 0, .int .i64 1] 44)) v4.heap.size 44 #[.int .i64 0, .int .i64 1] := Blk.new _ _ _ rfl
  have q0 := (X1.bl h4).cell 0
  have q1 := (X1.bl h4).cell 1
  have q2 := (X1.bl h4).cell 2
  go_wp2_with fail
  clear q0 q1 q2
  have hv3m : Below v3e.heap.size v3e (v4.alloc (.cells #[.int .i64 0, .int .i64 1] 44)) := bl_alloc hv4 _ (Nat.le_refl _)
  obtain ⟨v4e, hv4e⟩ : ∃ v4e, v4.alloc (.cells #[.int .i64 0, .int .i64 1] 44) = v4e := ⟨_, rfl⟩
  rw [hv4e] at h4 Y2 hv3m ⊢
  clear hv4e
  refine (bplainest_any v4e (t0.bl h4) (e1.keep (Keeps.below h4)) ha1 hb1).mono ?_
  rintro e v5 ⟨Ap, np, cp, rfl, hIp, hv5⟩
  rw [ex2_plain] at hIp ⊢
  have h5 := bl_call h4 hv5 (Nat.le_refl _)
  have q0 := (X1.bl h5).cell 0
  have q1 := (X1.bl h5).cell 1
  have q2 := (X1.bl h5).cell 2
  go_wp2_with fail
  clear q0 q1 q2
  refine (bwrong_any v5 (e1.keep (Keeps.below h5)) ha1 hb1).mono ?_
  rintro e v9 ⟨Aw, nw, cw, rfl, hIw, hv9⟩
  rw [ex2_wrong] at hIw ⊢
  have h9 := bl_call h5 hv9 (Nat.le_refl _)
  have hnn : nw = 0 := hIw.len.symm
  subst hnn
  have k59 := hv9
  have k49 := bl_call hv5 k59 (Nat.le_refl _)
  have k39 := bl_call hv3m k49 (Nat.le_refl _)
  have k29 := bl_call hv2m k39 (Nat.le_refl _)
  have k19 := bl_call hv2 k29 (Nat.le_refl _)
  have rs := Lib.hid (hRs.keep (SlR.good IntR.good) (Keeps.below k19))
  have rm := Lib.hid (hIm.keep IntR.good (Keeps.below k29))
  have ry := Lib.hid (hIy.keep IntR.good (Keeps.below k29))
  have rp := Lib.hid (hIp.keep IntR.good (Keeps.below k59))
  have y1 := Y1.bl k39
  have y2 := Y2.bl k49
  have t9 := t0.bl h9
  have hB9 := bl_call hB0 h9 (Nat.le_refl _)
  have kk : Hid (∀ W, Below v9.heap.size v9 W → W.cell? ⟨v3.heap.size, 0, none⟩ = some (.int .i64 0) ∧ W.cell? ⟨v3.heap.size, 1, none⟩ = some (.int .i64 1) ∧ W.cell? ⟨v4.heap.size, 0, none⟩ = some (.int .i64 0) ∧ W.cell? ⟨v4.heap.size, 1, none⟩ = some (.int .i64 1)) :=
    fun W hb => ⟨(y1.bl hb).c0, (y1.bl hb).c1, (y2.bl hb).c0, (y2.bl hb).c1⟩
  clear hRs hIm hIy hIp hIw k59 k49 k39 k29 k19 hv2 hv2m hv3 hv3m hv4 hv5 hv9 h1 h2 h3 h4 h5 h9 Y1 Y2 y1 y2 X1 X2 e1 e2 t0 hB0
  go_wp2
  refine wp_frame ?_
  intro a0 hsz hget hdf
  have b4 : a0.tmps[4]? = some (.int .i64 0) := (hget 4).trans (by kernel_rfl)
  have b7 : a0.tmps[7]? = some (.int .i64 0) := (hget 7).trans (by kernel_rfl)
  have b9 : a0.tmps[9]? = some (.int .i64 0) := (hget 9).trans (by kernel_rfl)
  have b11 : a0.tmps[11]? = some (.int .i64 0) := (hget 11).trans (by kernel_rfl)
  have b13 : a0.tmps[13]? = some (.int .i64 0) := (hget 13).trans (by kernel_rfl)
  have b15 : a0.tmps[15]? = some (.int .i64 0) := (hget 15).trans (by kernel_rfl)
  have b3 : a0.tmps[3]? = some (.slice As ns cs) := (hget 3).trans (by kernel_rfl)
  have b5 : a0.tmps[5]? = some (.slice Am nm cm) := (hget 5).trans (by kernel_rfl)
  have b6 : a0.tmps[6]? = some (.slice Ay ny cy) := (hget 6).trans (by kernel_rfl)
  have b8 : a0.tmps[8]? = some (.pointer (some ⟨v3.heap.size, 0, none⟩)) := (hget 8).trans (by kernel_rfl)
  have b10 : a0.tmps[10]? = some (.pointer (some ⟨v4.heap.size, 0, none⟩)) := (hget 10).trans (by kernel_rfl)
  have b12 : a0.tmps[12]? = some (.slice Ap np cp) := (hget 12).trans (by kernel_rfl)
  have b14 : a0.tmps[14]? = some (.slice Aw 0 cw) := (hget 14).trans (by kernel_rfl)
  replace hsz : a0.tmps.size = 111 := hsz.trans (by kernel_rfl)
  replace hdf : a0.defers = [] := hdf
  clear hget
  refine wp_region_list (fun W => Below v9.heap.size v9 W) (fun w w' => Below w.heap.size w w')
    [isV (.int .i64 0), isV (.bool true), isV (.bool true), isV (.int .i64 0), isV (.bool true), isV (.bool true), isV (.bool true), isV (.int .i64 0), isV (.bool true), isV (.bool true), isV (.bool true), isV (.int .i64 0), isV (.bool true), isV (.bool true), isV (.bool true), isV (.int .i64 0), isV (.bool true), isV (.bool true), isV (.bool true), isV (.int .i64 0), isV (.bool true), isV (.bool true), isV (.bool true), isV (.slice As ns cs), IsInts v9.heap.size [0], IsRows v9.heap.size [[0]], isV (.bool true), isV (.bool true), isV (.bool true), isV (.slice Am nm cm), IsInts v9.heap.size [0, 1], isV (.bool true), isV (.bool true), isV (.bool true), isV (.slice Ay ny cy), IsInts v9.heap.size [0, 1, 2], isV (.bool true), isV (.bool true), isV (.bool true), isV (.agg #[.int .i64 0, .int .i64 1]), isV (.agg #[.int .i64 0, .int .i64 1]), isV (.bool true), isV (.bool true), isV (.bool true), isV (.agg #[.int .i64 0, .int .i64 1]), isV (.agg #[.int .i64 0, .int .i64 1]), isV (.bool true), isV (.bool true), isV (.bool true), isV (.slice Ap np cp), IsInts v9.heap.size [2, 0, 0], isV (.bool true), isV (.bool true), isV (.bool true), isV (.slice Aw 0 cw), isV (.int .i64 0), isV (.bool true), isV (.bool true), isV (.bool true), isV (.bool true), isV (.bool true), isV (.bool true)]
    (by kernel_rfl) (by kernel_rfl) (by kernel_rfl) (by simp) (by simp) (Below.refl _ _).drew ?stabA ?stepA ?finA
  case stabA => exact (StabL.is (StabL.is (StabL.is (StabL.is (StabL.is (StabL.is (StabL.is (StabL.is (StabL.is (StabL.is (StabL.is (StabL.is (StabL.is (StabL.is (StabL.is (StabL.is (StabL.is (StabL.is (StabL.is (StabL.is (StabL.is (StabL.is (StabL.is (StabL.is (StabL.cons (fun v W V hC hX h => h.bl hX) (StabL.cons (fun v W V hC hX h => h.bl hX) (StabL.is (StabL.is (StabL.is (StabL.is (StabL.cons (fun v W V hC hX h => h.bl hX) (StabL.is (StabL.is (StabL.is (StabL.is (StabL.cons (fun v W V hC hX h => h.bl hX) (StabL.is (StabL.is (StabL.is (StabL.is (StabL.is (StabL.is (StabL.is (StabL.is (StabL.is (StabL.is (StabL.is (StabL.is (StabL.is (StabL.is (StabL.cons (fun v W V hC hX h => h.bl hX) (StabL.is (StabL.is (StabL.is (StabL.is (StabL.is (StabL.is (StabL.is (StabL.is (StabL.is (StabL.is (StabL.is StabL.nil))))))))))))))))))))))))))))))))))))))))))))))))))))))))))))))
  case stepA =>
    refine StepsL.isA ?_ (StepsL.isA ?_ (StepsL.isA ?_ (StepsL.isA ?_ (StepsL.isA ?_ (StepsL.isA ?_ (StepsL.isA ?_ (StepsL.isA ?_ (StepsL.isA ?_ (StepsL.isA ?_ (StepsL.isA ?_ (StepsL.isA ?_ (StepsL.isA ?_ (StepsL.isA ?_ (StepsL.isA ?_ (StepsL.isA ?_ (StepsL.isA ?_ (StepsL.isA ?_ (StepsL.isA ?_ (StepsL.isA ?_ (StepsL.isA ?_ (StepsL.isA ?_ (StepsL.isA ?_ (StepsL.isA ?_ (StepsL.consA ?_ (StepsL.consA ?_ (StepsL.isA ?_ (StepsL.isA ?_ (StepsL.isA ?_ (StepsL.isA ?_ (StepsL.consA ?_ (StepsL.isA ?_ (StepsL.isA ?_ (StepsL.isA ?_ (StepsL.isA ?_ (StepsL.consA ?_ (StepsL.isA ?_ (StepsL.isA ?_ (StepsL.isA ?_ (StepsL.isA ?_ (StepsL.isA ?_ (StepsL.isA ?_ (StepsL.isA ?_ (StepsL.isA ?_ (StepsL.isA ?_ (StepsL.isA ?_ (StepsL.isA ?_ (StepsL.isA ?_ (StepsL.isA ?_ (StepsL.isA ?_ (StepsL.consA ?_ (StepsL.isA ?_ (StepsL.isA ?_ (StepsL.isA ?_ (StepsL.isA ?_ (StepsL.isA ?_ (StepsL.isA ?_ (StepsL.isA ?_ (StepsL.isA ?_ (StepsL.isA ?_ (StepsL.isA ?_ (StepsL.isA ?_ StepsL.nil)))))))))))))))))))))))))))))))))))))))))))))))))))))))))))))
    · -- 0
      intro vs a W K ha hC hD hU hK
      have r4 : a.tmps[4]? = some (.int .i64 0) := by rw [ha, fillA_base0 (by kernel_rfl)]; exact b4
      clear ha hU hD
      rw [if_pos (by rfl)]
      go_simp
      exact hK _ hC (Below.refl _ _)
    · -- 1
      intro vs a W K ha hC hD hU hK
      have r50 : a.tmps[50]? = some (vs 0) := by rw [ha]; exact fillA_get0 (j := 0) (by kernel_rfl) (by rw [hsz]; decide)
      have q0 : vs 0 = .int .i64 0 := hD 0 (by simp [waits, Region.binds])
      rw [q0] at r50
      clear ha hU hD
      rw [if_pos (by rfl)]
      go_simp
      exact hK _ hC (Below.refl _ _)
    · -- 2
      intro vs a W K ha hC hD hU hK
      have r51 : a.tmps[51]? = some (vs 1) := by rw [ha]; exact fillA_get0 (j := 1) (by kernel_rfl) (by rw [hsz]; decide)
      have q1 : vs 1 = .bool true := hD 1 (by simp [waits, Region.binds])
      rw [q1] at r51
      clear ha hU hD
      rw [if_pos (by rfl)]
      go_simp
      exact hK _ hC (Below.refl _ _)
    · -- 3
      intro vs a W K ha hC hD hU hK
      have r52 : a.tmps[52]? = some (vs 2) := by rw [ha]; exact fillA_get0 (j := 2) (by kernel_rfl) (by rw [hsz]; decide)
      have q2 : vs 2 = .bool true := hD 2 (by simp [waits, Region.binds])
      rw [q2] at r52
      have r7 : a.tmps[7]? = some (.int .i64 0) := by rw [ha, fillA_base0 (by kernel_rfl)]; exact b7
      clear ha hU hD
      rw [if_pos (by simp [Region.wanted, yielded, r52])]
      go_simp
      exact hK _ hC (Below.refl _ _)
    · -- 4
      intro vs a W K ha hC hD hU hK
      have r52 : a.tmps[52]? = some (vs 2) := by rw [ha]; exact fillA_get0 (j := 2) (by kernel_rfl) (by rw [hsz]; decide)
      have q2 : vs 2 = .bool true := hD 2 (by simp [waits, Region.binds])
      rw [q2] at r52
      have r53 : a.tmps[53]? = some (vs 3) := by rw [ha]; exact fillA_get0 (j := 3) (by kernel_rfl) (by rw [hsz]; decide)
      have q3 : vs 3 = .int .i64 0 := hD 3 (by simp [waits, Region.binds])
      rw [q3] at r53
      clear ha hU hD
      rw [if_pos (by simp [Region.wanted, yielded, r52])]
      go_simp
      exact hK _ hC (Below.refl _ _)
    · -- 5
      intro vs a W K ha hC hD hU hK
      have r52 : a.tmps[52]? = some (vs 2) := by rw [ha]; exact fillA_get0 (j := 2) (by kernel_rfl) (by rw [hsz]; decide)
      have q2 : vs 2 = .bool true := hD 2 (by simp [waits, Region.binds])
      rw [q2] at r52
      have r54 : a.tmps[54]? = some (vs 4) := by rw [ha]; exact fillA_get0 (j := 4) (by kernel_rfl) (by rw [hsz]; decide)
      have q4 : vs 4 = .bool true := hD 4 (by simp [waits, Region.binds])
      rw [q4] at r54
      clear ha hU hD
      rw [if_pos (by rfl)]
      go_simp
      exact hK _ hC (Below.refl _ _)
    · -- 6
      intro vs a W K ha hC hD hU hK
      have r55 : a.tmps[55]? = some (vs 5) := by rw [ha]; exact fillA_get0 (j := 5) (by kernel_rfl) (by rw [hsz]; decide)
      have q5 : vs 5 = .bool true := hD 5 (by simp [waits, Region.binds])
      rw [q5] at r55
      clear ha hU hD
      rw [if_pos (by rfl)]
      go_simp
      exact hK _ hC (Below.refl _ _)
    · -- 7
      intro vs a W K ha hC hD hU hK
      have r56 : a.tmps[56]? = some (vs 6) := by rw [ha]; exact fillA_get0 (j := 6) (by kernel_rfl) (by rw [hsz]; decide)
      have q6 : vs 6 = .bool true := hD 6 (by simp [waits, Region.binds])
      rw [q6] at r56
      have r9 : a.tmps[9]? = some (.int .i64 0) := by rw [ha, fillA_base0 (by kernel_rfl)]; exact b9
      clear ha hU hD
      rw [if_pos (by simp [Region.wanted, yielded, r56])]
      go_simp
      exact hK _ hC (Below.refl _ _)
    · -- 8
      intro vs a W K ha hC hD hU hK
      have r56 : a.tmps[56]? = some (vs 6) := by rw [ha]; exact fillA_get0 (j := 6) (by kernel_rfl) (by rw [hsz]; decide)
      have q6 : vs 6 = .bool true := hD 6 (by simp [waits, Region.binds])
      rw [q6] at r56
      have r57 : a.tmps[57]? = some (vs 7) := by rw [ha]; exact fillA_get0 (j := 7) (by kernel_rfl) (by rw [hsz]; decide)
      have q7 : vs 7 = .int .i64 0 := hD 7 (by simp [waits, Region.binds])
      rw [q7] at r57
      clear ha hU hD
      rw [if_pos (by simp [Region.wanted, yielded, r56])]
      go_simp
      exact hK _ hC (Below.refl _ _)
    · -- 9
      intro vs a W K ha hC hD hU hK
      have r56 : a.tmps[56]? = some (vs 6) := by rw [ha]; exact fillA_get0 (j := 6) (by kernel_rfl) (by rw [hsz]; decide)
      have q6 : vs 6 = .bool true := hD 6 (by simp [waits, Region.binds])
      rw [q6] at r56
      have r58 : a.tmps[58]? = some (vs 8) := by rw [ha]; exact fillA_get0 (j := 8) (by kernel_rfl) (by rw [hsz]; decide)
      have q8 : vs 8 = .bool true := hD 8 (by simp [waits, Region.binds])
      rw [q8] at r58
      clear ha hU hD
      rw [if_pos (by rfl)]
      go_simp
      exact hK _ hC (Below.refl _ _)
    · -- 10
      intro vs a W K ha hC hD hU hK
      have r59 : a.tmps[59]? = some (vs 9) := by rw [ha]; exact fillA_get0 (j := 9) (by kernel_rfl) (by rw [hsz]; decide)
      have q9 : vs 9 = .bool true := hD 9 (by simp [waits, Region.binds])
      rw [q9] at r59
      clear ha hU hD
      rw [if_pos (by rfl)]
      go_simp
      exact hK _ hC (Below.refl _ _)
    · -- 11
      intro vs a W K ha hC hD hU hK
      have r60 : a.tmps[60]? = some (vs 10) := by rw [ha]; exact fillA_get0 (j := 10) (by kernel_rfl) (by rw [hsz]; decide)
      have q10 : vs 10 = .bool true := hD 10 (by simp [waits, Region.binds])
      rw [q10] at r60
      have r11 : a.tmps[11]? = some (.int .i64 0) := by rw [ha, fillA_base0 (by kernel_rfl)]; exact b11
      clear ha hU hD
      rw [if_pos (by simp [Region.wanted, yielded, r60])]
      go_simp
      exact hK _ hC (Below.refl _ _)
    · -- 12
      intro vs a W K ha hC hD hU hK
      have r60 : a.tmps[60]? = some (vs 10) := by rw [ha]; exact fillA_get0 (j := 10) (by kernel_rfl) (by rw [hsz]; decide)
      have q10 : vs 10 = .bool true := hD 10 (by simp [waits, Region.binds])
      rw [q10] at r60
      have r61 : a.tmps[61]? = some (vs 11) := by rw [ha]; exact fillA_get0 (j := 11) (by kernel_rfl) (by rw [hsz]; decide)
      have q11 : vs 11 = .int .i64 0 := hD 11 (by simp [waits, Region.binds])
      rw [q11] at r61
      clear ha hU hD
      rw [if_pos (by simp [Region.wanted, yielded, r60])]
      go_simp
      exact hK _ hC (Below.refl _ _)
    · -- 13
      intro vs a W K ha hC hD hU hK
      have r60 : a.tmps[60]? = some (vs 10) := by rw [ha]; exact fillA_get0 (j := 10) (by kernel_rfl) (by rw [hsz]; decide)
      have q10 : vs 10 = .bool true := hD 10 (by simp [waits, Region.binds])
      rw [q10] at r60
      have r62 : a.tmps[62]? = some (vs 12) := by rw [ha]; exact fillA_get0 (j := 12) (by kernel_rfl) (by rw [hsz]; decide)
      have q12 : vs 12 = .bool true := hD 12 (by simp [waits, Region.binds])
      rw [q12] at r62
      clear ha hU hD
      rw [if_pos (by rfl)]
      go_simp
      exact hK _ hC (Below.refl _ _)
    · -- 14
      intro vs a W K ha hC hD hU hK
      have r63 : a.tmps[63]? = some (vs 13) := by rw [ha]; exact fillA_get0 (j := 13) (by kernel_rfl) (by rw [hsz]; decide)
      have q13 : vs 13 = .bool true := hD 13 (by simp [waits, Region.binds])
      rw [q13] at r63
      clear ha hU hD
      rw [if_pos (by rfl)]
      go_simp
      exact hK _ hC (Below.refl _ _)
    · -- 15
      intro vs a W K ha hC hD hU hK
      have r64 : a.tmps[64]? = some (vs 14) := by rw [ha]; exact fillA_get0 (j := 14) (by kernel_rfl) (by rw [hsz]; decide)
      have q14 : vs 14 = .bool true := hD 14 (by simp [waits, Region.binds])
      rw [q14] at r64
      have r13 : a.tmps[13]? = some (.int .i64 0) := by rw [ha, fillA_base0 (by kernel_rfl)]; exact b13
      clear ha hU hD
      rw [if_pos (by simp [Region.wanted, yielded, r64])]
      go_simp
      exact hK _ hC (Below.refl _ _)
    · -- 16
      intro vs a W K ha hC hD hU hK
      have r64 : a.tmps[64]? = some (vs 14) := by rw [ha]; exact fillA_get0 (j := 14) (by kernel_rfl) (by rw [hsz]; decide)
      have q14 : vs 14 = .bool true := hD 14 (by simp [waits, Region.binds])
      rw [q14] at r64
      have r65 : a.tmps[65]? = some (vs 15) := by rw [ha]; exact fillA_get0 (j := 15) (by kernel_rfl) (by rw [hsz]; decide)
      have q15 : vs 15 = .int .i64 0 := hD 15 (by simp [waits, Region.binds])
      rw [q15] at r65
      clear ha hU hD
      rw [if_pos (by simp [Region.wanted, yielded, r64])]
      go_simp
      exact hK _ hC (Below.refl _ _)
    · -- 17
      intro vs a W K ha hC hD hU hK
      have r64 : a.tmps[64]? = some (vs 14) := by rw [ha]; exact fillA_get0 (j := 14) (by kernel_rfl) (by rw [hsz]; decide)
      have q14 : vs 14 = .bool true := hD 14 (by simp [waits, Region.binds])
      rw [q14] at r64
      have r66 : a.tmps[66]? = some (vs 16) := by rw [ha]; exact fillA_get0 (j := 16) (by kernel_rfl) (by rw [hsz]; decide)
      have q16 : vs 16 = .bool true := hD 16 (by simp [waits, Region.binds])
      rw [q16] at r66
      clear ha hU hD
      rw [if_pos (by rfl)]
      go_simp
      exact hK _ hC (Below.refl _ _)
    · -- 18
      intro vs a W K ha hC hD hU hK
      have r67 : a.tmps[67]? = some (vs 17) := by rw [ha]; exact fillA_get0 (j := 17) (by kernel_rfl) (by rw [hsz]; decide)
      have q17 : vs 17 = .bool true := hD 17 (by simp [waits, Region.binds])
      rw [q17] at r67
      clear ha hU hD
      rw [if_pos (by rfl)]
      go_simp
      exact hK _ hC (Below.refl _ _)
    · -- 19
      intro vs a W K ha hC hD hU hK
      have r68 : a.tmps[68]? = some (vs 18) := by rw [ha]; exact fillA_get0 (j := 18) (by kernel_rfl) (by rw [hsz]; decide)
      have q18 : vs 18 = .bool true := hD 18 (by simp [waits, Region.binds])
      rw [q18] at r68
      have r15 : a.tmps[15]? = some (.int .i64 0) := by rw [ha, fillA_base0 (by kernel_rfl)]; exact b15
      clear ha hU hD
      rw [if_pos (by simp [Region.wanted, yielded, r68])]
      go_simp
      exact hK _ hC (Below.refl _ _)
    · -- 20
      intro vs a W K ha hC hD hU hK
      have r68 : a.tmps[68]? = some (vs 18) := by rw [ha]; exact fillA_get0 (j := 18) (by kernel_rfl) (by rw [hsz]; decide)
      have q18 : vs 18 = .bool true := hD 18 (by simp [waits, Region.binds])
      rw [q18] at r68
      have r69 : a.tmps[69]? = some (vs 19) := by rw [ha]; exact fillA_get0 (j := 19) (by kernel_rfl) (by rw [hsz]; decide)
      have q19 : vs 19 = .int .i64 0 := hD 19 (by simp [waits, Region.binds])
      rw [q19] at r69
      clear ha hU hD
      rw [if_pos (by simp [Region.wanted, yielded, r68])]
      go_simp
      exact hK _ hC (Below.refl _ _)
    · -- 21
      intro vs a W K ha hC hD hU hK
      have r68 : a.tmps[68]? = some (vs 18) := by rw [ha]; exact fillA_get0 (j := 18) (by kernel_rfl) (by rw [hsz]; decide)
      have q18 : vs 18 = .bool true := hD 18 (by simp [waits, Region.binds])
      rw [q18] at r68
      have r70 : a.tmps[70]? = some (vs 20) := by rw [ha]; exact fillA_get0 (j := 20) (by kernel_rfl) (by rw [hsz]; decide)
      have q20 : vs 20 = .bool true := hD 20 (by simp [waits, Region.binds])
      rw [q20] at r70
      clear ha hU hD
      rw [if_pos (by rfl)]
      go_simp
      exact hK _ hC (Below.refl _ _)
    · -- 22
      intro vs a W K ha hC hD hU hK
      have r71 : a.tmps[71]? = some (vs 21) := by rw [ha]; exact fillA_get0 (j := 21) (by kernel_rfl) (by rw [hsz]; decide)
      have q21 : vs 21 = .bool true := hD 21 (by simp [waits, Region.binds])
      rw [q21] at r71
      clear ha hU hD
      rw [if_pos (by rfl)]
      go_simp
      exact hK _ hC (Below.refl _ _)
    · -- 23
      intro vs a W K ha hC hD hU hK
      have r72 : a.tmps[72]? = some (vs 22) := by rw [ha]; exact fillA_get0 (j := 22) (by kernel_rfl) (by rw [hsz]; decide)
      have q22 : vs 22 = .bool true := hD 22 (by simp [waits, Region.binds])
      rw [q22] at r72
      have r3 : a.tmps[3]? = some (.slice As ns cs) := by rw [ha, fillA_base0 (by kernel_rfl)]; exact b3
      clear ha hU hD
      rw [if_pos (by simp [Region.wanted, yielded, r72])]
      go_simp
      exact hK _ hC (Below.refl _ _)
    · -- 24
      intro vs a W K ha hC hD hU hK
      have r72 : a.tmps[72]? = some (vs 22) := by rw [ha]; exact fillA_get0 (j := 22) (by kernel_rfl) (by rw [hsz]; decide)
      have q22 : vs 22 = .bool true := hD 22 (by simp [waits, Region.binds])
      rw [q22] at r72
      clear ha hU hD
      rw [if_pos (by simp [Region.wanted, yielded, r72])]
      go_simp
      exact hK _ _ (bl_alloc hC _ (Nat.le_refl _)) (bl_alloc (Below.refl _ _) _ (Nat.le_refl _)) ⟨_, _, _, rfl, ints_new W 3 #[.int .i64 (0)] [0] rfl rfl (by decide) hC.size⟩
    · -- 25
      intro vs a W K ha hC hD hU hK
      have r72 : a.tmps[72]? = some (vs 22) := by rw [ha]; exact fillA_get0 (j := 22) (by kernel_rfl) (by rw [hsz]; decide)
      have q22 : vs 22 = .bool true := hD 22 (by simp [waits, Region.binds])
      rw [q22] at r72
      have r74 : a.tmps[74]? = some (vs 24) := by rw [ha]; exact fillA_get0 (j := 24) (by kernel_rfl) (by rw [hsz]; decide)
      have q24 : IsInts v9.heap.size [0] (vs 24) W := hD 24 (by simp [waits, Region.binds])
      obtain ⟨A74, n74, c74, q24, hI74⟩ := q24
      rw [q24] at r74
      clear ha hU hD
      rw [if_pos (by simp [Region.wanted, yielded, r72])]
      go_simp
      exact hK _ _ (bl_alloc hC _ (Nat.le_refl _)) (bl_alloc (Below.refl _ _) _ (Nat.le_refl _)) ⟨_, _, _, rfl, rows_new W hI74 hC.size⟩
    · -- 26
      intro vs a W K ha hC hD hU hK
      have r72 : a.tmps[72]? = some (vs 22) := by rw [ha]; exact fillA_get0 (j := 22) (by kernel_rfl) (by rw [hsz]; decide)
      have q22 : vs 22 = .bool true := hD 22 (by simp [waits, Region.binds])
      rw [q22] at r72
      have r73 : a.tmps[73]? = some (vs 23) := by rw [ha]; exact fillA_get0 (j := 23) (by kernel_rfl) (by rw [hsz]; decide)
      have q23 : vs 23 = .slice As ns cs := hD 23 (by simp [waits, Region.binds])
      rw [q23] at r73
      have r75 : a.tmps[75]? = some (vs 25) := by rw [ha]; exact fillA_get0 (j := 25) (by kernel_rfl) (by rw [hsz]; decide)
      have q25 : IsRows v9.heap.size [[0]] (vs 25) W := hD 25 (by simp [waits, Region.binds])
      obtain ⟨A75, n75, c75, q25, hI75⟩ := q25
      rw [q25] at r75
      clear ha hU hD
      rw [if_pos (by simp [Region.wanted, yielded, r72])]
      go_simp
      refine (same_any W (rs.out.keep (SlR.good IntR.good) (Keeps.below hC)) hI75).mono ?_
      rintro e w' ⟨rfl, q, rfl⟩
      rw [decide_eq_true rfl]
      exact hK _ (bl_drewN hC q) (bl_drewN (Below.refl _ _) q)
    · -- 27
      intro vs a W K ha hC hD hU hK
      have r72 : a.tmps[72]? = some (vs 22) := by rw [ha]; exact fillA_get0 (j := 22) (by kernel_rfl) (by rw [hsz]; decide)
      have q22 : vs 22 = .bool true := hD 22 (by simp [waits, Region.binds])
      rw [q22] at r72
      have r76 : a.tmps[76]? = some (vs 26) := by rw [ha]; exact fillA_get0 (j := 26) (by kernel_rfl) (by rw [hsz]; decide)
      have q26 : vs 26 = .bool true := hD 26 (by simp [waits, Region.binds])
      rw [q26] at r76
      clear ha hU hD
      rw [if_pos (by rfl)]
      go_simp
      exact hK _ hC (Below.refl _ _)
    · -- 28
      intro vs a W K ha hC hD hU hK
      have r77 : a.tmps[77]? = some (vs 27) := by rw [ha]; exact fillA_get0 (j := 27) (by kernel_rfl) (by rw [hsz]; decide)
      have q27 : vs 27 = .bool true := hD 27 (by simp [waits, Region.binds])
      rw [q27] at r77
      clear ha hU hD
      rw [if_pos (by rfl)]
      go_simp
      exact hK _ hC (Below.refl _ _)
    · -- 29
      intro vs a W K ha hC hD hU hK
      have r78 : a.tmps[78]? = some (vs 28) := by rw [ha]; exact fillA_get0 (j := 28) (by kernel_rfl) (by rw [hsz]; decide)
      have q28 : vs 28 = .bool true := hD 28 (by simp [waits, Region.binds])
      rw [q28] at r78
      have r5 : a.tmps[5]? = some (.slice Am nm cm) := by rw [ha, fillA_base0 (by kernel_rfl)]; exact b5
      clear ha hU hD
      rw [if_pos (by simp [Region.wanted, yielded, r78])]
      go_simp
      exact hK _ hC (Below.refl _ _)
    · -- 30
      intro vs a W K ha hC hD hU hK
      have r78 : a.tmps[78]? = some (vs 28) := by rw [ha]; exact fillA_get0 (j := 28) (by kernel_rfl) (by rw [hsz]; decide)
      have q28 : vs 28 = .bool true := hD 28 (by simp [waits, Region.binds])
      rw [q28] at r78
      clear ha hU hD
      rw [if_pos (by simp [Region.wanted, yielded, r78])]
      go_simp
      exact hK _ _ (bl_alloc hC _ (Nat.le_refl _)) (bl_alloc (Below.refl _ _) _ (Nat.le_refl _)) ⟨_, _, _, rfl, ints_new W 3 #[.int .i64 (0), .int .i64 (1)] [0, 1] rfl rfl (by decide) hC.size⟩
    · -- 31
      intro vs a W K ha hC hD hU hK
      have r78 : a.tmps[78]? = some (vs 28) := by rw [ha]; exact fillA_get0 (j := 28) (by kernel_rfl) (by rw [hsz]; decide)
      have q28 : vs 28 = .bool true := hD 28 (by simp [waits, Region.binds])
      rw [q28] at r78
      have r79 : a.tmps[79]? = some (vs 29) := by rw [ha]; exact fillA_get0 (j := 29) (by kernel_rfl) (by rw [hsz]; decide)
      have q29 : vs 29 = .slice Am nm cm := hD 29 (by simp [waits, Region.binds])
      rw [q29] at r79
      have r80 : a.tmps[80]? = some (vs 30) := by rw [ha]; exact fillA_get0 (j := 30) (by kernel_rfl) (by rw [hsz]; decide)
      have q30 : IsInts v9.heap.size [0, 1] (vs 30) W := hD 30 (by simp [waits, Region.binds])
      obtain ⟨A80, n80, c80, q30, hI80⟩ := q30
      rw [q30] at r80
      clear ha hU hD
      rw [if_pos (by simp [Region.wanted, yielded, r78])]
      go_simp
      refine (ints_any W (rm.out.keep IntR.good (Keeps.below hC)) hI80).mono ?_
      rintro e w' ⟨rfl, q, rfl⟩
      rw [decide_eq_true rfl]
      exact hK _ (bl_drewN hC q) (bl_drewN (Below.refl _ _) q)
    · -- 32
      intro vs a W K ha hC hD hU hK
      have r78 : a.tmps[78]? = some (vs 28) := by rw [ha]; exact fillA_get0 (j := 28) (by kernel_rfl) (by rw [hsz]; decide)
      have q28 : vs 28 = .bool true := hD 28 (by simp [waits, Region.binds])
      rw [q28] at r78
      have r81 : a.tmps[81]? = some (vs 31) := by rw [ha]; exact fillA_get0 (j := 31) (by kernel_rfl) (by rw [hsz]; decide)
      have q31 : vs 31 = .bool true := hD 31 (by simp [waits, Region.binds])
      rw [q31] at r81
      clear ha hU hD
      rw [if_pos (by rfl)]
      go_simp
      exact hK _ hC (Below.refl _ _)
    · -- 33
      intro vs a W K ha hC hD hU hK
      have r82 : a.tmps[82]? = some (vs 32) := by rw [ha]; exact fillA_get0 (j := 32) (by kernel_rfl) (by rw [hsz]; decide)
      have q32 : vs 32 = .bool true := hD 32 (by simp [waits, Region.binds])
      rw [q32] at r82
      clear ha hU hD
      rw [if_pos (by rfl)]
      go_simp
      exact hK _ hC (Below.refl _ _)
    · -- 34
      intro vs a W K ha hC hD hU hK
      have r83 : a.tmps[83]? = some (vs 33) := by rw [ha]; exact fillA_get0 (j := 33) (by kernel_rfl) (by rw [hsz]; decide)
      have q33 : vs 33 = .bool true := hD 33 (by simp [waits, Region.binds])
      rw [q33] at r83
      have r6 : a.tmps[6]? = some (.slice Ay ny cy) := by rw [ha, fillA_base0 (by kernel_rfl)]; exact b6
      clear ha hU hD
      rw [if_pos (by simp [Region.wanted, yielded, r83])]
      go_simp
      exact hK _ hC (Below.refl _ _)
    · -- 35
      intro vs a W K ha hC hD hU hK
      have r83 : a.tmps[83]? = some (vs 33) := by rw [ha]; exact fillA_get0 (j := 33) (by kernel_rfl) (by rw [hsz]; decide)
      have q33 : vs 33 = .bool true := hD 33 (by simp [waits, Region.binds])
      rw [q33] at r83
      clear ha hU hD
      rw [if_pos (by simp [Region.wanted, yielded, r83])]
      go_simp
      exact hK _ _ (bl_alloc hC _ (Nat.le_refl _)) (bl_alloc (Below.refl _ _) _ (Nat.le_refl _)) ⟨_, _, _, rfl, ints_new W 3 #[.int .i64 (0), .int .i64 (1), .int .i64 (2)] [0, 1, 2] rfl rfl (by decide) hC.size⟩
    · -- 36
      intro vs a W K ha hC hD hU hK
      have r83 : a.tmps[83]? = some (vs 33) := by rw [ha]; exact fillA_get0 (j := 33) (by kernel_rfl) (by rw [hsz]; decide)
      have q33 : vs 33 = .bool true := hD 33 (by simp [waits, Region.binds])
      rw [q33] at r83
      have r84 : a.tmps[84]? = some (vs 34) := by rw [ha]; exact fillA_get0 (j := 34) (by kernel_rfl) (by rw [hsz]; decide)
      have q34 : vs 34 = .slice Ay ny cy := hD 34 (by simp [waits, Region.binds])
      rw [q34] at r84
      have r85 : a.tmps[85]? = some (vs 35) := by rw [ha]; exact fillA_get0 (j := 35) (by kernel_rfl) (by rw [hsz]; decide)
      have q35 : IsInts v9.heap.size [0, 1, 2] (vs 35) W := hD 35 (by simp [waits, Region.binds])
      obtain ⟨A85, n85, c85, q35, hI85⟩ := q35
      rw [q35] at r85
      clear ha hU hD
      rw [if_pos (by simp [Region.wanted, yielded, r83])]
      go_simp
      refine (ints_any W (ry.out.keep IntR.good (Keeps.below hC)) hI85).mono ?_
      rintro e w' ⟨rfl, q, rfl⟩
      rw [decide_eq_true rfl]
      exact hK _ (bl_drewN hC q) (bl_drewN (Below.refl _ _) q)
    · -- 37
      intro vs a W K ha hC hD hU hK
      have r83 : a.tmps[83]? = some (vs 33) := by rw [ha]; exact fillA_get0 (j := 33) (by kernel_rfl) (by rw [hsz]; decide)
      have q33 : vs 33 = .bool true := hD 33 (by simp [waits, Region.binds])
      rw [q33] at r83
      have r86 : a.tmps[86]? = some (vs 36) := by rw [ha]; exact fillA_get0 (j := 36) (by kernel_rfl) (by rw [hsz]; decide)
      have q36 : vs 36 = .bool true := hD 36 (by simp [waits, Region.binds])
      rw [q36] at r86
      clear ha hU hD
      rw [if_pos (by rfl)]
      go_simp
      exact hK _ hC (Below.refl _ _)
    · -- 38
      intro vs a W K ha hC hD hU hK
      have r87 : a.tmps[87]? = some (vs 37) := by rw [ha]; exact fillA_get0 (j := 37) (by kernel_rfl) (by rw [hsz]; decide)
      have q37 : vs 37 = .bool true := hD 37 (by simp [waits, Region.binds])
      rw [q37] at r87
      clear ha hU hD
      rw [if_pos (by rfl)]
      go_simp
      exact hK _ hC (Below.refl _ _)
    · -- 39
      intro vs a W K ha hC hD hU hK
      have r88 : a.tmps[88]? = some (vs 38) := by rw [ha]; exact fillA_get0 (j := 38) (by kernel_rfl) (by rw [hsz]; decide)
      have q38 : vs 38 = .bool true := hD 38 (by simp [waits, Region.binds])
      rw [q38] at r88
      have r8 : a.tmps[8]? = some (.pointer (some ⟨v3.heap.size, 0, none⟩)) := by rw [ha, fillA_base0 (by kernel_rfl)]; exact b8
      clear ha hU hD
      rw [if_pos (by simp [Region.wanted, yielded, r88])]
      obtain ⟨k0, k1, k2, k3⟩ := kk.out W hC
      go_simp
      exact hK _ hC (Below.refl _ _)
    · -- 40
      intro vs a W K ha hC hD hU hK
      have r88 : a.tmps[88]? = some (vs 38) := by rw [ha]; exact fillA_get0 (j := 38) (by kernel_rfl) (by rw [hsz]; decide)
      have q38 : vs 38 = .bool true := hD 38 (by simp [waits, Region.binds])
      rw [q38] at r88
      clear ha hU hD
      rw [if_pos (by simp [Region.wanted, yielded, r88])]
      go_simp
      refine (span_any 0 1 W).mono ?_
      rintro e w' ⟨rfl, hb⟩
      exact hK _ (bl_call hC hb (Nat.le_refl _)) hb
    · -- 41
      intro vs a W K ha hC hD hU hK
      have r88 : a.tmps[88]? = some (vs 38) := by rw [ha]; exact fillA_get0 (j := 38) (by kernel_rfl) (by rw [hsz]; decide)
      have q38 : vs 38 = .bool true := hD 38 (by simp [waits, Region.binds])
      rw [q38] at r88
      have r89 : a.tmps[89]? = some (vs 39) := by rw [ha]; exact fillA_get0 (j := 39) (by kernel_rfl) (by rw [hsz]; decide)
      have q39 : vs 39 = .agg #[.int .i64 0, .int .i64 1] := hD 39 (by simp [waits, Region.binds])
      rw [q39] at r89
      have r90 : a.tmps[90]? = some (vs 40) := by rw [ha]; exact fillA_get0 (j := 40) (by kernel_rfl) (by rw [hsz]; decide)
      have q40 : vs 40 = .agg #[.int .i64 0, .int .i64 1] := hD 40 (by simp [waits, Region.binds])
      rw [q40] at r90
      clear ha hU hD
      rw [if_pos (by simp [Region.wanted, yielded, r88])]
      go_simp
      exact hK _ hC (Below.refl _ _)
    · -- 42
      intro vs a W K ha hC hD hU hK
      have r88 : a.tmps[88]? = some (vs 38) := by rw [ha]; exact fillA_get0 (j := 38) (by kernel_rfl) (by rw [hsz]; decide)
      have q38 : vs 38 = .bool true := hD 38 (by simp [waits, Region.binds])
      rw [q38] at r88
      have r91 : a.tmps[91]? = some (vs 41) := by rw [ha]; exact fillA_get0 (j := 41) (by kernel_rfl) (by rw [hsz]; decide)
      have q41 : vs 41 = .bool true := hD 41 (by simp [waits, Region.binds])
      rw [q41] at r91
      clear ha hU hD
      rw [if_pos (by rfl)]
      go_simp
      exact hK _ hC (Below.refl _ _)
    · -- 43
      intro vs a W K ha hC hD hU hK
      have r92 : a.tmps[92]? = some (vs 42) := by rw [ha]; exact fillA_get0 (j := 42) (by kernel_rfl) (by rw [hsz]; decide)
      have q42 : vs 42 = .bool true := hD 42 (by simp [waits, Region.binds])
      rw [q42] at r92
      clear ha hU hD
      rw [if_pos (by rfl)]
      go_simp
      exact hK _ hC (Below.refl _ _)
    · -- 44
      intro vs a W K ha hC hD hU hK
      have r93 : a.tmps[93]? = some (vs 43) := by rw [ha]; exact fillA_get0 (j := 43) (by kernel_rfl) (by rw [hsz]; decide)
      have q43 : vs 43 = .bool true := hD 43 (by simp [waits, Region.binds])
      rw [q43] at r93
      have r10 : a.tmps[10]? = some (.pointer (some ⟨v4.heap.size, 0, none⟩)) := by rw [ha, fillA_base0 (by kernel_rfl)]; exact b10
      clear ha hU hD
      rw [if_pos (by simp [Region.wanted, yielded, r93])]
      obtain ⟨k0, k1, k2, k3⟩ := kk.out W hC
      go_simp
      exact hK _ hC (Below.refl _ _)
    · -- 45
      intro vs a W K ha hC hD hU hK
      have r93 : a.tmps[93]? = some (vs 43) := by rw [ha]; exact fillA_get0 (j := 43) (by kernel_rfl) (by rw [hsz]; decide)
      have q43 : vs 43 = .bool true := hD 43 (by simp [waits, Region.binds])
      rw [q43] at r93
      clear ha hU hD
      rw [if_pos (by simp [Region.wanted, yielded, r93])]
      go_simp
      refine (span_any 0 1 W).mono ?_
      rintro e w' ⟨rfl, hb⟩
      exact hK _ (bl_call hC hb (Nat.le_refl _)) hb
    · -- 46
      intro vs a W K ha hC hD hU hK
      have r93 : a.tmps[93]? = some (vs 43) := by rw [ha]; exact fillA_get0 (j := 43) (by kernel_rfl) (by rw [hsz]; decide)
      have q43 : vs 43 = .bool true := hD 43 (by simp [waits, Region.binds])
      rw [q43] at r93
      have r94 : a.tmps[94]? = some (vs 44) := by rw [ha]; exact fillA_get0 (j := 44) (by kernel_rfl) (by rw [hsz]; decide)
      have q44 : vs 44 = .agg #[.int .i64 0, .int .i64 1] := hD 44 (by simp [waits, Region.binds])
      rw [q44] at r94
      have r95 : a.tmps[95]? = some (vs 45) := by rw [ha]; exact fillA_get0 (j := 45) (by kernel_rfl) (by rw [hsz]; decide)
      have q45 : vs 45 = .agg #[.int .i64 0, .int .i64 1] := hD 45 (by simp [waits, Region.binds])
      rw [q45] at r95
      clear ha hU hD
      rw [if_pos (by simp [Region.wanted, yielded, r93])]
      go_simp
      exact hK _ hC (Below.refl _ _)
    · -- 47
      intro vs a W K ha hC hD hU hK
      have r93 : a.tmps[93]? = some (vs 43) := by rw [ha]; exact fillA_get0 (j := 43) (by kernel_rfl) (by rw [hsz]; decide)
      have q43 : vs 43 = .bool true := hD 43 (by simp [waits, Region.binds])
      rw [q43] at r93
      have r96 : a.tmps[96]? = some (vs 46) := by rw [ha]; exact fillA_get0 (j := 46) (by kernel_rfl) (by rw [hsz]; decide)
      have q46 : vs 46 = .bool true := hD 46 (by simp [waits, Region.binds])
      rw [q46] at r96
      clear ha hU hD
      rw [if_pos (by rfl)]
      go_simp
      exact hK _ hC (Below.refl _ _)
    · -- 48
      intro vs a W K ha hC hD hU hK
      have r97 : a.tmps[97]? = some (vs 47) := by rw [ha]; exact fillA_get0 (j := 47) (by kernel_rfl) (by rw [hsz]; decide)
      have q47 : vs 47 = .bool true := hD 47 (by simp [waits, Region.binds])
      rw [q47] at r97
      clear ha hU hD
      rw [if_pos (by rfl)]
      go_simp
      exact hK _ hC (Below.refl _ _)
    · -- 49
      intro vs a W K ha hC hD hU hK
      have r98 : a.tmps[98]? = some (vs 48) := by rw [ha]; exact fillA_get0 (j := 48) (by kernel_rfl) (by rw [hsz]; decide)
      have q48 : vs 48 = .bool true := hD 48 (by simp [waits, Region.binds])
      rw [q48] at r98
      have r12 : a.tmps[12]? = some (.slice Ap np cp) := by rw [ha, fillA_base0 (by kernel_rfl)]; exact b12
      clear ha hU hD
      rw [if_pos (by simp [Region.wanted, yielded, r98])]
      go_simp
      exact hK _ hC (Below.refl _ _)
    · -- 50
      intro vs a W K ha hC hD hU hK
      have r98 : a.tmps[98]? = some (vs 48) := by rw [ha]; exact fillA_get0 (j := 48) (by kernel_rfl) (by rw [hsz]; decide)
      have q48 : vs 48 = .bool true := hD 48 (by simp [waits, Region.binds])
      rw [q48] at r98
      clear ha hU hD
      rw [if_pos (by simp [Region.wanted, yielded, r98])]
      go_simp
      exact hK _ _ (bl_alloc hC _ (Nat.le_refl _)) (bl_alloc (Below.refl _ _) _ (Nat.le_refl _)) ⟨_, _, _, rfl, ints_new W 3 #[.int .i64 (2), .int .i64 (0), .int .i64 (0)] [2, 0, 0] rfl rfl (by decide) hC.size⟩
    · -- 51
      intro vs a W K ha hC hD hU hK
      have r98 : a.tmps[98]? = some (vs 48) := by rw [ha]; exact fillA_get0 (j := 48) (by kernel_rfl) (by rw [hsz]; decide)
      have q48 : vs 48 = .bool true := hD 48 (by simp [waits, Region.binds])
      rw [q48] at r98
      have r99 : a.tmps[99]? = some (vs 49) := by rw [ha]; exact fillA_get0 (j := 49) (by kernel_rfl) (by rw [hsz]; decide)
      have q49 : vs 49 = .slice Ap np cp := hD 49 (by simp [waits, Region.binds])
      rw [q49] at r99
      have r100 : a.tmps[100]? = some (vs 50) := by rw [ha]; exact fillA_get0 (j := 50) (by kernel_rfl) (by rw [hsz]; decide)
      have q50 : IsInts v9.heap.size [2, 0, 0] (vs 50) W := hD 50 (by simp [waits, Region.binds])
      obtain ⟨A100, n100, c100, q50, hI100⟩ := q50
      rw [q50] at r100
      clear ha hU hD
      rw [if_pos (by simp [Region.wanted, yielded, r98])]
      go_simp
      refine (ints_any W (rp.out.keep IntR.good (Keeps.below hC)) hI100).mono ?_
      rintro e w' ⟨rfl, q, rfl⟩
      rw [decide_eq_true rfl]
      exact hK _ (bl_drewN hC q) (bl_drewN (Below.refl _ _) q)
    · -- 52
      intro vs a W K ha hC hD hU hK
      have r98 : a.tmps[98]? = some (vs 48) := by rw [ha]; exact fillA_get0 (j := 48) (by kernel_rfl) (by rw [hsz]; decide)
      have q48 : vs 48 = .bool true := hD 48 (by simp [waits, Region.binds])
      rw [q48] at r98
      have r101 : a.tmps[101]? = some (vs 51) := by rw [ha]; exact fillA_get0 (j := 51) (by kernel_rfl) (by rw [hsz]; decide)
      have q51 : vs 51 = .bool true := hD 51 (by simp [waits, Region.binds])
      rw [q51] at r101
      clear ha hU hD
      rw [if_pos (by rfl)]
      go_simp
      exact hK _ hC (Below.refl _ _)
    · -- 53
      intro vs a W K ha hC hD hU hK
      have r102 : a.tmps[102]? = some (vs 52) := by rw [ha]; exact fillA_get0 (j := 52) (by kernel_rfl) (by rw [hsz]; decide)
      have q52 : vs 52 = .bool true := hD 52 (by simp [waits, Region.binds])
      rw [q52] at r102
      clear ha hU hD
      rw [if_pos (by rfl)]
      go_simp
      exact hK _ hC (Below.refl _ _)
    · -- 54
      intro vs a W K ha hC hD hU hK
      have r103 : a.tmps[103]? = some (vs 53) := by rw [ha]; exact fillA_get0 (j := 53) (by kernel_rfl) (by rw [hsz]; decide)
      have q53 : vs 53 = .bool true := hD 53 (by simp [waits, Region.binds])
      rw [q53] at r103
      have r14 : a.tmps[14]? = some (.slice Aw 0 cw) := by rw [ha, fillA_base0 (by kernel_rfl)]; exact b14
      clear ha hU hD
      rw [if_pos (by simp [Region.wanted, yielded, r103])]
      go_simp
      exact hK _ hC (Below.refl _ _)
    · -- 55
      intro vs a W K ha hC hD hU hK
      have r103 : a.tmps[103]? = some (vs 53) := by rw [ha]; exact fillA_get0 (j := 53) (by kernel_rfl) (by rw [hsz]; decide)
      have q53 : vs 53 = .bool true := hD 53 (by simp [waits, Region.binds])
      rw [q53] at r103
      have r104 : a.tmps[104]? = some (vs 54) := by rw [ha]; exact fillA_get0 (j := 54) (by kernel_rfl) (by rw [hsz]; decide)
      have q54 : vs 54 = .slice Aw 0 cw := hD 54 (by simp [waits, Region.binds])
      rw [q54] at r104
      clear ha hU hD
      rw [if_pos (by simp [Region.wanted, yielded, r103])]
      go_simp
      exact hK _ hC (Below.refl _ _)
    · -- 56
      intro vs a W K ha hC hD hU hK
      have r103 : a.tmps[103]? = some (vs 53) := by rw [ha]; exact fillA_get0 (j := 53) (by kernel_rfl) (by rw [hsz]; decide)
      have q53 : vs 53 = .bool true := hD 53 (by simp [waits, Region.binds])
      rw [q53] at r103
      have r105 : a.tmps[105]? = some (vs 55) := by rw [ha]; exact fillA_get0 (j := 55) (by kernel_rfl) (by rw [hsz]; decide)
      have q55 : vs 55 = .int .i64 0 := hD 55 (by simp [waits, Region.binds])
      rw [q55] at r105
      clear ha hU hD
      rw [if_pos (by simp [Region.wanted, yielded, r103])]
      go_simp
      exact hK _ hC (Below.refl _ _)
    · -- 57
      intro vs a W K ha hC hD hU hK
      have r103 : a.tmps[103]? = some (vs 53) := by rw [ha]; exact fillA_get0 (j := 53) (by kernel_rfl) (by rw [hsz]; decide)
      have q53 : vs 53 = .bool true := hD 53 (by simp [waits, Region.binds])
      rw [q53] at r103
      have r106 : a.tmps[106]? = some (vs 56) := by rw [ha]; exact fillA_get0 (j := 56) (by kernel_rfl) (by rw [hsz]; decide)
      have q56 : vs 56 = .bool true := hD 56 (by simp [waits, Region.binds])
      rw [q56] at r106
      clear ha hU hD
      rw [if_pos (by rfl)]
      go_simp
      exact hK _ hC (Below.refl _ _)
    · -- 58
      intro vs a W K ha hC hD hU hK
      have r107 : a.tmps[107]? = some (vs 57) := by rw [ha]; exact fillA_get0 (j := 57) (by kernel_rfl) (by rw [hsz]; decide)
      have q57 : vs 57 = .bool true := hD 57 (by simp [waits, Region.binds])
      rw [q57] at r107
      clear ha hU hD
      rw [if_pos (by rfl)]
      go_simp
      exact hK _ hC (Below.refl _ _)
    · -- 59
      intro vs a W K ha hC hD hU hK
      have r108 : a.tmps[108]? = some (vs 58) := by rw [ha]; exact fillA_get0 (j := 58) (by kernel_rfl) (by rw [hsz]; decide)
      have q58 : vs 58 = .bool true := hD 58 (by simp [waits, Region.binds])
      rw [q58] at r108
      clear ha hU hD
      rw [if_pos (by simp [Region.wanted, yielded, r108])]
      go_simp
      refine (awake_any W (t9.bl hC)).mono ?_
      rintro e w' ⟨rfl, hb⟩
      exact hK _ (bl_call hC hb (Nat.le_refl _)) hb
    · -- 60
      intro vs a W K ha hC hD hU hK
      have r108 : a.tmps[108]? = some (vs 58) := by rw [ha]; exact fillA_get0 (j := 58) (by kernel_rfl) (by rw [hsz]; decide)
      have q58 : vs 58 = .bool true := hD 58 (by simp [waits, Region.binds])
      rw [q58] at r108
      have r109 : a.tmps[109]? = some (vs 59) := by rw [ha]; exact fillA_get0 (j := 59) (by kernel_rfl) (by rw [hsz]; decide)
      have q59 : vs 59 = .bool true := hD 59 (by simp [waits, Region.binds])
      rw [q59] at r109
      clear ha hU hD
      rw [if_pos (by rfl)]
      go_simp
      exact hK _ hC (Below.refl _ _)
    · -- 61
      intro vs a W K ha hC hD hU hK
      have r110 : a.tmps[110]? = some (vs 60) := by rw [ha]; exact fillA_get0 (j := 60) (by kernel_rfl) (by rw [hsz]; decide)
      have q60 : vs 60 = .bool true := hD 60 (by simp [waits, Region.binds])
      rw [q60] at r110
      clear ha hU hD
      rw [if_pos (by rfl)]
      go_simp
      exact hK _ hC (Below.refl _ _)
  case finA =>
    refine Fin1.none (Nat.le_refl _) ?_
    intro vs W a1 hC hE ha
    have e0 : vs 61 = .bool true := hE 61 (by simp)
    have r0 : a1.tmps[0]? = some (vs 61) := by rw [ha]; exact fillA_get0 (j := 61) (by kernel_rfl) (by rw [hsz]; decide)
    have hdf1 : a1.defers = [] := by rw [ha, fillA_defers]; exact hdf
    rw [e0] at r0
    have hBF := bl_call hB9 hC (Nat.le_refl _)
    clear ha hE hC e0
    go_simp
    go_wp2
    refine bodyPost_ret (results_tmp rfl _ _ _) hdf1 ?_
    exact ⟨by simp [r0], hBF⟩

end Go.Proofs.YtkbpmcpmcmnfgaaDoor
