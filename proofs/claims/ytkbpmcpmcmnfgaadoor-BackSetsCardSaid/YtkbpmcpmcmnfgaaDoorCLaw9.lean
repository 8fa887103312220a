/- Walks: the law of Check, Sets, Plainest and Wrong. -/
import Derived.Test.YtkbpmcpmcmnfgaaDoorCLaw6
set_option linter.unusedVariables false
set_option linter.unusedSimpArgs false
set_option linter.all false
namespace Go.Proofs.YtkbpmcpmcmnfgaaDoor
open Go.RowKit

set_option maxRecDepth 100000 in
set_option maxHeartbeats 4000000 in
theorem setsLaw_any {A B C : Option Addr} {n ca m cb q cc : Nat} {c : Claim} (w : World) (htab : TabOk w) (h : ClaimAt (fun _ => True) w A n B m C q c) (hca : n ≤ ca) (hcb : m ≤ cb) :
    Calls Tryd.prog 3 #[.agg #[.slice A n ca, .slice B m cb, .slice C q cc]] w fun e w' => e = .returned (.bool true) ∧ Below w.heap.size w w' := by
  obtain ⟨W0, hW0⟩ : ∃ W0, w.alloc (.cells #[.slice A n ca, .slice B m cb, .slice C q cc] 26) = W0 := ⟨_, rfl⟩
  have X1 : Blk W0 w.heap.size 26 #[.slice A n ca, .slice B m cb, .slice C q cc] := by rw [← hW0]; exact Blk.new _ _ _ rfl
  have hB0 : Below w.heap.size w W0 := by rw [← hW0]; exact bl_alloc (Below.refl _ _) _ (Nat.le_refl _)
  have e1 := h.keep (Keeps.below hB0)
  have t0 := htab.bl hB0
  have HW0 := Lib.hid hW0
  obtain ⟨p0, p1, p2, hck⟩ : ∃ p0 p1 p2, check c = (p0, p1, p2) := ⟨_, _, _, rfl⟩
  obtain ⟨ls, es, hsr⟩ : ∃ ls es, setsR c = (ls, es) := ⟨_, _, rfl⟩
  obtain ⟨lp, ep, hpr⟩ : ∃ lp ep, plainR c = (lp, ep) := ⟨_, _, rfl⟩
  obtain ⟨lw, ew, hwr⟩ : ∃ lw ew, wrongR c = (lw, ew) := ⟨_, _, rfl⟩
  have HCK := Lib.hid hck
  have HSR := Lib.hid hsr
  have HPR := Lib.hid hpr
  have HWR := Lib.hid hwr
  clear hW0 h htab hck hsr hpr hwr
  have n0 : (p0 != p0) = false := by simp
  have n1 : (p1 != p1) = false := by simp
  have n2 : (p2 != p2) = false := by simp
  have n3 : (es != es) = false := by simp
  have n4 : (ep != ep) = false := by simp
  have n5 : (ew == ew) = true := by simp
  go_enter Tryd.func3, Tryd.ntmps3
  go_wp2_with fail
  rw [HW0.out]
  refine (bcheck_any W0 e1 hca hcb).mono ?_
  rintro e u1 ⟨rfl, h1⟩
  rw [HCK.out]
  have q0 := (X1.bl h1).cell 0
  have q1 := (X1.bl h1).cell 1
  have q2 := (X1.bl h1).cell 2
  go_wp2_with fail
  clear q0 q1 q2
  refine (check12_any u1 (e1.keep (Keeps.below h1))).mono ?_
  rintro e u2 ⟨rfl, hu2⟩
  rw [HCK.out]
  have h2 := bl_call h1 hu2 (Nat.le_refl _)
  have q0 := (X1.bl h2).cell 0
  have q1 := (X1.bl h2).cell 1
  have q2 := (X1.bl h2).cell 2
  go_wp2_with fail
  clear q0 q1 q2
  refine (bsets_any u2 (t0.bl h2) (e1.keep (Keeps.below h2)) hca hcb).mono ?_
  rintro e u3 ⟨As, ns, cs, rfl, hRs, hu3⟩
  rw [HSR.out] at hRs ⊢
  have h3 := bl_call h2 hu3 (Nat.le_refl _)
  have q0 := (X1.bl h3).cell 0
  have q1 := (X1.bl h3).cell 1
  have q2 := (X1.bl h3).cell 2
  go_wp2_with fail
  clear q0 q1 q2
  refine (sets12_any u3 (e1.keep (Keeps.below h3))).mono ?_
  rintro e u4 ⟨Bs, ms, ds, rfl, hTs, hu4⟩
  rw [HSR.out] at hTs ⊢
  have h4 := bl_call h3 hu4 (Nat.le_refl _)
  go_wp2_with fail
  refine (same_any u4 (hRs.keep (SlR.good IntR.good) (Keeps.below hu4)) hTs).mono ?_
  rintro e u5 ⟨rfl, k5, rfl⟩
  rw [decide_eq_true rfl]
  have h5 : Below W0.heap.size W0 (u4.drewN k5) := bl_drewN h4 _
  obtain ⟨u5, hu5⟩ : ∃ u5, u4.drewN k5 = u5 := ⟨_, rfl⟩
  rw [hu5] at h5 ⊢
  clear hu5 hRs hTs
  have q0 := (X1.bl h5).cell 0
  have q1 := (X1.bl h5).cell 1
  have q2 := (X1.bl h5).cell 2
  go_wp2_with fail
  clear q0 q1 q2
  refine (bplainest_any u5 (t0.bl h5) (e1.keep (Keeps.below h5)) hca hcb).mono ?_
  rintro e u6 ⟨Ap, np, cp, rfl, hIp, hu6⟩
  rw [HPR.out] at hIp ⊢
  have h6 := bl_call h5 hu6 (Nat.le_refl _)
  have q0 := (X1.bl h6).cell 0
  have q1 := (X1.bl h6).cell 1
  have q2 := (X1.bl h6).cell 2
  go_wp2_with fail
  clear q0 q1 q2
  refine (plain12_any u6 (e1.keep (Keeps.below h6))).mono ?_
  rintro e u7 ⟨Bp, mp, dp, rfl, hJp, hu7⟩
  rw [HPR.out] at hJp ⊢
  have h7 := bl_call h6 hu7 (Nat.le_refl _)
  go_wp2_with fail
  refine (ints_any u7 (hIp.keep IntR.good (Keeps.below hu7)) hJp).mono ?_
  rintro e u8 ⟨rfl, k8, rfl⟩
  rw [decide_eq_true rfl]
  have h8 : Below W0.heap.size W0 (u7.drewN k8) := bl_drewN h7 _
  obtain ⟨u8, hu8⟩ : ∃ u8, u7.drewN k8 = u8 := ⟨_, rfl⟩
  rw [hu8] at h8 ⊢
  clear hu8 hIp hJp
  have q0 := (X1.bl h8).cell 0
  have q1 := (X1.bl h8).cell 1
  have q2 := (X1.bl h8).cell 2
  go_wp2_with fail
  clear q0 q1 q2
  refine (bwrong_any u8 (e1.keep (Keeps.below h8)) hca hcb).mono ?_
  rintro e u9 ⟨Aw, nw, cw, rfl, hIw, hu9⟩
  rw [HWR.out] at hIw ⊢
  have h9 := bl_call h8 hu9 (Nat.le_refl _)
  have q0 := (X1.bl h9).cell 0
  have q1 := (X1.bl h9).cell 1
  have q2 := (X1.bl h9).cell 2
  go_wp2_with fail
  clear q0 q1 q2
  refine (wrong12_any u9 (e1.keep (Keeps.below h9))).mono ?_
  rintro e u10 ⟨Bw, mw, dw, rfl, hJw, hu10⟩
  rw [HWR.out] at hJw ⊢
  have h10 := bl_call h9 hu10 (Nat.le_refl _)
  go_wp2_with fail
  refine (ints_any u10 (hIw.keep IntR.good (Keeps.below hu10)) hJw).mono ?_
  rintro e u11 ⟨rfl, k11, rfl⟩
  rw [decide_eq_true rfl]
  have h11 : Below W0.heap.size W0 (u10.drewN k11) := bl_drewN h10 _
  go_wp2_with fail
  refine (awake_any _ (t0.bl h11)).mono ?_
  rintro e u12 ⟨rfl, hu12⟩
  go_wp2
  go_ret
  exact ⟨rfl, bl_call (bl_call hB0 h11 (Nat.le_refl _)) hu12 (Nat.le_refl _)⟩

end Go.Proofs.YtkbpmcpmcmnfgaaDoor
