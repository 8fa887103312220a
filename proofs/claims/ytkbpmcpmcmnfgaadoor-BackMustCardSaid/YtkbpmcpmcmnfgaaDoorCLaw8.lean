/- Walks: the law of Must, Amount and Value. -/
import Derived.Test.YtkbpmcpmcmnfgaaDoorCLaw6
import Derived.Test.YtkbpmcpmcmnfgaaDoorCRefB10
import Derived.Test.YtkbpmcpmcmnfgaaDoorCRefB11
set_option linter.unusedVariables false
set_option linter.unusedSimpArgs false
set_option linter.all false
namespace Go.Proofs.YtkbpmcpmcmnfgaaDoor
open Go.RowKit

theorem eq_span (a b : Int) (w : World) : (Op.equalIn 10000 44 (.agg #[.int .i64 a, .int .i64 b]) (.agg #[.int .i64 a, .int .i64 b])).run Tryd.prog w = .ok true w := by
  rw [show (10000 : Nat) = 9999 + 1 from rfl, Op.equalIn]
  simp only [Sem.run_bind, run_underlying Tryd.underlying44, Result.andThen_ok]
  go_simp

set_option maxRecDepth 100000 in
set_option maxHeartbeats 4000000 in
theorem mustLaw_any {A B C : Option Addr} {n ca m cb q cc : Nat} {c : Claim} (x0 x1 : Int) (w : World) (htab : TabOk w) (h : ClaimAt (fun _ => True) w A n B m C q c) (hca : n ≤ ca) (hcb : m ≤ cb) :
    Calls Tryd.prog 4 #[.agg #[.slice A n ca, .slice B m cb, .slice C q cc], .agg #[.int .i64 x0, .int .i64 x1]] w fun e w' => e = .returned (.bool true) ∧ Below w.heap.size w w' := by
  obtain ⟨W0, hW0⟩ : ∃ W0, (w.alloc (.cells #[.slice A n ca, .slice B m cb, .slice C q cc] 26)).alloc (.cells #[.int .i64 x0, .int .i64 x1] 40) = W0 := ⟨_, rfl⟩
  have X1 : Blk W0 w.heap.size 26 #[.slice A n ca, .slice B m cb, .slice C q cc] := by rw [← hW0]; exact (Blk.new _ _ _ rfl).alloc _
  have X2 : Blk W0 (w.heap.size + 1) 40 #[.int .i64 x0, .int .i64 x1] := by rw [← hW0]; exact Blk.new _ _ _ (by simp)
  have hB0 : Below w.heap.size w W0 := by rw [← hW0]; exact bl_alloc (bl_alloc (Below.refl _ _) _ (Nat.le_refl _)) _ (Nat.le_refl _)
  have e1 := h.keep (Keeps.below hB0)
  have t0 := htab.bl hB0
  have HW0 := Lib.hid hW0
  have h0 := h
  have t00 := htab
  obtain ⟨lm, ly, em, hmr⟩ : ∃ lm ly em, mustR c = (lm, ly, em) := ⟨_, _, _, rfl⟩
  obtain ⟨a0, a1, ae, har⟩ : ∃ a0 a1 ae, amountR c x0 = ((a0, a1), ae) := ⟨_, _, _, rfl⟩
  obtain ⟨v0, v1, ve, hvr⟩ : ∃ v0 v1 ve, valueR c x1 = ((v0, v1), ve) := ⟨_, _, _, rfl⟩
  have HMR := Lib.hid hmr
  have HAR := Lib.hid har
  have HVR := Lib.hid hvr
  clear hW0 h htab hmr har hvr
  have hem : (em != em) = false := by simp
  have hae : (ae != ae) = false := by simp
  have hve : (ve == ve) = true := by simp
  go_enter Tryd.func4, Tryd.ntmps4
  go_wp2_with fail
  rw [HW0.out]
  refine (bmust_any W0 t0 e1 hca hcb).mono ?_
  rintro e u1 ⟨Am, nm, cm, Ay, ny, cy, rfl, hIm, hIy, h1⟩
  rw [HMR.out] at hIm hIy ⊢
  have q0 := (X1.bl h1).cell 0
  have q1 := (X1.bl h1).cell 1
  have q2 := (X1.bl h1).cell 2
  go_wp2_with fail
  clear q0 q1 q2
  refine (must12_any u1 (e1.keep (Keeps.below h1))).mono ?_
  rintro e u2 ⟨Bm, mm, dm, By, my, dy, rfl, hJm, hJy, hu2⟩
  rw [HMR.out] at hJm hJy ⊢
  have h2 := bl_call h1 hu2 (Nat.le_refl _)
  have rIm := hIm.keep IntR.good (Keeps.below hu2)
  have rIy := hIy.keep IntR.good (Keeps.below hu2)
  clear hIm hIy
  go_wp2_with fail
  refine (ints_any u2 rIm hJm).mono ?_
  rintro e u3 ⟨rfl, p, rfl⟩
  rw [decide_eq_true rfl]
  go_wp2_with fail
  refine (ints_any _ (rIy.keep IntR.good (Keeps.drewN _ _)) (hJy.keep IntR.good (Keeps.drewN _ _))).mono ?_
  rintro e u4 ⟨rfl, p2, rfl⟩
  rw [decide_eq_true rfl]
  have h4 : Below W0.heap.size W0 ((u2.drewN p).drewN p2) := bl_drewN (bl_drewN h2 _) _
  obtain ⟨u5, hu5⟩ : ∃ u5, (u2.drewN p).drewN p2 = u5 := ⟨_, rfl⟩
  rw [hu5] at h4 ⊢
  clear rIm rIy hJm hJy hu5
  have q0 := (X1.bl h4).cell 0
  have q1 := (X1.bl h4).cell 1
  have q2 := (X1.bl h4).cell 2
  have z0 := (X2.bl h4).c0
  have z1 := (X2.bl h4).c1
  go_wp2_with fail
  clear q0 q1 q2
  refine (bamount_any x0 u5 (e1.keep (Keeps.below h4)) hca hcb).mono ?_
  rintro e u6 ⟨rfl, hu6⟩
  rw [HAR.out]
  have h6 : Below W0.heap.size W0 (u6.alloc (.cells #[.int .i64 a0, .int .i64 a1] 44)) := bl_alloc (bl_call h4 hu6 (Nat.le_refl _)) _ (Nat.le_refl _)
  have Y1 : Blk (u6.alloc (.cells #[.int .i64 a0, .int .i64 a1] 44)) u6.heap.size 44 #[.int .i64 a0, .int .i64 a1] := Blk.new _ _ _ rfl
  have q0 := (X1.bl h6).cell 0
  have q1 := (X1.bl h6).cell 1
  have q2 := (X1.bl h6).cell 2
  have z0' := (X2.bl h6).c0
  go_wp2_with fail
  clear q0 q1 q2 z0 z1 z0'
  obtain ⟨u7, hu7⟩ : ∃ u7, u6.alloc (.cells #[.int .i64 a0, .int .i64 a1] 44) = u7 := ⟨_, rfl⟩
  rw [hu7] at h6 Y1 ⊢
  clear hu7
  have hs67 := Y1.lt
  refine (amount12_any x0 u7 (e1.keep (Keeps.below h6))).mono ?_
  rintro e u8 ⟨rfl, hu8⟩
  rw [HAR.out]
  have h8 : Below W0.heap.size W0 (u8.alloc (.cells #[.int .i64 a0, .int .i64 a1] 44)) := bl_alloc (bl_call h6 hu8 (Nat.le_refl _)) _ (Nat.le_refl _)
  have Y2 : Blk (u8.alloc (.cells #[.int .i64 a0, .int .i64 a1] 44)) u8.heap.size 44 #[.int .i64 a0, .int .i64 a1] := Blk.new _ _ _ rfl
  have Y1' : Blk (u8.alloc (.cells #[.int .i64 a0, .int .i64 a1] 44)) u6.heap.size 44 #[.int .i64 a0, .int .i64 a1] := (Y1.bl hu8).alloc _
  have q0 := (X1.bl h8).cell 0
  have q1 := (X1.bl h8).cell 1
  have q2 := (X1.bl h8).cell 2
  have z1 := (X2.bl h8).c1
  have y0 := Y1'.c0
  have y1 := Y1'.c1
  have y2 := Y2.c0
  have y3 := Y2.c1
  have hsp := eq_span a0 a1
  go_wp2_with fail
  clear q0 q1 q2 z1 y0 y1 y2 y3 Y1
  obtain ⟨u9, hu9⟩ : ∃ u9, u8.alloc (.cells #[.int .i64 a0, .int .i64 a1] 44) = u9 := ⟨_, rfl⟩
  rw [hu9] at h8 Y1' Y2 ⊢
  clear hu9
  have hws : w.heap.size ≤ u6.heap.size := Nat.le_trans hB0.size (Nat.le_trans h4.size hu6.size)
  have hws8 : w.heap.size ≤ u8.heap.size := Nat.le_trans hws (by have := hu8.size; omega)
  have hne : u6.heap.size ≠ u8.heap.size := by have := hu8.size; omega
  refine (bvalue_any x1 u9 (e1.keep (Keeps.below h8)) hca hcb).mono ?_
  rintro e u10 ⟨rfl, hu10⟩
  rw [HVR.out]
  have h10 := bl_call h8 hu10 (Nat.le_refl _)
  have Z1 := Y1'.bl hu10
  have Z2 := Y2.bl hu10
  have s0 := Z1.c0
  have s1 := Z1.c1
  have f0 := Z1.frozen 0
  have f1 := Z1.frozen 1
  have l1 := Z1.lt
  have hX1s : w.heap.size ≠ u6.heap.size := by have := X1.lt; have := h4.size; have := hu6.size; omega
  have hX2s : w.heap.size + 1 ≠ u6.heap.size := by have := X2.lt; have := h4.size; have := hu6.size; omega
  have q0 := ((((X1.bl h10).far hX1s (.int .i64 v0) (p := ⟨u6.heap.size, 0, none⟩)).far hX1s (.int .i64 v1) (p := ⟨u6.heap.size, 1, none⟩))).cell 0
  have q1 := ((((X1.bl h10).far hX1s (.int .i64 v0) (p := ⟨u6.heap.size, 0, none⟩)).far hX1s (.int .i64 v1) (p := ⟨u6.heap.size, 1, none⟩))).cell 1
  have q2 := ((((X1.bl h10).far hX1s (.int .i64 v0) (p := ⟨u6.heap.size, 0, none⟩)).far hX1s (.int .i64 v1) (p := ⟨u6.heap.size, 1, none⟩))).cell 2
  have z1 := ((((X2.bl h10).far hX2s (.int .i64 v0) (p := ⟨u6.heap.size, 0, none⟩)).far hX2s (.int .i64 v1) (p := ⟨u6.heap.size, 1, none⟩))).c1
  go_wp2_with fail
  clear q0 q1 q2 z1 s0 s1 f0 f1 l1
  obtain ⟨u11, hu11⟩ : ∃ u11, (u10.setCell ⟨u6.heap.size, 0, none⟩ (.int .i64 v0)).setCell ⟨u6.heap.size, 1, none⟩ (.int .i64 v1) = u11 := ⟨_, rfl⟩
  have V1 : Blk u11 u6.heap.size 44 #[.int .i64 v0, .int .i64 v1] := by rw [← hu11]; exact Z1.set2 _ _
  have V2 : Blk u11 u8.heap.size 44 #[.int .i64 a0, .int .i64 a1] := by rw [← hu11]; exact (Z2.far (Ne.symm hne) _).far (Ne.symm hne) _
  have hBw10 : Below w.heap.size w u10 := bl_call hB0 h10 (Nat.le_refl _)
  have hBw11 : Below w.heap.size w u11 := by rw [← hu11]; exact bl_set (bl_set hBw10 hws _) hws _
  have e11 : ClaimAt (fun k => True ∧ k < w.heap.size) u11 A n B m C q c := (ClaimAt.mk (h0.fs.bound FeatR.good) (h0.cs.bound CauseR.good) (h0.ms.bound MeasR.good)).keep (Keeps.below hBw11)
  have t11 := t00.below hBw11 t00.lt
  rw [hu11]
  clear hu11 Y1' Y2 Z1 Z2 e1 t0 X1 X2 hX1s hX2s
  refine (value12_any x1 u11 (e11.mono' (fun _ _ => trivial))).mono ?_
  rintro e u12 ⟨rfl, hu12⟩
  rw [HVR.out]
  have T1 := V1.bl hu12
  have T2 := V2.bl hu12
  have s0 := T2.c0
  have s1 := T2.c1
  have f0 := T2.frozen 0
  have f1 := T2.frozen 1
  have l1 := T2.lt
  have y0 := ((T1.far hne (.int .i64 v0) (p := ⟨u8.heap.size, 0, none⟩)).far hne (.int .i64 v1) (p := ⟨u8.heap.size, 1, none⟩)).c0
  have y1 := ((T1.far hne (.int .i64 v0) (p := ⟨u8.heap.size, 0, none⟩)).far hne (.int .i64 v1) (p := ⟨u8.heap.size, 1, none⟩)).c1
  have y2 := (T2.set2 (.int .i64 v0) (.int .i64 v1)).c0
  have y3 := (T2.set2 (.int .i64 v0) (.int .i64 v1)).c1
  have hsp2 := eq_span v0 v1
  have hBw13 : Below w.heap.size w ((u12.setCell ⟨u8.heap.size, 0, none⟩ (.int .i64 v0)).setCell ⟨u8.heap.size, 1, none⟩ (.int .i64 v1)) := bl_set (bl_set (bl_call hBw11 hu12 (Nat.le_refl _)) hws8 _) hws8 _
  have t13 := t00.below hBw13 t00.lt
  go_wp2_with fail
  refine (awake_any _ t13).mono ?_
  rintro e u14 ⟨rfl, hu14⟩
  go_wp2
  go_ret
  exact ⟨rfl, bl_call hBw13 hu14 (Nat.le_refl _)⟩

end Go.Proofs.YtkbpmcpmcmnfgaaDoor
