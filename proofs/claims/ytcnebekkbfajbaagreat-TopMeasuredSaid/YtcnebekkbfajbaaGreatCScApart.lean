/- A part of the proof that TopMeasured always answers true. -/
import Derived.Test.YtcnebekkbfajbaaGreatCKLaw4
import Derived.Test.YtcnebekkbfajbaaGreatCKMap
import Derived.Test.YtcnebekkbfajbaaGreatCScFalse
import Derived.Test.YtcnebekkbfajbaaGreatCScP
set_option linter.all false
namespace Go.Proofs.YtcnebekkbfajbaaGreat
open Go.RowKit Go.Shelf
theorem ex5_cuts2 : cut5 exCase (2, 3) = [0, 7, 17, 40] := by decide +kernel
def ptsX (k : Nat) : List Int := ([[], [], [1], [1, 2], [1, 2, 3]] : List (List Int)).getD k []
theorem eq_cutsX (w : World) : (Op.equalIn 10000 108 (.agg #[.int .i64 0, .int .i64 5, .int .i64 13, .int .i64 30, .int .i64 0, .int .i64 0, .int .i64 0, .int .i64 0]) (.agg #[.int .i64 0, .int .i64 7, .int .i64 17, .int .i64 40, .int .i64 0, .int .i64 0, .int .i64 0, .int .i64 0])).run Tryz.prog w = .ok false w := by kernel_rfl
set_option maxRecDepth 100000 in
set_option maxHeartbeats 2000000 in
theorem sapart_ex {A B : Option Addr} {ca cb : Nat} (w : World) (g : CaseAt (fun _ => True) w A 4 B 3 exCase) :
  Calls Tryz.prog 30 #[.agg #[.int .i64 2, .int .i64 100, .int .i64 50, .slice A 4 ca, .slice B 3 cb], .agg #[.int .i64 1, .int .i64 2], .agg #[.int .i64 2, .int .i64 3]] w fun e w' => (∃ A' c', e = .returned (.tuple #[.slice A' 3 c', .int .i64 0]) ∧ Ints (fun _ => True) w' A' 3 [1, 2, 3]) ∧ Below w.heap.size w w' := by
 have HOK := Lib.hid ex5_ok
 have HZ1 : Hid ((1, 2) ∈ scalesN) := ex5_in1.1.1
 have HZ2 : Hid ((2, 3) ∈ scalesN) := ex5_in1.1.2.1
 obtain ⟨iI, hiI, hzI0, hzI1, hzI2⟩ := info_parts infoInt5
 obtain ⟨fr, hfr⟩ : ∃ f, roundF exCase.kind = f := ⟨_, rfl⟩
 have HM : Hid (modelV exCase A 4 ca B 3 cb = .agg #[.int .i64 2, .int .i64 100, .int .i64 50, .slice A 4 ca, .slice B 3 cb, .func (.func fr) #[] #[]]) := by rw [Hid, modelV, hfr]; rfl
 obtain ⟨v0, v1, v2, v3, v4, v5, v6, v7, hv⟩ := cutV_8 (cut5 exCase (1, 2))
 obtain ⟨u0, u1, u2, u3, u4, u5, u6, u7, hu⟩ := cutV_8 (cut5 exCase (2, 3))
 have HX := Lib.hid hv
 have HY := Lib.hid hu
 have HVX : Hid ((#[.int .i64 v0, .int .i64 v1, .int .i64 v2, .int .i64 v3, .int .i64 v4, .int .i64 v5, .int .i64 v6, .int .i64 v7] : Array Value) = #[.int .i64 0, .int .i64 5, .int .i64 13, .int .i64 30, .int .i64 0, .int .i64 0, .int .i64 0, .int .i64 0]) := by
  have h : cutV (cut5 exCase (1, 2)) = .agg #[.int .i64 0, .int .i64 5, .int .i64 13, .int .i64 30, .int .i64 0, .int .i64 0, .int .i64 0, .int .i64 0] := by rw [ex5_cuts]; rfl
  rw [hv] at h
  injection h
 have HVY : Hid ((#[.int .i64 u0, .int .i64 u1, .int .i64 u2, .int .i64 u3, .int .i64 u4, .int .i64 u5, .int .i64 u6, .int .i64 u7] : Array Value) = #[.int .i64 0, .int .i64 7, .int .i64 17, .int .i64 40, .int .i64 0, .int .i64 0, .int .i64 0, .int .i64 0]) := by
  have h : cutV (cut5 exCase (2, 3)) = .agg #[.int .i64 0, .int .i64 7, .int .i64 17, .int .i64 40, .int .i64 0, .int .i64 0, .int .i64 0, .int .i64 0] := by rw [ex5_cuts2]; rfl
  rw [hu] at h
  injection h
 clear hv hu
 obtain ⟨W, hW⟩ : ∃ W, ((w.alloc (.cells #[.int .i64 2, .int .i64 100, .int .i64 50, .slice A 4 ca, .slice B 3 cb] 25)).alloc (.cells #[.int .i64 1, .int .i64 2] 42)).alloc (.cells #[.int .i64 2, .int .i64 3] 42) = W := ⟨_, rfl⟩
 have X : Blk W w.heap.size 25 #[.int .i64 2, .int .i64 100, .int .i64 50, .slice A 4 ca, .slice B 3 cb] := by rw [← hW]; exact ((Blk.new _ _ _ rfl).alloc _).alloc _
 have Y : Blk W (w.heap.size + 1) 42 #[.int .i64 1, .int .i64 2] := by rw [← hW]; exact (Blk.new _ _ _ (by simp)).alloc _
 have Z : Blk W (w.heap.size + 1 + 1) 42 #[.int .i64 2, .int .i64 3] := by rw [← hW]; exact Blk.new _ _ _ (by simp)
 have hBW : Below w.heap.size w W := by rw [← hW]; exact bl_alloc (bl_alloc (bl_alloc (Below.refl _ _) _ (Nat.le_refl _)) _ (Nat.le_refl _)) _ (Nat.le_refl _)
 have HG : Hid (∀ V, Below W.heap.size W V → CaseAt (fun _ => True) V A 4 B 3 exCase) := fun V hb => (g.bl hBW).bl hb
 have kk : Hid (∀ V, Below W.heap.size W V → (V.cell? ⟨w.heap.size, 0, none⟩ = some (.int .i64 2) ∧ V.cell? ⟨w.heap.size, 1, none⟩ = some (.int .i64 100) ∧ V.cell? ⟨w.heap.size, 2, none⟩ = some (.int .i64 50) ∧ V.cell? ⟨w.heap.size, 3, none⟩ = some (.slice A 4 ca) ∧ V.cell? ⟨w.heap.size, 4, none⟩ = some (.slice B 3 cb)) ∧ (V.cell? ⟨w.heap.size + 1, 0, none⟩ = some (.int .i64 1) ∧ V.cell? ⟨w.heap.size + 1, 1, none⟩ = some (.int .i64 2)) ∧ (V.cell? ⟨w.heap.size + 1 + 1, 0, none⟩ = some (.int .i64 2) ∧ V.cell? ⟨w.heap.size + 1 + 1, 1, none⟩ = some (.int .i64 3))) :=
  fun V hb => ⟨⟨(X.bl hb).cell 0, (X.bl hb).cell 1, (X.bl hb).cell 2, (X.bl hb).cell 3, (X.bl hb).cell 4⟩, ⟨(Y.bl hb).cell 0, (Y.bl hb).cell 1⟩, (Z.bl hb).cell 0, (Z.bl hb).cell 1⟩
 clear g X Y Z hfr
 obtain ⟨⟨x0, x1, x2, x3, x4⟩, ⟨y0, y1⟩, z0, z1⟩ := kk.out W (Below.refl _ _)
 go_enter Tryz.func30, Tryz.ntmps30
 go_wp2_with fail
 clear x0 x1 x2 x3 x4 y0 y1 z0 z1 hW
 obtain ⟨U, hU⟩ : ∃ U, W.alloc (.cells #[.int .i64 1, .int .i64 2, .int .i64 2, .int .i64 3] 42) = U := ⟨_, rfl⟩
 have hBU : Below W.heap.size W U := by rw [← hU]; exact bl_alloc (Below.refl _ _) _ (Nat.le_refl _)
 have SU : Blk U W.heap.size 42 #[.int .i64 1, .int .i64 2, .int .i64 2, .int .i64 3] := by rw [← hU]; exact Blk.new _ _ _ rfl
 have hP : Pls (fun _ => True) U (some ⟨W.heap.size, 0, none⟩) 2 [(1, 2), (2, 3)] := pls_blk7 SU rfl trivial (by decide)
 rw [hU]
 refine (senter_any HOK.out (fun y hy => by
  simp only [List.mem_cons, List.not_mem_nil, or_false] at hy
  rcases hy with rfl | rfl
  ·exact HZ1.out
  exact HZ2.out) U (HG.out U hBU) hP rfl rfl rfl).mono ?_
 rintro e V1 ⟨rfl, b1⟩
 rw [HM.out]
 have HB1 : Hid (Below W.heap.size W V1) := bl_call hBU b1 (Nat.le_refl _)
 clear b1 hU SU hP hBU
 obtain ⟨gM, hgM⟩ : ∃ g, V1.heap.size = g := ⟨_, rfl⟩
 obtain ⟨U1, hU1⟩ : ∃ U, V1.alloc (.cells #[.int .i64 2, .int .i64 100, .int .i64 50, .slice A 4 ca, .slice B 3 cb, .func (.func fr) #[] #[]] 104) = U := ⟨_, rfl⟩
 have HBU : Hid (Below W.heap.size W U1) := by rw [Hid, ← hU1]; exact bl_alloc HB1.out _ (Nat.le_refl _)
 have MU : Blk U1 gM 104 #[.int .i64 2, .int .i64 100, .int .i64 50, .slice A 4 ca, .slice B 3 cb, .func (.func fr) #[] #[]] := by rw [← hU1]; exact Blk.new _ _ _ hgM.symm
 have HMU := Lib.hid MU
 have m0 := MU.cell 0
 have m1 := MU.cell 1
 have m2 := MU.cell 2
 have m3 := MU.cell 3
 have m4 := MU.cell 4
 have m5 := MU.cell 5
 obtain ⟨⟨x0, x1, x2, x3, x4⟩, ⟨y0, y1⟩, z0, z1⟩ := kk.out U1 HBU.out
 go_wp2_with fail
 clear x0 x1 x2 x3 x4 y0 y1 z0 z1 m0 m1 m2 m3 m4 m5 MU hU1 hgM
 have hcut := scut_any HOK.out HZ1.out U1 (HG.out U1 HBU.out) (ca := ca) (cb := cb)
 rw [HM.out, HX.out] at hcut
 refine hcut.mono ?_
 rintro e V2 ⟨rfl, b2⟩
 obtain ⟨f1, hf1⟩ : ∃ f, fits5 exCase ((((1, 2) : Nat × Nat).1 : Int), (((1, 2) : Nat × Nat).2 : Int)) = f := ⟨_, rfl⟩
 rw [hf1]
 have HC2 : Hid (Below U1.heap.size U1 V2) := b2
 have HB2 : Hid (Below W.heap.size W V2) := bl_call HBU.out b2 (Nat.le_refl _)
 clear b2 hcut hf1
 obtain ⟨gX, hgX⟩ : ∃ g, V2.heap.size = g := ⟨_, rfl⟩
 obtain ⟨U2, hU2⟩ : ∃ U, V2.alloc (.cells #[.int .i64 v0, .int .i64 v1, .int .i64 v2, .int .i64 v3, .int .i64 v4, .int .i64 v5, .int .i64 v6, .int .i64 v7] 108) = U := ⟨_, rfl⟩
 have HBV : Hid (Below W.heap.size W U2) := by rw [Hid, ← hU2]; exact bl_alloc HB2.out _ (Nat.le_refl _)
 have HUU : Hid (Below U1.heap.size U1 U2) := by rw [Hid, ← hU2]; exact bl_alloc HC2.out _ (Nat.le_refl _)
 have CX : Hid (Blk U2 gX 108 #[.int .i64 v0, .int .i64 v1, .int .i64 v2, .int .i64 v3, .int .i64 v4, .int .i64 v5, .int .i64 v6, .int .i64 v7]) := by rw [Hid, ← hU2]; exact Blk.new _ _ _ hgX.symm
 obtain ⟨⟨x0, x1, x2, x3, x4⟩, ⟨y0, y1⟩, z0, z1⟩ := kk.out U2 HBV.out
 have MV := HMU.out.bl HUU.out
 have m0 := MV.cell 0
 have m1 := MV.cell 1
 have m2 := MV.cell 2
 have m3 := MV.cell 3
 have m4 := MV.cell 4
 have m5 := MV.cell 5
 go_wp2_with fail
 clear x0 x1 x2 x3 x4 y0 y1 z0 z1 m0 m1 m2 m3 m4 m5 MV hU2 hgX
 have hcut := scut_any HOK.out HZ2.out U2 (HG.out U2 HBV.out) (ca := ca) (cb := cb)
 rw [HM.out, HY.out] at hcut
 refine hcut.mono ?_
 rintro e V3 ⟨rfl, b3⟩
 obtain ⟨f2, hf2⟩ : ∃ f, fits5 exCase ((((2, 3) : Nat × Nat).1 : Int), (((2, 3) : Nat × Nat).2 : Int)) = f := ⟨_, rfl⟩
 rw [hf2]
 have HC3 : Hid (Below U2.heap.size U2 V3) := b3
 have HB3 : Hid (Below W.heap.size W V3) := bl_call HBV.out b3 (Nat.le_refl _)
 clear b3 hcut hf2
 obtain ⟨gY, hgY⟩ : ∃ g, V3.heap.size = g := ⟨_, rfl⟩
 obtain ⟨U3, hU3⟩ : ∃ U, V3.alloc (.cells #[.int .i64 u0, .int .i64 u1, .int .i64 u2, .int .i64 u3, .int .i64 u4, .int .i64 u5, .int .i64 u6, .int .i64 u7] 108) = U := ⟨_, rfl⟩
 have HBV3 : Hid (Below W.heap.size W U3) := by rw [Hid, ← hU3]; exact bl_alloc HB3.out _ (Nat.le_refl _)
 have HU3 : Hid (Below U2.heap.size U2 U3) := by rw [Hid, ← hU3]; exact bl_alloc HC3.out _ (Nat.le_refl _)
 have CY : Hid (Blk U3 gY 108 #[.int .i64 u0, .int .i64 u1, .int .i64 u2, .int .i64 u3, .int .i64 u4, .int .i64 u5, .int .i64 u6, .int .i64 u7]) := by rw [Hid, ← hU3]; exact Blk.new _ _ _ hgY.symm
 have CX3 : Hid (Blk U3 gX 108 #[.int .i64 v0, .int .i64 v1, .int .i64 v2, .int .i64 v3, .int .i64 v4, .int .i64 v5, .int .i64 v6, .int .i64 v7]) := CX.out.bl HU3.out
 obtain ⟨⟨x0, x1, x2, x3, x4⟩, ⟨y0, y1⟩, z0, z1⟩ := kk.out U3 HBV3.out
 have p0 := CX3.out.cell 0
 have p1 := CX3.out.cell 1
 have p2 := CX3.out.cell 2
 have p3 := CX3.out.cell 3
 have p4 := CX3.out.cell 4
 have p5 := CX3.out.cell 5
 have p6 := CX3.out.cell 6
 have p7 := CX3.out.cell 7
 have q0 := CY.out.cell 0
 have q1 := CY.out.cell 1
 have q2 := CY.out.cell 2
 have q3 := CY.out.cell 3
 have q4 := CY.out.cell 4
 have q5 := CY.out.cell 5
 have q6 := CY.out.cell 6
 have q7 := CY.out.cell 7
 have heq : ∀ w, (Op.equalIn 10000 108 (.agg #[.int .i64 v0, .int .i64 v1, .int .i64 v2, .int .i64 v3, .int .i64 v4, .int .i64 v5, .int .i64 v6, .int .i64 v7]) (.agg #[.int .i64 u0, .int .i64 u1, .int .i64 u2, .int .i64 u3, .int .i64 u4, .int .i64 u5, .int .i64 u6, .int .i64 u7])).run Tryz.prog w = .ok false w := fun w => by rw [HVX.out, HVY.out]; exact eq_cutsX w
 go_wp2_with fail
 clear x0 x1 x2 x3 x4 y0 y1 z0 z1 p0 p1 p2 p3 p4 p5 p6 p7 q0 q1 q2 q3 q4 q5 q6 q7 hU3 hgY heq
 rw [HVX.out] at CX3
 rw [HVY.out] at CY
 go_loopw [6, 43] (fun al i wr => ∃ (k n' cap : Nat) (An : Option Addr), k ≤ 4 ∧ n' ≤ k ∧ i = .int .i64 k ∧ al = .slice An n' cap ∧ Hid (Below U3.heap.size U3 wr) ∧ Hid (OwnL IntR 1 (fun _ => False) wr U3.heap.size 3 (.slice An n' cap) (ptsX k)) ∧ Hid ((ptsX k).length = n')) (fun _ i _ => 4 - (intOf i).toNat)
 case atStart => exact ⟨0, 0, 0, none, by omega, Nat.le_refl _, rfl, rfl, Below.refl _ _, OwnL.nil _ _ _ _ _ _, rfl⟩
 case round =>
  obtain ⟨k, n', cap, An, hk, hn', rfl, rfl, HBr, HOr, HLr⟩ := hrel
  have PX := CX3.out.bl HBr.out
  have PY := CY.out.bl HBr.out
  have p0 := PX.cell 0
  have p1 := PX.cell 1
  have p2 := PX.cell 2
  have p3 := PX.cell 3
  have q0 := PY.cell 0
  have q1 := PY.cell 1
  have q2 := PY.cell 2
  have q3 := PY.cell 3
  clear PX PY
  rcases k with _ | _ | _ | _ | k
  ·go_wp2_with fail
   go_quiet (fail)
   go_wp2_with fail
   go_roundw
   case rel => exact ⟨1, n', cap, An, by omega, by omega, by go_num, rfl, bl_drewN HBr.out _, HOr.out.keep IntR.good (Keeps.drewN _ _), HLr⟩
   case measure => simp [intOf]
  ·have HBs := HBr.out.size
   have HON : Hid (∀ q, OwnL IntR 1 (fun _ => False) (wr.drewN q) U3.heap.size 3 (.slice An n' cap) (ptsX 1)) := fun q => HOr.out.keep IntR.good (Keeps.drewN _ _)
   go_wp2_with fail
   go_quiet (fail)
   go_wp2_with (at_builtin; refine wpList_append_n _ rfl (.tmp 53) (.tmp 55) _ rfl IntR.good U3.heap.size 3 iI _ 8 Tryz.underlying22 hiI hzI0 hzI1 hzI2 rfl (by omega) (.slice An n' cap) (ptsX 1) 1 n' HLr.out rfl ((HON.out _).alloc IntR.good _) ⟨_, 0, none⟩ 1 [.int .i64 1] rfl rfl (news_new rfl rfl) ?c1 ?c2 ?c3 (fun h => h) ?_)
   case c1 => simp only [maxLen]; omega
   case c2 => omega
   case c3 => simp; omega
   intro A' cap' w2 hown2 hg2 hat2
   have HB5 : Hid (Below U3.heap.size U3 w2) := bl_grown (bl_alloc (bl_drewN HBr.out _) _ (Nat.le_refl _)) ((HON.out _).alloc IntR.good _) hg2 (Nat.le_refl _) (Nat.le_refl _)
   have HO5 : Hid (OwnL IntR 1 (fun _ => False) w2 U3.heap.size 3 (.slice (some ⟨A', 0, none⟩) (n' + 1) cap') (ptsX 2)) := hown2
   clear hown2 hg2 hat2 p0 p1 p2 p3 q0 q1 q2 q3
   go_wp2_with fail
   go_roundw
   case rel => exact ⟨2, n' + 1, cap', some ⟨A', 0, none⟩, by omega, by omega, by go_num, by simp, HB5, HO5, by have h := HLr.out; rw [Hid]; rw [← h]; rfl⟩
   case measure => simp [intOf]
  ·have HBs := HBr.out.size
   have HON : Hid (∀ q, OwnL IntR 1 (fun _ => False) (wr.drewN q) U3.heap.size 3 (.slice An n' cap) (ptsX 2)) := fun q => HOr.out.keep IntR.good (Keeps.drewN _ _)
   go_wp2_with fail
   go_quiet (fail)
   go_wp2_with (at_builtin; refine wpList_append_n _ rfl (.tmp 53) (.tmp 55) _ rfl IntR.good U3.heap.size 3 iI _ 8 Tryz.underlying22 hiI hzI0 hzI1 hzI2 rfl (by omega) (.slice An n' cap) (ptsX 2) 2 n' HLr.out rfl ((HON.out _).alloc IntR.good _) ⟨_, 0, none⟩ 1 [.int .i64 2] rfl rfl (news_new rfl rfl) ?c1 ?c2 ?c3 (fun h => h) ?_)
   case c1 => simp only [maxLen]; omega
   case c2 => omega
   case c3 => simp; omega
   intro A' cap' w2 hown2 hg2 hat2
   have HB5 : Hid (Below U3.heap.size U3 w2) := bl_grown (bl_alloc (bl_drewN HBr.out _) _ (Nat.le_refl _)) ((HON.out _).alloc IntR.good _) hg2 (Nat.le_refl _) (Nat.le_refl _)
   have HO5 : Hid (OwnL IntR 1 (fun _ => False) w2 U3.heap.size 3 (.slice (some ⟨A', 0, none⟩) (n' + 1) cap') (ptsX 3)) := hown2
   clear hown2 hg2 hat2 p0 p1 p2 p3 q0 q1 q2 q3
   go_wp2_with fail
   go_roundw
   case rel => exact ⟨3, n' + 1, cap', some ⟨A', 0, none⟩, by omega, by omega, by go_num, by simp, HB5, HO5, by have h := HLr.out; rw [Hid]; rw [← h]; rfl⟩
   case measure => simp [intOf]
  ·have HBs := HBr.out.size
   have HON : Hid (∀ q, OwnL IntR 1 (fun _ => False) (wr.drewN q) U3.heap.size 3 (.slice An n' cap) (ptsX 3)) := fun q => HOr.out.keep IntR.good (Keeps.drewN _ _)
   go_wp2_with fail
   go_quiet (fail)
   go_wp2_with (at_builtin; refine wpList_append_n _ rfl (.tmp 53) (.tmp 55) _ rfl IntR.good U3.heap.size 3 iI _ 8 Tryz.underlying22 hiI hzI0 hzI1 hzI2 rfl (by omega) (.slice An n' cap) (ptsX 3) 3 n' HLr.out rfl ((HON.out _).alloc IntR.good _) ⟨_, 0, none⟩ 1 [.int .i64 3] rfl rfl (news_new rfl rfl) ?c1 ?c2 ?c3 (fun h => h) ?_)
   case c1 => simp only [maxLen]; omega
   case c2 => omega
   case c3 => simp; omega
   intro A' cap' w2 hown2 hg2 hat2
   have HB5 : Hid (Below U3.heap.size U3 w2) := bl_grown (bl_alloc (bl_drewN HBr.out _) _ (Nat.le_refl _)) ((HON.out _).alloc IntR.good _) hg2 (Nat.le_refl _) (Nat.le_refl _)
   have HO5 : Hid (OwnL IntR 1 (fun _ => False) w2 U3.heap.size 3 (.slice (some ⟨A', 0, none⟩) (n' + 1) cap') (ptsX 4)) := hown2
   clear hown2 hg2 hat2 p0 p1 p2 p3 q0 q1 q2 q3
   go_wp2_with fail
   go_roundw
   case rel => exact ⟨4, n' + 1, cap', some ⟨A', 0, none⟩, by omega, by omega, by go_num, by simp, HB5, HO5, by have h := HLr.out; rw [Hid]; rw [← h]; rfl⟩
   case measure => simp [intOf]
  obtain rfl : k = 0 := by omega
  obtain rfl : n' = 3 := HLr.out.symm
  have HI : Hid (Ints (fun _ => True) wr An 3 [1, 2, 3]) := HOr.out.slice (T := fun _ => True) IntR.good rfl (by simp only [maxLen]; omega) (fun _ h => h.elim) (fun _ _ _ => trivial)
  have HBE : Hid (Below w.heap.size w wr) := bl_call hBW (bl_call HBV3.out HBr.out (Nat.le_refl _)) (Nat.le_refl _)
  clear p0 p1 p2 p3 q0 q1 q2 q3
  go_wp2
  go_ret2
  first
   | exact ⟨⟨An, ⟨cap, rfl⟩, HI.out⟩, HBE.out⟩
   | exact ⟨⟨An, HI.out, cap, rfl⟩, HBE.out⟩
   | exact ⟨⟨An, cap, rfl, HI.out⟩, HBE.out⟩
   | exact ⟨⟨An, ⟨cap, ret_bool rfl⟩, HI.out⟩, HBE.out⟩
open Go.RowKit Go.Shelf Go.Maps
open Go.WideMaps (KeyLaw)
open Go.ChangeMaps (setBlock)
structure MapS (P : Program) (k e : TypeId) {α : Type} (key : α → Value) (w : World) (b n : Nat) (F : α → Option Int) (s : Nat) : Prop where
 ex : ∃ D : DataW Unit, w.ownsMap P k (plainElem P e) b n D ∧ Maps.size D = s ∧ ∀ (x : α) (kl : Lit), keyOf P k (key x) = some kl → ∀ zd : DataW Unit, D.atKey kl zd = match F x with
  | some c => .lit (.int .i64 c)
  | none => zd
section
variable {P : Program} {t k e : TypeId} {w : World} {b n s : Nat} {α : Type} {key : α → Value} {F : α → Option Int}
theorem MapS.new (w : World) : MapS P k e key (w.alloc (.map #[] 0)) w.heap.size 0 (fun _ => none) 0 := ⟨_, World.ownsMap_made _ _ _ _, rfl, fun _ _ _ _ => rfl⟩
theorem MapS.at {w' : World} (h : MapS P k e key w b n F s) (hb : w'.heap[b]? = w.heap[b]?) : MapS P k e key w' b n F s := by
 obtain ⟨D, h1, h2⟩ := h.ex
 exact ⟨D, ownsMap_at h1 hb, h2⟩
theorem MapS.lt (h : MapS P k e key w b n F s) : b < w.heap.size := by obtain ⟨D, h1, _⟩ := h.ex; exact h1.lt
theorem MapS.len (h : MapS P k e key w b n F s) (ht : P.underlying t = some (.map k e)) (ty : TypeId) : (Builtin.len_ #[t] ty #[.map (some b)]).run P w = .ok (.int .i64 s) w := by
 obtain ⟨D, h1, h2, _⟩ := h.ex
 rw [← h2]
 exact h1.len ht ty
theorem MapS.count [DecidableEq α] (hinj : ∀ x y, key x = key y → x = y) (h : MapS P k e key w b n F s) (K : KeyLaw P k) (he : P.underlying e = some (.int .i64)) (ht : P.underlying t = some (.map k e)) (hz : ∀ u : World, (zeroValue e).run P u = .ok (.int .i64 0) u)
  (hn : n < 4611686018427387904) (x : α) (hkey : ∃ kl, keyOf P k (key x) = some kl) {c : Int} (hc : (F x).getD 0 = c) (hwf : (Lit.int .i64 (c + 1)).wf = true) :
  ∃ (st : Nat) (o1 : Obj),
   (∀ w2 : World, (w2.heap[b]? = w.heap[b]? ∨ w2.heap[b]? = some o1) → (Instr.mapEntry t (.map (some b)) (key x)).run P w2 = .ok (.tuple #[.int .i64 c, goInt st]) (setBlock w2 b o1)) ∧
   (∀ w2 : World, (w2.heap[b]? = w.heap[b]? ∨ w2.heap[b]? = some o1) → (Instr.lookup t (.map (some b)) (key x) false).run P w2 = .ok (.int .i64 c) w2) ∧
   (∀ w2 : World, w2.heap[b]? = some o1 → ∃ w3, (Instr.entryStore t (.map (some b)) (goInt st) (.int .i64 (c + 1))).run P w2 = .ok () w3 ∧ w2.grownBy w3 (some b) ∧ MapS P k e key w3 b (n + 1) (fun y => if x = y then some (c + 1) else F y) (if (F x).isSome then s else s + 1)) := by
 obtain ⟨D, h1, hs, h2⟩ := h.ex
 obtain ⟨kl, hkl⟩ := hkey
 obtain ⟨c', st, es1, clock1, e1, _, e3, e4, e5⟩ := entry_own K ht he hz h1 (Nat.lt_of_lt_of_le hn (by unfold maxLen; omega)) hkl
 have hcc : c' = c := by
  have h3 := h2 x kl hkl (.lit (.int .i64 0))
  rw [e1] at h3
  rw [← hc]
  cases hF : F x with
  | none => rw [hF] at h3; injection h3 with h3; injection h3
  | some d => rw [hF] at h3; injection h3 with h3; injection h3
 subst hcc
 have KK := Keyed.of_law K
 have hhas : Maps.has D kl = (F x).isSome := by
  cases hF : F x with
  | none =>
   refine Maps.has_false_of_atKey fun zd => ?_
   have h3 := h2 x kl hkl zd
   rw [hF] at h3
   exact h3
  | some d =>
   refine Maps.has_true_of_atKey (y := .lit (.int .i64 d)) fun zd => ?_
   have h3 := h2 x kl hkl zd
   rw [hF] at h3
   exact h3
 refine ⟨st, .map es1 clock1, e3, e4, fun w2 hw2 => ?_⟩
 obtain ⟨w3, r1, r2, r3⟩ := e5 w2 (c' + 1) hw2 hwf
 refine ⟨w3, r1, r3, ⟨_, r2, ?_, fun y kl' hkl' zd => ?_⟩⟩
 ·rw [size_put (h1.tidy KK), hhas, hs]
 by_cases hy : kl' = kl
 ·subst hy
  have hxy : x = y := hinj _ _ (K.inj hkl hkl')
  rw [if_pos hxy]
  exact atKey_put_same h1.isMap (KK.key hkl) _ _
 have hxy : ¬ x = y := fun e => by
  subst e
  rw [hkl] at hkl'
  injection hkl' with hkl'
  exact hy hkl'.symm
 rw [if_neg hxy, atKey_put_other hy]
 exact h2 y kl' hkl' zd
theorem eight_key {P : Program} {k i : TypeId} (hu : P.underlying k = some (.array 8 i)) (hi : P.underlying i = some (.int .i64)) (hk : P.keyType k = true) (hc : P.cellsOf k = 8) (hci : P.cellsOf i = 1) (hd : ∃ d, P.types.size = d + 1)
  {v0 v1 v2 v3 v4 v5 v6 v7 : Int} (g0 : (Lit.int .i64 v0).wf = true) (g1 : (Lit.int .i64 v1).wf = true) (g2 : (Lit.int .i64 v2).wf = true) (g3 : (Lit.int .i64 v3).wf = true) (g4 : (Lit.int .i64 v4).wf = true) (g5 : (Lit.int .i64 v5).wf = true) (g6 : (Lit.int .i64 v6).wf = true) (g7 : (Lit.int .i64 v7).wf = true) :
  ∃ kl, keyOf P k (.agg #[.int .i64 v0, .int .i64 v1, .int .i64 v2, .int .i64 v3, .int .i64 v4, .int .i64 v5, .int .i64 v6, .int .i64 v7]) = some kl := by
 obtain ⟨d, hd⟩ := hd
 rw [← Option.isSome_iff_exists, keyOf, hu]
 simp only [hk, hd, Value.formed, hu, hc, Program.keyLits, Value.cells]
 simp [List.range_succ, hci, hi, hc, g0, g1, g2, g3, g4, g5, g6, g7]
end
theorem keyC_law : WideMaps.KeyLaw Tryz.prog 108 := deep_law_laid laidOutP7 (m := 2) (by omega) (of_decide_eq_true (by kernel_rfl)) (by kernel_rfl) (by rw [Tryz.underlying108])
theorem keyC_type : Tryz.prog.keyType 108 = true := by kernel_rfl
theorem cellsC8 : Tryz.prog.cellsOf 108 = 8 := by kernel_rfl
def kvC (l : List Int) : Value := .agg (l.map fun x => Value.int .i64 x).toArray
theorem kvC_inj (x y : List Int) (h : kvC x = kvC y) : x = y := by
 have h2 : (x.map fun x => Value.int .i64 x) = y.map fun x => Value.int .i64 x := by
  unfold kvC at h
  injection h with h
  simpa using h
 exact (List.map_inj_right (fun a b e => by injection e)).1 h2
theorem kvC_ok {v0 v1 v2 v3 v4 v5 v6 v7 : Int} (h : ∀ x ∈ [v0, v1, v2, v3, v4, v5, v6, v7], 0 ≤ x ∧ x ≤ 1000000) : ∃ kl, keyOf Tryz.prog 108 (kvC [v0, v1, v2, v3, v4, v5, v6, v7]) = some kl := by
 simp only [List.mem_cons, List.not_mem_nil, or_false, forall_eq_or_imp, forall_eq] at h
 obtain ⟨h0, h1, h2, h3, h4, h5, h6, h7⟩ := h
 exact eight_key Tryz.underlying108 Tryz.underlying3 keyC_type cellsC8 cellsP1 types_size7 (wf_i64 (by omega) (by omega)) (wf_i64 (by omega) (by omega)) (wf_i64 (by omega) (by omega)) (wf_i64 (by omega) (by omega)) (wf_i64 (by omega) (by omega)) (wf_i64 (by omega) (by omega)) (wf_i64 (by omega) (by omega)) (wf_i64 (by omega) (by omega))
def MetAt (w : World) (b : Nat) (xs : List (List Int)) : Prop := ∃ F : List Int → Option Int, (∀ y, F y = if y ∈ xs then some (xs.count y : Int) else none) ∧ MapS Tryz.prog 108 3 kvC w b xs.length F (distN xs)
theorem MetAt.new (w : World) : MetAt (w.alloc (.map #[] 0)) w.heap.size [] := ⟨fun _ => none, fun y => by simp, MapS.new w⟩
theorem MetAt.at {w w' : World} {b : Nat} {xs : List (List Int)} (h : MetAt w b xs) (hb : w'.heap[b]? = w.heap[b]?) : MetAt w' b xs := by
 obtain ⟨F, h1, h2⟩ := h
 exact ⟨F, h1, h2.at hb⟩
theorem MetAt.len {w : World} {b : Nat} {xs : List (List Int)} (h : MetAt w b xs) (ty : TypeId) : (Builtin.len_ #[141] ty #[.map (some b)]).run Tryz.prog w = .ok (.int .i64 (distN xs)) w := by
 obtain ⟨F, h1, h2⟩ := h
 exact h2.len Tryz.underlying141 ty
theorem MetAt.count {w : World} {b : Nat} {xs : List (List Int)} (h : MetAt w b xs) (x : List Int) (hx : xs.length ≤ 100) (hkey : ∃ kl, keyOf Tryz.prog 108 (kvC x) = some kl) :
  ∃ (st : Nat) (o1 : Obj),
   (∀ w2 : World, (w2.heap[b]? = w.heap[b]? ∨ w2.heap[b]? = some o1) → (Instr.mapEntry 141 (.map (some b)) (kvC x)).run Tryz.prog w2 = .ok (.tuple #[.int .i64 (xs.count x : Int), goInt st]) (setBlock w2 b o1)) ∧
   (∀ w2 : World, (w2.heap[b]? = w.heap[b]? ∨ w2.heap[b]? = some o1) → (Instr.lookup 141 (.map (some b)) (kvC x) false).run Tryz.prog w2 = .ok (.int .i64 (xs.count x : Int)) w2) ∧
   (∀ w2 : World, w2.heap[b]? = some o1 → ∃ w3, (Instr.entryStore 141 (.map (some b)) (goInt st) (.int .i64 ((xs.count x : Int) + 1))).run Tryz.prog w2 = .ok () w3 ∧ w2.grownBy w3 (some b) ∧ MetAt w3 b (xs ++ [x])) := by
 obtain ⟨F, h1, h2⟩ := h
 have hcl : xs.count x ≤ xs.length := List.count_le_length
 have hc : (F x).getD 0 = (xs.count x : Int) := by
  rw [h1]
  by_cases hm : x ∈ xs
  ·rw [if_pos hm]; rfl
  rw [if_neg hm, List.count_eq_zero.2 hm]; rfl
 obtain ⟨st, o1, e1, e2, e3⟩ := h2.count kvC_inj keyC_law Tryz.underlying3 Tryz.underlying141 zeroInt7 (by omega) x hkey hc (wf_i64 (by omega) (by omega))
 refine ⟨st, o1, e1, e2, fun w2 hw2 => ?_⟩
 obtain ⟨w3, r1, r2, r3⟩ := e3 w2 hw2
 refine ⟨w3, r1, r2, (fun y => if x = y then some ((xs.count x : Int) + 1) else F y), fun y => ?_, ?_⟩
 case refine_2 =>
  have hs : (if (F x).isSome then distN xs else distN xs + 1) = distN (xs ++ [x]) := by
   rw [distN_snoc, h1]
   by_cases hm : x ∈ xs
   ·rw [if_pos hm, if_pos hm]; rfl
   rw [if_neg hm, if_neg hm]; rfl
  rw [← hs, List.length_append]
  exact r3
 dsimp only
 by_cases e : x = y
 ·subst e
  rw [if_pos rfl, if_pos (by simp)]
  simp
 rw [if_neg e, h1]
 by_cases hm : y ∈ xs
 ·rw [if_pos hm, if_pos (by simp [hm])]
  simp [List.count_append, List.count_singleton, e]
 rw [if_neg hm, if_neg (fun hh => (List.mem_append.1 hh).elim hm (fun h => e (List.mem_singleton.1 h).symm))]
theorem MetAt.lt {w : World} {b : Nat} {xs : List (List Int)} (h : MetAt w b xs) : b < w.heap.size := by obtain ⟨F, h1, h2⟩ := h; exact h2.lt
end Go.Proofs.YtcnebekkbfajbaaGreat
