/- Walks: the law of one more measure. -/
import Derived.Test.YtkbpmcpmcmnfgaaDoorCLaw6
import Derived.Test.YtkbpmcpmcmnfgaaDoorCTold
set_option linter.unusedVariables false
set_option linter.unusedSimpArgs false
set_option linter.all false
namespace Go.Proofs.YtkbpmcpmcmnfgaaDoor
open Go.RowKit

set_option maxRecDepth 100000 in
set_option maxHeartbeats 1600000 in
theorem moreLaw_any {A B C : Option Addr} {n ca m cb q cc : Nat} {c : Claim} (f z x0 x1 : Int) (w : World) (htab : TabOk w) (h : ClaimAt (fun _ => True) w A n B m C q c) (hca : n ≤ ca) (hcb : m ≤ cb) (hqc : (q + 1) * 16 ≤ 140737488355328) (hx : (0 ≤ x0 ∧ x0 < 256) ∧ (0 ≤ x1 ∧ x1 < 256)) :
    Calls Tryd.prog 10 #[.agg #[.slice A n ca, .slice B m cb, .slice C q cc], .agg #[.int .i64 f, .int .i64 z], .agg #[.int .u8 x0, .int .u8 x1]] w fun e w' => e = .returned (.bool true) ∧ Below w.heap.size w w' := by
  obtain ⟨W0, hW0⟩ : ∃ W0, ((w.alloc (.cells #[.slice A n ca, .slice B m cb, .slice C q cc] 26)).alloc (.cells #[.int .i64 f, .int .i64 z] 62)).alloc (.cells #[.int .u8 x0, .int .u8 x1] 63) = W0 := ⟨_, rfl⟩
  have X1 : Blk W0 w.heap.size 26 #[.slice A n ca, .slice B m cb, .slice C q cc] := by rw [← hW0]; exact ((Blk.new _ _ _ rfl).alloc _).alloc _
  have X2 : Blk W0 (w.heap.size + 1) 62 #[.int .i64 f, .int .i64 z] := by rw [← hW0]; exact (Blk.new _ _ _ (by simp)).alloc _
  have X3 : Blk W0 (w.heap.size + 1 + 1) 63 #[.int .u8 x0, .int .u8 x1] := by rw [← hW0]; exact Blk.new _ _ _ (by simp)
  have hB0 : Below w.heap.size w W0 := by rw [← hW0]; exact bl_alloc (bl_alloc (bl_alloc (Below.refl _ _) _ (Nat.le_refl _)) _ (Nat.le_refl _)) _ (Nat.le_refl _)
  have e1 := h.keep (Keeps.below hB0)
  have t0 := htab.bl hB0
  have HW0 := Lib.hid hW0
  have Hm := Lib.hid h.cs.len
  have Hn := Lib.hid h.fs.len
  clear hW0 h htab
  obtain ⟨⟨hx0, hx0'⟩, hx1, hx1'⟩ := hx
  have q0 : W0.cell? ⟨w.heap.size, 0, none⟩ = some (.slice A n ca) := X1.cell 0
  have q1 : W0.cell? ⟨w.heap.size, 1, none⟩ = some (.slice B m cb) := X1.cell 1
  have q2 : W0.cell? ⟨w.heap.size, 2, none⟩ = some (.slice C q cc) := X1.cell 2
  obtain ⟨d, hd⟩ : ∃ d, withC c ⟨f, z⟩ = d := ⟨_, rfl⟩
  have Hd := Lib.hid hd
  by_cases he : err d = 0
  · have hv : ((check d).2.2 == 0) = true := by have he' : (check d).2.2 = 0 := he; simpa using he'
    have hec : err c = 0 := by rw [← hd] at he; exact err_with he
    have hok := okC_of hec
    have hn5 : n ≤ 5 := by rw [← Hn.out]; exact hok.nf.2
    have hn1 : 1 ≤ n := by rw [← Hn.out]; exact hok.nf.1
    have hm5 : m ≤ 5 := by rw [← Hm.out]; exact hok.nc
    by_cases ha : agreeL d = []
    · have HMd := Lib.hid (must_none he ha)
      have Hec := Lib.hid (err8_two hec)
      obtain ⟨lm, ly, ec, hmc⟩ : ∃ lm ly ec, mustR c = (lm, ly, ec) := ⟨_, _, _, rfl⟩
      have HMc := Lib.hid hmc
      have hec2 : ec = 0 ∨ ec = 8 := by have := Hec.out; rw [hmc] at this; exact this
      clear he ha hmc hd hec hok Hec
      go_enter Tryd.func10, Tryd.ntmps10
      go_wp2_with fail
      rw [HW0.out]
      refine (with_any f z W0 e1 hqc).mono ?_
      rintro e u1 ⟨C', cq', rfl, hD, b1⟩
      rw [Hd.out] at hD
      obtain ⟨u2, hu2⟩ : ∃ u2, u1.alloc (.cells #[.slice A n ca, .slice B m cb, .slice C' (q + 1) cq'] 26) = u2 := ⟨_, rfl⟩
      have D2 : Blk u2 u1.heap.size 26 #[.slice A n ca, .slice B m cb, .slice C' (q + 1) cq'] := by rw [← hu2]; exact Blk.new _ _ _ rfl
      have b2 : Below W0.heap.size W0 u2 := by rw [← hu2]; exact bl_alloc b1 _ (Nat.le_refl _)
      have hD : ClaimAt (fun _ => True) u2 A n B m C' (q + 1) d := by rw [← hu2]; exact hD.keep (Keeps.alloc _ _)
      have c0 : u2.cell? ⟨u1.heap.size, 0, none⟩ = some (.slice A n ca) := D2.cell 0
      have c1 : u2.cell? ⟨u1.heap.size, 1, none⟩ = some (.slice B m cb) := D2.cell 1
      have c2 : u2.cell? ⟨u1.heap.size, 2, none⟩ = some (.slice C' (q + 1) cq') := D2.cell 2
      go_wp2_with fail
      clear hu2 c0 c1 c2
      refine (valid_any u2 hD).mono ?_
      rintro e u3 ⟨rfl, k3⟩
      rw [hv]
      have b3 := bl_call b2 k3 (Nat.le_refl _)
      have c0 := getc b3 q0
      have c1 := getc b3 q1
      have c2 := getc b3 q2
      go_wp2_with fail
      clear c0 c1 c2
      refine (bmust_any u3 (t0.bl b3) (e1.keep (Keeps.below b3)) hca hcb).mono ?_
      rintro e u4 ⟨A1, n1, c1, A2, n2, c2, rfl, _, _, k4⟩
      rw [HMc.out]
      have j4 := bl_call k3 k4 (Nat.le_refl _)
      have b4 := bl_call b2 j4 (Nat.le_refl _)
      have d0 : u4.cell? ⟨u1.heap.size, 0, none⟩ = some (.slice A n ca) := (D2.bl j4).cell 0
      have d1 : u4.cell? ⟨u1.heap.size, 1, none⟩ = some (.slice B m cb) := (D2.bl j4).cell 1
      have d2 : u4.cell? ⟨u1.heap.size, 2, none⟩ = some (.slice C' (q + 1) cq') := (D2.bl j4).cell 2
      go_wp2_with fail
      clear d0 d1 d2
      refine (bmust_any u4 (t0.bl b4) (hD.keep (Keeps.below j4)) hca hcb).mono ?_
      rintro e u5 ⟨A3, n3, c3, A4, n4, c4, rfl, _, _, k5⟩
      rw [HMd.out]
      have b5 := bl_call b4 k5 (Nat.le_refl _)
      rcases hec2 with rfl | rfl
      all_goals
        go_wp2_with fail
        refine (awake_any _ (t0.bl b5)).mono ?_
        rintro e u6 ⟨rfl, k6⟩
        go_wp2
        go_ret
        exact ⟨rfl, bl_call (bl_call hB0 b5 (Nat.le_refl _)) k6 (Nat.le_refl _)⟩
    · have ha' : agreeL (withC c ⟨f, z⟩) ≠ [] := by rw [hd]; exact ha
      have he' : err (withC c ⟨f, z⟩) = 0 := by rw [hd]; exact he
      have HMd := Lib.hid (must_ok he ha)
      have HMc := Lib.hid (must_ok hec (agree_some ha'))
      have hp1 : partL (mustL c) (mustL d) = true := by rw [← hd]; exact must_with
      have hp2 : partL (mayL d) (mayL c) = true := by rw [← hd]; exact may_with
      have Hva : Hid (∀ i : Nat, i < n → ∃ a b a' b', valueR c i = ((a, b), 0) ∧ valueR d i = ((a', b'), 0) ∧ a ≤ a' ∧ b' ≤ b) := fun i hi => by rw [← hd]; exact value_with he' ha' (by rw [Hn.out]; exact hi)
      have Ham : Hid (∀ i : Nat, i < m → ∃ a b a' b', amountR c i = ((a, b), 0) ∧ amountR d i = ((a', b'), 0) ∧ a ≤ a' ∧ b' ≤ b) := fun i hi => by rw [← hd]; exact amount_with he' ha' (by rw [Hm.out]; exact hi)
      clear he ha hd hec hok ha' he'
      obtain ⟨yN, rfl⟩ := Int.eq_ofNat_of_zero_le hx0
      obtain ⟨xN, rfl⟩ := Int.eq_ofNat_of_zero_le hx1
      have hkn : xN % n < n := Nat.mod_lt _ (by omega)
      have htm := turn_rem xN n
      have hnz : ((n : Int) == 0) = false := by simp; omega
      obtain ⟨va, vb, va', vb', hvc, hvd, hv1, hv2⟩ := Hva.out (xN % n) hkn
      generalize hj : xN % n = kN at *
      have hkni : (kN : Int) < n := by omega
      have hkn0 : (0 : Int) ≤ kN := by omega
      have hni5 : (n : Int) ≤ 5 := by omega
      have hw10 : IntKind.i64.wrap (kN : Int) = kN := by rw [IntKind.wrap_i64]; omega
      have hw11 : IntKind.i64.wrap (xN : Int) = xN := by rw [IntKind.wrap_i64]; omega
      have hn0' : ¬ (n : Int) = 0 := by omega
      have hn0'' : ¬ n = 0 := by omega
      have Hvc := Lib.hid hvc
      have Hvd := Lib.hid hvd
      clear hvc hvd Hva
      have hvl : decide (va' < va) = false := decide_eq_false (by omega)
      have hvg : decide (vb' > vb) = false := decide_eq_false (by omega)
      have hvl2 : ¬ va' < va := by omega
      have hvg2 : ¬ vb < vb' := by omega
      go_enter Tryd.func10, Tryd.ntmps10
      go_wp2_with fail
      rw [HW0.out]
      refine (with_any f z W0 e1 hqc).mono ?_
      rintro e u1 ⟨C', cq', rfl, hD, b1⟩
      rw [Hd.out] at hD
      obtain ⟨u2, hu2⟩ : ∃ u2, u1.alloc (.cells #[.slice A n ca, .slice B m cb, .slice C' (q + 1) cq'] 26) = u2 := ⟨_, rfl⟩
      have D2 : Blk u2 u1.heap.size 26 #[.slice A n ca, .slice B m cb, .slice C' (q + 1) cq'] := by rw [← hu2]; exact Blk.new _ _ _ rfl
      have b2 : Below W0.heap.size W0 u2 := by rw [← hu2]; exact bl_alloc b1 _ (Nat.le_refl _)
      have hD : ClaimAt (fun _ => True) u2 A n B m C' (q + 1) d := by rw [← hu2]; exact hD.keep (Keeps.alloc _ _)
      have c0 : u2.cell? ⟨u1.heap.size, 0, none⟩ = some (.slice A n ca) := D2.cell 0
      have c1 : u2.cell? ⟨u1.heap.size, 1, none⟩ = some (.slice B m cb) := D2.cell 1
      have c2 : u2.cell? ⟨u1.heap.size, 2, none⟩ = some (.slice C' (q + 1) cq') := D2.cell 2
      go_wp2_with fail
      clear hu2 c0 c1 c2
      refine (valid_any u2 hD).mono ?_
      rintro e u3 ⟨rfl, k3⟩
      rw [hv]
      have b3 := bl_call b2 k3 (Nat.le_refl _)
      have c0 := getc b3 q0
      have c1 := getc b3 q1
      have c2 := getc b3 q2
      go_wp2_with fail
      clear c0 c1 c2
      refine (bmust_any u3 (t0.bl b3) (e1.keep (Keeps.below b3)) hca hcb).mono ?_
      rintro e u4 ⟨A1, n1, c1, A2, n2, c2, rfl, hI1, hI2, k4⟩
      rw [HMc.out] at hI1 hI2 ⊢
      have j4 := bl_call k3 k4 (Nat.le_refl _)
      have b4 := bl_call b2 j4 (Nat.le_refl _)
      have d0 : u4.cell? ⟨u1.heap.size, 0, none⟩ = some (.slice A n ca) := (D2.bl j4).cell 0
      have d1 : u4.cell? ⟨u1.heap.size, 1, none⟩ = some (.slice B m cb) := (D2.bl j4).cell 1
      have d2 : u4.cell? ⟨u1.heap.size, 2, none⟩ = some (.slice C' (q + 1) cq') := (D2.bl j4).cell 2
      go_wp2_with fail
      clear d0 d1 d2
      refine (bmust_any u4 (t0.bl b4) (hD.keep (Keeps.below j4)) hca hcb).mono ?_
      rintro e u5 ⟨A3, n3, c3, A4, n4, c4, rfl, hI3, hI4, k5⟩
      rw [HMd.out] at hI3 hI4 ⊢
      have hI1 := hI1.keep IntR.good (Keeps.below k5)
      have hI2 := hI2.keep IntR.good (Keeps.below k5)
      have j5 := bl_call j4 k5 (Nat.le_refl _)
      have b5 := bl_call b2 j5 (Nat.le_refl _)
      clear k3 k4 k5 j4 b3 b4
      go_wp2_with fail
      refine (lawpart_any _ hI1 hI3).mono ?_
      rintro e w' ⟨rfl, rfl⟩
      rw [hp1]
      go_wp2_with fail
      refine (lawpart_any _ hI4 hI2).mono ?_
      rintro e w' ⟨rfl, rfl⟩
      rw [hp2]
      clear hI1 hI2 hI3 hI4
      have C5 := X1.bl b5
      have E5 := X3.bl b5
      have D5 := D2.bl j5
      have ec := e1.keep (Keeps.below b5)
      have ed := hD.keep (Keeps.below j5)
      have c0 : u5.cell? ⟨w.heap.size, 0, none⟩ = some (.slice A n ca) := C5.cell 0
      have c1 : u5.cell? ⟨w.heap.size, 1, none⟩ = some (.slice B m cb) := C5.cell 1
      have c2 : u5.cell? ⟨w.heap.size, 2, none⟩ = some (.slice C q cc) := C5.cell 2
      have c3 : u5.cell? ⟨w.heap.size + 1 + 1, 1, none⟩ = some (.int .u8 xN) := E5.c1
      go_wp2_with fail
      clear c0 c1 c2 c3
      refine (bvalue_any (kN : Int) u5 ec hca hcb).mono ?_
      rintro e u6 ⟨rfl, k6⟩
      rw [Hvc.out]
      obtain ⟨u7, hu7⟩ : ∃ u7, u6.alloc (.cells #[.int .i64 va, .int .i64 vb] 44) = u7 := ⟨_, rfl⟩
      have G7 : Blk u7 u6.heap.size 44 #[.int .i64 va, .int .i64 vb] := by rw [← hu7]; exact Blk.new _ _ _ rfl
      have j7 : Below u5.heap.size u5 u7 := by rw [← hu7]; exact bl_alloc k6 _ (Nat.le_refl _)
      have hs6 : u5.heap.size ≤ u6.heap.size := k6.size
      have d0 : u7.cell? ⟨u1.heap.size, 0, none⟩ = some (.slice A n ca) := (D5.bl j7).cell 0
      have d1 : u7.cell? ⟨u1.heap.size, 1, none⟩ = some (.slice B m cb) := (D5.bl j7).cell 1
      have d2 : u7.cell? ⟨u1.heap.size, 2, none⟩ = some (.slice C' (q + 1) cq') := (D5.bl j7).cell 2
      go_wp2_with fail
      clear d0 d1 d2 hu7
      refine (bvalue_any (kN : Int) u7 (ed.keep (Keeps.below j7)) hca hcb).mono ?_
      rintro e u8 ⟨rfl, k8⟩
      rw [Hvd.out]
      obtain ⟨u9, hu9⟩ : ∃ u9, u8.alloc (.cells #[.int .i64 va', .int .i64 vb'] 44) = u9 := ⟨_, rfl⟩
      have G9 : Blk u9 u8.heap.size 44 #[.int .i64 va', .int .i64 vb'] := by rw [← hu9]; exact Blk.new _ _ _ rfl
      have G8 : Blk u9 u6.heap.size 44 #[.int .i64 va, .int .i64 vb] := by rw [← hu9]; exact (G7.bl k8).alloc _
      have j9 : Below u5.heap.size u5 u9 := by rw [← hu9]; exact bl_alloc (bl_call j7 k8 (Nat.le_refl _)) _ (Nat.le_refl _)
      have hs8 : u6.heap.size < u8.heap.size := by have := G7.lt; have := k8.size; omega
      have g0 := G8.c0
      have g1 := G8.c1
      have g2 := G9.c0
      have g3 := G9.c1
      have c1 : u9.cell? ⟨w.heap.size, 1, none⟩ = some (.slice B m cb) := (C5.bl j9).cell 1
      have b9 := bl_call b5 j9 (Nat.le_refl _)
      clear k6 k8 j7 G7
      by_cases hm0 : m = 0
      · have hmz : ((m : Int) == 0) = true := by subst hm0; rfl
        go_wp2_with fail
        refine (awake_any _ (t0.bl b9)).mono ?_
        rintro e u10 ⟨rfl, k10⟩
        go_wp2
        go_ret
        exact ⟨rfl, bl_call (bl_call hB0 b9 (Nat.le_refl _)) k10 (Nat.le_refl _)⟩
      · have hmz : ((m : Int) == 0) = false := by simp; omega
        have hin : yN % m < m := Nat.mod_lt _ (by omega)
        have htm2 := turn_rem yN m
        obtain ⟨aa, ab, aa', ab', hac, had, hm1, hm2⟩ := Ham.out (yN % m) hin
        generalize hj2 : yN % m = iN at *
        have hini : (iN : Int) < m := by omega
        have hin0 : (0 : Int) ≤ iN := by omega
        have hmi5 : (m : Int) ≤ 5 := by omega
        have hw12 : IntKind.i64.wrap (iN : Int) = iN := by rw [IntKind.wrap_i64]; omega
        have hw13 : IntKind.i64.wrap (yN : Int) = yN := by rw [IntKind.wrap_i64]; omega
        have hm0' : ¬ (m : Int) = 0 := by omega
        have Hac := Lib.hid hac
        have Had := Lib.hid had
        clear hac had
        have hal : decide (aa' ≥ aa) = true := decide_eq_true (by omega)
        have hal2 : aa ≤ aa' := hm1
        have hag : decide (ab' ≤ ab) = true := decide_eq_true hm2
        have c0 : u9.cell? ⟨w.heap.size, 0, none⟩ = some (.slice A n ca) := (C5.bl j9).cell 0
        have c2 : u9.cell? ⟨w.heap.size, 2, none⟩ = some (.slice C q cc) := (C5.bl j9).cell 2
        have c3 : u9.cell? ⟨w.heap.size + 1 + 1, 0, none⟩ = some (.int .u8 yN) := (E5.bl j9).c0
        go_wp2_with fail
        clear c0 c1 c2 c3 g0 g1 g2 g3 hu9
        refine (bamount_any (iN : Int) u9 (ec.keep (Keeps.below j9)) hca hcb).mono ?_
        rintro e u10 ⟨rfl, k10⟩
        rw [Hac.out]
        have j10 := bl_call j9 k10 (Nat.le_refl _)
        have P10 := G8.bl k10
        have P11 := G9.bl k10
        have f0 := P10.frozen 0
        have f1 := P10.frozen 1
        have g0 := P10.c0
        have g1 := P10.c1
        have gl := P10.lt
        obtain ⟨u11, hu11⟩ : ∃ u11, (u10.setCell ⟨u6.heap.size, 0, none⟩ (.int .i64 aa)).setCell ⟨u6.heap.size, 1, none⟩ (.int .i64 ab) = u11 := ⟨_, rfl⟩
        have R10 : Blk u11 u6.heap.size 44 #[.int .i64 aa, .int .i64 ab] := by rw [← hu11]; exact P10.set2 _ _
        have R11 : Blk u11 u8.heap.size 44 #[.int .i64 va', .int .i64 vb'] := by rw [← hu11]; exact (P11.far (by first | omega | (dsimp only; omega)) _).far (by first | omega | (dsimp only; omega)) _
        have j11 : Below u5.heap.size u5 u11 := by rw [← hu11]; exact bl_set (bl_set j10 (by first | omega | (dsimp only; omega)) _) (by first | omega | (dsimp only; omega)) _
        have d0 : u11.cell? ⟨u1.heap.size, 0, none⟩ = some (.slice A n ca) := (D5.bl j11).cell 0
        have d1 : u11.cell? ⟨u1.heap.size, 1, none⟩ = some (.slice B m cb) := (D5.bl j11).cell 1
        have d2 : u11.cell? ⟨u1.heap.size, 2, none⟩ = some (.slice C' (q + 1) cq') := (D5.bl j11).cell 2
        go_wp2_with fail
        clear d0 d1 d2 hu11 f0 f1 g0 g1 gl
        refine (bamount_any (iN : Int) u11 (ed.keep (Keeps.below j11)) hca hcb).mono ?_
        rintro e u12 ⟨rfl, k12⟩
        rw [Had.out]
        have j12 := bl_call j11 k12 (Nat.le_refl _)
        have S10 := R10.bl k12
        have S11 := R11.bl k12
        have f0 := S11.frozen 0
        have f1 := S11.frozen 1
        have g0 := S11.c0
        have g1 := S11.c1
        have gl := S11.lt
        obtain ⟨u13, hu13⟩ : ∃ u13, (u12.setCell ⟨u8.heap.size, 0, none⟩ (.int .i64 aa')).setCell ⟨u8.heap.size, 1, none⟩ (.int .i64 ab') = u13 := ⟨_, rfl⟩
        have T11 : Blk u13 u8.heap.size 44 #[.int .i64 aa', .int .i64 ab'] := by rw [← hu13]; exact S11.set2 _ _
        have T10 : Blk u13 u6.heap.size 44 #[.int .i64 aa, .int .i64 ab] := by rw [← hu13]; exact (S10.far (by first | omega | (dsimp only; omega)) _).far (by first | omega | (dsimp only; omega)) _
        have j13 : Below u5.heap.size u5 u13 := by rw [← hu13]; exact bl_set (bl_set j12 (by first | omega | (dsimp only; omega)) _) (by first | omega | (dsimp only; omega)) _
        have h0 := T10.c0
        have h1 := T10.c1
        have h2 := T11.c0
        have h3 := T11.c1
        have b13 := bl_call b5 j13 (Nat.le_refl _)
        go_wp2_with fail
        refine (awake_any _ (t0.bl b13)).mono ?_
        rintro e u14 ⟨rfl, k14⟩
        go_wp2
        go_ret
        exact ⟨rfl, bl_call (bl_call hB0 b13 (Nat.le_refl _)) k14 (Nat.le_refl _)⟩
  · have hv : ((check d).2.2 == 0) = false := by have he' : (check d).2.2 ≠ 0 := he; simpa using he'
    clear he hd
    go_enter Tryd.func10, Tryd.ntmps10
    go_wp2_with fail
    rw [HW0.out]
    refine (with_any f z W0 e1 hqc).mono ?_
    rintro e u1 ⟨C', cq', rfl, hD, b1⟩
    rw [Hd.out] at hD
    obtain ⟨u2, hu2⟩ : ∃ u2, u1.alloc (.cells #[.slice A n ca, .slice B m cb, .slice C' (q + 1) cq'] 26) = u2 := ⟨_, rfl⟩
    have D2 : Blk u2 u1.heap.size 26 #[.slice A n ca, .slice B m cb, .slice C' (q + 1) cq'] := by rw [← hu2]; exact Blk.new _ _ _ rfl
    have b2 : Below W0.heap.size W0 u2 := by rw [← hu2]; exact bl_alloc b1 _ (Nat.le_refl _)
    have hD : ClaimAt (fun _ => True) u2 A n B m C' (q + 1) d := by rw [← hu2]; exact hD.keep (Keeps.alloc _ _)
    have c0 : u2.cell? ⟨u1.heap.size, 0, none⟩ = some (.slice A n ca) := D2.cell 0
    have c1 : u2.cell? ⟨u1.heap.size, 1, none⟩ = some (.slice B m cb) := D2.cell 1
    have c2 : u2.cell? ⟨u1.heap.size, 2, none⟩ = some (.slice C' (q + 1) cq') := D2.cell 2
    go_wp2_with fail
    clear hu2 c0 c1 c2
    refine (valid_any u2 hD).mono ?_
    rintro e u3 ⟨rfl, k3⟩
    rw [hv]
    have b3 := bl_call b2 k3 (Nat.le_refl _)
    go_wp2_with fail
    refine (awake_any _ (t0.bl b3)).mono ?_
    rintro e u4 ⟨rfl, k4⟩
    go_wp2
    go_ret
    exact ⟨rfl, bl_call (bl_call hB0 b3 (Nat.le_refl _)) k4 (Nat.le_refl _)⟩

end Go.Proofs.YtkbpmcpmcmnfgaaDoor
