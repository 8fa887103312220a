/- A part of the proof that TopMeasured always answers true. -/
import Derived.Test.YtcnebekkbfajbaaGreatCKLarP
import Derived.Test.YtcnebekkbfajbaaGreatCRegion4
import Derived.Test.YtcnebekkbfajbaaGreatCScApart
import Derived.Test.YtcnebekkbfajbaaGreatCScGreat
import Derived.Test.YtcnebekkbfajbaaGreatCScHas
import Derived.Test.YtcnebekkbfajbaaGreatCScTell
set_option linter.all false
namespace Go.Proofs.YtcnebekkbfajbaaGreat
open Go.RowKit Go.Shelf
def IsMarkV (v : Value) (W : World) : Prop := ∃ (A : Nat) (c : Nat), v = .slice (some ⟨A, 0, none⟩) 1 c ∧ Marks (fun _ => True) W (some ⟨A, 0, none⟩) 1 [⟨3, 41, 41⟩]
theorem IsMarkV.bl {v : Value} {W V : World} (h : IsMarkV v W) (hb : Below W.heap.size W V) : IsMarkV v V := by
 obtain ⟨A, c, h1, h2⟩ := h
 exact ⟨A, c, h1, h2.keep MarkR.good (Keeps.below hb)⟩
theorem IsMarkV.new {W : World} {c : Nat} (t : TypeId) : IsMarkV (.slice (some ⟨W.heap.size, 0, none⟩) 1 c) (W.alloc (.cells #[.int .i64 3, .int .i64 41, .int .i64 41] t)) := by
 refine ⟨_, _, rfl, slice_blk7 (xs := [(⟨3, 41, 41⟩ : Mark5)]) (n := 1) (Blk.new W t #[.int .i64 3, .int .i64 41, .int .i64 41] rfl) trivial rfl (by decide) (fun k x hk => ⟨[.int .i64 3, .int .i64 41, .int .i64 41], ?_, fun j u hu => ?_⟩)⟩
 ·have hk1 : k < 1 := of_getq' hk
  obtain rfl : k = 0 := by omega
  simp at hk; subst hk; rfl
 have hk1 : k < 1 := of_getq' hk
 obtain rfl : k = 0 := by omega
 rw [← hu]; simp
theorem ex_cuts {A B : Option Addr} {ca cb : Nat} (W : World) (g : CaseAt (fun _ => True) W A 4 B 3 exCase) :
  Calls Tryz.prog 10 #[.agg #[.int .i64 2, .int .i64 100, .int .i64 50, .slice A 4 ca, .slice B 3 cb], .agg #[.int .i64 1, .int .i64 2]] W fun e w' => (∃ v, e = .returned v ∧ IntsV ([0, 5, 13, 30], 0) v w') ∧ Below W.heap.size W w' := by
 refine (scuts_any (z := (1, 2)) (ca := ca) (cb := cb) ex5_ok ex5_in1.1.1 W g rfl rfl rfl).mono ?_
 rintro e w' ⟨⟨A', c', rfl, hI⟩, hb⟩
 rw [ex5_cuts] at hI
 exact ⟨⟨_, rfl, _, _, _, rfl, hI⟩, hb⟩
theorem ex_false {A B : Option Addr} {ca cb : Nat} (W : World) (g : CaseAt (fun _ => True) W A 4 B 3 exCase) :
  Calls Tryz.prog 25 #[.agg #[.int .i64 2, .int .i64 100, .int .i64 50, .slice A 4 ca, .slice B 3 cb], .agg #[.int .i64 2, .int .i64 3]] W fun e w' => (∃ v, e = .returned v ∧ IntsV ([50, 0, 15], 0) v w') ∧ Below W.heap.size W w' := by
 refine (sfalse_any (z := (2, 3)) (ca := ca) (cb := cb) ex5_ok ex5_in1.1.2.1 W g rfl rfl rfl).mono ?_
 rintro e w' ⟨⟨A', c', rfl, hI⟩, hb⟩
 rw [ex5_false] at hI
 exact ⟨⟨_, rfl, _, _, _, rfl, hI⟩, hb⟩
theorem ex_flat {A B : Option Addr} {ca cb : Nat} (W : World) (g : CaseAt (fun _ => True) W A 4 B 3 exCase) :
  Calls Tryz.prog 26 #[.agg #[.int .i64 2, .int .i64 100, .int .i64 50, .slice A 4 ca, .slice B 3 cb], .agg #[.int .i64 1, .int .i64 30]] W fun e w' => (∃ v, e = .returned v ∧ IntsV ([0], 0) v w') ∧ Below W.heap.size W w' := by
 refine (sFlat_any (z := (1, 30)) (ca := ca) (cb := cb) ex5_ok ex5_in1.1.2.2 W g rfl rfl rfl).mono ?_
 rintro e w' ⟨⟨A', n', c', rfl, hI⟩, hb⟩
 rw [ex5_flat] at hI
 exact ⟨⟨_, rfl, _, _, _, rfl, hI⟩, hb⟩
theorem ex_great {A B : Option Addr} {ca cb : Nat} (W : World) (g : CaseAt (fun _ => True) W A 4 B 3 exCase) :
  Calls Tryz.prog 27 #[.agg #[.int .i64 2, .int .i64 100, .int .i64 50, .slice A 4 ca, .slice B 3 cb], .int .i64 47] W fun e w' => e = .returned (.tuple #[.agg #[.int .i64 5, .int .i64 6], .int .i64 0]) ∧ Below W.heap.size W w' :=
 (sgreat_any (lim := 47) (gz := (5, 6)) (ca := ca) (cb := cb) ex5_ok (by decide) ex5_great (by decide) W g rfl rfl rfl)
theorem ex_least {A B : Option Addr} {ca cb : Nat} (W : World) (g : CaseAt (fun _ => True) W A 4 B 3 exCase) :
  Calls Tryz.prog 28 #[.agg #[.int .i64 2, .int .i64 100, .int .i64 50, .slice A 4 ca, .slice B 3 cb]] W fun e w' => e = .returned (.tuple #[.agg #[.int .i64 1, .int .i64 16], .int .i64 0]) ∧ Below W.heap.size W w' :=
 (sleast_any (z := (1, 16)) (ca := ca) (cb := cb) ex5_ok ex5_least W g rfl rfl rfl)
theorem ex5_scales1 : (scalesN.filter (agreeZ exCase [⟨3, 41, 41⟩])) = [(19, 28), (17, 25), (15, 22), (13, 19), (11, 16), (20, 29)] := ex5_scales
theorem ex_marks : MarksOk exCase [⟨3, 41, 41⟩] := ⟨by decide, fun x hx => by rw [List.mem_singleton.1 hx]; decide⟩
theorem ex_scales {A B L : Option Addr} {ca cb cl : Nat} (W : World) (g : CaseAt (fun _ => True) W A 4 B 3 exCase) (gl : Marks (fun _ => True) W L 1 [⟨3, 41, 41⟩]) :
  Calls Tryz.prog 17 #[.agg #[.int .i64 2, .int .i64 100, .int .i64 50, .slice A 4 ca, .slice B 3 cb], .slice L 1 cl] W fun e w' => (∃ v, e = .returned v ∧ PlsV ([(19, 28), (17, 25), (15, 22), (13, 19), (11, 16), (20, 29)], 0) v w') ∧ Below W.heap.size W w' := by
 refine (sScales_any (ca := ca) (cb := cb) (cl := cl) ex5_ok ex_marks W g gl rfl rfl rfl).mono ?_
 rintro e w' ⟨⟨A', k, c', rfl, hI⟩, hb⟩
 rw [ex5_scales1] at hI
 exact ⟨⟨_, rfl, _, _, _, rfl, hI⟩, hb⟩
theorem ex_apart {A B : Option Addr} {ca cb : Nat} (W : World) (g : CaseAt (fun _ => True) W A 4 B 3 exCase) :
  Calls Tryz.prog 30 #[.agg #[.int .i64 2, .int .i64 100, .int .i64 50, .slice A 4 ca, .slice B 3 cb], .agg #[.int .i64 1, .int .i64 2], .agg #[.int .i64 2, .int .i64 3]] W fun e w' => (∃ v, e = .returned v ∧ IntsV ([1, 2, 3], 0) v w') ∧ Below W.heap.size W w' := by
 refine (sapart_ex (ca := ca) (cb := cb) W g).mono ?_
 rintro e w' ⟨⟨A', c', rfl, hI⟩, hb⟩
 exact ⟨⟨_, rfl, _, _, _, rfl, hI⟩, hb⟩
theorem ex_in3 : ∀ z ∈ [((1, 2) : Nat × Nat), (3, 5), (2, 3)], z ∈ scalesN := by
 intro z hz
 simp only [List.mem_cons, List.not_mem_nil, or_false] at hz
 rcases hz with rfl | rfl | rfl
 ·exact ex5_in1.1.1
 ·exact ex5_in1.2.1
 exact ex5_in1.1.2.1
theorem ex_in2 : ∀ z ∈ [((19, 28) : Nat × Nat), (17, 25)], z ∈ scalesN := by
 intro z hz
 simp only [List.mem_cons, List.not_mem_nil, or_false] at hz
 rcases hz with rfl | rfl
 ·exact ex5_in1.2.2.1
 exact ex5_in1.2.2.2
theorem ex_tell {A B L : Option Addr} {ca cb cl : Nat} (W : World) (g : CaseAt (fun _ => True) W A 4 B 3 exCase) (gl : Pls (fun _ => True) W L 3 [(1, 2), (3, 5), (2, 3)]) :
  Calls Tryz.prog 31 #[.agg #[.int .i64 2, .int .i64 100, .int .i64 50, .slice A 4 ca, .slice B 3 cb], .slice L 3 cl] W fun e w' => (∃ v, e = .returned v ∧ IntsV ([1], 0) v w') ∧ Below W.heap.size W w' := by
 refine (stell_any (ca := ca) (cb := cb) (cl := cl) ex5_ok ex_in3 (by omega) ex5_tell.1 W g gl rfl rfl rfl).mono ?_
 rintro e w' ⟨⟨A', k, c', rfl, hI⟩, hb⟩
 rw [ex5_tell.2] at hI
 exact ⟨⟨_, rfl, _, _, _, rfl, hI⟩, hb⟩
theorem ex_twice {A B L : Option Addr} {ca cb cl : Nat} (W : World) (g : CaseAt (fun _ => True) W A 4 B 3 exCase) (gl : Pls (fun _ => True) W L 2 [(19, 28), (17, 25)]) :
  Calls Tryz.prog 31 #[.agg #[.int .i64 2, .int .i64 100, .int .i64 50, .slice A 4 ca, .slice B 3 cb], .slice L 2 cl] W fun e w' => e = .returned (.tuple #[.slice none 0 0, .int .i64 5]) ∧ Below W.heap.size W w' :=
 stwice_any (ca := ca) (cb := cb) (cl := cl) ex5_ok ex_in2 (by omega) ex5_twice W g gl rfl rfl rfl
set_option maxRecDepth 100000 in
set_option maxHeartbeats 4000000 in
theorem awake5_any (w : World) :
  Calls Tryz.prog 8 #[] w fun e w' => e = .returned (.bool true) ∧ Below w.heap.size w w' := by
 go_enter Tryz.func8, Tryz.ntmps8
 go_wp2_with fail
 refine (case5_any w).mono ?_
 rintro e W1 ⟨⟨v, rfl, A, B, ca, cb, rfl, hc⟩, b1⟩
 obtain ⟨V4, hV4⟩ : ∃ W2, W1.alloc (.cells #[.int .i64 2, .int .i64 100, .int .i64 50, .slice A 4 ca, .slice B 3 cb] 25) = W2 := ⟨_, rfl⟩
 have X1 : Blk V4 W1.heap.size 25 #[.int .i64 2, .int .i64 100, .int .i64 50, .slice A 4 ca, .slice B 3 cb] := by rw [← hV4]; exact Blk.new _ _ _ rfl
 have hA4 : Below W1.heap.size W1 V4 := by rw [← hV4]; exact bl_alloc (Below.refl _ _) _ (Nat.le_refl _)
 have HCV : Hid (∀ V, Below V4.heap.size V4 V → CaseAt (fun _ => True) V A 4 B 3 exCase) := fun V hb => (hc.bl hA4).bl hb
 have HB4 : Hid (Below w.heap.size w V4) := bl_call b1 hA4 (Nat.le_refl _)
 obtain ⟨gS, hgS⟩ : ∃ g, W1.heap.size = g := ⟨_, rfl⟩
 rw [hgS] at X1
 have kk : Hid (∀ V, Below V4.heap.size V4 V → V.cell? ⟨gS, 0, none⟩ = some (.int .i64 2) ∧ V.cell? ⟨gS, 1, none⟩ = some (.int .i64 100) ∧ V.cell? ⟨gS, 2, none⟩ = some (.int .i64 50) ∧ V.cell? ⟨gS, 3, none⟩ = some (.slice A 4 ca) ∧ V.cell? ⟨gS, 4, none⟩ = some (.slice B 3 cb)) := fun V hb =>
  ⟨(X1.bl hb).cell 0, (X1.bl hb).cell 1, (X1.bl hb).cell 2, (X1.bl hb).cell 3, (X1.bl hb).cell 4⟩
 clear hc b1 hA4 X1
 go_wp2_with fail
 clear hV4
 first
 | rw [hgS]
 | skip
 clear hgS
 have HC2 : Hid (Below V4.heap.size V4 V4) := Below.refl _ _
 refine wp_frame5 ?_
 intro a0 ha0
 have tb1 : a0.tmps[1]? = some (.pointer (some ⟨gS, 0, none⟩)) := by rw [ha0]; kernel_rfl
 have hsz : a0.tmps.size = 160 := by rw [ha0]; kernel_rfl
 refine wp_region_list (fun W => Below V4.heap.size V4 W) (fun w w' => Below w.heap.size w w')
  [isV (.agg #[.int .i64 2, .int .i64 100, .int .i64 50, .slice A 4 ca, .slice B 3 cb]), isV (.agg #[.int .i64 1, .int .i64 2]), IntsV ([0, 5, 13, 30], 0), IntsV ([0, 5, 13, 30], 0), SlI [0, 5, 13, 30], isV (.int .i64 0), SlI [0, 5, 13, 30], isV (.int .i64 0)]
  (by kernel_rfl) (by kernel_rfl) (by kernel_rfl) (by simp) (by simp) (Below.refl _ _).drew ?stab2 ?step2 ?fin2
 case stab2 => exact (StabL.is (StabL.is (StabL.cons (fun v W V hC hX h => h.bl hX) (StabL.cons (fun v W V hC hX h => h.bl hX) (StabL.cons (fun v W V hC hX h => h.bl hX) (StabL.is (StabL.cons (fun v W V hC hX h => h.bl hX) (StabL.is StabL.nil))))))))
 case step2 =>
  refine StepsL.isA ?_ (StepsL.isA ?_ (StepsL.consA ?_ (StepsL.consA ?_ (StepsL.consA ?_ (StepsL.isA ?_ (StepsL.consA ?_ (StepsL.isA ?_ StepsL.nil)))))))
  all_goals intro vs a W K ha hC hD hU hK
  all_goals try rw [if_pos (by rfl)]
  ·have r1 := fb ha (by kernel_rfl) tb1
   clear ha hU hD ha0
   obtain ⟨k0, k1, k2, k3, k4⟩ := kk.out W (bl_call HC2.out hC (Nat.le_refl _))
   go_simp
   exact hK _ hC (Below.refl _ _)
  ·clear ha hU hD ha0
   go_simp
   refine (of5_any 1 2 W).mono ?_
   rintro e w' ⟨rfl, hb⟩
   exact hK _ (bl_call hC hb (Nat.le_refl _)) hb
  ·have r22 := fq 22 0 ha hsz (by kernel_rfl) (by decide) (hD 0 (by simp [waits, Region.binds]))
   have r23 := fq 23 1 ha hsz (by kernel_rfl) (by decide) (hD 1 (by simp [waits, Region.binds]))
   clear ha hU hD ha0
   go_simp
   refine (ex_cuts W (HCV.out W (bl_call HC2.out hC (Nat.le_refl _)))).mono ?_
   rintro e w' ⟨⟨v, rfl, hv⟩, hb⟩
   exact hK _ _ (bl_call hC hb (Nat.le_refl _)) hb hv
  ·have r24 := fg 24 2 ha hsz (by kernel_rfl) (by decide)
   have P2 : IntsV ([0, 5, 13, 30], 0) (vs 2) W := hD 2 (by simp [waits, Region.binds])
   obtain ⟨A24, n24, c24, e24, hI24⟩ := P2
   rw [e24] at r24
   clear ha hU hD ha0
   go_simp
   exact hK _ _ hC (Below.refl _ _) ⟨_, _, _, rfl, hI24⟩
  ·have r21 := fg 21 3 ha hsz (by kernel_rfl) (by decide)
   have P3 : IntsV ([0, 5, 13, 30], 0) (vs 3) W := hD 3 (by simp [waits, Region.binds])
   obtain ⟨A21, n21, c21, e21, hI21⟩ := P3
   rw [e21] at r21
   clear ha hU hD ha0
   go_simp
   exact hK _ _ hC (Below.refl _ _) ⟨_, _, _, rfl, hI21⟩
  ·have r21 := fg 21 3 ha hsz (by kernel_rfl) (by decide)
   have P3 : IntsV ([0, 5, 13, 30], 0) (vs 3) W := hD 3 (by simp [waits, Region.binds])
   obtain ⟨A21, n21, c21, e21, hI21⟩ := P3
   rw [e21] at r21
   clear ha hU hD ha0
   go_simp
   exact hK _ hC (Below.refl _ _)
  ·have r25 := fg 25 4 ha hsz (by kernel_rfl) (by decide)
   have P4 : SlI [0, 5, 13, 30] (vs 4) W := hD 4 (by simp [waits, Region.binds])
   obtain ⟨A25, n25, c25, e25, hI25⟩ := P4
   rw [e25] at r25
   clear ha hU hD ha0
   go_simp
   exact hK _ _ hC (Below.refl _ _) ⟨_, _, _, rfl, hI25⟩
  have r26 := fq 26 5 ha hsz (by kernel_rfl) (by decide) (hD 5 (by simp [waits, Region.binds]))
  clear ha hU hD ha0
  go_simp
  exact hK _ hC (Below.refl _ _)
 refine Fin1.none (Nat.le_refl _) ?_
 intro vs W a1 hC hE ha
 have E6 : SlI [0, 5, 13, 30] (vs 6) W := hE 6 (by simp)
 obtain ⟨r2_A, r2_n, r2_c, r2_e, r2_h⟩ := E6
 have H_r2 := Lib.hid r2_h
 have n3_e : vs 7 = .int .i64 0 := hE 7 (by simp)
 rw [ha, ha0]
 clear ha ha0 hsz tb1
 simp only [fillA, Act.put, List.setIfInBounds_toArray, List.set_cons_zero, List.set_cons_succ, Nat.zero_add, Nat.reduceAdd, r2_e, n3_e]
 generalize vs 0 = u0, vs 1 = u1, vs 2 = u2, vs 3 = u3, vs 4 = u4, vs 5 = u5
 have HL2 : Hid (Below V4.heap.size V4 W) := bl_call HC2.out hC (Nat.le_refl _)
 replace H_r2 : Hid (∀ V, Below W.heap.size W V → Ints (fun _ => True) V r2_A r2_n [0, 5, 13, 30]) := fun V hb => H_r2.out.keep IntR.good (Keeps.below hb)
 clear r2_h
 have hCk := Lib.hid hC
 clear hE hC HC2 r2_e n3_e
 clear hCk
 obtain ⟨V5, hV5⟩ : ∃ V, V = W := ⟨_, rfl⟩
 subst hV5
 go_simp
 go_wp2_with fail
 have HC3 : Hid (Below V4.heap.size V4 V5) := HL2.out
 refine wp_frame5 ?_
 intro a0 ha0
 have tb1 : a0.tmps[1]? = some (.pointer (some ⟨gS, 0, none⟩)) := by rw [ha0]; kernel_rfl
 have hsz : a0.tmps.size = 160 := by rw [ha0]; kernel_rfl
 refine wp_region_list (fun W => Below V5.heap.size V5 W) (fun w w' => Below w.heap.size w w')
  [isV (.agg #[.int .i64 2, .int .i64 100, .int .i64 50, .slice A 4 ca, .slice B 3 cb]), isV (.agg #[.int .i64 2, .int .i64 3]), IntsV ([50, 0, 15], 0), IntsV ([50, 0, 15], 0), SlI [50, 0, 15], isV (.int .i64 0), SlI [50, 0, 15], isV (.int .i64 0)]
  (by kernel_rfl) (by kernel_rfl) (by kernel_rfl) (by simp) (by simp) (Below.refl _ _).drew ?stab3 ?step3 ?fin3
 case stab3 => exact (StabL.is (StabL.is (StabL.cons (fun v W V hC hX h => h.bl hX) (StabL.cons (fun v W V hC hX h => h.bl hX) (StabL.cons (fun v W V hC hX h => h.bl hX) (StabL.is (StabL.cons (fun v W V hC hX h => h.bl hX) (StabL.is StabL.nil))))))))
 case step3 =>
  refine StepsL.isA ?_ (StepsL.isA ?_ (StepsL.consA ?_ (StepsL.consA ?_ (StepsL.consA ?_ (StepsL.isA ?_ (StepsL.consA ?_ (StepsL.isA ?_ StepsL.nil)))))))
  all_goals intro vs a W K ha hC hD hU hK
  all_goals try rw [if_pos (by rfl)]
  ·have r1 := fb ha (by kernel_rfl) tb1
   clear ha hU hD ha0
   obtain ⟨k0, k1, k2, k3, k4⟩ := kk.out W (bl_call HC3.out hC (Nat.le_refl _))
   go_simp
   exact hK _ hC (Below.refl _ _)
  ·clear ha hU hD ha0
   go_simp
   refine (of5_any 2 3 W).mono ?_
   rintro e w' ⟨rfl, hb⟩
   exact hK _ (bl_call hC hb (Nat.le_refl _)) hb
  ·have r28 := fq 28 0 ha hsz (by kernel_rfl) (by decide) (hD 0 (by simp [waits, Region.binds]))
   have r29 := fq 29 1 ha hsz (by kernel_rfl) (by decide) (hD 1 (by simp [waits, Region.binds]))
   clear ha hU hD ha0
   go_simp
   refine (ex_false W (HCV.out W (bl_call HC3.out hC (Nat.le_refl _)))).mono ?_
   rintro e w' ⟨⟨v, rfl, hv⟩, hb⟩
   exact hK _ _ (bl_call hC hb (Nat.le_refl _)) hb hv
  ·have r30 := fg 30 2 ha hsz (by kernel_rfl) (by decide)
   have P2 : IntsV ([50, 0, 15], 0) (vs 2) W := hD 2 (by simp [waits, Region.binds])
   obtain ⟨A30, n30, c30, e30, hI30⟩ := P2
   rw [e30] at r30
   clear ha hU hD ha0
   go_simp
   exact hK _ _ hC (Below.refl _ _) ⟨_, _, _, rfl, hI30⟩
  ·have r27 := fg 27 3 ha hsz (by kernel_rfl) (by decide)
   have P3 : IntsV ([50, 0, 15], 0) (vs 3) W := hD 3 (by simp [waits, Region.binds])
   obtain ⟨A27, n27, c27, e27, hI27⟩ := P3
   rw [e27] at r27
   clear ha hU hD ha0
   go_simp
   exact hK _ _ hC (Below.refl _ _) ⟨_, _, _, rfl, hI27⟩
  ·have r27 := fg 27 3 ha hsz (by kernel_rfl) (by decide)
   have P3 : IntsV ([50, 0, 15], 0) (vs 3) W := hD 3 (by simp [waits, Region.binds])
   obtain ⟨A27, n27, c27, e27, hI27⟩ := P3
   rw [e27] at r27
   clear ha hU hD ha0
   go_simp
   exact hK _ hC (Below.refl _ _)
  ·have r31 := fg 31 4 ha hsz (by kernel_rfl) (by decide)
   have P4 : SlI [50, 0, 15] (vs 4) W := hD 4 (by simp [waits, Region.binds])
   obtain ⟨A31, n31, c31, e31, hI31⟩ := P4
   rw [e31] at r31
   clear ha hU hD ha0
   go_simp
   exact hK _ _ hC (Below.refl _ _) ⟨_, _, _, rfl, hI31⟩
  have r32 := fq 32 5 ha hsz (by kernel_rfl) (by decide) (hD 5 (by simp [waits, Region.binds]))
  clear ha hU hD ha0
  go_simp
  exact hK _ hC (Below.refl _ _)
 refine Fin1.none (Nat.le_refl _) ?_
 intro vs W a1 hC hE ha
 have E6 : SlI [50, 0, 15] (vs 6) W := hE 6 (by simp)
 obtain ⟨r4_A, r4_n, r4_c, r4_e, r4_h⟩ := E6
 have H_r4 := Lib.hid r4_h
 have n5_e : vs 7 = .int .i64 0 := hE 7 (by simp)
 rw [ha, ha0]
 clear ha ha0 hsz tb1
 simp only [fillA, Act.put, List.setIfInBounds_toArray, List.set_cons_zero, List.set_cons_succ, Nat.zero_add, Nat.reduceAdd, r4_e, n5_e]
 generalize vs 0 = u0, vs 1 = u1, vs 2 = u2, vs 3 = u3, vs 4 = u4, vs 5 = u5
 have HL3 : Hid (Below V4.heap.size V4 W) := bl_call HC3.out hC (Nat.le_refl _)
 replace H_r4 : Hid (∀ V, Below W.heap.size W V → Ints (fun _ => True) V r4_A r4_n [50, 0, 15]) := fun V hb => H_r4.out.keep IntR.good (Keeps.below hb)
 clear r4_h
 have hCk := Lib.hid hC
 clear hE hC HC3 r4_e n5_e
 replace H_r2 : Hid (∀ V, Below W.heap.size W V → Ints (fun _ => True) V r2_A r2_n [0, 5, 13, 30]) := fun V hb => H_r2.out V (bl_call hCk.out hb (Nat.le_refl _))
 clear hCk
 obtain ⟨V6, hV6⟩ : ∃ V, V = W := ⟨_, rfl⟩
 subst hV6
 go_simp
 go_wp2_with fail
 have HC4 : Hid (Below V4.heap.size V4 V6) := HL3.out
 refine wp_frame5 ?_
 intro a0 ha0
 have tb1 : a0.tmps[1]? = some (.pointer (some ⟨gS, 0, none⟩)) := by rw [ha0]; kernel_rfl
 have hsz : a0.tmps.size = 160 := by rw [ha0]; kernel_rfl
 refine wp_region_list (fun W => Below V6.heap.size V6 W) (fun w w' => Below w.heap.size w w')
  [isV (.agg #[.int .i64 2, .int .i64 100, .int .i64 50, .slice A 4 ca, .slice B 3 cb]), isV (.agg #[.int .i64 1, .int .i64 30]), IntsV ([0], 0), IntsV ([0], 0), SlI [0], isV (.int .i64 0), SlI [0], isV (.int .i64 0)]
  (by kernel_rfl) (by kernel_rfl) (by kernel_rfl) (by simp) (by simp) (Below.refl _ _).drew ?stab4 ?step4 ?fin4
 case stab4 => exact (StabL.is (StabL.is (StabL.cons (fun v W V hC hX h => h.bl hX) (StabL.cons (fun v W V hC hX h => h.bl hX) (StabL.cons (fun v W V hC hX h => h.bl hX) (StabL.is (StabL.cons (fun v W V hC hX h => h.bl hX) (StabL.is StabL.nil))))))))
 case step4 =>
  refine StepsL.isA ?_ (StepsL.isA ?_ (StepsL.consA ?_ (StepsL.consA ?_ (StepsL.consA ?_ (StepsL.isA ?_ (StepsL.consA ?_ (StepsL.isA ?_ StepsL.nil)))))))
  all_goals intro vs a W K ha hC hD hU hK
  all_goals try rw [if_pos (by rfl)]
  ·have r1 := fb ha (by kernel_rfl) tb1
   clear ha hU hD ha0
   obtain ⟨k0, k1, k2, k3, k4⟩ := kk.out W (bl_call HC4.out hC (Nat.le_refl _))
   go_simp
   exact hK _ hC (Below.refl _ _)
  ·clear ha hU hD ha0
   go_simp
   refine (of5_any 1 30 W).mono ?_
   rintro e w' ⟨rfl, hb⟩
   exact hK _ (bl_call hC hb (Nat.le_refl _)) hb
  ·have r34 := fq 34 0 ha hsz (by kernel_rfl) (by decide) (hD 0 (by simp [waits, Region.binds]))
   have r35 := fq 35 1 ha hsz (by kernel_rfl) (by decide) (hD 1 (by simp [waits, Region.binds]))
   clear ha hU hD ha0
   go_simp
   refine (ex_flat W (HCV.out W (bl_call HC4.out hC (Nat.le_refl _)))).mono ?_
   rintro e w' ⟨⟨v, rfl, hv⟩, hb⟩
   exact hK _ _ (bl_call hC hb (Nat.le_refl _)) hb hv
  ·have r36 := fg 36 2 ha hsz (by kernel_rfl) (by decide)
   have P2 : IntsV ([0], 0) (vs 2) W := hD 2 (by simp [waits, Region.binds])
   obtain ⟨A36, n36, c36, e36, hI36⟩ := P2
   rw [e36] at r36
   clear ha hU hD ha0
   go_simp
   exact hK _ _ hC (Below.refl _ _) ⟨_, _, _, rfl, hI36⟩
  ·have r33 := fg 33 3 ha hsz (by kernel_rfl) (by decide)
   have P3 : IntsV ([0], 0) (vs 3) W := hD 3 (by simp [waits, Region.binds])
   obtain ⟨A33, n33, c33, e33, hI33⟩ := P3
   rw [e33] at r33
   clear ha hU hD ha0
   go_simp
   exact hK _ _ hC (Below.refl _ _) ⟨_, _, _, rfl, hI33⟩
  ·have r33 := fg 33 3 ha hsz (by kernel_rfl) (by decide)
   have P3 : IntsV ([0], 0) (vs 3) W := hD 3 (by simp [waits, Region.binds])
   obtain ⟨A33, n33, c33, e33, hI33⟩ := P3
   rw [e33] at r33
   clear ha hU hD ha0
   go_simp
   exact hK _ hC (Below.refl _ _)
  ·have r37 := fg 37 4 ha hsz (by kernel_rfl) (by decide)
   have P4 : SlI [0] (vs 4) W := hD 4 (by simp [waits, Region.binds])
   obtain ⟨A37, n37, c37, e37, hI37⟩ := P4
   rw [e37] at r37
   clear ha hU hD ha0
   go_simp
   exact hK _ _ hC (Below.refl _ _) ⟨_, _, _, rfl, hI37⟩
  have r38 := fq 38 5 ha hsz (by kernel_rfl) (by decide) (hD 5 (by simp [waits, Region.binds]))
  clear ha hU hD ha0
  go_simp
  exact hK _ hC (Below.refl _ _)
 refine Fin1.none (Nat.le_refl _) ?_
 intro vs W a1 hC hE ha
 have E6 : SlI [0] (vs 6) W := hE 6 (by simp)
 obtain ⟨r6_A, r6_n, r6_c, r6_e, r6_h⟩ := E6
 have H_r6 := Lib.hid r6_h
 have n7_e : vs 7 = .int .i64 0 := hE 7 (by simp)
 rw [ha, ha0]
 clear ha ha0 hsz tb1
 simp only [fillA, Act.put, List.setIfInBounds_toArray, List.set_cons_zero, List.set_cons_succ, Nat.zero_add, Nat.reduceAdd, r6_e, n7_e]
 generalize vs 0 = u0, vs 1 = u1, vs 2 = u2, vs 3 = u3, vs 4 = u4, vs 5 = u5
 have HL4 : Hid (Below V4.heap.size V4 W) := bl_call HC4.out hC (Nat.le_refl _)
 replace H_r6 : Hid (∀ V, Below W.heap.size W V → Ints (fun _ => True) V r6_A r6_n [0]) := fun V hb => H_r6.out.keep IntR.good (Keeps.below hb)
 clear r6_h
 have hCk := Lib.hid hC
 clear hE hC HC4 r6_e n7_e
 replace H_r2 : Hid (∀ V, Below W.heap.size W V → Ints (fun _ => True) V r2_A r2_n [0, 5, 13, 30]) := fun V hb => H_r2.out V (bl_call hCk.out hb (Nat.le_refl _))
 replace H_r4 : Hid (∀ V, Below W.heap.size W V → Ints (fun _ => True) V r4_A r4_n [50, 0, 15]) := fun V hb => H_r4.out V (bl_call hCk.out hb (Nat.le_refl _))
 clear hCk
 obtain ⟨V7, hV7⟩ : ∃ V, V = W := ⟨_, rfl⟩
 subst hV7
 go_simp
 obtain ⟨k0, k1, k2, k3, k4⟩ := kk.out V7 HL4.out
 go_wp2_with fail
 refine (ex_great V7 (HCV.out V7 HL4.out)).mono ?_
 rintro e V8a ⟨rfl, b1⟩
 have hCk : Hid (Below V7.heap.size V7 V8a) := b1
 clear b1 k0 k1 k2 k3 k4
 obtain ⟨g8, hg8⟩ : ∃ g, V8a.heap.size = g := ⟨_, rfl⟩
 obtain ⟨V8, hV8⟩ : ∃ V, V8a.alloc (.cells #[.int .i64 5, .int .i64 6] 42) = V := ⟨_, rfl⟩
 have H_g8 : Hid (∀ V, Below V8.heap.size V8 V → Blk V g8 42 #[.int .i64 5, .int .i64 6]) := fun V hb => Blk.bl (by rw [← hV8]; exact Blk.new _ _ _ hg8.symm) hb
 replace hCk : Hid (Below V7.heap.size V7 V8) := by rw [Hid, ← hV8]; exact bl_alloc hCk.out _ (Nat.le_refl _)
 have HL5 : Hid (Below V4.heap.size V4 V8) := bl_call HL4.out hCk.out (Nat.le_refl _)
 replace H_r2 : Hid (∀ V, Below V8.heap.size V8 V → Ints (fun _ => True) V r2_A r2_n [0, 5, 13, 30]) := fun V hb => H_r2.out V (bl_call hCk.out hb (Nat.le_refl _))
 replace H_r4 : Hid (∀ V, Below V8.heap.size V8 V → Ints (fun _ => True) V r4_A r4_n [50, 0, 15]) := fun V hb => H_r4.out V (bl_call hCk.out hb (Nat.le_refl _))
 replace H_r6 : Hid (∀ V, Below V8.heap.size V8 V → Ints (fun _ => True) V r6_A r6_n [0]) := fun V hb => H_r6.out V (bl_call hCk.out hb (Nat.le_refl _))
 clear hCk
 obtain ⟨k0, k1, k2, k3, k4⟩ := kk.out V8 HL5.out
 go_wp2_with fail
 clear hV8 hg8
 refine (ex_least V8 (HCV.out V8 HL5.out)).mono ?_
 rintro e V9a ⟨rfl, b1⟩
 have hCk : Hid (Below V8.heap.size V8 V9a) := b1
 clear b1 k0 k1 k2 k3 k4
 obtain ⟨g10, hg10⟩ : ∃ g, V9a.heap.size = g := ⟨_, rfl⟩
 obtain ⟨V9, hV9⟩ : ∃ V, V9a.alloc (.cells #[.int .i64 1, .int .i64 16] 42) = V := ⟨_, rfl⟩
 have H_g10 : Hid (∀ V, Below V9.heap.size V9 V → Blk V g10 42 #[.int .i64 1, .int .i64 16]) := fun V hb => Blk.bl (by rw [← hV9]; exact Blk.new _ _ _ hg10.symm) hb
 replace hCk : Hid (Below V8.heap.size V8 V9) := by rw [Hid, ← hV9]; exact bl_alloc hCk.out _ (Nat.le_refl _)
 have HL6 : Hid (Below V4.heap.size V4 V9) := bl_call HL5.out hCk.out (Nat.le_refl _)
 replace H_r2 : Hid (∀ V, Below V9.heap.size V9 V → Ints (fun _ => True) V r2_A r2_n [0, 5, 13, 30]) := fun V hb => H_r2.out V (bl_call hCk.out hb (Nat.le_refl _))
 replace H_r4 : Hid (∀ V, Below V9.heap.size V9 V → Ints (fun _ => True) V r4_A r4_n [50, 0, 15]) := fun V hb => H_r4.out V (bl_call hCk.out hb (Nat.le_refl _))
 replace H_r6 : Hid (∀ V, Below V9.heap.size V9 V → Ints (fun _ => True) V r6_A r6_n [0]) := fun V hb => H_r6.out V (bl_call hCk.out hb (Nat.le_refl _))
 replace H_g8 : Hid (∀ V, Below V9.heap.size V9 V → Blk V g8 42 #[.int .i64 5, .int .i64 6]) := fun V hb => H_g8.out V (bl_call hCk.out hb (Nat.le_refl _))
 clear hCk
 obtain ⟨k0, k1, k2, k3, k4⟩ := kk.out V9 HL6.out
 go_wp2_with fail
 clear hV9 hg10
 clear k0 k1 k2 k3 k4
 have HC7 : Hid (Below V4.heap.size V4 V9) := HL6.out
 refine wp_frame5 ?_
 intro a0 ha0
 have tb1 : a0.tmps[1]? = some (.pointer (some ⟨gS, 0, none⟩)) := by rw [ha0]; kernel_rfl
 have hsz : a0.tmps.size = 160 := by rw [ha0]; kernel_rfl
 refine wp_region_list (fun W => Below V9.heap.size V9 W) (fun w w' => Below w.heap.size w w')
  [isV (.agg #[.int .i64 2, .int .i64 100, .int .i64 50, .slice A 4 ca, .slice B 3 cb]), isV (.agg #[.int .i64 3, .int .i64 41, .int .i64 41]), IsMarkV, PlsV ([(19, 28), (17, 25), (15, 22), (13, 19), (11, 16), (20, 29)], 0), PlsV ([(19, 28), (17, 25), (15, 22), (13, 19), (11, 16), (20, 29)], 0), SlP [(19, 28), (17, 25), (15, 22), (13, 19), (11, 16), (20, 29)], isV (.int .i64 0), SlP [(19, 28), (17, 25), (15, 22), (13, 19), (11, 16), (20, 29)], isV (.int .i64 0)]
  (by kernel_rfl) (by kernel_rfl) (by kernel_rfl) (by simp) (by simp) (Below.refl _ _).drew ?stab7 ?step7 ?fin7
 case stab7 => exact (StabL.is (StabL.is (StabL.cons (fun v W V hC hX h => h.bl hX) (StabL.cons (fun v W V hC hX h => h.bl hX) (StabL.cons (fun v W V hC hX h => h.bl hX) (StabL.cons (fun v W V hC hX h => h.bl hX) (StabL.is (StabL.cons (fun v W V hC hX h => h.bl hX) (StabL.is StabL.nil)))))))))
 case step7 =>
  refine StepsL.isA ?_ (StepsL.isA ?_ (StepsL.consA ?_ (StepsL.consA ?_ (StepsL.consA ?_ (StepsL.consA ?_ (StepsL.isA ?_ (StepsL.consA ?_ (StepsL.isA ?_ StepsL.nil))))))))
  all_goals intro vs a W K ha hC hD hU hK
  all_goals try rw [if_pos (by rfl)]
  ·have r1 := fb ha (by kernel_rfl) tb1
   clear ha hU hD ha0
   obtain ⟨k0, k1, k2, k3, k4⟩ := kk.out W (bl_call HC7.out hC (Nat.le_refl _))
   go_simp
   exact hK _ hC (Below.refl _ _)
  ·clear ha hU hD ha0
   go_simp
   refine (mark5_any 3 41 41 W).mono ?_
   rintro e w' ⟨rfl, hb⟩
   exact hK _ (bl_call hC hb (Nat.le_refl _)) hb
  ·have r51 := fq 51 1 ha hsz (by kernel_rfl) (by decide) (hD 1 (by simp [waits, Region.binds]))
   clear ha hU hD ha0
   go_simp
   exact hK _ _ (bl_alloc hC _ (Nat.le_refl _)) (bl_alloc (Below.refl _ _) _ (Nat.le_refl _)) (IsMarkV.new _)
  ·have r50 := fq 50 0 ha hsz (by kernel_rfl) (by decide) (hD 0 (by simp [waits, Region.binds]))
   have r52 := fg 52 2 ha hsz (by kernel_rfl) (by decide)
   have P2 : IsMarkV (vs 2) W := hD 2 (by simp [waits, Region.binds])
   obtain ⟨B52, d52, e52, hI52⟩ := P2
   rw [e52] at r52
   clear ha hU hD ha0
   go_simp
   refine (ex_scales W (HCV.out W (bl_call HC7.out hC (Nat.le_refl _))) hI52).mono ?_
   rintro e w' ⟨⟨v, rfl, hv⟩, hb⟩
   exact hK _ _ (bl_call hC hb (Nat.le_refl _)) hb hv
  ·have r53 := fg 53 3 ha hsz (by kernel_rfl) (by decide)
   have P3 : PlsV ([(19, 28), (17, 25), (15, 22), (13, 19), (11, 16), (20, 29)], 0) (vs 3) W := hD 3 (by simp [waits, Region.binds])
   obtain ⟨A53, n53, c53, e53, hI53⟩ := P3
   rw [e53] at r53
   clear ha hU hD ha0
   go_simp
   exact hK _ _ hC (Below.refl _ _) ⟨_, _, _, rfl, hI53⟩
  ·have r49 := fg 49 4 ha hsz (by kernel_rfl) (by decide)
   have P4 : PlsV ([(19, 28), (17, 25), (15, 22), (13, 19), (11, 16), (20, 29)], 0) (vs 4) W := hD 4 (by simp [waits, Region.binds])
   obtain ⟨A49, n49, c49, e49, hI49⟩ := P4
   rw [e49] at r49
   clear ha hU hD ha0
   go_simp
   exact hK _ _ hC (Below.refl _ _) ⟨_, _, _, rfl, hI49⟩
  ·have r49 := fg 49 4 ha hsz (by kernel_rfl) (by decide)
   have P4 : PlsV ([(19, 28), (17, 25), (15, 22), (13, 19), (11, 16), (20, 29)], 0) (vs 4) W := hD 4 (by simp [waits, Region.binds])
   obtain ⟨A49, n49, c49, e49, hI49⟩ := P4
   rw [e49] at r49
   clear ha hU hD ha0
   go_simp
   exact hK _ hC (Below.refl _ _)
  ·have r54 := fg 54 5 ha hsz (by kernel_rfl) (by decide)
   have P5 : SlP [(19, 28), (17, 25), (15, 22), (13, 19), (11, 16), (20, 29)] (vs 5) W := hD 5 (by simp [waits, Region.binds])
   obtain ⟨A54, n54, c54, e54, hI54⟩ := P5
   rw [e54] at r54
   clear ha hU hD ha0
   go_simp
   exact hK _ _ hC (Below.refl _ _) ⟨_, _, _, rfl, hI54⟩
  have r55 := fq 55 6 ha hsz (by kernel_rfl) (by decide) (hD 6 (by simp [waits, Region.binds]))
  clear ha hU hD ha0
  go_simp
  exact hK _ hC (Below.refl _ _)
 refine Fin1.none (Nat.le_refl _) ?_
 intro vs W a1 hC hE ha
 have E7 : SlP [(19, 28), (17, 25), (15, 22), (13, 19), (11, 16), (20, 29)] (vs 7) W := hE 7 (by simp)
 obtain ⟨r12_A, r12_n, r12_c, r12_e, r12_h⟩ := E7
 have H_r12 := Lib.hid r12_h
 have n13_e : vs 8 = .int .i64 0 := hE 8 (by simp)
 rw [ha, ha0]
 clear ha ha0 hsz tb1
 simp only [fillA, Act.put, List.setIfInBounds_toArray, List.set_cons_zero, List.set_cons_succ, Nat.zero_add, Nat.reduceAdd, r12_e, n13_e]
 generalize vs 0 = u0, vs 1 = u1, vs 2 = u2, vs 3 = u3, vs 4 = u4, vs 5 = u5, vs 6 = u6
 have HL7 : Hid (Below V4.heap.size V4 W) := bl_call HC7.out hC (Nat.le_refl _)
 replace H_r12 : Hid (∀ V, Below W.heap.size W V → Pls (fun _ => True) V r12_A r12_n [(19, 28), (17, 25), (15, 22), (13, 19), (11, 16), (20, 29)]) := fun V hb => H_r12.out.keep PlR.good (Keeps.below hb)
 clear r12_h
 have hCk := Lib.hid hC
 clear hE hC HC7 r12_e n13_e
 replace H_r2 : Hid (∀ V, Below W.heap.size W V → Ints (fun _ => True) V r2_A r2_n [0, 5, 13, 30]) := fun V hb => H_r2.out V (bl_call hCk.out hb (Nat.le_refl _))
 replace H_r4 : Hid (∀ V, Below W.heap.size W V → Ints (fun _ => True) V r4_A r4_n [50, 0, 15]) := fun V hb => H_r4.out V (bl_call hCk.out hb (Nat.le_refl _))
 replace H_r6 : Hid (∀ V, Below W.heap.size W V → Ints (fun _ => True) V r6_A r6_n [0]) := fun V hb => H_r6.out V (bl_call hCk.out hb (Nat.le_refl _))
 replace H_g8 : Hid (∀ V, Below W.heap.size W V → Blk V g8 42 #[.int .i64 5, .int .i64 6]) := fun V hb => H_g8.out V (bl_call hCk.out hb (Nat.le_refl _))
 replace H_g10 : Hid (∀ V, Below W.heap.size W V → Blk V g10 42 #[.int .i64 1, .int .i64 16]) := fun V hb => H_g10.out V (bl_call hCk.out hb (Nat.le_refl _))
 clear hCk
 obtain ⟨V10, hV10⟩ : ∃ V, V = W := ⟨_, rfl⟩
 subst hV10
 go_simp
 go_wp2_with fail
 have HC8 : Hid (Below V4.heap.size V4 V10) := HL7.out
 refine wp_frame5 ?_
 intro a0 ha0
 have tb1 : a0.tmps[1]? = some (.pointer (some ⟨gS, 0, none⟩)) := by rw [ha0]; kernel_rfl
 have hsz : a0.tmps.size = 160 := by rw [ha0]; kernel_rfl
 refine wp_region_list (fun W => Below V10.heap.size V10 W) (fun w w' => Below w.heap.size w w')
  [isV (.agg #[.int .i64 2, .int .i64 100, .int .i64 50, .slice A 4 ca, .slice B 3 cb]), isV (.agg #[.int .i64 1, .int .i64 2]), isV (.agg #[.int .i64 2, .int .i64 3]), IntsV ([1, 2, 3], 0), IntsV ([1, 2, 3], 0), SlI [1, 2, 3], isV (.int .i64 0), SlI [1, 2, 3], isV (.int .i64 0)]
  (by kernel_rfl) (by kernel_rfl) (by kernel_rfl) (by simp) (by simp) (Below.refl _ _).drew ?stab8 ?step8 ?fin8
 case stab8 => exact (StabL.is (StabL.is (StabL.is (StabL.cons (fun v W V hC hX h => h.bl hX) (StabL.cons (fun v W V hC hX h => h.bl hX) (StabL.cons (fun v W V hC hX h => h.bl hX) (StabL.is (StabL.cons (fun v W V hC hX h => h.bl hX) (StabL.is StabL.nil)))))))))
 case step8 =>
  refine StepsL.isA ?_ (StepsL.isA ?_ (StepsL.isA ?_ (StepsL.consA ?_ (StepsL.consA ?_ (StepsL.consA ?_ (StepsL.isA ?_ (StepsL.consA ?_ (StepsL.isA ?_ StepsL.nil))))))))
  all_goals intro vs a W K ha hC hD hU hK
  all_goals try rw [if_pos (by rfl)]
  ·have r1 := fb ha (by kernel_rfl) tb1
   clear ha hU hD ha0
   obtain ⟨k0, k1, k2, k3, k4⟩ := kk.out W (bl_call HC8.out hC (Nat.le_refl _))
   go_simp
   exact hK _ hC (Below.refl _ _)
  ·clear ha hU hD ha0
   go_simp
   refine (of5_any 1 2 W).mono ?_
   rintro e w' ⟨rfl, hb⟩
   exact hK _ (bl_call hC hb (Nat.le_refl _)) hb
  ·clear ha hU hD ha0
   go_simp
   refine (of5_any 2 3 W).mono ?_
   rintro e w' ⟨rfl, hb⟩
   exact hK _ (bl_call hC hb (Nat.le_refl _)) hb
  ·have r57 := fq 57 0 ha hsz (by kernel_rfl) (by decide) (hD 0 (by simp [waits, Region.binds]))
   have r58 := fq 58 1 ha hsz (by kernel_rfl) (by decide) (hD 1 (by simp [waits, Region.binds]))
   have r59 := fq 59 2 ha hsz (by kernel_rfl) (by decide) (hD 2 (by simp [waits, Region.binds]))
   clear ha hU hD ha0
   go_simp
   refine (ex_apart W (HCV.out W (bl_call HC8.out hC (Nat.le_refl _)))).mono ?_
   rintro e w' ⟨⟨v, rfl, hv⟩, hb⟩
   exact hK _ _ (bl_call hC hb (Nat.le_refl _)) hb hv
  ·have r60 := fg 60 3 ha hsz (by kernel_rfl) (by decide)
   have P3 : IntsV ([1, 2, 3], 0) (vs 3) W := hD 3 (by simp [waits, Region.binds])
   obtain ⟨A60, n60, c60, e60, hI60⟩ := P3
   rw [e60] at r60
   clear ha hU hD ha0
   go_simp
   exact hK _ _ hC (Below.refl _ _) ⟨_, _, _, rfl, hI60⟩
  ·have r56 := fg 56 4 ha hsz (by kernel_rfl) (by decide)
   have P4 : IntsV ([1, 2, 3], 0) (vs 4) W := hD 4 (by simp [waits, Region.binds])
   obtain ⟨A56, n56, c56, e56, hI56⟩ := P4
   rw [e56] at r56
   clear ha hU hD ha0
   go_simp
   exact hK _ _ hC (Below.refl _ _) ⟨_, _, _, rfl, hI56⟩
  ·have r56 := fg 56 4 ha hsz (by kernel_rfl) (by decide)
   have P4 : IntsV ([1, 2, 3], 0) (vs 4) W := hD 4 (by simp [waits, Region.binds])
   obtain ⟨A56, n56, c56, e56, hI56⟩ := P4
   rw [e56] at r56
   clear ha hU hD ha0
   go_simp
   exact hK _ hC (Below.refl _ _)
  ·have r61 := fg 61 5 ha hsz (by kernel_rfl) (by decide)
   have P5 : SlI [1, 2, 3] (vs 5) W := hD 5 (by simp [waits, Region.binds])
   obtain ⟨A61, n61, c61, e61, hI61⟩ := P5
   rw [e61] at r61
   clear ha hU hD ha0
   go_simp
   exact hK _ _ hC (Below.refl _ _) ⟨_, _, _, rfl, hI61⟩
  have r62 := fq 62 6 ha hsz (by kernel_rfl) (by decide) (hD 6 (by simp [waits, Region.binds]))
  clear ha hU hD ha0
  go_simp
  exact hK _ hC (Below.refl _ _)
 refine Fin1.none (Nat.le_refl _) ?_
 intro vs W a1 hC hE ha
 have E7 : SlI [1, 2, 3] (vs 7) W := hE 7 (by simp)
 obtain ⟨r14_A, r14_n, r14_c, r14_e, r14_h⟩ := E7
 have H_r14 := Lib.hid r14_h
 have n15_e : vs 8 = .int .i64 0 := hE 8 (by simp)
 rw [ha, ha0]
 clear ha ha0 hsz tb1
 simp only [fillA, Act.put, List.setIfInBounds_toArray, List.set_cons_zero, List.set_cons_succ, Nat.zero_add, Nat.reduceAdd, r14_e, n15_e]
 generalize vs 0 = u0, vs 1 = u1, vs 2 = u2, vs 3 = u3, vs 4 = u4, vs 5 = u5, vs 6 = u6
 have HL8 : Hid (Below V4.heap.size V4 W) := bl_call HC8.out hC (Nat.le_refl _)
 replace H_r14 : Hid (∀ V, Below W.heap.size W V → Ints (fun _ => True) V r14_A r14_n [1, 2, 3]) := fun V hb => H_r14.out.keep IntR.good (Keeps.below hb)
 clear r14_h
 have hCk := Lib.hid hC
 clear hE hC HC8 r14_e n15_e
 replace H_r2 : Hid (∀ V, Below W.heap.size W V → Ints (fun _ => True) V r2_A r2_n [0, 5, 13, 30]) := fun V hb => H_r2.out V (bl_call hCk.out hb (Nat.le_refl _))
 replace H_r4 : Hid (∀ V, Below W.heap.size W V → Ints (fun _ => True) V r4_A r4_n [50, 0, 15]) := fun V hb => H_r4.out V (bl_call hCk.out hb (Nat.le_refl _))
 replace H_r6 : Hid (∀ V, Below W.heap.size W V → Ints (fun _ => True) V r6_A r6_n [0]) := fun V hb => H_r6.out V (bl_call hCk.out hb (Nat.le_refl _))
 replace H_g8 : Hid (∀ V, Below W.heap.size W V → Blk V g8 42 #[.int .i64 5, .int .i64 6]) := fun V hb => H_g8.out V (bl_call hCk.out hb (Nat.le_refl _))
 replace H_g10 : Hid (∀ V, Below W.heap.size W V → Blk V g10 42 #[.int .i64 1, .int .i64 16]) := fun V hb => H_g10.out V (bl_call hCk.out hb (Nat.le_refl _))
 replace H_r12 : Hid (∀ V, Below W.heap.size W V → Pls (fun _ => True) V r12_A r12_n [(19, 28), (17, 25), (15, 22), (13, 19), (11, 16), (20, 29)]) := fun V hb => H_r12.out V (bl_call hCk.out hb (Nat.le_refl _))
 clear hCk
 obtain ⟨V11, hV11⟩ : ∃ V, V = W := ⟨_, rfl⟩
 subst hV11
 go_simp
 go_wp2_with fail
 have HC9 : Hid (Below V4.heap.size V4 V11) := HL8.out
 refine wp_frame5 ?_
 intro a0 ha0
 have tb1 : a0.tmps[1]? = some (.pointer (some ⟨gS, 0, none⟩)) := by rw [ha0]; kernel_rfl
 have hsz : a0.tmps.size = 160 := by rw [ha0]; kernel_rfl
 refine wp_region_list (fun W => Below V11.heap.size V11 W) (fun w w' => Below w.heap.size w w')
  [isV (.agg #[.int .i64 2, .int .i64 100, .int .i64 50, .slice A 4 ca, .slice B 3 cb]), isV (.agg #[.int .i64 1, .int .i64 2]), isV (.agg #[.int .i64 3, .int .i64 5]), isV (.agg #[.int .i64 2, .int .i64 3]), IsPlsV V11.heap.size [(1, 2), (3, 5), (2, 3)], IntsV ([1], 0), IntsV ([1], 0), SlI [1], isV (.int .i64 0), SlI [1], isV (.int .i64 0)]
  (by kernel_rfl) (by kernel_rfl) (by kernel_rfl) (by simp) (by simp) (Below.refl _ _).drew ?stab9 ?step9 ?fin9
 case stab9 => exact (StabL.is (StabL.is (StabL.is (StabL.is (StabL.cons (fun v W V hC hX h => h.bl hX) (StabL.cons (fun v W V hC hX h => h.bl hX) (StabL.cons (fun v W V hC hX h => h.bl hX) (StabL.cons (fun v W V hC hX h => h.bl hX) (StabL.is (StabL.cons (fun v W V hC hX h => h.bl hX) (StabL.is StabL.nil)))))))))))
 case step9 =>
  refine StepsL.isA ?_ (StepsL.isA ?_ (StepsL.isA ?_ (StepsL.isA ?_ (StepsL.consA ?_ (StepsL.consA ?_ (StepsL.consA ?_ (StepsL.consA ?_ (StepsL.isA ?_ (StepsL.consA ?_ (StepsL.isA ?_ StepsL.nil))))))))))
  all_goals intro vs a W K ha hC hD hU hK
  all_goals try rw [if_pos (by rfl)]
  ·have r1 := fb ha (by kernel_rfl) tb1
   clear ha hU hD ha0
   obtain ⟨k0, k1, k2, k3, k4⟩ := kk.out W (bl_call HC9.out hC (Nat.le_refl _))
   go_simp
   exact hK _ hC (Below.refl _ _)
  ·clear ha hU hD ha0
   go_simp
   refine (of5_any 1 2 W).mono ?_
   rintro e w' ⟨rfl, hb⟩
   exact hK _ (bl_call hC hb (Nat.le_refl _)) hb
  ·clear ha hU hD ha0
   go_simp
   refine (of5_any 3 5 W).mono ?_
   rintro e w' ⟨rfl, hb⟩
   exact hK _ (bl_call hC hb (Nat.le_refl _)) hb
  ·clear ha hU hD ha0
   go_simp
   refine (of5_any 2 3 W).mono ?_
   rintro e w' ⟨rfl, hb⟩
   exact hK _ (bl_call hC hb (Nat.le_refl _)) hb
  ·have r65 := fq 65 1 ha hsz (by kernel_rfl) (by decide) (hD 1 (by simp [waits, Region.binds]))
   have r66 := fq 66 2 ha hsz (by kernel_rfl) (by decide) (hD 2 (by simp [waits, Region.binds]))
   have r67 := fq 67 3 ha hsz (by kernel_rfl) (by decide) (hD 3 (by simp [waits, Region.binds]))
   clear ha hU hD ha0
   go_simp
   exact hK _ _ (bl_alloc hC _ (Nat.le_refl _)) (bl_alloc (Below.refl _ _) _ (Nat.le_refl _)) (IsPlsV.new [(1, 2), (3, 5), (2, 3)] _ (by rfl) (by decide) hC.size)
  ·have r64 := fq 64 0 ha hsz (by kernel_rfl) (by decide) (hD 0 (by simp [waits, Region.binds]))
   have r68 := fg 68 4 ha hsz (by kernel_rfl) (by decide)
   have P4 : IsPlsV V11.heap.size [(1, 2), (3, 5), (2, 3)] (vs 4) W := hD 4 (by simp [waits, Region.binds])
   obtain ⟨B68, d68, e68, hI68⟩ := P4
   rw [e68] at r68
   clear ha hU hD ha0
   go_simp
   refine (ex_tell W (HCV.out W (bl_call HC9.out hC (Nat.le_refl _))) (hI68.mono PlR.good (fun _ _ => trivial))).mono ?_
   rintro e w' ⟨⟨v, rfl, hv⟩, hb⟩
   exact hK _ _ (bl_call hC hb (Nat.le_refl _)) hb hv
  ·have r69 := fg 69 5 ha hsz (by kernel_rfl) (by decide)
   have P5 : IntsV ([1], 0) (vs 5) W := hD 5 (by simp [waits, Region.binds])
   obtain ⟨A69, n69, c69, e69, hI69⟩ := P5
   rw [e69] at r69
   clear ha hU hD ha0
   go_simp
   exact hK _ _ hC (Below.refl _ _) ⟨_, _, _, rfl, hI69⟩
  ·have r63 := fg 63 6 ha hsz (by kernel_rfl) (by decide)
   have P6 : IntsV ([1], 0) (vs 6) W := hD 6 (by simp [waits, Region.binds])
   obtain ⟨A63, n63, c63, e63, hI63⟩ := P6
   rw [e63] at r63
   clear ha hU hD ha0
   go_simp
   exact hK _ _ hC (Below.refl _ _) ⟨_, _, _, rfl, hI63⟩
  ·have r63 := fg 63 6 ha hsz (by kernel_rfl) (by decide)
   have P6 : IntsV ([1], 0) (vs 6) W := hD 6 (by simp [waits, Region.binds])
   obtain ⟨A63, n63, c63, e63, hI63⟩ := P6
   rw [e63] at r63
   clear ha hU hD ha0
   go_simp
   exact hK _ hC (Below.refl _ _)
  ·have r70 := fg 70 7 ha hsz (by kernel_rfl) (by decide)
   have P7 : SlI [1] (vs 7) W := hD 7 (by simp [waits, Region.binds])
   obtain ⟨A70, n70, c70, e70, hI70⟩ := P7
   rw [e70] at r70
   clear ha hU hD ha0
   go_simp
   exact hK _ _ hC (Below.refl _ _) ⟨_, _, _, rfl, hI70⟩
  have r71 := fq 71 8 ha hsz (by kernel_rfl) (by decide) (hD 8 (by simp [waits, Region.binds]))
  clear ha hU hD ha0
  go_simp
  exact hK _ hC (Below.refl _ _)
 refine Fin1.none (Nat.le_refl _) ?_
 intro vs W a1 hC hE ha
 have E9 : SlI [1] (vs 9) W := hE 9 (by simp)
 obtain ⟨r16_A, r16_n, r16_c, r16_e, r16_h⟩ := E9
 have H_r16 := Lib.hid r16_h
 have n17_e : vs 10 = .int .i64 0 := hE 10 (by simp)
 rw [ha, ha0]
 clear ha ha0 hsz tb1
 simp only [fillA, Act.put, List.setIfInBounds_toArray, List.set_cons_zero, List.set_cons_succ, Nat.zero_add, Nat.reduceAdd, r16_e, n17_e]
 generalize vs 0 = u0, vs 1 = u1, vs 2 = u2, vs 3 = u3, vs 4 = u4, vs 5 = u5, vs 6 = u6, vs 7 = u7, vs 8 = u8
 have HL9 : Hid (Below V4.heap.size V4 W) := bl_call HC9.out hC (Nat.le_refl _)
 replace H_r16 : Hid (∀ V, Below W.heap.size W V → Ints (fun _ => True) V r16_A r16_n [1]) := fun V hb => H_r16.out.keep IntR.good (Keeps.below hb)
 clear r16_h
 have hCk := Lib.hid hC
 clear hE hC HC9 r16_e n17_e
 replace H_r2 : Hid (∀ V, Below W.heap.size W V → Ints (fun _ => True) V r2_A r2_n [0, 5, 13, 30]) := fun V hb => H_r2.out V (bl_call hCk.out hb (Nat.le_refl _))
 replace H_r4 : Hid (∀ V, Below W.heap.size W V → Ints (fun _ => True) V r4_A r4_n [50, 0, 15]) := fun V hb => H_r4.out V (bl_call hCk.out hb (Nat.le_refl _))
 replace H_r6 : Hid (∀ V, Below W.heap.size W V → Ints (fun _ => True) V r6_A r6_n [0]) := fun V hb => H_r6.out V (bl_call hCk.out hb (Nat.le_refl _))
 replace H_g8 : Hid (∀ V, Below W.heap.size W V → Blk V g8 42 #[.int .i64 5, .int .i64 6]) := fun V hb => H_g8.out V (bl_call hCk.out hb (Nat.le_refl _))
 replace H_g10 : Hid (∀ V, Below W.heap.size W V → Blk V g10 42 #[.int .i64 1, .int .i64 16]) := fun V hb => H_g10.out V (bl_call hCk.out hb (Nat.le_refl _))
 replace H_r12 : Hid (∀ V, Below W.heap.size W V → Pls (fun _ => True) V r12_A r12_n [(19, 28), (17, 25), (15, 22), (13, 19), (11, 16), (20, 29)]) := fun V hb => H_r12.out V (bl_call hCk.out hb (Nat.le_refl _))
 replace H_r14 : Hid (∀ V, Below W.heap.size W V → Ints (fun _ => True) V r14_A r14_n [1, 2, 3]) := fun V hb => H_r14.out V (bl_call hCk.out hb (Nat.le_refl _))
 clear hCk
 obtain ⟨V12, hV12⟩ : ∃ V, V = W := ⟨_, rfl⟩
 subst hV12
 go_simp
 go_wp2_with fail
 have HC10 : Hid (Below V4.heap.size V4 V12) := HL9.out
 refine wp_frame5 ?_
 intro a0 ha0
 have tb1 : a0.tmps[1]? = some (.pointer (some ⟨gS, 0, none⟩)) := by rw [ha0]; kernel_rfl
 have hsz : a0.tmps.size = 160 := by rw [ha0]; kernel_rfl
 refine wp_region_list (fun W => Below V12.heap.size V12 W) (fun w w' => Below w.heap.size w w')
  [isV (.agg #[.int .i64 2, .int .i64 100, .int .i64 50, .slice A 4 ca, .slice B 3 cb]), isV (.agg #[.int .i64 19, .int .i64 28]), isV (.agg #[.int .i64 17, .int .i64 25]), IsPlsV V12.heap.size [(19, 28), (17, 25)], isV (.tuple #[.slice none 0 0, .int .i64 5]), isV (.tuple #[.slice none 0 0, .int .i64 5]), isV (.slice none 0 0), isV (.int .i64 5), isV (.slice none 0 0), isV (.int .i64 5)]
  (by kernel_rfl) (by kernel_rfl) (by kernel_rfl) (by simp) (by simp) (Below.refl _ _).drew ?stab10 ?step10 ?fin10
 case stab10 => exact (StabL.is (StabL.is (StabL.is (StabL.cons (fun v W V hC hX h => h.bl hX) (StabL.is (StabL.is (StabL.is (StabL.is (StabL.is (StabL.is StabL.nil))))))))))
 case step10 =>
  refine StepsL.isA ?_ (StepsL.isA ?_ (StepsL.isA ?_ (StepsL.consA ?_ (StepsL.isA ?_ (StepsL.isA ?_ (StepsL.isA ?_ (StepsL.isA ?_ (StepsL.isA ?_ (StepsL.isA ?_ StepsL.nil)))))))))
  all_goals intro vs a W K ha hC hD hU hK
  all_goals try rw [if_pos (by rfl)]
  ·have r1 := fb ha (by kernel_rfl) tb1
   clear ha hU hD ha0
   obtain ⟨k0, k1, k2, k3, k4⟩ := kk.out W (bl_call HC10.out hC (Nat.le_refl _))
   go_simp
   exact hK _ hC (Below.refl _ _)
  ·clear ha hU hD ha0
   go_simp
   refine (of5_any 19 28 W).mono ?_
   rintro e w' ⟨rfl, hb⟩
   exact hK _ (bl_call hC hb (Nat.le_refl _)) hb
  ·clear ha hU hD ha0
   go_simp
   refine (of5_any 17 25 W).mono ?_
   rintro e w' ⟨rfl, hb⟩
   exact hK _ (bl_call hC hb (Nat.le_refl _)) hb
  ·have r74 := fq 74 1 ha hsz (by kernel_rfl) (by decide) (hD 1 (by simp [waits, Region.binds]))
   have r75 := fq 75 2 ha hsz (by kernel_rfl) (by decide) (hD 2 (by simp [waits, Region.binds]))
   clear ha hU hD ha0
   go_simp
   exact hK _ _ (bl_alloc hC _ (Nat.le_refl _)) (bl_alloc (Below.refl _ _) _ (Nat.le_refl _)) (IsPlsV.new [(19, 28), (17, 25)] _ (by rfl) (by decide) hC.size)
  ·have r73 := fq 73 0 ha hsz (by kernel_rfl) (by decide) (hD 0 (by simp [waits, Region.binds]))
   have r76 := fg 76 3 ha hsz (by kernel_rfl) (by decide)
   have P3 : IsPlsV V12.heap.size [(19, 28), (17, 25)] (vs 3) W := hD 3 (by simp [waits, Region.binds])
   obtain ⟨B76, d76, e76, hI76⟩ := P3
   rw [e76] at r76
   clear ha hU hD ha0
   go_simp
   refine (ex_twice W (HCV.out W (bl_call HC10.out hC (Nat.le_refl _))) (hI76.mono PlR.good (fun _ _ => trivial))).mono ?_
   rintro e w' ⟨rfl, hb⟩
   exact hK _ (bl_call hC hb (Nat.le_refl _)) hb
  ·have r77 := fq 77 4 ha hsz (by kernel_rfl) (by decide) (hD 4 (by simp [waits, Region.binds]))
   clear ha hU hD ha0
   go_simp
   exact hK _ hC (Below.refl _ _)
  ·have r72 := fg 72 5 ha hsz (by kernel_rfl) (by decide)
   have q5 : vs 5 = .tuple #[.slice none 0 0, .int .i64 5] := hD 5 (by simp [waits, Region.binds])
   rw [q5] at r72
   clear ha hU hD ha0
   go_simp
   exact hK _ hC (Below.refl _ _)
  ·have r72 := fq 72 5 ha hsz (by kernel_rfl) (by decide) (hD 5 (by simp [waits, Region.binds]))
   clear ha hU hD ha0
   go_simp
   exact hK _ hC (Below.refl _ _)
  ·have r78 := fq 78 6 ha hsz (by kernel_rfl) (by decide) (hD 6 (by simp [waits, Region.binds]))
   clear ha hU hD ha0
   go_simp
   exact hK _ hC (Below.refl _ _)
  have r79 := fq 79 7 ha hsz (by kernel_rfl) (by decide) (hD 7 (by simp [waits, Region.binds]))
  clear ha hU hD ha0
  go_simp
  exact hK _ hC (Below.refl _ _)
 refine Fin1.none (Nat.le_refl _) ?_
 intro vs W a1 hC hE ha
 have r18_e : vs 8 = .slice none 0 0 := hE 8 (by simp)
 have n19_e : vs 9 = .int .i64 5 := hE 9 (by simp)
 rw [ha, ha0]
 clear ha ha0 hsz tb1
 simp only [fillA, Act.put, List.setIfInBounds_toArray, List.set_cons_zero, List.set_cons_succ, Nat.zero_add, Nat.reduceAdd, r18_e, n19_e]
 generalize vs 0 = u0, vs 1 = u1, vs 2 = u2, vs 3 = u3, vs 4 = u4, vs 5 = u5, vs 6 = u6, vs 7 = u7
 have HL10 : Hid (Below V4.heap.size V4 W) := bl_call HC10.out hC (Nat.le_refl _)
 have hCk := Lib.hid hC
 clear hE hC HC10 r18_e n19_e
 replace H_r2 : Hid (∀ V, Below W.heap.size W V → Ints (fun _ => True) V r2_A r2_n [0, 5, 13, 30]) := fun V hb => H_r2.out V (bl_call hCk.out hb (Nat.le_refl _))
 replace H_r4 : Hid (∀ V, Below W.heap.size W V → Ints (fun _ => True) V r4_A r4_n [50, 0, 15]) := fun V hb => H_r4.out V (bl_call hCk.out hb (Nat.le_refl _))
 replace H_r6 : Hid (∀ V, Below W.heap.size W V → Ints (fun _ => True) V r6_A r6_n [0]) := fun V hb => H_r6.out V (bl_call hCk.out hb (Nat.le_refl _))
 replace H_g8 : Hid (∀ V, Below W.heap.size W V → Blk V g8 42 #[.int .i64 5, .int .i64 6]) := fun V hb => H_g8.out V (bl_call hCk.out hb (Nat.le_refl _))
 replace H_g10 : Hid (∀ V, Below W.heap.size W V → Blk V g10 42 #[.int .i64 1, .int .i64 16]) := fun V hb => H_g10.out V (bl_call hCk.out hb (Nat.le_refl _))
 replace H_r12 : Hid (∀ V, Below W.heap.size W V → Pls (fun _ => True) V r12_A r12_n [(19, 28), (17, 25), (15, 22), (13, 19), (11, 16), (20, 29)]) := fun V hb => H_r12.out V (bl_call hCk.out hb (Nat.le_refl _))
 replace H_r14 : Hid (∀ V, Below W.heap.size W V → Ints (fun _ => True) V r14_A r14_n [1, 2, 3]) := fun V hb => H_r14.out V (bl_call hCk.out hb (Nat.le_refl _))
 replace H_r16 : Hid (∀ V, Below W.heap.size W V → Ints (fun _ => True) V r16_A r16_n [1]) := fun V hb => H_r16.out V (bl_call hCk.out hb (Nat.le_refl _))
 clear hCk
 obtain ⟨V13, hV13⟩ : ∃ V, V = W := ⟨_, rfl⟩
 subst hV13
 go_simp
 go_wp2_with fail
 have HC11 : Hid (Below V4.heap.size V4 V13) := HL10.out
 refine wp_frame5 ?_
 intro a0 ha0
 have tb2 : a0.tmps[2]? = some (.slice r2_A r2_n r2_c) := by rw [ha0]; kernel_rfl
 have tb3 : a0.tmps[3]? = some (.int .i64 0) := by rw [ha0]; kernel_rfl
 have tb4 : a0.tmps[4]? = some (.slice r4_A r4_n r4_c) := by rw [ha0]; kernel_rfl
 have tb5 : a0.tmps[5]? = some (.int .i64 0) := by rw [ha0]; kernel_rfl
 have tb6 : a0.tmps[6]? = some (.slice r6_A r6_n r6_c) := by rw [ha0]; kernel_rfl
 have tb7 : a0.tmps[7]? = some (.int .i64 0) := by rw [ha0]; kernel_rfl
 have tb8 : a0.tmps[8]? = some (.pointer (some ⟨g8, 0, none⟩)) := by rw [ha0]; kernel_rfl
 have tb9 : a0.tmps[9]? = some (.int .i64 0) := by rw [ha0]; kernel_rfl
 have tb10 : a0.tmps[10]? = some (.pointer (some ⟨g10, 0, none⟩)) := by rw [ha0]; kernel_rfl
 have tb11 : a0.tmps[11]? = some (.int .i64 0) := by rw [ha0]; kernel_rfl
 have tb12 : a0.tmps[12]? = some (.slice r12_A r12_n r12_c) := by rw [ha0]; kernel_rfl
 have tb13 : a0.tmps[13]? = some (.int .i64 0) := by rw [ha0]; kernel_rfl
 have tb14 : a0.tmps[14]? = some (.slice r14_A r14_n r14_c) := by rw [ha0]; kernel_rfl
 have tb15 : a0.tmps[15]? = some (.int .i64 0) := by rw [ha0]; kernel_rfl
 have tb16 : a0.tmps[16]? = some (.slice r16_A r16_n r16_c) := by rw [ha0]; kernel_rfl
 have tb17 : a0.tmps[17]? = some (.int .i64 0) := by rw [ha0]; kernel_rfl
 have tb19 : a0.tmps[19]? = some (.int .i64 5) := by rw [ha0]; kernel_rfl
 have hsz : a0.tmps.size = 160 := by rw [ha0]; kernel_rfl
 refine wp_region_list (fun W => Below V13.heap.size V13 W) (fun w w' => Below w.heap.size w w')
  [isV (.int .i64 0), isV (.bool true), isV (.bool true), isV (.int .i64 0), isV (.bool true), isV (.bool true), isV (.bool true), isV (.int .i64 0), isV (.bool true), isV (.bool true), isV (.bool true), isV (.int .i64 0), isV (.bool true), isV (.bool true), isV (.bool true), isV (.int .i64 0), isV (.bool true), isV (.bool true), isV (.bool true), isV (.int .i64 0), isV (.bool true), isV (.bool true), isV (.bool true), isV (.int .i64 0), isV (.bool true), isV (.bool true), isV (.bool true), isV (.int .i64 0), isV (.bool true), isV (.bool true), isV (.bool true), isV (.int .i64 5), isV (.bool true), isV (.bool true), isV (.bool true), isV (.slice r2_A r2_n r2_c), IsIntsV V13.heap.size [0, 5, 13, 30], isV (.bool true), isV (.bool true), isV (.bool true), isV (.slice r4_A r4_n r4_c), IsIntsV V13.heap.size [50, 0, 15], isV (.bool true), isV (.bool true), isV (.bool true), isV (.slice r6_A r6_n r6_c), IsIntsV V13.heap.size [0], isV (.bool true), isV (.bool true), isV (.bool true), isV (.agg #[.int .i64 5, .int .i64 6]), isV (.agg #[.int .i64 5, .int .i64 6]), isV (.bool true), isV (.bool true), isV (.bool true), isV (.agg #[.int .i64 1, .int .i64 16]), isV (.agg #[.int .i64 1, .int .i64 16]), isV (.bool true), isV (.bool true), isV (.bool true), isV (.slice r12_A r12_n r12_c), isV (.agg #[.int .i64 19, .int .i64 28]), isV (.agg #[.int .i64 17, .int .i64 25]), isV (.agg #[.int .i64 15, .int .i64 22]), isV (.agg #[.int .i64 13, .int .i64 19]), isV (.agg #[.int .i64 11, .int .i64 16]), isV (.agg #[.int .i64 20, .int .i64 29]), IsPlsV V13.heap.size [(19, 28), (17, 25), (15, 22), (13, 19), (11, 16), (20, 29)], isV (.bool true), isV (.bool true), isV (.bool true), isV (.slice r14_A r14_n r14_c), IsIntsV V13.heap.size [1, 2, 3], isV (.bool true), isV (.bool true), isV (.bool true), isV (.slice r16_A r16_n r16_c), IsIntsV V13.heap.size [1], isV (.bool true), isV (.bool true), isV (.bool true)]
  (by kernel_rfl) (by kernel_rfl) (by kernel_rfl) (by simp) (by simp) (Below.refl _ _).drew ?stabT ?stepT ?finT
 case stabT => exact (StabL.is (StabL.is (StabL.is (StabL.is (StabL.is (StabL.is (StabL.is (StabL.is (StabL.is (StabL.is (StabL.is (StabL.is (StabL.is (StabL.is (StabL.is (StabL.is (StabL.is (StabL.is (StabL.is (StabL.is (StabL.is (StabL.is (StabL.is (StabL.is (StabL.is (StabL.is (StabL.is (StabL.is (StabL.is (StabL.is (StabL.is (StabL.is (StabL.is (StabL.is (StabL.is (StabL.is (StabL.cons (fun v W V hC hX h => h.bl hX) (StabL.is (StabL.is (StabL.is (StabL.is (StabL.cons (fun v W V hC hX h => h.bl hX) (StabL.is (StabL.is (StabL.is (StabL.is (StabL.cons (fun v W V hC hX h => h.bl hX) (StabL.is (StabL.is (StabL.is (StabL.is (StabL.is (StabL.is (StabL.is (StabL.is (StabL.is (StabL.is (StabL.is (StabL.is (StabL.is (StabL.is (StabL.is (StabL.is (StabL.is (StabL.is (StabL.is (StabL.is (StabL.cons (fun v W V hC hX h => h.bl hX) (StabL.is (StabL.is (StabL.is (StabL.is (StabL.cons (fun v W V hC hX h => h.bl hX) (StabL.is (StabL.is (StabL.is (StabL.is (StabL.cons (fun v W V hC hX h => h.bl hX) (StabL.is (StabL.is (StabL.is StabL.nil)))))))))))))))))))))))))))))))))))))))))))))))))))))))))))))))))))))))))))))))))
 case stepT =>
  refine StepsL.isA ?_ (StepsL.isA ?_ (StepsL.isA ?_ (StepsL.isA ?_ (StepsL.isA ?_ (StepsL.isA ?_ (StepsL.isA ?_ (StepsL.isA ?_ (StepsL.isA ?_ (StepsL.isA ?_ (StepsL.isA ?_ (StepsL.isA ?_ (StepsL.isA ?_ (StepsL.isA ?_ (StepsL.isA ?_ (StepsL.isA ?_ (StepsL.isA ?_ (StepsL.isA ?_ (StepsL.isA ?_ (StepsL.isA ?_ (StepsL.isA ?_ (StepsL.isA ?_ (StepsL.isA ?_ (StepsL.isA ?_ (StepsL.isA ?_ (StepsL.isA ?_ (StepsL.isA ?_ (StepsL.isA ?_ (StepsL.isA ?_ (StepsL.isA ?_ (StepsL.isA ?_ (StepsL.isA ?_ (StepsL.isA ?_ (StepsL.isA ?_ (StepsL.isA ?_ (StepsL.isA ?_ (StepsL.consA ?_ (StepsL.isA ?_ (StepsL.isA ?_ (StepsL.isA ?_ (StepsL.isA ?_ (StepsL.consA ?_ (StepsL.isA ?_ (StepsL.isA ?_ (StepsL.isA ?_ (StepsL.isA ?_ (StepsL.consA ?_ (StepsL.isA ?_ (StepsL.isA ?_ (StepsL.isA ?_ (StepsL.isA ?_ (StepsL.isA ?_ (StepsL.isA ?_ (StepsL.isA ?_ (StepsL.isA ?_ (StepsL.isA ?_ (StepsL.isA ?_ (StepsL.isA ?_ (StepsL.isA ?_ (StepsL.isA ?_ (StepsL.isA ?_ (StepsL.isA ?_ (StepsL.isA ?_ (StepsL.isA ?_ (StepsL.isA ?_ (StepsL.isA ?_ (StepsL.isA ?_ (StepsL.consA ?_ (StepsL.isA ?_ (StepsL.isA ?_ (StepsL.isA ?_ (StepsL.isA ?_ (StepsL.consA ?_ (StepsL.isA ?_ (StepsL.isA ?_ (StepsL.isA ?_ (StepsL.isA ?_ (StepsL.consA ?_ (StepsL.isA ?_ (StepsL.isA ?_ (StepsL.isA ?_ StepsL.nil))))))))))))))))))))))))))))))))))))))))))))))))))))))))))))))))))))))))))))))))
  all_goals intro vs a W K ha hC hD hU hK
  all_goals try rw [if_pos (by rfl)]
  ·have r3 := fb ha (by kernel_rfl) tb3
   clear ha hU hD ha0
   go_simp
   exact hK _ hC (Below.refl _ _)
  ·have r80 := fq 80 0 ha hsz (by kernel_rfl) (by decide) (hD 0 (by simp [waits, Region.binds]))
   clear ha hU hD ha0
   go_simp
   exact hK _ hC (Below.refl _ _)
  ·have r81 := fq 81 1 ha hsz (by kernel_rfl) (by decide) (hD 1 (by simp [waits, Region.binds]))
   clear ha hU hD ha0
   go_simp
   exact hK _ hC (Below.refl _ _)
  ·have r82 := fg 82 2 ha hsz (by kernel_rfl) (by decide)
   have q2 : vs 2 = .bool true := hD 2 (by simp [waits, Region.binds])
   rw [q2] at r82
   have r5 := fb ha (by kernel_rfl) tb5
   clear ha hU hD ha0
   rw [if_pos (by simp [Region.wanted, yielded, r82])]
   go_simp
   exact hK _ hC (Below.refl _ _)
  ·have r82 := fg 82 2 ha hsz (by kernel_rfl) (by decide)
   have q2 : vs 2 = .bool true := hD 2 (by simp [waits, Region.binds])
   rw [q2] at r82
   have r83 := fq 83 3 ha hsz (by kernel_rfl) (by decide) (hD 3 (by simp [waits, Region.binds]))
   clear ha hU hD ha0
   rw [if_pos (by simp [Region.wanted, yielded, r82])]
   go_simp
   exact hK _ hC (Below.refl _ _)
  ·have r82 := fq 82 2 ha hsz (by kernel_rfl) (by decide) (hD 2 (by simp [waits, Region.binds]))
   have r84 := fq 84 4 ha hsz (by kernel_rfl) (by decide) (hD 4 (by simp [waits, Region.binds]))
   clear ha hU hD ha0
   go_simp
   exact hK _ hC (Below.refl _ _)
  ·have r85 := fq 85 5 ha hsz (by kernel_rfl) (by decide) (hD 5 (by simp [waits, Region.binds]))
   clear ha hU hD ha0
   go_simp
   exact hK _ hC (Below.refl _ _)
  ·have r86 := fg 86 6 ha hsz (by kernel_rfl) (by decide)
   have q6 : vs 6 = .bool true := hD 6 (by simp [waits, Region.binds])
   rw [q6] at r86
   have r7 := fb ha (by kernel_rfl) tb7
   clear ha hU hD ha0
   rw [if_pos (by simp [Region.wanted, yielded, r86])]
   go_simp
   exact hK _ hC (Below.refl _ _)
  ·have r86 := fg 86 6 ha hsz (by kernel_rfl) (by decide)
   have q6 : vs 6 = .bool true := hD 6 (by simp [waits, Region.binds])
   rw [q6] at r86
   have r87 := fq 87 7 ha hsz (by kernel_rfl) (by decide) (hD 7 (by simp [waits, Region.binds]))
   clear ha hU hD ha0
   rw [if_pos (by simp [Region.wanted, yielded, r86])]
   go_simp
   exact hK _ hC (Below.refl _ _)
  ·have r86 := fq 86 6 ha hsz (by kernel_rfl) (by decide) (hD 6 (by simp [waits, Region.binds]))
   have r88 := fq 88 8 ha hsz (by kernel_rfl) (by decide) (hD 8 (by simp [waits, Region.binds]))
   clear ha hU hD ha0
   go_simp
   exact hK _ hC (Below.refl _ _)
  ·have r89 := fq 89 9 ha hsz (by kernel_rfl) (by decide) (hD 9 (by simp [waits, Region.binds]))
   clear ha hU hD ha0
   go_simp
   exact hK _ hC (Below.refl _ _)
  ·have r90 := fg 90 10 ha hsz (by kernel_rfl) (by decide)
   have q10 : vs 10 = .bool true := hD 10 (by simp [waits, Region.binds])
   rw [q10] at r90
   have r9 := fb ha (by kernel_rfl) tb9
   clear ha hU hD ha0
   rw [if_pos (by simp [Region.wanted, yielded, r90])]
   go_simp
   exact hK _ hC (Below.refl _ _)
  ·have r90 := fg 90 10 ha hsz (by kernel_rfl) (by decide)
   have q10 : vs 10 = .bool true := hD 10 (by simp [waits, Region.binds])
   rw [q10] at r90
   have r91 := fq 91 11 ha hsz (by kernel_rfl) (by decide) (hD 11 (by simp [waits, Region.binds]))
   clear ha hU hD ha0
   rw [if_pos (by simp [Region.wanted, yielded, r90])]
   go_simp
   exact hK _ hC (Below.refl _ _)
  ·have r90 := fq 90 10 ha hsz (by kernel_rfl) (by decide) (hD 10 (by simp [waits, Region.binds]))
   have r92 := fq 92 12 ha hsz (by kernel_rfl) (by decide) (hD 12 (by simp [waits, Region.binds]))
   clear ha hU hD ha0
   go_simp
   exact hK _ hC (Below.refl _ _)
  ·have r93 := fq 93 13 ha hsz (by kernel_rfl) (by decide) (hD 13 (by simp [waits, Region.binds]))
   clear ha hU hD ha0
   go_simp
   exact hK _ hC (Below.refl _ _)
  ·have r94 := fg 94 14 ha hsz (by kernel_rfl) (by decide)
   have q14 : vs 14 = .bool true := hD 14 (by simp [waits, Region.binds])
   rw [q14] at r94
   have r11 := fb ha (by kernel_rfl) tb11
   clear ha hU hD ha0
   rw [if_pos (by simp [Region.wanted, yielded, r94])]
   go_simp
   exact hK _ hC (Below.refl _ _)
  ·have r94 := fg 94 14 ha hsz (by kernel_rfl) (by decide)
   have q14 : vs 14 = .bool true := hD 14 (by simp [waits, Region.binds])
   rw [q14] at r94
   have r95 := fq 95 15 ha hsz (by kernel_rfl) (by decide) (hD 15 (by simp [waits, Region.binds]))
   clear ha hU hD ha0
   rw [if_pos (by simp [Region.wanted, yielded, r94])]
   go_simp
   exact hK _ hC (Below.refl _ _)
  ·have r94 := fq 94 14 ha hsz (by kernel_rfl) (by decide) (hD 14 (by simp [waits, Region.binds]))
   have r96 := fq 96 16 ha hsz (by kernel_rfl) (by decide) (hD 16 (by simp [waits, Region.binds]))
   clear ha hU hD ha0
   go_simp
   exact hK _ hC (Below.refl _ _)
  ·have r97 := fq 97 17 ha hsz (by kernel_rfl) (by decide) (hD 17 (by simp [waits, Region.binds]))
   clear ha hU hD ha0
   go_simp
   exact hK _ hC (Below.refl _ _)
  ·have r98 := fg 98 18 ha hsz (by kernel_rfl) (by decide)
   have q18 : vs 18 = .bool true := hD 18 (by simp [waits, Region.binds])
   rw [q18] at r98
   have r13 := fb ha (by kernel_rfl) tb13
   clear ha hU hD ha0
   rw [if_pos (by simp [Region.wanted, yielded, r98])]
   go_simp
   exact hK _ hC (Below.refl _ _)
  ·have r98 := fg 98 18 ha hsz (by kernel_rfl) (by decide)
   have q18 : vs 18 = .bool true := hD 18 (by simp [waits, Region.binds])
   rw [q18] at r98
   have r99 := fq 99 19 ha hsz (by kernel_rfl) (by decide) (hD 19 (by simp [waits, Region.binds]))
   clear ha hU hD ha0
   rw [if_pos (by simp [Region.wanted, yielded, r98])]
   go_simp
   exact hK _ hC (Below.refl _ _)
  ·have r98 := fq 98 18 ha hsz (by kernel_rfl) (by decide) (hD 18 (by simp [waits, Region.binds]))
   have r100 := fq 100 20 ha hsz (by kernel_rfl) (by decide) (hD 20 (by simp [waits, Region.binds]))
   clear ha hU hD ha0
   go_simp
   exact hK _ hC (Below.refl _ _)
  ·have r101 := fq 101 21 ha hsz (by kernel_rfl) (by decide) (hD 21 (by simp [waits, Region.binds]))
   clear ha hU hD ha0
   go_simp
   exact hK _ hC (Below.refl _ _)
  ·have r102 := fg 102 22 ha hsz (by kernel_rfl) (by decide)
   have q22 : vs 22 = .bool true := hD 22 (by simp [waits, Region.binds])
   rw [q22] at r102
   have r15 := fb ha (by kernel_rfl) tb15
   clear ha hU hD ha0
   rw [if_pos (by simp [Region.wanted, yielded, r102])]
   go_simp
   exact hK _ hC (Below.refl _ _)
  ·have r102 := fg 102 22 ha hsz (by kernel_rfl) (by decide)
   have q22 : vs 22 = .bool true := hD 22 (by simp [waits, Region.binds])
   rw [q22] at r102
   have r103 := fq 103 23 ha hsz (by kernel_rfl) (by decide) (hD 23 (by simp [waits, Region.binds]))
   clear ha hU hD ha0
   rw [if_pos (by simp [Region.wanted, yielded, r102])]
   go_simp
   exact hK _ hC (Below.refl _ _)
  ·have r102 := fq 102 22 ha hsz (by kernel_rfl) (by decide) (hD 22 (by simp [waits, Region.binds]))
   have r104 := fq 104 24 ha hsz (by kernel_rfl) (by decide) (hD 24 (by simp [waits, Region.binds]))
   clear ha hU hD ha0
   go_simp
   exact hK _ hC (Below.refl _ _)
  ·have r105 := fq 105 25 ha hsz (by kernel_rfl) (by decide) (hD 25 (by simp [waits, Region.binds]))
   clear ha hU hD ha0
   go_simp
   exact hK _ hC (Below.refl _ _)
  ·have r106 := fg 106 26 ha hsz (by kernel_rfl) (by decide)
   have q26 : vs 26 = .bool true := hD 26 (by simp [waits, Region.binds])
   rw [q26] at r106
   have r17 := fb ha (by kernel_rfl) tb17
   clear ha hU hD ha0
   rw [if_pos (by simp [Region.wanted, yielded, r106])]
   go_simp
   exact hK _ hC (Below.refl _ _)
  ·have r106 := fg 106 26 ha hsz (by kernel_rfl) (by decide)
   have q26 : vs 26 = .bool true := hD 26 (by simp [waits, Region.binds])
   rw [q26] at r106
   have r107 := fq 107 27 ha hsz (by kernel_rfl) (by decide) (hD 27 (by simp [waits, Region.binds]))
   clear ha hU hD ha0
   rw [if_pos (by simp [Region.wanted, yielded, r106])]
   go_simp
   exact hK _ hC (Below.refl _ _)
  ·have r106 := fq 106 26 ha hsz (by kernel_rfl) (by decide) (hD 26 (by simp [waits, Region.binds]))
   have r108 := fq 108 28 ha hsz (by kernel_rfl) (by decide) (hD 28 (by simp [waits, Region.binds]))
   clear ha hU hD ha0
   go_simp
   exact hK _ hC (Below.refl _ _)
  ·have r109 := fq 109 29 ha hsz (by kernel_rfl) (by decide) (hD 29 (by simp [waits, Region.binds]))
   clear ha hU hD ha0
   go_simp
   exact hK _ hC (Below.refl _ _)
  ·have r110 := fg 110 30 ha hsz (by kernel_rfl) (by decide)
   have q30 : vs 30 = .bool true := hD 30 (by simp [waits, Region.binds])
   rw [q30] at r110
   have r19 := fb ha (by kernel_rfl) tb19
   clear ha hU hD ha0
   rw [if_pos (by simp [Region.wanted, yielded, r110])]
   go_simp
   exact hK _ hC (Below.refl _ _)
  ·have r110 := fg 110 30 ha hsz (by kernel_rfl) (by decide)
   have q30 : vs 30 = .bool true := hD 30 (by simp [waits, Region.binds])
   rw [q30] at r110
   have r111 := fq 111 31 ha hsz (by kernel_rfl) (by decide) (hD 31 (by simp [waits, Region.binds]))
   clear ha hU hD ha0
   rw [if_pos (by simp [Region.wanted, yielded, r110])]
   go_simp
   exact hK _ hC (Below.refl _ _)
  ·have r110 := fq 110 30 ha hsz (by kernel_rfl) (by decide) (hD 30 (by simp [waits, Region.binds]))
   have r112 := fq 112 32 ha hsz (by kernel_rfl) (by decide) (hD 32 (by simp [waits, Region.binds]))
   clear ha hU hD ha0
   go_simp
   exact hK _ hC (Below.refl _ _)
  ·have r113 := fq 113 33 ha hsz (by kernel_rfl) (by decide) (hD 33 (by simp [waits, Region.binds]))
   clear ha hU hD ha0
   go_simp
   exact hK _ hC (Below.refl _ _)
  ·have r114 := fg 114 34 ha hsz (by kernel_rfl) (by decide)
   have q34 : vs 34 = .bool true := hD 34 (by simp [waits, Region.binds])
   rw [q34] at r114
   have r2 := fb ha (by kernel_rfl) tb2
   clear ha hU hD ha0
   rw [if_pos (by simp [Region.wanted, yielded, r114])]
   go_simp
   exact hK _ hC (Below.refl _ _)
  ·have r114 := fg 114 34 ha hsz (by kernel_rfl) (by decide)
   have q34 : vs 34 = .bool true := hD 34 (by simp [waits, Region.binds])
   rw [q34] at r114
   clear ha hU hD ha0
   rw [if_pos (by simp [Region.wanted, yielded, r114])]
   go_simp
   exact hK _ _ (bl_alloc hC _ (Nat.le_refl _)) (bl_alloc (Below.refl _ _) _ (Nat.le_refl _)) (IsIntsV.new [0, 5, 13, 30] _ (by decide) hC.size)
  ·have r114 := fg 114 34 ha hsz (by kernel_rfl) (by decide)
   have q34 : vs 34 = .bool true := hD 34 (by simp [waits, Region.binds])
   rw [q34] at r114
   have r115 := fq 115 35 ha hsz (by kernel_rfl) (by decide) (hD 35 (by simp [waits, Region.binds]))
   have r116 := fg 116 36 ha hsz (by kernel_rfl) (by decide)
   have P36 : IsIntsV V13.heap.size [0, 5, 13, 30] (vs 36) W := hD 36 (by simp [waits, Region.binds])
   obtain ⟨B116, d116, e116, hI116⟩ := P36
   rw [e116] at r116
   clear ha hU hD ha0
   rw [if_pos (by simp [Region.wanted, yielded, r114])]
   go_simp
   refine (ints_any W (H_r2.out W hC) hI116).mono ?_
   rintro e w' ⟨rfl, q, rfl⟩
   rw [decide_eq_true rfl]
   exact hK _ (bl_drewN hC q) (bl_drewN (Below.refl _ _) q)
  ·have r114 := fq 114 34 ha hsz (by kernel_rfl) (by decide) (hD 34 (by simp [waits, Region.binds]))
   have r117 := fq 117 37 ha hsz (by kernel_rfl) (by decide) (hD 37 (by simp [waits, Region.binds]))
   clear ha hU hD ha0
   go_simp
   exact hK _ hC (Below.refl _ _)
  ·have r118 := fq 118 38 ha hsz (by kernel_rfl) (by decide) (hD 38 (by simp [waits, Region.binds]))
   clear ha hU hD ha0
   go_simp
   exact hK _ hC (Below.refl _ _)
  ·have r119 := fg 119 39 ha hsz (by kernel_rfl) (by decide)
   have q39 : vs 39 = .bool true := hD 39 (by simp [waits, Region.binds])
   rw [q39] at r119
   have r4 := fb ha (by kernel_rfl) tb4
   clear ha hU hD ha0
   rw [if_pos (by simp [Region.wanted, yielded, r119])]
   go_simp
   exact hK _ hC (Below.refl _ _)
  ·have r119 := fg 119 39 ha hsz (by kernel_rfl) (by decide)
   have q39 : vs 39 = .bool true := hD 39 (by simp [waits, Region.binds])
   rw [q39] at r119
   clear ha hU hD ha0
   rw [if_pos (by simp [Region.wanted, yielded, r119])]
   go_simp
   exact hK _ _ (bl_alloc hC _ (Nat.le_refl _)) (bl_alloc (Below.refl _ _) _ (Nat.le_refl _)) (IsIntsV.new [50, 0, 15] _ (by decide) hC.size)
  ·have r119 := fg 119 39 ha hsz (by kernel_rfl) (by decide)
   have q39 : vs 39 = .bool true := hD 39 (by simp [waits, Region.binds])
   rw [q39] at r119
   have r120 := fq 120 40 ha hsz (by kernel_rfl) (by decide) (hD 40 (by simp [waits, Region.binds]))
   have r121 := fg 121 41 ha hsz (by kernel_rfl) (by decide)
   have P41 : IsIntsV V13.heap.size [50, 0, 15] (vs 41) W := hD 41 (by simp [waits, Region.binds])
   obtain ⟨B121, d121, e121, hI121⟩ := P41
   rw [e121] at r121
   clear ha hU hD ha0
   rw [if_pos (by simp [Region.wanted, yielded, r119])]
   go_simp
   refine (ints_any W (H_r4.out W hC) hI121).mono ?_
   rintro e w' ⟨rfl, q, rfl⟩
   rw [decide_eq_true rfl]
   exact hK _ (bl_drewN hC q) (bl_drewN (Below.refl _ _) q)
  ·have r119 := fq 119 39 ha hsz (by kernel_rfl) (by decide) (hD 39 (by simp [waits, Region.binds]))
   have r122 := fq 122 42 ha hsz (by kernel_rfl) (by decide) (hD 42 (by simp [waits, Region.binds]))
   clear ha hU hD ha0
   go_simp
   exact hK _ hC (Below.refl _ _)
  ·have r123 := fq 123 43 ha hsz (by kernel_rfl) (by decide) (hD 43 (by simp [waits, Region.binds]))
   clear ha hU hD ha0
   go_simp
   exact hK _ hC (Below.refl _ _)
  ·have r124 := fg 124 44 ha hsz (by kernel_rfl) (by decide)
   have q44 : vs 44 = .bool true := hD 44 (by simp [waits, Region.binds])
   rw [q44] at r124
   have r6 := fb ha (by kernel_rfl) tb6
   clear ha hU hD ha0
   rw [if_pos (by simp [Region.wanted, yielded, r124])]
   go_simp
   exact hK _ hC (Below.refl _ _)
  ·have r124 := fg 124 44 ha hsz (by kernel_rfl) (by decide)
   have q44 : vs 44 = .bool true := hD 44 (by simp [waits, Region.binds])
   rw [q44] at r124
   clear ha hU hD ha0
   rw [if_pos (by simp [Region.wanted, yielded, r124])]
   go_simp
   exact hK _ _ (bl_alloc hC _ (Nat.le_refl _)) (bl_alloc (Below.refl _ _) _ (Nat.le_refl _)) (IsIntsV.new [0] _ (by decide) hC.size)
  ·have r124 := fg 124 44 ha hsz (by kernel_rfl) (by decide)
   have q44 : vs 44 = .bool true := hD 44 (by simp [waits, Region.binds])
   rw [q44] at r124
   have r125 := fq 125 45 ha hsz (by kernel_rfl) (by decide) (hD 45 (by simp [waits, Region.binds]))
   have r126 := fg 126 46 ha hsz (by kernel_rfl) (by decide)
   have P46 : IsIntsV V13.heap.size [0] (vs 46) W := hD 46 (by simp [waits, Region.binds])
   obtain ⟨B126, d126, e126, hI126⟩ := P46
   rw [e126] at r126
   clear ha hU hD ha0
   rw [if_pos (by simp [Region.wanted, yielded, r124])]
   go_simp
   refine (ints_any W (H_r6.out W hC) hI126).mono ?_
   rintro e w' ⟨rfl, q, rfl⟩
   rw [decide_eq_true rfl]
   exact hK _ (bl_drewN hC q) (bl_drewN (Below.refl _ _) q)
  ·have r124 := fq 124 44 ha hsz (by kernel_rfl) (by decide) (hD 44 (by simp [waits, Region.binds]))
   have r127 := fq 127 47 ha hsz (by kernel_rfl) (by decide) (hD 47 (by simp [waits, Region.binds]))
   clear ha hU hD ha0
   go_simp
   exact hK _ hC (Below.refl _ _)
  ·have r128 := fq 128 48 ha hsz (by kernel_rfl) (by decide) (hD 48 (by simp [waits, Region.binds]))
   clear ha hU hD ha0
   go_simp
   exact hK _ hC (Below.refl _ _)
  ·have r129 := fg 129 49 ha hsz (by kernel_rfl) (by decide)
   have q49 : vs 49 = .bool true := hD 49 (by simp [waits, Region.binds])
   rw [q49] at r129
   have r8 := fb ha (by kernel_rfl) tb8
   clear ha hU hD ha0
   rw [if_pos (by simp [Region.wanted, yielded, r129])]
   have q8 := H_g8.out W hC
   have z0 := q8.cell 0
   have z1 := q8.cell 1
   go_simp
   exact hK _ hC (Below.refl _ _)
  ·have r129 := fg 129 49 ha hsz (by kernel_rfl) (by decide)
   have q49 : vs 49 = .bool true := hD 49 (by simp [waits, Region.binds])
   rw [q49] at r129
   clear ha hU hD ha0
   rw [if_pos (by simp [Region.wanted, yielded, r129])]
   go_simp
   refine (of5_any 5 6 W).mono ?_
   rintro e w' ⟨rfl, hb⟩
   exact hK _ (bl_call hC hb (Nat.le_refl _)) hb
  ·have r129 := fg 129 49 ha hsz (by kernel_rfl) (by decide)
   have q49 : vs 49 = .bool true := hD 49 (by simp [waits, Region.binds])
   rw [q49] at r129
   have r130 := fq 130 50 ha hsz (by kernel_rfl) (by decide) (hD 50 (by simp [waits, Region.binds]))
   have r131 := fq 131 51 ha hsz (by kernel_rfl) (by decide) (hD 51 (by simp [waits, Region.binds]))
   clear ha hU hD ha0
   rw [if_pos (by simp [Region.wanted, yielded, r129])]
   have heq : ∀ V, (Op.equalIn 10000 42 (.agg #[.int .i64 5, .int .i64 6]) (.agg #[.int .i64 5, .int .i64 6])).run Tryz.prog V = .ok true V := fun V => by rw [eqz_scale]; rfl
   go_simp
   exact hK _ hC (Below.refl _ _)
  ·have r129 := fq 129 49 ha hsz (by kernel_rfl) (by decide) (hD 49 (by simp [waits, Region.binds]))
   have r132 := fq 132 52 ha hsz (by kernel_rfl) (by decide) (hD 52 (by simp [waits, Region.binds]))
   clear ha hU hD ha0
   go_simp
   exact hK _ hC (Below.refl _ _)
  ·have r133 := fq 133 53 ha hsz (by kernel_rfl) (by decide) (hD 53 (by simp [waits, Region.binds]))
   clear ha hU hD ha0
   go_simp
   exact hK _ hC (Below.refl _ _)
  ·have r134 := fg 134 54 ha hsz (by kernel_rfl) (by decide)
   have q54 : vs 54 = .bool true := hD 54 (by simp [waits, Region.binds])
   rw [q54] at r134
   have r10 := fb ha (by kernel_rfl) tb10
   clear ha hU hD ha0
   rw [if_pos (by simp [Region.wanted, yielded, r134])]
   have q8 := H_g10.out W hC
   have z0 := q8.cell 0
   have z1 := q8.cell 1
   go_simp
   exact hK _ hC (Below.refl _ _)
  ·have r134 := fg 134 54 ha hsz (by kernel_rfl) (by decide)
   have q54 : vs 54 = .bool true := hD 54 (by simp [waits, Region.binds])
   rw [q54] at r134
   clear ha hU hD ha0
   rw [if_pos (by simp [Region.wanted, yielded, r134])]
   go_simp
   refine (of5_any 1 16 W).mono ?_
   rintro e w' ⟨rfl, hb⟩
   exact hK _ (bl_call hC hb (Nat.le_refl _)) hb
  ·have r134 := fg 134 54 ha hsz (by kernel_rfl) (by decide)
   have q54 : vs 54 = .bool true := hD 54 (by simp [waits, Region.binds])
   rw [q54] at r134
   have r135 := fq 135 55 ha hsz (by kernel_rfl) (by decide) (hD 55 (by simp [waits, Region.binds]))
   have r136 := fq 136 56 ha hsz (by kernel_rfl) (by decide) (hD 56 (by simp [waits, Region.binds]))
   clear ha hU hD ha0
   rw [if_pos (by simp [Region.wanted, yielded, r134])]
   have heq : ∀ V, (Op.equalIn 10000 42 (.agg #[.int .i64 1, .int .i64 16]) (.agg #[.int .i64 1, .int .i64 16])).run Tryz.prog V = .ok true V := fun V => by rw [eqz_scale]; rfl
   go_simp
   exact hK _ hC (Below.refl _ _)
  ·have r134 := fq 134 54 ha hsz (by kernel_rfl) (by decide) (hD 54 (by simp [waits, Region.binds]))
   have r137 := fq 137 57 ha hsz (by kernel_rfl) (by decide) (hD 57 (by simp [waits, Region.binds]))
   clear ha hU hD ha0
   go_simp
   exact hK _ hC (Below.refl _ _)
  ·have r138 := fq 138 58 ha hsz (by kernel_rfl) (by decide) (hD 58 (by simp [waits, Region.binds]))
   clear ha hU hD ha0
   go_simp
   exact hK _ hC (Below.refl _ _)
  ·have r139 := fg 139 59 ha hsz (by kernel_rfl) (by decide)
   have q59 : vs 59 = .bool true := hD 59 (by simp [waits, Region.binds])
   rw [q59] at r139
   have r12 := fb ha (by kernel_rfl) tb12
   clear ha hU hD ha0
   rw [if_pos (by simp [Region.wanted, yielded, r139])]
   go_simp
   exact hK _ hC (Below.refl _ _)
  ·have r139 := fg 139 59 ha hsz (by kernel_rfl) (by decide)
   have q59 : vs 59 = .bool true := hD 59 (by simp [waits, Region.binds])
   rw [q59] at r139
   clear ha hU hD ha0
   rw [if_pos (by simp [Region.wanted, yielded, r139])]
   go_simp
   refine (of5_any 19 28 W).mono ?_
   rintro e w' ⟨rfl, hb⟩
   exact hK _ (bl_call hC hb (Nat.le_refl _)) hb
  ·have r139 := fg 139 59 ha hsz (by kernel_rfl) (by decide)
   have q59 : vs 59 = .bool true := hD 59 (by simp [waits, Region.binds])
   rw [q59] at r139
   clear ha hU hD ha0
   rw [if_pos (by simp [Region.wanted, yielded, r139])]
   go_simp
   refine (of5_any 17 25 W).mono ?_
   rintro e w' ⟨rfl, hb⟩
   exact hK _ (bl_call hC hb (Nat.le_refl _)) hb
  ·have r139 := fg 139 59 ha hsz (by kernel_rfl) (by decide)
   have q59 : vs 59 = .bool true := hD 59 (by simp [waits, Region.binds])
   rw [q59] at r139
   clear ha hU hD ha0
   rw [if_pos (by simp [Region.wanted, yielded, r139])]
   go_simp
   refine (of5_any 15 22 W).mono ?_
   rintro e w' ⟨rfl, hb⟩
   exact hK _ (bl_call hC hb (Nat.le_refl _)) hb
  ·have r139 := fg 139 59 ha hsz (by kernel_rfl) (by decide)
   have q59 : vs 59 = .bool true := hD 59 (by simp [waits, Region.binds])
   rw [q59] at r139
   clear ha hU hD ha0
   rw [if_pos (by simp [Region.wanted, yielded, r139])]
   go_simp
   refine (of5_any 13 19 W).mono ?_
   rintro e w' ⟨rfl, hb⟩
   exact hK _ (bl_call hC hb (Nat.le_refl _)) hb
  ·have r139 := fg 139 59 ha hsz (by kernel_rfl) (by decide)
   have q59 : vs 59 = .bool true := hD 59 (by simp [waits, Region.binds])
   rw [q59] at r139
   clear ha hU hD ha0
   rw [if_pos (by simp [Region.wanted, yielded, r139])]
   go_simp
   refine (of5_any 11 16 W).mono ?_
   rintro e w' ⟨rfl, hb⟩
   exact hK _ (bl_call hC hb (Nat.le_refl _)) hb
  ·have r139 := fg 139 59 ha hsz (by kernel_rfl) (by decide)
   have q59 : vs 59 = .bool true := hD 59 (by simp [waits, Region.binds])
   rw [q59] at r139
   clear ha hU hD ha0
   rw [if_pos (by simp [Region.wanted, yielded, r139])]
   go_simp
   refine (of5_any 20 29 W).mono ?_
   rintro e w' ⟨rfl, hb⟩
   exact hK _ (bl_call hC hb (Nat.le_refl _)) hb
  ·have r139 := fg 139 59 ha hsz (by kernel_rfl) (by decide)
   have q59 : vs 59 = .bool true := hD 59 (by simp [waits, Region.binds])
   rw [q59] at r139
   have r141 := fq 141 61 ha hsz (by kernel_rfl) (by decide) (hD 61 (by simp [waits, Region.binds]))
   have r142 := fq 142 62 ha hsz (by kernel_rfl) (by decide) (hD 62 (by simp [waits, Region.binds]))
   have r143 := fq 143 63 ha hsz (by kernel_rfl) (by decide) (hD 63 (by simp [waits, Region.binds]))
   have r144 := fq 144 64 ha hsz (by kernel_rfl) (by decide) (hD 64 (by simp [waits, Region.binds]))
   have r145 := fq 145 65 ha hsz (by kernel_rfl) (by decide) (hD 65 (by simp [waits, Region.binds]))
   have r146 := fq 146 66 ha hsz (by kernel_rfl) (by decide) (hD 66 (by simp [waits, Region.binds]))
   clear ha hU hD ha0
   rw [if_pos (by simp [Region.wanted, yielded, r139])]
   go_simp
   exact hK _ _ (bl_alloc hC _ (Nat.le_refl _)) (bl_alloc (Below.refl _ _) _ (Nat.le_refl _)) (IsPlsV.new [(19, 28), (17, 25), (15, 22), (13, 19), (11, 16), (20, 29)] _ (by rfl) (by decide) hC.size)
  ·have r139 := fg 139 59 ha hsz (by kernel_rfl) (by decide)
   have q59 : vs 59 = .bool true := hD 59 (by simp [waits, Region.binds])
   rw [q59] at r139
   have r140 := fq 140 60 ha hsz (by kernel_rfl) (by decide) (hD 60 (by simp [waits, Region.binds]))
   have r147 := fg 147 67 ha hsz (by kernel_rfl) (by decide)
   have P67 : IsPlsV V13.heap.size [(19, 28), (17, 25), (15, 22), (13, 19), (11, 16), (20, 29)] (vs 67) W := hD 67 (by simp [waits, Region.binds])
   obtain ⟨B147, d147, e147, hI147⟩ := P67
   rw [e147] at r147
   clear ha hU hD ha0
   rw [if_pos (by simp [Region.wanted, yielded, r139])]
   go_simp
   refine (same5_any W (H_r12.out W hC) hI147).mono ?_
   rintro e w' ⟨rfl, q, rfl⟩
   rw [decide_eq_true rfl]
   exact hK _ (bl_drewN hC q) (bl_drewN (Below.refl _ _) q)
  ·have r139 := fq 139 59 ha hsz (by kernel_rfl) (by decide) (hD 59 (by simp [waits, Region.binds]))
   have r148 := fq 148 68 ha hsz (by kernel_rfl) (by decide) (hD 68 (by simp [waits, Region.binds]))
   clear ha hU hD ha0
   go_simp
   exact hK _ hC (Below.refl _ _)
  ·have r149 := fq 149 69 ha hsz (by kernel_rfl) (by decide) (hD 69 (by simp [waits, Region.binds]))
   clear ha hU hD ha0
   go_simp
   exact hK _ hC (Below.refl _ _)
  ·have r150 := fg 150 70 ha hsz (by kernel_rfl) (by decide)
   have q70 : vs 70 = .bool true := hD 70 (by simp [waits, Region.binds])
   rw [q70] at r150
   have r14 := fb ha (by kernel_rfl) tb14
   clear ha hU hD ha0
   rw [if_pos (by simp [Region.wanted, yielded, r150])]
   go_simp
   exact hK _ hC (Below.refl _ _)
  ·have r150 := fg 150 70 ha hsz (by kernel_rfl) (by decide)
   have q70 : vs 70 = .bool true := hD 70 (by simp [waits, Region.binds])
   rw [q70] at r150
   clear ha hU hD ha0
   rw [if_pos (by simp [Region.wanted, yielded, r150])]
   go_simp
   exact hK _ _ (bl_alloc hC _ (Nat.le_refl _)) (bl_alloc (Below.refl _ _) _ (Nat.le_refl _)) (IsIntsV.new [1, 2, 3] _ (by decide) hC.size)
  ·have r150 := fg 150 70 ha hsz (by kernel_rfl) (by decide)
   have q70 : vs 70 = .bool true := hD 70 (by simp [waits, Region.binds])
   rw [q70] at r150
   have r151 := fq 151 71 ha hsz (by kernel_rfl) (by decide) (hD 71 (by simp [waits, Region.binds]))
   have r152 := fg 152 72 ha hsz (by kernel_rfl) (by decide)
   have P72 : IsIntsV V13.heap.size [1, 2, 3] (vs 72) W := hD 72 (by simp [waits, Region.binds])
   obtain ⟨B152, d152, e152, hI152⟩ := P72
   rw [e152] at r152
   clear ha hU hD ha0
   rw [if_pos (by simp [Region.wanted, yielded, r150])]
   go_simp
   refine (ints_any W (H_r14.out W hC) hI152).mono ?_
   rintro e w' ⟨rfl, q, rfl⟩
   rw [decide_eq_true rfl]
   exact hK _ (bl_drewN hC q) (bl_drewN (Below.refl _ _) q)
  ·have r150 := fq 150 70 ha hsz (by kernel_rfl) (by decide) (hD 70 (by simp [waits, Region.binds]))
   have r153 := fq 153 73 ha hsz (by kernel_rfl) (by decide) (hD 73 (by simp [waits, Region.binds]))
   clear ha hU hD ha0
   go_simp
   exact hK _ hC (Below.refl _ _)
  ·have r154 := fq 154 74 ha hsz (by kernel_rfl) (by decide) (hD 74 (by simp [waits, Region.binds]))
   clear ha hU hD ha0
   go_simp
   exact hK _ hC (Below.refl _ _)
  ·have r155 := fg 155 75 ha hsz (by kernel_rfl) (by decide)
   have q75 : vs 75 = .bool true := hD 75 (by simp [waits, Region.binds])
   rw [q75] at r155
   have r16 := fb ha (by kernel_rfl) tb16
   clear ha hU hD ha0
   rw [if_pos (by simp [Region.wanted, yielded, r155])]
   go_simp
   exact hK _ hC (Below.refl _ _)
  ·have r155 := fg 155 75 ha hsz (by kernel_rfl) (by decide)
   have q75 : vs 75 = .bool true := hD 75 (by simp [waits, Region.binds])
   rw [q75] at r155
   clear ha hU hD ha0
   rw [if_pos (by simp [Region.wanted, yielded, r155])]
   go_simp
   exact hK _ _ (bl_alloc hC _ (Nat.le_refl _)) (bl_alloc (Below.refl _ _) _ (Nat.le_refl _)) (IsIntsV.new [1] _ (by decide) hC.size)
  ·have r155 := fg 155 75 ha hsz (by kernel_rfl) (by decide)
   have q75 : vs 75 = .bool true := hD 75 (by simp [waits, Region.binds])
   rw [q75] at r155
   have r156 := fq 156 76 ha hsz (by kernel_rfl) (by decide) (hD 76 (by simp [waits, Region.binds]))
   have r157 := fg 157 77 ha hsz (by kernel_rfl) (by decide)
   have P77 : IsIntsV V13.heap.size [1] (vs 77) W := hD 77 (by simp [waits, Region.binds])
   obtain ⟨B157, d157, e157, hI157⟩ := P77
   rw [e157] at r157
   clear ha hU hD ha0
   rw [if_pos (by simp [Region.wanted, yielded, r155])]
   go_simp
   refine (ints_any W (H_r16.out W hC) hI157).mono ?_
   rintro e w' ⟨rfl, q, rfl⟩
   rw [decide_eq_true rfl]
   exact hK _ (bl_drewN hC q) (bl_drewN (Below.refl _ _) q)
  ·have r155 := fq 155 75 ha hsz (by kernel_rfl) (by decide) (hD 75 (by simp [waits, Region.binds]))
   have r158 := fq 158 78 ha hsz (by kernel_rfl) (by decide) (hD 78 (by simp [waits, Region.binds]))
   clear ha hU hD ha0
   go_simp
   exact hK _ hC (Below.refl _ _)
  have r159 := fq 159 79 ha hsz (by kernel_rfl) (by decide) (hD 79 (by simp [waits, Region.binds]))
  clear ha hU hD ha0
  go_simp
  exact hK _ hC (Below.refl _ _)
 refine Fin1.none (Nat.le_refl _) ?_
 intro vs W a1 hC hE ha
 have e0 : vs 80 = .bool true := hE 80 (by simp)
 have r0 : a1.tmps[0]? = some (vs 80) := by rw [ha]; exact fillA_get0 (j := 80) (by kernel_rfl) (by rw [hsz]; decide)
 have hdf1 : a1.defers = [] := by rw [ha, fillA_defers, ha0]
 rw [e0] at r0
 have hBF := bl_call (bl_call HB4.out HC11.out (Nat.le_refl _)) hC (Nat.le_refl _)
 clear ha hE hC e0
 go_simp
 go_wp2
 refine bodyPost_ret (results_tmp rfl _ _ _) hdf1 ?_
 exact ⟨by simp [r0], hBF⟩
end Go.Proofs.YtcnebekkbfajbaaGreat
