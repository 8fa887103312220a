/- A part of the proof that TopWorn always answers true. -/
import Derived.Test.YtdbfincinjoppabGreatDoorCLaw5
import Derived.Test.YtdbfincinjoppabGreatDoorCRegion2
set_option linter.all false
namespace Go.Proofs.YtdbfincinjoppabGreatDoor
open Go.RowKit
theorem ints_new (W : World) (t : TypeId) (cs : Array Value) (l : List Int) {B n : Nat} (hcs : cs = (l.map (Value.int .i64)).toArray) (hn : l.length = n) (hle : n ≤ maxLen) (hB : B ≤ W.heap.size) : Ints (fun k => B ≤ k) (W.alloc (.cells cs t)) (some ⟨W.heap.size, 0, none⟩) n l := by
 subst hcs
 exact (ints_of_cells hn hle (by simp) (fun k x hk => newc (by simp [hk]) rfl)).mono IntR.good (fun k hk => by rw [hk]; exact hB)
def IsRows (B : Nat) (l : List (List Int)) (v : Value) (W : World) : Prop := ∃ A' n' c', v = .slice A' n' c' ∧ Rows (fun k => B ≤ k) W A' n' l
theorem IsRows.bl {B : Nat} {l : List (List Int)} {v : Value} {W V : World} (h : IsRows B l v W) (hb : Below W.heap.size W V) : IsRows B l v V := by
 obtain ⟨A', n', c', e, h⟩ := h
 exact ⟨A', n', c', e, h.keep (SlR.good IntR.good) (Keeps.below hb)⟩
theorem rows_new (W : World) {B n : Nat} {A : Option Addr} {c : Nat} {l : List Int} {t : TypeId} (h : Ints (fun k => B ≤ k) W A n l) (hB : B ≤ W.heap.size) : Rows (fun k => B ≤ k) (W.alloc (.cells #[.slice A n c] t)) (some ⟨W.heap.size, 0, none⟩) 1 [l] := by
 refine ⟨rfl, by decide, fun k x hx => ?_⟩
 have hk : k = 0 := by have := of_getq' hx; simp at this; omega
 subst hk
 simp at hx
 subst hx
 exact ⟨W.heap.size, 0, [.slice A n c], rfl, hB, by simp, ⟨A, n, c, rfl, h.keep IntR.good (Keeps.alloc _ _)⟩, fun j u hu => by
  cases j with
  | zero => simp at hu; subst hu; exact newc rfl rfl
  | succ j => simp at hu⟩
set_option maxRecDepth 100000 in
set_option maxHeartbeats 8000000 in
theorem awake_any (w : World) (htab : TabOk w) :
  Calls Tryz.prog 6 #[] w fun e w' => e = .returned (.bool true) ∧ Below w.heap.size w w' := by
 go_enter Tryz.func6, Tryz.ntmps6
 go_wp2_with fail
 refine (claim_any (S := fun _ => True) (l := []) _ (.inl ⟨rfl, rfl, rfl, rfl⟩)).mono ?_
 rintro e w1 ⟨A1, B1, C1, ca1, cb1, cc1, rfl, ha1, hb1, hc1, hk1⟩
 go_wp2_with fail
 refine (one_any 2 47 _).mono ?_
 rintro e w2 ⟨M2, m2, rfl, hM2, hk2⟩
 go_wp2_with fail
 refine (claim_any (l := [⟨2, 47⟩]) _ (.inr ⟨rfl, 2, 47, rfl, hM2⟩)).mono ?_
 rintro e w3 ⟨A2, B2, C2, ca2, cb2, cc2, rfl, ha2, hb2, hc2, hk3⟩
 go_wp2_with fail
 refine (one_any 0 1010 _).mono ?_
 rintro e w4 ⟨M3, m3, rfl, hM3, hk4⟩
 go_wp2_with fail
 refine (claim_any (l := [⟨0, 1010⟩]) _ (.inr ⟨rfl, 0, 1010, rfl, hM3⟩)).mono ?_
 rintro e w5 ⟨A3, B3, C3, ca3, cb3, cc3, rfl, ha3, hb3, hc3, hk5⟩
 have hB5 : Below w.heap.size w w5 := bl_call (bl_call (bl_call (bl_call hk1 hk2 (Nat.le_refl _)) hk3 (Nat.le_refl _)) hk4 (Nat.le_refl _)) hk5 (Nat.le_refl _)
 have hd1 : ClaimAt (fun _ => True) w5 A1 3 B1 3 C1 2 (claimC []) := (hc1.mono' (fun _ _ => trivial)).keep (Keeps.below (bl_call (bl_call (bl_call hk2 hk3 (Nat.le_refl _)) hk4 (Nat.le_refl _)) hk5 (Nat.le_refl _)))
 have hd2 : ClaimAt (fun _ => True) w5 A2 3 B2 3 C2 3 (claimC [⟨2, 47⟩]) := (hc2.mono' (fun _ _ => trivial)).keep (Keeps.below (bl_call hk4 hk5 (Nat.le_refl _)))
 have hd3 : ClaimAt (fun _ => True) w5 A3 3 B3 3 C3 3 (claimC [⟨0, 1010⟩]) := hc3.mono' (fun _ _ => trivial)
 have ht5 := htab.bl hB5
 clear hc1 hc2 hc3 hM2 hM3 hk1 hk2 hk3 hk4 hk5 htab
 go_wp2_with fail
 obtain ⟨W0, hW0⟩ : ∃ W0, ((w5.alloc (.cells #[.slice A1 3 ca1, .slice B1 3 cb1, .slice C1 2 cc1] 44)).alloc (.cells #[.slice A2 3 ca2, .slice B2 3 cb2, .slice C2 3 cc2] 44)).alloc (.cells #[.slice A3 3 ca3, .slice B3 3 cb3, .slice C3 3 cc3] 44) = W0 := ⟨_, rfl⟩
 have h50 : Below w5.heap.size w5 W0 := by rw [← hW0]; exact bl_alloc (bl_alloc (bl_alloc (Below.refl _ _) _ (Nat.le_refl _)) _ (Nat.le_refl _)) _ (Nat.le_refl _)
 have X1 : Blk W0 w5.heap.size 44 #[.slice A1 3 ca1, .slice B1 3 cb1, .slice C1 2 cc1] := by rw [← hW0]; exact ((Blk.new _ _ _ rfl).alloc _).alloc _
 have X2 : Blk W0 (w5.heap.size + 1) 44 #[.slice A2 3 ca2, .slice B2 3 cb2, .slice C2 3 cc2] := by rw [← hW0]; exact (Blk.new _ _ _ (by simp)).alloc _
 have X3 : Blk W0 (w5.heap.size + 1 + 1) 44 #[.slice A3 3 ca3, .slice B3 3 cb3, .slice C3 3 cc3] := by rw [← hW0]; exact Blk.new _ _ _ (by simp)
 rw [hW0]
 have e1 := hd1.keep (Keeps.below h50)
 have e2 := hd2.keep (Keeps.below h50)
 have e3 := hd3.keep (Keeps.below h50)
 have t0 := ht5.bl h50
 have hB0 := bl_call hB5 h50 (Nat.le_refl _)
 clear hW0 h50 hd1 hd2 hd3 ht5 hB5
 refine (bsets_any W0 t0 e2 ha2 hb2).mono ?_
 rintro e v1 ⟨As, ns, cs, rfl, hRs, h1⟩
 rw [ex_sets] at hRs ⊢
 have q0 := (X1.bl h1).cell 0
 have q1 := (X1.bl h1).cell 1
 have q2 := (X1.bl h1).cell 2
 go_wp2_with fail
 clear q0 q1 q2
 refine (bmust_any v1 (t0.bl h1) (e1.keep (Keeps.below h1)) ha1 hb1).mono ?_
 rintro e v2 ⟨Am, nm, cm, Ay, ny, cy, rfl, hIm, hIy, hv2⟩
 rw [ex_must] at hIm hIy ⊢
 have h2 := bl_call h1 hv2 (Nat.le_refl _)
 have q0 := (X1.bl h2).cell 0
 have q1 := (X1.bl h2).cell 1
 have q2 := (X1.bl h2).cell 2
 go_wp2_with fail
 clear q0 q1 q2
 refine (bamount_any 0 v2 (e1.keep (Keeps.below h2)) ha1 hb1).mono ?_
 rintro e v3 ⟨rfl, hv3⟩
 rw [ex_amount]
 have h3 : Below W0.heap.size W0 (v3.alloc (.cells #[.int .i64 2, .int .i64 4] 23)) := bl_alloc (bl_call h2 hv3 (Nat.le_refl _)) _ (Nat.le_refl _)
 have Y1 : Blk (v3.alloc (.cells #[.int .i64 2, .int .i64 4] 23)) v3.heap.size 23 #[.int .i64 2, .int .i64 4] := Blk.new _ _ _ rfl
 have q0 := (X1.bl h3).cell 0
 have q1 := (X1.bl h3).cell 1
 have q2 := (X1.bl h3).cell 2
 go_wp2_with fail
 clear q0 q1 q2
 have hv2m : Below v2.heap.size v2 (v3.alloc (.cells #[.int .i64 2, .int .i64 4] 23)) := bl_alloc hv3 _ (Nat.le_refl _)
 obtain ⟨v3e, hv3e⟩ : ∃ v3e, v3.alloc (.cells #[.int .i64 2, .int .i64 4] 23) = v3e := ⟨_, rfl⟩
 rw [hv3e] at h3 Y1 hv2m ⊢
 clear hv3e
 refine (bvalue_any 2 v3e (e1.keep (Keeps.below h3)) ha1 hb1).mono ?_
 rintro e v4 ⟨rfl, hv4⟩
 rw [ex_value]
 have h4 : Below W0.heap.size W0 (v4.alloc (.cells #[.int .i64 47, .int .i64 51] 23)) := bl_alloc (bl_call h3 hv4 (Nat.le_refl _)) _ (Nat.le_refl _)
 have Y2 : Blk (v4.alloc (.cells #[.int .i64 47, .int .i64 51] 23)) v4.heap.size 23 #[.int .i64 47, .int .i64 51] := Blk.new _ _ _ rfl
 have q0 := (X2.bl h4).cell 0
 have q1 := (X2.bl h4).cell 1
 have q2 := (X2.bl h4).cell 2
 go_wp2_with fail
 clear q0 q1 q2
 have hv3m : Below v3e.heap.size v3e (v4.alloc (.cells #[.int .i64 47, .int .i64 51] 23)) := bl_alloc hv4 _ (Nat.le_refl _)
 obtain ⟨v4e, hv4e⟩ : ∃ v4e, v4.alloc (.cells #[.int .i64 47, .int .i64 51] 23) = v4e := ⟨_, rfl⟩
 rw [hv4e] at h4 Y2 hv3m ⊢
 clear hv4e
 refine (bplainest_any v4e (t0.bl h4) (e2.keep (Keeps.below h4)) ha2 hb2).mono ?_
 rintro e v5 ⟨Ap, np, cp, rfl, hIp, hv5⟩
 rw [ex_plain] at hIp ⊢
 have h5 := bl_call h4 hv5 (Nat.le_refl _)
 have q0 := (X3.bl h5).cell 0
 have q1 := (X3.bl h5).cell 1
 have q2 := (X3.bl h5).cell 2
 go_wp2_with fail
 clear q0 q1 q2
 refine (bwrong_any v5 (e3.keep (Keeps.below h5)) ha3 hb3).mono ?_
 rintro e v6 ⟨Aw, nw, cw, rfl, hIw, hv6⟩
 rw [ex_wrong] at hIw ⊢
 have h6 := bl_call h5 hv6 (Nat.le_refl _)
 have q0 := (X1.bl h6).cell 0
 have q1 := (X1.bl h6).cell 1
 have q2 := (X1.bl h6).cell 2
 go_wp2_with fail
 clear q0 q1 q2
 refine (bask_any v6 (e1.keep (Keeps.below h6)) ha1 hb1).mono ?_
 rintro e v7 ⟨rfl, hv7⟩
 rw [ex_ask]
 have h7 := bl_call h6 hv7 (Nat.le_refl _)
 have q0 := (X3.bl h7).cell 0
 have q1 := (X3.bl h7).cell 1
 have q2 := (X3.bl h7).cell 2
 go_wp2_with fail
 clear q0 q1 q2
 refine (bplainest_any v7 (t0.bl h7) (e3.keep (Keeps.below h7)) ha3 hb3).mono ?_
 rintro e v8 ⟨Az, nz, cz, rfl, hIz, hv8⟩
 rw [ex_zero]
 have h8 := bl_call h7 hv8 (Nat.le_refl _)
 have q0 := (X3.bl h8).cell 0
 have q1 := (X3.bl h8).cell 1
 have q2 := (X3.bl h8).cell 2
 go_wp2_with fail
 clear q0 q1 q2
 refine (bsets_any v8 (t0.bl h8) (e3.keep (Keeps.below h8)) ha3 hb3).mono ?_
 rintro e v9 ⟨An, nn, cn, rfl, hRn, hv9⟩
 rw [ex_none] at hRn ⊢
 have h9 := bl_call h8 hv9 (Nat.le_refl _)
 have hnn : nn = 0 := hRn.len.symm
 subst hnn
 have k89 := hv9
 have k79 := bl_call hv8 k89 (Nat.le_refl _)
 have k69 := bl_call hv7 k79 (Nat.le_refl _)
 have k59 := bl_call hv6 k69 (Nat.le_refl _)
 have k49 := bl_call hv5 k59 (Nat.le_refl _)
 have k39 := bl_call hv3m k49 (Nat.le_refl _)
 have k29 := bl_call hv2m k39 (Nat.le_refl _)
 have k19 := bl_call hv2 k29 (Nat.le_refl _)
 have rs := Lib.hid (hRs.keep (SlR.good IntR.good) (Keeps.below k19))
 have rm := Lib.hid (hIm.keep IntR.good (Keeps.below k29))
 have ry := Lib.hid (hIy.keep IntR.good (Keeps.below k29))
 have rp := Lib.hid (hIp.keep IntR.good (Keeps.below k59))
 have rw_ := Lib.hid (hIw.keep IntR.good (Keeps.below k69))
 have y1 := Y1.bl k39
 have y2 := Y2.bl k49
 have hB9 := bl_call hB0 h9 (Nat.le_refl _)
 have kk : Hid (∀ W, Below v9.heap.size v9 W → W.cell? ⟨v3.heap.size, 0, none⟩ = some (.int .i64 2) ∧ W.cell? ⟨v3.heap.size, 1, none⟩ = some (.int .i64 4) ∧ W.cell? ⟨v4.heap.size, 0, none⟩ = some (.int .i64 47) ∧ W.cell? ⟨v4.heap.size, 1, none⟩ = some (.int .i64 51)) :=
  fun W hb => ⟨(y1.bl hb).c0, (y1.bl hb).c1, (y2.bl hb).c0, (y2.bl hb).c1⟩
 clear hRs hIm hIy hIp hIw hRn k89 k79 k69 k59 k49 k39 k29 k19 hv2 hv2m hv3 hv3m hv4 hv5 hv6 hv7 hv8 hv9 h1 h2 h3 h4 h5 h6 h7 h8 h9 Y1 Y2 y1 y2 X1 X2 X3 e1 e2 e3 t0 hB0 hIz
 go_wp2
 refine wp_frame ?_
 intro a0 hsz hget hdf
 have b5 : a0.tmps[5]? = some (.int .i64 0) := (hget 5).trans (by kernel_rfl)
 have b8 : a0.tmps[8]? = some (.int .i64 0) := (hget 8).trans (by kernel_rfl)
 have b10 : a0.tmps[10]? = some (.int .i64 0) := (hget 10).trans (by kernel_rfl)
 have b12 : a0.tmps[12]? = some (.int .i64 0) := (hget 12).trans (by kernel_rfl)
 have b14 : a0.tmps[14]? = some (.int .i64 0) := (hget 14).trans (by kernel_rfl)
 have b16 : a0.tmps[16]? = some (.int .i64 0) := (hget 16).trans (by kernel_rfl)
 have b19 : a0.tmps[19]? = some (.int .i64 0) := (hget 19).trans (by kernel_rfl)
 have b23 : a0.tmps[23]? = some (.int .i64 0) := (hget 23).trans (by kernel_rfl)
 have b21 : a0.tmps[21]? = some (.int .i64 8) := (hget 21).trans (by kernel_rfl)
 have b22 : a0.tmps[22]? = some (.slice An 0 cn) := (hget 22).trans (by kernel_rfl)
 have b4 : a0.tmps[4]? = some (.slice As ns cs) := (hget 4).trans (by kernel_rfl)
 have b6 : a0.tmps[6]? = some (.slice Am nm cm) := (hget 6).trans (by kernel_rfl)
 have b7 : a0.tmps[7]? = some (.slice Ay ny cy) := (hget 7).trans (by kernel_rfl)
 have b9 : a0.tmps[9]? = some (.pointer (some ⟨v3.heap.size, 0, none⟩)) := (hget 9).trans (by kernel_rfl)
 have b11 : a0.tmps[11]? = some (.pointer (some ⟨v4.heap.size, 0, none⟩)) := (hget 11).trans (by kernel_rfl)
 have b13 : a0.tmps[13]? = some (.slice Ap np cp) := (hget 13).trans (by kernel_rfl)
 have b15 : a0.tmps[15]? = some (.slice Aw nw cw) := (hget 15).trans (by kernel_rfl)
 have b17 : a0.tmps[17]? = some (.int .i64 2) := (hget 17).trans (by kernel_rfl)
 have b18 : a0.tmps[18]? = some (.int .i64 2) := (hget 18).trans (by kernel_rfl)
 replace hsz : a0.tmps.size = 159 := hsz.trans (by kernel_rfl)
 replace hdf : a0.defers = [] := hdf
 clear hget
 refine wp_region_list (fun W => Below v9.heap.size v9 W) (fun w w' => Below w.heap.size w w')
  [isV (.int .i64 0), isV (.bool true), isV (.bool true), isV (.int .i64 0), isV (.bool true), isV (.bool true), isV (.bool true), isV (.int .i64 0), isV (.bool true), isV (.bool true), isV (.bool true), isV (.int .i64 0), isV (.bool true), isV (.bool true), isV (.bool true), isV (.int .i64 0), isV (.bool true), isV (.bool true), isV (.bool true), isV (.int .i64 0), isV (.bool true), isV (.bool true), isV (.bool true), isV (.int .i64 0), isV (.bool true), isV (.bool true), isV (.bool true), isV (.int .i64 0), isV (.bool true), isV (.bool true), isV (.bool true), isV (.int .i64 8), isV (.bool true), isV (.bool true), isV (.bool true), isV (.slice An 0 cn), isV (.int .i64 0), isV (.bool true), isV (.bool true), isV (.bool true), isV (.slice As ns cs), IsInts v9.heap.size [0, 1], IsRows v9.heap.size [[0, 1]], isV (.bool true), isV (.bool true), isV (.bool true), isV (.slice Am nm cm), IsInts v9.heap.size [0], isV (.bool true), isV (.bool true), isV (.bool true), isV (.slice Ay ny cy), IsInts v9.heap.size [0, 1, 2], isV (.bool true), isV (.bool true), isV (.bool true), isV (.agg #[.int .i64 2, .int .i64 4]), isV (.agg #[.int .i64 2, .int .i64 4]), isV (.bool true), isV (.bool true), isV (.bool true), isV (.agg #[.int .i64 47, .int .i64 51]), isV (.agg #[.int .i64 47, .int .i64 51]), isV (.bool true), isV (.bool true), isV (.bool true), isV (.slice Ap np cp), IsInts v9.heap.size [2, 1, 0], isV (.bool true), isV (.bool true), isV (.bool true), isV (.slice Aw nw cw), IsInts v9.heap.size [2], isV (.bool true), isV (.bool true), isV (.bool true), isV (.int .i64 2), isV (.bool true), isV (.bool true), isV (.bool true), isV (.int .i64 2), isV (.bool true), isV (.bool true), isV (.bool true)]
  (by kernel_rfl) (by kernel_rfl) (by kernel_rfl) (by simp) (by simp) (Below.refl _ _).drew ?stabA ?stepA ?finA
 case stabA => exact (StabL.is (StabL.is (StabL.is (StabL.is (StabL.is (StabL.is (StabL.is (StabL.is (StabL.is (StabL.is (StabL.is (StabL.is (StabL.is (StabL.is (StabL.is (StabL.is (StabL.is (StabL.is (StabL.is (StabL.is (StabL.is (StabL.is (StabL.is (StabL.is (StabL.is (StabL.is (StabL.is (StabL.is (StabL.is (StabL.is (StabL.is (StabL.is (StabL.is (StabL.is (StabL.is (StabL.is (StabL.is (StabL.is (StabL.is (StabL.is (StabL.is (StabL.cons (fun v W V hC hX h => h.bl hX) (StabL.cons (fun v W V hC hX h => h.bl hX) (StabL.is (StabL.is (StabL.is (StabL.is (StabL.cons (fun v W V hC hX h => h.bl hX) (StabL.is (StabL.is (StabL.is (StabL.is (StabL.cons (fun v W V hC hX h => h.bl hX) (StabL.is (StabL.is (StabL.is (StabL.is (StabL.is (StabL.is (StabL.is (StabL.is (StabL.is (StabL.is (StabL.is (StabL.is (StabL.is (StabL.is (StabL.cons (fun v W V hC hX h => h.bl hX) (StabL.is (StabL.is (StabL.is (StabL.is (StabL.cons (fun v W V hC hX h => h.bl hX) (StabL.is (StabL.is (StabL.is (StabL.is (StabL.is (StabL.is (StabL.is (StabL.is (StabL.is (StabL.is (StabL.is StabL.nil))))))))))))))))))))))))))))))))))))))))))))))))))))))))))))))))))))))))))))))))))))
 case stepA =>
  refine StepsL.isA ?_ (StepsL.isA ?_ (StepsL.isA ?_ (StepsL.isA ?_ (StepsL.isA ?_ (StepsL.isA ?_ (StepsL.isA ?_ (StepsL.isA ?_ (StepsL.isA ?_ (StepsL.isA ?_ (StepsL.isA ?_ (StepsL.isA ?_ (StepsL.isA ?_ (StepsL.isA ?_ (StepsL.isA ?_ (StepsL.isA ?_ (StepsL.isA ?_ (StepsL.isA ?_ (StepsL.isA ?_ (StepsL.isA ?_ (StepsL.isA ?_ (StepsL.isA ?_ (StepsL.isA ?_ (StepsL.isA ?_ (StepsL.isA ?_ (StepsL.isA ?_ (StepsL.isA ?_ (StepsL.isA ?_ (StepsL.isA ?_ (StepsL.isA ?_ (StepsL.isA ?_ (StepsL.isA ?_ (StepsL.isA ?_ (StepsL.isA ?_ (StepsL.isA ?_ (StepsL.isA ?_ (StepsL.isA ?_ (StepsL.isA ?_ (StepsL.isA ?_ (StepsL.isA ?_ (StepsL.isA ?_ (StepsL.consA ?_ (StepsL.consA ?_ (StepsL.isA ?_ (StepsL.isA ?_ (StepsL.isA ?_ (StepsL.isA ?_ (StepsL.consA ?_ (StepsL.isA ?_ (StepsL.isA ?_ (StepsL.isA ?_ (StepsL.isA ?_ (StepsL.consA ?_ (StepsL.isA ?_ (StepsL.isA ?_ (StepsL.isA ?_ (StepsL.isA ?_ (StepsL.isA ?_ (StepsL.isA ?_ (StepsL.isA ?_ (StepsL.isA ?_ (StepsL.isA ?_ (StepsL.isA ?_ (StepsL.isA ?_ (StepsL.isA ?_ (StepsL.isA ?_ (StepsL.isA ?_ (StepsL.consA ?_ (StepsL.isA ?_ (StepsL.isA ?_ (StepsL.isA ?_ (StepsL.isA ?_ (StepsL.consA ?_ (StepsL.isA ?_ (StepsL.isA ?_ (StepsL.isA ?_ (StepsL.isA ?_ (StepsL.isA ?_ (StepsL.isA ?_ (StepsL.isA ?_ (StepsL.isA ?_ (StepsL.isA ?_ (StepsL.isA ?_ (StepsL.isA ?_ StepsL.nil)))))))))))))))))))))))))))))))))))))))))))))))))))))))))))))))))))))))))))))))))))
  all_goals intro vs a W K ha hC hD hU hK
  all_goals try rw [if_pos (by rfl)]
  ·
   have r5 : a.tmps[5]? = some (.int .i64 0) := by rw [ha, fillA_base0 (by kernel_rfl)]; exact b5
   clear ha hU hD
   go_simp
   exact hK _ hC (Below.refl _ _)
  ·
   have r76 := fq 76 0 ha hsz (by kernel_rfl) (by decide) (hD 0 (by simp [waits, Region.binds]))
   clear ha hU hD
   go_simp
   exact hK _ hC (Below.refl _ _)
  ·
   have r77 := fq 77 1 ha hsz (by kernel_rfl) (by decide) (hD 1 (by simp [waits, Region.binds]))
   clear ha hU hD
   go_simp
   exact hK _ hC (Below.refl _ _)
  ·
   have r78 := fq 78 2 ha hsz (by kernel_rfl) (by decide) (hD 2 (by simp [waits, Region.binds]))
   have r8 : a.tmps[8]? = some (.int .i64 0) := by rw [ha, fillA_base0 (by kernel_rfl)]; exact b8
   clear ha hU hD
   rw [if_pos (by simp [Region.wanted, yielded, r78])]
   go_simp
   exact hK _ hC (Below.refl _ _)
  ·
   have r78 := fq 78 2 ha hsz (by kernel_rfl) (by decide) (hD 2 (by simp [waits, Region.binds]))
   have r79 := fq 79 3 ha hsz (by kernel_rfl) (by decide) (hD 3 (by simp [waits, Region.binds]))
   clear ha hU hD
   rw [if_pos (by simp [Region.wanted, yielded, r78])]
   go_simp
   exact hK _ hC (Below.refl _ _)
  ·
   have r78 := fq 78 2 ha hsz (by kernel_rfl) (by decide) (hD 2 (by simp [waits, Region.binds]))
   have r80 := fq 80 4 ha hsz (by kernel_rfl) (by decide) (hD 4 (by simp [waits, Region.binds]))
   clear ha hU hD
   go_simp
   exact hK _ hC (Below.refl _ _)
  ·
   have r81 := fq 81 5 ha hsz (by kernel_rfl) (by decide) (hD 5 (by simp [waits, Region.binds]))
   clear ha hU hD
   go_simp
   exact hK _ hC (Below.refl _ _)
  ·
   have r82 := fq 82 6 ha hsz (by kernel_rfl) (by decide) (hD 6 (by simp [waits, Region.binds]))
   have r10 : a.tmps[10]? = some (.int .i64 0) := by rw [ha, fillA_base0 (by kernel_rfl)]; exact b10
   clear ha hU hD
   rw [if_pos (by simp [Region.wanted, yielded, r82])]
   go_simp
   exact hK _ hC (Below.refl _ _)
  ·
   have r82 := fq 82 6 ha hsz (by kernel_rfl) (by decide) (hD 6 (by simp [waits, Region.binds]))
   have r83 := fq 83 7 ha hsz (by kernel_rfl) (by decide) (hD 7 (by simp [waits, Region.binds]))
   clear ha hU hD
   rw [if_pos (by simp [Region.wanted, yielded, r82])]
   go_simp
   exact hK _ hC (Below.refl _ _)
  ·
   have r82 := fq 82 6 ha hsz (by kernel_rfl) (by decide) (hD 6 (by simp [waits, Region.binds]))
   have r84 := fq 84 8 ha hsz (by kernel_rfl) (by decide) (hD 8 (by simp [waits, Region.binds]))
   clear ha hU hD
   go_simp
   exact hK _ hC (Below.refl _ _)
  ·
   have r85 := fq 85 9 ha hsz (by kernel_rfl) (by decide) (hD 9 (by simp [waits, Region.binds]))
   clear ha hU hD
   go_simp
   exact hK _ hC (Below.refl _ _)
  ·
   have r86 := fq 86 10 ha hsz (by kernel_rfl) (by decide) (hD 10 (by simp [waits, Region.binds]))
   have r12 : a.tmps[12]? = some (.int .i64 0) := by rw [ha, fillA_base0 (by kernel_rfl)]; exact b12
   clear ha hU hD
   rw [if_pos (by simp [Region.wanted, yielded, r86])]
   go_simp
   exact hK _ hC (Below.refl _ _)
  ·
   have r86 := fq 86 10 ha hsz (by kernel_rfl) (by decide) (hD 10 (by simp [waits, Region.binds]))
   have r87 := fq 87 11 ha hsz (by kernel_rfl) (by decide) (hD 11 (by simp [waits, Region.binds]))
   clear ha hU hD
   rw [if_pos (by simp [Region.wanted, yielded, r86])]
   go_simp
   exact hK _ hC (Below.refl _ _)
  ·
   have r86 := fq 86 10 ha hsz (by kernel_rfl) (by decide) (hD 10 (by simp [waits, Region.binds]))
   have r88 := fq 88 12 ha hsz (by kernel_rfl) (by decide) (hD 12 (by simp [waits, Region.binds]))
   clear ha hU hD
   go_simp
   exact hK _ hC (Below.refl _ _)
  ·
   have r89 := fq 89 13 ha hsz (by kernel_rfl) (by decide) (hD 13 (by simp [waits, Region.binds]))
   clear ha hU hD
   go_simp
   exact hK _ hC (Below.refl _ _)
  ·
   have r90 := fq 90 14 ha hsz (by kernel_rfl) (by decide) (hD 14 (by simp [waits, Region.binds]))
   have r14 : a.tmps[14]? = some (.int .i64 0) := by rw [ha, fillA_base0 (by kernel_rfl)]; exact b14
   clear ha hU hD
   rw [if_pos (by simp [Region.wanted, yielded, r90])]
   go_simp
   exact hK _ hC (Below.refl _ _)
  ·
   have r90 := fq 90 14 ha hsz (by kernel_rfl) (by decide) (hD 14 (by simp [waits, Region.binds]))
   have r91 := fq 91 15 ha hsz (by kernel_rfl) (by decide) (hD 15 (by simp [waits, Region.binds]))
   clear ha hU hD
   rw [if_pos (by simp [Region.wanted, yielded, r90])]
   go_simp
   exact hK _ hC (Below.refl _ _)
  ·
   have r90 := fq 90 14 ha hsz (by kernel_rfl) (by decide) (hD 14 (by simp [waits, Region.binds]))
   have r92 := fq 92 16 ha hsz (by kernel_rfl) (by decide) (hD 16 (by simp [waits, Region.binds]))
   clear ha hU hD
   go_simp
   exact hK _ hC (Below.refl _ _)
  ·
   have r93 := fq 93 17 ha hsz (by kernel_rfl) (by decide) (hD 17 (by simp [waits, Region.binds]))
   clear ha hU hD
   go_simp
   exact hK _ hC (Below.refl _ _)
  ·
   have r94 := fq 94 18 ha hsz (by kernel_rfl) (by decide) (hD 18 (by simp [waits, Region.binds]))
   have r16 : a.tmps[16]? = some (.int .i64 0) := by rw [ha, fillA_base0 (by kernel_rfl)]; exact b16
   clear ha hU hD
   rw [if_pos (by simp [Region.wanted, yielded, r94])]
   go_simp
   exact hK _ hC (Below.refl _ _)
  ·
   have r94 := fq 94 18 ha hsz (by kernel_rfl) (by decide) (hD 18 (by simp [waits, Region.binds]))
   have r95 := fq 95 19 ha hsz (by kernel_rfl) (by decide) (hD 19 (by simp [waits, Region.binds]))
   clear ha hU hD
   rw [if_pos (by simp [Region.wanted, yielded, r94])]
   go_simp
   exact hK _ hC (Below.refl _ _)
  ·
   have r94 := fq 94 18 ha hsz (by kernel_rfl) (by decide) (hD 18 (by simp [waits, Region.binds]))
   have r96 := fq 96 20 ha hsz (by kernel_rfl) (by decide) (hD 20 (by simp [waits, Region.binds]))
   clear ha hU hD
   go_simp
   exact hK _ hC (Below.refl _ _)
  ·
   have r97 := fq 97 21 ha hsz (by kernel_rfl) (by decide) (hD 21 (by simp [waits, Region.binds]))
   clear ha hU hD
   go_simp
   exact hK _ hC (Below.refl _ _)
  ·
   have r98 := fq 98 22 ha hsz (by kernel_rfl) (by decide) (hD 22 (by simp [waits, Region.binds]))
   have r19 : a.tmps[19]? = some (.int .i64 0) := by rw [ha, fillA_base0 (by kernel_rfl)]; exact b19
   clear ha hU hD
   rw [if_pos (by simp [Region.wanted, yielded, r98])]
   go_simp
   exact hK _ hC (Below.refl _ _)
  ·
   have r98 := fq 98 22 ha hsz (by kernel_rfl) (by decide) (hD 22 (by simp [waits, Region.binds]))
   have r99 := fq 99 23 ha hsz (by kernel_rfl) (by decide) (hD 23 (by simp [waits, Region.binds]))
   clear ha hU hD
   rw [if_pos (by simp [Region.wanted, yielded, r98])]
   go_simp
   exact hK _ hC (Below.refl _ _)
  ·
   have r98 := fq 98 22 ha hsz (by kernel_rfl) (by decide) (hD 22 (by simp [waits, Region.binds]))
   have r100 := fq 100 24 ha hsz (by kernel_rfl) (by decide) (hD 24 (by simp [waits, Region.binds]))
   clear ha hU hD
   go_simp
   exact hK _ hC (Below.refl _ _)
  ·
   have r101 := fq 101 25 ha hsz (by kernel_rfl) (by decide) (hD 25 (by simp [waits, Region.binds]))
   clear ha hU hD
   go_simp
   exact hK _ hC (Below.refl _ _)
  ·
   have r102 := fq 102 26 ha hsz (by kernel_rfl) (by decide) (hD 26 (by simp [waits, Region.binds]))
   have r23 : a.tmps[23]? = some (.int .i64 0) := by rw [ha, fillA_base0 (by kernel_rfl)]; exact b23
   clear ha hU hD
   rw [if_pos (by simp [Region.wanted, yielded, r102])]
   go_simp
   exact hK _ hC (Below.refl _ _)
  ·
   have r102 := fq 102 26 ha hsz (by kernel_rfl) (by decide) (hD 26 (by simp [waits, Region.binds]))
   have r103 := fq 103 27 ha hsz (by kernel_rfl) (by decide) (hD 27 (by simp [waits, Region.binds]))
   clear ha hU hD
   rw [if_pos (by simp [Region.wanted, yielded, r102])]
   go_simp
   exact hK _ hC (Below.refl _ _)
  ·
   have r102 := fq 102 26 ha hsz (by kernel_rfl) (by decide) (hD 26 (by simp [waits, Region.binds]))
   have r104 := fq 104 28 ha hsz (by kernel_rfl) (by decide) (hD 28 (by simp [waits, Region.binds]))
   clear ha hU hD
   go_simp
   exact hK _ hC (Below.refl _ _)
  ·
   have r105 := fq 105 29 ha hsz (by kernel_rfl) (by decide) (hD 29 (by simp [waits, Region.binds]))
   clear ha hU hD
   go_simp
   exact hK _ hC (Below.refl _ _)
  ·
   have r106 := fq 106 30 ha hsz (by kernel_rfl) (by decide) (hD 30 (by simp [waits, Region.binds]))
   have r21 : a.tmps[21]? = some (.int .i64 8) := by rw [ha, fillA_base0 (by kernel_rfl)]; exact b21
   clear ha hU hD
   rw [if_pos (by simp [Region.wanted, yielded, r106])]
   go_simp
   exact hK _ hC (Below.refl _ _)
  ·
   have r106 := fq 106 30 ha hsz (by kernel_rfl) (by decide) (hD 30 (by simp [waits, Region.binds]))
   have r107 := fq 107 31 ha hsz (by kernel_rfl) (by decide) (hD 31 (by simp [waits, Region.binds]))
   clear ha hU hD
   rw [if_pos (by simp [Region.wanted, yielded, r106])]
   go_simp
   exact hK _ hC (Below.refl _ _)
  ·
   have r106 := fq 106 30 ha hsz (by kernel_rfl) (by decide) (hD 30 (by simp [waits, Region.binds]))
   have r108 := fq 108 32 ha hsz (by kernel_rfl) (by decide) (hD 32 (by simp [waits, Region.binds]))
   clear ha hU hD
   go_simp
   exact hK _ hC (Below.refl _ _)
  ·
   have r109 := fq 109 33 ha hsz (by kernel_rfl) (by decide) (hD 33 (by simp [waits, Region.binds]))
   clear ha hU hD
   go_simp
   exact hK _ hC (Below.refl _ _)
  ·
   have r110 := fq 110 34 ha hsz (by kernel_rfl) (by decide) (hD 34 (by simp [waits, Region.binds]))
   have r22 : a.tmps[22]? = some (.slice An 0 cn) := by rw [ha, fillA_base0 (by kernel_rfl)]; exact b22
   clear ha hU hD
   rw [if_pos (by simp [Region.wanted, yielded, r110])]
   go_simp
   exact hK _ hC (Below.refl _ _)
  ·
   have r110 := fq 110 34 ha hsz (by kernel_rfl) (by decide) (hD 34 (by simp [waits, Region.binds]))
   have r111 := fq 111 35 ha hsz (by kernel_rfl) (by decide) (hD 35 (by simp [waits, Region.binds]))
   clear ha hU hD
   rw [if_pos (by simp [Region.wanted, yielded, r110])]
   go_simp
   exact hK _ hC (Below.refl _ _)
  ·
   have r110 := fq 110 34 ha hsz (by kernel_rfl) (by decide) (hD 34 (by simp [waits, Region.binds]))
   have r112 := fq 112 36 ha hsz (by kernel_rfl) (by decide) (hD 36 (by simp [waits, Region.binds]))
   clear ha hU hD
   rw [if_pos (by simp [Region.wanted, yielded, r110])]
   go_simp
   exact hK _ hC (Below.refl _ _)
  ·
   have r110 := fq 110 34 ha hsz (by kernel_rfl) (by decide) (hD 34 (by simp [waits, Region.binds]))
   have r113 := fq 113 37 ha hsz (by kernel_rfl) (by decide) (hD 37 (by simp [waits, Region.binds]))
   clear ha hU hD
   go_simp
   exact hK _ hC (Below.refl _ _)
  ·
   have r114 := fq 114 38 ha hsz (by kernel_rfl) (by decide) (hD 38 (by simp [waits, Region.binds]))
   clear ha hU hD
   go_simp
   exact hK _ hC (Below.refl _ _)
  ·
   have r115 := fq 115 39 ha hsz (by kernel_rfl) (by decide) (hD 39 (by simp [waits, Region.binds]))
   have r4 : a.tmps[4]? = some (.slice As ns cs) := by rw [ha, fillA_base0 (by kernel_rfl)]; exact b4
   clear ha hU hD
   rw [if_pos (by simp [Region.wanted, yielded, r115])]
   go_simp
   exact hK _ hC (Below.refl _ _)
  ·
   have r115 := fq 115 39 ha hsz (by kernel_rfl) (by decide) (hD 39 (by simp [waits, Region.binds]))
   clear ha hU hD
   rw [if_pos (by simp [Region.wanted, yielded, r115])]
   go_simp
   exact hK _ _ (bl_alloc hC _ (Nat.le_refl _)) (bl_alloc (Below.refl _ _) _ (Nat.le_refl _)) ⟨_, _, _, rfl, ints_new W 3 #[.int .i64 (0), .int .i64 (1)] [0, 1] rfl rfl (by decide) hC.size⟩
  ·
   have r115 := fq 115 39 ha hsz (by kernel_rfl) (by decide) (hD 39 (by simp [waits, Region.binds]))
   have r117 := fg 117 41 ha hsz (by kernel_rfl) (by decide)
   have q41 : IsInts v9.heap.size [0, 1] (vs 41) W := hD 41 (by simp [waits, Region.binds])
   obtain ⟨A117, n117, c117, q41, hI117⟩ := q41
   rw [q41] at r117
   clear ha hU hD
   rw [if_pos (by simp [Region.wanted, yielded, r115])]
   go_simp
   exact hK _ _ (bl_alloc hC _ (Nat.le_refl _)) (bl_alloc (Below.refl _ _) _ (Nat.le_refl _)) ⟨_, _, _, rfl, rows_new W hI117 hC.size⟩
  ·
   have r115 := fq 115 39 ha hsz (by kernel_rfl) (by decide) (hD 39 (by simp [waits, Region.binds]))
   have r116 := fq 116 40 ha hsz (by kernel_rfl) (by decide) (hD 40 (by simp [waits, Region.binds]))
   have r118 := fg 118 42 ha hsz (by kernel_rfl) (by decide)
   have q42 : IsRows v9.heap.size [[0, 1]] (vs 42) W := hD 42 (by simp [waits, Region.binds])
   obtain ⟨A118, n118, c118, q42, hI118⟩ := q42
   rw [q42] at r118
   clear ha hU hD
   rw [if_pos (by simp [Region.wanted, yielded, r115])]
   go_simp
   refine (same_any W (rs.out.keep (SlR.good IntR.good) (Keeps.below hC)) hI118).mono ?_
   rintro e w' ⟨rfl, q, rfl⟩
   rw [decide_eq_true rfl]
   exact hK _ (bl_drewN hC q) (bl_drewN (Below.refl _ _) q)
  ·
   have r115 := fq 115 39 ha hsz (by kernel_rfl) (by decide) (hD 39 (by simp [waits, Region.binds]))
   have r119 := fq 119 43 ha hsz (by kernel_rfl) (by decide) (hD 43 (by simp [waits, Region.binds]))
   clear ha hU hD
   go_simp
   exact hK _ hC (Below.refl _ _)
  ·
   have r120 := fq 120 44 ha hsz (by kernel_rfl) (by decide) (hD 44 (by simp [waits, Region.binds]))
   clear ha hU hD
   go_simp
   exact hK _ hC (Below.refl _ _)
  ·
   have r121 := fq 121 45 ha hsz (by kernel_rfl) (by decide) (hD 45 (by simp [waits, Region.binds]))
   have r6 : a.tmps[6]? = some (.slice Am nm cm) := by rw [ha, fillA_base0 (by kernel_rfl)]; exact b6
   clear ha hU hD
   rw [if_pos (by simp [Region.wanted, yielded, r121])]
   go_simp
   exact hK _ hC (Below.refl _ _)
  ·
   have r121 := fq 121 45 ha hsz (by kernel_rfl) (by decide) (hD 45 (by simp [waits, Region.binds]))
   clear ha hU hD
   rw [if_pos (by simp [Region.wanted, yielded, r121])]
   go_simp
   exact hK _ _ (bl_alloc hC _ (Nat.le_refl _)) (bl_alloc (Below.refl _ _) _ (Nat.le_refl _)) ⟨_, _, _, rfl, ints_new W 3 #[.int .i64 (0)] [0] rfl rfl (by decide) hC.size⟩
  ·
   have r121 := fq 121 45 ha hsz (by kernel_rfl) (by decide) (hD 45 (by simp [waits, Region.binds]))
   have r122 := fq 122 46 ha hsz (by kernel_rfl) (by decide) (hD 46 (by simp [waits, Region.binds]))
   have r123 := fg 123 47 ha hsz (by kernel_rfl) (by decide)
   have q47 : IsInts v9.heap.size [0] (vs 47) W := hD 47 (by simp [waits, Region.binds])
   obtain ⟨A123, n123, c123, q47, hI123⟩ := q47
   rw [q47] at r123
   clear ha hU hD
   rw [if_pos (by simp [Region.wanted, yielded, r121])]
   go_simp
   refine (ints_any W (rm.out.keep IntR.good (Keeps.below hC)) hI123).mono ?_
   rintro e w' ⟨rfl, q, rfl⟩
   rw [decide_eq_true rfl]
   exact hK _ (bl_drewN hC q) (bl_drewN (Below.refl _ _) q)
  ·
   have r121 := fq 121 45 ha hsz (by kernel_rfl) (by decide) (hD 45 (by simp [waits, Region.binds]))
   have r124 := fq 124 48 ha hsz (by kernel_rfl) (by decide) (hD 48 (by simp [waits, Region.binds]))
   clear ha hU hD
   go_simp
   exact hK _ hC (Below.refl _ _)
  ·
   have r125 := fq 125 49 ha hsz (by kernel_rfl) (by decide) (hD 49 (by simp [waits, Region.binds]))
   clear ha hU hD
   go_simp
   exact hK _ hC (Below.refl _ _)
  ·
   have r126 := fq 126 50 ha hsz (by kernel_rfl) (by decide) (hD 50 (by simp [waits, Region.binds]))
   have r7 : a.tmps[7]? = some (.slice Ay ny cy) := by rw [ha, fillA_base0 (by kernel_rfl)]; exact b7
   clear ha hU hD
   rw [if_pos (by simp [Region.wanted, yielded, r126])]
   go_simp
   exact hK _ hC (Below.refl _ _)
  ·
   have r126 := fq 126 50 ha hsz (by kernel_rfl) (by decide) (hD 50 (by simp [waits, Region.binds]))
   clear ha hU hD
   rw [if_pos (by simp [Region.wanted, yielded, r126])]
   go_simp
   exact hK _ _ (bl_alloc hC _ (Nat.le_refl _)) (bl_alloc (Below.refl _ _) _ (Nat.le_refl _)) ⟨_, _, _, rfl, ints_new W 3 #[.int .i64 (0), .int .i64 (1), .int .i64 (2)] [0, 1, 2] rfl rfl (by decide) hC.size⟩
  ·
   have r126 := fq 126 50 ha hsz (by kernel_rfl) (by decide) (hD 50 (by simp [waits, Region.binds]))
   have r127 := fq 127 51 ha hsz (by kernel_rfl) (by decide) (hD 51 (by simp [waits, Region.binds]))
   have r128 := fg 128 52 ha hsz (by kernel_rfl) (by decide)
   have q52 : IsInts v9.heap.size [0, 1, 2] (vs 52) W := hD 52 (by simp [waits, Region.binds])
   obtain ⟨A128, n128, c128, q52, hI128⟩ := q52
   rw [q52] at r128
   clear ha hU hD
   rw [if_pos (by simp [Region.wanted, yielded, r126])]
   go_simp
   refine (ints_any W (ry.out.keep IntR.good (Keeps.below hC)) hI128).mono ?_
   rintro e w' ⟨rfl, q, rfl⟩
   rw [decide_eq_true rfl]
   exact hK _ (bl_drewN hC q) (bl_drewN (Below.refl _ _) q)
  ·
   have r126 := fq 126 50 ha hsz (by kernel_rfl) (by decide) (hD 50 (by simp [waits, Region.binds]))
   have r129 := fq 129 53 ha hsz (by kernel_rfl) (by decide) (hD 53 (by simp [waits, Region.binds]))
   clear ha hU hD
   go_simp
   exact hK _ hC (Below.refl _ _)
  ·
   have r130 := fq 130 54 ha hsz (by kernel_rfl) (by decide) (hD 54 (by simp [waits, Region.binds]))
   clear ha hU hD
   go_simp
   exact hK _ hC (Below.refl _ _)
  ·
   have r131 := fq 131 55 ha hsz (by kernel_rfl) (by decide) (hD 55 (by simp [waits, Region.binds]))
   have r9 : a.tmps[9]? = some (.pointer (some ⟨v3.heap.size, 0, none⟩)) := by rw [ha, fillA_base0 (by kernel_rfl)]; exact b9
   clear ha hU hD
   rw [if_pos (by simp [Region.wanted, yielded, r131])]
   obtain ⟨k0, k1, k2, k3⟩ := kk.out W hC
   go_simp
   exact hK _ hC (Below.refl _ _)
  ·
   have r131 := fq 131 55 ha hsz (by kernel_rfl) (by decide) (hD 55 (by simp [waits, Region.binds]))
   clear ha hU hD
   rw [if_pos (by simp [Region.wanted, yielded, r131])]
   go_simp
   refine (span_any 2 4 W).mono ?_
   rintro e w' ⟨rfl, hb⟩
   exact hK _ (bl_call hC hb (Nat.le_refl _)) hb
  ·
   have r131 := fq 131 55 ha hsz (by kernel_rfl) (by decide) (hD 55 (by simp [waits, Region.binds]))
   have r132 := fq 132 56 ha hsz (by kernel_rfl) (by decide) (hD 56 (by simp [waits, Region.binds]))
   have r133 := fq 133 57 ha hsz (by kernel_rfl) (by decide) (hD 57 (by simp [waits, Region.binds]))
   clear ha hU hD
   rw [if_pos (by simp [Region.wanted, yielded, r131])]
   go_simp
   exact hK _ hC (Below.refl _ _)
  ·
   have r131 := fq 131 55 ha hsz (by kernel_rfl) (by decide) (hD 55 (by simp [waits, Region.binds]))
   have r134 := fq 134 58 ha hsz (by kernel_rfl) (by decide) (hD 58 (by simp [waits, Region.binds]))
   clear ha hU hD
   go_simp
   exact hK _ hC (Below.refl _ _)
  ·
   have r135 := fq 135 59 ha hsz (by kernel_rfl) (by decide) (hD 59 (by simp [waits, Region.binds]))
   clear ha hU hD
   go_simp
   exact hK _ hC (Below.refl _ _)
  ·
   have r136 := fq 136 60 ha hsz (by kernel_rfl) (by decide) (hD 60 (by simp [waits, Region.binds]))
   have r11 : a.tmps[11]? = some (.pointer (some ⟨v4.heap.size, 0, none⟩)) := by rw [ha, fillA_base0 (by kernel_rfl)]; exact b11
   clear ha hU hD
   rw [if_pos (by simp [Region.wanted, yielded, r136])]
   obtain ⟨k0, k1, k2, k3⟩ := kk.out W hC
   go_simp
   exact hK _ hC (Below.refl _ _)
  ·
   have r136 := fq 136 60 ha hsz (by kernel_rfl) (by decide) (hD 60 (by simp [waits, Region.binds]))
   clear ha hU hD
   rw [if_pos (by simp [Region.wanted, yielded, r136])]
   go_simp
   refine (span_any 47 51 W).mono ?_
   rintro e w' ⟨rfl, hb⟩
   exact hK _ (bl_call hC hb (Nat.le_refl _)) hb
  ·
   have r136 := fq 136 60 ha hsz (by kernel_rfl) (by decide) (hD 60 (by simp [waits, Region.binds]))
   have r137 := fq 137 61 ha hsz (by kernel_rfl) (by decide) (hD 61 (by simp [waits, Region.binds]))
   have r138 := fq 138 62 ha hsz (by kernel_rfl) (by decide) (hD 62 (by simp [waits, Region.binds]))
   clear ha hU hD
   rw [if_pos (by simp [Region.wanted, yielded, r136])]
   go_simp
   exact hK _ hC (Below.refl _ _)
  ·
   have r136 := fq 136 60 ha hsz (by kernel_rfl) (by decide) (hD 60 (by simp [waits, Region.binds]))
   have r139 := fq 139 63 ha hsz (by kernel_rfl) (by decide) (hD 63 (by simp [waits, Region.binds]))
   clear ha hU hD
   go_simp
   exact hK _ hC (Below.refl _ _)
  ·
   have r140 := fq 140 64 ha hsz (by kernel_rfl) (by decide) (hD 64 (by simp [waits, Region.binds]))
   clear ha hU hD
   go_simp
   exact hK _ hC (Below.refl _ _)
  ·
   have r141 := fq 141 65 ha hsz (by kernel_rfl) (by decide) (hD 65 (by simp [waits, Region.binds]))
   have r13 : a.tmps[13]? = some (.slice Ap np cp) := by rw [ha, fillA_base0 (by kernel_rfl)]; exact b13
   clear ha hU hD
   rw [if_pos (by simp [Region.wanted, yielded, r141])]
   go_simp
   exact hK _ hC (Below.refl _ _)
  ·
   have r141 := fq 141 65 ha hsz (by kernel_rfl) (by decide) (hD 65 (by simp [waits, Region.binds]))
   clear ha hU hD
   rw [if_pos (by simp [Region.wanted, yielded, r141])]
   go_simp
   exact hK _ _ (bl_alloc hC _ (Nat.le_refl _)) (bl_alloc (Below.refl _ _) _ (Nat.le_refl _)) ⟨_, _, _, rfl, ints_new W 3 #[.int .i64 (2), .int .i64 (1), .int .i64 (0)] [2, 1, 0] rfl rfl (by decide) hC.size⟩
  ·
   have r141 := fq 141 65 ha hsz (by kernel_rfl) (by decide) (hD 65 (by simp [waits, Region.binds]))
   have r142 := fq 142 66 ha hsz (by kernel_rfl) (by decide) (hD 66 (by simp [waits, Region.binds]))
   have r143 := fg 143 67 ha hsz (by kernel_rfl) (by decide)
   have q67 : IsInts v9.heap.size [2, 1, 0] (vs 67) W := hD 67 (by simp [waits, Region.binds])
   obtain ⟨A143, n143, c143, q67, hI143⟩ := q67
   rw [q67] at r143
   clear ha hU hD
   rw [if_pos (by simp [Region.wanted, yielded, r141])]
   go_simp
   refine (ints_any W (rp.out.keep IntR.good (Keeps.below hC)) hI143).mono ?_
   rintro e w' ⟨rfl, q, rfl⟩
   rw [decide_eq_true rfl]
   exact hK _ (bl_drewN hC q) (bl_drewN (Below.refl _ _) q)
  ·
   have r141 := fq 141 65 ha hsz (by kernel_rfl) (by decide) (hD 65 (by simp [waits, Region.binds]))
   have r144 := fq 144 68 ha hsz (by kernel_rfl) (by decide) (hD 68 (by simp [waits, Region.binds]))
   clear ha hU hD
   go_simp
   exact hK _ hC (Below.refl _ _)
  ·
   have r145 := fq 145 69 ha hsz (by kernel_rfl) (by decide) (hD 69 (by simp [waits, Region.binds]))
   clear ha hU hD
   go_simp
   exact hK _ hC (Below.refl _ _)
  ·
   have r146 := fq 146 70 ha hsz (by kernel_rfl) (by decide) (hD 70 (by simp [waits, Region.binds]))
   have r15 : a.tmps[15]? = some (.slice Aw nw cw) := by rw [ha, fillA_base0 (by kernel_rfl)]; exact b15
   clear ha hU hD
   rw [if_pos (by simp [Region.wanted, yielded, r146])]
   go_simp
   exact hK _ hC (Below.refl _ _)
  ·
   have r146 := fq 146 70 ha hsz (by kernel_rfl) (by decide) (hD 70 (by simp [waits, Region.binds]))
   clear ha hU hD
   rw [if_pos (by simp [Region.wanted, yielded, r146])]
   go_simp
   exact hK _ _ (bl_alloc hC _ (Nat.le_refl _)) (bl_alloc (Below.refl _ _) _ (Nat.le_refl _)) ⟨_, _, _, rfl, ints_new W 3 #[.int .i64 (2)] [2] rfl rfl (by decide) hC.size⟩
  ·
   have r146 := fq 146 70 ha hsz (by kernel_rfl) (by decide) (hD 70 (by simp [waits, Region.binds]))
   have r147 := fq 147 71 ha hsz (by kernel_rfl) (by decide) (hD 71 (by simp [waits, Region.binds]))
   have r148 := fg 148 72 ha hsz (by kernel_rfl) (by decide)
   have q72 : IsInts v9.heap.size [2] (vs 72) W := hD 72 (by simp [waits, Region.binds])
   obtain ⟨A148, n148, c148, q72, hI148⟩ := q72
   rw [q72] at r148
   clear ha hU hD
   rw [if_pos (by simp [Region.wanted, yielded, r146])]
   go_simp
   refine (ints_any W (rw_.out.keep IntR.good (Keeps.below hC)) hI148).mono ?_
   rintro e w' ⟨rfl, q, rfl⟩
   rw [decide_eq_true rfl]
   exact hK _ (bl_drewN hC q) (bl_drewN (Below.refl _ _) q)
  ·
   have r146 := fq 146 70 ha hsz (by kernel_rfl) (by decide) (hD 70 (by simp [waits, Region.binds]))
   have r149 := fq 149 73 ha hsz (by kernel_rfl) (by decide) (hD 73 (by simp [waits, Region.binds]))
   clear ha hU hD
   go_simp
   exact hK _ hC (Below.refl _ _)
  ·
   have r150 := fq 150 74 ha hsz (by kernel_rfl) (by decide) (hD 74 (by simp [waits, Region.binds]))
   clear ha hU hD
   go_simp
   exact hK _ hC (Below.refl _ _)
  ·
   have r151 := fq 151 75 ha hsz (by kernel_rfl) (by decide) (hD 75 (by simp [waits, Region.binds]))
   have r17 : a.tmps[17]? = some (.int .i64 2) := by rw [ha, fillA_base0 (by kernel_rfl)]; exact b17
   clear ha hU hD
   rw [if_pos (by simp [Region.wanted, yielded, r151])]
   go_simp
   exact hK _ hC (Below.refl _ _)
  ·
   have r151 := fq 151 75 ha hsz (by kernel_rfl) (by decide) (hD 75 (by simp [waits, Region.binds]))
   have r152 := fq 152 76 ha hsz (by kernel_rfl) (by decide) (hD 76 (by simp [waits, Region.binds]))
   clear ha hU hD
   rw [if_pos (by simp [Region.wanted, yielded, r151])]
   go_simp
   exact hK _ hC (Below.refl _ _)
  ·
   have r151 := fq 151 75 ha hsz (by kernel_rfl) (by decide) (hD 75 (by simp [waits, Region.binds]))
   have r153 := fq 153 77 ha hsz (by kernel_rfl) (by decide) (hD 77 (by simp [waits, Region.binds]))
   clear ha hU hD
   go_simp
   exact hK _ hC (Below.refl _ _)
  ·
   have r154 := fq 154 78 ha hsz (by kernel_rfl) (by decide) (hD 78 (by simp [waits, Region.binds]))
   clear ha hU hD
   go_simp
   exact hK _ hC (Below.refl _ _)
  ·
   have r155 := fq 155 79 ha hsz (by kernel_rfl) (by decide) (hD 79 (by simp [waits, Region.binds]))
   have r18 : a.tmps[18]? = some (.int .i64 2) := by rw [ha, fillA_base0 (by kernel_rfl)]; exact b18
   clear ha hU hD
   rw [if_pos (by simp [Region.wanted, yielded, r155])]
   go_simp
   exact hK _ hC (Below.refl _ _)
  ·
   have r155 := fq 155 79 ha hsz (by kernel_rfl) (by decide) (hD 79 (by simp [waits, Region.binds]))
   have r156 := fq 156 80 ha hsz (by kernel_rfl) (by decide) (hD 80 (by simp [waits, Region.binds]))
   clear ha hU hD
   rw [if_pos (by simp [Region.wanted, yielded, r155])]
   go_simp
   exact hK _ hC (Below.refl _ _)
  ·
   have r155 := fq 155 79 ha hsz (by kernel_rfl) (by decide) (hD 79 (by simp [waits, Region.binds]))
   have r157 := fq 157 81 ha hsz (by kernel_rfl) (by decide) (hD 81 (by simp [waits, Region.binds]))
   clear ha hU hD
   go_simp
   exact hK _ hC (Below.refl _ _)
  have r158 := fq 158 82 ha hsz (by kernel_rfl) (by decide) (hD 82 (by simp [waits, Region.binds]))
  clear ha hU hD
  go_simp
  exact hK _ hC (Below.refl _ _)
 refine Fin1.none (Nat.le_refl _) ?_
 intro vs W a1 hC hE ha
 have e0 : vs 83 = .bool true := hE 83 (by simp)
 have r0 : a1.tmps[0]? = some (vs 83) := by rw [ha]; exact fillA_get0 (j := 83) (by kernel_rfl) (by rw [hsz]; decide)
 have hdf1 : a1.defers = [] := by rw [ha, fillA_defers]; exact hdf
 rw [e0] at r0
 have hBF := bl_call hB9 hC (Nat.le_refl _)
 clear ha hE hC e0
 go_simp
 go_wp2
 refine bodyPost_ret (results_tmp rfl _ _ _) hdf1 ?_
 exact ⟨by simp [r0], hBF⟩
end Go.Proofs.YtdbfincinjoppabGreatDoor
