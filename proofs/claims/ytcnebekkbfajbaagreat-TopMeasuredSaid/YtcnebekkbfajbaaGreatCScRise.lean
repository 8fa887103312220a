/- A part of the proof that TopMeasured always answers true. -/
import Derived.Test.YtcnebekkbfajbaaGreatCKAppL
set_option linter.all false
namespace Go.Proofs.YtcnebekkbfajbaaGreat
open Go.RowKit Go.Shelf
theorem ints_at {w : World} {b off n i : Nat} {xs : List Int} {x : Int} (h : Ints (fun _ => True) w (some ⟨b, off, none⟩) n xs) (hx : xs[i]? = some x) : w.cell? ⟨b, off + i, none⟩ = some (.int .i64 x) := by
 have hi : i < n := by rw [← h.len]; exact of_getq' hx
 obtain ⟨b2, off2, y, hA, hc, Hy⟩ := Ints.get h hi
 injection hA with hA
 injection hA with h1 h2
 subst h1 h2
 have : y = x := by have := Hy.out.symm.trans hx; injection this
 rw [← this]; exact hc
set_option maxRecDepth 100000 in
set_option maxHeartbeats 4000000 in
theorem srises_any {c : Case5} {A B : Option Addr} {n ca m cb i j : Nat} {z : Nat × Nat} (hok : Ok5 c) (hz : z ∈ scalesN) (hi : i < c.hts.length) (hj : j < c.hts.length) (w : World) (g : CaseAt (fun _ => True) w A n B m c) :
  Calls Tryz.prog 96 #[modelV c A n ca B m cb, .agg #[.int .i64 (i : Int), .int .i64 (j : Int)], cutV (cut5 c z)] w fun e w' => e = .returned (.tuple #[.int .i64 (riseR c (i, j)), .int .i64 (byR c z (i, j))]) ∧ Below w.heap.size w w' := by
 have hn8 : n ≤ 8 := by have := hok.nh; have := g.hs.len; omega
 have hin : i < n := by rw [← g.hs.len]; exact hi
 have hjn : j < n := by rw [← g.hs.len]; exact hj
 obtain ⟨b, off, x0, rfl, _, _⟩ := Ints.get g.hs hin
 have hxi : c.hts[i]? = some c.hts[i] := List.getElem?_eq_getElem hi
 have hxj : c.hts[j]? = some c.hts[j] := List.getElem?_eq_getElem hj
 obtain ⟨hi0, hhi⟩ : ∃ x, c.hts[i] = x := ⟨_, rfl⟩
 obtain ⟨hj0, hhj⟩ : ∃ x, c.hts[j] = x := ⟨_, rfl⟩
 rw [hhi] at hxi
 rw [hhj] at hxj
 have bi := hok.hts _ (List.mem_of_getElem? hxi)
 have bj := hok.hts _ (List.mem_of_getElem? hxj)
 have bb := hok.base
 obtain ⟨ci0, hci⟩ : ∃ x, (cut5 c z).getD i 0 = x := ⟨_, rfl⟩
 obtain ⟨cj0, hcj⟩ : ∃ x, (cut5 c z).getD j 0 = x := ⟨_, rfl⟩
 have bci := cuts_bd hok hz i
 have bcj := cuts_bd hok hz j
 change 0 ≤ (cut5 c z).getD i 0 ∧ (cut5 c z).getD i 0 ≤ 600000 at bci
 change 0 ≤ (cut5 c z).getD j 0 ∧ (cut5 c z).getD j 0 ≤ 600000 at bcj
 rw [hci] at bci
 rw [hcj] at bcj
 have e1 : riseR c ((i : Int), (j : Int)) = hj0 - hi0 := by unfold riseR; simp only [Int.toNat_natCast]; rw [getD_of hxi, getD_of hxj]
 have e2 : byR c z ((i : Int), (j : Int)) = cj0 - ci0 := by unfold byR; simp only [Int.toNat_natCast]; rw [hci, hcj]
 rw [e1, e2]
 obtain ⟨ri, hri⟩ : ∃ x, hj0 - hi0 = x := ⟨_, rfl⟩
 obtain ⟨by_, hby⟩ : ∃ x, cj0 - ci0 = x := ⟨_, rfl⟩
 have HRI : Hid (IntKind.i64.wrap (hj0 - hi0) = ri) := by rw [Hid, hri, IntKind.wrap_i64]; omega
 have HBY : Hid (IntKind.i64.wrap (cj0 - ci0) = by_) := by rw [Hid, hby, IntKind.wrap_i64]; omega
 rw [hri, hby]
 obtain ⟨v0, v1, v2, v3, v4, v5, v6, v7, hv⟩ := cutV_8 (cut5 c z)
 have hvi : ∀ k, k < 8 → (#[.int .i64 v0, .int .i64 v1, .int .i64 v2, .int .i64 v3, .int .i64 v4, .int .i64 v5, .int .i64 v6, .int .i64 v7] : Array Value)[k]? = some (.int .i64 ((cut5 c z).getD k 0)) := fun k hk => by
  have h := hv
  unfold cutV at h
  injection h with h
  rw [← h, List.getElem?_toArray, List.getElem?_map, List.getElem?_range hk]; rfl
 unfold modelV
 obtain ⟨kd, hkd⟩ : ∃ x, c.kind = x := ⟨_, rfl⟩
 obtain ⟨ba, hba⟩ : ∃ x, c.base = x := ⟨_, rfl⟩
 obtain ⟨mo, hmo⟩ : ∃ x, c.most = x := ⟨_, rfl⟩
 obtain ⟨fr, hfr⟩ : ∃ x, roundF c.kind = x := ⟨_, rfl⟩
 rw [hv, hfr, hkd, hba, hmo]
 obtain ⟨W0, hW⟩ : ∃ W, ((w.alloc (.cells #[.int .i64 kd, .int .i64 ba, .int .i64 mo, .slice (some ⟨b, off, none⟩) n ca, .slice B m cb, .func (.func fr) #[] #[]] 104)).alloc (.cells #[.int .i64 (i : Int), .int .i64 (j : Int)] 72)).alloc (.cells #[.int .i64 v0, .int .i64 v1, .int .i64 v2, .int .i64 v3, .int .i64 v4, .int .i64 v5, .int .i64 v6, .int .i64 v7] 108) = W := ⟨_, rfl⟩
 have X : Blk W0 w.heap.size 104 #[.int .i64 kd, .int .i64 ba, .int .i64 mo, .slice (some ⟨b, off, none⟩) n ca, .slice B m cb, .func (.func fr) #[] #[]] := by rw [← hW]; exact ((Blk.new _ _ _ rfl).alloc _).alloc _
 have Y : Blk W0 (w.heap.size + 1) 72 #[.int .i64 (i : Int), .int .i64 (j : Int)] := by rw [← hW]; exact (Blk.new _ _ _ (by simp)).alloc _
 have Z : Blk W0 (w.heap.size + 1 + 1) 108 #[.int .i64 v0, .int .i64 v1, .int .i64 v2, .int .i64 v3, .int .i64 v4, .int .i64 v5, .int .i64 v6, .int .i64 v7] := by rw [← hW]; exact Blk.new _ _ _ (by simp)
 have hBW : Below w.heap.size w W0 := by rw [← hW]; exact bl_alloc (bl_alloc (bl_alloc (Below.refl _ _) _ (Nat.le_refl _)) _ (Nat.le_refl _)) _ (Nat.le_refl _)
 have kk : Hid (∀ V, Below W0.heap.size W0 V → V.cell? ⟨w.heap.size, 3, none⟩ = some (.slice (some ⟨b, off, none⟩) n ca) ∧ V.cell? ⟨w.heap.size + 1, 0, none⟩ = some (.int .i64 (i : Int)) ∧ V.cell? ⟨w.heap.size + 1, 1, none⟩ = some (.int .i64 (j : Int)) ∧ V.cell? ⟨w.heap.size + 1 + 1, i, none⟩ = some (.int .i64 ci0) ∧ V.cell? ⟨w.heap.size + 1 + 1, j, none⟩ = some (.int .i64 cj0) ∧ V.cell? ⟨b, off + i, none⟩ = some (.int .i64 hi0) ∧ V.cell? ⟨b, off + j, none⟩ = some (.int .i64 hj0)) := fun V hb =>
  ⟨(X.bl hb).cell 3, (Y.bl hb).cell 0, (Y.bl hb).cell 1, ((Z.bl hb).cell i).trans ((hvi i (by omega)).trans (by rw [hci])), ((Z.bl hb).cell j).trans ((hvi j (by omega)).trans (by rw [hcj])), ints_at ((g.bl hBW).bl hb).hs hxi, ints_at ((g.bl hBW).bl hb).hs hxj⟩
 have hii : (i : Int) < n := by omega
 have hji : (j : Int) < n := by omega
 have hi8 : (i : Int) < 8 := by omega
 have hj8 : (j : Int) < 8 := by omega
 have hi8n : i < 8 := by omega
 have hj8n : j < 8 := by omega
 have hlz := Z.lt
 clear g hok hz hi hj hxi hxj hhi hhj bi bj bb hci hcj bci bcj e1 e2 hri hby hv hvi hkd hba hmo hfr X Y Z
 go_enter Tryz.func96, Tryz.ntmps96
 go_wp2_with fail
 clear hW
 refine wp_frame5 ?_
 intro a0 ha0
 have tb3 : a0.tmps[3]? = some (.pointer (some ⟨w.heap.size, 0, none⟩)) := by rw [ha0]; kernel_rfl
 have tb4 : a0.tmps[4]? = some (.pointer (some ⟨w.heap.size + 1, 0, none⟩)) := by rw [ha0]; kernel_rfl
 have tb5 : a0.tmps[5]? = some (.pointer (some ⟨w.heap.size + 1 + 1, 0, none⟩)) := by rw [ha0]; kernel_rfl
 have hsz : a0.tmps.size = 32 := by rw [ha0]; kernel_rfl
 refine wp_region_list (fun W => Below W0.heap.size W0 W) (fun w w' => Below w.heap.size w w')
  [isV (.pointer (some ⟨w.heap.size, 0, none⟩)), isV (.pointer (some ⟨w.heap.size, 3, none⟩)), isV (.slice (some ⟨b, off, none⟩) n ca), isV (.pointer (some ⟨w.heap.size + 1, 1, none⟩)), isV (.int .i64 (j : Int)), isV (.pointer (some ⟨b, off + j, none⟩)), isV (.int .i64 hj0), isV (.pointer (some ⟨w.heap.size, 0, none⟩)), isV (.pointer (some ⟨w.heap.size, 3, none⟩)), isV (.slice (some ⟨b, off, none⟩) n ca), isV (.pointer (some ⟨w.heap.size + 1, 0, none⟩)), isV (.int .i64 (i : Int)), isV (.pointer (some ⟨b, off + i, none⟩)), isV (.int .i64 hi0), isV (.int .i64 ri), isV (.pointer (some ⟨w.heap.size + 1, 1, none⟩)), isV (.int .i64 (j : Int)), isV (.pointer (some ⟨w.heap.size + 1 + 1, j, none⟩)), isV (.int .i64 cj0), isV (.pointer (some ⟨w.heap.size + 1, 0, none⟩)), isV (.int .i64 (i : Int)), isV (.pointer (some ⟨w.heap.size + 1 + 1, i, none⟩)), isV (.int .i64 ci0), isV (.int .i64 by_), isV (.int .i64 ri)]
  (by kernel_rfl) (by kernel_rfl) (by kernel_rfl) (by simp) (by simp) (Below.refl _ _).drew ?stabA ?stepA ?finA
 case stabA => exact (StabL.is (StabL.is (StabL.is (StabL.is (StabL.is (StabL.is (StabL.is (StabL.is (StabL.is (StabL.is (StabL.is (StabL.is (StabL.is (StabL.is (StabL.is (StabL.is (StabL.is (StabL.is (StabL.is (StabL.is (StabL.is (StabL.is (StabL.is (StabL.is (StabL.is StabL.nil)))))))))))))))))))))))))
 case stepA =>
  refine StepsL.isA ?_ (StepsL.isA ?_ (StepsL.isA ?_ (StepsL.isA ?_ (StepsL.isA ?_ (StepsL.isA ?_ (StepsL.isA ?_ (StepsL.isA ?_ (StepsL.isA ?_ (StepsL.isA ?_ (StepsL.isA ?_ (StepsL.isA ?_ (StepsL.isA ?_ (StepsL.isA ?_ (StepsL.isA ?_ (StepsL.isA ?_ (StepsL.isA ?_ (StepsL.isA ?_ (StepsL.isA ?_ (StepsL.isA ?_ (StepsL.isA ?_ (StepsL.isA ?_ (StepsL.isA ?_ (StepsL.isA ?_ (StepsL.isA ?_ StepsL.nil))))))))))))))))))))))))
  all_goals intro vs a W K ha hC hD hU hK
  all_goals try rw [if_pos (by rfl)]
  ·have r3 := fb ha (by kernel_rfl) tb3
   clear ha hU hD ha0
   go_simp
   exact hK _ hC (Below.refl _ _)
  ·have r8 := fq 8 0 ha hsz (by kernel_rfl) (by decide) (hD 0 (by simp [waits, Region.binds]))
   clear ha hU hD ha0
   go_simp
   exact hK _ hC (Below.refl _ _)
  ·have r9 := fq 9 1 ha hsz (by kernel_rfl) (by decide) (hD 1 (by simp [waits, Region.binds]))
   clear ha hU hD ha0
   obtain ⟨y3, r0, r1, ci, cj, hi, hj⟩ := kk.out W hC
   go_simp
   exact hK _ hC (Below.refl _ _)
  ·have r4 := fb ha (by kernel_rfl) tb4
   clear ha hU hD ha0
   go_simp
   exact hK _ hC (Below.refl _ _)
  ·have r11 := fq 11 3 ha hsz (by kernel_rfl) (by decide) (hD 3 (by simp [waits, Region.binds]))
   clear ha hU hD ha0
   obtain ⟨y3, r0, r1, ci, cj, hi, hj⟩ := kk.out W hC
   go_simp
   exact hK _ hC (Below.refl _ _)
  ·have r10 := fq 10 2 ha hsz (by kernel_rfl) (by decide) (hD 2 (by simp [waits, Region.binds]))
   have r12 := fq 12 4 ha hsz (by kernel_rfl) (by decide) (hD 4 (by simp [waits, Region.binds]))
   clear ha hU hD ha0
   go_simp
   exact hK _ hC (Below.refl _ _)
  ·have r13 := fq 13 5 ha hsz (by kernel_rfl) (by decide) (hD 5 (by simp [waits, Region.binds]))
   clear ha hU hD ha0
   obtain ⟨y3, r0, r1, ci, cj, hi, hj⟩ := kk.out W hC
   go_simp
   exact hK _ hC (Below.refl _ _)
  ·have r3 := fb ha (by kernel_rfl) tb3
   clear ha hU hD ha0
   go_simp
   exact hK _ hC (Below.refl _ _)
  ·have r15 := fq 15 7 ha hsz (by kernel_rfl) (by decide) (hD 7 (by simp [waits, Region.binds]))
   clear ha hU hD ha0
   go_simp
   exact hK _ hC (Below.refl _ _)
  ·have r16 := fq 16 8 ha hsz (by kernel_rfl) (by decide) (hD 8 (by simp [waits, Region.binds]))
   clear ha hU hD ha0
   obtain ⟨y3, r0, r1, ci, cj, hi, hj⟩ := kk.out W hC
   go_simp
   exact hK _ hC (Below.refl _ _)
  ·have r4 := fb ha (by kernel_rfl) tb4
   clear ha hU hD ha0
   go_simp
   exact hK _ hC (Below.refl _ _)
  ·have r18 := fq 18 10 ha hsz (by kernel_rfl) (by decide) (hD 10 (by simp [waits, Region.binds]))
   clear ha hU hD ha0
   obtain ⟨y3, r0, r1, ci, cj, hi, hj⟩ := kk.out W hC
   go_simp
   exact hK _ hC (Below.refl _ _)
  ·have r17 := fq 17 9 ha hsz (by kernel_rfl) (by decide) (hD 9 (by simp [waits, Region.binds]))
   have r19 := fq 19 11 ha hsz (by kernel_rfl) (by decide) (hD 11 (by simp [waits, Region.binds]))
   clear ha hU hD ha0
   go_simp
   exact hK _ hC (Below.refl _ _)
  ·have r20 := fq 20 12 ha hsz (by kernel_rfl) (by decide) (hD 12 (by simp [waits, Region.binds]))
   clear ha hU hD ha0
   obtain ⟨y3, r0, r1, ci, cj, hi, hj⟩ := kk.out W hC
   go_simp
   exact hK _ hC (Below.refl _ _)
  ·have r14 := fq 14 6 ha hsz (by kernel_rfl) (by decide) (hD 6 (by simp [waits, Region.binds]))
   have r21 := fq 21 13 ha hsz (by kernel_rfl) (by decide) (hD 13 (by simp [waits, Region.binds]))
   clear ha hU hD ha0
   go_simp
   rw [HRI.out]
   exact hK _ hC (Below.refl _ _)
  ·have r4 := fb ha (by kernel_rfl) tb4
   clear ha hU hD ha0
   go_simp
   exact hK _ hC (Below.refl _ _)
  ·have r23 := fq 23 15 ha hsz (by kernel_rfl) (by decide) (hD 15 (by simp [waits, Region.binds]))
   clear ha hU hD ha0
   obtain ⟨y3, r0, r1, ci, cj, hi, hj⟩ := kk.out W hC
   go_simp
   exact hK _ hC (Below.refl _ _)
  ·have r5 := fb ha (by kernel_rfl) tb5
   have r24 := fq 24 16 ha hsz (by kernel_rfl) (by decide) (hD 16 (by simp [waits, Region.binds]))
   clear ha hU hD ha0
   go_simp
   exact hK _ hC (Below.refl _ _)
  ·have r25 := fq 25 17 ha hsz (by kernel_rfl) (by decide) (hD 17 (by simp [waits, Region.binds]))
   clear ha hU hD ha0
   obtain ⟨y3, r0, r1, ci, cj, hi, hj⟩ := kk.out W hC
   go_simp
   exact hK _ hC (Below.refl _ _)
  ·have r4 := fb ha (by kernel_rfl) tb4
   clear ha hU hD ha0
   go_simp
   exact hK _ hC (Below.refl _ _)
  ·have r27 := fq 27 19 ha hsz (by kernel_rfl) (by decide) (hD 19 (by simp [waits, Region.binds]))
   clear ha hU hD ha0
   obtain ⟨y3, r0, r1, ci, cj, hi, hj⟩ := kk.out W hC
   go_simp
   exact hK _ hC (Below.refl _ _)
  ·have r5 := fb ha (by kernel_rfl) tb5
   have r28 := fq 28 20 ha hsz (by kernel_rfl) (by decide) (hD 20 (by simp [waits, Region.binds]))
   clear ha hU hD ha0
   go_simp
   exact hK _ hC (Below.refl _ _)
  ·have r29 := fq 29 21 ha hsz (by kernel_rfl) (by decide) (hD 21 (by simp [waits, Region.binds]))
   clear ha hU hD ha0
   obtain ⟨y3, r0, r1, ci, cj, hi, hj⟩ := kk.out W hC
   go_simp
   exact hK _ hC (Below.refl _ _)
  ·have r26 := fq 26 18 ha hsz (by kernel_rfl) (by decide) (hD 18 (by simp [waits, Region.binds]))
   have r30 := fq 30 22 ha hsz (by kernel_rfl) (by decide) (hD 22 (by simp [waits, Region.binds]))
   clear ha hU hD ha0
   go_simp
   rw [HBY.out]
   exact hK _ hC (Below.refl _ _)
  have r22 := fq 22 14 ha hsz (by kernel_rfl) (by decide) (hD 14 (by simp [waits, Region.binds]))
  clear ha hU hD ha0
  go_simp
  exact hK _ hC (Below.refl _ _)
 intro vs W hC hE hU
 rw [ha0]
 clear hU hsz tb3 tb4 tb5
 have e22 : vs 24 = .int .i64 ri := hE 24 (by simp)
 have e31 : vs 23 = .int .i64 by_ := hE 23 (by simp)
 simp only [fillA, Act.put, List.setIfInBounds_toArray, List.set_cons_zero, List.set_cons_succ, Nat.zero_add, Nat.reduceAdd, e22, e31]
 generalize vs 0 = u0, vs 1 = u1, vs 2 = u2, vs 3 = u3, vs 4 = u4, vs 5 = u5, vs 6 = u6, vs 7 = u7, vs 8 = u8, vs 9 = u9, vs 10 = u10, vs 11 = u11, vs 12 = u12, vs 13 = u13, vs 14 = u14, vs 15 = u15, vs 16 = u16, vs 17 = u17, vs 18 = u18, vs 19 = u19, vs 20 = u20, vs 21 = u21, vs 22 = u22
 have HBW : Hid (Below w.heap.size w W) := bl_call hBW hC (Nat.le_refl _)
 clear hE e22 e31 hC
 go_simp
 go_wp2
 go_ret2
 exact ⟨rfl, HBW.out⟩
open Go.RowKit Go.Shelf
set_option maxRecDepth 100000 in
set_option maxHeartbeats 4000000 in
theorem soff_any {c : Case5} {A B : Option Addr} {n ca m cb i j : Nat} {z : Nat × Nat} (hok : Ok5 c) (hz : z ∈ scalesN) (hi : i < c.hts.length) (hj : j < c.hts.length) (w : World) (g : CaseAt (fun _ => True) w A n B m c) :
  Calls Tryz.prog 65 #[modelV c A n ca B m cb, .agg #[.int .i64 (i : Int), .int .i64 (j : Int)], .agg #[.int .i64 (z.1 : Int), .int .i64 (z.2 : Int)], cutV (cut5 c z)] w fun e w' => e = .returned (.int .i64 (offR c z (i, j))) ∧ Below w.heap.size w w' := by
 have bri : -9000 ≤ riseR c ((i : Int), (j : Int)) ∧ riseR c ((i : Int), (j : Int)) ≤ 9000 := by
  unfold riseR
  simp only [Int.toNat_natCast]
  have h1 := hok.hts _ (List.getElem_mem hi)
  have h2 := hok.hts _ (List.getElem_mem hj)
  have h3 := hok.base
  rw [getD_of (List.getElem?_eq_getElem hi), getD_of (List.getElem?_eq_getElem hj)]
  omega
 have bby : -600000 ≤ byR c z ((i : Int), (j : Int)) ∧ byR c z ((i : Int), (j : Int)) ≤ 600000 := by
  have h1 := cuts_bd hok hz i
  have h2 := cuts_bd hok hz j
  change 0 ≤ (cut5 c z).getD i 0 ∧ (cut5 c z).getD i 0 ≤ 600000 at h1
  change 0 ≤ (cut5 c z).getD j 0 ∧ (cut5 c z).getD j 0 ≤ 600000 at h2
  unfold byR
  simp only [Int.toNat_natCast]
  omega
 obtain ⟨a1, a2, a3, a4⟩ := scales_bd hz
 have hof : offR c z ((i : Int), (j : Int)) = if riseR c ((i : Int), (j : Int)) = 0 then 0 else (maxAbs (1000 * (z.2 * byR c z ((i : Int), (j : Int)) - z.1 * riseR c ((i : Int), (j : Int)))) + z.1 * maxAbs (riseR c ((i : Int), (j : Int))) - 1).tdiv (z.1 * maxAbs (riseR c ((i : Int), (j : Int)))) := rfl
 obtain ⟨ri, hri⟩ : ∃ x, riseR c ((i : Int), (j : Int)) = x := ⟨_, rfl⟩
 obtain ⟨by_, hby⟩ : ∃ x, byR c z ((i : Int), (j : Int)) = x := ⟨_, rfl⟩
 rw [hri] at bri hof
 rw [hby] at bby hof
 obtain ⟨ov, hov⟩ : ∃ x, offR c z ((i : Int), (j : Int)) = x := ⟨_, rfl⟩
 rw [hov]
 have HRS : Hid (∀ V, Below w.heap.size w V → Calls Tryz.prog 96 #[modelV c A n ca B m cb, .agg #[.int .i64 (i : Int), .int .i64 (j : Int)], cutV (cut5 c z)] V fun e w' => e = .returned (.tuple #[.int .i64 ri, .int .i64 by_]) ∧ Below V.heap.size V w') := fun V hb => by
  rw [← hri, ← hby]
  exact srises_any hok hz hi hj V (g.bl hb)
 obtain ⟨v0, v1, v2, v3, v4, v5, v6, v7, hv⟩ := cutV_8 (cut5 c z)
 obtain ⟨kd, hkd⟩ : ∃ x, c.kind = x := ⟨_, rfl⟩
 obtain ⟨ba, hba⟩ : ∃ x, c.base = x := ⟨_, rfl⟩
 obtain ⟨mo, hmo⟩ : ∃ x, c.most = x := ⟨_, rfl⟩
 obtain ⟨fr, hfr⟩ : ∃ x, roundF c.kind = x := ⟨_, rfl⟩
 have HMV : Hid (modelV c A n ca B m cb = .agg #[.int .i64 kd, .int .i64 ba, .int .i64 mo, .slice A n ca, .slice B m cb, .func (.func fr) #[] #[]]) := by rw [Hid, modelV, hfr, hkd, hba, hmo]
 have HV := Lib.hid hv
 rw [HMV.out, HV.out]
 obtain ⟨za, hza⟩ : ∃ x, z.1 = x := ⟨_, rfl⟩
 obtain ⟨zb, hzb⟩ : ∃ x, z.2 = x := ⟨_, rfl⟩
 rw [hza] at a1 a2
 rw [hzb] at a3 a4
 rw [hza, hzb]
 rw [hza, hzb] at hof
 have HOV := Lib.hid (hof.symm.trans hov)
 obtain ⟨W0, hW⟩ : ∃ W, (((w.alloc (.cells #[.int .i64 kd, .int .i64 ba, .int .i64 mo, .slice A n ca, .slice B m cb, .func (.func fr) #[] #[]] 104)).alloc (.cells #[.int .i64 (i : Int), .int .i64 (j : Int)] 72)).alloc (.cells #[.int .i64 (za : Int), .int .i64 (zb : Int)] 42)).alloc (.cells #[.int .i64 v0, .int .i64 v1, .int .i64 v2, .int .i64 v3, .int .i64 v4, .int .i64 v5, .int .i64 v6, .int .i64 v7] 108) = W := ⟨_, rfl⟩
 have X : Blk W0 w.heap.size 104 #[.int .i64 kd, .int .i64 ba, .int .i64 mo, .slice A n ca, .slice B m cb, .func (.func fr) #[] #[]] := by rw [← hW]; exact (((Blk.new _ _ _ rfl).alloc _).alloc _).alloc _
 have Y : Blk W0 (w.heap.size + 1) 72 #[.int .i64 (i : Int), .int .i64 (j : Int)] := by rw [← hW]; exact ((Blk.new _ _ _ (by simp)).alloc _).alloc _
 have S : Blk W0 (w.heap.size + 1 + 1) 42 #[.int .i64 (za : Int), .int .i64 (zb : Int)] := by rw [← hW]; exact (Blk.new _ _ _ (by simp)).alloc _
 have Z : Blk W0 (w.heap.size + 1 + 1 + 1) 108 #[.int .i64 v0, .int .i64 v1, .int .i64 v2, .int .i64 v3, .int .i64 v4, .int .i64 v5, .int .i64 v6, .int .i64 v7] := by rw [← hW]; exact Blk.new _ _ _ (by simp)
 have hBW : Below w.heap.size w W0 := by rw [← hW]; exact bl_alloc (bl_alloc (bl_alloc (bl_alloc (Below.refl _ _) _ (Nat.le_refl _)) _ (Nat.le_refl _)) _ (Nat.le_refl _)) _ (Nat.le_refl _)
 have kz : Hid (∀ V, Below W0.heap.size W0 V → V.cell? ⟨w.heap.size + 1 + 1, 0, none⟩ = some (.int .i64 (za : Int)) ∧ V.cell? ⟨w.heap.size + 1 + 1, 1, none⟩ = some (.int .i64 (zb : Int))) := fun V hb => ⟨(S.bl hb).cell 0, (S.bl hb).cell 1⟩
 have x0 := X.cell 0
 have x1 := X.cell 1
 have x2 := X.cell 2
 have x3 := X.cell 3
 have x4 := X.cell 4
 have x5 := X.cell 5
 have y0 := Y.cell 0
 have y1 := Y.cell 1
 have c0 := Z.cell 0
 have c1 := Z.cell 1
 have c2 := Z.cell 2
 have c3 := Z.cell 3
 have c4 := Z.cell 4
 have c5 := Z.cell 5
 have c6 := Z.cell 6
 have c7 := Z.cell 7
 clear g hok hz hi hj hri hby hv hkd hba hmo hfr X Y S Z hof hov hza hzb
 go_enter Tryz.func65, Tryz.ntmps65
 go_wp2_with fail
 clear x0 x1 x2 x3 x4 x5 y0 y1 c0 c1 c2 c3 c4 c5 c6 c7 hW
 have hcall := HRS.out W0 hBW
 rw [HMV.out, HV.out] at hcall
 refine hcall.mono ?_
 rintro e V1 ⟨rfl, b1⟩
 have HB1 : Hid (Below w.heap.size w V1) := bl_call hBW b1 (Nat.le_refl _)
 have ks : Hid (∀ V, Below V1.heap.size V1 V → V.cell? ⟨w.heap.size + 1 + 1, 0, none⟩ = some (.int .i64 (za : Int)) ∧ V.cell? ⟨w.heap.size + 1 + 1, 1, none⟩ = some (.int .i64 (zb : Int))) := fun V hb => kz.out V (bl_call b1 hb (Nat.le_refl _))
 clear b1 hcall
 by_cases h0 : ri = 0
 ·subst h0
  go_wp2
  go_ret
  exact ⟨by rw [← HOV.out]; simp, HB1.out⟩
 have h0b : (ri == 0) = false := by simpa using h0
 obtain ⟨m1, hm1⟩ : ∃ x, (zb : Int) * by_ = x := ⟨_, rfl⟩
 obtain ⟨m2, hm2⟩ : ∃ x, (za : Int) * ri = x := ⟨_, rfl⟩
 obtain ⟨m3, hm3⟩ : ∃ x, m1 - m2 = x := ⟨_, rfl⟩
 obtain ⟨nn, hnn⟩ : ∃ x, 1000 * m3 = x := ⟨_, rfl⟩
 obtain ⟨nr, hnr⟩ : ∃ x, -ri = x := ⟨_, rfl⟩
 obtain ⟨mx, hmx⟩ : ∃ x, maxAbs ri = x := ⟨_, rfl⟩
 obtain ⟨dv, hdv⟩ : ∃ x, (za : Int) * mx = x := ⟨_, rfl⟩
 have p1 : -18000000 ≤ m1 ∧ m1 ≤ 18000000 := by
  rcases Int.le_total 0 by_ with h | h
  ·have := mul_bd (a := (zb : Int)) (b := by_) (x := 30) (y := 600000) (by omega) (by omega) h (by omega)
   omega
  have := mul_bd (a := (zb : Int)) (b := -by_) (x := 30) (y := 600000) (by omega) (by omega) (by omega) (by omega)
  rw [Int.mul_neg] at this
  omega
 have p2 : -270000 ≤ m2 ∧ m2 ≤ 270000 := by
  rcases Int.le_total 0 ri with h | h
  ·have := mul_bd (a := (za : Int)) (b := ri) (x := 30) (y := 9000) (by omega) (by omega) h (by omega)
   omega
  have := mul_bd (a := (za : Int)) (b := -ri) (x := 30) (y := 9000) (by omega) (by omega) (by omega) (by omega)
  rw [Int.mul_neg] at this
  omega
 have pm : 1 ≤ mx ∧ mx ≤ 9000 := by rw [← hmx]; unfold maxAbs; omega
 have pd : 1 ≤ dv ∧ dv ≤ 270000 := by
  have h1 := mul_bd (a := (za : Int)) (b := mx) (x := 30) (y := 9000) (by omega) (by omega) (by omega) (by omega)
  have h2 := Int.mul_le_mul (a := 1) (b := 1) (c := (za : Int)) (d := mx) (by omega) (by omega) (by omega) (by omega)
  omega
 obtain ⟨na, hna⟩ : ∃ x, -nn = x := ⟨_, rfl⟩
 obtain ⟨mn, hmn⟩ : ∃ x, maxAbs nn = x := ⟨_, rfl⟩
 have pn : 0 ≤ mn ∧ mn ≤ 20000000000 := by rw [← hmn]; unfold maxAbs; omega
 obtain ⟨t1, ht1⟩ : ∃ x, mn + dv = x := ⟨_, rfl⟩
 obtain ⟨t2, ht2⟩ : ∃ x, t1 - 1 = x := ⟨_, rfl⟩
 obtain ⟨t3, ht3⟩ : ∃ x, t2.tdiv dv = x := ⟨_, rfl⟩
 have p3 : 0 ≤ t3 ∧ t3 ≤ 30000000000 := by
  rw [← ht3, Int.tdiv_eq_ediv_of_nonneg (by omega)]
  exact ⟨Int.ediv_nonneg (by omega) (by omega), Int.le_trans (Int.ediv_le_self dv (by omega)) (by omega)⟩
 have H1 : Hid (IntKind.i64.wrap ((zb : Int) * by_) = m1) := by rw [Hid, hm1, IntKind.wrap_i64]; omega
 have H2 : Hid (IntKind.i64.wrap ((za : Int) * ri) = m2) := by rw [Hid, hm2, IntKind.wrap_i64]; omega
 have H3 : Hid (IntKind.i64.wrap (m1 - m2) = m3) := by rw [Hid, hm3, IntKind.wrap_i64]; omega
 have H4 : Hid (IntKind.i64.wrap (1000 * m3) = nn) := by rw [Hid, hnn, IntKind.wrap_i64]; omega
 have H5 : Hid (IntKind.i64.wrap (-ri) = nr) := by rw [Hid, hnr, IntKind.wrap_i64]; omega
 have H6 : Hid (max ri nr = mx) := by rw [Hid, ← hmx, ← hnr]; rfl
 have H7 : Hid (IntKind.i64.wrap ((za : Int) * mx) = dv) := by rw [Hid, hdv, IntKind.wrap_i64]; omega
 have K1 : Hid (IntKind.i64.wrap (-nn) = na) := by rw [Hid, hna, IntKind.wrap_i64]; omega
 have K2 : Hid (max nn na = mn) := by rw [Hid, ← hmn, ← hna]; rfl
 have K3 : Hid (IntKind.i64.wrap (mn + dv) = t1) := by rw [Hid, ht1, IntKind.wrap_i64]; omega
 have K4 : Hid (IntKind.i64.wrap (t1 - 1) = t2) := by rw [Hid, ht2, IntKind.wrap_i64]; omega
 have K5 : Hid (IntKind.i64.wrap (t2.tdiv dv) = t3) := by rw [Hid, ht3, IntKind.wrap_i64]; omega
 have HDZ : Hid (¬ dv = 0) := by rw [Hid]; omega
 have HFIN : Hid (ov = t3) := by
  have h9 := HOV.out
  rw [if_neg h0, hm1, hm2, hm3, hnn, hmx, hdv, hmn, ht1, ht2, ht3] at h9
  exact h9.symm
 clear p1 p2 pm pd pn p3 hm1 hm2 hm3 hnn hnr hmx hdv hna hmn ht1 ht2 ht3
 go_wp2_with fail
 refine wp_frame5 ?_
 intro a0 ha0
 have tb6 : a0.tmps[6]? = some (.pointer (some ⟨w.heap.size + 1 + 1, 0, none⟩)) := by rw [ha0]; kernel_rfl
 have tb9 : a0.tmps[9]? = some (.int .i64 ri) := by rw [ha0]; kernel_rfl
 have tb10 : a0.tmps[10]? = some (.int .i64 by_) := by rw [ha0]; kernel_rfl
 have hsz : a0.tmps.size = 48 := by rw [ha0]; kernel_rfl
 refine wp_region_list (fun W => Below V1.heap.size V1 W) (fun w w' => Below w.heap.size w w')
  [isV (.pointer (some ⟨w.heap.size + 1 + 1, 1, none⟩)), isV (.int .i64 (zb : Int)), isV (.int .i64 by_), isV (.int .i64 m1), isV (.pointer (some ⟨w.heap.size + 1 + 1, 0, none⟩)), isV (.int .i64 (za : Int)), isV (.int .i64 ri), isV (.int .i64 m2), isV (.int .i64 m3), isV (.int .i64 nn), isV (.pointer (some ⟨w.heap.size + 1 + 1, 0, none⟩)), isV (.int .i64 (za : Int)), isV (.int .i64 ri), isV (.int .i64 ri), isV (.int .i64 nr), isV (.int .i64 mx), isV (.int .i64 dv), isV (.int .i64 nn)]
  (by kernel_rfl) (by kernel_rfl) (by kernel_rfl) (by simp) (by simp) (Below.refl _ _).drew ?stabA ?stepA ?finA
 case stabA => exact (StabL.is (StabL.is (StabL.is (StabL.is (StabL.is (StabL.is (StabL.is (StabL.is (StabL.is (StabL.is (StabL.is (StabL.is (StabL.is (StabL.is (StabL.is (StabL.is (StabL.is (StabL.is StabL.nil))))))))))))))))))
 case stepA =>
  refine StepsL.isA ?_ (StepsL.isA ?_ (StepsL.isA ?_ (StepsL.isA ?_ (StepsL.isA ?_ (StepsL.isA ?_ (StepsL.isA ?_ (StepsL.isA ?_ (StepsL.isA ?_ (StepsL.isA ?_ (StepsL.isA ?_ (StepsL.isA ?_ (StepsL.isA ?_ (StepsL.isA ?_ (StepsL.isA ?_ (StepsL.isA ?_ (StepsL.isA ?_ (StepsL.isA ?_ StepsL.nil)))))))))))))))))
  all_goals intro vs a W K ha hC hD hU hK
  all_goals try rw [if_pos (by rfl)]
  ·have r6 := fb ha (by kernel_rfl) tb6
   clear ha hU hD ha0
   go_simp
   exact hK _ hC (Below.refl _ _)
  ·have r22 := fq 22 0 ha hsz (by kernel_rfl) (by decide) (hD 0 (by simp [waits, Region.binds]))
   clear ha hU hD ha0
   obtain ⟨s0, s1⟩ := ks.out W hC
   go_simp
   exact hK _ hC (Below.refl _ _)
  ·have r10 := fb ha (by kernel_rfl) tb10
   clear ha hU hD ha0
   go_simp
   exact hK _ hC (Below.refl _ _)
  ·have r23 := fq 23 1 ha hsz (by kernel_rfl) (by decide) (hD 1 (by simp [waits, Region.binds]))
   have r24 := fq 24 2 ha hsz (by kernel_rfl) (by decide) (hD 2 (by simp [waits, Region.binds]))
   clear ha hU hD ha0
   go_simp
   rw [H1.out]
   exact hK _ hC (Below.refl _ _)
  ·have r6 := fb ha (by kernel_rfl) tb6
   clear ha hU hD ha0
   go_simp
   exact hK _ hC (Below.refl _ _)
  ·have r26 := fq 26 4 ha hsz (by kernel_rfl) (by decide) (hD 4 (by simp [waits, Region.binds]))
   clear ha hU hD ha0
   obtain ⟨s0, s1⟩ := ks.out W hC
   go_simp
   exact hK _ hC (Below.refl _ _)
  ·have r9 := fb ha (by kernel_rfl) tb9
   clear ha hU hD ha0
   go_simp
   exact hK _ hC (Below.refl _ _)
  ·have r27 := fq 27 5 ha hsz (by kernel_rfl) (by decide) (hD 5 (by simp [waits, Region.binds]))
   have r28 := fq 28 6 ha hsz (by kernel_rfl) (by decide) (hD 6 (by simp [waits, Region.binds]))
   clear ha hU hD ha0
   go_simp
   rw [H2.out]
   exact hK _ hC (Below.refl _ _)
  ·have r25 := fq 25 3 ha hsz (by kernel_rfl) (by decide) (hD 3 (by simp [waits, Region.binds]))
   have r29 := fq 29 7 ha hsz (by kernel_rfl) (by decide) (hD 7 (by simp [waits, Region.binds]))
   clear ha hU hD ha0
   go_simp
   rw [H3.out]
   exact hK _ hC (Below.refl _ _)
  ·have r30 := fq 30 8 ha hsz (by kernel_rfl) (by decide) (hD 8 (by simp [waits, Region.binds]))
   clear ha hU hD ha0
   go_simp
   rw [H4.out]
   exact hK _ hC (Below.refl _ _)
  ·have r6 := fb ha (by kernel_rfl) tb6
   clear ha hU hD ha0
   go_simp
   exact hK _ hC (Below.refl _ _)
  ·have r32 := fq 32 10 ha hsz (by kernel_rfl) (by decide) (hD 10 (by simp [waits, Region.binds]))
   clear ha hU hD ha0
   obtain ⟨s0, s1⟩ := ks.out W hC
   go_simp
   exact hK _ hC (Below.refl _ _)
  ·have r9 := fb ha (by kernel_rfl) tb9
   clear ha hU hD ha0
   go_simp
   exact hK _ hC (Below.refl _ _)
  ·have r9 := fb ha (by kernel_rfl) tb9
   clear ha hU hD ha0
   go_simp
   exact hK _ hC (Below.refl _ _)
  ·have r35 := fq 35 13 ha hsz (by kernel_rfl) (by decide) (hD 13 (by simp [waits, Region.binds]))
   clear ha hU hD ha0
   go_simp
   rw [H5.out]
   exact hK _ hC (Below.refl _ _)
  ·have r34 := fq 34 12 ha hsz (by kernel_rfl) (by decide) (hD 12 (by simp [waits, Region.binds]))
   have r36 := fq 36 14 ha hsz (by kernel_rfl) (by decide) (hD 14 (by simp [waits, Region.binds]))
   clear ha hU hD ha0
   go_simp
   rw [H6.out]
   exact hK _ hC (Below.refl _ _)
  ·have r33 := fq 33 11 ha hsz (by kernel_rfl) (by decide) (hD 11 (by simp [waits, Region.binds]))
   have r37 := fq 37 15 ha hsz (by kernel_rfl) (by decide) (hD 15 (by simp [waits, Region.binds]))
   clear ha hU hD ha0
   go_simp
   rw [H7.out]
   exact hK _ hC (Below.refl _ _)
  have r31 := fq 31 9 ha hsz (by kernel_rfl) (by decide) (hD 9 (by simp [waits, Region.binds]))
  clear ha hU hD ha0
  go_simp
  exact hK _ hC (Below.refl _ _)
 intro vs W hC hE hU
 rw [ha0]
 clear hU hsz tb6 tb9 tb10
 have e11 : vs 17 = .int .i64 nn := hE 17 (by simp)
 have e38 : vs 16 = .int .i64 dv := hE 16 (by simp)
 simp only [fillA, Act.put, List.setIfInBounds_toArray, List.set_cons_zero, List.set_cons_succ, Nat.zero_add, Nat.reduceAdd, e11, e38]
 generalize vs 0 = u0, vs 1 = u1, vs 2 = u2, vs 3 = u3, vs 4 = u4, vs 5 = u5, vs 6 = u6, vs 7 = u7, vs 8 = u8, vs 9 = u9, vs 10 = u10, vs 11 = u11, vs 12 = u12, vs 13 = u13, vs 14 = u14, vs 15 = u15
 have HBW : Hid (Below w.heap.size w W) := bl_call HB1.out hC (Nat.le_refl _)
 clear hE e11 e38 hC
 have k1 := K1.out
 have k2 := K2.out
 have k3 := K3.out
 have k4 := K4.out
 have k5 := K5.out
 have hdz := HDZ.out
 have hdzb : (dv == 0) = false := by simpa using hdz
 go_simp
 go_wp2
 go_ret
 exact ⟨by rw [HFIN.out]; rfl, HBW.out⟩
end Go.Proofs.YtcnebekkbfajbaaGreat
