/- A part of the proof that TopWorn always answers true. -/
import Derived.Test.YtdbfincinjoppabGreatDoorCRegion8
set_option linter.all false
namespace Go.Proofs.YtdbfincinjoppabGreatDoor
open Go.RowKit Go.Shelf
attribute [local go_sem] Oper.semAt_some
noncomputable def kentBody : Code × Code := (Tryz.f34.body.bind firstRF).getD (.skip, .skip)
noncomputable def kentLoop : Code := (firstLoopC kentBody.2).getD .skip
noncomputable def kentIn : Code × Code := (firstRF kentLoop).getD (.skip, .skip)
theorem eqk_span (a b : Int) (w : World) : (Op.equalIn 10000 23 (.agg #[.int .i64 a, .int .i64 b]) (.agg #[.int .i64 0, .int .i64 0])).run Tryz.prog w = .ok (decide (a = 0 ∧ b = 0)) w := by
 rw [show (10000 : Nat) = 9999 + 1 from rfl, Op.equalIn]
 simp only [Sem.run_bind, run_underlying Tryz.underlying23, Result.andThen_ok]
 by_cases h1 : a = 0
 ·by_cases h2 : b = 0
  ·subst h1; subst h2; go_simp
  have h2b : (b == 0) = false := by simpa using h2
  subst h1
  go_simp
 have h1b : (a == 0) = false := by simpa using h1
 go_simp
def KentJ (gw gm : Nat) (G : List (Int × Int) → Nat → Int × Int) (L : List (Int × Int)) (i : Nat) (O : Foot) (A : World) : Prop :=
 O = (fun k => k = gw ∨ k = gm) ∧ Blk A gw 88 (cellsS (G (L.take i))) ∧ Blk A gm 4 #[.bool (decide (0 < i))]
theorem KentJ.stay {gw gm : Nat} {G : List (Int × Int) → Nat → Int × Int} {L : List (Int × Int)} {i : Nat} {O : Foot} {A B : World} (h : KentJ gw gm G L i O A) (hK : Kept (fun k => ¬ O k) A B) : KentJ gw gm G L i O B := by
 obtain ⟨rfl, h1, h2⟩ := h
 exact ⟨rfl, (hK.block _ h1.lt (fun h => h (.inl rfl))).trans h1, (hK.block _ h2.lt (fun h => h (.inr rfl))).trans h2⟩
set_option maxRecDepth 100000 in
set_option maxHeartbeats 8000000 in
theorem kent_round {n l0 gw gm g11 g12 m : Nat} {s : Shop} {l : List SeenC} {ks : List Int} {k cs : Int} (hok : OkS s) (hm : m < s.moulds.length) (hks : ∀ k ∈ ks, k ∈ shrinkL s) (hkk : 0 ≤ k ∧ k ≤ 100) (hcs : (castsN s m : Int) = cs) (hne : gw ≠ gm) (L : List (Int × Int)) (hL : ∀ p ∈ L, (1 ≤ p.1 ∧ p.1 ≤ 20000) ∧ 0 ≤ p.2 ∧ p.2 ≤ 20) (O0 : Foot) (W0 : World)
  (h11 : W0.cell? ⟨g11, 0, none⟩ = some (.int .i64 m)) (h12 : W0.cell? ⟨g12, 5, none⟩ = some (.int .i64 cs)) (n11 : ¬ O0 g11) (n12 : ¬ O0 g12) (u : Nat → Value) :
  RoundOf (Fence.wide.inRound l0) n 1 Tryz.prog #[50] kentIn.1 kentIn.2 #[u 0, u 1, u 2, u 3, u 4, u 5, u 6, u 7, u 8, u 9, .pointer (some ⟨gw, 0, none⟩), .pointer (some ⟨g11, 0, none⟩), .pointer (some ⟨g12, 0, none⟩), .pointer (some ⟨gm, 0, none⟩), u 14, u 15, u 16, u 17, u 18, u 19, u 20, u 21, u 22, u 23, u 24, u 25, u 26, u 27, u 28, u 29, u 30, u 31, u 32, u 33, u 34, u 35, u 36, u 37, u 38, u 39, u 40, u 41, u 42, u 43, u 44, u 45, u 46, u 47, u 48, u 49, u 50, u 51, u 52, u 53, u 54, u 55, u 56, u 57, u 58, u 59, u 60, u 61, u 62, u 63, u 64, u 65, u 66, u 67, u 68, u 69, u 70, u 71, u 72, u 73, u 74, u 75, u 76, u 77, u 78, u 79, u 80, u 81, u 82, u 83, u 84, u 85, u 86, u 87, u 88, u 89, u 90, u 91, u 92, u 93, u 94, u 95, u 96, u 97, u 98, u 99, u 100, u 101, u 102, u 103, u 104, u 105, u 106] O0 W0 (KentJ gw gm (sizeT s l ks k m) L) (fun _ _ _ => False) (fun p : Int × Int => #[.agg #[.int .i64 p.1, .int .i64 p.2, .int .i64 k]]) L := by
 intro l' i x O A hx ⟨hOe, h1, h2⟩ hlt hsub hK hnl hlA hWl
 obtain ⟨a, w⟩ := x
 obtain ⟨ga, gb⟩ := hL _ (List.mem_of_getElem? hx)
 dsimp only at ga gb
 have HX := Lib.hid hx
 have l11 := World.block_lt_of_cell? _ _ h11
 have l12 := World.block_lt_of_cell? _ _ h12
 dsimp only at l11 l12
 rw [fold1]
 simp only [List.setIfInBounds_toArray, List.set_cons_zero, List.set_cons_succ]
 conv => arg 4; whnf
 gi_wp2
 refine ⟨Kept.alloc _ _ _, fun A2 hK2 hs2 _ => ?_⟩
 conv => arg 4; whnf
 simp only [World.size_alloc] at hs2
 have hOw : O gw := by rw [hOe]; exact .inl rfl
 have hOm : O gm := by rw [hOe]; exact .inr rfl
 have kA : Kept (fun k => k = l') A A2 := (Kept.alloc (fun k => k = l') A (.cells #[.int .i64 a, .int .i64 w, .int .i64 k] 137)).trans hK2
 have H1 : Blk A2 gw 88 (cellsS (sizeT s l ks k m (L.take i))) := (kA.block _ h1.lt (fun h => hnl (h ▸ hOw))).trans h1
 have H2 : Blk A2 gm 4 #[.bool (decide (0 < i))] := (kA.block _ h2.lt (fun h => hnl (h ▸ hOm))).trans h2
 obtain ⟨gt, hgt⟩ : ∃ g, A.heap.size = g := ⟨_, rfl⟩
 rw [hgt]
 have HT : Blk A2 gt 137 #[.int .i64 a, .int .i64 w, .int .i64 k] := by rw [← hgt]; exact (hK2.block A.heap.size (by simp) (by omega)).trans (Blk.new _ _ _ rfl)
 have hgw := h1.lt
 have hgm := h2.lt
 have hA0 := hK.size
 have z11 : A2.cell? ⟨g11, 0, none⟩ = some (.int .i64 m) := kA.cell (hK.cell h11 (fun h => h.elim n11 (fun h => by dsimp only at h; omega))) (fun h => by dsimp only at h; omega)
 have z12 : A2.cell? ⟨g12, 5, none⟩ = some (.int .i64 cs) := kA.cell (hK.cell h12 (fun h => h.elim n12 (fun h => by dsimp only at h; omega))) (fun h => by dsimp only at h; omega)
 have hn11 : g11 ≠ gw ∧ g11 ≠ gm := ⟨fun e => (hsub gw hOw).elim (fun h => n11 (e ▸ h)) (fun h => by omega), fun e => (hsub gm hOm).elim (fun h => n11 (e ▸ h)) (fun h => by omega)⟩
 have hn12 : g12 ≠ gw ∧ g12 ≠ gm := ⟨fun e => (hsub gw hOw).elim (fun h => n12 (e ▸ h)) (fun h => by omega), fun e => (hsub gm hOm).elim (fun h => n12 (e ▸ h)) (fun h => by omega)⟩
 have hngt : gt ≠ gw ∧ gt ≠ gm := ⟨by omega, by omega⟩
 obtain ⟨f0, hf0⟩ : ∃ f0 : Nat → Int × Int, sizeT s l ks k m (L.take i) = f0 := ⟨_, rfl⟩
 obtain ⟨f1, hf1⟩ : ∃ f1 : Nat → Int × Int, sizeT s l ks k m (L.take (i + 1)) = f1 := ⟨_, rfl⟩
 rw [hf0] at H1
 have HFS : Hid (∀ j : Nat, j < castsN s m → f1 (m * 8 + j) = (min (if f0 (m * 8 + j) = (0, 0) then (made7 a w (j : Int) k, made7 a w (j : Int) k) else f0 (m * 8 + j)).1 (made7 a w (j : Int) k), max (if f0 (m * 8 + j) = (0, 0) then (made7 a w (j : Int) k, made7 a w (j : Int) k) else f0 (m * 8 + j)).2 (made7 a w (j : Int) k))) := fun j hj => by
  rw [← hf1, ← hf0, take_snoc_get HX.out]
  exact sizeT_step (p := (a, w)) hok hm hks hkk (fun p hp => hL p (List.mem_of_mem_take hp)) hj
 have hcb := castsN_bd hok hm
 have hm4 : m < 4 := by have := hok.nm; omega
 have HF1 := Lib.hid hf1
 have HF0 := Lib.hid hf0
 have HOE := Lib.hid hOe
 obtain ⟨A3, hA3⟩ : ∃ V, A2.setCell ⟨gm, 0, none⟩ (.bool true) = V := ⟨_, rfl⟩
 have k23 : Kept (fun k => k = gm) A2 A3 := by rw [← hA3]; exact Kept.setCell _ _ _ rfl
 have H3w : Blk A3 gw 88 (cellsS f0) := (k23.block _ H1.lt hne).trans H1
 have H3m : Blk A3 gm 4 #[.bool true] := by rw [← hA3]; exact H2.set_ 0 _
 have H3t : Blk A3 gt 137 #[.int .i64 a, .int .i64 w, .int .i64 k] := (k23.block _ HT.lt hngt.2).trans HT
 have x11 : A3.cell? ⟨g11, 0, none⟩ = some (.int .i64 m) := k23.cell z11 hn11.2
 have x12 : A3.cell? ⟨g12, 5, none⟩ = some (.int .i64 cs) := k23.cell z12 hn12.2
 have HG1 : Hid (Kept O A2 A3) := k23.mono fun k _ h => h ▸ hOm
 have fr := H2.frozen 0
 have fc := H2.cell 0
 have fl := H2.lt
 have hsA : A3.heap.size = A2.heap.size := by rw [← hA3]; simp
 have hlt3 : g11 < A3.heap.size ∧ g12 < A3.heap.size ∧ gt < A3.heap.size ∧ gw < A3.heap.size ∧ gm < A3.heap.size := ⟨by omega, by omega, H3t.lt, H3w.lt, H3m.lt⟩
 clear hx h1 h2 hK2 hf0 hf1 hOe kA H1 H2 HT z11 z12 k23 hs2 hK h11 h12 hgt hsub hlt
 gi_wp2_with fail
 clear fr fc fl hA3 hsA
 gi_loopw [15, 16, 53] (fun _ _ i' wr => ∃ j : Nat, i' = .int .i64 j ∧ j ≤ castsN s m ∧ Hid (Kept (fun k => k = gw) A3 wr) ∧ Hid (Blk wr gw 88 (cellsS (mixF f1 f0 (m * 8 + j))))) (fun _ _ i' _ => castsN s m - (intOf i').toNat)
 case atStart => exact ⟨0, rfl, by omega, Kept.refl _ _, by
  rw [Hid, Nat.add_zero, ← HF1.out, ← HF0.out, mixF_start, HF0.out]; exact H3w⟩
 case round =>
  obtain ⟨j, rfl, hj, HK3, HB⟩ := hrel
  have hsr := HK3.out.size
  by_cases hlt : j < castsN s m
  ·have hji : (j : Int) < cs := by omega
   have hj8 : (j : Int) < 8 := by omega
   have hmi : (m : Int) < 4 := by omega
   have hix : m * 8 + j < 32 := by omega
   have y11 := HK3.out.cell x11 hn11.1
   have HTr : Hid (Blk wr gt 137 #[.int .i64 a, .int .i64 w, .int .i64 k]) := (HK3.out.block _ H3t.lt hngt.1).trans H3t
   obtain ⟨z1, z2, hz⟩ : ∃ z1 z2, f0 (m * 8 + j) = (z1, z2) := ⟨_, _, rfl⟩
   have HZ := Lib.hid hz
   obtain ⟨md, hmd⟩ : ∃ x, made7 a w (j : Int) k = x := ⟨_, rfl⟩
   have HMD := Lib.hid hmd
   have hmdp : 1 ≤ md := by rw [← hmd]; exact (made7_bd ga gb (by omega) hkk).2.2.2.2.1
   have q0 := HB.out.cell ((m * 8 + j) * 2)
   have q1 := HB.out.cell ((m * 8 + j) * 2 + 1)
   rw [cellsS_lo _ hix, mixF_at, hz] at q0
   rw [cellsS_hi _ hix, mixF_at, hz] at q1
   rw [show (m * 8 + j) * 2 = m * 16 + j * 2 by omega] at q0 q1
   dsimp only at q0 q1
   obtain ⟨B1, hB1⟩ : ∃ V, wr.alloc (.cells #[.int .i64 z1, .int .i64 z2] 23) = V := ⟨_, rfl⟩
   obtain ⟨gz, hgz⟩ : ∃ g, wr.heap.size = g := ⟨_, rfl⟩
   have bB1 : Below wr.heap.size wr B1 := by rw [← hB1]; exact bl_alloc (Below.refl _ _) _ (Nat.le_refl _)
   have HZ1 : Hid (Blk B1 gz 23 #[.int .i64 z1, .int .i64 z2]) := by rw [Hid, ← hB1, ← hgz]; exact Blk.new _ _ _ rfl
   have HW1 : Hid (Blk B1 gw 88 (cellsS (mixF f1 f0 (m * 8 + j)))) := HB.out.bl bB1
   have HT1 : Hid (Blk B1 gt 137 #[.int .i64 a, .int .i64 w, .int .i64 k]) := HTr.out.bl bB1
   have H111 : Hid (B1.cell? ⟨g11, 0, none⟩ = some (.int .i64 m)) := getc bB1 y11
   have HK1 : Hid (Kept (fun k => k = gw) A3 B1) := HK3.out.trans (Kept.of_bl bB1)
   have w0 := HZ1.out.cell 0
   have w1 := HZ1.out.cell 1
   have hgwz : gw ≠ gz := by have := HB.out.lt; omega
   have hgtz : gt ≠ gz := by have := HTr.out.lt; omega
   have hg11z : g11 ≠ gz := by omega
   have hA3z : A3.heap.size ≤ gz := by omega
   have lw := HB.out.lt
   have l11' : g11 < wr.heap.size := by omega
   clear hz hmd bB1 HTr HB HK3
   by_cases hz0 : z1 = 0 ∧ z2 = 0
   ·have heq : ∀ W, (Op.equalIn 10000 23 (.agg #[.int .i64 z1, .int .i64 z2]) (.agg #[.int .i64 0, .int .i64 0])).run Tryz.prog W = .ok true W := fun W => by rw [eqk_span, decide_eq_true hz0]
    have HF : Hid (f1 (m * 8 + j) = (md, md)) := by rw [Hid, HFS.out j hlt, HZ.out, HMD.out, if_pos (by rw [hz0.1, hz0.2])]; simp
    clear hz0
    gi_wp2_with fail
    clear w0 w1 heq q0 q1 y11 hB1 hgz lw
    have kt : Hid (∀ V, Below B1.heap.size B1 V → V.cell? ⟨gt, 0, none⟩ = some (.int .i64 a) ∧ V.cell? ⟨gt, 1, none⟩ = some (.int .i64 w) ∧ V.cell? ⟨gt, 2, none⟩ = some (.int .i64 k)) :=
     fun V hb => ⟨(HT1.out.bl hb).cell 0, (HT1.out.bl hb).cell 1, (HT1.out.bl hb).cell 2⟩
    refine wpIn_region_list1 (F := Fence.wide.inRound l') (r := some l') rfl (fun W => Below B1.heap.size B1 W) (fun w w' => Below w.heap.size w w')
     [isV (.agg #[.int .i64 a, .int .i64 w, .int .i64 k]), isV (.int .i64 j), isV (.int .i64 md), isV (.agg #[.int .i64 a, .int .i64 w, .int .i64 k]), isV (.int .i64 j), isV (.int .i64 md), isV (.agg #[.int .i64 md, .int .i64 md])]
     (by kernel_rfl) (by kernel_rfl) (by kernel_rfl) (by simp) (by simp) (Below.refl _ _).drew ?stab ?step ?fin
    case stab => exact (StabL.is (StabL.is (StabL.is (StabL.is (StabL.is (StabL.is (StabL.is StabL.nil)))))))
    case step =>
     refine StepsL.is ?_ (StepsL.is ?_ (StepsL.is ?_ (StepsL.is ?_ (StepsL.is ?_ (StepsL.is ?_ (StepsL.is ?_ StepsL.nil))))))
     all_goals
      intro vs W K hC hD hU hK
      simp only [fillA, Act.put, List.setIfInBounds_toArray, List.set_cons_zero, List.set_cons_succ, Nat.zero_add, Nat.reduceAdd] at hK ⊢
      simp [waits, Region.binds] at hD
      try simp only [envOf, List.getD_cons_succ, List.getD_cons_zero, isV] at hD
      try simp only [hD] at hK ⊢
     ·obtain ⟨x3, x4, x5⟩ := kt.out W hC
      go_simp; exact hK _ hC (Below.refl _ _)
     ·go_simp; exact hK _ hC (Below.refl _ _)
     ·go_simp
      refine (kmade_any ga gb (by omega) hkk W).mono ?_
      rintro e w' ⟨rfl, hb⟩
      rw [HMD.out]
      exact hK _ (bl_call hC hb (Nat.le_refl _)) hb
     ·obtain ⟨x3, x4, x5⟩ := kt.out W hC
      go_simp; exact hK _ hC (Below.refl _ _)
     ·go_simp; exact hK _ hC (Below.refl _ _)
     ·go_simp
      refine (kmade_any ga gb (by omega) hkk W).mono ?_
      rintro e w' ⟨rfl, hb⟩
      rw [HMD.out]
      exact hK _ (bl_call hC hb (Nat.le_refl _)) hb
     go_simp; exact hK _ hC (Below.refl _ _)
    case fin =>
     intro vs W hC hE hU
     have e6 := hE 6 (by simp)
     simp only [envOf, List.getD_cons_succ, List.getD_cons_zero, isV] at e6
     have hZ4 := HZ1.out.bl hC
     have k1 := hZ4.cell 0
     have k2 := hZ4.cell 1
     have fr0 := hZ4.frozen 0
     have fr1 := hZ4.frozen 1
     have hgl := hZ4.lt
     simp only [fillA, Act.put, List.setIfInBounds_toArray, List.set_cons_zero, List.set_cons_succ, Nat.zero_add, Nat.reduceAdd, e6]
     clear e6 hE hU
     generalize vs 0 = u0, vs 1 = u1, vs 2 = u2, vs 3 = u3, vs 4 = u4, vs 5 = u5
     obtain ⟨B2, hB2⟩ : ∃ V, (W.setCell ⟨gz, 0, none⟩ (.int .i64 md)).setCell ⟨gz, 1, none⟩ (.int .i64 md) = V := ⟨_, rfl⟩
     have kz : Kept (fun k => k = gz) W B2 := by rw [← hB2]; exact (Kept.setCell (M := fun k => k = gz) _ _ _ rfl).trans (Kept.setCell _ _ _ rfl)
     have HZV : Hid (Blk B2 gz 23 #[.int .i64 md, .int .i64 md]) := by rw [Hid, ← hB2]; exact (hZ4.set_ 0 _).set_ 1 _
     have HWV : Hid (Blk B2 gw 88 (cellsS (mixF f1 f0 (m * 8 + j)))) := (kz.block _ (HW1.out.bl hC).lt hgwz).trans (HW1.out.bl hC)
     have HTV : Hid (Blk B2 gt 137 #[.int .i64 a, .int .i64 w, .int .i64 k]) := (kz.block _ (HT1.out.bl hC).lt hgtz).trans (HT1.out.bl hC)
     have HMV : Hid (B2.cell? ⟨g11, 0, none⟩ = some (.int .i64 m)) := kz.cell (getc hC H111.out) hg11z
     have HKV : Hid (Kept (fun k => k = gw) A3 B2) := (HK1.out.trans (Kept.of_bl hC)).seq kz (fun i hi h => by omega)
     clear hC hZ4 kz
     simp [Region.wanted, yielded]
     go_simp
     gi_wp2_with fail
     clear k1 k2 fr0 fr1 hgl hB2
     have kk : Hid (∀ V, Below B2.heap.size B2 V → V.cell? ⟨g11, 0, none⟩ = some (.int .i64 m) ∧ V.cell? ⟨gz, 0, none⟩ = some (.int .i64 md) ∧ V.cell? ⟨gz, 1, none⟩ = some (.int .i64 md) ∧ V.cell? ⟨gt, 0, none⟩ = some (.int .i64 a) ∧ V.cell? ⟨gt, 1, none⟩ = some (.int .i64 w) ∧ V.cell? ⟨gt, 2, none⟩ = some (.int .i64 k)) :=
      fun V hb => ⟨getc hb HMV.out, (HZV.out.bl hb).cell 0, (HZV.out.bl hb).cell 1, (HTV.out.bl hb).cell 0, (HTV.out.bl hb).cell 1, (HTV.out.bl hb).cell 2⟩
     refine wpIn_region_list1 (F := Fence.wide.inRound l') (r := some l') rfl (fun W => Below B2.heap.size B2 W) (fun w w' => Below w.heap.size w w')
      [isV (.int .i64 m), isV (.int .i64 j), isV (.pointer (some ⟨gz, 0, none⟩)), isV (.int .i64 md), isV (.agg #[.int .i64 a, .int .i64 w, .int .i64 k]), isV (.int .i64 j), isV (.int .i64 md), isV (.int .i64 md), isV (.pointer (some ⟨gz, 1, none⟩)), isV (.int .i64 md), isV (.agg #[.int .i64 a, .int .i64 w, .int .i64 k]), isV (.int .i64 j), isV (.int .i64 md), isV (.int .i64 md), isV (.agg #[.int .i64 md, .int .i64 md]), isV (.pointer (some ⟨gw, m * 16, none⟩)), isV (.pointer (some ⟨gw, m * 16 + j * 2, none⟩))]
      (by kernel_rfl) (by kernel_rfl) (by kernel_rfl) (by simp) (by simp) (Below.refl _ _).drew ?stab ?step ?fin
     case stab => exact (StabL.is (StabL.is (StabL.is (StabL.is (StabL.is (StabL.is (StabL.is (StabL.is (StabL.is (StabL.is (StabL.is (StabL.is (StabL.is (StabL.is (StabL.is (StabL.is (StabL.is StabL.nil)))))))))))))))))
     case step =>
      refine StepsL.is ?_ (StepsL.is ?_ (StepsL.is ?_ (StepsL.is ?_ (StepsL.is ?_ (StepsL.is ?_ (StepsL.is ?_ (StepsL.is ?_ (StepsL.is ?_ (StepsL.is ?_ (StepsL.is ?_ (StepsL.is ?_ (StepsL.is ?_ (StepsL.is ?_ (StepsL.is ?_ (StepsL.is ?_ (StepsL.is ?_ StepsL.nil))))))))))))))))
      all_goals
       intro vs W K hC hD hU hK
       simp only [fillA, Act.put, List.setIfInBounds_toArray, List.set_cons_zero, List.set_cons_succ, Nat.zero_add, Nat.reduceAdd] at hK ⊢
       simp [waits, Region.binds] at hD
       try simp only [envOf, List.getD_cons_succ, List.getD_cons_zero, isV] at hD
       try simp only [hD] at hK ⊢
      ·obtain ⟨x0, x1, x2, x3, x4, x5⟩ := kk.out W hC
       go_simp; exact hK _ hC (Below.refl _ _)
      ·go_simp; exact hK _ hC (Below.refl _ _)
      ·go_simp; exact hK _ hC (Below.refl _ _)
      ·obtain ⟨x0, x1, x2, x3, x4, x5⟩ := kk.out W hC
       go_simp; exact hK _ hC (Below.refl _ _)
      ·obtain ⟨x0, x1, x2, x3, x4, x5⟩ := kk.out W hC
       go_simp; exact hK _ hC (Below.refl _ _)
      ·go_simp; exact hK _ hC (Below.refl _ _)
      ·go_simp
       refine (kmade_any ga gb (by omega) hkk W).mono ?_
       rintro e w' ⟨rfl, hb⟩
       rw [HMD.out]
       exact hK _ (bl_call hC hb (Nat.le_refl _)) hb
      ·go_simp; exact hK _ hC (Below.refl _ _)
      ·go_simp; exact hK _ hC (Below.refl _ _)
      ·obtain ⟨x0, x1, x2, x3, x4, x5⟩ := kk.out W hC
       go_simp; exact hK _ hC (Below.refl _ _)
      ·obtain ⟨x0, x1, x2, x3, x4, x5⟩ := kk.out W hC
       go_simp; exact hK _ hC (Below.refl _ _)
      ·go_simp; exact hK _ hC (Below.refl _ _)
      ·go_simp
       refine (kmade_any ga gb (by omega) hkk W).mono ?_
       rintro e w' ⟨rfl, hb⟩
       rw [HMD.out]
       exact hK _ (bl_call hC hb (Nat.le_refl _)) hb
      ·go_simp; exact hK _ hC (Below.refl _ _)
      ·go_simp; exact hK _ hC (Below.refl _ _)
      ·go_simp; exact hK _ hC (Below.refl _ _)
      go_simp; exact hK _ hC (Below.refl _ _)
     case fin =>
      intro vs W hC hE hU
      have e14 := hE 14 (by simp)
      have e16 := hE 16 (by simp)
      simp only [envOf, List.getD_cons_succ, List.getD_cons_zero, isV] at e14 e16
      have hB4 := HWV.out.bl hC
      have k1 := hB4.cell ((m * 8 + j) * 2)
      have k2 := hB4.cell ((m * 8 + j) * 2 + 1)
      rw [cellsS_lo _ hix] at k1
      rw [cellsS_hi _ hix] at k2
      rw [show (m * 8 + j) * 2 = m * 16 + j * 2 by omega] at k1 k2
      have fr0 := hB4.frozen (m * 16 + j * 2)
      have fr1 := hB4.frozen (m * 16 + j * 2 + 1)
      have hgl := hB4.lt
      have HB4 := Lib.hid hB4
      have HC := Lib.hid hC
      simp only [fillA, Act.put, List.setIfInBounds_toArray, List.set_cons_zero, List.set_cons_succ, Nat.zero_add, Nat.reduceAdd, e14, e16]
      clear e14 e16 hE hU hC hB4
      generalize vs 0 = u0, vs 1 = u1, vs 2 = u2, vs 3 = u3, vs 4 = u4, vs 5 = u5, vs 6 = u6, vs 7 = u7, vs 8 = u8, vs 9 = u9, vs 10 = u10, vs 11 = u11, vs 12 = u12, vs 13 = u13
      simp [Region.wanted, yielded]
      go_simp
      gi_wp2
      refine ⟨⟨j + 1, by go_num, by omega, ((HKV.out.trans (Kept.of_bl HC.out)).trans (Kept.setCell _ _ _ rfl)).trans (Kept.setCell _ _ _ rfl), ?_⟩, by simp [intOf]; omega⟩
      have h5 := (HB4.out.set_ ((m * 8 + j) * 2) (.int .i64 md)).set_ ((m * 8 + j) * 2 + 1) (.int .i64 md)
      rw [cellsS_set _ hix, ← HF.out, mixF_upd, show (m * 8 + j) * 2 = m * 16 + j * 2 by omega] at h5
      exact h5
   have heq : ∀ W, (Op.equalIn 10000 23 (.agg #[.int .i64 z1, .int .i64 z2]) (.agg #[.int .i64 0, .int .i64 0])).run Tryz.prog W = .ok false W := fun W => by rw [eqk_span, decide_eq_false hz0]
   have HF : Hid (f1 (m * 8 + j) = (min z1 md, max z2 md)) := by rw [Hid, HFS.out j hlt, HZ.out, HMD.out, if_neg (fun e => hz0 (by injection e with e1 e2; exact ⟨e1, e2⟩))]
   clear hz0
   gi_wp2_with fail
   clear w0 w1 heq q0 q1 y11 hB1 hgz lw
   have HWV := HW1
   have HTV := HT1
   have HZV := HZ1
   have HMV := H111
   have HKV := HK1
   have hmin := min_if z1 md
   have hmax := max_if z2 md
   have kk : Hid (∀ V, Below B1.heap.size B1 V → V.cell? ⟨g11, 0, none⟩ = some (.int .i64 m) ∧ V.cell? ⟨gz, 0, none⟩ = some (.int .i64 z1) ∧ V.cell? ⟨gz, 1, none⟩ = some (.int .i64 z2) ∧ V.cell? ⟨gt, 0, none⟩ = some (.int .i64 a) ∧ V.cell? ⟨gt, 1, none⟩ = some (.int .i64 w) ∧ V.cell? ⟨gt, 2, none⟩ = some (.int .i64 k)) :=
    fun V hb => ⟨getc hb HMV.out, (HZV.out.bl hb).cell 0, (HZV.out.bl hb).cell 1, (HTV.out.bl hb).cell 0, (HTV.out.bl hb).cell 1, (HTV.out.bl hb).cell 2⟩
   refine wpIn_region_list1 (F := Fence.wide.inRound l') (r := some l') rfl (fun W => Below B1.heap.size B1 W) (fun w w' => Below w.heap.size w w')
    [isV (.int .i64 m), isV (.int .i64 j), isV (.pointer (some ⟨gz, 0, none⟩)), isV (.int .i64 z1), isV (.agg #[.int .i64 a, .int .i64 w, .int .i64 k]), isV (.int .i64 j), isV (.int .i64 md), isV (.int .i64 (min z1 md)), isV (.pointer (some ⟨gz, 1, none⟩)), isV (.int .i64 z2), isV (.agg #[.int .i64 a, .int .i64 w, .int .i64 k]), isV (.int .i64 j), isV (.int .i64 md), isV (.int .i64 (max z2 md)), isV (.agg #[.int .i64 (min z1 md), .int .i64 (max z2 md)]), isV (.pointer (some ⟨gw, m * 16, none⟩)), isV (.pointer (some ⟨gw, m * 16 + j * 2, none⟩))]
    (by kernel_rfl) (by kernel_rfl) (by kernel_rfl) (by simp) (by simp) (Below.refl _ _).drew ?stab ?step ?fin
   case stab => exact (StabL.is (StabL.is (StabL.is (StabL.is (StabL.is (StabL.is (StabL.is (StabL.is (StabL.is (StabL.is (StabL.is (StabL.is (StabL.is (StabL.is (StabL.is (StabL.is (StabL.is StabL.nil)))))))))))))))))
   case step =>
    refine StepsL.is ?_ (StepsL.is ?_ (StepsL.is ?_ (StepsL.is ?_ (StepsL.is ?_ (StepsL.is ?_ (StepsL.is ?_ (StepsL.is ?_ (StepsL.is ?_ (StepsL.is ?_ (StepsL.is ?_ (StepsL.is ?_ (StepsL.is ?_ (StepsL.is ?_ (StepsL.is ?_ (StepsL.is ?_ (StepsL.is ?_ StepsL.nil))))))))))))))))
    all_goals
     intro vs W K hC hD hU hK
     simp only [fillA, Act.put, List.setIfInBounds_toArray, List.set_cons_zero, List.set_cons_succ, Nat.zero_add, Nat.reduceAdd] at hK ⊢
     simp [waits, Region.binds] at hD
     try simp only [envOf, List.getD_cons_succ, List.getD_cons_zero, isV] at hD
     try simp only [hD] at hK ⊢
    ·obtain ⟨x0, x1, x2, x3, x4, x5⟩ := kk.out W hC
     go_simp; exact hK _ hC (Below.refl _ _)
    ·go_simp; exact hK _ hC (Below.refl _ _)
    ·go_simp; exact hK _ hC (Below.refl _ _)
    ·obtain ⟨x0, x1, x2, x3, x4, x5⟩ := kk.out W hC
     go_simp; exact hK _ hC (Below.refl _ _)
    ·obtain ⟨x0, x1, x2, x3, x4, x5⟩ := kk.out W hC
     go_simp; exact hK _ hC (Below.refl _ _)
    ·go_simp; exact hK _ hC (Below.refl _ _)
    ·go_simp
     refine (kmade_any ga gb (by omega) hkk W).mono ?_
     rintro e w' ⟨rfl, hb⟩
     rw [HMD.out]
     exact hK _ (bl_call hC hb (Nat.le_refl _)) hb
    ·go_simp; exact hK _ hC (Below.refl _ _)
    ·go_simp; exact hK _ hC (Below.refl _ _)
    ·obtain ⟨x0, x1, x2, x3, x4, x5⟩ := kk.out W hC
     go_simp; exact hK _ hC (Below.refl _ _)
    ·obtain ⟨x0, x1, x2, x3, x4, x5⟩ := kk.out W hC
     go_simp; exact hK _ hC (Below.refl _ _)
    ·go_simp; exact hK _ hC (Below.refl _ _)
    ·go_simp
     refine (kmade_any ga gb (by omega) hkk W).mono ?_
     rintro e w' ⟨rfl, hb⟩
     rw [HMD.out]
     exact hK _ (bl_call hC hb (Nat.le_refl _)) hb
    ·go_simp; exact hK _ hC (Below.refl _ _)
    ·go_simp; exact hK _ hC (Below.refl _ _)
    ·go_simp; exact hK _ hC (Below.refl _ _)
    go_simp; exact hK _ hC (Below.refl _ _)
   case fin =>
    intro vs W hC hE hU
    have e14 := hE 14 (by simp)
    have e16 := hE 16 (by simp)
    simp only [envOf, List.getD_cons_succ, List.getD_cons_zero, isV] at e14 e16
    have hB4 := HWV.out.bl hC
    have k1 := hB4.cell ((m * 8 + j) * 2)
    have k2 := hB4.cell ((m * 8 + j) * 2 + 1)
    rw [cellsS_lo _ hix] at k1
    rw [cellsS_hi _ hix] at k2
    rw [show (m * 8 + j) * 2 = m * 16 + j * 2 by omega] at k1 k2
    have fr0 := hB4.frozen (m * 16 + j * 2)
    have fr1 := hB4.frozen (m * 16 + j * 2 + 1)
    have hgl := hB4.lt
    have HB4 := Lib.hid hB4
    have HC := Lib.hid hC
    simp only [fillA, Act.put, List.setIfInBounds_toArray, List.set_cons_zero, List.set_cons_succ, Nat.zero_add, Nat.reduceAdd, e14, e16]
    clear e14 e16 hE hU hC hB4
    generalize vs 0 = u0, vs 1 = u1, vs 2 = u2, vs 3 = u3, vs 4 = u4, vs 5 = u5, vs 6 = u6, vs 7 = u7, vs 8 = u8, vs 9 = u9, vs 10 = u10, vs 11 = u11, vs 12 = u12, vs 13 = u13
    simp [Region.wanted, yielded]
    go_simp
    gi_wp2
    refine ⟨⟨j + 1, by go_num, by omega, ((HKV.out.trans (Kept.of_bl HC.out)).trans (Kept.setCell _ _ _ rfl)).trans (Kept.setCell _ _ _ rfl), ?_⟩, by simp [intOf]; omega⟩
    have h5 := (HB4.out.set_ ((m * 8 + j) * 2) (.int .i64 (min z1 md))).set_ ((m * 8 + j) * 2 + 1) (.int .i64 (max z2 md))
    rw [cellsS_set _ hix, ← HF.out, mixF_upd, show (m * 8 + j) * 2 = m * 16 + j * 2 by omega] at h5
    exact h5
  obtain rfl : j = castsN s m := by omega
  have hji : ¬ ((castsN s m : Nat) : Int) < cs := by omega
  gi_wp2
  refine ⟨HG1.out.trans (HK3.out.mono fun k _ h => h ▸ hOw), O, fun k h => .inl h, HOE.out, ?_, ?_⟩
  ·have := HB.out
   rwa [← HF1.out, ← HF0.out, mixF_end (by omega)] at this
  rw [decide_eq_true (Nat.succ_pos i)]
  exact (HK3.out.block _ H3m.lt (fun h => hne h.symm)).trans H3m
end Go.Proofs.YtdbfincinjoppabGreatDoor
