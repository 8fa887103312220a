/- A part of the proof that TopWorn always answers true. -/
import Derived.Test.YtdbfincinjoppabGreatDoorCIter2
import Derived.Test.YtdbfincinjoppabGreatDoorCProg6
set_option linter.all false
namespace Go.Proofs.YtdbfincinjoppabGreatDoor
open Go.RowKit Go.Shelf
attribute [local go_sem] Oper.semAt_some
theorem bl_put {B : Nat} {w w' : World} (h : Below B w w') {l : Nat} (hl : B ≤ l) (o : Obj) : Below B w (w'.putObj l o) :=
 h.trans ⟨rfl, rfl, rfl, by simp, fun k hk => World.putObj_heap_other (fun e => by omega)⟩
theorem SliceOf.put {α : Type} {R : Rd α} {m : Nat} {S : Foot} {w : World} {A : Option Addr} {n : Nat} {xs : List α} (g : R.Good m) (h : SliceOf R m S w A n xs) {l : Nat} (hl : ¬ S l) (o : Obj) : SliceOf R m S (w.putObj l o) A n xs :=
 h.keep g ⟨by simp, fun k hk _ => World.putObj_heap_other (fun e => hl (e ▸ hk))⟩
def IsInts (B : Nat) (l : List Int) (v : Value) (W : World) : Prop := ∃ A' n' c', v = .slice A' n' c' ∧ Ints (fun k => B ≤ k) W A' n' l
theorem IsInts.bl {B : Nat} {l : List Int} {v : Value} {W V : World} (h : IsInts B l v W) (hb : Below W.heap.size W V) : IsInts B l v V := by
 obtain ⟨A', n', c', hv, hI⟩ := h
 exact ⟨A', n', c', hv, hI.keep IntR.good (Keeps.below hb)⟩
theorem pow_bd (m : Nat) (hm : m ≤ 5) : (1 : Int) ≤ 2 ^ m ∧ (2 : Int) ^ m ≤ 32 := by
 rcases m with _ | _ | _ | _ | _ | _ | m
 all_goals first | decide | omega
set_option maxRecDepth 100000 in
set_option maxHeartbeats 4000000 in
theorem bmust_any {A B C : Option Addr} {n ca m cb q cc : Nat} {c : Claim} (w : World) (htab : TabOk w) (h : ClaimAt (fun _ => True) w A n B m C q c) (hca : n ≤ ca) (hcb : m ≤ cb) :
  Calls Tryz.prog 8 #[.agg #[.slice A n ca, .slice B m cb, .slice C q cc]] w fun e w' => ∃ A1 n1 c1 A2 n2 c2, e = .returned (.tuple #[.slice A1 n1 c1, .slice A2 n2 c2, .int .i64 (mustR c).2.2]) ∧ Ints (fun k => w.heap.size ≤ k) w' A1 n1 (mustR c).1 ∧ Ints (fun k => w.heap.size ≤ k) w' A2 n2 (mustR c).2.1 ∧ Below w.heap.size w w' := by
 by_cases he : err c = 0
 ·have hok := okC_of he
  have Herr : Hid (errI c 0 1 = 0) := by rw [Hid, errI, if_neg (by simp [he]), if_pos (by rfl)]
  have Hm := Lib.hid h.cs.len
  have hlm := h.cs.le
  have hm5 : m ≤ 5 := by rw [← Hm.out]; exact hok.nc
  have hHE := Lib.hid he
  clear he
  refine (callsIn_wide (n := 1)).1 ?_
  refine callsIn_of_wp_marks Tryz.func8 rfl trivial ?_ rfl
  simp only [Tryz.ntmps8, List.size_toArray, List.length_cons, List.length_nil, Nat.reduceAdd, Nat.reduceSub, Array.replicate_succ, Array.replicate_zero, List.push_toArray, List.append_toArray, List.nil_append, List.cons_append]
  gi_wp2_with fail
  refine ⟨trivial, ?_⟩
  refine (callsIn_wide.2 (check61_any 0 1 _ (h.keep (Keeps.alloc _ _)) hca hcb (by decide) (by decide))).mono ?_
  rintro e w1 ⟨rfl, hb1⟩
  rw [Herr.out]
  have hcb1 : Blk w1 w.heap.size 44 #[.slice A n ca, .slice B m cb, .slice C q cc] := (Blk.new _ _ _ rfl).bl hb1
  have hBw1 : Below w.heap.size w w1 := bl_call (bl_alloc (Below.refl _ _) _ (Nat.le_refl _)) hb1 (Nat.le_refl _)
  have hc1 := h.keep (Keeps.below hBw1)
  have hb0 := hcb1.cell 0
  have hb1' := hcb1.cell 1
  have hb2 := hcb1.cell 2
  have hbl := hcb1.lt
  have hbl2 : w.heap.size < w1.heap.size + 1 := by omega
  have hbl3 : w.heap.size < w1.heap.size + 1 + 1 := by omega
  have hM : (1 : Int) ≤ 2 ^ m ∧ (2 : Int) ^ m ≤ 32 := pow_bd m hm5
  obtain ⟨hM1, hM2⟩ := hM
  clear hb1 h
  gi_wp2_with (first | (refine ⟨trivial, ?_⟩; gi_at_call 37; refine (callsIn_wide.2 (btruths_any _)).mono ?_; rintro e w' ⟨rfl, rfl⟩) | (gi_at_call 37; refine (callsIn_wide.2 (btruths_any _)).mono ?_; rintro e w' ⟨rfl, rfl⟩))
  obtain ⟨W2, hW2⟩ : ∃ W2, (((w1.alloc (.cells #[.int .i64 (2 ^ m - 1)] 3)).alloc (.cells #[.int .i64 0] 3)).alloc (.cells #[.bool false] 4)).alloc (.cells #[.slice A n ca, .slice B m cb, .slice C q cc] 95) = W2 := ⟨_, rfl⟩
  have hk2 : Below w1.heap.size w1 W2 := by rw [← hW2]; exact bl_alloc (bl_alloc (bl_alloc (bl_alloc (Below.refl _ _) _ (Nat.le_refl _)) _ (Nat.le_refl _)) _ (Nat.le_refl _)) _ (Nat.le_refl _)
  have hs2 : W2.heap.size = w1.heap.size + 1 + 1 + 1 + 1 := by rw [← hW2]; simp
  have hga : Blk W2 w1.heap.size 3 #[.int .i64 ((2 ^ m - 1 : Nat) : Int)] := by rw [← hW2, show ((2 ^ m - 1 : Nat) : Int) = 2 ^ m - 1 by rw [Int.ofNat_sub (Nat.one_le_two_pow)]; simp]; exact (((Blk.new _ _ _ rfl).alloc _).alloc _).alloc _
  have hgs : Blk W2 (w1.heap.size + 1) 3 #[.int .i64 0] := by rw [← hW2]; exact ((Blk.new _ _ _ (by simp)).alloc _).alloc _
  have hgf : Blk W2 (w1.heap.size + 1 + 1) 4 #[.bool false] := by rw [← hW2]; exact (Blk.new _ _ _ (by simp)).alloc _
  have hgx : Blk W2 (w1.heap.size + 1 + 1 + 1) 95 #[.slice A n ca, .slice B m cb, .slice C q cc] := by rw [← hW2]; exact Blk.new _ _ _ (by simp)
  rw [hW2]
  clear hW2 hb0 hb1' hb2 hM1 hM2
  have hc2 := hc1.keep (Keeps.below hk2)
  have ht2 := (htab.bl hBw1).bl hk2
  have hm2 : 2 ^ m - 1 < 32 := by have := Nat.pow_le_pow_right (show 1 ≤ 2 by decide) hm5; omega
  obtain ⟨OM, hOM⟩ : ∃ OM : Foot, OM = fun k => k = w1.heap.size ∨ k = w1.heap.size + 1 ∨ k = w1.heap.size + 1 + 1 := ⟨_, rfl⟩
  have hOa : OM w1.heap.size := by rw [hOM]; exact .inl rfl
  have hOs : OM (w1.heap.size + 1) := by rw [hOM]; exact .inr (.inl rfl)
  have hOf : OM (w1.heap.size + 1 + 1) := by rw [hOM]; exact .inr (.inr rfl)
  have hOx : ∀ k, OM k → w1.heap.size ≤ k ∧ k < w1.heap.size + 1 + 1 + 1 := by rw [hOM]; rintro k (rfl | rfl | rfl) <;> omega
  refine rangeFunc_outer (m := 1) (gf := 69) (lb := #[.pointer (some ⟨w1.heap.size + 1 + 1 + 1, 0, none⟩)]) rfl eg_truths (truths_seq (A0 := A) (B0 := B) (C0 := C) (n := n) (ca := ca) (mm := m) (cb := cb) (q := q) (cc := cc) hok (w1.heap.size + 1 + 1 + 1)) (fun _ => rfl) OM
   (fun i O A => O = OM ∧ Blk A w1.heap.size 3 #[.int .i64 (allN ((agreeL c).take i) (2 ^ m - 1))] ∧ Blk A (w1.heap.size + 1) 3 #[.int .i64 (someN ((agreeL c).take i) 0)] ∧ Blk A (w1.heap.size + 1 + 1) 4 #[.bool (decide (0 < i))]) (fun _ _ _ => False) (fun k h => by have := hOx k h; omega)
   (fun A hK => ⟨(hK.block _ hgx.lt (fun h => h.elim (fun h => by have := hOx _ h; omega) (fun h => by omega))).trans hgx, hc1.keep (Keeps.below (hk2.trans (hK.below (B := w1.heap.size) (by omega) (fun k h => h.elim (fun h => (hOx k h).1) (fun h => by omega)))))⟩) ?stay (fun _ _ _ _ h _ _ => h) ⟨rfl, hga, hgs, hgf⟩ ?round ?done (fun _ _ _ _ h _ _ _ _ _ => h.elim)
  case stay =>
   rintro i O A B ⟨rfl, h1, h2, h3⟩ hlt hK
   exact ⟨rfl, (hK.block _ h1.lt (fun h => h hOa)).trans h1, (hK.block _ h2.lt (fun h => h hOs)).trans h2, (hK.block _ h3.lt (fun h => h hOf)).trans h3⟩
  case round =>
   rintro l i x O A1 hx ⟨rfl, h1, h2, h3⟩ hlt hsub hK hnl hlA hWl
   have hBA : Below w1.heap.size w1 A1 := hk2.trans (hK.below (B := w1.heap.size) (by omega) (fun k h => h.elim (fun h => (hOx k h).1) (fun h => by omega)))
   have hxT := (allT_ok hok (List.mem_filter.1 (List.mem_of_getElem? hx)).1)
   have htv : tv x = .agg #[.int .i64 (x.getD 0 0), .int .i64 (x.getD 1 0), .int .i64 (x.getD 2 0), .int .i64 (x.getD 3 0), .int .i64 (x.getD 4 0)] := rfl
   have hsn : setN x = setN [x.getD 0 0, x.getD 1 0, x.getD 2 0, x.getD 3 0, x.getD 4 0] := rfl
   generalize x.getD 0 0 = a0 at htv hsn
   generalize x.getD 1 0 = a1 at htv hsn
   generalize x.getD 2 0 = a2 at htv hsn
   generalize x.getD 3 0 = a3 at htv hsn
   generalize x.getD 4 0 = a4 at htv hsn
   have HAN : Hid (allN ((agreeL c).take (i + 1)) (2 ^ m - 1) = allN ((agreeL c).take i) (2 ^ m - 1) &&& setN x) := by rw [Hid, take_snoc_get hx, allN_snoc]
   have HSN : Hid (someN ((agreeL c).take (i + 1)) 0 = someN ((agreeL c).take i) 0 ||| setN x) := by rw [Hid, take_snoc_get hx, someN_snoc]
   have hal : allN ((agreeL c).take i) (2 ^ m - 1) < 32 := allN_lt _ _ hm2
   have hsl : someN ((agreeL c).take i) 0 < 32 := someN_lt _ _ (by decide)
   have hxl := setN_lt x
   generalize allN ((agreeL c).take i) (2 ^ m - 1) = va at h1 hal HAN
   generalize someN ((agreeL c).take i) 0 = vs1 at h2 hsl HSN
   generalize setN x = sx at hsn hxl HAN HSN
   have hand := bits_and32 va hal sx hxl
   have hor := bits_or32 vs1 hsl sx hxl
   have HS63 : Hid (∀ W, Calls Tryz.prog 38 #[.agg #[.int .i64 a0, .int .i64 a1, .int .i64 a2, .int .i64 a3, .int .i64 a4]] W fun e w' => e = .returned (.int .i64 sx) ∧ Below W.heap.size W w') := fun W => by rw [hsn]; exact set63_any a0 a1 a2 a3 a4 W
   have HTV := Lib.hid htv
   have HK := Lib.hid hK
   have H1 := Lib.hid h1
   have H2 := Lib.hid h2
   have H3 := Lib.hid h3
   clear htv hsn hxT hal hsl hxl hK h1 h2 h3 hx
   rw [fold1, HTV.out]
   simp only [List.setIfInBounds_toArray, List.set_cons_zero, List.set_cons_succ]
   gi_wp2
   refine ⟨Kept.alloc _ _ _, fun A2 hK2 hs2' _ => ?_⟩
   have kA : Kept (fun k => k = l) A1 A2 := (Kept.alloc (fun k => k = l) A1 (.cells #[.int .i64 a0, .int .i64 a1, .int .i64 a2, .int .i64 a3, .int .i64 a4] 98)).trans hK2
   have hT2 : Blk A2 A1.heap.size 98 #[.int .i64 a0, .int .i64 a1, .int .i64 a2, .int .i64 a3, .int .i64 a4] := (hK2.block A1.heap.size (by simp) (by omega)).trans (Blk.new _ _ _ rfl)
   have hA2 : Blk A2 w1.heap.size 3 #[.int .i64 va] := (kA.block _ H1.out.lt (fun h => hnl (h ▸ hOa))).trans H1.out
   have hB2 : Blk A2 (w1.heap.size + 1) 3 #[.int .i64 vs1] := (kA.block _ H2.out.lt (fun h => hnl (h ▸ hOs))).trans H2.out
   have hC2 : Blk A2 (w1.heap.size + 1 + 1) 4 #[.bool (decide (0 < i))] := (kA.block _ H3.out.lt (fun h => hnl (h ▸ hOf))).trans H3.out
   have kk : Hid (∀ W, Below A2.heap.size A2 W → W.cell? ⟨w1.heap.size, 0, none⟩ = some (.int .i64 va) ∧ W.cell? ⟨A1.heap.size, 0, none⟩ = some (.int .i64 a0) ∧ W.cell? ⟨A1.heap.size, 1, none⟩ = some (.int .i64 a1) ∧ W.cell? ⟨A1.heap.size, 2, none⟩ = some (.int .i64 a2) ∧ W.cell? ⟨A1.heap.size, 3, none⟩ = some (.int .i64 a3) ∧ W.cell? ⟨A1.heap.size, 4, none⟩ = some (.int .i64 a4)) :=
    fun W hb => ⟨(hA2.bl hb).cell 0, (hT2.bl hb).cell 0, (hT2.bl hb).cell 1, (hT2.bl hb).cell 2, (hT2.bl hb).cell 3, (hT2.bl hb).cell 4⟩
   gi_wp2
   refine wpIn_region_list1 (F := Fence.wide.inRound l) (r := some l) rfl (fun W => Below A2.heap.size A2 W) (fun w w' => Below w.heap.size w w')
    [isV (.int .i64 va), isV (.agg #[.int .i64 a0, .int .i64 a1, .int .i64 a2, .int .i64 a3, .int .i64 a4]), isV (.int .i64 sx), isV (.int .i64 ((va &&& sx : Nat) : Int))]
    (by kernel_rfl) (by kernel_rfl) (by kernel_rfl) (by simp) (by simp) (Below.refl _ _).drew ?stab1 ?step1 ?fin1
   case stab1 => exact StabL.is (StabL.is (StabL.is (StabL.is StabL.nil)))
   case step1 =>
    refine StepsL.is ?_ (StepsL.is ?_ (StepsL.is ?_ (StepsL.is ?_ StepsL.nil)))
    all_goals
     intro vs W K hC hD hU hK
     simp only [fillA, Act.put, List.setIfInBounds_toArray, List.set_cons_zero, List.set_cons_succ, Nat.zero_add, Nat.reduceAdd] at hK ⊢
     simp [waits, Region.binds] at hD
     try simp only [envOf, List.getD_cons_succ, List.getD_cons_zero, isV] at hD
    all_goals try ((try simp only [hD] at hK ⊢); obtain ⟨k1, k2, k3, k4, k5, k6⟩ := kk.out W hC; go_simp; exact hK _ hC (Below.refl _ _))
    simp only [hD] at hK ⊢
    go_simp
    refine (HS63.out _).mono ?_
    rintro e w' ⟨rfl, hb⟩
    exact hK _ (bl_call hC hb (Nat.le_refl _)) hb
   intro vs W hC hE hU
   have e3 := hE 3 (by simp)
   simp only [envOf, List.getD_cons_succ, List.getD_cons_zero, isV] at e3
   have hA3 := hA2.bl hC
   have hg0 := hA3.cell 0
   have hf0 := hA3.frozen 0
   have hgl := hA3.lt
   simp only [fillA, Act.put, List.setIfInBounds_toArray, List.set_cons_zero, List.set_cons_succ, Nat.zero_add, Nat.reduceAdd, e3]
   clear e3 hE hU
   simp [Region.wanted, yielded]
   go_simp
   obtain ⟨A5, hA5⟩ : ∃ A5, W.setCell ⟨w1.heap.size, 0, none⟩ (.int .i64 ((va &&& sx : Nat) : Int)) = A5 := ⟨_, rfl⟩
   have hk5 : Kept (fun k => k = w1.heap.size) W A5 := by rw [← hA5]; exact Kept.setCell _ _ _ rfl
   have hs5 : A5.heap.size = W.heap.size := by rw [← hA5]; simp [World.setCell]
   have hA6 : Blk A5 w1.heap.size 3 #[.int .i64 ((va &&& sx : Nat) : Int)] := by rw [← hA5]; exact hA3.set_ 0 _
   have hK25 : Kept (fun k => k = w1.heap.size) A2 A5 := (Kept.of_bl hC).trans hk5
   have hB6 : Blk A5 (w1.heap.size + 1) 3 #[.int .i64 vs1] := (hK25.block _ hB2.lt (by omega)).trans hB2
   have hT6 : Blk A5 A1.heap.size 98 #[.int .i64 a0, .int .i64 a1, .int .i64 a2, .int .i64 a3, .int .i64 a4] := (hK25.block _ hT2.lt (fun e => by have := hlt _ hOa; omega)).trans hT2
   rw [hA5]
   clear hA5 hg0 hf0 hgl hA3 hC
   have kk2 : Hid (∀ W, Below A5.heap.size A5 W → W.cell? ⟨w1.heap.size + 1, 0, none⟩ = some (.int .i64 vs1) ∧ W.cell? ⟨A1.heap.size, 0, none⟩ = some (.int .i64 a0) ∧ W.cell? ⟨A1.heap.size, 1, none⟩ = some (.int .i64 a1) ∧ W.cell? ⟨A1.heap.size, 2, none⟩ = some (.int .i64 a2) ∧ W.cell? ⟨A1.heap.size, 3, none⟩ = some (.int .i64 a3) ∧ W.cell? ⟨A1.heap.size, 4, none⟩ = some (.int .i64 a4)) :=
    fun W hb => ⟨(hB6.bl hb).cell 0, (hT6.bl hb).cell 0, (hT6.bl hb).cell 1, (hT6.bl hb).cell 2, (hT6.bl hb).cell 3, (hT6.bl hb).cell 4⟩
   gi_wp2
   refine wpIn_region_list1 (F := Fence.wide.inRound l) (r := some l) rfl (fun W => Below A5.heap.size A5 W) (fun w w' => Below w.heap.size w w')
    [isV (.int .i64 vs1), isV (.agg #[.int .i64 a0, .int .i64 a1, .int .i64 a2, .int .i64 a3, .int .i64 a4]), isV (.int .i64 sx), isV (.int .i64 ((vs1 ||| sx : Nat) : Int))]
    (by kernel_rfl) (by kernel_rfl) (by kernel_rfl) (by simp) (by simp) (Below.refl _ _).drew ?stab2 ?step2 ?fin2
   case stab2 => exact StabL.is (StabL.is (StabL.is (StabL.is StabL.nil)))
   case step2 =>
    refine StepsL.is ?_ (StepsL.is ?_ (StepsL.is ?_ (StepsL.is ?_ StepsL.nil)))
    all_goals
     intro vs W K hC hD hU hK
     simp only [fillA, Act.put, List.setIfInBounds_toArray, List.set_cons_zero, List.set_cons_succ, Nat.zero_add, Nat.reduceAdd] at hK ⊢
     simp [waits, Region.binds] at hD
     try simp only [envOf, List.getD_cons_succ, List.getD_cons_zero, isV] at hD
    all_goals try ((try simp only [hD] at hK ⊢); obtain ⟨k1, k2, k3, k4, k5, k6⟩ := kk2.out W hC; go_simp; exact hK _ hC (Below.refl _ _))
    simp only [hD] at hK ⊢
    go_simp
    refine (HS63.out _).mono ?_
    rintro e w' ⟨rfl, hb⟩
    exact hK _ (bl_call hC hb (Nat.le_refl _)) hb
   intro vs W7 hC hE hU
   have e3 := hE 3 (by simp)
   simp only [envOf, List.getD_cons_succ, List.getD_cons_zero, isV] at e3
   have hB7 := hB6.bl hC
   have hg0 := hB7.cell 0
   have hf0 := hB7.frozen 0
   have hgl := hB7.lt
   have hC5 : Blk A5 (w1.heap.size + 1 + 1) 4 #[.bool (decide (0 < i))] := (hK25.block _ hC2.lt (by omega)).trans hC2
   have hC7 := hC5.bl hC
   have hA7 := hA6.bl hC
   have hg2 : (W7.setCell ⟨w1.heap.size + 1, 0, none⟩ (.int .i64 ((vs1 ||| sx : Nat) : Int))).cell? ⟨w1.heap.size + 1 + 1, 0, none⟩ = some (.bool (decide (0 < i))) := setc (hC7.cell 0) (by simp)
   have hf2 := hC7.frozen 0
   have hgl2 := hC7.lt
   simp only [fillA, Act.put, List.setIfInBounds_toArray, List.set_cons_zero, List.set_cons_succ, Nat.zero_add, Nat.reduceAdd, e3]
   have HCC := Lib.hid hC
   clear e3 hE hU hC
   simp [Region.wanted, yielded]
   go_simp
   gi_wp2
   have hke : Kept O A2 ((W7.setCell ⟨w1.heap.size + 1, 0, none⟩ (.int .i64 ((vs1 ||| sx : Nat) : Int))).setCell ⟨w1.heap.size + 1 + 1, 0, none⟩ (.bool true)) :=
    (((hK25.mono fun k _ h => h ▸ hOa).trans (Kept.of_bl HCC.out)).trans (Kept.setCell _ _ _ hOs)).trans (Kept.setCell _ _ _ hOf)
   refine ⟨hke, O, fun k h => .inl h, rfl, ?_, ?_, ?_⟩
   ·rw [HAN.out]; exact (hA7.far (by simp) _).far (by simp; omega) _
   ·rw [HSN.out]; exact (hB7.set_ 0 _).far (by simp) _
   rw [decide_eq_true (Nat.succ_pos i)]; exact (hC7.far (by simp) _).set_ 0 _
  rintro O W' D ⟨rfl, h1, h2, h3⟩ hO hK hD hnD hDb
  have hBA : Below w1.heap.size w1 W' := hk2.trans (hK.below (B := w1.heap.size) (by omega) (fun k h => h.elim (fun h => (hOx k h).1) (fun h => by omega)))
  have hBW : Below w.heap.size w W' := hBw1.trans (hBA.mono (by omega))
  have htW := htab.bl hBW
  rw [List.take_length] at h1 h2
  have hgf0 := h3.cell 0
  have hga0 := h1.cell 0
  have hgs0 := h2.cell 0
  by_cases ha : agreeL c = []
  ·have hfb : decide (0 < (agreeL c).length) = false := by rw [ha]; rfl
   have HR : Hid (mustR c = ([], [], 8)) := by rw [Hid, mustR, err8_none hHE.out ha, if_pos (by decide)]
   rw [hfb] at hgf0
   clear hfb ha h1 h2 h3 hga0 hgs0
   gi_wp2
   refine ⟨by simp, .inl ⟨_, _, rfl, run_takeDeferred hDb, ?_⟩⟩
   refine ⟨_, results_tmp3 rfl _ _ _, none, 0, 0, none, 0, 0, by rw [HR.out]; rfl, by rw [HR.out]; exact SliceOf.nil _ _ _ _ _, by rw [HR.out]; exact SliceOf.nil _ _ _ _ _, bl_put hBW (by omega) _⟩
  have hfb : decide (0 < (agreeL c).length) = true := by simp; exact List.length_pos_iff.2 ha
  have HR : Hid (mustR c = (mustL c, mayL c, 0)) := by rw [Hid, mustR, err8_ok hHE.out ha, if_neg (by decide)]
  rw [hfb] at hgf0
  have hal : allN (agreeL c) (2 ^ m - 1) < 32 := allN_lt _ _ hm2
  have hsl : someN (agreeL c) 0 < 32 := someN_lt _ _ (by decide)
  have hlm' : listN (allN (agreeL c) (2 ^ m - 1)) = mustL c := by rw [← Hm.out]; exact listN_must hok
  have hly' : listN (someN (agreeL c) 0) = mayL c := listN_may hok
  generalize allN (agreeL c) (2 ^ m - 1) = va at h1 hga0 hal hlm'
  generalize someN (agreeL c) 0 = vs1 at h2 hgs0 hsl hly'
  have HLM := Lib.hid hlm'
  have HLY := Lib.hid hly'
  have HH1 := Lib.hid h1
  have HH2 := Lib.hid h2
  clear hfb ha hlm' hly' hga0 hgs0 h1 h2 h3
  gi_wp2
  have kk : Hid (∀ W, Below W'.heap.size W' W → W.cell? ⟨w1.heap.size, 0, none⟩ = some (.int .i64 va) ∧ W.cell? ⟨w1.heap.size + 1, 0, none⟩ = some (.int .i64 vs1)) := fun W hb => ⟨(HH1.out.bl hb).cell 0, (HH2.out.bl hb).cell 0⟩
  refine wpIn_region_list1 (F := Fence.wide) (r := none) rfl (fun W => Below W'.heap.size W' W) (fun w w' => Below w.heap.size w w')
   [isV (.int .i64 va), IsInts W'.heap.size (mustL c), isV (.int .i64 vs1), IsInts W'.heap.size (mayL c), IsInts W'.heap.size (mustL c), IsInts W'.heap.size (mayL c), isV (.int .i64 0)]
   (by kernel_rfl) (by kernel_rfl) (by kernel_rfl) (by simp) (by simp) (Below.refl _ _).drew ?stab3 ?step3 ?fin3
  case stab3 => exact StabL.is (StabL.cons (fun v W V hC hX h => h.bl hX) (StabL.is (StabL.cons (fun v W V hC hX h => h.bl hX) (StabL.cons (fun v W V hC hX h => h.bl hX) (StabL.cons (fun v W V hC hX h => h.bl hX) (StabL.is StabL.nil))))))
  case step3 =>
   refine StepsL.is ?_ (StepsL.cons ?_ (StepsL.is ?_ (StepsL.cons ?_ (StepsL.cons ?_ (StepsL.cons ?_ (StepsL.is ?_ StepsL.nil))))))
   all_goals
    intro vs W K hC hD hU hK
    simp only [fillA, Act.put, List.setIfInBounds_toArray, List.set_cons_zero, List.set_cons_succ, Nat.zero_add, Nat.reduceAdd] at hK ⊢
    simp [waits, Region.binds] at hD
    try simp only [envOf, List.getD_cons_succ, List.getD_cons_zero, isV] at hD
   ·obtain ⟨k1, k2⟩ := kk.out W hC
    go_simp
    exact hK _ hC (Below.refl _ _)
   ·simp only [hD] at hK ⊢
    go_simp
    refine (list64_any va _ (htW.bl hC) hal).mono ?_
    rintro e w' ⟨A', n', c', rfl, hI, hb⟩
    rw [HLM.out] at hI
    exact hK _ _ (bl_call hC hb (Nat.le_refl _)) hb ⟨A', n', c', rfl, hI.mono IntR.good (fun k h => by have := hC.size; omega)⟩
   ·obtain ⟨k1, k2⟩ := kk.out W hC
    clear hD
    go_simp
    exact hK _ hC (Below.refl _ _)
   ·obtain ⟨h2, _⟩ := hD
    simp only [h2] at hK ⊢
    clear h2
    go_simp
    refine (list64_any vs1 _ (htW.bl hC) hsl).mono ?_
    rintro e w' ⟨A', n', c', rfl, hI, hb⟩
    rw [HLY.out] at hI
    exact hK _ _ (bl_call hC hb (Nat.le_refl _)) hb ⟨A', n', c', rfl, hI.mono IntR.good (fun k h => by have := hC.size; omega)⟩
   ·have h1 := hD.1
    clear hD
    go_simp
    exact hK _ _ hC (Below.refl _ _) h1
   ·have h1 := hD.1
    clear hD
    go_simp
    exact hK _ _ hC (Below.refl _ _) h1
   clear hD
   go_simp
   exact hK _ hC (Below.refl _ _)
  intro vs W hC hE hU
  have e4 := hE 4 (by simp)
  have e5 := hE 5 (by simp)
  have e6 := hE 6 (by simp)
  simp only [envOf, List.getD_cons_succ, List.getD_cons_zero, isV] at e4 e5 e6
  obtain ⟨A1', n1', c1', e4, hI1⟩ := e4
  obtain ⟨A2', n2', c2', e5, hI2⟩ := e5
  have hDl := (Array.getElem?_eq_some_iff.1 hDb).1
  have hDb2 := (hC.block D (Array.getElem?_eq_some_iff.1 hDb).1).trans hDb
  have hBW2 := bl_call hBW hC (Nat.le_refl _)
  simp only [fillA, Act.put, List.setIfInBounds_toArray, List.set_cons_zero, List.set_cons_succ, Nat.zero_add, Nat.reduceAdd, e4, e5, e6]
  clear e4 e5 e6 hE hU hC hDb
  simp
  gi_wp2
  refine ⟨by simp, .inl ⟨_, _, rfl, run_takeDeferred hDb2, ?_⟩⟩
  refine ⟨_, results_tmp3 rfl _ _ _, A1', n1', c1', A2', n2', c2', by rw [HR.out]; rfl, ?_, ?_, bl_put hBW2 (by omega) _⟩
  ·rw [HR.out]; exact (hI1.put IntR.good (by omega) _).mono IntR.good (fun k h => by have := hBW.size; omega)
  rw [HR.out]; exact (hI2.put IntR.good (by omega) _).mono IntR.good (fun k h => by have := hBW.size; omega)
 have HR : Hid (mustR c = ([], [], err c)) := by rw [Hid, mustR, err8_bad he, if_pos he]
 have Herr : Hid (errI c 0 1 = err c) := by rw [Hid, errI, if_pos he]
 have hbe : (err c != 0) = true := by simpa using he
 clear he
 generalize err c = ec at HR Herr hbe
 go_enter Tryz.func8, Tryz.ntmps8
 go_wp2_with fail
 refine (check61_any 0 1 _ (h.keep (Keeps.alloc _ _)) hca hcb (by decide) (by decide)).mono ?_
 rintro e w1 ⟨rfl, hb1⟩
 rw [Herr.out]
 have hBw1 : Below w.heap.size w w1 := bl_call (bl_alloc (Below.refl _ _) _ (Nat.le_refl _)) hb1 (Nat.le_refl _)
 go_wp2
 go_ret3
 exact ⟨none, 0, 0, none, 0, 0, by rw [HR.out]; rfl, by rw [HR.out]; exact SliceOf.nil _ _ _ _ _, by rw [HR.out]; exact SliceOf.nil _ _ _ _ _, hBw1⟩
end Go.Proofs.YtdbfincinjoppabGreatDoor
