/- A part of the proof that TopWorn always answers true. -/
import Derived.Laws.MakeOwn
import Derived.Laws.IdiomCopy
import Derived.Test.YtdbfincinjoppabGreatDoorCProg18
set_option linter.all false
namespace Go.Proofs.YtdbfincinjoppabGreatDoor
open Go.RowKit Go.Shelf
attribute [local go_sem] Oper.semAt_some
theorem bl_setCells {B g : Nat} (hB : B ≤ g) : ∀ (vs : List Value) (o : Nat) {w w' : World}, Below B w w' → Below B w (w'.setCells g o vs)
 | [], _, _, _, h => h
 | v :: r, o, _, _, h => bl_setCells hB r (o + 1) (bl_set h hB v)
theorem setCells_other {g : Nat} : ∀ (vs : List Value) (o : Nat) (w : World) (k : Nat), k ≠ g → (w.setCells g o vs).heap[k]? = w.heap[k]?
 | [], _, _, _, _ => rfl
 | v :: r, o, w, k, h => (setCells_other r (o + 1) _ k h).trans (Below.heap_setCell w ⟨g, o, none⟩ v k h)
theorem ints_of_cells {w : World} {g n : Nat} {l : List Int} (hl : l.length = n) (hn : n ≤ maxLen) (hlt : g < w.heap.size) (hc : ∀ k x, l[k]? = some x → w.cell? ⟨g, k, none⟩ = some (.int .i64 x)) : Ints (fun k => k = g) w (some ⟨g, 0, none⟩) n l := by
 refine ⟨hl, hn, fun k x hk => ⟨g, 0, _, rfl, rfl, hlt, rfl, fun j u hu => ?_⟩⟩
 cases j with
 | zero => simp at hu; subst hu; simpa using hc k x hk
 | succ j => simp at hu
theorem setCells_size {g : Nat} : ∀ (vs : List Value) (o : Nat) (w : World), (w.setCells g o vs).heap.size = w.heap.size
 | [], _, _ => rfl
 | v :: r, o, w => (setCells_size r (o + 1) _).trans (by simp)
set_option maxHeartbeats 1000000 in
theorem make_int (n : Nat) (w : World) (hn : n ≤ 5) : ∃ w1, (Instr.makeSlice 45 (.int .i64 (n : Int)) (.int .i64 (n : Int))).run Tryz.prog w = .ok (.slice (some ⟨w.heap.size, 0, none⟩) n n) w1 ∧ Below w.heap.size w w1 ∧ (∃ cs : Array Value, cs.size = n ∧ Blk w1 w.heap.size 3 cs) := by
 obtain ⟨i0, hi0, hz0, hz1, hz2⟩ := info_parts infoInt
 have h := run_make (P := Tryz.prog) w 45 3 i0 _ Tryz.underlying45 hi0 hz0 .i64 .i64 (n : Int) (n : Int) (by omega) (by omega) (by rw [hz2]; omega) (by omega)
 rw [Int.toNat_natCast] at h
 exact ⟨_, h, bl_alloc (Below.refl _ _) _ (Nat.le_refl _), _, by rw [size_madeCells, hz1, Nat.mul_one], Blk.new _ _ _ rfl⟩
theorem copy_ints {w : World} {g ga n : Nat} {cs : Array Value} {t1 t2 : TypeId} {xs ys : List Value} (hg : Blk w g t1 cs) (hn : cs.size = n) (ha : Blk w ga t2 ys.toArray) (hxs : xs = ys.take n) (hy : ys.length = 5) (hn5 : n ≤ 5) (h1 : ∀ v ∈ xs, v.oneCell' = true) (sT ty : TypeId) :
  (Builtin.copy_ #[45, sT] ty #[.slice (some ⟨g, 0, none⟩) n n, .slice (some ⟨ga, 0, none⟩) 5 5]).run Tryz.prog w = .ok (goInt n) (w.setCells g 0 xs) := by
 obtain ⟨i0, hi0, hz0, hz1, hz2⟩ := info_parts infoInt
 have hs : (Tryz.prog.info? 3).map (·.size) = some 1 := by rw [hi0]; simp [hz1]
 have hl : xs.length = n := by rw [hxs, List.length_take]; omega
 have h := run_copy_cells (P := Tryz.prog) w 45 sT ty 3 g 0 n n ⟨ga, 0, none⟩ 5 5 xs Tryz.underlying45 hs (by rw [hl]; exact (Nat.min_eq_right hn5).symm) (fun j v hj => by
   have hj' : ys[j]? = some v := by rw [hxs, List.getElem?_take] at hj; split at hj <;> simp_all
   have := ha.cell j
   simp at this
   rw [show (⟨ga, 0, none⟩ : Addr).add j = ⟨ga, j, none⟩ by unfold Addr.add; split <;> simp_all]
   rw [this]; exact hj')
  (fun j hj => by rw [Nat.zero_add, hg.cell j]; rw [hl] at hj; simp [hn, hj])
  (fun j hj => by rw [Nat.zero_add]; exact hg.frozen j) h1
 rw [hl] at h
 exact h
set_option maxHeartbeats 1000000 in
theorem eq_truth (a0 a1 a2 a3 a4 b0 b1 b2 b3 b4 : Int) (w : World) : (Op.equalIn 10000 98 (.agg #[.int .i64 a0, .int .i64 a1, .int .i64 a2, .int .i64 a3, .int .i64 a4]) (.agg #[.int .i64 b0, .int .i64 b1, .int .i64 b2, .int .i64 b3, .int .i64 b4])).run Tryz.prog w = .ok (decide (a0 = b0 ∧ a1 = b1 ∧ a2 = b2 ∧ a3 = b3 ∧ a4 = b4)) w := by
 have u3 := Tryz.underlying3
 have a3' := Tryz.isAgg3
 have z3 := Tryz.sizeOf3
 rw [show (10000 : Nat) = 9999 + 1 from rfl, Op.equalIn]
 simp only [Sem.run_bind, run_underlying Tryz.underlying98, Result.andThen_ok]
 simp only [Std.Legacy.Range.forIn_eq_forIn_range', Std.Legacy.Range.size, Nat.sub_zero, Nat.add_sub_cancel, Nat.div_one, List.range'_succ, List.range'_zero, List.forIn_cons, List.forIn_nil]
 go_simp
 by_cases h0 : a0 = b0 <;> by_cases h1 : a1 = b1 <;> by_cases h2 : a2 = b2 <;> by_cases h3 : a3 = b3 <;> by_cases h4 : a4 = b4 <;> simp [h0, h1, h2, h3, h4]
def arr (t : List Int) : Array Value := #[.int .i64 (t.getD 0 0), .int .i64 (t.getD 1 0), .int .i64 (t.getD 2 0), .int .i64 (t.getD 3 0), .int .i64 (t.getD 4 0)]
def bestK (c : Claim) (i : Nat) : List Int := plainOf ((agreeL c).take i)
theorem bestK_one {c : Claim} {t : List Int} (h : (agreeL c)[0]? = some t) : bestK c 1 = t := by
 unfold bestK; rw [take_one h]; rfl
theorem bestK_succ {c : Claim} {i : Nat} {t : List Int} (h : (agreeL c)[i]? = some t) (hi : 0 < i) : bestK c (i + 1) = better (bestK c i) t := by
 unfold bestK
 rw [take_snoc_get h, plainOf_snoc]
 intro h0
 have := congrArg List.length h0
 have h1 := of_getq h
 rw [List.length_take, List.length_nil] at this
 omega
theorem bestK_same {c : Claim} {i : Nat} {t : List Int} (h : (agreeL c)[i]? = some t) (he : arr t = arr (bestK c i)) : arr (bestK c (i + 1)) = arr (bestK c i) := by
 by_cases hi : i = 0
 ·subst hi; rw [bestK_one h]; exact he
 rw [bestK_succ h (by omega)]; unfold better; split
 ·exact he
 rfl
set_option maxRecDepth 100000 in
set_option maxHeartbeats 4000000 in
theorem bplainest_any {A B C : Option Addr} {n ca m cb q cc : Nat} {c : Claim} (w : World) (htab : TabOk w) (h : ClaimAt (fun _ => True) w A n B m C q c) (hca : n ≤ ca) (hcb : m ≤ cb) :
  Calls Tryz.prog 12 #[.agg #[.slice A n ca, .slice B m cb, .slice C q cc]] w fun e w' => ∃ A1 n1 c1, e = .returned (.tuple #[.slice A1 n1 c1, .int .i64 (plainR c).2]) ∧ Ints (fun k => w.heap.size ≤ k) w' A1 n1 (plainR c).1 ∧ Below w.heap.size w w' := by
 by_cases he : err c = 0
 ·have hok := okC_of he
  have Herr : Hid (errI c 0 1 = 0) := by rw [Hid, errI, if_neg (by simp [he]), if_pos (by rfl)]
  have Hm := Lib.hid h.cs.len
  have hm5 : m ≤ 5 := by rw [← Hm.out]; exact hok.nc
  have hHE := Lib.hid he
  clear he
  refine (callsIn_wide (n := 1)).1 ?_
  refine callsIn_of_wp_marks Tryz.func12 rfl trivial ?_ rfl
  simp only [Tryz.ntmps12, List.size_toArray, List.length_cons, List.length_nil, Nat.reduceAdd, Nat.reduceSub, Array.replicate_succ, Array.replicate_zero, List.push_toArray, List.append_toArray, List.nil_append, List.cons_append]
  gi_wp2_with fail
  refine ⟨trivial, ?_⟩
  refine (callsIn_wide.2 (check61_any 0 1 _ (h.keep (Keeps.alloc _ _)) hca hcb (by decide) (by decide))).mono ?_
  rintro e w1 ⟨rfl, hb1⟩
  rw [Herr.out]
  have hcb1 : Blk w1 w.heap.size 44 #[.slice A n ca, .slice B m cb, .slice C q cc] := (Blk.new _ _ _ rfl).bl hb1
  have hBw1 : Below w.heap.size w w1 := bl_call (bl_alloc (Below.refl _ _) _ (Nat.le_refl _)) hb1 (Nat.le_refl _)
  have hc1 := h.keep (Keeps.below hBw1)
  have hb0 := hcb1.cell 0
  have hb1' := hcb1.cell 1
  have hb2 := hcb1.cell 2
  have hbl := hcb1.lt
  have hbl2 : w.heap.size < w1.heap.size + 1 := by omega
  clear hb1
  gi_wp2_with (first | (refine ⟨trivial, ?_⟩; gi_at_call 37; refine (callsIn_wide.2 (btruths_any _)).mono ?_; rintro e w' ⟨rfl, rfl⟩) | (gi_at_call 37; refine (callsIn_wide.2 (btruths_any _)).mono ?_; rintro e w' ⟨rfl, rfl⟩))
  obtain ⟨W2, hW2⟩ : ∃ W2, ((w1.alloc (.cells #[.int .i64 0, .int .i64 0, .int .i64 0, .int .i64 0, .int .i64 0] 98)).alloc (.cells #[.bool false] 4)).alloc (.cells #[.slice A n ca, .slice B m cb, .slice C q cc] 95) = W2 := ⟨_, rfl⟩
  have hk2 : Below w1.heap.size w1 W2 := by rw [← hW2]; exact bl_alloc (bl_alloc (bl_alloc (Below.refl _ _) _ (Nat.le_refl _)) _ (Nat.le_refl _)) _ (Nat.le_refl _)
  have hs2 : W2.heap.size = w1.heap.size + 1 + 1 + 1 := by rw [← hW2]; simp
  have hgb : Blk W2 w1.heap.size 98 (arr []) := by rw [← hW2]; exact ((Blk.new _ _ _ rfl).alloc _).alloc _
  have hgf : Blk W2 (w1.heap.size + 1) 4 #[.bool false] := by rw [← hW2]; exact (Blk.new _ _ _ (by simp)).alloc _
  have hgx : Blk W2 (w1.heap.size + 1 + 1) 95 #[.slice A n ca, .slice B m cb, .slice C q cc] := by rw [← hW2]; exact Blk.new _ _ _ (by simp)
  have hgc : Blk W2 w.heap.size 44 #[.slice A n ca, .slice B m cb, .slice C q cc] := hcb1.bl hk2
  rw [hW2]
  clear hW2 hb0 hb1' hb2
  have hBW2 := bl_call hBw1 hk2 (Nat.le_refl _)
  obtain ⟨OM, hOM⟩ : ∃ OM : Foot, OM = fun k => k = w1.heap.size ∨ k = w1.heap.size + 1 := ⟨_, rfl⟩
  have hOb : OM w1.heap.size := by rw [hOM]; exact .inl rfl
  have hOf : OM (w1.heap.size + 1) := by rw [hOM]; exact .inr rfl
  have hOx : ∀ k, OM k → k = w1.heap.size ∨ k = w1.heap.size + 1 := by rw [hOM]; exact fun k h => h
  clear hOM
  have hbig : ∀ {A : World}, Kept (fun k => OM k ∨ W2.heap.size ≤ k) W2 A → Below w.heap.size w A := fun hK => hBW2.trans (hK.below (by omega) (fun k h => h.elim (fun h => by have := hOx k h; omega) (fun h => by omega)))
  have hold : ∀ {A : World} {g : Nat} {t : TypeId} {cs : Array Value}, Blk W2 g t cs → ¬ OM g → Kept (fun k => OM k ∨ W2.heap.size ≤ k) W2 A → Blk A g t cs := fun hB hg hK =>
   (hK.block _ hB.lt (fun h => h.elim hg (fun h => by have := hB.lt; omega))).trans hB
  have hNx : ¬ OM (w1.heap.size + 1 + 1) := fun h => by have := hOx _ h; omega
  have hNc : ¬ OM w.heap.size := fun h => by have := hOx _ h; omega
  refine rangeFunc_outer (m := 1) (gf := 69) (lb := #[.pointer (some ⟨w1.heap.size + 1 + 1, 0, none⟩)]) rfl eg_truths (truths_seq (A0 := A) (B0 := B) (C0 := C) (n := n) (ca := ca) (mm := m) (cb := cb) (q := q) (cc := cc) hok (w1.heap.size + 1 + 1)) (fun _ => rfl) OM
   (fun i O A => O = OM ∧ Blk A w1.heap.size 98 (arr (bestK c i)) ∧ Blk A (w1.heap.size + 1) 4 #[.bool (decide (0 < i))]) (fun _ _ _ => False) (fun k h => by have := hOx k h; omega)
   (fun A hK => ⟨hold hgx hNx hK, h.keep (Keeps.below (hbig hK))⟩) ?stay (fun _ _ _ _ h _ _ => h) ⟨rfl, hgb, hgf⟩ ?round ?done (fun _ _ _ _ h _ _ _ _ _ => h.elim)
  case stay =>
   rintro i O A B ⟨rfl, h1, h2⟩ hlt hK
   exact ⟨rfl, (hK.block _ h1.lt (fun h => h hOb)).trans h1, (hK.block _ h2.lt (fun h => h hOf)).trans h2⟩
  case round =>
   rintro l i x O A1 hx ⟨rfl, h1, h2⟩ hlt hsub hK hnl hlA hWl
   have hxA := (List.mem_filter.1 (List.mem_of_getElem? hx)).1
   have hxl := (allT_ok hok hxA).1
   have htv : tv x = .agg #[.int .i64 (x.getD 0 0), .int .i64 (x.getD 1 0), .int .i64 (x.getD 2 0), .int .i64 (x.getD 3 0), .int .i64 (x.getD 4 0)] := rfl
   have hsn : setN x = setN [x.getD 0 0, x.getD 1 0, x.getD 2 0, x.getD 3 0, x.getD 4 0] := rfl
   have hln : listN (setN x) = setL x := listN_set (by rw [hxl]; exact hok.nc)
   have hlt32 := setN_lt x
   have hav : arr x = #[.int .i64 (x.getD 0 0), .int .i64 (x.getD 1 0), .int .i64 (x.getD 2 0), .int .i64 (x.getD 3 0), .int .i64 (x.getD 4 0)] := rfl
   rw [hsn] at hln hlt32
   clear hsn
   generalize x.getD 0 0 = a0 at htv hln hlt32 hav
   generalize x.getD 1 0 = a1 at htv hln hlt32 hav
   generalize x.getD 2 0 = a2 at htv hln hlt32 hav
   generalize x.getD 3 0 = a3 at htv hln hlt32 hav
   generalize x.getD 4 0 = a4 at htv hln hlt32 hav
   have hbv : arr (bestK c i) = #[.int .i64 ((bestK c i).getD 0 0), .int .i64 ((bestK c i).getD 1 0), .int .i64 ((bestK c i).getD 2 0), .int .i64 ((bestK c i).getD 3 0), .int .i64 ((bestK c i).getD 4 0)] := rfl
   have hbsn : setN (bestK c i) = setN [(bestK c i).getD 0 0, (bestK c i).getD 1 0, (bestK c i).getD 2 0, (bestK c i).getD 3 0, (bestK c i).getD 4 0] := rfl
   have hbn : 0 < i → listN (setN (bestK c i)) = setL (bestK c i) := fun hi => by
    have hne : (agreeL c).take i ≠ [] := take_ne hi (fun e => by rw [e] at hx; cases hx)
    have hmem := List.mem_of_mem_take (plainOf_mem hne)
    have := (allT_ok hok (List.mem_filter.1 hmem).1).1
    exact listN_set (by unfold bestK; rw [this]; exact hok.nc)
   have hb32 := setN_lt (bestK c i)
   rw [hbsn] at hbn hb32
   clear hbsn
   generalize (bestK c i).getD 0 0 = b0 at hbv hbn hb32
   generalize (bestK c i).getD 1 0 = b1 at hbv hbn hb32
   generalize (bestK c i).getD 2 0 = b2 at hbv hbn hb32
   generalize (bestK c i).getD 3 0 = b3 at hbv hbn hb32
   generalize (bestK c i).getD 4 0 = b4 at hbv hbn hb32
   have HBV := Lib.hid hbv
   have HAV := Lib.hid hav
   have HX := Lib.hid hx
   have HTV := Lib.hid htv
   have HLN := Lib.hid hln
   have HBN := Lib.hid hbn
   have HK := Lib.hid hK
   rw [hbv] at h1
   have H1 := Lib.hid h1
   have H2 := Lib.hid h2
   clear htv hK h1 h2 hx hbv hav hln hbn hxA hxl
   have hsa : ∀ W, Calls Tryz.prog 38 #[.agg #[.int .i64 a0, .int .i64 a1, .int .i64 a2, .int .i64 a3, .int .i64 a4]] W fun e w' => e = .returned (.int .i64 (setN [a0, a1, a2, a3, a4])) ∧ Below W.heap.size W w' := fun W => set63_any a0 a1 a2 a3 a4 W
   have hsbb : ∀ W, Calls Tryz.prog 38 #[.agg #[.int .i64 b0, .int .i64 b1, .int .i64 b2, .int .i64 b3, .int .i64 b4]] W fun e w' => e = .returned (.int .i64 (setN [b0, b1, b2, b3, b4])) ∧ Below W.heap.size W w' := fun W => set63_any b0 b1 b2 b3 b4 W
   rw [fold1, HTV.out]
   simp only [List.setIfInBounds_toArray, List.set_cons_zero, List.set_cons_succ]
   gi_wp2
   refine ⟨Kept.alloc _ _ _, fun A2 hK2 hs2' _ => ?_⟩
   simp only [World.size_alloc] at hs2'
   have hs2a : A1.heap.size + 1 ≤ A2.heap.size := by omega
   clear hs2'
   have kA : Kept (fun k => k = l) A1 A2 := (Kept.alloc (fun k => k = l) A1 (.cells #[.int .i64 a0, .int .i64 a1, .int .i64 a2, .int .i64 a3, .int .i64 a4] 98)).trans hK2
   have hT2 : Blk A2 A1.heap.size 98 #[.int .i64 a0, .int .i64 a1, .int .i64 a2, .int .i64 a3, .int .i64 a4] := (hK2.block A1.heap.size (by simp) (by omega)).trans (Blk.new _ _ _ rfl)
   have hB2 : Blk A2 w1.heap.size 98 #[.int .i64 b0, .int .i64 b1, .int .i64 b2, .int .i64 b3, .int .i64 b4] := (kA.block _ H1.out.lt (fun h => hnl (h ▸ hOb))).trans H1.out
   have hF2 : Blk A2 (w1.heap.size + 1) 4 #[.bool (decide (0 < i))] := (kA.block _ H2.out.lt (fun h => hnl (h ▸ hOf))).trans H2.out
   have hK3 : Kept (fun k => O k ∨ W2.heap.size ≤ k) W2 A2 := HK.out.seq kA (fun k _ h => .inr (h ▸ hWl))
   have htab2 := htab.bl (hbig hK3)
   gi_wp2
   have kk : Hid (∀ W, Below A2.heap.size A2 W → W.cell? ⟨A1.heap.size, 0, none⟩ = some (.int .i64 a0) ∧ W.cell? ⟨A1.heap.size, 1, none⟩ = some (.int .i64 a1) ∧ W.cell? ⟨A1.heap.size, 2, none⟩ = some (.int .i64 a2) ∧ W.cell? ⟨A1.heap.size, 3, none⟩ = some (.int .i64 a3) ∧ W.cell? ⟨A1.heap.size, 4, none⟩ = some (.int .i64 a4) ∧ W.cell? ⟨w1.heap.size, 0, none⟩ = some (.int .i64 b0) ∧ W.cell? ⟨w1.heap.size, 1, none⟩ = some (.int .i64 b1) ∧ W.cell? ⟨w1.heap.size, 2, none⟩ = some (.int .i64 b2) ∧ W.cell? ⟨w1.heap.size, 3, none⟩ = some (.int .i64 b3) ∧ W.cell? ⟨w1.heap.size, 4, none⟩ = some (.int .i64 b4) ∧ W.cell? ⟨w1.heap.size + 1, 0, none⟩ = some (.bool (decide (0 < i)))) :=
    fun W hb => ⟨(hT2.bl hb).cell 0, (hT2.bl hb).cell 1, (hT2.bl hb).cell 2, (hT2.bl hb).cell 3, (hT2.bl hb).cell 4, (hB2.bl hb).cell 0, (hB2.bl hb).cell 1, (hB2.bl hb).cell 2, (hB2.bl hb).cell 3, (hB2.bl hb).cell 4, (hF2.bl hb).cell 0⟩
   by_cases heq : a0 = b0 ∧ a1 = b1 ∧ a2 = b2 ∧ a3 = b3 ∧ a4 = b4
   ·obtain ⟨rfl, rfl, rfl, rfl, rfl⟩ := heq
    have heqv : ∀ W, (Op.equalIn 10000 98 (.agg #[.int .i64 a0, .int .i64 a1, .int .i64 a2, .int .i64 a3, .int .i64 a4]) (.agg #[.int .i64 a0, .int .i64 a1, .int .i64 a2, .int .i64 a3, .int .i64 a4])).run Tryz.prog W = .ok true W := fun W => by rw [eq_truth]; simp
    refine wpIn_region_list1 (F := Fence.wide.inRound l) (r := some l) rfl (fun W => Below A2.heap.size A2 W) (fun w w' => Below w.heap.size w w')
     [isV (.agg #[.int .i64 a0, .int .i64 a1, .int .i64 a2, .int .i64 a3, .int .i64 a4]), isV (.agg #[.int .i64 a0, .int .i64 a1, .int .i64 a2, .int .i64 a3, .int .i64 a4]), isV (.bool true), isV (.bool true), isV (undef), isV (undef), isV (undef), isV (undef), isV (undef), isV (undef), isV (undef), isV (undef), isV (undef), isV (undef), isV (undef), isV (.bool true)]
     (by kernel_rfl) (by kernel_rfl) (by kernel_rfl) (by simp) (by simp) (Below.refl _ _).drew ?staba ?stepa ?fina
    case staba => exact (StabL.is (StabL.is (StabL.is (StabL.is (StabL.is (StabL.is (StabL.is (StabL.is (StabL.is (StabL.is (StabL.is (StabL.is (StabL.is (StabL.is (StabL.is (StabL.is StabL.nil))))))))))))))))
    case stepa =>
     refine StepsL.isA ?_ (StepsL.isA ?_ (StepsL.isA ?_ (StepsL.isA ?_ (StepsL.isA ?_ (StepsL.isA ?_ (StepsL.isA ?_ (StepsL.isA ?_ (StepsL.isA ?_ (StepsL.isA ?_ (StepsL.isA ?_ (StepsL.isA ?_ (StepsL.isA ?_ (StepsL.isA ?_ (StepsL.isA ?_ (StepsL.isA ?_ StepsL.nil)))))))))))))))
     all_goals intro vs a W K ha hC hD hU hK
     all_goals try rw [if_pos (by rfl)]
     ·
      have r7 : a.tmps[7]? = some (.pointer (some ⟨A1.heap.size, 0, none⟩)) := by rw [ha]; kernel_rfl
      clear ha hU hD
      obtain ⟨k0, k1, k2, k3, k4, k5, k6, k7, k8, k9, k10⟩ := kk.out W hC
      go_simp
      exact hK _ hC (Below.refl _ _)
     ·
      have r5 : a.tmps[5]? = some (.pointer (some ⟨w1.heap.size, 0, none⟩)) := by rw [ha]; kernel_rfl
      clear ha hU hD
      obtain ⟨k0, k1, k2, k3, k4, k5, k6, k7, k8, k9, k10⟩ := kk.out W hC
      go_simp
      exact hK _ hC (Below.refl _ _)
     ·
      have r18 : a.tmps[18]? = some (vs 0) := by rw [ha]; kernel_rfl
      have q0 : vs 0 = .agg #[.int .i64 a0, .int .i64 a1, .int .i64 a2, .int .i64 a3, .int .i64 a4] := hD 0 (by simp [waits, Region.binds])
      rw [q0] at r18
      have r19 : a.tmps[19]? = some (vs 1) := by rw [ha]; kernel_rfl
      have q1 : vs 1 = .agg #[.int .i64 a0, .int .i64 a1, .int .i64 a2, .int .i64 a3, .int .i64 a4] := hD 1 (by simp [waits, Region.binds])
      rw [q1] at r19
      clear ha hU hD
      go_simp
      exact hK _ hC (Below.refl _ _)
     ·
      have r20 : a.tmps[20]? = some (vs 2) := by rw [ha]; kernel_rfl
      have q2 : vs 2 = .bool true := hD 2 (by simp [waits, Region.binds])
      rw [q2] at r20
      clear ha hU hD
      go_simp
      exact hK _ hC (Below.refl _ _)
     ·
      have r21 : a.tmps[21]? = some (vs 3) := by rw [ha]; kernel_rfl
      have q3 : vs 3 = .bool true := hD 3 (by simp [waits, Region.binds])
      rw [q3] at r21
      clear ha hU hD
      rw [if_neg (by simp [Region.wanted, yielded, r21, undef])]
     ·
      have r21 : a.tmps[21]? = some (vs 3) := by rw [ha]; kernel_rfl
      have q3 : vs 3 = .bool true := hD 3 (by simp [waits, Region.binds])
      rw [q3] at r21
      clear ha hU hD
      rw [if_neg (by simp [Region.wanted, yielded, r21, undef])]
     ·
      have r23 : a.tmps[23]? = some (vs 5) := by rw [ha]; kernel_rfl
      have q5 : vs 5 = undef := hD 5 (by simp [waits, Region.binds])
      rw [q5] at r23
      clear ha hU hD
      rw [if_neg (by simp [Region.wanted, yielded, r23, undef])]
     ·
      have r23 : a.tmps[23]? = some (vs 5) := by rw [ha]; kernel_rfl
      have q5 : vs 5 = undef := hD 5 (by simp [waits, Region.binds])
      rw [q5] at r23
      clear ha hU hD
      rw [if_neg (by simp [Region.wanted, yielded, r23, undef])]
     ·
      have r23 : a.tmps[23]? = some (vs 5) := by rw [ha]; kernel_rfl
      have q5 : vs 5 = undef := hD 5 (by simp [waits, Region.binds])
      rw [q5] at r23
      clear ha hU hD
      rw [if_neg (by simp [Region.wanted, yielded, r23, undef])]
     ·
      have r23 : a.tmps[23]? = some (vs 5) := by rw [ha]; kernel_rfl
      have q5 : vs 5 = undef := hD 5 (by simp [waits, Region.binds])
      rw [q5] at r23
      clear ha hU hD
      rw [if_neg (by simp [Region.wanted, yielded, r23, undef])]
     ·
      have r23 : a.tmps[23]? = some (vs 5) := by rw [ha]; kernel_rfl
      have q5 : vs 5 = undef := hD 5 (by simp [waits, Region.binds])
      rw [q5] at r23
      clear ha hU hD
      rw [if_neg (by simp [Region.wanted, yielded, r23, undef])]
     ·
      have r23 : a.tmps[23]? = some (vs 5) := by rw [ha]; kernel_rfl
      have q5 : vs 5 = undef := hD 5 (by simp [waits, Region.binds])
      rw [q5] at r23
      clear ha hU hD
      rw [if_neg (by simp [Region.wanted, yielded, r23, undef])]
     ·
      have r23 : a.tmps[23]? = some (vs 5) := by rw [ha]; kernel_rfl
      have q5 : vs 5 = undef := hD 5 (by simp [waits, Region.binds])
      rw [q5] at r23
      clear ha hU hD
      rw [if_neg (by simp [Region.wanted, yielded, r23, undef])]
     ·
      have r23 : a.tmps[23]? = some (vs 5) := by rw [ha]; kernel_rfl
      have q5 : vs 5 = undef := hD 5 (by simp [waits, Region.binds])
      rw [q5] at r23
      clear ha hU hD
      rw [if_neg (by simp [Region.wanted, yielded, r23, undef])]
     ·
      have r21 : a.tmps[21]? = some (vs 3) := by rw [ha]; kernel_rfl
      have q3 : vs 3 = .bool true := hD 3 (by simp [waits, Region.binds])
      rw [q3] at r21
      clear ha hU hD
      rw [if_neg (by simp [Region.wanted, yielded, r21, undef])]
     have r21 : a.tmps[21]? = some (vs 3) := by rw [ha]; kernel_rfl
     have q3 : vs 3 = .bool true := hD 3 (by simp [waits, Region.binds])
     rw [q3] at r21
     have r32 : a.tmps[32]? = some (vs 14) := by rw [ha]; kernel_rfl
     have q14 : vs 14 = undef := hD 14 (by simp [waits, Region.binds])
     rw [q14] at r32
     clear ha hU hD
     go_simp
     exact hK _ hC (Below.refl _ _)
    intro vs W hC hE hU
    have e15 := hE 15 (by simp)
    simp only [envOf, List.getD_cons_succ, List.getD_cons_zero, isV] at e15
    have hF3 := hF2.bl hC
    have hB3 := hB2.bl hC
    have hT3 := hT2.bl hC
    have hf0 := hF3.cell 0
    have hff := hF3.frozen 0
    have hfl := hF3.lt
    obtain ⟨k0, k1, k2, k3, k4, k5, k6, k7, k8, k9, k10⟩ := kk.out W hC
    simp only [fillA, Act.put, List.setIfInBounds_toArray, List.set_cons_zero, List.set_cons_succ, Nat.zero_add, Nat.reduceAdd, e15]
    have HC := Lib.hid hC
    clear e15 hE hU hC
    simp [Region.wanted, yielded]
    by_cases hi0 : i = 0
    ·subst hi0
     simp at k10 hf0
     gi_wp2
     refine ⟨(Kept.of_bl HC.out).trans (Kept.setCell _ _ _ hOf), O, fun k h => .inl h, rfl, ?_, ?_⟩
     ·rw [bestK_same HX.out (HAV.out.trans HBV.out.symm), HBV.out]; exact hB3.far (by dsimp only; omega) _
     try rw [decide_eq_true (Nat.succ_pos _)]
     exact hF3.set_ 0 _
    have hdt : decide (0 < i) = true := decide_eq_true (by omega)
    rw [hdt] at k10 hf0
    gi_wp2
    refine ⟨(Kept.of_bl HC.out).trans (Kept.setCell _ _ _ hOf), O, fun k h => .inl h, rfl, ?_, ?_⟩
    ·rw [bestK_same HX.out (HAV.out.trans HBV.out.symm), HBV.out]; exact hB3.far (by dsimp only; omega) _
    try rw [decide_eq_true (Nat.succ_pos _)]
    exact hF3.set_ 0 _
   have heqv : ∀ W, (Op.equalIn 10000 98 (.agg #[.int .i64 a0, .int .i64 a1, .int .i64 a2, .int .i64 a3, .int .i64 a4]) (.agg #[.int .i64 b0, .int .i64 b1, .int .i64 b2, .int .i64 b3, .int .i64 b4])).run Tryz.prog W = .ok false W := fun W => by rw [eq_truth, decide_eq_false heq]
   by_cases hi0 : i = 0
   ·subst hi0
    rw [show decide (0 < 0) = false from rfl] at kk
    refine wpIn_region_list1 (F := Fence.wide.inRound l) (r := some l) rfl (fun W => Below A2.heap.size A2 W) (fun w w' => Below w.heap.size w w')
     [isV (.agg #[.int .i64 a0, .int .i64 a1, .int .i64 a2, .int .i64 a3, .int .i64 a4]), isV (.agg #[.int .i64 b0, .int .i64 b1, .int .i64 b2, .int .i64 b3, .int .i64 b4]), isV (.bool false), isV (.bool false), isV (.bool false), isV (.bool false), isV (undef), isV (undef), isV (undef), isV (undef), isV (undef), isV (undef), isV (undef), isV (undef), isV (.bool false), isV (.bool false)]
     (by kernel_rfl) (by kernel_rfl) (by kernel_rfl) (by simp) (by simp) (Below.refl _ _).drew ?stabb ?stepb ?finb
    case stabb => exact (StabL.is (StabL.is (StabL.is (StabL.is (StabL.is (StabL.is (StabL.is (StabL.is (StabL.is (StabL.is (StabL.is (StabL.is (StabL.is (StabL.is (StabL.is (StabL.is StabL.nil))))))))))))))))
    case stepb =>
     refine StepsL.isA ?_ (StepsL.isA ?_ (StepsL.isA ?_ (StepsL.isA ?_ (StepsL.isA ?_ (StepsL.isA ?_ (StepsL.isA ?_ (StepsL.isA ?_ (StepsL.isA ?_ (StepsL.isA ?_ (StepsL.isA ?_ (StepsL.isA ?_ (StepsL.isA ?_ (StepsL.isA ?_ (StepsL.isA ?_ (StepsL.isA ?_ StepsL.nil)))))))))))))))
     all_goals intro vs a W K ha hC hD hU hK
     all_goals try rw [if_pos (by rfl)]
     ·
      have r7 : a.tmps[7]? = some (.pointer (some ⟨A1.heap.size, 0, none⟩)) := by rw [ha]; kernel_rfl
      clear ha hU hD
      obtain ⟨k0, k1, k2, k3, k4, k5, k6, k7, k8, k9, k10⟩ := kk.out W hC
      go_simp
      exact hK _ hC (Below.refl _ _)
     ·
      have r5 : a.tmps[5]? = some (.pointer (some ⟨w1.heap.size, 0, none⟩)) := by rw [ha]; kernel_rfl
      clear ha hU hD
      obtain ⟨k0, k1, k2, k3, k4, k5, k6, k7, k8, k9, k10⟩ := kk.out W hC
      go_simp
      exact hK _ hC (Below.refl _ _)
     ·
      have r18 : a.tmps[18]? = some (vs 0) := by rw [ha]; kernel_rfl
      have q0 : vs 0 = .agg #[.int .i64 a0, .int .i64 a1, .int .i64 a2, .int .i64 a3, .int .i64 a4] := hD 0 (by simp [waits, Region.binds])
      rw [q0] at r18
      have r19 : a.tmps[19]? = some (vs 1) := by rw [ha]; kernel_rfl
      have q1 : vs 1 = .agg #[.int .i64 b0, .int .i64 b1, .int .i64 b2, .int .i64 b3, .int .i64 b4] := hD 1 (by simp [waits, Region.binds])
      rw [q1] at r19
      clear ha hU hD
      go_simp
      exact hK _ hC (Below.refl _ _)
     ·
      have r20 : a.tmps[20]? = some (vs 2) := by rw [ha]; kernel_rfl
      have q2 : vs 2 = .bool false := hD 2 (by simp [waits, Region.binds])
      rw [q2] at r20
      clear ha hU hD
      go_simp
      exact hK _ hC (Below.refl _ _)
     ·
      have r21 : a.tmps[21]? = some (vs 3) := by rw [ha]; kernel_rfl
      have q3 : vs 3 = .bool false := hD 3 (by simp [waits, Region.binds])
      rw [q3] at r21
      have r6 : a.tmps[6]? = some (.pointer (some ⟨w1.heap.size + 1, 0, none⟩)) := by rw [ha]; kernel_rfl
      clear ha hU hD
      rw [if_pos (by simp [Region.wanted, yielded, r21])]
      obtain ⟨k0, k1, k2, k3, k4, k5, k6, k7, k8, k9, k10⟩ := kk.out W hC
      go_simp
      exact hK _ hC (Below.refl _ _)
     ·
      have r21 : a.tmps[21]? = some (vs 3) := by rw [ha]; kernel_rfl
      have q3 : vs 3 = .bool false := hD 3 (by simp [waits, Region.binds])
      rw [q3] at r21
      have r22 : a.tmps[22]? = some (vs 4) := by rw [ha]; kernel_rfl
      have q4 : vs 4 = .bool false := hD 4 (by simp [waits, Region.binds])
      rw [q4] at r22
      clear ha hU hD
      rw [if_pos (by simp [Region.wanted, yielded, r21])]
      go_simp
      exact hK _ hC (Below.refl _ _)
     ·
      have r23 : a.tmps[23]? = some (vs 5) := by rw [ha]; kernel_rfl
      have q5 : vs 5 = .bool false := hD 5 (by simp [waits, Region.binds])
      rw [q5] at r23
      clear ha hU hD
      rw [if_neg (by simp [Region.wanted, yielded, r23, undef])]
     ·
      have r23 : a.tmps[23]? = some (vs 5) := by rw [ha]; kernel_rfl
      have q5 : vs 5 = .bool false := hD 5 (by simp [waits, Region.binds])
      rw [q5] at r23
      clear ha hU hD
      rw [if_neg (by simp [Region.wanted, yielded, r23, undef])]
     ·
      have r23 : a.tmps[23]? = some (vs 5) := by rw [ha]; kernel_rfl
      have q5 : vs 5 = .bool false := hD 5 (by simp [waits, Region.binds])
      rw [q5] at r23
      clear ha hU hD
      rw [if_neg (by simp [Region.wanted, yielded, r23, undef])]
     ·
      have r23 : a.tmps[23]? = some (vs 5) := by rw [ha]; kernel_rfl
      have q5 : vs 5 = .bool false := hD 5 (by simp [waits, Region.binds])
      rw [q5] at r23
      clear ha hU hD
      rw [if_neg (by simp [Region.wanted, yielded, r23, undef])]
     ·
      have r23 : a.tmps[23]? = some (vs 5) := by rw [ha]; kernel_rfl
      have q5 : vs 5 = .bool false := hD 5 (by simp [waits, Region.binds])
      rw [q5] at r23
      clear ha hU hD
      rw [if_neg (by simp [Region.wanted, yielded, r23, undef])]
     ·
      have r23 : a.tmps[23]? = some (vs 5) := by rw [ha]; kernel_rfl
      have q5 : vs 5 = .bool false := hD 5 (by simp [waits, Region.binds])
      rw [q5] at r23
      clear ha hU hD
      rw [if_neg (by simp [Region.wanted, yielded, r23, undef])]
     ·
      have r23 : a.tmps[23]? = some (vs 5) := by rw [ha]; kernel_rfl
      have q5 : vs 5 = .bool false := hD 5 (by simp [waits, Region.binds])
      rw [q5] at r23
      clear ha hU hD
      rw [if_neg (by simp [Region.wanted, yielded, r23, undef])]
     ·
      have r23 : a.tmps[23]? = some (vs 5) := by rw [ha]; kernel_rfl
      have q5 : vs 5 = .bool false := hD 5 (by simp [waits, Region.binds])
      rw [q5] at r23
      clear ha hU hD
      rw [if_neg (by simp [Region.wanted, yielded, r23, undef])]
     ·
      have r21 : a.tmps[21]? = some (vs 3) := by rw [ha]; kernel_rfl
      have q3 : vs 3 = .bool false := hD 3 (by simp [waits, Region.binds])
      rw [q3] at r21
      have r23 : a.tmps[23]? = some (vs 5) := by rw [ha]; kernel_rfl
      have q5 : vs 5 = .bool false := hD 5 (by simp [waits, Region.binds])
      rw [q5] at r23
      have r31 : a.tmps[31]? = some (vs 13) := by rw [ha]; kernel_rfl
      have q13 : vs 13 = undef := hD 13 (by simp [waits, Region.binds])
      rw [q13] at r31
      clear ha hU hD
      rw [if_pos (by simp [Region.wanted, yielded, r21])]
      go_simp
      exact hK _ hC (Below.refl _ _)
     have r21 : a.tmps[21]? = some (vs 3) := by rw [ha]; kernel_rfl
     have q3 : vs 3 = .bool false := hD 3 (by simp [waits, Region.binds])
     rw [q3] at r21
     have r32 : a.tmps[32]? = some (vs 14) := by rw [ha]; kernel_rfl
     have q14 : vs 14 = .bool false := hD 14 (by simp [waits, Region.binds])
     rw [q14] at r32
     clear ha hU hD
     go_simp
     exact hK _ hC (Below.refl _ _)
    intro vs W hC hE hU
    have e15 := hE 15 (by simp)
    simp only [envOf, List.getD_cons_succ, List.getD_cons_zero, isV] at e15
    have hF3 := hF2.bl hC
    have hB3 := hB2.bl hC
    have hT3 := hT2.bl hC
    have hf0 := hF3.cell 0
    have hff := hF3.frozen 0
    have hfl := hF3.lt
    obtain ⟨k0, k1, k2, k3, k4, k5, k6, k7, k8, k9, k10⟩ := kk.out W hC
    simp only [fillA, Act.put, List.setIfInBounds_toArray, List.set_cons_zero, List.set_cons_succ, Nat.zero_add, Nat.reduceAdd, e15]
    have HC := Lib.hid hC
    clear e15 hE hU hC
    simp [Region.wanted, yielded]
    have m0 := hB3.frozen 0
    have m1 := hB3.frozen 1
    have m2 := hB3.frozen 2
    have m3 := hB3.frozen 3
    have m4 := hB3.frozen 4
    have mlt := hB3.lt
    have hne : w1.heap.size + 1 ≠ w1.heap.size := by omega
    have hq : (((((W.setCell ⟨w1.heap.size, 0, none⟩ (.int .i64 a0)).setCell ⟨w1.heap.size, 1, none⟩ (.int .i64 a1)).setCell ⟨w1.heap.size, 2, none⟩ (.int .i64 a2)).setCell ⟨w1.heap.size, 3, none⟩ (.int .i64 a3)).setCell ⟨w1.heap.size, 4, none⟩ (.int .i64 a4)).cell? ⟨w1.heap.size + 1, 0, none⟩ = some (.bool false) := setc (setc (setc (setc (setc k10 hne) hne) hne) hne) hne
    gi_wp2
    refine ⟨(((((((Kept.of_bl HC.out).trans (Kept.setCell _ _ _ hOb)).trans (Kept.setCell _ _ _ hOb)).trans (Kept.setCell _ _ _ hOb)).trans (Kept.setCell _ _ _ hOb)).trans (Kept.setCell _ _ _ hOb)).trans (Kept.setCell _ _ _ hOf)), O, fun k h => .inl h, rfl, ?_, ?_⟩
    ·rw [bestK_one HX.out, HAV.out]; exact (((((hB3.set_ 0 _).set_ 1 _).set_ 2 _).set_ 3 _).set_ 4 _).far (by dsimp only; omega) _
    try rw [decide_eq_true (Nat.succ_pos _)]
    exact (((((hF3.far (by dsimp only; omega) _).far (by dsimp only; omega) _).far (by dsimp only; omega) _).far (by dsimp only; omega) _).far (by dsimp only; omega) _).set_ 0 _
   have hi1 : 0 < i := by omega
   have hdt : decide (0 < i) = true := decide_eq_true hi1
   rw [hdt] at kk
   have HLB := Lib.hid (HBN.out hi1)
   have hz := order_less (setL x) (setL (bestK c i))
   generalize hzz : orderL (setL x) (setL (bestK c i)) = z at hz
   have Hz := Lib.hid hzz
   have hbs := bestK_succ HX.out hi1
   rw [better] at hbs
   generalize setN [a0, a1, a2, a3, a4] = sx at hsa HLN hlt32
   generalize setN [b0, b1, b2, b3, b4] = sb at hsbb HLB hb32
   have HSA := Lib.hid hsa
   have HSB := Lib.hid hsbb
   have hsx := hlt32
   have hsb := hb32
   have HLA := HLN
   clear hzz hsa hsbb hlt32 hb32
   by_cases hlz : z < 0
   ·rw [decide_eq_true hlz] at hz
    rw [← hz, if_pos rfl] at hbs
    have HBS := Lib.hid hbs
    clear hz hbs
    have hlz0 : ¬ (0 ≤ z) := by omega
    have hlz1 : ¬ (z ≥ 0) := by omega
    have hlz2 : decide (0 ≤ z) = false := decide_eq_false hlz0
    refine wpIn_region_list1 (F := Fence.wide.inRound l) (r := some l) rfl (fun W => Below A2.heap.size A2 W) (fun w w' => Below w.heap.size w w')
     [isV (.agg #[.int .i64 a0, .int .i64 a1, .int .i64 a2, .int .i64 a3, .int .i64 a4]), isV (.agg #[.int .i64 b0, .int .i64 b1, .int .i64 b2, .int .i64 b3, .int .i64 b4]), isV (.bool false), isV (.bool false), isV (.bool true), isV (.bool true), isV (.agg #[.int .i64 a0, .int .i64 a1, .int .i64 a2, .int .i64 a3, .int .i64 a4]), isV (.int .i64 sx), IsInts A2.heap.size (setL x), isV (.agg #[.int .i64 b0, .int .i64 b1, .int .i64 b2, .int .i64 b3, .int .i64 b4]), isV (.int .i64 sb), IsInts A2.heap.size (setL (bestK c i)), isV (.int .i64 z), isV (.bool false), isV (.bool false), isV (.bool false)]
     (by kernel_rfl) (by kernel_rfl) (by kernel_rfl) (by simp) (by simp) (Below.refl _ _).drew ?stabd ?stepd ?find
    case stabd => exact (StabL.is (StabL.is (StabL.is (StabL.is (StabL.is (StabL.is (StabL.is (StabL.is (StabL.cons (fun v W V hC hX h => h.bl hX) (StabL.is (StabL.is (StabL.cons (fun v W V hC hX h => h.bl hX) (StabL.is (StabL.is (StabL.is (StabL.is StabL.nil))))))))))))))))
    case stepd =>
     refine StepsL.isA ?_ (StepsL.isA ?_ (StepsL.isA ?_ (StepsL.isA ?_ (StepsL.isA ?_ (StepsL.isA ?_ (StepsL.isA ?_ (StepsL.isA ?_ (StepsL.consA ?_ (StepsL.isA ?_ (StepsL.isA ?_ (StepsL.consA ?_ (StepsL.isA ?_ (StepsL.isA ?_ (StepsL.isA ?_ (StepsL.isA ?_ StepsL.nil)))))))))))))))
     all_goals intro vs a W K ha hC hD hU hK
     all_goals try rw [if_pos (by rfl)]
     ·
      have r7 : a.tmps[7]? = some (.pointer (some ⟨A1.heap.size, 0, none⟩)) := by rw [ha]; kernel_rfl
      clear ha hU hD
      obtain ⟨k0, k1, k2, k3, k4, k5, k6, k7, k8, k9, k10⟩ := kk.out W hC
      go_simp
      exact hK _ hC (Below.refl _ _)
     ·
      have r5 : a.tmps[5]? = some (.pointer (some ⟨w1.heap.size, 0, none⟩)) := by rw [ha]; kernel_rfl
      clear ha hU hD
      obtain ⟨k0, k1, k2, k3, k4, k5, k6, k7, k8, k9, k10⟩ := kk.out W hC
      go_simp
      exact hK _ hC (Below.refl _ _)
     ·
      have r18 : a.tmps[18]? = some (vs 0) := by rw [ha]; kernel_rfl
      have q0 : vs 0 = .agg #[.int .i64 a0, .int .i64 a1, .int .i64 a2, .int .i64 a3, .int .i64 a4] := hD 0 (by simp [waits, Region.binds])
      rw [q0] at r18
      have r19 : a.tmps[19]? = some (vs 1) := by rw [ha]; kernel_rfl
      have q1 : vs 1 = .agg #[.int .i64 b0, .int .i64 b1, .int .i64 b2, .int .i64 b3, .int .i64 b4] := hD 1 (by simp [waits, Region.binds])
      rw [q1] at r19
      clear ha hU hD
      go_simp
      exact hK _ hC (Below.refl _ _)
     ·
      have r20 : a.tmps[20]? = some (vs 2) := by rw [ha]; kernel_rfl
      have q2 : vs 2 = .bool false := hD 2 (by simp [waits, Region.binds])
      rw [q2] at r20
      clear ha hU hD
      go_simp
      exact hK _ hC (Below.refl _ _)
     ·
      have r21 : a.tmps[21]? = some (vs 3) := by rw [ha]; kernel_rfl
      have q3 : vs 3 = .bool false := hD 3 (by simp [waits, Region.binds])
      rw [q3] at r21
      have r6 : a.tmps[6]? = some (.pointer (some ⟨w1.heap.size + 1, 0, none⟩)) := by rw [ha]; kernel_rfl
      clear ha hU hD
      rw [if_pos (by simp [Region.wanted, yielded, r21])]
      obtain ⟨k0, k1, k2, k3, k4, k5, k6, k7, k8, k9, k10⟩ := kk.out W hC
      go_simp
      exact hK _ hC (Below.refl _ _)
     ·
      have r21 : a.tmps[21]? = some (vs 3) := by rw [ha]; kernel_rfl
      have q3 : vs 3 = .bool false := hD 3 (by simp [waits, Region.binds])
      rw [q3] at r21
      have r22 : a.tmps[22]? = some (vs 4) := by rw [ha]; kernel_rfl
      have q4 : vs 4 = .bool true := hD 4 (by simp [waits, Region.binds])
      rw [q4] at r22
      clear ha hU hD
      rw [if_pos (by simp [Region.wanted, yielded, r21])]
      go_simp
      exact hK _ hC (Below.refl _ _)
     ·
      have r23 : a.tmps[23]? = some (vs 5) := by rw [ha]; kernel_rfl
      have q5 : vs 5 = .bool true := hD 5 (by simp [waits, Region.binds])
      rw [q5] at r23
      have r7 : a.tmps[7]? = some (.pointer (some ⟨A1.heap.size, 0, none⟩)) := by rw [ha]; kernel_rfl
      clear ha hU hD
      rw [if_pos (by simp [Region.wanted, yielded, r23])]
      obtain ⟨k0, k1, k2, k3, k4, k5, k6, k7, k8, k9, k10⟩ := kk.out W hC
      go_simp
      exact hK _ hC (Below.refl _ _)
     ·
      have r23 : a.tmps[23]? = some (vs 5) := by rw [ha]; kernel_rfl
      have q5 : vs 5 = .bool true := hD 5 (by simp [waits, Region.binds])
      rw [q5] at r23
      have r24 : a.tmps[24]? = some (vs 6) := by rw [ha]; kernel_rfl
      have q6 : vs 6 = .agg #[.int .i64 a0, .int .i64 a1, .int .i64 a2, .int .i64 a3, .int .i64 a4] := hD 6 (by simp [waits, Region.binds])
      rw [q6] at r24
      clear ha hU hD
      rw [if_pos (by simp [Region.wanted, yielded, r23])]
      go_simp
      refine (HSA.out W).mono ?_
      rintro e w' ⟨rfl, hb⟩
      exact hK _ (bl_call hC hb (Nat.le_refl _)) hb
     ·
      have r23 : a.tmps[23]? = some (vs 5) := by rw [ha]; kernel_rfl
      have q5 : vs 5 = .bool true := hD 5 (by simp [waits, Region.binds])
      rw [q5] at r23
      have r25 : a.tmps[25]? = some (vs 7) := by rw [ha]; kernel_rfl
      have q7 : vs 7 = .int .i64 sx := hD 7 (by simp [waits, Region.binds])
      rw [q7] at r25
      clear ha hU hD
      rw [if_pos (by simp [Region.wanted, yielded, r23])]
      go_simp
      refine (list64_any sx W (htab2.bl hC) hsx).mono ?_
      rintro e w' ⟨A', n', c', rfl, hI, hb⟩
      rw [HLA.out] at hI
      exact hK _ _ (bl_call hC hb (Nat.le_refl _)) hb ⟨A', n', c', rfl, hI.mono IntR.good (fun k h => by have := hC.size; omega)⟩
     ·
      have r23 : a.tmps[23]? = some (vs 5) := by rw [ha]; kernel_rfl
      have q5 : vs 5 = .bool true := hD 5 (by simp [waits, Region.binds])
      rw [q5] at r23
      have r5 : a.tmps[5]? = some (.pointer (some ⟨w1.heap.size, 0, none⟩)) := by rw [ha]; kernel_rfl
      clear ha hU hD
      rw [if_pos (by simp [Region.wanted, yielded, r23])]
      obtain ⟨k0, k1, k2, k3, k4, k5, k6, k7, k8, k9, k10⟩ := kk.out W hC
      go_simp
      exact hK _ hC (Below.refl _ _)
     ·
      have r23 : a.tmps[23]? = some (vs 5) := by rw [ha]; kernel_rfl
      have q5 : vs 5 = .bool true := hD 5 (by simp [waits, Region.binds])
      rw [q5] at r23
      have r27 : a.tmps[27]? = some (vs 9) := by rw [ha]; kernel_rfl
      have q9 : vs 9 = .agg #[.int .i64 b0, .int .i64 b1, .int .i64 b2, .int .i64 b3, .int .i64 b4] := hD 9 (by simp [waits, Region.binds])
      rw [q9] at r27
      clear ha hU hD
      rw [if_pos (by simp [Region.wanted, yielded, r23])]
      go_simp
      refine (HSB.out W).mono ?_
      rintro e w' ⟨rfl, hb⟩
      exact hK _ (bl_call hC hb (Nat.le_refl _)) hb
     ·
      have r23 : a.tmps[23]? = some (vs 5) := by rw [ha]; kernel_rfl
      have q5 : vs 5 = .bool true := hD 5 (by simp [waits, Region.binds])
      rw [q5] at r23
      have r28 : a.tmps[28]? = some (vs 10) := by rw [ha]; kernel_rfl
      have q10 : vs 10 = .int .i64 sb := hD 10 (by simp [waits, Region.binds])
      rw [q10] at r28
      clear ha hU hD
      rw [if_pos (by simp [Region.wanted, yielded, r23])]
      go_simp
      refine (list64_any sb W (htab2.bl hC) hsb).mono ?_
      rintro e w' ⟨A', n', c', rfl, hI, hb⟩
      rw [HLB.out] at hI
      exact hK _ _ (bl_call hC hb (Nat.le_refl _)) hb ⟨A', n', c', rfl, hI.mono IntR.good (fun k h => by have := hC.size; omega)⟩
     ·
      have r23 : a.tmps[23]? = some (vs 5) := by rw [ha]; kernel_rfl
      have q5 : vs 5 = .bool true := hD 5 (by simp [waits, Region.binds])
      rw [q5] at r23
      have r26 : a.tmps[26]? = some (vs 8) := by rw [ha]; kernel_rfl
      have q8 : IsInts A2.heap.size (setL x) (vs 8) W := hD 8 (by simp [waits, Region.binds])
      obtain ⟨A26, n26, c26, q8, hI26⟩ := q8
      rw [q8] at r26
      have r29 : a.tmps[29]? = some (vs 11) := by rw [ha]; kernel_rfl
      have q11 : IsInts A2.heap.size (setL (bestK c i)) (vs 11) W := hD 11 (by simp [waits, Region.binds])
      obtain ⟨A29, n29, c29, q11, hI29⟩ := q11
      rw [q11] at r29
      clear ha hU hD
      rw [if_pos (by simp [Region.wanted, yielded, r23])]
      go_simp
      refine (order_any W hI26 hI29).mono ?_
      rintro e w' ⟨rfl, rfl⟩
      rw [Hz.out]
      exact hK _ hC (Below.refl _ _)
     ·
      have r23 : a.tmps[23]? = some (vs 5) := by rw [ha]; kernel_rfl
      have q5 : vs 5 = .bool true := hD 5 (by simp [waits, Region.binds])
      rw [q5] at r23
      have r30 : a.tmps[30]? = some (vs 12) := by rw [ha]; kernel_rfl
      have q12 : vs 12 = .int .i64 z := hD 12 (by simp [waits, Region.binds])
      rw [q12] at r30
      clear ha hU hD
      rw [if_pos (by simp [Region.wanted, yielded, r23])]
      go_simp
      exact hK _ hC (Below.refl _ _)
     ·
      have r21 : a.tmps[21]? = some (vs 3) := by rw [ha]; kernel_rfl
      have q3 : vs 3 = .bool false := hD 3 (by simp [waits, Region.binds])
      rw [q3] at r21
      have r23 : a.tmps[23]? = some (vs 5) := by rw [ha]; kernel_rfl
      have q5 : vs 5 = .bool true := hD 5 (by simp [waits, Region.binds])
      rw [q5] at r23
      have r31 : a.tmps[31]? = some (vs 13) := by rw [ha]; kernel_rfl
      have q13 : vs 13 = .bool false := hD 13 (by simp [waits, Region.binds])
      rw [q13] at r31
      clear ha hU hD
      rw [if_pos (by simp [Region.wanted, yielded, r21])]
      go_simp
      exact hK _ hC (Below.refl _ _)
     have r21 : a.tmps[21]? = some (vs 3) := by rw [ha]; kernel_rfl
     have q3 : vs 3 = .bool false := hD 3 (by simp [waits, Region.binds])
     rw [q3] at r21
     have r32 : a.tmps[32]? = some (vs 14) := by rw [ha]; kernel_rfl
     have q14 : vs 14 = .bool false := hD 14 (by simp [waits, Region.binds])
     rw [q14] at r32
     clear ha hU hD
     go_simp
     exact hK _ hC (Below.refl _ _)
    intro vs W hC hE hU
    have e15 := hE 15 (by simp)
    simp only [envOf, List.getD_cons_succ, List.getD_cons_zero, isV] at e15
    have hF3 := hF2.bl hC
    have hB3 := hB2.bl hC
    have hT3 := hT2.bl hC
    have hf0 := hF3.cell 0
    have hff := hF3.frozen 0
    have hfl := hF3.lt
    obtain ⟨k0, k1, k2, k3, k4, k5, k6, k7, k8, k9, k10⟩ := kk.out W hC
    simp only [fillA, Act.put, List.setIfInBounds_toArray, List.set_cons_zero, List.set_cons_succ, Nat.zero_add, Nat.reduceAdd, e15]
    have HC := Lib.hid hC
    clear e15 hE hU hC
    simp [Region.wanted, yielded]
    have m0 := hB3.frozen 0
    have m1 := hB3.frozen 1
    have m2 := hB3.frozen 2
    have m3 := hB3.frozen 3
    have m4 := hB3.frozen 4
    have mlt := hB3.lt
    have hne : w1.heap.size + 1 ≠ w1.heap.size := by omega
    have hq : (((((W.setCell ⟨w1.heap.size, 0, none⟩ (.int .i64 a0)).setCell ⟨w1.heap.size, 1, none⟩ (.int .i64 a1)).setCell ⟨w1.heap.size, 2, none⟩ (.int .i64 a2)).setCell ⟨w1.heap.size, 3, none⟩ (.int .i64 a3)).setCell ⟨w1.heap.size, 4, none⟩ (.int .i64 a4)).cell? ⟨w1.heap.size + 1, 0, none⟩ = some (.bool true) := setc (setc (setc (setc (setc k10 hne) hne) hne) hne) hne
    gi_wp2
    refine ⟨(((((((Kept.of_bl HC.out).trans (Kept.setCell _ _ _ hOb)).trans (Kept.setCell _ _ _ hOb)).trans (Kept.setCell _ _ _ hOb)).trans (Kept.setCell _ _ _ hOb)).trans (Kept.setCell _ _ _ hOb)).trans (Kept.setCell _ _ _ hOf)), O, fun k h => .inl h, rfl, ?_, ?_⟩
    ·rw [HBS.out, HAV.out]; exact (((((hB3.set_ 0 _).set_ 1 _).set_ 2 _).set_ 3 _).set_ 4 _).far (by dsimp only; omega) _
    try rw [decide_eq_true (Nat.succ_pos _)]
    exact (((((hF3.far (by dsimp only; omega) _).far (by dsimp only; omega) _).far (by dsimp only; omega) _).far (by dsimp only; omega) _).far (by dsimp only; omega) _).set_ 0 _
   rw [decide_eq_false hlz] at hz
   rw [← hz, if_neg (by decide)] at hbs
   have HBS := Lib.hid hbs
   clear hz hbs
   have hlz0 : 0 ≤ z := by omega
   have hlz2 : decide (0 ≤ z) = true := decide_eq_true hlz0
   refine wpIn_region_list1 (F := Fence.wide.inRound l) (r := some l) rfl (fun W => Below A2.heap.size A2 W) (fun w w' => Below w.heap.size w w')
    [isV (.agg #[.int .i64 a0, .int .i64 a1, .int .i64 a2, .int .i64 a3, .int .i64 a4]), isV (.agg #[.int .i64 b0, .int .i64 b1, .int .i64 b2, .int .i64 b3, .int .i64 b4]), isV (.bool false), isV (.bool false), isV (.bool true), isV (.bool true), isV (.agg #[.int .i64 a0, .int .i64 a1, .int .i64 a2, .int .i64 a3, .int .i64 a4]), isV (.int .i64 sx), IsInts A2.heap.size (setL x), isV (.agg #[.int .i64 b0, .int .i64 b1, .int .i64 b2, .int .i64 b3, .int .i64 b4]), isV (.int .i64 sb), IsInts A2.heap.size (setL (bestK c i)), isV (.int .i64 z), isV (.bool true), isV (.bool true), isV (.bool true)]
    (by kernel_rfl) (by kernel_rfl) (by kernel_rfl) (by simp) (by simp) (Below.refl _ _).drew ?stabc ?stepc ?finc
   case stabc => exact (StabL.is (StabL.is (StabL.is (StabL.is (StabL.is (StabL.is (StabL.is (StabL.is (StabL.cons (fun v W V hC hX h => h.bl hX) (StabL.is (StabL.is (StabL.cons (fun v W V hC hX h => h.bl hX) (StabL.is (StabL.is (StabL.is (StabL.is StabL.nil))))))))))))))))
   case stepc =>
    refine StepsL.isA ?_ (StepsL.isA ?_ (StepsL.isA ?_ (StepsL.isA ?_ (StepsL.isA ?_ (StepsL.isA ?_ (StepsL.isA ?_ (StepsL.isA ?_ (StepsL.consA ?_ (StepsL.isA ?_ (StepsL.isA ?_ (StepsL.consA ?_ (StepsL.isA ?_ (StepsL.isA ?_ (StepsL.isA ?_ (StepsL.isA ?_ StepsL.nil)))))))))))))))
    all_goals intro vs a W K ha hC hD hU hK
    all_goals try rw [if_pos (by rfl)]
    ·
     have r7 : a.tmps[7]? = some (.pointer (some ⟨A1.heap.size, 0, none⟩)) := by rw [ha]; kernel_rfl
     clear ha hU hD
     obtain ⟨k0, k1, k2, k3, k4, k5, k6, k7, k8, k9, k10⟩ := kk.out W hC
     go_simp
     exact hK _ hC (Below.refl _ _)
    ·
     have r5 : a.tmps[5]? = some (.pointer (some ⟨w1.heap.size, 0, none⟩)) := by rw [ha]; kernel_rfl
     clear ha hU hD
     obtain ⟨k0, k1, k2, k3, k4, k5, k6, k7, k8, k9, k10⟩ := kk.out W hC
     go_simp
     exact hK _ hC (Below.refl _ _)
    ·
     have r18 : a.tmps[18]? = some (vs 0) := by rw [ha]; kernel_rfl
     have q0 : vs 0 = .agg #[.int .i64 a0, .int .i64 a1, .int .i64 a2, .int .i64 a3, .int .i64 a4] := hD 0 (by simp [waits, Region.binds])
     rw [q0] at r18
     have r19 : a.tmps[19]? = some (vs 1) := by rw [ha]; kernel_rfl
     have q1 : vs 1 = .agg #[.int .i64 b0, .int .i64 b1, .int .i64 b2, .int .i64 b3, .int .i64 b4] := hD 1 (by simp [waits, Region.binds])
     rw [q1] at r19
     clear ha hU hD
     go_simp
     exact hK _ hC (Below.refl _ _)
    ·
     have r20 : a.tmps[20]? = some (vs 2) := by rw [ha]; kernel_rfl
     have q2 : vs 2 = .bool false := hD 2 (by simp [waits, Region.binds])
     rw [q2] at r20
     clear ha hU hD
     go_simp
     exact hK _ hC (Below.refl _ _)
    ·
     have r21 : a.tmps[21]? = some (vs 3) := by rw [ha]; kernel_rfl
     have q3 : vs 3 = .bool false := hD 3 (by simp [waits, Region.binds])
     rw [q3] at r21
     have r6 : a.tmps[6]? = some (.pointer (some ⟨w1.heap.size + 1, 0, none⟩)) := by rw [ha]; kernel_rfl
     clear ha hU hD
     rw [if_pos (by simp [Region.wanted, yielded, r21])]
     obtain ⟨k0, k1, k2, k3, k4, k5, k6, k7, k8, k9, k10⟩ := kk.out W hC
     go_simp
     exact hK _ hC (Below.refl _ _)
    ·
     have r21 : a.tmps[21]? = some (vs 3) := by rw [ha]; kernel_rfl
     have q3 : vs 3 = .bool false := hD 3 (by simp [waits, Region.binds])
     rw [q3] at r21
     have r22 : a.tmps[22]? = some (vs 4) := by rw [ha]; kernel_rfl
     have q4 : vs 4 = .bool true := hD 4 (by simp [waits, Region.binds])
     rw [q4] at r22
     clear ha hU hD
     rw [if_pos (by simp [Region.wanted, yielded, r21])]
     go_simp
     exact hK _ hC (Below.refl _ _)
    ·
     have r23 : a.tmps[23]? = some (vs 5) := by rw [ha]; kernel_rfl
     have q5 : vs 5 = .bool true := hD 5 (by simp [waits, Region.binds])
     rw [q5] at r23
     have r7 : a.tmps[7]? = some (.pointer (some ⟨A1.heap.size, 0, none⟩)) := by rw [ha]; kernel_rfl
     clear ha hU hD
     rw [if_pos (by simp [Region.wanted, yielded, r23])]
     obtain ⟨k0, k1, k2, k3, k4, k5, k6, k7, k8, k9, k10⟩ := kk.out W hC
     go_simp
     exact hK _ hC (Below.refl _ _)
    ·
     have r23 : a.tmps[23]? = some (vs 5) := by rw [ha]; kernel_rfl
     have q5 : vs 5 = .bool true := hD 5 (by simp [waits, Region.binds])
     rw [q5] at r23
     have r24 : a.tmps[24]? = some (vs 6) := by rw [ha]; kernel_rfl
     have q6 : vs 6 = .agg #[.int .i64 a0, .int .i64 a1, .int .i64 a2, .int .i64 a3, .int .i64 a4] := hD 6 (by simp [waits, Region.binds])
     rw [q6] at r24
     clear ha hU hD
     rw [if_pos (by simp [Region.wanted, yielded, r23])]
     go_simp
     refine (HSA.out W).mono ?_
     rintro e w' ⟨rfl, hb⟩
     exact hK _ (bl_call hC hb (Nat.le_refl _)) hb
    ·
     have r23 : a.tmps[23]? = some (vs 5) := by rw [ha]; kernel_rfl
     have q5 : vs 5 = .bool true := hD 5 (by simp [waits, Region.binds])
     rw [q5] at r23
     have r25 : a.tmps[25]? = some (vs 7) := by rw [ha]; kernel_rfl
     have q7 : vs 7 = .int .i64 sx := hD 7 (by simp [waits, Region.binds])
     rw [q7] at r25
     clear ha hU hD
     rw [if_pos (by simp [Region.wanted, yielded, r23])]
     go_simp
     refine (list64_any sx W (htab2.bl hC) hsx).mono ?_
     rintro e w' ⟨A', n', c', rfl, hI, hb⟩
     rw [HLA.out] at hI
     exact hK _ _ (bl_call hC hb (Nat.le_refl _)) hb ⟨A', n', c', rfl, hI.mono IntR.good (fun k h => by have := hC.size; omega)⟩
    ·
     have r23 : a.tmps[23]? = some (vs 5) := by rw [ha]; kernel_rfl
     have q5 : vs 5 = .bool true := hD 5 (by simp [waits, Region.binds])
     rw [q5] at r23
     have r5 : a.tmps[5]? = some (.pointer (some ⟨w1.heap.size, 0, none⟩)) := by rw [ha]; kernel_rfl
     clear ha hU hD
     rw [if_pos (by simp [Region.wanted, yielded, r23])]
     obtain ⟨k0, k1, k2, k3, k4, k5, k6, k7, k8, k9, k10⟩ := kk.out W hC
     go_simp
     exact hK _ hC (Below.refl _ _)
    ·
     have r23 : a.tmps[23]? = some (vs 5) := by rw [ha]; kernel_rfl
     have q5 : vs 5 = .bool true := hD 5 (by simp [waits, Region.binds])
     rw [q5] at r23
     have r27 : a.tmps[27]? = some (vs 9) := by rw [ha]; kernel_rfl
     have q9 : vs 9 = .agg #[.int .i64 b0, .int .i64 b1, .int .i64 b2, .int .i64 b3, .int .i64 b4] := hD 9 (by simp [waits, Region.binds])
     rw [q9] at r27
     clear ha hU hD
     rw [if_pos (by simp [Region.wanted, yielded, r23])]
     go_simp
     refine (HSB.out W).mono ?_
     rintro e w' ⟨rfl, hb⟩
     exact hK _ (bl_call hC hb (Nat.le_refl _)) hb
    ·
     have r23 : a.tmps[23]? = some (vs 5) := by rw [ha]; kernel_rfl
     have q5 : vs 5 = .bool true := hD 5 (by simp [waits, Region.binds])
     rw [q5] at r23
     have r28 : a.tmps[28]? = some (vs 10) := by rw [ha]; kernel_rfl
     have q10 : vs 10 = .int .i64 sb := hD 10 (by simp [waits, Region.binds])
     rw [q10] at r28
     clear ha hU hD
     rw [if_pos (by simp [Region.wanted, yielded, r23])]
     go_simp
     refine (list64_any sb W (htab2.bl hC) hsb).mono ?_
     rintro e w' ⟨A', n', c', rfl, hI, hb⟩
     rw [HLB.out] at hI
     exact hK _ _ (bl_call hC hb (Nat.le_refl _)) hb ⟨A', n', c', rfl, hI.mono IntR.good (fun k h => by have := hC.size; omega)⟩
    ·
     have r23 : a.tmps[23]? = some (vs 5) := by rw [ha]; kernel_rfl
     have q5 : vs 5 = .bool true := hD 5 (by simp [waits, Region.binds])
     rw [q5] at r23
     have r26 : a.tmps[26]? = some (vs 8) := by rw [ha]; kernel_rfl
     have q8 : IsInts A2.heap.size (setL x) (vs 8) W := hD 8 (by simp [waits, Region.binds])
     obtain ⟨A26, n26, c26, q8, hI26⟩ := q8
     rw [q8] at r26
     have r29 : a.tmps[29]? = some (vs 11) := by rw [ha]; kernel_rfl
     have q11 : IsInts A2.heap.size (setL (bestK c i)) (vs 11) W := hD 11 (by simp [waits, Region.binds])
     obtain ⟨A29, n29, c29, q11, hI29⟩ := q11
     rw [q11] at r29
     clear ha hU hD
     rw [if_pos (by simp [Region.wanted, yielded, r23])]
     go_simp
     refine (order_any W hI26 hI29).mono ?_
     rintro e w' ⟨rfl, rfl⟩
     rw [Hz.out]
     exact hK _ hC (Below.refl _ _)
    ·
     have r23 : a.tmps[23]? = some (vs 5) := by rw [ha]; kernel_rfl
     have q5 : vs 5 = .bool true := hD 5 (by simp [waits, Region.binds])
     rw [q5] at r23
     have r30 : a.tmps[30]? = some (vs 12) := by rw [ha]; kernel_rfl
     have q12 : vs 12 = .int .i64 z := hD 12 (by simp [waits, Region.binds])
     rw [q12] at r30
     clear ha hU hD
     rw [if_pos (by simp [Region.wanted, yielded, r23])]
     go_simp
     exact hK _ hC (Below.refl _ _)
    ·
     have r21 : a.tmps[21]? = some (vs 3) := by rw [ha]; kernel_rfl
     have q3 : vs 3 = .bool false := hD 3 (by simp [waits, Region.binds])
     rw [q3] at r21
     have r23 : a.tmps[23]? = some (vs 5) := by rw [ha]; kernel_rfl
     have q5 : vs 5 = .bool true := hD 5 (by simp [waits, Region.binds])
     rw [q5] at r23
     have r31 : a.tmps[31]? = some (vs 13) := by rw [ha]; kernel_rfl
     have q13 : vs 13 = .bool true := hD 13 (by simp [waits, Region.binds])
     rw [q13] at r31
     clear ha hU hD
     rw [if_pos (by simp [Region.wanted, yielded, r21])]
     go_simp
     exact hK _ hC (Below.refl _ _)
    have r21 : a.tmps[21]? = some (vs 3) := by rw [ha]; kernel_rfl
    have q3 : vs 3 = .bool false := hD 3 (by simp [waits, Region.binds])
    rw [q3] at r21
    have r32 : a.tmps[32]? = some (vs 14) := by rw [ha]; kernel_rfl
    have q14 : vs 14 = .bool true := hD 14 (by simp [waits, Region.binds])
    rw [q14] at r32
    clear ha hU hD
    go_simp
    exact hK _ hC (Below.refl _ _)
   intro vs W hC hE hU
   have e15 := hE 15 (by simp)
   simp only [envOf, List.getD_cons_succ, List.getD_cons_zero, isV] at e15
   have hF3 := hF2.bl hC
   have hB3 := hB2.bl hC
   have hT3 := hT2.bl hC
   have hf0 := hF3.cell 0
   have hff := hF3.frozen 0
   have hfl := hF3.lt
   obtain ⟨k0, k1, k2, k3, k4, k5, k6, k7, k8, k9, k10⟩ := kk.out W hC
   simp only [fillA, Act.put, List.setIfInBounds_toArray, List.set_cons_zero, List.set_cons_succ, Nat.zero_add, Nat.reduceAdd, e15]
   have HC := Lib.hid hC
   clear e15 hE hU hC
   simp [Region.wanted, yielded]
   gi_wp2
   refine ⟨(Kept.of_bl HC.out).trans (Kept.setCell _ _ _ hOf), O, fun k h => .inl h, rfl, ?_, ?_⟩
   ·rw [HBS.out, HBV.out]; exact hB3.far (by dsimp only; omega) _
   try rw [decide_eq_true (Nat.succ_pos _)]
   exact hF3.set_ 0 _
  rintro O W' D ⟨rfl, h1, h2⟩ hO hK hD hnD hDb
  have hBW := hbig hK
  have hf0 := h2.cell 0
  by_cases ha : agreeL c = []
  ·have hfb : decide (0 < (agreeL c).length) = false := by rw [ha]; rfl
   have HR : Hid (plainR c = ([], 8)) := by rw [Hid, plainR, err8_none hHE.out ha, if_pos (by decide)]
   rw [hfb] at hf0
   clear hfb ha h1 h2
   gi_wp2
   refine ⟨by simp, .inl ⟨_, _, rfl, run_takeDeferred hDb, ?_⟩⟩
   refine ⟨_, results_tmp2 rfl _ _ _, none, 0, 0, by rw [HR.out]; rfl, by rw [HR.out]; exact SliceOf.nil _ _ _ _ _, bl_put hBW (by omega) _⟩
  have hfb : decide (0 < (agreeL c).length) = true := by simp; exact List.length_pos_iff.2 ha
  have HR : Hid (plainR c = (bestK c (agreeL c).length, 0)) := by rw [Hid, plainR, err8_ok hHE.out ha, if_neg (by decide), bestK, List.take_length]
  rw [hfb] at hf0
  have hgc' := hold hgc hNc hK
  have hc1 := hgc'.cell 1
  have hlen : (bestK c (agreeL c).length).length = m := by
   rw [bestK, List.take_length]
   exact ((allT_ok hok (List.mem_filter.1 (plainOf_mem ha)).1).1).trans Hm.out
  generalize bestK c (agreeL c).length = bst at HR h1 hlen
  have H1 := Lib.hid h1
  obtain ⟨W3, hmk, hB3, C0, hC0, hg3⟩ := make_int m W' hm5
  have hba : Blk W3 w1.heap.size 98 (arr bst) := H1.out.bl hB3
  have hcp : ∀ sT ty, (Builtin.copy_ #[45, sT] ty #[.slice (some ⟨W'.heap.size, 0, none⟩) m m, .slice (some ⟨w1.heap.size, 0, none⟩) 5 5]).run Tryz.prog W3 = .ok (goInt m) (W3.setCells W'.heap.size 0 ((arr bst).toList.take m)) := fun sT ty =>
   copy_ints (ys := (arr bst).toList) hg3 hC0 hba rfl rfl hm5 (fun v hv => by
    have := List.mem_of_mem_take hv
    simp [arr] at this
    rcases this with rfl | rfl | rfl | rfl | rfl <;> rfl) sT ty
  obtain ⟨xs, hxs⟩ : ∃ xs, xs = (arr bst).toList.take m := ⟨_, rfl⟩
  rw [← hxs] at hcp
  have HXS := Lib.hid hxs
  have hDl := (Array.getElem?_eq_some_iff.1 hDb).1
  have hxk : ∀ (j : Nat) (x : Int), bst[j]? = some x → xs[j]? = some (.int .i64 x) := fun j x hj => by
   have hjm : j < m := by rw [← hlen]; exact of_getq hj
   rw [hxs, List.getElem?_take, if_pos hjm]
   have hj5 : j = 0 ∨ j = 1 ∨ j = 2 ∨ j = 3 ∨ j = 4 := by omega
   rcases hj5 with rfl | rfl | rfl | rfl | rfl <;> simp [arr, hj]
  have hxl : xs.length = m := by rw [hxs, List.length_take]; simp [arr]; omega
  have hI := ints_of_cells (w := W3.setCells W'.heap.size 0 xs) (g := W'.heap.size) (n := m) (l := bst) hlen (Nat.le_trans hm5 (by decide)) (by rw [setCells_size]; exact hg3.lt) (fun k x hk => by
   have hkx := hxk k x hk
   have hk' := of_getq hkx
   have := World.cell?_setCells_in W'.heap.size xs 0 W3 (fun j hj => by rw [Nat.zero_add, hg3.cell j]; rw [hxl] at hj; simp [hC0, hj]) k hk'
   rw [Nat.zero_add] at this
   rw [this, ← List.getElem?_eq_getElem hk']; exact hkx)
  have hDb4 : (W3.setCells W'.heap.size 0 xs).heap[D]? = some (.deferred (some [])) := by
   rw [setCells_other xs 0 W3 D (by omega), hB3.block D hDl]; exact hDb
  have hBW4 : Below w.heap.size w (W3.setCells W'.heap.size 0 xs) := bl_setCells hBW.size xs 0 (bl_call hBW hB3 (Nat.le_refl _))
  have HI := Lib.hid hI
  clear hfb ha h1 h2 hxs hI hxk hxl
  gi_wp2
  refine ⟨by simp, .inl ⟨_, _, rfl, run_takeDeferred hDb4, ?_⟩⟩
  refine ⟨_, results_tmp2 rfl _ _ _, some ⟨W'.heap.size, 0, none⟩, m, m, by rw [HR.out]; rfl, ?_, bl_put hBW4 (by omega) _⟩
  rw [HR.out]
  exact (HI.out.put IntR.good (by omega) _).mono IntR.good (fun k h => by have := hBW.size; omega)
 have HR : Hid (plainR c = ([], err c)) := by rw [Hid, plainR, err8_bad he, if_pos he]
 have Herr : Hid (errI c 0 1 = err c) := by rw [Hid, errI, if_pos he]
 have hbe : (err c != 0) = true := by simpa using he
 clear he
 generalize err c = ec at HR Herr hbe
 go_enter Tryz.func12, Tryz.ntmps12
 go_wp2_with fail
 refine (check61_any 0 1 _ (h.keep (Keeps.alloc _ _)) hca hcb (by decide) (by decide)).mono ?_
 rintro e w1 ⟨rfl, hb1⟩
 rw [Herr.out]
 have hBw1 : Below w.heap.size w w1 := bl_call (bl_alloc (Below.refl _ _) _ (Nat.le_refl _)) hb1 (Nat.le_refl _)
 go_wp2
 go_ret2
 exact ⟨none, 0, 0, by rw [HR.out]; rfl, by rw [HR.out]; exact SliceOf.nil _ _ _ _ _, hBw1⟩
end Go.Proofs.YtdbfincinjoppabGreatDoor
