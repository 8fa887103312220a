/- A part of the proof that TopWorn always answers true. -/
import Derived.Test.YtdbfincinjoppabGreatDoorCBase
import Derived.Test.YtdbfincinjoppabGreatDoorCKEnt1
set_option linter.all false
namespace Go.Proofs.YtdbfincinjoppabGreatDoor
open Go.RowKit Go.Shelf
attribute [local go_sem] Oper.semAt_some
set_option maxRecDepth 100000 in
set_option maxHeartbeats 8000000 in
theorem kent_loop {Ad C : Option Addr} {n ca q cc l0 gw gh gq : Nat} {s : Shop} {l : List SeenC} {ks : List Int} {k : Int} {W2 : World} (hok : OkS s) (hn : s.moulds.length = n) (hca : n ≤ ca) (hks : ∀ k ∈ ks, k ∈ shrinkL s) (hkk : 0 ≤ k ∧ k ≤ 100)
  (hseen : ∀ (j : Nat) (y : SeenC), l[j]? = some y → 0 ≤ y.cast ∧ y.cast ≤ 8) (hI : ∀ w', Kept (fun j => j = gw ∨ W2.heap.size ≤ j) W2 w' → Moulds (fun _ => True) w' Ad n s.moulds ∧ SeenCs (fun _ => True) w' C q l ∧ w'.cell? ⟨gh, 2, none⟩ = some (.slice Ad n ca) ∧ w'.cell? ⟨gh, 3, none⟩ = some (.slice C q cc) ∧ w'.cell? ⟨gq, 0, none⟩ = some (.pointer (some ⟨gh, 0, none⟩))) (hgw : Blk W2 gw 88 (cellsS (sizeF s l ks))) (hl0 : ∃ r0, W2.heap[l0]? = some (.loop r0))
  {Q : Exit → Act → World → Prop} (u : Nat → Value)
  (hexit : ∀ (u : Nat → Value) (w' : World), Kept (fun j => j = gw) W2 w' → Blk w' gw 88 (cellsS (sizeF s l (ks ++ [k]))) → (∀ t, t < n → twosC s l t k ≠ []) → Q (.exit 2) { tmps := #[u 0, u 1, u 2, u 3, u 4, u 5, u 6, u 7, .pointer (some ⟨gq, 0, none⟩), .int .i64 k, .pointer (some ⟨gw, 0, none⟩), u 11, u 12, u 13, u 14, u 15, u 16, u 17, u 18, u 19, u 20, u 21, u 22, u 23, u 24, u 25, u 26, u 27, u 28, u 29, u 30, u 31, u 32, u 33, u 34, u 35, u 36, u 37, u 38, u 39, u 40, u 41, u 42, u 43, u 44, u 45, u 46, u 47, u 48, u 49, u 50, u 51, u 52, u 53, u 54, u 55, u 56, u 57, u 58, u 59, u 60, u 61, u 62, u 63, u 64, u 65, u 66, u 67, u 68, u 69, u 70, u 71, u 72, u 73, u 74, u 75, u 76, u 77, u 78, u 79, u 80, u 81, u 82, u 83, u 84, u 85, u 86, u 87, u 88, u 89, u 90, u 91, u 92, u 93, u 94, u 95, u 96, u 97, u 98, u 99, u 100, u 101, u 102, u 103, u 104, u 105, u 106], defers := [] } w')
  (hskip : ∀ (u : Nat → Value) (w' : World), Kept (fun j => j = gw) W2 w' → (∃ t, t < n ∧ twosC s l t k = []) → Q (.exit 1) { tmps := #[u 0, u 1, u 2, u 3, u 4, u 5, u 6, u 7, .pointer (some ⟨gq, 0, none⟩), .int .i64 k, .pointer (some ⟨gw, 0, none⟩), u 11, u 12, u 13, u 14, u 15, u 16, u 17, u 18, u 19, u 20, u 21, u 22, u 23, u 24, u 25, u 26, u 27, u 28, u 29, u 30, u 31, u 32, u 33, u 34, u 35, u 36, u 37, u 38, u 39, u 40, u 41, u 42, u 43, u 44, u 45, u 46, u 47, u 48, u 49, u 50, u 51, u 52, u 53, u 54, u 55, u 56, u 57, u 58, u 59, u 60, u 61, u 62, u 63, u 64, u 65, u 66, u 67, u 68, u 69, u 70, u 71, u 72, u 73, u 74, u 75, u 76, u 77, u 78, u 79, u 80, u 81, u 82, u 83, u 84, u 85, u 86, u 87, u 88, u 89, u 90, u 91, u 92, u 93, u 94, u 95, u 96, u 97, u 98, u 99, u 100, u 101, u 102, u 103, u 104, u 105, u 106], defers := [] } w') :
  (Code.loop kentLoop).wpIn (Fence.wide.inRound l0) 1 Tryz.prog Q { tmps := #[u 0, u 1, u 2, u 3, u 4, u 5, u 6, u 7, .pointer (some ⟨gq, 0, none⟩), .int .i64 k, .pointer (some ⟨gw, 0, none⟩), u 11, u 12, u 13, u 14, u 15, u 16, u 17, u 18, u 19, u 20, u 21, u 22, u 23, u 24, u 25, u 26, u 27, u 28, u 29, u 30, u 31, u 32, u 33, u 34, u 35, u 36, u 37, u 38, .slice Ad n ca, .int .i64 n, .int .i64 0, u 42, u 43, u 44, u 45, u 46, u 47, u 48, u 49, u 50, u 51, u 52, u 53, u 54, u 55, u 56, u 57, u 58, u 59, u 60, u 61, u 62, u 63, u 64, u 65, u 66, u 67, u 68, u 69, u 70, u 71, u 72, u 73, u 74, u 75, u 76, u 77, u 78, u 79, u 80, u 81, u 82, u 83, u 84, u 85, u 86, u 87, u 88, u 89, u 90, u 91, u 92, u 93, u 94, u 95, u 96, u 97, u 98, u 99, u 100, u 101, u 102, u 103, u 104, u 105, u 106], defers := [] } W2 := by
 have HEX := Lib.hid hexit
 have HSK := Lib.hid hskip
 have HI := Lib.hid hI
 have Hn := Lib.hid hn
 have hgl := hgw.lt
 have HG0 := Lib.hid hgw
 have hl0l : l0 < W2.heap.size := hl0.elim fun r0 h => (Array.getElem?_eq_some_iff.1 h).1
 have hl0g : l0 ≠ gw := fun e => hl0.elim fun r0 h => by
  have := hgw
  unfold Blk at this
  rw [← e, h] at this
  cases this
 have HL0 := Lib.hid hl0
 clear hexit hskip hI hgw hl0
 refine wpIn_loop (fun a' w' => ∃ (m : Nat) (u : Nat → Value), m ≤ n ∧ Hid (Kept (fun j => j = gw) W2 w') ∧ Hid (Blk w' gw 88 (cellsS (sizeM s l ks k m))) ∧ Hid (∀ t, t < m → twosC s l t k ≠ []) ∧ a' = { tmps := #[u 0, u 1, u 2, u 3, u 4, u 5, u 6, u 7, .pointer (some ⟨gq, 0, none⟩), .int .i64 k, .pointer (some ⟨gw, 0, none⟩), u 11, u 12, u 13, u 14, u 15, u 16, u 17, u 18, u 19, u 20, u 21, u 22, u 23, u 24, u 25, u 26, u 27, u 28, u 29, u 30, u 31, u 32, u 33, u 34, u 35, u 36, u 37, u 38, .slice Ad n ca, .int .i64 n, .int .i64 m, u 42, u 43, u 44, u 45, u 46, u 47, u 48, u 49, u 50, u 51, u 52, u 53, u 54, u 55, u 56, u 57, u 58, u 59, u 60, u 61, u 62, u 63, u 64, u 65, u 66, u 67, u 68, u 69, u 70, u 71, u 72, u 73, u 74, u 75, u 76, u 77, u 78, u 79, u 80, u 81, u 82, u 83, u 84, u 85, u 86, u 87, u 88, u 89, u 90, u 91, u 92, u 93, u 94, u 95, u 96, u 97, u 98, u 99, u 100, u 101, u 102, u 103, u 104, u 105, u 106], defers := [] }) (fun a' _ => n - (intOf (a'.tmps.getD 41 undef)).toNat) ?_ ?_
 ·exact ⟨0, u, Nat.zero_le _, Kept.refl _ _, by rw [Hid, sizeM_zero]; exact HG0.out, (fun t h => by omega), rfl⟩
 rintro a' wr ⟨m, u, hm, HK, HB, HT, rfl⟩
 conv => arg 4; whnf
 by_cases hlt : m < n
 ·have hmi : (m : Int) < n := by omega
  obtain ⟨hms, hss, hc2, hc3, hc0⟩ := HI.out wr (HK.out.mono fun _ _ h => .inl h)
  obtain ⟨b, off, sn, a, z, y, v, c5, rfl, hb0, hd0, hd1, hd2, hd3, hd4, hd5, hsz, Hx⟩ := Moulds.get hms hlt
  have hgq := World.block_lt_of_cell? _ _ hc0
  dsimp only at hgq
  have hle := hms.le
  have hq0 := oldc (o := .cells #[.bool false] 4) (oldc (o := .cells #[.string sn, .int .i64 a, .int .i64 z, .int .i64 y, .int .i64 v, .int .i64 c5] 33) (oldc (o := .cells #[.int .i64 m] 3) hc0))
  clear hms hss hc2 hc3
  gi_wp2_with fail
  refine ⟨trivial, ?_⟩
  refine (CallsIn.inRound l0 (callsIn_wide.2 (ktruths_call gh m k _))).mono ?_
  rintro e w' ⟨rfl, rfl⟩
  simp only [World.size_alloc]
  obtain ⟨g0, hg0⟩ : ∃ g, wr.heap.size = g := ⟨_, rfl⟩
  obtain ⟨wd, hwd⟩ : ∃ V, (((((((wr.alloc (.cells #[.int .i64 m] 3)).alloc (.cells #[.string sn, .int .i64 a, .int .i64 z, .int .i64 y, .int .i64 v, .int .i64 c5] 33)).alloc (.cells #[.bool false] 4)).alloc (.cells #[.pointer (some ⟨gh, 0, none⟩)] 83)).alloc (.cells #[.int .i64 m] 3)).alloc (.cells #[.int .i64 k] 3)).alloc (.cells #[madeV] 134)) = V := ⟨_, rfl⟩
  have b1 : Below wr.heap.size wr wd := by rw [← hwd]; exact bl_alloc (bl_alloc (bl_alloc (bl_alloc (bl_alloc (bl_alloc (bl_alloc (Below.refl _ _) _ (Nat.le_refl _)) _ (Nat.le_refl _)) _ (Nat.le_refl _)) _ (Nat.le_refl _)) _ (Nat.le_refl _)) _ (Nat.le_refl _)) _ (Nat.le_refl _)
  have hsd : wd.heap.size = g0 + 7 := by rw [← hwd, ← hg0]; simp
  have q0 : Blk wd g0 3 #[.int .i64 m] := by rw [← hwd, ← hg0]; exact ((((((Blk.new _ _ _ rfl).alloc _).alloc _).alloc _).alloc _).alloc _).alloc _
  have q1 : Blk wd (g0 + 1) 33 #[.string sn, .int .i64 a, .int .i64 z, .int .i64 y, .int .i64 v, .int .i64 c5] := by rw [← hwd, ← hg0]; exact (((((Blk.new _ _ _ (by simp)).alloc _).alloc _).alloc _).alloc _).alloc _
  have q2 : Blk wd (g0 + 2) 4 #[.bool false] := by rw [← hwd, ← hg0]; exact ((((Blk.new _ _ _ (by simp)).alloc _).alloc _).alloc _).alloc _
  have q3 : Blk wd (g0 + 3) 83 #[.pointer (some ⟨gh, 0, none⟩)] := by rw [← hwd, ← hg0]; exact (((Blk.new _ _ _ (by simp)).alloc _).alloc _).alloc _
  have q4 : Blk wd (g0 + 4) 3 #[.int .i64 m] := by rw [← hwd, ← hg0]; exact ((Blk.new _ _ _ (by simp)).alloc _).alloc _
  have q5 : Blk wd (g0 + 5) 3 #[.int .i64 k] := by rw [← hwd, ← hg0]; exact (Blk.new _ _ _ (by simp)).alloc _
  have q6 : Blk wd (g0 + 6) 134 #[madeV] := by rw [← hwd, ← hg0]; exact Blk.new _ _ _ (by simp)
  rw [hwd, hg0]
  simp only [Nat.add_assoc, Nat.reduceAdd]
  have hW2g : W2.heap.size ≤ g0 := by rw [← hg0]; exact HK.out.size
  have hmS : m < s.moulds.length := by rw [Hn.out]; exact hlt
  have hcs : (castsN s m : Int) = c5 := by have := (castsN_bd hok hmS).2.2; rw [this, getD_of Hx.out]
  have hKd : Kept (fun j => j = gw) W2 wd := HK.out.trans (Kept.of_bl b1)
  have HKD := Lib.hid hKd
  have HBd : Hid (Blk wd gw 88 (cellsS (sizeM s l ks k m))) := HB.out.bl b1
  have hl0d : ∃ r0, wd.heap[l0]? = some (.loop r0) := HL0.out.imp fun r0 h => (hKd.block l0 hl0l hl0g).trans h
  have hlw : l0 < wd.heap.size := by omega
  have KA : ∀ A', Kept (fun j => (j = gw ∨ j = g0 + 2) ∨ wd.heap.size ≤ j) wd A' → Kept (fun j => j = gw ∨ W2.heap.size ≤ j) W2 A' := fun A' hK => (HKD.out.mono fun _ _ h => .inl h).seq hK (fun i hi h => by rcases h with (h | h) | h <;> omega)
  clear hwd hg0 hq0 hd0 hd1 hd2 hd3 hd4 hd5 hb0 hc0 hKd
  gi_wp2_with fail
  refine rangeFunc_inner (l0 := l0) (m := 1) (gf := 96) (lb := #[.pointer (some ⟨g0 + 3, 0, none⟩), .pointer (some ⟨g0 + 4, 0, none⟩), .pointer (some ⟨g0 + 5, 0, none⟩), .pointer (some ⟨g0 + 6, 0, none⟩)]) hl0d rfl eg_tru
   (truths7_seq (Ad := some ⟨b, off, none⟩) (n := n) (ca := ca) (C := C) (q := q) (cc := cc) (s := s) (l := l) (g0 + 3) (g0 + 4) (g0 + 5) (g0 + 6) gh m k hok hmS hkk (fun j y hy _ => hseen j y hy)) (fun _ => rfl) (fun j => j = gw ∨ j = g0 + 2) (KentJ gw (g0 + 2) (sizeT s l ks k m) (twosC s l m k)) (fun _ _ _ => False) ?o0 ?inv (fun i O A B h1 _ hK => h1.stay hK) (fun _ _ _ _ h _ _ => h) ?init
   (kent_round (g11 := g0) (g12 := g0 + 1) hok hmS hks hkk hcs (by omega) _ (fun p hp => twos7_bd hok hmS hp) _ _ (q0.cell 0) (q1.cell 5) (by omega) (by omega) (fun i => (#[u 0, u 1, u 2, u 3, u 4, u 5, u 6, u 7, .pointer (some ⟨gq, 0, none⟩), .int .i64 k, .pointer (some ⟨gw, 0, none⟩), .pointer (some ⟨g0, 0, none⟩), .pointer (some ⟨g0 + 1, 0, none⟩), .pointer (some ⟨g0 + 2, 0, none⟩), u 14, u 15, u 16, u 17, u 18, u 19, u 20, u 21, u 22, u 23, u 24, u 25, u 26, u 27, u 28, u 29, u 30, u 31, u 32, u 33, u 34, u 35, u 36, u 37, u 38, .slice (some ⟨b, off, none⟩) n ca, .int .i64 n, .int .i64 m, .bool true, .int .i64 m, .pointer (some ⟨b, off + m * 6, none⟩), .agg #[.string sn, .int .i64 a, .int .i64 z, .int .i64 y, .int .i64 v, .int .i64 c5], .pointer (some ⟨gh, 0, none⟩), .int .i64 m, .int .i64 k, .func (.func 96) #[] #[.pointer (some ⟨g0 + 3, 0, none⟩), .pointer (some ⟨g0 + 4, 0, none⟩), .pointer (some ⟨g0 + 5, 0, none⟩), .pointer (some ⟨g0 + 6, 0, none⟩)], u 50, u 51, u 52, u 53, u 54, u 55, u 56, u 57, u 58, u 59, u 60, u 61, u 62, u 63, u 64, u 65, u 66, u 67, u 68, u 69, u 70, u 71, u 72, u 73, u 74, u 75, u 76, u 77, u 78, u 79, u 80, u 81, u 82, u 83, u 84, u 85, u 86, u 87, u 88, u 89, u 90, u 91, u 92, u 93, u 94, u 95, u 96, u 97, u 98, u 99, u 100, u 101, u 102, u 103, u 104, u 105, u 106] : Array Value).getD i undef)) ?done ?stop
  case o0 => intro j hj; rcases hj with hj | hj <;> omega
  case inv =>
   intro A' hK
   obtain ⟨i1, i2, i3, i4, i5⟩ := HI.out A' (KA A' hK)
   exact ⟨⟨_, (hK.block _ q3.lt (by omega)).trans q3⟩, ⟨_, (hK.block _ q4.lt (by omega)).trans q4⟩, ⟨_, (hK.block _ q5.lt (by omega)).trans q5⟩, ⟨_, (hK.block _ q6.lt (by omega)).trans q6⟩, i3, i4, i1, i2⟩
  case init => exact ⟨rfl, by rw [List.take_zero, sizeT_nil hmS]; exact HBd.out, q2⟩
  case done =>
   rintro O w9 ⟨hOe, hB1, hB2⟩ hO hK9
   rw [List.take_length, sizeT_all hmS] at hB1
   have HK9 : Hid (Kept (fun j => j = gw) W2 w9) := HKD.out.seq hK9 (fun i hi h => by rcases h with (h | h) | h <;> omega)
   have b0 := hB2.cell 0
   have bl0 := hB2.lt
   have HB1 := Lib.hid hB1
   clear hB2 hB1 hOe hO hK9
   by_cases hnil : twosC s l m k = []
   ·have hz : decide (0 < (twosC s l m k).length) = false := by rw [hnil]; rfl
    rw [hz] at b0
    have HNIL := Lib.hid hnil
    clear hz hnil
    gi_wp2_with fail
    exact HSK.out (fun i => (#[u 0, u 1, u 2, u 3, u 4, u 5, u 6, u 7, .pointer (some ⟨gq, 0, none⟩), .int .i64 k, .pointer (some ⟨gw, 0, none⟩), .pointer (some ⟨g0, 0, none⟩), .pointer (some ⟨g0 + 1, 0, none⟩), .pointer (some ⟨g0 + 2, 0, none⟩), u 14, u 15, u 16, u 17, u 18, u 19, u 20, u 21, u 22, u 23, u 24, u 25, u 26, u 27, u 28, u 29, u 30, u 31, u 32, u 33, u 34, u 35, u 36, u 37, u 38, .slice (some ⟨b, off, none⟩) n ca, .int .i64 n, .int .i64 m, .bool true, .int .i64 m, .pointer (some ⟨b, off + m * 6, none⟩), .agg #[.string sn, .int .i64 a, .int .i64 z, .int .i64 y, .int .i64 v, .int .i64 c5], .pointer (some ⟨gh, 0, none⟩), .int .i64 m, .int .i64 k, .func (.func 96) #[] #[.pointer (some ⟨g0 + 3, 0, none⟩), .pointer (some ⟨g0 + 4, 0, none⟩), .pointer (some ⟨g0 + 5, 0, none⟩), .pointer (some ⟨g0 + 6, 0, none⟩)], u 50, u 51, u 52, u 53, u 54, u 55, u 56, u 57, u 58, u 59, u 60, u 61, u 62, u 63, u 64, u 65, u 66, u 67, u 68, u 69, u 70, u 71, u 72, u 73, u 74, u 75, u 76, u 77, u 78, u 79, u 80, u 81, u 82, u 83, u 84, u 85, u 86, u 87, u 88, .bool false, .bool true, u 91, u 92, u 93, u 94, u 95, u 96, u 97, u 98, u 99, u 100, u 101, u 102, u 103, u 104, u 105, u 106] : Array Value).getD i undef) w9 HK9.out ⟨m, hlt, HNIL.out⟩
   have hz : decide (0 < (twosC s l m k).length) = true := decide_eq_true (List.length_pos_iff.2 hnil)
   rw [hz] at b0
   have HNIL := Lib.hid hnil
   clear hz hnil
   gi_wp2_with fail
   refine ⟨⟨m + 1, (fun i => (#[u 0, u 1, u 2, u 3, u 4, u 5, u 6, u 7, .pointer (some ⟨gq, 0, none⟩), .int .i64 k, .pointer (some ⟨gw, 0, none⟩), .pointer (some ⟨g0, 0, none⟩), .pointer (some ⟨g0 + 1, 0, none⟩), .pointer (some ⟨g0 + 2, 0, none⟩), u 14, u 15, u 16, u 17, u 18, u 19, u 20, u 21, u 22, u 23, u 24, u 25, u 26, u 27, u 28, u 29, u 30, u 31, u 32, u 33, u 34, u 35, u 36, u 37, u 38, .slice (some ⟨b, off, none⟩) n ca, .int .i64 n, .int .i64 (m + 1 : Nat), .bool true, .int .i64 m, .pointer (some ⟨b, off + m * 6, none⟩), .agg #[.string sn, .int .i64 a, .int .i64 z, .int .i64 y, .int .i64 v, .int .i64 c5], .pointer (some ⟨gh, 0, none⟩), .int .i64 m, .int .i64 k, .func (.func 96) #[] #[.pointer (some ⟨g0 + 3, 0, none⟩), .pointer (some ⟨g0 + 4, 0, none⟩), .pointer (some ⟨g0 + 5, 0, none⟩), .pointer (some ⟨g0 + 6, 0, none⟩)], u 50, u 51, u 52, u 53, u 54, u 55, u 56, u 57, u 58, u 59, u 60, u 61, u 62, u 63, u 64, u 65, u 66, u 67, u 68, u 69, u 70, u 71, u 72, u 73, u 74, u 75, u 76, u 77, u 78, u 79, u 80, u 81, u 82, u 83, u 84, u 85, u 86, u 87, u 88, .bool true, .bool false, .int .i64 (m + 1 : Nat), u 92, u 93, u 94, u 95, u 96, u 97, u 98, u 99, u 100, u 101, u 102, u 103, u 104, u 105, u 106] : Array Value).getD i undef), by omega, HK9, HB1, fun t ht => ?_, ?_⟩, by simp [intOf]; omega⟩
   ·by_cases e : t = m
    ·rw [e]; exact HNIL.out
    exact HT.out t (by omega)
   simp
  case stop => intro c O w9 h; exact h.elim
 obtain rfl : m = n := by omega
 have hmi : ¬ ((m : Int)) < m := by omega
 gi_wp2_with fail
 exact HEX.out (fun i => (#[u 0, u 1, u 2, u 3, u 4, u 5, u 6, u 7, .pointer (some ⟨gq, 0, none⟩), .int .i64 k, .pointer (some ⟨gw, 0, none⟩), u 11, u 12, u 13, u 14, u 15, u 16, u 17, u 18, u 19, u 20, u 21, u 22, u 23, u 24, u 25, u 26, u 27, u 28, u 29, u 30, u 31, u 32, u 33, u 34, u 35, u 36, u 37, u 38, .slice Ad m ca, .int .i64 m, .int .i64 m, .bool false, u 43, u 44, u 45, u 46, u 47, u 48, u 49, u 50, u 51, u 52, u 53, u 54, u 55, u 56, u 57, u 58, u 59, u 60, u 61, u 62, u 63, u 64, u 65, u 66, u 67, u 68, u 69, u 70, u 71, u 72, u 73, u 74, u 75, u 76, u 77, u 78, u 79, u 80, u 81, u 82, u 83, u 84, u 85, u 86, u 87, u 88, u 89, u 90, u 91, u 92, u 93, u 94, u 95, u 96, u 97, u 98, u 99, u 100, u 101, u 102, u 103, u 104, u 105, u 106] : Array Value).getD i undef) wr HK.out (by have := HB.out; rwa [← Hn.out, sizeM_all] at this) HT.out
open Go.RowKit
theorem wp_append_of_run {P : Program} {o : Oper} {a : Act} {K : Act → World → Prop} {Q : Exit → Act → World → Prop} {w w' : World} {s x : Operand} {t : TypeId} {v1 v2 v' : Value}
  (ho : o.op = .call { callee := .builtin .append, args := #[s, x], argTypes := #[t, t] }) (hs : a.eval s = v1) (hx : a.eval x = v2)
  (hrun : (Builtin.append_ #[t, t] o.type #[v1, v2]).run P w = .ok v' w') (h : K (a.put o.dst v') w') : o.wp P a w K Q := by
 unfold Oper.wp execOp
 simp only [ho, resolve, invoke, builtin, Sem.run_bind, Sem.run_pure, Result.andThen_ok, List.map_toArray, List.map_cons, List.map_nil, hs, hx, hrun]
 exact h
end Go.Proofs.YtdbfincinjoppabGreatDoor
