/- A part of the proof that TopWorn always answers true. -/
import Derived.Test.YtdbfincinjoppabGreatDoorCIter3
set_option linter.all false
namespace Go.Proofs.YtdbfincinjoppabGreatDoor
open Go.RowKit Go.Shelf
attribute [local go_sem] Oper.semAt_some
theorem lexC_lt : ∀ (a b : List Int), a.length = b.length → (decide (lexC a b < 0) = lexLt a b)
 | [], [], _ => rfl
 | [], _ :: _, h => by simp at h
 | _ :: _, [], h => by simp at h
 | x :: a, y :: b, h => by
  have ih := lexC_lt a b (by simpa using h)
  rw [lexC, lexLt]
  by_cases e : x = y
  ·subst e; rw [if_pos (by simp [cmpI]), if_pos rfl]; exact ih
  by_cases hlt : x < y
  ·rw [if_neg (by rw [cmpI, if_pos hlt]; decide), if_neg e, cmpI, if_pos hlt, decide_eq_true hlt]; rfl
  rw [if_neg (by rw [cmpI, if_neg hlt, if_pos (by omega)]; decide), if_neg e, cmpI, if_neg hlt, if_pos (by omega), decide_eq_false hlt]; rfl
theorem order_less (a b : List Int) : decide (orderL a b < 0) = lessL a b := by
 unfold orderL lessL
 by_cases h : a.length = b.length
 ·rw [if_pos h, if_neg (not_not_intro h)]; exact lexC_lt a b h
 rw [if_neg h, if_pos h]
 by_cases hlt : a.length < b.length
 ·rw [decide_eq_true hlt, decide_eq_true (by omega)]
 rw [decide_eq_false hlt, decide_eq_false (by omega)]
def fewK (c : Claim) (i : Nat) : List Int := fewOf (((allT c.causes).map (untrueL c)).take i)
theorem fewK_one {c : Claim} {t : List Int} (h : (allT c.causes)[0]? = some t) : fewK c 1 = untrueL c t := by
 unfold fewK
 rw [take_snoc_get (k := 0) (x := untrueL c t) (by rw [List.getElem?_map, h]; rfl)]; rfl
theorem fewK_succ {c : Claim} {i : Nat} {t : List Int} (h : (allT c.causes)[i]? = some t) (hi : 0 < i) : fewK c (i + 1) = if lessL (untrueL c t) (fewK c i) then untrueL c t else fewK c i := by
 unfold fewK
 rw [take_snoc_get (k := i) (x := untrueL c t) (by rw [List.getElem?_map, h]; rfl), fewOf_snoc]
 ·rfl
 intro h0
 have := congrArg List.length h0
 have h1 := of_getq h
 rw [List.length_take, List.length_map, List.length_nil] at this
 omega
structure WrSt (W : World) (gb gf : Nat) (b : List Int) (found : Bool) (O : Foot) : Prop where
 b : ∃ (A : Option Addr) (n c : Nat), Blk W gb 45 #[.slice A n c] ∧ Ints (fun k => O k ∧ k ≠ gb ∧ k ≠ gf) W A n b
 f : Blk W gf 4 #[.bool found]
 ob : O gb
 of : O gf
theorem WrSt.stay {A B : World} {gb gf : Nat} {b : List Int} {found : Bool} {O : Foot} (h : WrSt A gb gf b found O) (hK : Kept (fun k => ¬ O k) A B) : WrSt B gb gf b found O := by
 obtain ⟨Ad, n, c, h1, h2⟩ := h.b
 exact ⟨⟨Ad, n, c, (hK.block _ h1.lt (fun hh => hh h.ob)).trans h1, h2.keep IntR.good ⟨hK.size, fun k hk hlt => hK.block k hlt (fun hh => hh hk.1)⟩⟩, (hK.block _ h.f.lt (fun hh => hh h.of)).trans h.f, h.ob, h.of⟩
theorem ret_slice {fn : Func} {p u : Tmp} (h : fn.results = #[.cell p 45, .tmp u]) {tmps : Array Value} {g : Nat} {a : Option Addr} {n k : Nat} {e : Int} {w : World} (hp : tmps.getD p undef = .pointer (some ⟨g, 0, none⟩)) (hu : tmps.getD u undef = .int .i64 e)
  (h0 : w.cell? ⟨g, 0, none⟩ = some (.slice a n k)) : (results fn tmps).run Tryz.prog w = .ok (.tuple #[.slice a n k, .int .i64 e]) w := by
 rw [results_cell_tmp h, hp, hu]
 simp [go_sem, h0]
set_option maxRecDepth 100000 in
set_option maxHeartbeats 4000000 in
theorem bwrong_any {A B C : Option Addr} {n ca m cb q cc : Nat} {c : Claim} (w : World) (h : ClaimAt (fun _ => True) w A n B m C q c) (hca : n ≤ ca) (hcb : m ≤ cb) :
  Calls Tryz.prog 30 #[.agg #[.slice A n ca, .slice B m cb, .slice C q cc]] w fun e w' => ∃ A1 n1 c1, e = .returned (.tuple #[.slice A1 n1 c1, .int .i64 (wrongR c).2]) ∧ Ints (fun k => w.heap.size ≤ k) w' A1 n1 (wrongR c).1 ∧ Below w.heap.size w w' := by
 by_cases he : err c = 0
 ·have hok := okC_of he
  have Herr : Hid (errI c 0 1 = 0) := by rw [Hid, errI, if_neg (by simp [he]), if_pos (by rfl)]
  have Hm := Lib.hid h.cs.len
  have hm5 : m ≤ 5 := by rw [← Hm.out]; exact hok.nc
  have HR : Hid (wrongR c = (fewK c (allT c.causes).length, 0)) := by
   rw [Hid, wrongR, if_neg (by simp [he]), fewK, List.take_of_length_le (by simp)]
  clear he
  refine (callsIn_wide (n := 1)).1 ?_
  refine callsIn_of_wp_marks Tryz.func30 rfl trivial ?_ rfl
  simp only [Tryz.ntmps30, List.size_toArray, List.length_cons, List.length_nil, Nat.reduceAdd, Nat.reduceSub, Array.replicate_succ, Array.replicate_zero, List.push_toArray, List.append_toArray, List.nil_append, List.cons_append]
  gi_wp2_with fail
  refine ⟨trivial, ?_⟩
  refine (callsIn_wide.2 (check61_any 0 1 _ ((h.keep (Keeps.alloc _ _)).keep (Keeps.alloc _ _)) hca hcb (by decide) (by decide))).mono ?_
  rintro e w1 ⟨rfl, hb1⟩
  rw [Herr.out]
  have hcb1 : Blk w1 w.heap.size 44 #[.slice A n ca, .slice B m cb, .slice C q cc] := ((Blk.new _ _ _ rfl).alloc _).bl hb1
  have hbb1 : Blk w1 (w.heap.size + 1) 45 #[.slice none 0 0] := (Blk.new _ _ _ (by simp)).bl hb1
  have hBw1 : Below w.heap.size w w1 := bl_call (bl_alloc (bl_alloc (Below.refl _ _) _ (Nat.le_refl _)) _ (Nat.le_refl _)) hb1 (Nat.le_refl _)
  have hc1 := h.keep (Keeps.below hBw1)
  have hc0 := h
  have hb0 := hcb1.cell 0
  have hb1' := hcb1.cell 1
  have hb2 := hcb1.cell 2
  have hbl := hcb1.lt
  have hbl' := hbb1.lt
  clear hb1
  gi_wp2_with (first | (refine ⟨trivial, ?_⟩; gi_at_call 57; refine (callsIn_wide.2 (ball_any _)).mono ?_; rintro e w' ⟨rfl, rfl⟩) | (gi_at_call 57; refine (callsIn_wide.2 (ball_any _)).mono ?_; rintro e w' ⟨rfl, rfl⟩))
  obtain ⟨W2, hW2⟩ : ∃ W2, (w1.alloc (.cells #[.bool false] 4)).alloc (.cells #[.slice A n ca, .slice B m cb, .slice C q cc] 95) = W2 := ⟨_, rfl⟩
  have hk2 : Below w1.heap.size w1 W2 := by rw [← hW2]; exact bl_alloc (bl_alloc (Below.refl _ _) _ (Nat.le_refl _)) _ (Nat.le_refl _)
  have hs2 : W2.heap.size = w1.heap.size + 1 + 1 := by rw [← hW2]; simp
  have hgf : Blk W2 w1.heap.size 4 #[.bool false] := by rw [← hW2]; exact (Blk.new _ _ _ rfl).alloc _
  have hgx : Blk W2 (w1.heap.size + 1) 95 #[.slice A n ca, .slice B m cb, .slice C q cc] := by rw [← hW2]; exact Blk.new _ _ _ (by simp)
  have hgb : Blk W2 (w.heap.size + 1) 45 #[.slice none 0 0] := hbb1.bl hk2
  have hgc : Blk W2 w.heap.size 44 #[.slice A n ca, .slice B m cb, .slice C q cc] := hcb1.bl hk2
  rw [hW2]
  clear hW2 hb0 hb1' hb2
  have hBW2 := bl_call hBw1 hk2 (Nat.le_refl _)
  obtain ⟨OM, hOM⟩ : ∃ OM : Foot, OM = fun k => k = w.heap.size + 1 ∨ k = w1.heap.size := ⟨_, rfl⟩
  have hOb : OM (w.heap.size + 1) := by rw [hOM]; exact .inl rfl
  have hOf : OM w1.heap.size := by rw [hOM]; exact .inr rfl
  have hOx : ∀ k, OM k → k = w.heap.size + 1 ∨ k = w1.heap.size := by rw [hOM]; exact fun k h => h
  have hbig : ∀ {A : World}, Kept (fun k => OM k ∨ W2.heap.size ≤ k) W2 A → Below w.heap.size w A := fun hK => hBW2.trans (hK.below (by omega) (fun k h => h.elim (fun h => by have := hOx k h; omega) (fun h => by omega)))
  have hold : ∀ {A : World} {g : Nat} {t : TypeId} {cs : Array Value}, Blk W2 g t cs → ¬ OM g → Kept (fun k => OM k ∨ W2.heap.size ≤ k) W2 A → Blk A g t cs := fun hB hg hK =>
   (hK.block _ hB.lt (fun h => h.elim hg (fun h => by have := hB.lt; omega))).trans hB
  have hNx : ¬ OM (w1.heap.size + 1) := fun h => by have := hOx _ h; omega
  have hNc : ¬ OM w.heap.size := fun h => by have := hOx _ h; omega
  have hcw := hc1.keep (Keeps.below hk2)
  refine rangeFunc_outer (m := 1) (gf := 87) (lb := #[.pointer (some ⟨w1.heap.size + 1, 0, none⟩)]) rfl eg_all (all_seq (A0 := A) (B0 := B) (C0 := C) (n := n) (ca := ca) (mm := m) (cb := cb) (q := q) (cc := cc) hok (w1.heap.size + 1)) (fun _ => rfl) OM
   (fun i O A => WrSt A (w.heap.size + 1) w1.heap.size (fewK c i) (decide (0 < i)) O) (fun _ _ _ => False) (fun k h => by have := hOx k h; omega)
   (fun A hK => ⟨hold hgx hNx hK, hc0.keep (Keeps.below (hbig hK))⟩) (fun i O A B h _ hK => h.stay hK) (fun _ _ _ _ h _ _ => h) ⟨⟨none, 0, 0, hgb, SliceOf.nil _ _ _ _ _⟩, hgf, hOb, hOf⟩ ?round ?done (fun _ _ _ _ h _ _ _ _ _ => h.elim)
  case round =>
   intro l i x O A1 hx hj hlt hsub hK hnl hlA hWl
   obtain ⟨hxl, hxT⟩ := allT_ok hok (List.mem_of_getElem? hx)
   have hmm : x.length = m := by rw [hxl]; exact Hm.out
   have h5 := five_take hmm hm5
   have htv : tv x = .agg #[.int .i64 (x.getD 0 0), .int .i64 (x.getD 1 0), .int .i64 (x.getD 2 0), .int .i64 (x.getD 3 0), .int .i64 (x.getD 4 0)] := rfl
   generalize x.getD 0 0 = a0 at htv h5
   generalize x.getD 1 0 = a1 at htv h5
   generalize x.getD 2 0 = a2 at htv h5
   generalize x.getD 3 0 = a3 at htv h5
   generalize x.getD 4 0 = a4 at htv h5
   have HTV := Lib.hid htv
   have H5 := Lib.hid h5
   have HX := Lib.hid hx
   have HJ := Lib.hid hj
   have HK := Lib.hid hK
   clear htv h5 hx hj hK hmm hxl
   rw [fold1, HTV.out]
   simp only [List.setIfInBounds_toArray, List.set_cons_zero, List.set_cons_succ]
   gi_wp2
   refine ⟨Kept.alloc _ _ _, fun A2 hK2 hs2' _ => ?_⟩
   simp only [World.size_alloc] at hs2'
   have hs2a : A1.heap.size + 1 ≤ A2.heap.size := by omega
   have hs2b : A2.heap.size ≤ A1.heap.size + 1 := by omega
   clear hs2'
   have kA : Kept (fun k => k = l) A1 A2 := (Kept.alloc (fun k => k = l) A1 (.cells #[.int .i64 a0, .int .i64 a1, .int .i64 a2, .int .i64 a3, .int .i64 a4] 98)).trans hK2
   have hT2 : Blk A2 A1.heap.size 98 #[.int .i64 a0, .int .i64 a1, .int .i64 a2, .int .i64 a3, .int .i64 a4] := (hK2.block A1.heap.size (by simp) (by omega)).trans (Blk.new _ _ _ rfl)
   have hK3 : Kept (fun k => OM k ∨ W2.heap.size ≤ k) W2 A2 := HK.out.seq kA (fun k _ h => .inr (h ▸ hWl))
   have hj2 := HJ.out.stay (B := A2) (kA.mono fun k _ h hO => hnl (h ▸ hO))
   have hgc2 := hold hgc hNc hK3
   have hb0 := hgc2.cell 0
   have hb1 := hgc2.cell 1
   have hb2 := hgc2.cell 2
   have ht0 := hT2.cell 0
   have ht1 := hT2.cell 1
   have ht3 := hT2.cell 2
   have ht4 := hT2.cell 3
   have ht5 := hT2.cell 4
   have hcA := hc0.keep (Keeps.below (hbig hK3))
   have hBA2 := hbig hK3
   clear hK2 hK3 kA
   gi_wp2_with fail
   refine ⟨trivial, ?_⟩
   refine (CallsIn.inRound l (callsIn_wide.2 (buntrue_any _))).mono ?_
   rintro e w' ⟨rfl, rfl⟩
   obtain ⟨A3, hA3⟩ : ∃ A3, (A2.alloc (.cells #[.slice A n ca, .slice B m cb, .slice C q cc] 95)).alloc (.cells #[.int .i64 a0, .int .i64 a1, .int .i64 a2, .int .i64 a3, .int .i64 a4] 98) = A3 := ⟨_, rfl⟩
   have hk3 : Below A2.heap.size A2 A3 := by rw [← hA3]; exact bl_alloc (bl_alloc (Below.refl _ _) _ (Nat.le_refl _)) _ (Nat.le_refl _)
   have hc3 : Blk A3 A2.heap.size 95 #[.slice A n ca, .slice B m cb, .slice C q cc] := by rw [← hA3]; exact (Blk.new _ _ _ rfl).alloc _
   have hu3 : Blk A3 (A2.heap.size + 1) 98 #[.int .i64 a0, .int .i64 a1, .int .i64 a2, .int .i64 a3, .int .i64 a4] := by rw [← hA3]; exact Blk.new _ _ _ (by simp)
   rw [hA3]
   clear hb0 hb1 hb2 ht0 ht1 ht3 ht4 ht5 hA3 hgc2
   have hseq := untrue_seq (A0 := A) (B0 := B) (C0 := C) (n := n) (ca := ca) (mm := m) (cb := cb) (q := q) (cc := cc) hok A2.heap.size (A2.heap.size + 1) a0 a1 a2 a3 a4 (by rw [H5.out]; exact hxT)
   rw [H5.out] at hseq
   have hul : (untrueL c x).length ≤ 100000 := by
    have := List.length_filter_le (fun i => !measOk c x (c.meas.getD i dMeas)) (List.range c.meas.length)
    have h8 := hok.nm
    rw [untrueL, List.length_map]
    rw [List.length_range] at this
    omega
   have HCO := Lib.hid (collectI_any eg_untrue hseq A3 (fun A' hb => ⟨⟨hc3.bl hb, hcA.keep (Keeps.below (bl_call hk3 hb (Nat.le_refl _)))⟩, hu3.bl hb⟩) hul)
   clear hseq hul
   gi_wp2_with fail
   refine ⟨trivial, ?_⟩
   refine (CallsIn.inRound l (callsIn_wide.2 HCO.out)).mono ?_
   rintro e w5 ⟨A', n', c', rfl, hI, hb5⟩
   have hB25 : Below A2.heap.size A2 w5 := bl_call hk3 hb5 (Nat.le_refl _)
   have hj5 := hj2.stay (B := w5) (Kept.of_bl hB25)
   have hO5 : ∀ k, O k → k < A2.heap.size := fun k hk => by have := hlt k hk; omega
   obtain ⟨Ab, nb, cb', hBb, hIb⟩ := hj5.b
   have hIn := hI.bound IntR.good
   have hs5 : A2.heap.size ≤ w5.heap.size := hB25.size
   have hs3 : A2.heap.size ≤ A3.heap.size := hk3.size
   have hb0 := hBb.cell 0
   have hf0 := hj5.f.cell 0
   have hbf := hBb.frozen 0
   have hff := hj5.f.frozen 0
   have hbl5 := hBb.lt
   have hfl5 := hj5.f.lt
   have HB25 := Lib.hid hB25
   have HJ5 := Lib.hid hj5
   have hf1 : ∀ v, (w5.setCell ⟨w.heap.size + 1, 0, none⟩ v).cell? ⟨w1.heap.size, 0, none⟩ = some (.bool (decide (0 < i))) := fun v => setc hf0 (by dsimp only; omega)
   have Hf1 := Lib.hid hf1
   have hnew : Hid (∀ W5, W5 = (w5.setCell ⟨w.heap.size + 1, 0, none⟩ (.slice A' n' c')).setCell ⟨w1.heap.size, 0, none⟩ (.bool true) → fewK c (i + 1) = untrueL c x → Kept O A2 W5 ∧ ∃ O' : Foot, (∀ k, O' k → O k ∨ (A1.heap.size ≤ k ∧ k < W5.heap.size)) ∧ WrSt W5 (w.heap.size + 1) w1.heap.size (fewK c (i + 1)) (decide (0 < i + 1)) O') := by
    intro W5 hW5 hfe
    have hsz : W5.heap.size = w5.heap.size := by rw [hW5]; simp [World.setCell]
    refine ⟨by rw [hW5]; exact ((Kept.of_bl HB25.out).trans (Kept.setCell _ _ _ HJ5.out.ob)).trans (Kept.setCell _ _ _ HJ5.out.of), fun k => O k ∨ (A2.heap.size ≤ k ∧ k < w5.heap.size), fun k h => h.imp id (fun h => ⟨by omega, by omega⟩), ⟨?_, ?_, .inl HJ5.out.ob, .inl HJ5.out.of⟩⟩
    ·refine ⟨A', n', c', by rw [hW5]; exact (hBb.set_ 0 _).far (by dsimp only; omega) _, ?_⟩
     rw [hfe]
     refine (hIn.keep IntR.good ?_).mono IntR.good (fun k h => ⟨.inr ⟨by have := h.1; omega, h.2⟩, by have := h.1; have := hO5 _ HJ5.out.ob; omega, by have := h.1; have := hO5 _ HJ5.out.of; omega⟩)
     rw [hW5]
     exact (Keeps.setCell _ _ _ (fun h => by have := h.1; have := hO5 _ HJ5.out.ob; dsimp only at *; omega)).trans (Keeps.setCell _ _ _ (fun h => by have := h.1; have := hO5 _ HJ5.out.of; dsimp only at *; omega))
    rw [hW5, decide_eq_true (Nat.succ_pos i)]; exact (HJ5.out.f.far (by dsimp only; omega) _).set_ 0 _
   clear hI hb5 hk3 hc3 hu3 hj2 hj5 hB25 HCO hf1
   by_cases hi0 : i = 0
   ·subst hi0
    have hfe := fewK_one HX.out
    have hf1 := Hf1.out (.slice A' n' c')
    have HNEW := Lib.hid (hnew.out _ rfl hfe)
    clear hnew hfe hIb hIn
    gi_wp2
    refine ⟨trivial, ?_⟩
    gi_wp2
    exact HNEW.out
   have hi1 : 0 < i := by omega
   have hdt : decide (0 < i) = true := decide_eq_true hi1
   have hfs := fewK_succ HX.out hi1
   rw [hdt] at hf0
   have hz := order_less (untrueL c x) (fewK c i)
   generalize hzz : orderL (untrueL c x) (fewK c i) = z at hz
   have Hz := Lib.hid hzz
   have HOrd : Hid (Calls Tryz.prog 44 #[.slice A' n' c', .slice Ab nb cb'] w5 fun e w' => e = .returned (.int .i64 z) ∧ w5 = w') := by
    rw [Hid, ← hzz]
    exact order_any w5 hIn hIb
   clear hzz hi0
   by_cases hlt0 : z < 0
   ·rw [decide_eq_true hlt0] at hz
    rw [← hz, if_pos rfl] at hfs
    have hf1 := Hf1.out (.slice A' n' c')
    rw [hdt] at hf1
    have HNEW := Lib.hid (hnew.out _ rfl hfs)
    clear hnew hfs hIb hIn hz hdt
    gi_wp2_with fail
    refine ⟨trivial, ?_⟩
    refine (CallsIn.inRound l (callsIn_wide.2 HOrd.out)).mono ?_
    rintro e w' ⟨rfl, rfl⟩
    gi_wp2
    exact HNEW.out
   rw [decide_eq_false hlt0] at hz
   rw [← hz] at hfs
   have hfs' : fewK c (i + 1) = fewK c i := by simpa using hfs
   have hfin : WrSt w5 (w.heap.size + 1) w1.heap.size (fewK c (i + 1)) (decide (0 < i + 1)) O := by
    rw [hfs', decide_eq_true (Nat.succ_pos i), ← hdt]; exact HJ5.out
   have HFIN := Lib.hid hfin
   clear hnew hfs hIb hIn hz hdt hfs' hfin
   gi_wp2_with fail
   refine ⟨trivial, ?_⟩
   refine (CallsIn.inRound l (callsIn_wide.2 HOrd.out)).mono ?_
   rintro e w' ⟨rfl, rfl⟩
   gi_wp2
   exact ⟨Kept.of_bl HB25.out, O, fun k h => .inl h, HFIN.out⟩
  intro O W' D hj hO hK hD hnD hDb
  have hBW := hbig hK
  obtain ⟨Ab, nb, cb', hBb, hIb⟩ := hj.b
  have hb0 := hBb.cell 0
  have hbf := hBb.frozen 0
  have hbl' := hBb.lt
  have HIB := Lib.hid hIb
  have hne : (O D → False) := hnD
  clear hIb
  have hDl := (Array.getElem?_eq_some_iff.1 hDb).1
  gi_wp2
  have hbc := hbl
  have hDb2 : (W'.setCell ⟨w.heap.size + 1, 0, none⟩ (.slice Ab nb cb')).heap[D]? = some (.deferred (some [])) := by
   rw [Below.heap_setCell W' ⟨w.heap.size + 1, 0, none⟩ _ D (by dsimp only; omega)]; exact hDb
  have hB3 : Blk ((W'.setCell ⟨w.heap.size + 1, 0, none⟩ (.slice Ab nb cb')).putObj D (.deferred none)) (w.heap.size + 1) 45 #[.slice Ab nb cb'] :=
   (World.putObj_heap_other (by omega)).trans (hBb.set_ 0 _)
  refine ⟨by simp, .inl ⟨_, _, rfl, run_takeDeferred hDb2, ?_⟩⟩
  refine ⟨_, ret_slice rfl rfl rfl (hB3.cell 0), Ab, nb, cb', by rw [HR.out], ?_, ?_⟩
  ·rw [HR.out]
   refine ((HIB.out.keep IntR.good (Keeps.setCell _ _ _ (fun h => h.2.1 rfl))).put IntR.good (fun h => hne h.1) _).mono IntR.good (fun k h => ?_)
   have := hO k h.1
   have := hOx k
   have := h.2
   have := hBW2.size
   rcases hO k h.1 with h | h
   ·have := hOx k h; omega
   omega
  exact bl_put (bl_set hBW (by dsimp only; omega) _) (by omega) _
 have HR : Hid (wrongR c = ([], err c)) := by rw [Hid, wrongR, if_pos (by simpa using he)]
 have Herr : Hid (errI c 0 1 = err c) := by rw [Hid, errI, if_pos he]
 have hbe : (err c != 0) = true := by simpa using he
 clear he
 generalize err c = ec at HR Herr hbe
 go_enter Tryz.func30, Tryz.ntmps30
 go_wp2_with fail
 refine (check61_any 0 1 _ ((h.keep (Keeps.alloc _ _)).keep (Keeps.alloc _ _)) hca hcb (by decide) (by decide)).mono ?_
 rintro e w1 ⟨rfl, hb1⟩
 rw [Herr.out]
 have hbb1 : Blk w1 (w.heap.size + 1) 45 #[.slice none 0 0] := (Blk.new _ _ _ (by simp)).bl hb1
 have hBw1 : Below w.heap.size w w1 := bl_call (bl_alloc (bl_alloc (Below.refl _ _) _ (Nat.le_refl _)) _ (Nat.le_refl _)) hb1 (Nat.le_refl _)
 have hb0 := hbb1.cell 0
 have hbf := hbb1.frozen 0
 go_wp2
 have hB3 := hbb1.set_ 0 (.slice none 0 0)
 exact bodyPost_ret (ret_slice rfl rfl rfl (hB3.cell 0)) rfl ⟨none, 0, 0, by rw [HR.out], by rw [HR.out]; exact SliceOf.nil _ _ _ _ _, bl_set hBw1 (by dsimp only; omega) _⟩
end Go.Proofs.YtdbfincinjoppabGreatDoor
