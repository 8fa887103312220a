/- A part of the proof that TopWorn always answers true. -/
import Derived.Test.YtdbfincinjoppabGreatDoorCProg17
set_option linter.all false
namespace Go.Proofs.YtdbfincinjoppabGreatDoor
open Go.RowKit Go.Shelf
attribute [local go_sem] Oper.semAt_some
theorem Blk.puts {w : World} {g : Nat} {t : TypeId} {cs : Array Value} (h : Blk w g t cs) {D : Nat} (hD : g ≠ D) (o : Obj) : Blk (w.putObj D o) g t cs := (World.putObj_heap_other hD).trans h
theorem endsOf_snocB (l : List Int) (x : Int) : endsOf (l ++ [x]) = (if decide (0 < l.length) then min (endsOf l).1 x else x, if decide (0 < l.length) then max (endsOf l).2 x else x) := by
 cases l with
 | nil => simp [endsOf, ends]
 | cons y l => rw [List.cons_append, endsOf, endsOf, ends_snocB]; simp
def endsK (c : Claim) (f : List Int → Int) (i : Nat) : Int × Int := endsOf (((agreeL c).take i).map f)
theorem endsK_succ {c : Claim} {f : List Int → Int} {i : Nat} {t : List Int} (h : (agreeL c)[i]? = some t) : endsK c f (i + 1) = (if decide (0 < i) then min (endsK c f i).1 (f t) else f t, if decide (0 < i) then max (endsK c f i).2 (f t) else f t) := by
 unfold endsK
 rw [take_snoc_get h, List.map_append, List.map_cons, List.map_nil, endsOf_snocB]
 have hi := of_getq h
 have : (((agreeL c).take i).map f).length = i := by rw [List.length_map, List.length_take]; omega
 rw [this]
def spanR (c : Claim) (f : List Int → Int) : (Int × Int) × Int := if agreeL c = [] then ((0, 0), 8) else (endsOf ((agreeL c).map f), 0)
set_option maxRecDepth 100000 in
set_option maxHeartbeats 4000000 in
theorem bspan_any {A B C : Option Addr} {n ca m cb q cc : Nat} {c : Claim} {ff : Nat} {lb : Array Value} {f : List Int → Int} (w : World) (hok : OkC c) (h : ClaimAt (fun _ => True) w A n B m C q c) (eg : Enters Tryz.prog ff)
  (hof : ∀ W' t, Below w.heap.size w W' → t ∈ agreeL c → Calls Tryz.prog ff (#[tv t] ++ lb) W' fun e w' => e = .returned (.int .i64 (f t)) ∧ Below W'.heap.size W' w') :
  Calls Tryz.prog 40 #[.agg #[.slice A n ca, .slice B m cb, .slice C q cc], .func (.func ff) #[] lb] w fun e w' => e = .returned (.tuple #[.agg #[.int .i64 (spanR c f).1.1, .int .i64 (spanR c f).1.2], .int .i64 (spanR c f).2]) ∧ Below w.heap.size w w' := by
 have HOF := Lib.hid hof
 clear hof
 refine (callsIn_wide (n := 1)).1 ?_
 refine callsIn_of_wp_marks Tryz.func40 rfl trivial ?_ rfl
 simp only [Tryz.ntmps40, List.size_toArray, List.length_cons, List.length_nil, Nat.reduceAdd, Nat.reduceSub, Array.replicate_succ, Array.replicate_zero, List.push_toArray, List.append_toArray, List.nil_append, List.cons_append]
 gi_wp2_with (first | (refine ⟨trivial, ?_⟩; gi_at_call 37; refine (callsIn_wide.2 (btruths_any _)).mono ?_; rintro e w' ⟨rfl, rfl⟩) | (gi_at_call 37; refine (callsIn_wide.2 (btruths_any _)).mono ?_; rintro e w' ⟨rfl, rfl⟩))
 obtain ⟨W2, hW2⟩ : ∃ W2, ((((w.alloc (.cells #[.slice A n ca, .slice B m cb, .slice C q cc] 44)).alloc (.cells #[.func (.func ff) #[] lb] 102)).alloc (.cells #[.int .i64 0, .int .i64 0] 23)).alloc (.cells #[.int .i64 0, .int .i64 0, .bool false] 141)).alloc (.cells #[.slice A n ca, .slice B m cb, .slice C q cc] 95) = W2 := ⟨_, rfl⟩
 have hBW2 : Below w.heap.size w W2 := by rw [← hW2]; exact bl_alloc (bl_alloc (bl_alloc (bl_alloc (bl_alloc (Below.refl _ _) _ (Nat.le_refl _)) _ (Nat.le_refl _)) _ (Nat.le_refl _)) _ (Nat.le_refl _)) _ (Nat.le_refl _)
 have hs2 : W2.heap.size = w.heap.size + 1 + 1 + 1 + 1 + 1 := by rw [← hW2]; simp
 have hgf : Blk W2 (w.heap.size + 1) 102 #[.func (.func ff) #[] lb] := by rw [← hW2]; exact (((Blk.new _ _ _ (by simp)).alloc _).alloc _).alloc _
 have hgs : Blk W2 (w.heap.size + 1 + 1) 23 #[.int .i64 0, .int .i64 0] := by rw [← hW2]; exact ((Blk.new _ _ _ (by simp)).alloc _).alloc _
 have hge : Blk W2 (w.heap.size + 1 + 1 + 1) 141 #[.int .i64 0, .int .i64 0, .bool false] := by rw [← hW2]; exact (Blk.new _ _ _ (by simp)).alloc _
 have hgx : Blk W2 (w.heap.size + 1 + 1 + 1 + 1) 95 #[.slice A n ca, .slice B m cb, .slice C q cc] := by rw [← hW2]; exact Blk.new _ _ _ (by simp)
 rw [hW2]
 clear hW2
 obtain ⟨OM, hOM⟩ : ∃ OM : Foot, OM = fun k => k = w.heap.size + 1 + 1 + 1 := ⟨_, rfl⟩
 have hOe : OM (w.heap.size + 1 + 1 + 1) := by rw [hOM]
 have hOx : ∀ k, OM k → k = w.heap.size + 1 + 1 + 1 := by rw [hOM]; exact fun k h => h
 have hbig : ∀ {A : World}, Kept (fun k => OM k ∨ W2.heap.size ≤ k) W2 A → Below w.heap.size w A := fun hK => hBW2.trans (hK.below (by omega) (fun k h => h.elim (fun h => by have := hOx k h; omega) (fun h => by omega)))
 have hold : ∀ {A : World} {g : Nat} {t : TypeId} {cs : Array Value}, Blk W2 g t cs → ¬ OM g → Kept (fun k => OM k ∨ W2.heap.size ≤ k) W2 A → Blk A g t cs := fun hB hg hK =>
  (hK.block _ hB.lt (fun h => h.elim hg (fun h => by have := hB.lt; omega))).trans hB
 have hNx : ¬ OM (w.heap.size + 1 + 1 + 1 + 1) := fun h => by have := hOx _ h; omega
 have hNf : ¬ OM (w.heap.size + 1) := fun h => by have := hOx _ h; omega
 have hNs : ¬ OM (w.heap.size + 1 + 1) := fun h => by have := hOx _ h; omega
 refine rangeFunc_outer (m := 1) (gf := 69) (lb := #[.pointer (some ⟨w.heap.size + 1 + 1 + 1 + 1, 0, none⟩)]) rfl eg_truths (truths_seq (A0 := A) (B0 := B) (C0 := C) (n := n) (ca := ca) (mm := m) (cb := cb) (q := q) (cc := cc) hok (w.heap.size + 1 + 1 + 1 + 1)) (fun _ => rfl) OM
  (fun i O A => O = OM ∧ Blk A (w.heap.size + 1 + 1 + 1) 141 #[.int .i64 (endsK c f i).1, .int .i64 (endsK c f i).2, .bool (decide (0 < i))]) (fun _ _ _ => False) (fun k h => by have := hOx k h; omega)
  (fun A hK => ⟨hold hgx hNx hK, h.keep (Keeps.below (hbig hK))⟩) ?stay (fun _ _ _ _ h _ _ => h) ⟨rfl, hge⟩ ?round ?done (fun _ _ _ _ h _ _ _ _ _ => h.elim)
 case stay =>
  rintro i O A B ⟨rfl, h1⟩ hlt hK
  exact ⟨rfl, (hK.block _ h1.lt (fun h => h hOe)).trans h1⟩
 case round =>
  rintro l i x O A1 hx ⟨rfl, h1⟩ hlt hsub hK hnl hlA hWl
  have htv : tv x = .agg #[.int .i64 (x.getD 0 0), .int .i64 (x.getD 1 0), .int .i64 (x.getD 2 0), .int .i64 (x.getD 3 0), .int .i64 (x.getD 4 0)] := rfl
  generalize x.getD 0 0 = a0 at htv
  generalize x.getD 1 0 = a1 at htv
  generalize x.getD 2 0 = a2 at htv
  generalize x.getD 3 0 = a3 at htv
  generalize x.getD 4 0 = a4 at htv
  have HE := Lib.hid (endsK_succ (f := f) hx)
  have HX := Lib.hid (List.mem_of_getElem? hx)
  have HTV := Lib.hid htv
  have HK := Lib.hid hK
  have H1 := Lib.hid h1
  clear htv hK h1 hx
  rw [fold1, HTV.out]
  simp only [List.setIfInBounds_toArray, List.set_cons_zero, List.set_cons_succ]
  gi_wp2
  refine ⟨Kept.alloc _ _ _, fun A2 hK2 hs2' _ => ?_⟩
  simp only [World.size_alloc] at hs2'
  have hs2a : A1.heap.size + 1 ≤ A2.heap.size := by omega
  clear hs2'
  have kA : Kept (fun k => k = l) A1 A2 := (Kept.alloc (fun k => k = l) A1 (.cells #[.int .i64 a0, .int .i64 a1, .int .i64 a2, .int .i64 a3, .int .i64 a4] 98)).trans hK2
  have hT2 : Blk A2 A1.heap.size 98 #[.int .i64 a0, .int .i64 a1, .int .i64 a2, .int .i64 a3, .int .i64 a4] := (hK2.block A1.heap.size (by simp) (by omega)).trans (Blk.new _ _ _ rfl)
  have hE2 : Blk A2 (w.heap.size + 1 + 1 + 1) 141 #[.int .i64 (endsK c f i).1, .int .i64 (endsK c f i).2, .bool (decide (0 < i))] := (kA.block _ H1.out.lt (fun h => hnl (h ▸ hOe))).trans H1.out
  have hK3 : Kept (fun k => O k ∨ W2.heap.size ≤ k) W2 A2 := HK.out.seq kA (fun k _ h => .inr (h ▸ hWl))
  have hgf2 := hold hgf hNf hK3
  have hf0 := hgf2.cell 0
  have ht0 := hT2.cell 0
  have ht1 := hT2.cell 1
  have ht3 := hT2.cell 2
  have ht4 := hT2.cell 3
  have ht5 := hT2.cell 4
  have HOF2 := Lib.hid (HOF.out A2 x (hbig hK3) HX.out)
  rw [HTV.out] at HOF2
  have HE2 := Lib.hid hE2
  clear hK2 hK3 kA hE2
  have eg' : ∀ args W, (callFunc ff args).run Tryz.prog W = .ok (.enter ff args) W := eg
  gi_wp2_with fail
  refine ⟨trivial, ?_⟩
  refine (CallsIn.inRound l (callsIn_wide.2 HOF2.out)).mono ?_
  rintro e w' ⟨rfl, hb3⟩
  have hE3 := HE2.out.bl hb3
  have HB3 := Lib.hid hb3
  clear hb3 hf0 ht0 ht1 ht3 ht4 ht5
  gi_wp2_with fail
  refine ⟨trivial, ?_⟩
  refine (CallsIn.inRound l (callsIn_wide.2 (add_any _ hE3))).mono ?_
  rintro e w4 ⟨rfl, hK4, hB4⟩
  have HB4 := Lib.hid hB4
  have HK4 := Lib.hid hK4
  clear hK4 hB4 hE3
  gi_wp2
  refine ⟨(Kept.of_bl HB3.out).trans (HK4.out.mono fun k _ h => h ▸ hOe), O, fun k h => .inl h, rfl, ?_⟩
  rw [HE.out, decide_eq_true (Nat.succ_pos i)]
  exact HB4.out
 rintro O W' D ⟨rfl, h1⟩ hO hK hD hnD hDb
 have hBW := hbig hK
 have hS := hold hgs hNs hK
 have h0 := h1.cell 0
 have h1' := h1.cell 1
 have h2' := h1.cell 2
 have hc0 := hS.c0
 have hc1 := hS.c1
 have hf0 := hS.frozen 0
 have hf1 := hS.frozen 1
 have hsl := hS.lt
 have hDD : ∀ D, W'.heap[D]? = some (.deferred (some [])) → D ≠ w.heap.size + 1 + 1 → ∀ u v, ((W'.setCell ⟨w.heap.size + 1 + 1, 0, none⟩ u).setCell ⟨w.heap.size + 1 + 1, 1, none⟩ v).heap[D]? = some (.deferred (some [])) := fun D hD hne u v => by
  rw [Below.heap_setCell _ ⟨w.heap.size + 1 + 1, 1, none⟩ v D hne, Below.heap_setCell _ ⟨w.heap.size + 1 + 1, 0, none⟩ u D hne]; exact hD
 by_cases ha : agreeL c = []
 ·have HR : Hid (spanR c f = ((0, 0), 8)) := by rw [Hid, spanR, if_pos ha]
  have hfb : decide (0 < (agreeL c).length) = false := by rw [ha]; rfl
  rw [hfb] at h2'
  clear hfb ha h1 h0 h1'
  gi_wp2
  refine ⟨by simp, .inl ⟨_, _, rfl, run_takeDeferred (hDD D hDb (by omega) _ _), ?_⟩⟩
  have hB3 := (hS.set2 (.int .i64 0) (.int .i64 0)).puts (D := D) (by omega) (.deferred none)
  refine ⟨_, ret_span rfl rfl rfl (Blk.c0 hB3) (Blk.c1 hB3), by rw [HR.out], bl_put (bl_set (bl_set hBW (by dsimp only; omega) _) (by dsimp only; omega) _) (by omega) _⟩
 have HR : Hid (spanR c f = (endsK c f (agreeL c).length, 0)) := by rw [Hid, spanR, if_neg ha, endsK, List.take_length]
 have hfb : decide (0 < (agreeL c).length) = true := by simp; exact List.length_pos_iff.2 ha
 rw [hfb] at h2'
 clear hfb ha h1
 gi_wp2
 refine ⟨by simp, .inl ⟨_, _, rfl, run_takeDeferred (hDD D hDb (by omega) _ _), ?_⟩⟩
 have hB3 := (hS.set2 (.int .i64 (endsK c f (agreeL c).length).1) (.int .i64 (endsK c f (agreeL c).length).2)).puts (D := D) (by omega) (.deferred none)
 refine ⟨_, ret_span rfl rfl rfl (Blk.c0 hB3) (Blk.c1 hB3), by rw [HR.out], bl_put (bl_set (bl_set hBW (by dsimp only; omega) _) (by dsimp only; omega) _) (by omega) _⟩
open Go.RowKit Go.Shelf
attribute [local go_sem] Oper.semAt_some
theorem errAt_I (c : Claim) (i : Int) (n : Nat) : errAt c i n = if errI c i n ≠ 0 then errI c i n else if agreeL c = [] then 8 else 0 := by
 unfold errAt errI
 by_cases he : err c = 0
 ·cases inB i 0 ((n : Int) - 1) <;> simp [he]
 simp [he]
theorem errI_ok {c : Claim} {i : Int} {n : Nat} (h : errI c i n = 0) : err c = 0 ∧ 0 ≤ i ∧ i < n := by
 unfold errI at h
 by_cases he : err c = 0
 ·rw [if_neg (by simp [he])] at h
  cases hb : inB i 0 ((n : Int) - 1)
  ·rw [hb] at h; simp at h
  simp [inB] at hb; exact ⟨he, by omega, by omega⟩
 rw [if_pos he] at h; exact absurd h he
theorem amountR_bad {c : Claim} {i : Int} (h : errI c i c.causes.length ≠ 0) : amountR c i = ((0, 0), errI c i c.causes.length) := by
 rw [amountR, errAt_I, if_pos h, if_pos h]
theorem amountR_ok {c : Claim} {i : Int} (h : errI c i c.causes.length = 0) : amountR c i = spanR c (fun t => t.getD i.toNat 0) := by
 have he : errAt c i c.causes.length = if agreeL c = [] then 8 else 0 := by rw [errAt_I, if_neg (by simp [h])]
 rw [amountR, he, spanR]
 by_cases ha : agreeL c = [] <;> simp [ha]
theorem valueR_bad {c : Claim} {i : Int} (h : errI c i c.feats.length ≠ 0) : valueR c i = ((0, 0), errI c i c.feats.length) := by
 rw [valueR, errAt_I, if_pos h, if_pos h]
theorem valueR_ok {c : Claim} {i : Int} (h : errI c i c.feats.length = 0) : valueR c i = spanR c (fun t => len c t i.toNat) := by
 have he : errAt c i c.feats.length = if agreeL c = [] then 8 else 0 := by rw [errAt_I, if_neg (by simp [h])]
 rw [valueR, he, spanR]
 by_cases ha : agreeL c = [] <;> simp [ha]
theorem eg_amount1 : Enters Tryz.prog 41 := enters_of Tryz.func41 (by kernel_rfl) rfl
theorem eg_value1 : Enters Tryz.prog 55 := enters_of Tryz.func55 (by kernel_rfl) rfl
set_option maxHeartbeats 1000000 in
theorem amount1_any {g : Nat} {i : Nat} (x : List Int) (w : World) (hg : w.cell? ⟨g, 0, none⟩ = some (.int .i64 i)) (hi : i < 5) :
  Calls Tryz.prog 41 (#[tv x] ++ #[.pointer (some ⟨g, 0, none⟩)]) w fun e w' => e = .returned (.int .i64 (x.getD i 0)) ∧ Below w.heap.size w w' := by
 rw [app11]
 have htv : tv x = .agg #[.int .i64 (x.getD 0 0), .int .i64 (x.getD 1 0), .int .i64 (x.getD 2 0), .int .i64 (x.getD 3 0), .int .i64 (x.getD 4 0)] := rfl
 rw [htv]
 clear htv
 have hi5 : i = 0 ∨ i = 1 ∨ i = 2 ∨ i = 3 ∨ i = 4 := by omega
 rcases hi5 with rfl | rfl | rfl | rfl | rfl
 all_goals
  generalize x.getD 0 0 = a0
  generalize x.getD 1 0 = a1
  generalize x.getD 2 0 = a2
  generalize x.getD 3 0 = a3
  generalize x.getD 4 0 = a4
  have hg' := oldc (o := .cells #[.int .i64 a0, .int .i64 a1, .int .i64 a2, .int .i64 a3, .int .i64 a4] 98) hg
  have hB : Below w.heap.size w (w.alloc (.cells #[.int .i64 a0, .int .i64 a1, .int .i64 a2, .int .i64 a3, .int .i64 a4] 98)) := bl_alloc (Below.refl _ _) _ (Nat.le_refl _)
  go_enter Tryz.func41, Tryz.ntmps41
  go_wp2
  go_ret
  exact ⟨rfl, hB⟩
set_option maxHeartbeats 1000000 in
theorem value1_any {A B C : Option Addr} {n ca m cb q cc : Nat} {c : Claim} {gc g : Nat} {i : Nat} (x : List Int) (w : World) (h : ClaimAt (fun _ => True) w A n B m C q c) (hok : OkC c) (hx : x ∈ allT c.causes) (hi : i < c.feats.length)
  (hgc : Blk w gc 44 #[.slice A n ca, .slice B m cb, .slice C q cc]) (hg : w.cell? ⟨g, 0, none⟩ = some (.int .i64 i)) :
  Calls Tryz.prog 55 (#[tv x] ++ #[.pointer (some ⟨gc, 0, none⟩), .pointer (some ⟨g, 0, none⟩)]) w fun e w' => e = .returned (.int .i64 (len c x i)) ∧ Below w.heap.size w w' := by
 rw [app12]
 obtain ⟨hxl, hxT⟩ := allT_ok hok hx
 have hmm : x.length = m := by rw [hxl]; exact h.cs.len
 have h5 := five_take hmm (by rw [← hmm, hxl]; exact hok.nc)
 have htv : tv x = .agg #[.int .i64 (x.getD 0 0), .int .i64 (x.getD 1 0), .int .i64 (x.getD 2 0), .int .i64 (x.getD 3 0), .int .i64 (x.getD 4 0)] := rfl
 rw [htv]
 clear htv
 generalize x.getD 0 0 = a0 at h5 ⊢
 generalize x.getD 1 0 = a1 at h5 ⊢
 generalize x.getD 2 0 = a2 at h5 ⊢
 generalize x.getD 3 0 = a3 at h5 ⊢
 generalize x.getD 4 0 = a4 at h5 ⊢
 have hB : Below w.heap.size w (w.alloc (.cells #[.int .i64 a0, .int .i64 a1, .int .i64 a2, .int .i64 a3, .int .i64 a4] 98)) := bl_alloc (Below.refl _ _) _ (Nat.le_refl _)
 have hl := blength_any (ca := ca) (cb := cb) (cc := cc) (a0 := a0) (a1 := a1) (a2 := a2) (a3 := a3) (a4 := a4) i _ (h.keep (Keeps.below hB)) hok (by rw [h5]; exact hxT) hi
 rw [h5] at hl
 have HL := Lib.hid hl
 have hg' := oldc (o := .cells #[.int .i64 a0, .int .i64 a1, .int .i64 a2, .int .i64 a3, .int .i64 a4] 98) hg
 have hg0 := oldc (o := .cells #[.int .i64 a0, .int .i64 a1, .int .i64 a2, .int .i64 a3, .int .i64 a4] 98) (hgc.cell 0)
 have hg1 := oldc (o := .cells #[.int .i64 a0, .int .i64 a1, .int .i64 a2, .int .i64 a3, .int .i64 a4] 98) (hgc.cell 1)
 have hg2 := oldc (o := .cells #[.int .i64 a0, .int .i64 a1, .int .i64 a2, .int .i64 a3, .int .i64 a4] 98) (hgc.cell 2)
 clear hl h5 hgc
 go_enter Tryz.func55, Tryz.ntmps55
 go_wp2_with fail
 refine HL.out.mono ?_
 rintro e w' ⟨rfl, hb⟩
 go_wp2
 go_ret
 exact ⟨rfl, bl_call hB hb (Nat.le_refl _)⟩
set_option maxRecDepth 100000 in
set_option maxHeartbeats 4000000 in
theorem bamount_any {A B C : Option Addr} {n ca m cb q cc : Nat} {c : Claim} (i : Int) (w : World) (h : ClaimAt (fun _ => True) w A n B m C q c) (hca : n ≤ ca) (hcb : m ≤ cb) :
  Calls Tryz.prog 9 #[.agg #[.slice A n ca, .slice B m cb, .slice C q cc], .int .i64 i] w fun e w' => e = .returned (.tuple #[.agg #[.int .i64 (amountR c i).1.1, .int .i64 (amountR c i).1.2], .int .i64 (amountR c i).2]) ∧ Below w.heap.size w w' := by
 have hlm := h.cs.le
 have Hm := Lib.hid h.cs.len
 have hmi : (m : Int) ≤ 9223372036854775807 := by omega
 by_cases he : errI c i m = 0
 ·have HR : Hid (amountR c i = spanR c (fun t => t.getD i.toNat 0)) := by rw [Hid]; exact amountR_ok (by rw [Hm.out]; exact he)
  obtain ⟨he0, hi0, him⟩ := errI_ok he
  have hok := okC_of he0
  have hm5 : m ≤ 5 := by rw [← Hm.out]; exact hok.nc
  obtain ⟨k, rfl⟩ : ∃ k : Nat, i = k := ⟨i.toNat, by omega⟩
  have hk5 : k < 5 := by omega
  have Herr := Lib.hid he
  clear he he0 hi0 him
  go_enter Tryz.func9, Tryz.ntmps9
  go_wp2_with fail
  refine (check61_any (k : Int) m _ (((h.keep (Keeps.alloc _ _)).keep (Keeps.alloc _ _)).keep (Keeps.alloc _ _)) hca hcb (by omega) hmi).mono ?_
  rintro e w1 ⟨rfl, hb1⟩
  rw [Herr.out]
  have hcb1 : Blk w1 w.heap.size 44 #[.slice A n ca, .slice B m cb, .slice C q cc] := (((Blk.new _ _ _ rfl).alloc _).alloc _).bl hb1
  have hib1 : Blk w1 (w.heap.size + 1) 3 #[.int .i64 k] := ((Blk.new _ _ _ (by simp)).alloc _).bl hb1
  have hsb1 : Blk w1 (w.heap.size + 1 + 1) 23 #[.int .i64 0, .int .i64 0] := (Blk.new _ _ _ (by simp)).bl hb1
  have hBw1 : Below w.heap.size w w1 := bl_call (bl_alloc (bl_alloc (bl_alloc (Below.refl _ _) _ (Nat.le_refl _)) _ (Nat.le_refl _)) _ (Nat.le_refl _)) hb1 (Nat.le_refl _)
  have hc1 := h.keep (Keeps.below hBw1)
  have h0 := hcb1.cell 0
  have h1 := hcb1.cell 1
  have h2 := hcb1.cell 2
  clear hb1
  have HSP := Lib.hid (bspan_any (ca := ca) (cb := cb) (cc := cc) (ff := 41) (lb := #[.pointer (some ⟨w.heap.size + 1, 0, none⟩)]) (f := fun t => t.getD k 0) w1 hok hc1 eg_amount1 (fun W' t hb _ => amount1_any t W' ((hib1.bl hb).cell 0) hk5))
  go_wp2_with fail
  refine HSP.out.mono ?_
  rintro e w2 ⟨rfl, hb2⟩
  have hS := hsb1.bl hb2
  have hs0 := hS.c0
  have hs1 := hS.c1
  have hf0 := hS.frozen 0
  have hf1 := hS.frozen 1
  have hsl := hS.lt
  go_wp2
  exact bodyPost_ret (ret_span rfl rfl rfl (hS.set2 _ _).c0 (hS.set2 _ _).c1) rfl ⟨by rw [HR.out]; rfl, bl_set (bl_set (bl_call hBw1 hb2 (Nat.le_refl _)) (by dsimp only; omega) _) (by dsimp only; omega) _⟩
 have HR : Hid (amountR c i = ((0, 0), errI c i m)) := by rw [Hid, ← Hm.out]; exact amountR_bad (by rw [Hm.out]; exact he)
 have hbe : (errI c i m != 0) = true := by simpa using he
 have HC := Lib.hid (fun W hW1 hW2 => check61_any (A := A) (B := B) (C := C) (n := n) (ca := ca) (m := m) (cb := cb) (q := q) (cc := cc) (c := c) i m W hW1 hca hcb hW2 hmi)
 clear he
 generalize errI c i m = ec at HR HC hbe
 go_enter Tryz.func9, Tryz.ntmps9
 go_wp2_with fail
 refine (HC.out _ (((h.keep (Keeps.alloc _ _)).keep (Keeps.alloc _ _)).keep (Keeps.alloc _ _)) (by omega)).mono ?_
 rintro e w1 ⟨rfl, hb1⟩
 have hS : Blk w1 (w.heap.size + 1 + 1) 23 #[.int .i64 0, .int .i64 0] := (Blk.new _ _ _ (by simp)).bl hb1
 have hBw1 : Below w.heap.size w w1 := bl_call (bl_alloc (bl_alloc (bl_alloc (Below.refl _ _) _ (Nat.le_refl _)) _ (Nat.le_refl _)) _ (Nat.le_refl _)) hb1 (Nat.le_refl _)
 have hs0 := hS.c0
 have hs1 := hS.c1
 have hf0 := hS.frozen 0
 have hf1 := hS.frozen 1
 have hsl := hS.lt
 clear hb1
 go_wp2
 exact bodyPost_ret (ret_span rfl rfl rfl (hS.set2 _ _).c0 (hS.set2 _ _).c1) rfl ⟨by rw [HR.out], bl_set (bl_set hBw1 (by dsimp only; omega) _) (by dsimp only; omega) _⟩
set_option maxRecDepth 100000 in
set_option maxHeartbeats 4000000 in
theorem bvalue_any {A B C : Option Addr} {n ca m cb q cc : Nat} {c : Claim} (i : Int) (w : World) (h : ClaimAt (fun _ => True) w A n B m C q c) (hca : n ≤ ca) (hcb : m ≤ cb) :
  Calls Tryz.prog 29 #[.agg #[.slice A n ca, .slice B m cb, .slice C q cc], .int .i64 i] w fun e w' => e = .returned (.tuple #[.agg #[.int .i64 (valueR c i).1.1, .int .i64 (valueR c i).1.2], .int .i64 (valueR c i).2]) ∧ Below w.heap.size w w' := by
 have hlm := h.fs.le
 have Hm := Lib.hid h.fs.len
 have hmi : (n : Int) ≤ 9223372036854775807 := by omega
 by_cases he : errI c i n = 0
 ·have HR : Hid (valueR c i = spanR c (fun t => len c t i.toNat)) := by rw [Hid]; exact valueR_ok (by rw [Hm.out]; exact he)
  obtain ⟨he0, hi0, him⟩ := errI_ok he
  have hok := okC_of he0
  obtain ⟨k, rfl⟩ : ∃ k : Nat, i = k := ⟨i.toNat, by omega⟩
  have hk5 : k < c.feats.length := by rw [Hm.out]; omega
  have Herr := Lib.hid he
  clear he he0 hi0 him
  go_enter Tryz.func29, Tryz.ntmps29
  go_wp2_with fail
  refine (check61_any (k : Int) n _ (((h.keep (Keeps.alloc _ _)).keep (Keeps.alloc _ _)).keep (Keeps.alloc _ _)) hca hcb (by omega) hmi).mono ?_
  rintro e w1 ⟨rfl, hb1⟩
  rw [Herr.out]
  have hcb1 : Blk w1 w.heap.size 44 #[.slice A n ca, .slice B m cb, .slice C q cc] := (((Blk.new _ _ _ rfl).alloc _).alloc _).bl hb1
  have hib1 : Blk w1 (w.heap.size + 1) 3 #[.int .i64 k] := ((Blk.new _ _ _ (by simp)).alloc _).bl hb1
  have hsb1 : Blk w1 (w.heap.size + 1 + 1) 23 #[.int .i64 0, .int .i64 0] := (Blk.new _ _ _ (by simp)).bl hb1
  have hBw1 : Below w.heap.size w w1 := bl_call (bl_alloc (bl_alloc (bl_alloc (Below.refl _ _) _ (Nat.le_refl _)) _ (Nat.le_refl _)) _ (Nat.le_refl _)) hb1 (Nat.le_refl _)
  have hc1 := h.keep (Keeps.below hBw1)
  have h0 := hcb1.cell 0
  have h1 := hcb1.cell 1
  have h2 := hcb1.cell 2
  clear hb1
  have HSP := Lib.hid (bspan_any (ca := ca) (cb := cb) (cc := cc) (ff := 55) (lb := #[.pointer (some ⟨w.heap.size, 0, none⟩), .pointer (some ⟨w.heap.size + 1, 0, none⟩)]) (f := fun t => len c t k) w1 hok hc1 eg_value1 (fun W' t hb ht => value1_any t W' (hc1.keep (Keeps.below hb)) hok (List.mem_filter.1 ht).1 hk5 (hcb1.bl hb) ((hib1.bl hb).cell 0)))
  go_wp2_with fail
  refine HSP.out.mono ?_
  rintro e w2 ⟨rfl, hb2⟩
  have hS := hsb1.bl hb2
  have hs0 := hS.c0
  have hs1 := hS.c1
  have hf0 := hS.frozen 0
  have hf1 := hS.frozen 1
  have hsl := hS.lt
  go_wp2
  exact bodyPost_ret (ret_span rfl rfl rfl (hS.set2 _ _).c0 (hS.set2 _ _).c1) rfl ⟨by rw [HR.out]; rfl, bl_set (bl_set (bl_call hBw1 hb2 (Nat.le_refl _)) (by dsimp only; omega) _) (by dsimp only; omega) _⟩
 have HR : Hid (valueR c i = ((0, 0), errI c i n)) := by rw [Hid, ← Hm.out]; exact valueR_bad (by rw [Hm.out]; exact he)
 have hbe : (errI c i n != 0) = true := by simpa using he
 have HC := Lib.hid (fun W hW1 hW2 => check61_any (A := A) (B := B) (C := C) (n := n) (ca := ca) (m := m) (cb := cb) (q := q) (cc := cc) (c := c) i n W hW1 hca hcb hW2 hmi)
 clear he
 generalize errI c i n = ec at HR HC hbe
 go_enter Tryz.func29, Tryz.ntmps29
 go_wp2_with fail
 refine (HC.out _ (((h.keep (Keeps.alloc _ _)).keep (Keeps.alloc _ _)).keep (Keeps.alloc _ _)) (by omega)).mono ?_
 rintro e w1 ⟨rfl, hb1⟩
 have hS : Blk w1 (w.heap.size + 1 + 1) 23 #[.int .i64 0, .int .i64 0] := (Blk.new _ _ _ (by simp)).bl hb1
 have hBw1 : Below w.heap.size w w1 := bl_call (bl_alloc (bl_alloc (bl_alloc (Below.refl _ _) _ (Nat.le_refl _)) _ (Nat.le_refl _)) _ (Nat.le_refl _)) hb1 (Nat.le_refl _)
 have hs0 := hS.c0
 have hs1 := hS.c1
 have hf0 := hS.frozen 0
 have hf1 := hS.frozen 1
 have hsl := hS.lt
 clear hb1
 go_wp2
 exact bodyPost_ret (ret_span rfl rfl rfl (hS.set2 _ _).c0 (hS.set2 _ _).c1) rfl ⟨by rw [HR.out], bl_set (bl_set hBw1 (by dsimp only; omega) _) (by dsimp only; omega) _⟩
end Go.Proofs.YtdbfincinjoppabGreatDoor
