/- A part of the proof that TopLaid always answers true. -/
import Derived.Test.YtdbfincinjoppaaGreatCRegion
import Derived.Test.YtdbfincinjoppaaGreatCTRec3
set_option linter.all false
namespace Go.Proofs.YtdbfincinjoppaaGreat
open Go.RowKit Go.Shelf
attribute [local go_sem] Oper.semAt_some
theorem setCell_noop {w : World} {g : Nat} {t : TypeId} {v : Value} (h : Blk w g t #[v]) : w.setCell ⟨g, 0, none⟩ v = w := by
 have hh : (w.setCell ⟨g, 0, none⟩ v).heap = w.heap := by
  apply Array.ext_getElem?
  intro k
  by_cases e : k = g
  ·subst e
   have h2 := h.set_ 0 v
   exact h2.trans h.symm
  exact Below.heap_setCell w ⟨g, 0, none⟩ v k e
 show ({ w with heap := (w.setCell ⟨g, 0, none⟩ v).heap } : World) = w
 rw [hh]
theorem least_snoc (L : List (List (List Int) × Int)) {i : Nat} {x : List (List Int) × Int} (h : L[i]? = some x) : leastL (L.take (i + 1)) = betterL (leastL (L.take i)) x := by
 unfold leastL; rw [take_snoc_get h, List.foldl_append]; rfl
def LeastVal (Own : List (List Int) × Int → Value → Foot → World → Prop) (g2 g3 g4 : Nat) (Yb : Foot) (A : World) : Option (List (List Int) × Int) → Prop
 | none => Blk A g2 57 #[.slice none 0 0] ∧ Blk A g3 3 #[.int .i64 0] ∧ Blk A g4 4 #[.bool false]
 | some x => ∃ B n c, Own x (.slice B n c) Yb A ∧ Blk A g2 57 #[.slice B n c] ∧ Blk A g3 3 #[.int .i64 x.2] ∧ Blk A g4 4 #[.bool true]
def LeastJ (Own : List (List Int) × Int → Value → Foot → World → Prop) (g2 g3 g4 : Nat) (L : List (List (List Int) × Int)) (i : Nat) (O : Foot) (A : World) : Prop :=
 ∃ Yb : Foot, (∀ k, O k ↔ (k = g2 ∨ k = g3 ∨ k = g4) ∨ Yb k) ∧ (∀ k, Yb k → ¬ (k = g2 ∨ k = g3 ∨ k = g4)) ∧ LeastVal Own g2 g3 g4 Yb A (leastL (L.take i))
def LeastR (Own : List (List Int) × Int → Value → Foot → World → Prop) (o : Option (List (List Int) × Int)) (e : Ending) (w' : World) : Prop :=
 match o with
 | none => e = .returned (.tuple #[.slice none 0 0, .int .i64 0, .bool false])
 | some x => ∃ B n c Y, e = .returned (.tuple #[.slice B n c, .int .i64 x.2, .bool true]) ∧ Own x (.slice B n c) Y w'
theorem least_results (tmps : Array Value) (w : World) {g2 g3 g4 : Nat} {v : Value} {n : Int} {b : Bool} {T2 T3 T4 : TypeId} (h2 : Blk w g2 T2 #[v]) (h3 : Blk w g3 T3 #[.int .i64 n]) (h4 : Blk w g4 T4 #[.bool b])
  (t2 : tmps[2]? = some (.pointer (some ⟨g2, 0, none⟩))) (t3 : tmps[3]? = some (.pointer (some ⟨g3, 0, none⟩))) (t4 : tmps[4]? = some (.pointer (some ⟨g4, 0, none⟩))) :
  (results Tryz.f46 tmps).run Tryz.prog w = .ok (.tuple #[v, .int .i64 n, .bool b]) w := by
 have c2 := h2.cell 0
 have c3 := h3.cell 0
 have c4 := h4.cell 0
 simp [results, Tryz.results46, asAddr, go_sem, t2, t3, t4, c2, c3, c4]
set_option maxRecDepth 100000 in
set_option maxHeartbeats 2000000 in
theorem least_any {gf : Nat} {lb : Array Value} (eg : ∀ args w, (callFunc gf args).run Tryz.prog w = .ok (.enter gf args) w) {Enc : List (List Int) × Int → Array Value → Foot → World → Prop} {Own : List (List Int) × Int → Value → Foot → World → Prop}
  (hE : ∀ x args Y A, Enc x args Y A → ∃ B n c, args = #[.slice B n c, .int .i64 x.2] ∧ Own x (.slice B n c) Y A) (hOwn : ∀ x v Y A B, Own x v Y A → Kept (fun k => ¬ Y k) A B → (∀ k, Y k → k < A.heap.size) → Own x v Y B)
  {L : List (List (List Int) × Int)} {Inv : World → Prop} (hseq : SeqG Tryz.prog gf lb Enc L Inv) (w : World) (hInv : ∀ A, Below w.heap.size w A → Inv A) :
  Calls Tryz.prog 46 #[.func (.func gf) #[] lb] w fun e w' => LeastR Own (leastL L) e w' ∧ Below w.heap.size w w' := by
 refine (callsIn_wide (n := 1)).1 ?_
 refine callsIn_of_wp_marks Tryz.func46 rfl trivial ?_ rfl
 simp only [Tryz.ntmps46, List.size_toArray, List.length_cons, List.length_nil, Nat.reduceAdd, Nat.reduceSub, Array.replicate_succ, Array.replicate_zero, List.push_toArray, List.append_toArray, List.nil_append, List.cons_append]
 gi_wp2_with fail
 obtain ⟨W1, hW1⟩ : ∃ W1, ((w.alloc (.cells #[.slice none 0 0] 57)).alloc (.cells #[.int .i64 0] 3)).alloc (.cells #[.bool false] 4) = W1 := ⟨_, rfl⟩
 have b1 : Below w.heap.size w W1 := by rw [← hW1]; exact bl_alloc (bl_alloc (bl_alloc (Below.refl _ _) _ (Nat.le_refl _)) _ (Nat.le_refl _)) _ (Nat.le_refl _)
 have hs1 : W1.heap.size = w.heap.size + 3 := by rw [← hW1]; simp
 have X2 : Blk W1 w.heap.size 57 #[.slice none 0 0] := by rw [← hW1]; exact ((Blk.new _ _ _ rfl).alloc _).alloc _
 have X3 : Blk W1 (w.heap.size + 1) 3 #[.int .i64 0] := by rw [← hW1]; exact (Blk.new _ _ _ (by simp)).alloc _
 have X4 : Blk W1 (w.heap.size + 1 + 1) 4 #[.bool false] := by rw [← hW1]; exact Blk.new _ _ _ (by simp)
 rw [hW1]
 obtain ⟨g4, eg4⟩ : ∃ g4, w.heap.size + 1 + 1 = g4 := ⟨_, rfl⟩
 obtain ⟨g3, eg3⟩ : ∃ g3, w.heap.size + 1 = g3 := ⟨_, rfl⟩
 obtain ⟨g2, eg2⟩ : ∃ g2, w.heap.size = g2 := ⟨_, rfl⟩
 rw [eg4] at X4
 rw [eg3] at X3
 rw [eg2] at X2
 rw [eg4, eg3, eg2]
 have HG : Hid (g2 = w.heap.size ∧ g3 = w.heap.size + 1 ∧ g4 = w.heap.size + 2 ∧ W1.heap.size = w.heap.size + 3) := ⟨eg2.symm, eg3.symm, eg4.symm, hs1⟩
 clear hW1 eg4 eg3 eg2 hs1
 have hbel : ∀ {A : World}, Kept (fun k => (k = g2 ∨ k = g3 ∨ k = g4) ∨ W1.heap.size ≤ k) W1 A → Below w.heap.size w A := fun hK => b1.trans (hK.below (B := w.heap.size) b1.size (fun k h => by have := HG.out; omega))
 have hn3 : g2 ≠ g3 ∧ g2 ≠ g4 ∧ g3 ≠ g4 := by have := HG.out; omega
 refine rangeFunc_outerG (m := 1) (gf := gf) (lb := lb) rfl eg hseq (fun x args Y A h => by obtain ⟨B, n, c, rfl, _⟩ := hE x args Y A h; rfl) (fun k => k = g2 ∨ k = g3 ∨ k = g4) (LeastJ Own g2 g3 g4 L) (fun _ _ _ => False) (fun k h => by have := HG.out; omega) (fun A hK => hInv A (hbel hK)) ?stay (fun _ _ _ _ h _ _ => h) ?init ?round ?done (fun _ _ _ _ h _ _ _ _ _ => h.elim)
 case init => exact ⟨fun _ => False, fun k => by simp, fun k h => h.elim, X2, X3, X4⟩
 case stay =>
  rintro i O A B ⟨Yb, hO, hY, hv⟩ hlt hK
  have hb : ∀ {g : Nat} {t : TypeId} {cs : Array Value}, Blk A g t cs → (g = g2 ∨ g = g3 ∨ g = g4) → Blk B g t cs := fun h hg => (hK.block _ h.lt (fun hn => hn ((hO _).2 (.inl hg)))).trans h
  refine ⟨Yb, hO, hY, ?_⟩
  revert hv
  cases leastL (L.take i) with
  | none => rintro ⟨h2, h3, h4⟩; exact ⟨hb h2 (.inl rfl), hb h3 (.inr (.inl rfl)), hb h4 (.inr (.inr rfl))⟩
  | some x =>
   rintro ⟨B', n, c, ho, h2, h3, h4⟩
   exact ⟨B', n, c, hOwn _ _ _ _ _ ho (hK.mono fun k _ hn hy => hn ((hO k).2 (.inr hy))) (fun k hk => hlt k ((hO k).2 (.inr hk))), hb h2 (.inl rfl), hb h3 (.inr (.inl rfl)), hb h4 (.inr (.inr rfl))⟩
 case round =>
  intro l' i x args Y O A1 hx hEnc hY hYl ⟨Yb, hO, hYb, hv⟩ hlt hsub hK hnl hlA hWl hr1
  obtain ⟨B, n, c, rfl, ho⟩ := hE x args Y A1 hEnc
  rw [fold2]
  simp only [List.setIfInBounds_toArray, List.set_cons_zero, List.set_cons_succ]
  gi_wp2
  refine ⟨Kept.refl _ _, fun A2 hK2 hs2 r2 hr2 => ?_⟩
  have hOg : ∀ {g : Nat}, (g = g2 ∨ g = g3 ∨ g = g4) → O g := fun h => (hO _).2 (.inl h)
  have hb : ∀ {g : Nat} {t : TypeId} {cs : Array Value}, Blk A1 g t cs → (g = g2 ∨ g = g3 ∨ g = g4) → Blk A2 g t cs := fun h hg => (hK2.block _ h.lt (fun e => hnl (e ▸ hOg hg))).trans h
  have hon : Own x (.slice B n c) Y A2 := hOwn _ _ _ _ _ ho (hK2.mono fun k _ e hy => hYl (e ▸ hy)) (fun k hk => (hY k hk).2.2)
  have hYg : ∀ k, Y k → ¬ (k = g2 ∨ k = g3 ∨ k = g4) := fun k hk hg => (hY k hk).1 (hOg hg)
  have HST : Hid (∀ (v2 : Value) (n3 : Int) (b4 : Bool), Blk A2 g2 57 #[v2] → Blk A2 g3 3 #[.int .i64 n3] → Blk A2 g4 4 #[.bool b4] → leastL (L.take (i + 1)) = some x → ∀ V, V = ((A2.setCell ⟨g2, 0, none⟩ (.slice B n c)).setCell ⟨g3, 0, none⟩ (.int .i64 x.2)).setCell ⟨g4, 0, none⟩ (.bool true) →
    Kept O A2 V ∧ ∃ O' : Foot, (∀ k, O' k → O k ∨ Y k ∨ (A1.heap.size ≤ k ∧ k < V.heap.size)) ∧ LeastJ Own g2 g3 g4 L (i + 1) O' V) := by
   intro v2 n3 b4 h2 h3 h4 hl V hV
   have hKV : Kept (fun k => k = g2 ∨ k = g3 ∨ k = g4) A2 V := by
    rw [hV]
    exact ((Kept.setCell (M := fun k => k = g2 ∨ k = g3 ∨ k = g4) A2 ⟨g2, 0, none⟩ _ (.inl rfl)).trans (Kept.setCell _ ⟨g3, 0, none⟩ _ (.inr (.inl rfl)))).trans (Kept.setCell _ ⟨g4, 0, none⟩ _ (.inr (.inr rfl)))
   refine ⟨hKV.mono fun k _ h => hOg h, fun k => (k = g2 ∨ k = g3 ∨ k = g4) ∨ Y k, fun k hk => hk.imp (fun h => hOg h) .inl, Y, fun k => Iff.rfl, hYg, ?_⟩
   rw [hl]
   refine ⟨B, n, c, hOwn _ _ _ _ _ hon (hKV.mono fun k _ h hy => hYg k hy h) (fun k hk => by have := (hY k hk).2.2; have := hK2.size; omega), ?_, ?_, ?_⟩
   ·rw [hV]; exact ((h2.set_ 0 _).far hn3.1 _).far hn3.2.1 _
   ·rw [hV]; exact ((h3.far (fun e => hn3.1 e.symm) _).set_ 0 _).far hn3.2.2 _
   rw [hV]; exact ((h4.far (fun e => hn3.2.1 e.symm) _).far (fun e => hn3.2.2 e.symm) _).set_ 0 _
  have HLS := Lib.hid (least_snoc L hx)
  obtain ⟨xg, hxg⟩ : ∃ xg, x.2 = xg := ⟨_, rfl⟩
  have HXG := Lib.hid hxg
  have HYb := Lib.hid hYb
  have HOO := Lib.hid hO
  have HK2 := Lib.hid hK2
  have HOWN := Lib.hid hOwn
  have hYbl : Hid (¬ Yb l') := fun hy => hnl ((hO l').2 (.inr hy))
  have hYblt : Hid (∀ k, Yb k → k < A1.heap.size) := fun k hk => hlt k ((hO k).2 (.inr hk))
  cases hle : leastL (L.take i) with
  | none =>
   rw [hle] at hv
   obtain ⟨h2, h3, h4⟩ := hv
   have h2 := hb h2 (.inl rfl)
   have h3 := hb h3 (.inr (.inl rfl))
   have h4 := hb h4 (.inr (.inr rfl))
   have HF := Lib.hid (HST.out _ _ _ h2 h3 h4 (by rw [HLS.out, hle]; rfl))
   have z2 := h2.cell 0
   have z3 := h3.cell 0
   have z4 := h4.cell 0
   have y2 := h2.frozen 0
   have y3 := h3.frozen 0
   have y4 := h4.frozen 0
   have l2 := h2.lt
   have l3 := h3.lt
   have l4 := h4.lt
   rw [hxg]
   rw [hxg] at HF
   clear h2 h3 h4 hle hon HST hxg hO hYb hEnc ho hs2 hr2 hK2 hOwn
   gi_wp2_with fail
   exact HF.out _ rfl
  | some y =>
   rw [hle] at hv
   obtain ⟨B', n', c', ho', h2, h3, h4⟩ := hv
   have h2 := hb h2 (.inl rfl)
   have h3 := hb h3 (.inr (.inl rfl))
   have h4 := hb h4 (.inr (.inr rfl))
   have z2 := h2.cell 0
   have z3 := h3.cell 0
   have z4 := h4.cell 0
   have y2 := h2.frozen 0
   have y3 := h3.frozen 0
   have y4 := h4.frozen 0
   have l2 := h2.lt
   have l3 := h3.lt
   have l4 := h4.lt
   by_cases hd : x.2 < y.2
   ·have HF := Lib.hid (HST.out _ _ _ h2 h3 h4 (by rw [HLS.out, hle, betterL, if_pos hd]))
    rw [hxg]
    rw [hxg] at HF hd
    clear h2 h3 h4 hle hon HST hxg hO hYb hEnc ho hs2 hr2 hK2 hOwn ho'
    gi_wp2_with fail
    exact HF.out _ rfl
   have HB := Lib.hid (⟨h2, h3, h4⟩ : _ ∧ _ ∧ _)
   have HLN : Hid (leastL (L.take (i + 1)) = some y) := by rw [Hid, HLS.out, hle, betterL, if_neg hd]
   have HO' := Lib.hid ho'
   rw [hxg]
   rw [hxg] at hd
   clear h2 h3 h4 hle hon HST hxg hO hYb hEnc ho hs2 hr2 hK2 hOwn ho'
   gi_wp2_with fail
   refine ⟨Kept.refl _ _, O, fun k hk => .inl hk, Yb, HOO.out, HYb.out, ?_⟩
   rw [HLN.out]
   exact ⟨B', n', c', HOWN.out _ _ _ _ _ HO'.out (HK2.out.mono fun k _ e hy => hYbl.out (e ▸ hy)) hYblt.out, HB.out⟩
 rintro O W' D ⟨Yb, hO, hYb, hv⟩ hOs hK hD hnD hDb
 rw [List.take_length] at hv
 have hYbl : ∀ k, Yb k → k < W'.heap.size := fun k hk => by
  rcases hOs k ((hO k).2 (.inr hk)) with h | h
  ·exact absurd h (hYb k hk)
  exact h.2
 obtain ⟨v2, n3, b4, h2, h3, h4, hsl, hfin⟩ : ∃ v2 n3 b4, Blk W' g2 57 #[v2] ∧ Blk W' g3 3 #[.int .i64 n3] ∧ Blk W' g4 4 #[.bool b4] ∧ (∃ B n c, v2 = .slice B n c) ∧ (∀ w9, Kept (fun k => ¬ O k) W' w9 → LeastR Own (leastL L) (.returned (.tuple #[v2, .int .i64 n3, .bool b4])) w9) := by
  cases hle : leastL L with
  | none =>
   rw [hle] at hv
   exact ⟨_, _, _, hv.1, hv.2.1, hv.2.2, ⟨_, _, _, rfl⟩, fun _ _ => rfl⟩
  | some x =>
   rw [hle] at hv
   obtain ⟨B, n, c, ho, h2, h3, h4⟩ := hv
   exact ⟨_, _, _, h2, h3, h4, ⟨_, _, _, rfl⟩, fun w9 hk => ⟨B, n, c, Yb, rfl, hOwn _ _ _ _ _ ho (hk.mono fun k _ hn hy => hn ((hO k).2 (.inr hy))) hYbl⟩⟩
 obtain ⟨B, n, c, rfl⟩ := hsl
 have hBel := hbel hK
 have HBEL := Lib.hid hBel
 have HFIN := Lib.hid hfin
 have H2 := Lib.hid h2
 have H3 := Lib.hid h3
 have H4 := Lib.hid h4
 have HDB := Lib.hid hDb
 clear hBel hfin hv hO hYb hYbl hOs hK h2 h3 h4 hDb
 gi_wp2_with fail
 refine wpIn_region_list (F := Fence.wide) (r := none) rfl (fun W => ∃ q, W = W'.drewN q) (fun w1 w2 => True)
  [isV (.slice B n c), isV (.int .i64 n3), isV (.bool b4), (fun _ _ => True), (fun _ _ => True), (fun _ _ => True)]
  (by kernel_rfl) (by kernel_rfl) (by kernel_rfl) (by simp) ⟨1, rfl⟩ ?stab ?step ?fin
 case stab => exact StabL.is (StabL.is (StabL.is (StabL.cons (fun _ _ _ _ _ _ => trivial) (StabL.cons (fun _ _ _ _ _ _ => trivial) (StabL.cons (fun _ _ _ _ _ _ => trivial) StabL.nil)))))
 case step =>
  refine StepsL.is ?_ (StepsL.is ?_ (StepsL.is ?_ (StepsL.cons ?_ (StepsL.cons ?_ (StepsL.cons ?_ StepsL.nil)))))
  all_goals
   intro vs W K hC hD hU hK
   simp only [fillA, Act.put, List.setIfInBounds_toArray, List.set_cons_zero, List.set_cons_succ, Nat.zero_add, Nat.reduceAdd] at hK ⊢
   simp [waits, Region.binds] at hD
   try simp only [envOf, List.getD_cons_succ, List.getD_cons_zero, isV] at hD
   obtain ⟨q, rfl⟩ := hC
   have z2 := (H2.out.drewN q).cell 0
   have z3 := (H3.out.drewN q).cell 0
   have z4 := (H4.out.drewN q).cell 0
   have y2 := (H2.out.drewN q).frozen 0
   have y3 := (H3.out.drewN q).frozen 0
   have y4 := (H4.out.drewN q).frozen 0
   have l2 := (H2.out.drewN q).lt
   have l3 := (H3.out.drewN q).lt
   have l4 := (H4.out.drewN q).lt
   have s2 := setCell_noop (H2.out.drewN q)
   have s3 := setCell_noop (H3.out.drewN q)
   have s4 := setCell_noop (H4.out.drewN q)
  ·go_simp
   exact hK _ ⟨q, rfl⟩ trivial
  ·go_simp
   exact hK _ ⟨q, rfl⟩ trivial
  ·go_simp
   exact hK _ ⟨q, rfl⟩ trivial
  ·simp only [hD] at hK ⊢
   go_simp
   exact hK undef _ ⟨q, rfl⟩ trivial trivial
  ·simp only [hD] at hK ⊢
   go_simp
   exact hK undef _ ⟨q, rfl⟩ trivial trivial
  simp only [hD] at hK ⊢
  go_simp
  exact hK undef _ ⟨q, rfl⟩ trivial trivial
 intro vs W hC hE hU
 obtain ⟨q, rfl⟩ := hC
 clear hE hU
 simp only [fillA, Act.put, List.setIfInBounds_toArray, List.set_cons_zero, List.set_cons_succ, Nat.zero_add, Nat.reduceAdd]
 simp [wpOpsIn]
 gi_wp2_with fail
 refine ⟨by simp, .inl ⟨_, _, rfl, run_takeDeferred (w := W'.drewN q) HDB.out, ?_⟩⟩
 have hKD : Kept (fun k => ¬ O k) W' ((W'.drewN q).putObj D (.deferred none)) := (Kept.drewN _ _ _).trans (Kept.putObj _ _ _ hnD)
 have hD3 : g2 ≠ D ∧ g3 ≠ D ∧ g4 ≠ D := by have := HG.out; omega
 have f2 : Blk ((W'.drewN q).putObj D (.deferred none)) g2 57 #[.slice B n c] := (World.putObj_heap_other hD3.1).trans H2.out
 have f3 : Blk ((W'.drewN q).putObj D (.deferred none)) g3 3 #[.int .i64 n3] := (World.putObj_heap_other hD3.2.1).trans H3.out
 have f4 : Blk ((W'.drewN q).putObj D (.deferred none)) g4 4 #[.bool b4] := (World.putObj_heap_other hD3.2.2).trans H4.out
 refine ⟨_, least_results _ _ f2 f3 f4 rfl rfl rfl, HFIN.out _ hKD, ?_⟩
 exact (bl_drewN HBEL.out q).trans ((Kept.putObj (M := fun k => k = D) (W'.drewN q) D _ rfl).below (B := w.heap.size) (by have := HBEL.out.size; simpa using this) (fun k e => by have := HG.out; omega))
end Go.Proofs.YtdbfincinjoppaaGreat
