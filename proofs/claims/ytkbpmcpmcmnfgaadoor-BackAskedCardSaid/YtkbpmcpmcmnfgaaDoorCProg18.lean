/- Walks: the program's span over the truths. -/
import Derived.Test.YtkbpmcpmcmnfgaaDoorCProg17
set_option linter.unusedVariables false
set_option linter.unusedSimpArgs false
set_option linter.all false
namespace Go.Proofs.YtkbpmcpmcmnfgaaDoor
open Go.RowKit Go.Shelf
attribute [local go_sem] Oper.semAt_some

theorem Blk.puts {w : World} {g : Nat} {t : TypeId} {cs : Array Value} (h : Blk w g t cs) {D : Nat} (hD : g ≠ D) (o : Obj) : Blk (w.putObj D o) g t cs := (World.putObj_heap_other hD).trans h

theorem endsOf_snoc (l : List Int) (x : Int) : endsOf (l ++ [x]) = (if decide (0 < l.length) then min (endsOf l).1 x else x, if decide (0 < l.length) then max (endsOf l).2 x else x) := by
  cases l with
  | nil => simp [endsOf, ends]
  | cons y l => rw [List.cons_append, endsOf, endsOf, ends_snoc]; simp
def endsK (c : Claim) (f : List Int → Int) (i : Nat) : Int × Int := endsOf (((agreeL c).take i).map f)
theorem endsK_succ {c : Claim} {f : List Int → Int} {i : Nat} {t : List Int} (h : (agreeL c)[i]? = some t) : endsK c f (i + 1) = (if decide (0 < i) then min (endsK c f i).1 (f t) else f t, if decide (0 < i) then max (endsK c f i).2 (f t) else f t) := by
  unfold endsK
  rw [take_snoc_get h, List.map_append, List.map_cons, List.map_nil, endsOf_snoc]
  have hi := of_getq h
  have : (((agreeL c).take i).map f).length = i := by rw [List.length_map, List.length_take]; omega
  rw [this]

/-- what span answers -/
def spanR (c : Claim) (f : List Int → Int) : (Int × Int) × Int := if agreeL c = [] then ((0, 0), 8) else (endsOf ((agreeL c).map f), 0)

set_option maxRecDepth 100000 in
set_option maxHeartbeats 4000000 in
theorem bspan_any {A B C : Option Addr} {n ca m cb q cc : Nat} {c : Claim} {ff : Nat} {lb : Array Value} {f : List Int → Int} (w : World) (hok : OkC c) (h : ClaimAt (fun _ => True) w A n B m C q c) (eg : Enters Tryd.prog ff)
    (hof : ∀ W' t, Below w.heap.size w W' → t ∈ agreeL c → Calls Tryd.prog ff (#[tv t] ++ lb) W' fun e w' => e = .returned (.int .i64 (f t)) ∧ Below W'.heap.size W' w') :
    Calls Tryd.prog 75 #[.agg #[.slice A n ca, .slice B m cb, .slice C q cc], .func (.func ff) #[] lb] w fun e w' => e = .returned (.tuple #[.agg #[.int .i64 (spanR c f).1.1, .int .i64 (spanR c f).1.2], .int .i64 (spanR c f).2]) ∧ Below w.heap.size w w' := by
  have HOF := Lib.hid hof
  clear hof
  refine (callsIn_wide (n := 1)).1 ?_
  refine callsIn_of_wp_marks Tryd.func75 rfl trivial ?_ rfl
  simp only [Tryd.ntmps75, List.size_toArray, List.length_cons, List.length_nil, Nat.reduceAdd, Nat.reduceSub, Array.replicate_succ, Array.replicate_zero, List.push_toArray, List.append_toArray, List.nil_append, List.cons_append]
  gi_wp2_with (first | (refine ⟨trivial, ?_⟩; gi_at_call 62; refine (callsIn_wide.2 (btruths_any _)).mono ?_; rintro e w' ⟨rfl, rfl⟩) | (gi_at_call 62; refine (callsIn_wide.2 (btruths_any _)).mono ?_; rintro e w' ⟨rfl, rfl⟩))
  obtain ⟨W2, hW2⟩ : ∃ W2, ((((w.alloc (.cells #[.slice A n ca, .slice B m cb, .slice C q cc] 26)).alloc (.cells #[.func (.func ff) #[] lb] 107)).alloc (.cells #[.int .i64 0, .int .i64 0] 44)).alloc (.cells #[.int .i64 0, .int .i64 0, .bool false] 126)).alloc (.cells #[.slice A n ca, .slice B m cb, .slice C q cc] 93) = W2 := ⟨_, rfl⟩
  have hBW2 : Below w.heap.size w W2 := by rw [← hW2]; exact bl_alloc (bl_alloc (bl_alloc (bl_alloc (bl_alloc (Below.refl _ _) _ (Nat.le_refl _)) _ (Nat.le_refl _)) _ (Nat.le_refl _)) _ (Nat.le_refl _)) _ (Nat.le_refl _)
  have hs2 : W2.heap.size = w.heap.size + 1 + 1 + 1 + 1 + 1 := by rw [← hW2]; simp
  have hgf : Blk W2 (w.heap.size + 1) 107 #[.func (.func ff) #[] lb] := by rw [← hW2]; exact (((Blk.new _ _ _ (by simp)).alloc _).alloc _).alloc _
  have hgs : Blk W2 (w.heap.size + 1 + 1) 44 #[.int .i64 0, .int .i64 0] := by rw [← hW2]; exact ((Blk.new _ _ _ (by simp)).alloc _).alloc _
  have hge : Blk W2 (w.heap.size + 1 + 1 + 1) 126 #[.int .i64 0, .int .i64 0, .bool false] := by rw [← hW2]; exact (Blk.new _ _ _ (by simp)).alloc _
  have hgx : Blk W2 (w.heap.size + 1 + 1 + 1 + 1) 93 #[.slice A n ca, .slice B m cb, .slice C q cc] := by rw [← hW2]; exact Blk.new _ _ _ (by simp)
  rw [hW2]
  clear hW2
  obtain ⟨OM, hOM⟩ : ∃ OM : Foot, OM = fun k => k = w.heap.size + 1 + 1 + 1 := ⟨_, rfl⟩
  have hOe : OM (w.heap.size + 1 + 1 + 1) := by rw [hOM]
  have hOx : ∀ k, OM k → k = w.heap.size + 1 + 1 + 1 := by rw [hOM]; exact fun k h => h
  have hbig : ∀ {A : World}, Kept (fun k => OM k ∨ W2.heap.size ≤ k) W2 A → Below w.heap.size w A := fun hK => hBW2.trans (hK.below (by omega) (fun k h => h.elim (fun h => by have := hOx k h; omega) (fun h => by omega)))
  have hold : ∀ {A : World} {g : Nat} {t : TypeId} {cs : Array Value}, Blk W2 g t cs → ¬ OM g → Kept (fun k => OM k ∨ W2.heap.size ≤ k) W2 A → Blk A g t cs := fun hB hg hK =>
    (hK.block _ hB.lt (fun h => h.elim hg (fun h => by have := hB.lt; omega))).trans hB
  have hNx : ¬ OM (w.heap.size + 1 + 1 + 1 + 1) := fun h => by have := hOx _ h; omega
  have hNf : ¬ OM (w.heap.size + 1) := fun h => by have := hOx _ h; omega
  have hNs : ¬ OM (w.heap.size + 1 + 1) := fun h => by have := hOx _ h; omega
  refine rangeFunc_outer (m := 1) (gf := 90) (lb := #[.pointer (some ⟨w.heap.size + 1 + 1 + 1 + 1, 0, none⟩)]) rfl eg_truths (truths_seq (A0 := A) (B0 := B) (C0 := C) (n := n) (ca := ca) (mm := m) (cb := cb) (q := q) (cc := cc) hok (w.heap.size + 1 + 1 + 1 + 1)) (fun _ => rfl) OM
    (fun i O A => O = OM ∧ Blk A (w.heap.size + 1 + 1 + 1) 126 #[.int .i64 (endsK c f i).1, .int .i64 (endsK c f i).2, .bool (decide (0 < i))]) (fun _ _ _ => False) (fun k h => by have := hOx k h; omega)
    (fun A hK => ⟨hold hgx hNx hK, h.keep (Keeps.below (hbig hK))⟩) ?stay (fun _ _ _ _ h _ _ => h) ⟨rfl, hge⟩ ?round ?done (fun _ _ _ _ h _ _ _ _ _ => h.elim)
  case stay =>
    rintro i O A B ⟨rfl, h1⟩ hlt hK
    exact ⟨rfl, (hK.block _ h1.lt (fun h => h hOe)).trans h1⟩
  case round =>
    rintro l i x O A1 hx ⟨rfl, h1⟩ hlt hsub hK hnl hlA hWl
    have htv : tv x = .agg #[.int .i64 (x.getD 0 0), .int .i64 (x.getD 1 0), .int .i64 (x.getD 2 0), .int .i64 (x.getD 3 0), .int .i64 (x.getD 4 0)] := rfl
    generalize x.getD 0 0 = a0 at htv
    generalize x.getD 1 0 = a1 at htv
    generalize x.getD 2 0 = a2 at htv
    generalize x.getD 3 0 = a3 at htv
    generalize x.getD 4 0 = a4 at htv
    have HE := Lib.hid (endsK_succ (f := f) hx)
    have HX := Lib.hid (List.mem_of_getElem? hx)
    have HTV := Lib.hid htv
    have HK := Lib.hid hK
    have H1 := Lib.hid h1
    clear htv hK h1 hx
    rw [fold1, HTV.out]
    simp only [List.setIfInBounds_toArray, List.set_cons_zero, List.set_cons_succ]
    gi_wp2
    refine ⟨Kept.alloc _ _ _, fun A2 hK2 hs2' _ => ?_⟩
    simp only [World.size_alloc] at hs2'
    have hs2a : A1.heap.size + 1 ≤ A2.heap.size := by omega
    clear hs2'
    have kA : Kept (fun k => k = l) A1 A2 := (Kept.alloc (fun k => k = l) A1 (.cells #[.int .i64 a0, .int .i64 a1, .int .i64 a2, .int .i64 a3, .int .i64 a4] 96)).trans hK2
    have hT2 : Blk A2 A1.heap.size 96 #[.int .i64 a0, .int .i64 a1, .int .i64 a2, .int .i64 a3, .int .i64 a4] := (hK2.block A1.heap.size (by simp) (by omega)).trans (Blk.new _ _ _ rfl)
    have hE2 : Blk A2 (w.heap.size + 1 + 1 + 1) 126 #[.int .i64 (endsK c f i).1, .int .i64 (endsK c f i).2, .bool (decide (0 < i))] := (kA.block _ H1.out.lt (fun h => hnl (h ▸ hOe))).trans H1.out
    have hK3 : Kept (fun k => O k ∨ W2.heap.size ≤ k) W2 A2 := HK.out.seq kA (fun k _ h => .inr (h ▸ hWl))
    have hgf2 := hold hgf hNf hK3
    have hf0 := hgf2.cell 0
    have ht0 := hT2.cell 0
    have ht1 := hT2.cell 1
    have ht3 := hT2.cell 2
    have ht4 := hT2.cell 3
    have ht5 := hT2.cell 4
    have HOF2 := Lib.hid (HOF.out A2 x (hbig hK3) HX.out)
    rw [HTV.out] at HOF2
    have HE2 := Lib.hid hE2
    clear hK2 hK3 kA hE2
    have eg' : ∀ args W, (callFunc ff args).run Tryd.prog W = .ok (.enter ff args) W := eg
    gi_wp2_with fail
    refine ⟨trivial, ?_⟩
    refine (CallsIn.inRound l (callsIn_wide.2 HOF2.out)).mono ?_
    rintro e w' ⟨rfl, hb3⟩
    have hE3 := HE2.out.bl hb3
    have HB3 := Lib.hid hb3
    clear hb3 hf0 ht0 ht1 ht3 ht4 ht5
    gi_wp2_with fail
    refine ⟨trivial, ?_⟩
    refine (CallsIn.inRound l (callsIn_wide.2 (add_any _ hE3))).mono ?_
    rintro e w4 ⟨rfl, hK4, hB4⟩
    have HB4 := Lib.hid hB4
    have HK4 := Lib.hid hK4
    clear hK4 hB4 hE3
    gi_wp2
    refine ⟨(Kept.of_bl HB3.out).trans (HK4.out.mono fun k _ h => h ▸ hOe), O, fun k h => .inl h, rfl, ?_⟩
    rw [HE.out, decide_eq_true (Nat.succ_pos i)]
    exact HB4.out
  case done =>
    rintro O W' D ⟨rfl, h1⟩ hO hK hD hnD hDb
    have hBW := hbig hK
    have hS := hold hgs hNs hK
    have h0 := h1.cell 0
    have h1' := h1.cell 1
    have h2' := h1.cell 2
    have hc0 := hS.c0
    have hc1 := hS.c1
    have hf0 := hS.frozen 0
    have hf1 := hS.frozen 1
    have hsl := hS.lt
    have hDD : ∀ D, W'.heap[D]? = some (.deferred (some [])) → D ≠ w.heap.size + 1 + 1 → ∀ u v, ((W'.setCell ⟨w.heap.size + 1 + 1, 0, none⟩ u).setCell ⟨w.heap.size + 1 + 1, 1, none⟩ v).heap[D]? = some (.deferred (some [])) := fun D hD hne u v => by
      rw [Below.heap_setCell _ ⟨w.heap.size + 1 + 1, 1, none⟩ v D hne, Below.heap_setCell _ ⟨w.heap.size + 1 + 1, 0, none⟩ u D hne]; exact hD
    by_cases ha : agreeL c = []
    · have HR : Hid (spanR c f = ((0, 0), 8)) := by rw [Hid, spanR, if_pos ha]
      have hfb : decide (0 < (agreeL c).length) = false := by rw [ha]; rfl
      rw [hfb] at h2'
      clear hfb ha h1 h0 h1'
      gi_wp2
      refine ⟨by simp, .inl ⟨_, _, rfl, run_takeDeferred (hDD D hDb (by omega) _ _), ?_⟩⟩
      have hB3 := (hS.set2 (.int .i64 0) (.int .i64 0)).puts (D := D) (by omega) (.deferred none)
      refine ⟨_, ret_span rfl rfl rfl (Blk.c0 hB3) (Blk.c1 hB3), by rw [HR.out], bl_put (bl_set (bl_set hBW (by dsimp only; omega) _) (by dsimp only; omega) _) (by omega) _⟩
    · have HR : Hid (spanR c f = (endsK c f (agreeL c).length, 0)) := by rw [Hid, spanR, if_neg ha, endsK, List.take_length]
      have hfb : decide (0 < (agreeL c).length) = true := by simp; exact List.length_pos_iff.2 ha
      rw [hfb] at h2'
      clear hfb ha h1
      gi_wp2
      refine ⟨by simp, .inl ⟨_, _, rfl, run_takeDeferred (hDD D hDb (by omega) _ _), ?_⟩⟩
      have hB3 := (hS.set2 (.int .i64 (endsK c f (agreeL c).length).1) (.int .i64 (endsK c f (agreeL c).length).2)).puts (D := D) (by omega) (.deferred none)
      refine ⟨_, ret_span rfl rfl rfl (Blk.c0 hB3) (Blk.c1 hB3), by rw [HR.out], bl_put (bl_set (bl_set hBW (by dsimp only; omega) _) (by dsimp only; omega) _) (by omega) _⟩

end Go.Proofs.YtkbpmcpmcmnfgaaDoor
