/- Walks: kept: layings in new memory. -/
import Derived.Laws.MakeOwn
import Derived.Laws.IdiomCopy
import Derived.RangeFuncKeeps
import Derived.Test.YtnaadjhiahjlfaaCRange
import Derived.Test.YtnaadjhiahjlfaaCTRecs
set_option linter.unusedVariables false
set_option linter.unusedSimpArgs false
set_option linter.all false
namespace Go.Proofs.Ytnaadjhiahjlfaa
open Go.RowKit Go.Shelf
attribute [local go_sem] Oper.semAt_some

def setMany2 : Array Value → Nat → List Value → Array Value
  | ds, _, [] => ds
  | ds, o, v :: r => setMany2 (ds.setIfInBounds o v) (o + 1) r
theorem setCells_blk {g : Nat} {t : TypeId} : ∀ (vs : List Value) (o : Nat) (w : World) (ds : Array Value), Blk w g t ds → Blk (w.setCells g o vs) g t (setMany2 ds o vs)
  | [], _, _, _, h => h
  | v :: r, o, _, _, h => setCells_blk r (o + 1) _ _ (h.set_ o v)
theorem setMany2_get : ∀ (vs : List Value) (o : Nat) (ds : Array Value), o + vs.length ≤ ds.size → (setMany2 ds o vs).size = ds.size ∧ ∀ k, (setMany2 ds o vs)[k]? = if o ≤ k ∧ k < o + vs.length then vs[k - o]? else ds[k]?
  | [], o, ds, _ => ⟨rfl, fun k => by rw [if_neg (by simp)]; rfl⟩
  | v :: r, o, ds, h => by
    rw [List.length_cons] at h
    obtain ⟨h1, h2⟩ := setMany2_get r (o + 1) (ds.setIfInBounds o v) (by rw [Array.size_setIfInBounds]; omega)
    refine ⟨h1.trans (Array.size_setIfInBounds ..), fun k => ?_⟩
    rw [setMany2, h2 k, List.length_cons]
    by_cases e : k = o
    · subst e
      rw [if_neg (by omega), if_pos (by omega), Nat.sub_self, Array.getElem?_setIfInBounds_self_of_lt (by omega)]; rfl
    · by_cases e2 : o ≤ k ∧ k < o + (r.length + 1)
      · rw [if_pos (by omega), if_pos e2]
        obtain ⟨d, hd⟩ : ∃ d, k - o = d + 1 := ⟨k - o - 1, by omega⟩
        rw [hd, show k - (o + 1) = d by omega]; rfl
      · rw [if_neg (by omega), if_neg e2, Array.getElem?_setIfInBounds_ne (fun h => e h.symm)]
theorem setCells_whole {w : World} {g : Nat} {t : TypeId} {ds cs : Array Value} (h : Blk w g t ds) (hs : ds.size = cs.size) : Blk (w.setCells g 0 cs.toList) g t cs := by
  have h1 := setCells_blk cs.toList 0 w ds h
  obtain ⟨h2, h3⟩ := setMany2_get cs.toList 0 ds (by simp [hs])
  have e : setMany2 ds 0 cs.toList = cs := by
    apply Array.ext_getElem?
    intro k
    rw [h3 k]
    by_cases hk : k < cs.size
    · rw [if_pos (by simpa using hk), Nat.sub_zero, Array.getElem?_toList]
    · rw [if_neg (by simpa using hk), Array.getElem?_eq_none (by omega), Array.getElem?_eq_none (by omega)]
  rw [e] at h1; exact h1
theorem setCells_kept {g : Nat} : ∀ (vs : List Value) (o : Nat) (w : World), Kept (fun k => k = g) w (w.setCells g o vs)
  | [], _, _ => Kept.refl _ _
  | v :: r, o, w => (Kept.setCell (M := fun k => k = g) w ⟨g, o, none⟩ v rfl).trans (setCells_kept r (o + 1) _)
theorem setCells_size2 {g : Nat} : ∀ (vs : List Value) (o : Nat) (w : World), (w.setCells g o vs).heap.size = w.heap.size
  | [], _, _ => rfl
  | v :: r, o, w => (setCells_size2 r (o + 1) _).trans (by simp [World.setCell])

theorem copy_rows {w : World} {g ga m : Nat} {ds cs : Array Value} {t1 t2 : TypeId} (hg : Blk w g t1 ds) (hn : ds.size = m) (ha : Blk w ga t2 cs) (hc : cs.size = m) (h1 : ∀ v ∈ cs.toList, v.oneCell' = true) (sT ty : TypeId) :
    (Builtin.copy_ #[38, sT] ty #[.slice (some ⟨g, 0, none⟩) m m, .slice (some ⟨ga, 0, none⟩) m m]).run Try.prog w = .ok (goInt m) (w.setCells g 0 cs.toList) := by
  obtain ⟨i0, hi0, hz0, hz1, hz2⟩ := info_parts infoInts
  have hs : (Try.prog.info? 56).map (·.size) = some 1 := by rw [hi0]; simp [hz1]
  have hl : cs.toList.length = m := by simp [hc]
  have h := run_copy_cells (P := Try.prog) w 38 sT ty 56 g 0 m m ⟨ga, 0, none⟩ m m cs.toList Try.underlying38 hs (by rw [hl]; exact (Nat.min_self m).symm) (fun j v hj => by
      rw [show (⟨ga, 0, none⟩ : Addr).add j = ⟨ga, j, none⟩ by unfold Addr.add; split <;> simp_all]
      rw [ha.cell j]; simpa using hj)
    (fun j hj => by rw [Nat.zero_add, hg.cell j]; rw [hl] at hj; simp [hn, hj])
    (fun j hj => by rw [Nat.zero_add]; exact hg.frozen j) h1
  rw [hl] at h
  exact h

/-- rows that are handed on in memory that passes to the loop's body -/
def KeptEnc (W0 : World) (m : Nat) (x : List (List Int) × Int) (args : Array Value) (Y : Foot) (A : World) : Prop :=
  ∃ gO T cs, args = #[.slice (some ⟨gO, 0, none⟩) m m, .int .i64 x.2] ∧ Y = (fun k => k = gO) ∧ Blk A gO T cs ∧ x.1.length = m ∧ RowsV W0 m cs x.1
theorem RowsV.one {W0 : World} {m : Nat} {cs : Array Value} {ys : List (List Int)} (h : RowsV W0 m cs ys) (hl : ys.length = m) : ∀ v ∈ cs.toList, v.oneCell' = true := by
  intro v hv
  obtain ⟨k, hk, rfl⟩ := List.getElem_of_mem hv
  have hk' : k < ys.length := by rw [hl, ← h.1]; simpa using hk
  obtain ⟨u, hu, A, n, c, rfl, _⟩ := h.2 k ys[k] (List.getElem?_eq_getElem hk')
  have : cs.toList[k]? = some (.slice A n c) := by rw [Array.getElem?_toList]; exact hu
  rw [List.getElem?_eq_getElem hk] at this
  injection this with this
  rw [this]; rfl

theorem eg_kept : Enters Try.prog 106 := enters_of Try.func106 (by kernel_rfl) rfl
theorem kept_call (gf : Nat) (lb : Array Value) (w : World) : Calls Try.prog 62 #[.func (.func gf) #[] lb] w fun e w' => e = .returned (.func (.func 106) #[] #[.pointer (some ⟨w.heap.size, 0, none⟩)]) ∧ w' = w.alloc (.cells #[.func (.func gf) #[] lb] 116) := by
  go_enter Try.func62, Try.ntmps62
  go_wp2
  go_ret
  exact ⟨rfl, rfl⟩

set_option maxRecDepth 100000 in
set_option maxHeartbeats 2000000 in
theorem kept_seq {W0 : World} {m gf gK : Nat} {lb : Array Value} (eg : ∀ args w, (callFunc gf args).run Try.prog w = .ok (.enter gf args) w) (hm1 : 1 ≤ m) (hm3 : m ≤ 3) {L : List (List (List Int) × Int)} {Inv : World → Prop} (hseq : SeqG Try.prog gf lb (LayEnc W0 m) L Inv) :
    SeqG Try.prog 106 #[.pointer (some ⟨gK, 0, none⟩)] (KeptEnc W0 m) L (fun A => Inv A ∧ ∃ T, Blk A gK T #[.func (.func gf) #[] lb]) := by
  intro lp O0 J Jx W hO0 hInv hJ hJx hR h0
  obtain ⟨hI0, TK, hKb⟩ := hInv W (Kept.refl _ _)
  have k0 := hKb.cell 0
  have hkl := hKb.lt
  have HINV := Lib.hid hInv
  have HR := Lib.hid hR
  have HJ0 := Lib.hid h0
  clear hInv hI0 hR h0 hKb
  rw [show (#[Value.func (.yield lp) #[] #[]] ++ #[Value.pointer (some ⟨gK, 0, none⟩)] : Array Value) = #[.func (.yield lp) #[] #[], .pointer (some ⟨gK, 0, none⟩)] from rfl]
  refine (callsIn_wide (n := 1)).1 ?_
  refine callsIn_of_wp_marks Try.func106 rfl trivial ?_ rfl
  simp only [Try.ntmps106, List.size_toArray, List.length_cons, List.length_nil, Nat.reduceAdd, Nat.reduceSub, Array.replicate_succ, Array.replicate_zero, List.push_toArray, List.append_toArray, List.nil_append, List.cons_append]
  gi_wp2_with fail
  obtain ⟨W1, hW1⟩ : ∃ W1, W.alloc (.cells #[.func (.yield lp) #[] #[]] 180) = W1 := ⟨_, rfl⟩
  have hk1 : Kept (fun _ => False) W W1 := by rw [← hW1]; exact Kept.alloc _ _ _
  have hs1 : W1.heap.size = W.heap.size + 1 := by rw [← hW1]; simp
  have hY1 : Blk W1 W.heap.size 180 #[.func (.yield lp) #[] #[]] := by rw [← hW1]; exact Blk.new _ _ _ rfl
  rw [hW1]
  clear hW1 k0 hkl
  have hbig : ∀ {A : World}, Kept (fun k => O0 k ∨ W1.heap.size ≤ k) W1 A → Kept (fun k => O0 k ∨ W.heap.size ≤ k) W A := fun hK => hk1.any.seq hK (fun i hi h => h.imp id (fun h => by omega))
  have hold : ∀ {A : World} {g : Nat} {t : TypeId} {cs : Array Value}, Blk W1 g t cs → W.heap.size ≤ g → Kept (fun k => O0 k ∨ W1.heap.size ≤ k) W1 A → Blk A g t cs := fun hB hg hK =>
    (hK.block _ hB.lt (fun h => h.elim (fun h => by have := hO0 _ h; omega) (fun h => by have := hB.lt; omega))).trans hB
  refine rangeFunc_outerG (m := 1) (gf := gf) (lb := lb) rfl eg hseq (fun x args Y A hE => by obtain ⟨_, gR, T, cs, rfl, _⟩ := hE; rfl) O0 J (fun c O A => c = .ret ∧ Jx O A) (fun k h => by have := hO0 k h; omega) (fun A hK => (HINV.out A (hbig hK)).1) hJ (fun c O A B h h1 h2 => ⟨h.1, hJx O A B h.2 h1 h2⟩) (hJ _ _ _ _ HJ0.out hO0 hk1.any) ?round ?done ?stop
  case round =>
    intro l' i x args Y O A hx hEnc hY hYl hj hlt hsub hK hnl hlA hWl hr1
    obtain ⟨rfl, gR, TR, cs, rfl, hBR, hxl, hRV⟩ := hEnc
    have hone := hRV.one hxl
    have hyA := hold hY1 (Nat.le_refl _) hK
    have hRl : gR ≠ l' := by
      rintro rfl
      obtain ⟨r1, hr1⟩ := hr1
      have := hr1.symm.trans hBR
      injection this with this
      cases this
    have hYl' : W.heap.size ≠ l' := by omega
    rw [fold2]
    simp only [List.setIfInBounds_toArray, List.set_cons_zero, List.set_cons_succ]
    gi_wp2
    refine ⟨Kept.refl _ _, fun A2 hK2 hs2 r2 hr2 => ?_⟩
    have hBR2 : Blk A2 gR TR cs := (hK2.block _ hBR.lt hRl).trans hBR
    have hyA2 : Blk A2 W.heap.size 180 #[.func (.yield lp) #[] #[]] := (hK2.block _ hyA.lt hYl').trans hyA
    have hj2 : J i O A2 := hJ _ _ _ _ hj hlt (hK2.mono fun k _ h hO => hnl (h ▸ hO))
    have hmk := run_make_row' (P := Try.prog) 38 56 (.slice none 0 0) 24 Try.underlying38 infoInts rfl .i64 .i64 m (by omega) (by omega)
    obtain ⟨A3, hA3⟩ : ∃ A3, A2.alloc (.cells (madeCells #[.slice none 0 0] m) 56) = A3 := ⟨_, rfl⟩
    have hB3 : Blk A3 A2.heap.size 56 (madeCells #[.slice none 0 0] m) := by rw [← hA3]; exact Blk.new _ _ _ rfl
    have hBR3 : Blk A3 gR TR cs := by rw [← hA3]; exact hBR2.alloc _
    have hcp : ∀ sT ty, (Builtin.copy_ #[38, sT] ty #[.slice (some ⟨A2.heap.size, 0, none⟩) m m, .slice (some ⟨gR, 0, none⟩) m m]).run Try.prog A3 = .ok (goInt m) (A3.setCells A2.heap.size 0 cs.toList) := fun sT ty => copy_rows hB3 (by rw [made_rep]; simp) hBR3 hRV.1 hone sT ty
    have hs3 : A3.heap.size = A2.heap.size + 1 := by rw [← hA3]; simp
    obtain ⟨gO, hgO⟩ : ∃ gO, A2.heap.size = gO := ⟨_, rfl⟩
    rw [hgO] at hB3 hcp hs3
    obtain ⟨A4, hA4⟩ : ∃ A4, A3.setCells gO 0 cs.toList = A4 := ⟨_, rfl⟩
    rw [hA4] at hcp
    have hB4 : Blk A4 gO 56 cs := by rw [← hA4]; exact setCells_whole hB3 (by rw [made_rep]; simp [hRV.1])
    have hs4 : A4.heap.size = gO + 1 := by rw [← hA4, setCells_size2, hs3]
    have hk24 : Kept (fun _ => False) A2 A4 := by
      rw [← hA4, ← hA3]
      exact Kept.seq (Kept.alloc (fun _ => False) A2 _) (setCells_kept cs.toList 0 _) (fun j hj e => by omega)
    have hy4 : Blk A4 W.heap.size 180 #[.func (.yield lp) #[] #[]] := (hk24.block _ hyA2.lt (fun h => h)).trans hyA2
    have hj4 : J i O A4 := hJ _ _ _ _ hj2 (fun k hk => by have := hlt k hk; omega) hk24.any
    have hK4 : Kept (fun k => O0 k ∨ W.heap.size ≤ k) W A4 := ((hbig hK).trans (hK2.mono fun k _ e => .inr (by omega))).trans hk24.any
    have hgOn : ¬ O gO := fun h => by have := hlt _ h; omega
    obtain ⟨fn, tmps, assign, body, hy, hRd⟩ := HR.out i x #[.slice (some ⟨gO, 0, none⟩) m m, .int .i64 x.2] (fun k => k = gO) O A4 hx ⟨gO, _, cs, rfl, rfl, hB4, hxl, hRV⟩ (fun k e => by subst e; exact ⟨hgOn, by omega, by omega⟩) hj4 (fun k hk => by have := hlt k hk; omega) (fun k hk => (hsub k hk).imp id (fun h => by omega)) hK4 0
    have HRD := Lib.hid hRd
    have HS2 := Lib.hid hs2
    have HS4 := Lib.hid hs4
    have HGO := Lib.hid hgO
    have HK24 := Lib.hid hk24
    have hmk2 := hmk A2
    rw [hA3, hgO] at hmk2
    have y0 := hy4.cell 0
    have hyl4 := hy4.lt
    clear hRd hs2 hs4 hgO hk24 hmk hB3 hBR3 hs3 hA3 hA4 hB4 hy4 hj4 hK4 hyA2 hBR2 hj2
    gi_wp2_with fail
    refine RoundIn.mono (F := Fence.wide.inRound l') HRD.out ?_
    clear HRD
    rintro e B ⟨O2, hO2, hKB, hcase⟩
    have HKB : Hid (Kept O A2 B) := Kept.seq (HK24.out.any) hKB (fun k _ h => h)
    have HOB : Hid (∀ k, O2 k → O k ∨ False ∨ (A.heap.size ≤ k ∧ k < B.heap.size)) := fun k hk => by
      have h1 := HS2.out
      have h2 := HS4.out
      have h3 := HGO.out
      have h4 := hKB.size
      rcases hO2 k hk with h | h | h
      · exact .inl h
      · exact .inr (.inr (by omega))
      · exact .inr (.inr (by omega))
    clear hO2 hKB
    rcases hcase with ⟨rfl, hj'⟩ | ⟨rfl, hx'⟩
    · have HJB := Lib.hid hj'
      clear hj'
      gi_wp2_with fail
      exact ⟨HKB.out, O2, HOB.out, HJB.out⟩
    · have HXB := Lib.hid hx'
      clear hx'
      gi_wp2_with fail
      exact ⟨HKB.out, O2, HOB.out, rfl, HXB.out⟩
  case done =>
    rintro O W' D hj hO hK hD hnD hDb
    gi_wp2
    refine ⟨by simp, .inl ⟨_, _, rfl, run_takeDeferred hDb, ?_⟩⟩
    refine ⟨_, results_none rfl _ _ _, ⟨_, rfl⟩, (hbig hK).trans (Kept.putObj _ _ _ (.inr (by omega))), O, fun k h => (hO k h).imp id (fun h => ⟨by omega, by simpa using h.2⟩), .inl (hJ _ _ _ _ hj (fun k h => (hO k h).elim (fun h => by have := hO0 k h; have := hK.size; omega) (fun h => h.2)) (Kept.putObj _ _ _ hnD))⟩
  case stop =>
    rintro cd O W' D ⟨rfl, hx⟩ hO hK hD hnD hDb
    gi_wp2
    refine ⟨by simp, .inl ⟨_, _, rfl, run_takeDeferred hDb, ?_⟩⟩
    refine ⟨_, results_none rfl _ _ _, ⟨_, rfl⟩, (hbig hK).trans (Kept.putObj _ _ _ (.inr (by omega))), O, fun k h => (hO k h).imp id (fun h => ⟨by omega, by simpa using h.2⟩), .inr (hJx _ _ _ hx (fun k h => (hO k h).elim (fun h => by have := hO0 k h; have := hK.size; omega) (fun h => h.2)) (Kept.putObj _ _ _ hnD))⟩

end Go.Proofs.Ytnaadjhiahjlfaa

namespace Go.Proofs.Ytnaadjhiahjlfaa
open Go.RowKit Go.Shelf
attribute [local go_sem] Oper.semAt_some

theorem setCell_noop {w : World} {g : Nat} {t : TypeId} {v : Value} (h : Blk w g t #[v]) : w.setCell ⟨g, 0, none⟩ v = w := by
  have hh : (w.setCell ⟨g, 0, none⟩ v).heap = w.heap := by
    apply Array.ext_getElem?
    intro k
    by_cases e : k = g
    · subst e
      have h2 := h.set_ 0 v
      exact h2.trans h.symm
    · exact Below.heap_setCell w ⟨g, 0, none⟩ v k e
  show ({ w with heap := (w.setCell ⟨g, 0, none⟩ v).heap } : World) = w
  rw [hh]

theorem least_snoc (L : List (List (List Int) × Int)) {i : Nat} {x : List (List Int) × Int} (h : L[i]? = some x) : leastL (L.take (i + 1)) = betterL (leastL (L.take i)) x := by
  unfold leastL; rw [take_snoc_get h, List.foldl_append]; rfl

def LeastVal (Own : List (List Int) × Int → Value → Foot → World → Prop) (g2 g3 g4 : Nat) (Yb : Foot) (A : World) : Option (List (List Int) × Int) → Prop
  | none => Blk A g2 38 #[.slice none 0 0] ∧ Blk A g3 3 #[.int .i64 0] ∧ Blk A g4 4 #[.bool false]
  | some x => ∃ B n c, Own x (.slice B n c) Yb A ∧ Blk A g2 38 #[.slice B n c] ∧ Blk A g3 3 #[.int .i64 x.2] ∧ Blk A g4 4 #[.bool true]
def LeastJ (Own : List (List Int) × Int → Value → Foot → World → Prop) (g2 g3 g4 : Nat) (L : List (List (List Int) × Int)) (i : Nat) (O : Foot) (A : World) : Prop :=
  ∃ Yb : Foot, (∀ k, O k ↔ (k = g2 ∨ k = g3 ∨ k = g4) ∨ Yb k) ∧ (∀ k, Yb k → ¬ (k = g2 ∨ k = g3 ∨ k = g4)) ∧ LeastVal Own g2 g3 g4 Yb A (leastL (L.take i))
/-- what least answers -/
def LeastR (Own : List (List Int) × Int → Value → Foot → World → Prop) (o : Option (List (List Int) × Int)) (e : Ending) (w' : World) : Prop :=
  match o with
  | none => e = .returned (.tuple #[.slice none 0 0, .int .i64 0, .bool false])
  | some x => ∃ B n c Y, e = .returned (.tuple #[.slice B n c, .int .i64 x.2, .bool true]) ∧ Own x (.slice B n c) Y w'
theorem least_results (tmps : Array Value) (w : World) {g2 g3 g4 : Nat} {v : Value} {n : Int} {b : Bool} {T2 T3 T4 : TypeId} (h2 : Blk w g2 T2 #[v]) (h3 : Blk w g3 T3 #[.int .i64 n]) (h4 : Blk w g4 T4 #[.bool b])
    (t2 : tmps[2]? = some (.pointer (some ⟨g2, 0, none⟩))) (t3 : tmps[3]? = some (.pointer (some ⟨g3, 0, none⟩))) (t4 : tmps[4]? = some (.pointer (some ⟨g4, 0, none⟩))) :
    (results Try.f61 tmps).run Try.prog w = .ok (.tuple #[v, .int .i64 n, .bool b]) w := by
  have c2 := h2.cell 0
  have c3 := h3.cell 0
  have c4 := h4.cell 0
  simp [results, Try.results61, asAddr, go_sem, t2, t3, t4, c2, c3, c4]

set_option maxRecDepth 100000 in
set_option maxHeartbeats 2000000 in
theorem least_any {gf : Nat} {lb : Array Value} (eg : ∀ args w, (callFunc gf args).run Try.prog w = .ok (.enter gf args) w) {Enc : List (List Int) × Int → Array Value → Foot → World → Prop} {Own : List (List Int) × Int → Value → Foot → World → Prop}
    (hE : ∀ x args Y A, Enc x args Y A → ∃ B n c, args = #[.slice B n c, .int .i64 x.2] ∧ Own x (.slice B n c) Y A) (hOwn : ∀ x v Y A B, Own x v Y A → Kept (fun k => ¬ Y k) A B → (∀ k, Y k → k < A.heap.size) → Own x v Y B)
    {L : List (List (List Int) × Int)} {Inv : World → Prop} (hseq : SeqG Try.prog gf lb Enc L Inv) (w : World) (hInv : ∀ A, Below w.heap.size w A → Inv A) :
    Calls Try.prog 61 #[.func (.func gf) #[] lb] w fun e w' => LeastR Own (leastL L) e w' ∧ Below w.heap.size w w' := by
  refine (callsIn_wide (n := 1)).1 ?_
  refine callsIn_of_wp_marks Try.func61 rfl trivial ?_ rfl
  simp only [Try.ntmps61, List.size_toArray, List.length_cons, List.length_nil, Nat.reduceAdd, Nat.reduceSub, Array.replicate_succ, Array.replicate_zero, List.push_toArray, List.append_toArray, List.nil_append, List.cons_append]
  gi_wp2_with fail
  obtain ⟨W1, hW1⟩ : ∃ W1, ((w.alloc (.cells #[.slice none 0 0] 38)).alloc (.cells #[.int .i64 0] 3)).alloc (.cells #[.bool false] 4) = W1 := ⟨_, rfl⟩
  have b1 : Below w.heap.size w W1 := by rw [← hW1]; exact bl_alloc (bl_alloc (bl_alloc (Below.refl _ _) _ (Nat.le_refl _)) _ (Nat.le_refl _)) _ (Nat.le_refl _)
  have hs1 : W1.heap.size = w.heap.size + 3 := by rw [← hW1]; simp
  have X2 : Blk W1 w.heap.size 38 #[.slice none 0 0] := by rw [← hW1]; exact ((Blk.new _ _ _ rfl).alloc _).alloc _
  have X3 : Blk W1 (w.heap.size + 1) 3 #[.int .i64 0] := by rw [← hW1]; exact (Blk.new _ _ _ (by simp)).alloc _
  have X4 : Blk W1 (w.heap.size + 1 + 1) 4 #[.bool false] := by rw [← hW1]; exact Blk.new _ _ _ (by simp)
  rw [hW1]
  obtain ⟨g4, eg4⟩ : ∃ g4, w.heap.size + 1 + 1 = g4 := ⟨_, rfl⟩
  obtain ⟨g3, eg3⟩ : ∃ g3, w.heap.size + 1 = g3 := ⟨_, rfl⟩
  obtain ⟨g2, eg2⟩ : ∃ g2, w.heap.size = g2 := ⟨_, rfl⟩
  rw [eg4] at X4
  rw [eg3] at X3
  rw [eg2] at X2
  rw [eg4, eg3, eg2]
  have HG : Hid (g2 = w.heap.size ∧ g3 = w.heap.size + 1 ∧ g4 = w.heap.size + 2 ∧ W1.heap.size = w.heap.size + 3) := ⟨eg2.symm, eg3.symm, eg4.symm, hs1⟩
  clear hW1 eg4 eg3 eg2 hs1
  have hbel : ∀ {A : World}, Kept (fun k => (k = g2 ∨ k = g3 ∨ k = g4) ∨ W1.heap.size ≤ k) W1 A → Below w.heap.size w A := fun hK => b1.trans (hK.below (B := w.heap.size) b1.size (fun k h => by have := HG.out; omega))
  have hn3 : g2 ≠ g3 ∧ g2 ≠ g4 ∧ g3 ≠ g4 := by have := HG.out; omega
  refine rangeFunc_outerG (m := 1) (gf := gf) (lb := lb) rfl eg hseq (fun x args Y A h => by obtain ⟨B, n, c, rfl, _⟩ := hE x args Y A h; rfl) (fun k => k = g2 ∨ k = g3 ∨ k = g4) (LeastJ Own g2 g3 g4 L) (fun _ _ _ => False) (fun k h => by have := HG.out; omega) (fun A hK => hInv A (hbel hK)) ?stay (fun _ _ _ _ h _ _ => h) ?init ?round ?done (fun _ _ _ _ h _ _ _ _ _ => h.elim)
  case init => exact ⟨fun _ => False, fun k => by simp, fun k h => h.elim, X2, X3, X4⟩
  case stay =>
    rintro i O A B ⟨Yb, hO, hY, hv⟩ hlt hK
    have hb : ∀ {g : Nat} {t : TypeId} {cs : Array Value}, Blk A g t cs → (g = g2 ∨ g = g3 ∨ g = g4) → Blk B g t cs := fun h hg => (hK.block _ h.lt (fun hn => hn ((hO _).2 (.inl hg)))).trans h
    refine ⟨Yb, hO, hY, ?_⟩
    revert hv
    cases leastL (L.take i) with
    | none => rintro ⟨h2, h3, h4⟩; exact ⟨hb h2 (.inl rfl), hb h3 (.inr (.inl rfl)), hb h4 (.inr (.inr rfl))⟩
    | some x =>
      rintro ⟨B', n, c, ho, h2, h3, h4⟩
      exact ⟨B', n, c, hOwn _ _ _ _ _ ho (hK.mono fun k _ hn hy => hn ((hO k).2 (.inr hy))) (fun k hk => hlt k ((hO k).2 (.inr hk))), hb h2 (.inl rfl), hb h3 (.inr (.inl rfl)), hb h4 (.inr (.inr rfl))⟩
  case round =>
    intro l' i x args Y O A1 hx hEnc hY hYl ⟨Yb, hO, hYb, hv⟩ hlt hsub hK hnl hlA hWl hr1
    obtain ⟨B, n, c, rfl, ho⟩ := hE x args Y A1 hEnc
    rw [fold2]
    simp only [List.setIfInBounds_toArray, List.set_cons_zero, List.set_cons_succ]
    gi_wp2
    refine ⟨Kept.refl _ _, fun A2 hK2 hs2 r2 hr2 => ?_⟩
    have hOg : ∀ {g : Nat}, (g = g2 ∨ g = g3 ∨ g = g4) → O g := fun h => (hO _).2 (.inl h)
    have hb : ∀ {g : Nat} {t : TypeId} {cs : Array Value}, Blk A1 g t cs → (g = g2 ∨ g = g3 ∨ g = g4) → Blk A2 g t cs := fun h hg => (hK2.block _ h.lt (fun e => hnl (e ▸ hOg hg))).trans h
    have hon : Own x (.slice B n c) Y A2 := hOwn _ _ _ _ _ ho (hK2.mono fun k _ e hy => hYl (e ▸ hy)) (fun k hk => (hY k hk).2.2)
    have hYg : ∀ k, Y k → ¬ (k = g2 ∨ k = g3 ∨ k = g4) := fun k hk hg => (hY k hk).1 (hOg hg)
    have HST : Hid (∀ (v2 : Value) (n3 : Int) (b4 : Bool), Blk A2 g2 38 #[v2] → Blk A2 g3 3 #[.int .i64 n3] → Blk A2 g4 4 #[.bool b4] → leastL (L.take (i + 1)) = some x → ∀ V, V = ((A2.setCell ⟨g2, 0, none⟩ (.slice B n c)).setCell ⟨g3, 0, none⟩ (.int .i64 x.2)).setCell ⟨g4, 0, none⟩ (.bool true) →
        Kept O A2 V ∧ ∃ O' : Foot, (∀ k, O' k → O k ∨ Y k ∨ (A1.heap.size ≤ k ∧ k < V.heap.size)) ∧ LeastJ Own g2 g3 g4 L (i + 1) O' V) := by
      intro v2 n3 b4 h2 h3 h4 hl V hV
      have hKV : Kept (fun k => k = g2 ∨ k = g3 ∨ k = g4) A2 V := by
        rw [hV]
        exact ((Kept.setCell (M := fun k => k = g2 ∨ k = g3 ∨ k = g4) A2 ⟨g2, 0, none⟩ _ (.inl rfl)).trans (Kept.setCell _ ⟨g3, 0, none⟩ _ (.inr (.inl rfl)))).trans (Kept.setCell _ ⟨g4, 0, none⟩ _ (.inr (.inr rfl)))
      refine ⟨hKV.mono fun k _ h => hOg h, fun k => (k = g2 ∨ k = g3 ∨ k = g4) ∨ Y k, fun k hk => hk.imp (fun h => hOg h) .inl, Y, fun k => Iff.rfl, hYg, ?_⟩
      rw [hl]
      refine ⟨B, n, c, hOwn _ _ _ _ _ hon (hKV.mono fun k _ h hy => hYg k hy h) (fun k hk => by have := (hY k hk).2.2; have := hK2.size; omega), ?_, ?_, ?_⟩
      · rw [hV]; exact ((h2.set_ 0 _).far hn3.1 _).far hn3.2.1 _
      · rw [hV]; exact ((h3.far (fun e => hn3.1 e.symm) _).set_ 0 _).far hn3.2.2 _
      · rw [hV]; exact ((h4.far (fun e => hn3.2.1 e.symm) _).far (fun e => hn3.2.2 e.symm) _).set_ 0 _
    have HLS := Lib.hid (least_snoc L hx)
    obtain ⟨xg, hxg⟩ : ∃ xg, x.2 = xg := ⟨_, rfl⟩
    have HXG := Lib.hid hxg
    have HYb := Lib.hid hYb
    have HOO := Lib.hid hO
    have HK2 := Lib.hid hK2
    have HOWN := Lib.hid hOwn
    have hYbl : Hid (¬ Yb l') := fun hy => hnl ((hO l').2 (.inr hy))
    have hYblt : Hid (∀ k, Yb k → k < A1.heap.size) := fun k hk => hlt k ((hO k).2 (.inr hk))
    cases hle : leastL (L.take i) with
    | none =>
      rw [hle] at hv
      obtain ⟨h2, h3, h4⟩ := hv
      have h2 := hb h2 (.inl rfl)
      have h3 := hb h3 (.inr (.inl rfl))
      have h4 := hb h4 (.inr (.inr rfl))
      have HF := Lib.hid (HST.out _ _ _ h2 h3 h4 (by rw [HLS.out, hle]; rfl))
      have z2 := h2.cell 0
      have z3 := h3.cell 0
      have z4 := h4.cell 0
      have y2 := h2.frozen 0
      have y3 := h3.frozen 0
      have y4 := h4.frozen 0
      have l2 := h2.lt
      have l3 := h3.lt
      have l4 := h4.lt
      rw [hxg]
      rw [hxg] at HF
      clear h2 h3 h4 hle hon HST hxg hO hYb hEnc ho hs2 hr2 hK2 hOwn
      gi_wp2_with fail
      exact HF.out _ rfl
    | some y =>
      rw [hle] at hv
      obtain ⟨B', n', c', ho', h2, h3, h4⟩ := hv
      have h2 := hb h2 (.inl rfl)
      have h3 := hb h3 (.inr (.inl rfl))
      have h4 := hb h4 (.inr (.inr rfl))
      have z2 := h2.cell 0
      have z3 := h3.cell 0
      have z4 := h4.cell 0
      have y2 := h2.frozen 0
      have y3 := h3.frozen 0
      have y4 := h4.frozen 0
      have l2 := h2.lt
      have l3 := h3.lt
      have l4 := h4.lt
      by_cases hd : x.2 < y.2
      · have HF := Lib.hid (HST.out _ _ _ h2 h3 h4 (by rw [HLS.out, hle, betterL, if_pos hd]))
        rw [hxg]
        rw [hxg] at HF hd
        clear h2 h3 h4 hle hon HST hxg hO hYb hEnc ho hs2 hr2 hK2 hOwn ho'
        gi_wp2_with fail
        exact HF.out _ rfl
      · have HB := Lib.hid (⟨h2, h3, h4⟩ : _ ∧ _ ∧ _)
        have HLN : Hid (leastL (L.take (i + 1)) = some y) := by rw [Hid, HLS.out, hle, betterL, if_neg hd]
        have HO' := Lib.hid ho'
        rw [hxg]
        rw [hxg] at hd
        clear h2 h3 h4 hle hon HST hxg hO hYb hEnc ho hs2 hr2 hK2 hOwn ho'
        gi_wp2_with fail
        refine ⟨Kept.refl _ _, O, fun k hk => .inl hk, Yb, HOO.out, HYb.out, ?_⟩
        rw [HLN.out]
        exact ⟨B', n', c', HOWN.out _ _ _ _ _ HO'.out (HK2.out.mono fun k _ e hy => hYbl.out (e ▸ hy)) hYblt.out, HB.out⟩
  case done =>
    rintro O W' D ⟨Yb, hO, hYb, hv⟩ hOs hK hD hnD hDb
    rw [List.take_length] at hv
    have hYbl : ∀ k, Yb k → k < W'.heap.size := fun k hk => by
      rcases hOs k ((hO k).2 (.inr hk)) with h | h
      · exact absurd h (hYb k hk)
      · exact h.2
    obtain ⟨v2, n3, b4, h2, h3, h4, hsl, hfin⟩ : ∃ v2 n3 b4, Blk W' g2 38 #[v2] ∧ Blk W' g3 3 #[.int .i64 n3] ∧ Blk W' g4 4 #[.bool b4] ∧ (∃ B n c, v2 = .slice B n c) ∧ (∀ w9, Kept (fun k => ¬ O k) W' w9 → LeastR Own (leastL L) (.returned (.tuple #[v2, .int .i64 n3, .bool b4])) w9) := by
      cases hle : leastL L with
      | none =>
        rw [hle] at hv
        exact ⟨_, _, _, hv.1, hv.2.1, hv.2.2, ⟨_, _, _, rfl⟩, fun _ _ => rfl⟩
      | some x =>
        rw [hle] at hv
        obtain ⟨B, n, c, ho, h2, h3, h4⟩ := hv
        exact ⟨_, _, _, h2, h3, h4, ⟨_, _, _, rfl⟩, fun w9 hk => ⟨B, n, c, Yb, rfl, hOwn _ _ _ _ _ ho (hk.mono fun k _ hn hy => hn ((hO k).2 (.inr hy))) hYbl⟩⟩
    obtain ⟨B, n, c, rfl⟩ := hsl
    have hBel := hbel hK
    have HBEL := Lib.hid hBel
    have HFIN := Lib.hid hfin
    have H2 := Lib.hid h2
    have H3 := Lib.hid h3
    have H4 := Lib.hid h4
    have HDB := Lib.hid hDb
    clear hBel hfin hv hO hYb hYbl hOs hK h2 h3 h4 hDb
    gi_wp2_with fail
    refine wpIn_region_list (F := Fence.wide) (r := none) rfl (fun W => ∃ q, W = W'.drewN q) (fun w1 w2 => True)
      [isV (.slice B n c), isV (.int .i64 n3), isV (.bool b4), (fun _ _ => True), (fun _ _ => True), (fun _ _ => True)]
      (by kernel_rfl) (by kernel_rfl) (by kernel_rfl) (by simp) ⟨1, rfl⟩ ?stab ?step ?fin
    case stab => exact StabL.is (StabL.is (StabL.is (StabL.cons (fun _ _ _ _ _ _ => trivial) (StabL.cons (fun _ _ _ _ _ _ => trivial) (StabL.cons (fun _ _ _ _ _ _ => trivial) StabL.nil)))))
    case step =>
      refine StepsL.is ?_ (StepsL.is ?_ (StepsL.is ?_ (StepsL.cons ?_ (StepsL.cons ?_ (StepsL.cons ?_ StepsL.nil)))))
      all_goals
        intro vs W K hC hD hU hK
        simp only [fillA, Act.put, List.setIfInBounds_toArray, List.set_cons_zero, List.set_cons_succ, Nat.zero_add, Nat.reduceAdd] at hK ⊢
        simp [waits, Region.binds] at hD
        try simp only [envOf, List.getD_cons_succ, List.getD_cons_zero, isV] at hD
        obtain ⟨q, rfl⟩ := hC
        have z2 := (H2.out.drewN q).cell 0
        have z3 := (H3.out.drewN q).cell 0
        have z4 := (H4.out.drewN q).cell 0
        have y2 := (H2.out.drewN q).frozen 0
        have y3 := (H3.out.drewN q).frozen 0
        have y4 := (H4.out.drewN q).frozen 0
        have l2 := (H2.out.drewN q).lt
        have l3 := (H3.out.drewN q).lt
        have l4 := (H4.out.drewN q).lt
        have s2 := setCell_noop (H2.out.drewN q)
        have s3 := setCell_noop (H3.out.drewN q)
        have s4 := setCell_noop (H4.out.drewN q)
      · go_simp
        exact hK _ ⟨q, rfl⟩ trivial
      · go_simp
        exact hK _ ⟨q, rfl⟩ trivial
      · go_simp
        exact hK _ ⟨q, rfl⟩ trivial
      · simp only [hD] at hK ⊢
        go_simp
        exact hK undef _ ⟨q, rfl⟩ trivial trivial
      · simp only [hD] at hK ⊢
        go_simp
        exact hK undef _ ⟨q, rfl⟩ trivial trivial
      · simp only [hD] at hK ⊢
        go_simp
        exact hK undef _ ⟨q, rfl⟩ trivial trivial
    case fin =>
      intro vs W hC hE hU
      obtain ⟨q, rfl⟩ := hC
      clear hE hU
      simp only [fillA, Act.put, List.setIfInBounds_toArray, List.set_cons_zero, List.set_cons_succ, Nat.zero_add, Nat.reduceAdd]
      simp [wpOpsIn]
      gi_wp2_with fail
      refine ⟨by simp, .inl ⟨_, _, rfl, run_takeDeferred (w := W'.drewN q) HDB.out, ?_⟩⟩
      have hKD : Kept (fun k => ¬ O k) W' ((W'.drewN q).putObj D (.deferred none)) := (Kept.drewN _ _ _).trans (Kept.putObj _ _ _ hnD)
      have hD3 : g2 ≠ D ∧ g3 ≠ D ∧ g4 ≠ D := by have := HG.out; omega
      have f2 : Blk ((W'.drewN q).putObj D (.deferred none)) g2 38 #[.slice B n c] := (World.putObj_heap_other hD3.1).trans H2.out
      have f3 : Blk ((W'.drewN q).putObj D (.deferred none)) g3 3 #[.int .i64 n3] := (World.putObj_heap_other hD3.2.1).trans H3.out
      have f4 : Blk ((W'.drewN q).putObj D (.deferred none)) g4 4 #[.bool b4] := (World.putObj_heap_other hD3.2.2).trans H4.out
      refine ⟨_, least_results _ _ f2 f3 f4 rfl rfl rfl, HFIN.out _ hKD, ?_⟩
      exact (bl_drewN HBEL.out q).trans ((Kept.putObj (M := fun k => k = D) (W'.drewN q) D _ rfl).below (B := w.heap.size) (by have := HBEL.out.size; simpa using this) (fun k e => by have := HG.out; omega))

end Go.Proofs.Ytnaadjhiahjlfaa

namespace Go.Proofs.Ytnaadjhiahjlfaa
open Go.RowKit Go.Shelf

def KeptOwn (W0 : World) (m : Nat) (x : List (List Int) × Int) (v : Value) (Y : Foot) (A : World) : Prop := ∃ gO T cs, v = .slice (some ⟨gO, 0, none⟩) m m ∧ Y = (fun k => k = gO) ∧ Blk A gO T cs ∧ x.1.length = m ∧ RowsV W0 m cs x.1
theorem kept_enc {W0 : World} {m : Nat} (x : List (List Int) × Int) (args : Array Value) (Y : Foot) (A : World) (h : KeptEnc W0 m x args Y A) : ∃ B n c, args = #[.slice B n c, .int .i64 x.2] ∧ KeptOwn W0 m x (.slice B n c) Y A := by
  obtain ⟨gO, T, cs, ha, hY, hB, hl, hr⟩ := h
  exact ⟨_, _, _, ha, gO, T, cs, rfl, hY, hB, hl, hr⟩
theorem kept_own {W0 : World} {m : Nat} (x : List (List Int) × Int) (v : Value) (Y : Foot) (A B : World) (h : KeptOwn W0 m x v Y A) (hk : Kept (fun k => ¬ Y k) A B) (_ : ∀ k, Y k → k < A.heap.size) : KeptOwn W0 m x v Y B := by
  obtain ⟨gO, T, cs, hv, rfl, hB, hl, hr⟩ := h
  exact ⟨gO, T, cs, hv, rfl, (hk.block _ hB.lt (fun hn => hn rfl)).trans hB, hl, hr⟩
theorem lay_enc {W0 : World} {m : Nat} (x : List (List Int) × Int) (args : Array Value) (Y : Foot) (A : World) (h : LayEnc W0 m x args Y A) : ∃ B n c, args = #[.slice B n c, .int .i64 x.2] ∧ True := by
  obtain ⟨_, gR, T, cs, ha, _⟩ := h
  exact ⟨_, _, _, ha, trivial⟩
/-- rows, as they lie in memory behind it -/
theorem KeptOwn.rows {W0 W : World} {m : Nat} {x : List (List Int) × Int} {B : Option Addr} {n c : Nat} {Y : Foot} (h : KeptOwn W0 m x (.slice B n c) Y W) (hb : Below W0.heap.size W0 W) (hm : m ≤ maxLen) : Rows (fun _ => True) W B n x.1 := by
  obtain ⟨gO, T, cs, hv, _, hB, hl, hr⟩ := h
  injection hv with e1 e2 e3
  subst e1 e2
  refine ⟨hl, hm, fun k y hy => ?_⟩
  obtain ⟨v, hv, A, n', c', rfl, hI⟩ := hr.2 k y hy
  refine ⟨gO, 0, [.slice A n' c'], rfl, trivial, hB.lt, ⟨A, n', c', rfl, (hI.keep IntR.good (Keeps.belowB hb (fun k hk => hk))).mono IntR.good (fun _ _ => trivial)⟩, fun j u hu => ?_⟩
  cases j with
  | zero => simp at hu; subst hu; rw [show 0 + k * 1 + 0 = k by omega, hB.cell k]; exact hv
  | succ j => simp at hu

theorem rowP_lt {h : Hall} (hk : OkH h) : ∀ r, r < h.rows.length → rowP h r < 9 := fun r hr => (fitS_row (l := []) hk hr).1
theorem bitL_zero : bitL 0 = [] := by decide
theorem bitL_one : ∀ i : Nat, i < 8 → bitL (2 ^ i) = [(i : Int)] ∧ 2 ^ i < 256 := by decide
theorem least_lay {h : Hall} {l : List Seen} (hk : OkH h) (u : Nat) (hu : u < 256) : leastL (layP h l h.rows.length u 0) = leastL (layL h l h.rows.length (bitL u) 0) := by
  have := hk.nt
  rw [layP_layL (by omega) (rowP_lt hk) _ _ _ (Nat.le_refl _) hu]
section
variable {h : Hall} {l : List Seen}
theorem hallE_bad (e : (seen8 h l).2 ≠ 0) : hallE h l = (seen8 h l).2 := by rw [hallE, if_pos e]
theorem hallE_no (e : (seen8 h l).2 = 0) (a : agree8 h l = false) : hallE h l = 9 := by rw [hallE, if_neg (by simp [e]), if_pos a]
theorem hallE_ok (e : (seen8 h l).2 = 0) (a : agree8 h l = true) : hallE h l = 0 := by rw [hallE, if_neg (by simp [e]), if_neg (by rw [a]; decide)]
theorem layR_bad (e : hallE h l ≠ 0) : layR h l = ([], 0, hallE h l) := by rw [layR, if_pos e]
theorem layR_ok (e : hallE h l = 0) (hk : OkH h) : layR h l = match leastL (layP h l h.rows.length 0 0) with
  | none => ([], 0, 8)
  | some (rows, gap) => (rows, gap, 0) := by
  rw [layR, if_neg (by simp [e]), best_all, least_lay hk 0 (by decide), bitL_zero]; rfl
end

/-- what Lay answers -/
def LayOk (w : World) (r : List (List Int) × Int × Int) (e : Ending) (w' : World) : Prop := Below w.heap.size w w' ∧ ∃ A n c, e = .returned (.tuple #[.slice A n c, .int .i64 r.2.1, .int .i64 r.2.2]) ∧ Rows (fun _ => True) w' A n r.1

set_option maxRecDepth 100000 in
set_option maxHeartbeats 1000000 in
theorem tlay_any {A B C : Option Addr} {n ca m cb q cc : Nat} {h : Hall} {l : List Seen} {alo ahi most : Int} (w : World) (g : HallAt (fun _ => True) w A n B m h) (gs : Seens (fun _ => True) w C q l) (hca : n ≤ ca) (h1 : h.alo = alo) (h2 : h.ahi = ahi) (h3 : h.most = most) :
    Calls Try.prog 15 #[.agg #[.int .i64 alo, .int .i64 ahi, .int .i64 most, .slice A n ca, .slice B m cb], .slice C q cc] w (LayOk w (layR h l)) := by
  obtain ⟨W, hW⟩ : ∃ W, w.alloc (.cells #[.int .i64 alo, .int .i64 ahi, .int .i64 most, .slice A n ca, .slice B m cb] 27) = W := ⟨_, rfl⟩
  have hBW : Below w.heap.size w W := by rw [← hW]; exact bl_alloc (Below.refl _ _) _ (Nat.le_refl _)
  have hc : HallAt (fun _ => True) W A n B m h := g.keep (Keeps.below hBW)
  have hs : Seens (fun _ => True) W C q l := gs.keep SeenR.good (Keeps.below hBW)
  have hWs : w.heap.size ≤ W.heap.size := hBW.size
  have HW := Lib.hid hW
  have Hm := Lib.hid hc.rs.len
  clear hW g gs
  go_enter Try.func15, Try.ntmps15
  go_wp2_with fail
  rw [HW.out]
  refine (tenter_any W hc hs hca h1 h2 h3).mono ?_
  rintro e W1 ⟨b1, p, ag, rfl, hag, hbx⟩
  have B1 : Below w.heap.size w W1 := hBW.trans (b1.mono hWs)
  by_cases he : (seen8 h l).2 = 0
  · have hag := hag he
    have hbx := hbx he
    obtain ⟨hc0, _, _⟩ := seen_zero he
    have hokh := okH_of hc0
    have hnr := hokh.nr
    have hm1 : 1 ≤ m := by rw [← Hm.out]; exact hnr.1
    have hm3 : m ≤ 3 := by rw [← Hm.out]; exact hnr.2
    have HE := Lib.hid he
    rw [he]
    subst hag
    cases hga : agree8 h l
    · have HR : Hid (layR h l = ([], 0, 9)) := by rw [Hid, layR_bad (by rw [hallE_no HE.out hga]; decide), hallE_no HE.out hga]
      clear hbx he hnr
      go_wp2_with fail
      go_ret3
      exact ⟨B1, none, 0, 0, by rw [HR.out]; rfl, by rw [HR.out]; exact SliceOf.nil _ _ _ _ _⟩
    · obtain ⟨gh, rfl, hbox⟩ := hbx hga
      have HRR := Lib.hid (layR_ok (hallE_ok HE.out hga) hokh)
      have HOK := Lib.hid hokh
      have HAG := Lib.hid hga
      have HBOX := Lib.hid hbox
      clear hbx he hnr hga hokh hbox hc0
      go_wp2_with fail
      refine (layings_any 0 W1 HBOX.out HOK.out HAG.out).mono ?_
      rintro e W2 ⟨⟨g2, g5, g3, gF, base, rfl, lb⟩, b2⟩
      have HLB := Lib.hid lb
      clear lb
      go_wp2_with fail
      refine (kept_call _ _ W2).mono ?_
      rintro e W3 ⟨rfl, hW3⟩
      have b3 : Below W2.heap.size W2 W3 := by rw [hW3]; exact bl_alloc (Below.refl _ _) _ (Nat.le_refl _)
      have hK3 : Blk W3 W2.heap.size 116 #[.func (.func 111) #[] #[.pointer (some ⟨g2, 0, none⟩), .pointer (some ⟨g5, 0, none⟩), .pointer (some ⟨g3, 0, none⟩)]] := by rw [hW3]; exact Blk.new _ _ _ rfl
      have HK3 := Lib.hid hK3
      have HB3 := Lib.hid b3
      clear hW3 hK3 b3
      go_wp2_with fail
      refine (least_any (Own := KeptOwn W2 m) eg_kept kept_enc kept_own (kept_seq (gK := W2.heap.size) eg_layings hm1 hm3 (layings_seq HLB.out HOK.out Hm.out hm3 (by decide))) W3 (fun A hA => ⟨bl_call HB3.out hA (Nat.le_refl _), _, HK3.out.bl hA⟩)).mono ?_
      rintro e W4 ⟨hr, b4⟩
      have B4 : Below w.heap.size w W4 := bl_call (bl_call (bl_call B1 b2 (Nat.le_refl _)) HB3.out (Nat.le_refl _)) b4 (Nat.le_refl _)
      have B24 : Below W2.heap.size W2 W4 := bl_call HB3.out b4 (Nat.le_refl _)
      have HB4 := Lib.hid B4
      have HB24 := Lib.hid B24
      rw [Hm.out] at HRR
      clear B4 B24 b4 b2 B1
      unfold LeastR at hr
      cases hle : leastL (layP h l m 0 0) with
      | none =>
        rw [hle] at hr
        have HR : Hid (layR h l = ([], 0, 8)) := by rw [Hid, HRR.out, hle]
        subst hr
        clear hle HRR
        go_wp2_with fail
        go_ret3
        exact ⟨HB4.out, none, 0, 0, by rw [HR.out]; rfl, by rw [HR.out]; exact SliceOf.nil _ _ _ _ _⟩
      | some x =>
        rw [hle] at hr
        obtain ⟨Ad, nn, c, Y, he4, ho⟩ := hr
        obtain ⟨rows, gp⟩ := x
        have HR : Hid (layR h l = (rows, gp, 0)) := by rw [Hid, HRR.out, hle]
        have HO := Lib.hid (ho.rows HB24.out (by simp only [maxLen]; omega))
        subst he4
        clear hle HRR ho
        go_wp2_with fail
        go_ret3
        exact ⟨HB4.out, Ad, nn, c, by rw [HR.out]; rfl, by rw [HR.out]; exact HO.out⟩
  · have HR := Lib.hid (layR_bad (by rw [hallE_bad he]; exact he))
    have HRE := Lib.hid (hallE_bad he)
    have heb : ((seen8 h l).2 != 0) = true := by simpa using he
    clear he hag hbx
    go_wp2_with fail
    go_ret3
    exact ⟨B1, none, 0, 0, by rw [HR.out, HRE.out]; rfl, by rw [HR.out]; exact SliceOf.nil _ _ _ _ _⟩

end Go.Proofs.Ytnaadjhiahjlfaa

namespace Go.Proofs.Ytnaadjhiahjlfaa
open Go.RowKit Go.Shelf

def mustU (h : Hall) (l : List Seen) (k : Nat) : List Int := (numbersL k).filter fun t => !withoutR h l t
theorem numbers_succ (k : Nat) : numbersL (k + 1) = numbersL k ++ [(k : Int)] := by unfold numbersL; rw [List.range_succ, List.map_append]; rfl
theorem mustU_yes {h : Hall} {l : List Seen} {k : Nat} (e : withoutR h l k = false) : mustU h l (k + 1) = mustU h l k ++ [(k : Int)] := by
  unfold mustU; rw [numbers_succ, List.filter_append]; simp [e]
theorem mustU_no {h : Hall} {l : List Seen} {k : Nat} (e : withoutR h l k = true) : mustU h l (k + 1) = mustU h l k := by
  unfold mustU; rw [numbers_succ, List.filter_append]; simp [e]
theorem mustU_len {h : Hall} {l : List Seen} {k : Nat} : (mustU h l k).length ≤ k := by
  unfold mustU; exact Nat.le_trans (List.length_filter_le _ _) (by simp [numbersL])
section
variable {h : Hall} {l : List Seen}
theorem must8_bad (e : hallE h l ≠ 0) : must8 h l = ([], hallE h l) := by rw [must8, if_pos e]
theorem must8_none (e : hallE h l = 0) (hk : OkH h) (hn : leastL (layP h l h.rows.length 0 0) = none) : must8 h l = ([], 8) := by
  rw [least_lay hk 0 (by decide), bitL_zero, ← best_all] at hn
  rw [must8, if_neg (by simp [e]), if_pos hn]
theorem must8_ok (e : hallE h l = 0) (hk : OkH h) {x : List (List Int) × Int} (hn : leastL (layP h l h.rows.length 0 0) = some x) : must8 h l = (mustU h l h.tiles.length, 0) := by
  rw [least_lay hk 0 (by decide), bitL_zero, ← best_all] at hn
  rw [must8, if_neg (by simp [e]), if_neg (by rw [hn]; simp)]; rfl
theorem without_least (hk : OkH h) {k : Nat} (h8 : k < 8) : withoutR h l k = (leastL (layP h l h.rows.length (2 ^ k) 0)).isSome := by
  rw [without_lay, least_lay hk _ (bitL_one k h8).2, (bitL_one k h8).1]
end

/-- whether there is a laying without a set -/
theorem hasLay_any {W2 : World} {h : Hall} {l : List Seen} {gh g2 g5 g3 gF base m cb wo : Nat} {B : Option Addr} (lb : LayBox W2 h l gh g2 g5 g3 gF base m cb wo B) (hok : OkH h) (hm : h.rows.length = m) (hm3 : m ≤ 3) (hwo : wo < 256) :
    Calls Try.prog 61 #[.func (.func 111) #[] #[.pointer (some ⟨g2, 0, none⟩), .pointer (some ⟨g5, 0, none⟩), .pointer (some ⟨g3, 0, none⟩)]] W2 fun e w' =>
      (∃ (v : Value) (n : Int), e = .returned (.tuple #[v, .int .i64 n, .bool (leastL (layP h l m wo 0)).isSome])) ∧ Below W2.heap.size W2 w' :=
  (least_any (Own := fun _ _ _ _ => True) eg_layings lay_enc (fun _ _ _ _ _ _ _ _ => trivial) (layings_seq lb hok hm hm3 hwo) W2 (fun A hA => hA)).mono fun e w' ⟨hr, hb⟩ => by
    refine ⟨?_, hb⟩
    unfold LeastR at hr
    cases hle : leastL (layP h l m wo 0) with
    | none => rw [hle] at hr; exact ⟨_, _, hr⟩
    | some x => rw [hle] at hr; obtain ⟨Ad, nn, c, Y, he, _⟩ := hr; exact ⟨_, _, he⟩

def MustOk (w : World) (r : List Int × Int) (e : Ending) (w' : World) : Prop := Below w.heap.size w w' ∧ ∃ A n c, e = .returned (.tuple #[.slice A n c, .int .i64 r.2]) ∧ Ints (fun _ => True) w' A n r.1

set_option maxRecDepth 100000 in
set_option maxHeartbeats 1000000 in
theorem tmust_any {A B C : Option Addr} {n ca m cb q cc : Nat} {h : Hall} {l : List Seen} {alo ahi most : Int} (w : World) (g : HallAt (fun _ => True) w A n B m h) (gs : Seens (fun _ => True) w C q l) (hca : n ≤ ca) (h1 : h.alo = alo) (h2 : h.ahi = ahi) (h3 : h.most = most) :
    Calls Try.prog 56 #[.agg #[.int .i64 alo, .int .i64 ahi, .int .i64 most, .slice A n ca, .slice B m cb], .slice C q cc] w (MustOk w (must8 h l)) := by
  obtain ⟨i0, hi0, hz0, hz1, hz2⟩ := info_parts infoInt
  obtain ⟨W, hW⟩ : ∃ W, w.alloc (.cells #[.int .i64 alo, .int .i64 ahi, .int .i64 most, .slice A n ca, .slice B m cb] 27) = W := ⟨_, rfl⟩
  have X : Blk W w.heap.size 27 #[.int .i64 alo, .int .i64 ahi, .int .i64 most, .slice A n ca, .slice B m cb] := by rw [← hW]; exact Blk.new _ _ _ rfl
  have hBW : Below w.heap.size w W := by rw [← hW]; exact bl_alloc (Below.refl _ _) _ (Nat.le_refl _)
  have hc : HallAt (fun _ => True) W A n B m h := g.keep (Keeps.below hBW)
  have hs : Seens (fun _ => True) W C q l := gs.keep SeenR.good (Keeps.below hBW)
  have hWs : w.heap.size ≤ W.heap.size := hBW.size
  have HW := Lib.hid hW
  have Hm := Lib.hid hc.rs.len
  have Hn := Lib.hid hc.ts.len
  have hlen := hc.ts.le
  clear hW g gs
  go_enter Try.func56, Try.ntmps56
  go_wp2_with fail
  rw [HW.out]
  refine (tenter_any W hc hs hca h1 h2 h3).mono ?_
  rintro e W1 ⟨b1, p, ag, rfl, hag, hbx⟩
  have B1 : Below w.heap.size w W1 := hBW.trans (b1.mono hWs)
  have X1 := X.bl b1
  have x2 := X1.cell 3
  have HX2 : Hid (W1.cell? ⟨w.heap.size, 3, none⟩ = some (.slice A n ca)) := x2
  have hxl := X1.lt
  clear x2 X X1
  by_cases he : (seen8 h l).2 = 0
  · have hag := hag he
    have hbx := hbx he
    obtain ⟨hc0, _, _⟩ := seen_zero he
    have hokh := okH_of hc0
    have hnr := hokh.nr
    have hnt := hokh.nt
    have hm3 : m ≤ 3 := by rw [← Hm.out]; exact hnr.2
    have hn8 : n ≤ 8 := by rw [← Hn.out]; exact hnt.2
    have HE := Lib.hid he
    rw [he]
    subst hag
    cases hga : agree8 h l
    · have HR : Hid (must8 h l = ([], 9)) := by rw [Hid, must8_bad (by rw [hallE_no HE.out hga]; decide), hallE_no HE.out hga]
      clear hbx he hnr hnt
      go_wp2_with fail
      go_ret2
      exact ⟨B1, none, 0, 0, by rw [HR.out]; rfl, by rw [HR.out]; exact SliceOf.nil _ _ _ _ _⟩
    · obtain ⟨gh, rfl, hbox⟩ := hbx hga
      have HH0 := Lib.hid (hallE_ok HE.out hga)
      have HOK := Lib.hid hokh
      have HAG := Lib.hid hga
      have HBOX := Lib.hid hbox
      clear hbx he hnr hnt hga hokh hbox hc0
      go_wp2_with fail
      refine (layings_any 0 W1 HBOX.out HOK.out HAG.out).mono ?_
      rintro e W2 ⟨⟨g2, g5, g3, gF, base, rfl, lb⟩, b2⟩
      have HLB := Lib.hid lb
      clear lb
      go_wp2_with fail
      refine (hasLay_any HLB.out HOK.out Hm.out hm3 (by decide)).mono ?_
      rintro e W3 ⟨⟨v3, n3, rfl⟩, b3⟩
      have b13 : Below W1.heap.size W1 W3 := bl_call b2 b3 (Nat.le_refl _)
      have HB13 := Lib.hid b13
      have HB1 := Lib.hid B1
      clear b2 b3 b13 B1
      cases hle : leastL (layP h l m 0 0) with
      | none =>
        have HR : Hid (must8 h l = ([], 8)) := must8_none HH0.out HOK.out (by rw [Hm.out]; exact hle)
        rw [Option.isSome_none]
        clear hle
        go_wp2_with fail
        go_ret2
        exact ⟨bl_call HB1.out HB13.out (Nat.le_refl _), none, 0, 0, by rw [HR.out]; rfl, by rw [HR.out]; exact SliceOf.nil _ _ _ _ _⟩
      | some x =>
        have HR : Hid (must8 h l = (mustU h l n, 0)) := by rw [Hid, must8_ok HH0.out HOK.out (x := x) (by rw [Hm.out]; exact hle), Hn.out]
        rw [Option.isSome_some]
        have x2 := getc HB13.out HX2.out
        have hx3 : w.heap.size < W3.heap.size := by have := HB13.out.size; omega
        clear hle
        go_wp2_with fail
        clear x2
        go_loopw [4, 11, 12, 13, 14, 41] (fun v4 _ _ _ _ i' wr => ∃ (k j cap : Nat) (A1 : Option Addr) (l1 : List Int), i' = .int .i64 k ∧ k ≤ n ∧ v4 = .slice A1 j cap ∧ Hid (l1.length = j) ∧ j ≤ k ∧ OwnL IntR 1 (fun _ => False) wr W1.heap.size 3 (.slice A1 j cap) l1 ∧ Hid (Below W1.heap.size W1 wr) ∧ Hid (l1 = mustU h l k)) (fun _ _ _ _ _ i' _ => n - (intOf i').toNat)
        case atStart => exact ⟨0, 0, 0, none, [], rfl, Nat.zero_le _, rfl, rfl, Nat.le_refl _, OwnL.nil _ _ _ _ _ _, HB13.out, rfl⟩
        case round =>
          obtain ⟨k, j, cap, A1, l1, rfl, hk, rfl, Hj, hjk, hO, HB, Hu⟩ := hrel
          by_cases hlt : k < n
          · have hki : (k : Int) < n := by omega
            have hpw := pow_wrap k (by omega)
            obtain ⟨wo, hwo⟩ : ∃ wo : Nat, 2 ^ k = wo := ⟨_, rfl⟩
            rw [hwo] at hpw
            have hwo8 : wo < 256 := by rw [← hwo]; exact (bitL_one k (by omega)).2
            have HWO : Hid (withoutR h l k = (leastL (layP h l m wo 0)).isSome) := by rw [Hid, without_least HOK.out (by omega), Hm.out, hwo]
            clear hwo
            go_wp2_with fail
            try rw [hpw]
            refine (layings_any wo wr (HBOX.out.keep HB.out) HOK.out HAG.out).mono ?_
            rintro e V2 ⟨⟨g2', g5', g3', gF', base', rfl, lb'⟩, c2⟩
            have HLB' := Lib.hid lb'
            have hO2 := hO.below IntR.good c2
            have HBV2 : Hid (Below W1.heap.size W1 V2) := bl_call HB.out c2 (Nat.le_refl _)
            clear lb' c2 hO
            go_wp2_with fail
            refine (hasLay_any HLB'.out HOK.out Hm.out hm3 hwo8).mono ?_
            rintro e V3 ⟨⟨v3', n3', rfl⟩, c3⟩
            have hO3 := hO2.below IntR.good c3
            have HBV3 : Hid (Below W1.heap.size W1 V3) := bl_call HBV2.out c3 (Nat.le_refl _)
            clear c3 hO2
            cases hsm : (leastL (layP h l m wo 0)).isSome
            · have HU2 : Hid (l1 ++ [(k : Int)] = mustU h l (k + 1)) := by rw [Hid, mustU_yes (by rw [HWO.out]; exact hsm), Hu.out]
              clear hsm
              go_wp2_with (at_builtin; refine wpList_append_n _ rfl (.tmp 55) (.tmp 57) _ rfl IntR.good W1.heap.size 3 i0 _ 8 Try.underlying56 hi0 hz0 hz1 hz2 rfl (by omega) _ l1 (k : Int) j Hj.out rfl (hO3.alloc IntR.good _) ⟨_, 0, none⟩ 1 [.int .i64 k] rfl rfl (news_new rfl rfl) ?c1 ?c2 ?c3 (fun h => h) ?_)
              case c1 => simp only [maxLen]; omega
              case c2 => omega
              case c3 => have := HBV3.out.size; simp; omega
              intro A2 cap2 V4 hO4 hg4 _
              have HB4 : Hid (Below W1.heap.size W1 V4) := bl_grown (bl_alloc HBV3.out _ (Nat.le_refl _)) (hO3.alloc IntR.good _) hg4 (Nat.le_refl _) (Nat.le_refl _)
              have Hj2 : Hid ((l1 ++ [(k : Int)]).length = j + 1) := by rw [Hid, List.length_append, Hj.out]; rfl
              clear hg4 hO3
              go_wp2_with fail
              go_roundw
              case rel => exact ⟨k + 1, j + 1, cap2, _, l1 ++ [(k : Int)], by go_num, by omega, rfl, Hj2, by omega, hO4, HB4, HU2⟩
              case measure => simp [intOf]; omega
            · have HU2 : Hid (l1 = mustU h l (k + 1)) := by rw [Hid, mustU_no (by rw [HWO.out]; exact hsm), Hu.out]
              clear hsm
              go_wp2_with fail
              go_roundw
              case rel => exact ⟨k + 1, j, cap, A1, l1, by go_num, by omega, rfl, Hj, by omega, hO3, HBV3, HU2⟩
              case measure => simp [intOf]; omega
          · obtain rfl : k = n := by omega
            have hS := hO.slice (T := fun _ => True) IntR.good rfl (by simp only [maxLen]; omega) (fun _ _ => trivial) (fun _ _ _ => trivial)
            have HS := Lib.hid hS
            clear hS hO
            go_wp2_with fail
            go_ret2
            exact ⟨bl_call HB1.out HB.out (Nat.le_refl _), A1, j, cap, by rw [HR.out]; rfl, by rw [HR.out, ← Hu.out]; exact HS.out⟩
  · have HR := Lib.hid (must8_bad (by rw [hallE_bad he]; exact he))
    have HRE := Lib.hid (hallE_bad he)
    have heb : ((seen8 h l).2 != 0) = true := by simpa using he
    clear he hag hbx
    go_wp2_with fail
    go_ret2
    exact ⟨B1, none, 0, 0, by rw [HR.out, HRE.out]; rfl, by rw [HR.out]; exact SliceOf.nil _ _ _ _ _⟩

end Go.Proofs.Ytnaadjhiahjlfaa
