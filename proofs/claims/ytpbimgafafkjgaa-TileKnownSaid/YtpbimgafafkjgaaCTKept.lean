/- Walks: kept: layings in new memory. -/
import Derived.Laws.MakeOwn
import Derived.Laws.IdiomCopy
import Derived.RangeFuncKeeps
import Derived.Test.YtpbimgafafkjgaaCTRecs
set_option linter.unusedVariables false
set_option linter.unusedSimpArgs false
set_option linter.all false
namespace Go.Proofs.Ytpbimgafafkjgaa
open Go.RowKit Go.Shelf
attribute [local go_sem] Oper.semAt_some

def setMany2 : Array Value → Nat → List Value → Array Value
  | ds, _, [] => ds
  | ds, o, v :: r => setMany2 (ds.setIfInBounds o v) (o + 1) r
theorem setCells_blk {g : Nat} {t : TypeId} : ∀ (vs : List Value) (o : Nat) (w : World) (ds : Array Value), Blk w g t ds → Blk (w.setCells g o vs) g t (setMany2 ds o vs)
  | [], _, _, _, h => h
  | v :: r, o, _, _, h => setCells_blk r (o + 1) _ _ (h.set_ o v)
theorem setMany2_get : ∀ (vs : List Value) (o : Nat) (ds : Array Value), o + vs.length ≤ ds.size → (setMany2 ds o vs).size = ds.size ∧ ∀ k, (setMany2 ds o vs)[k]? = if o ≤ k ∧ k < o + vs.length then vs[k - o]? else ds[k]?
  | [], o, ds, _ => ⟨rfl, fun k => by rw [if_neg (by simp)]; rfl⟩
  | v :: r, o, ds, h => by
    rw [List.length_cons] at h
    obtain ⟨h1, h2⟩ := setMany2_get r (o + 1) (ds.setIfInBounds o v) (by rw [Array.size_setIfInBounds]; omega)
    refine ⟨h1.trans (Array.size_setIfInBounds ..), fun k => ?_⟩
    rw [setMany2, h2 k, List.length_cons]
    by_cases e : k = o
    · subst e
      rw [if_neg (by omega), if_pos (by omega), Nat.sub_self, Array.getElem?_setIfInBounds_self_of_lt (by omega)]; rfl
    · by_cases e2 : o ≤ k ∧ k < o + (r.length + 1)
      · rw [if_pos (by omega), if_pos e2]
        obtain ⟨d, hd⟩ : ∃ d, k - o = d + 1 := ⟨k - o - 1, by omega⟩
        rw [hd, show k - (o + 1) = d by omega]; rfl
      · rw [if_neg (by omega), if_neg e2, Array.getElem?_setIfInBounds_ne (fun h => e h.symm)]
theorem setCells_whole {w : World} {g : Nat} {t : TypeId} {ds cs : Array Value} (h : Blk w g t ds) (hs : ds.size = cs.size) : Blk (w.setCells g 0 cs.toList) g t cs := by
  have h1 := setCells_blk cs.toList 0 w ds h
  obtain ⟨h2, h3⟩ := setMany2_get cs.toList 0 ds (by simp [hs])
  have e : setMany2 ds 0 cs.toList = cs := by
    apply Array.ext_getElem?
    intro k
    rw [h3 k]
    by_cases hk : k < cs.size
    · rw [if_pos (by simpa using hk), Nat.sub_zero, Array.getElem?_toList]
    · rw [if_neg (by simpa using hk), Array.getElem?_eq_none (by omega), Array.getElem?_eq_none (by omega)]
  rw [e] at h1; exact h1
theorem setCells_kept {g : Nat} : ∀ (vs : List Value) (o : Nat) (w : World), Kept (fun k => k = g) w (w.setCells g o vs)
  | [], _, _ => Kept.refl _ _
  | v :: r, o, w => (Kept.setCell (M := fun k => k = g) w ⟨g, o, none⟩ v rfl).trans (setCells_kept r (o + 1) _)
theorem setCells_size2 {g : Nat} : ∀ (vs : List Value) (o : Nat) (w : World), (w.setCells g o vs).heap.size = w.heap.size
  | [], _, _ => rfl
  | v :: r, o, w => (setCells_size2 r (o + 1) _).trans (by simp [World.setCell])

theorem copy_rows {w : World} {g ga m : Nat} {ds cs : Array Value} {t1 t2 : TypeId} (hg : Blk w g t1 ds) (hn : ds.size = m) (ha : Blk w ga t2 cs) (hc : cs.size = m) (h1 : ∀ v ∈ cs.toList, v.oneCell' = true) (sT ty : TypeId) :
    (Builtin.copy_ #[45, sT] ty #[.slice (some ⟨g, 0, none⟩) m m, .slice (some ⟨ga, 0, none⟩) m m]).run Try.prog w = .ok (goInt m) (w.setCells g 0 cs.toList) := by
  obtain ⟨i0, hi0, hz0, hz1, hz2⟩ := info_parts infoInts
  have hs : (Try.prog.info? 39).map (·.size) = some 1 := by rw [hi0]; simp [hz1]
  have hl : cs.toList.length = m := by simp [hc]
  have h := run_copy_cells (P := Try.prog) w 45 sT ty 39 g 0 m m ⟨ga, 0, none⟩ m m cs.toList Try.underlying45 hs (by rw [hl]; exact (Nat.min_self m).symm) (fun j v hj => by
      rw [show (⟨ga, 0, none⟩ : Addr).add j = ⟨ga, j, none⟩ by unfold Addr.add; split <;> simp_all]
      rw [ha.cell j]; simpa using hj)
    (fun j hj => by rw [Nat.zero_add, hg.cell j]; rw [hl] at hj; simp [hn, hj])
    (fun j hj => by rw [Nat.zero_add]; exact hg.frozen j) h1
  rw [hl] at h
  exact h

/-- rows that are handed on in memory that passes to the loop's body -/
def KeptEnc (W0 : World) (m : Nat) (x : List (List Int) × Int) (args : Array Value) (Y : Foot) (A : World) : Prop :=
  ∃ gO T cs, args = #[.slice (some ⟨gO, 0, none⟩) m m, .int .i64 x.2] ∧ Y = (fun k => k = gO) ∧ Blk A gO T cs ∧ x.1.length = m ∧ RowsV W0 m cs x.1
theorem RowsV.one {W0 : World} {m : Nat} {cs : Array Value} {ys : List (List Int)} (h : RowsV W0 m cs ys) (hl : ys.length = m) : ∀ v ∈ cs.toList, v.oneCell' = true := by
  intro v hv
  obtain ⟨k, hk, rfl⟩ := List.getElem_of_mem hv
  have hk' : k < ys.length := by rw [hl, ← h.1]; simpa using hk
  obtain ⟨u, hu, A, n, c, rfl, _⟩ := h.2 k ys[k] (List.getElem?_eq_getElem hk')
  have : cs.toList[k]? = some (.slice A n c) := by rw [Array.getElem?_toList]; exact hu
  rw [List.getElem?_eq_getElem hk] at this
  injection this with this
  rw [this]; rfl

theorem eg_kept : Enters Try.prog 86 := enters_of Try.func86 (by kernel_rfl) rfl
theorem kept_call (gf : Nat) (lb : Array Value) (w : World) : Calls Try.prog 68 #[.func (.func gf) #[] lb] w fun e w' => e = .returned (.func (.func 86) #[] #[.pointer (some ⟨w.heap.size, 0, none⟩)]) ∧ w' = w.alloc (.cells #[.func (.func gf) #[] lb] 119) := by
  go_enter Try.func68, Try.ntmps68
  go_wp2
  go_ret
  exact ⟨rfl, rfl⟩

set_option maxRecDepth 100000 in
set_option maxHeartbeats 2000000 in
theorem kept_seq {W0 : World} {m gf gK : Nat} {lb : Array Value} (eg : ∀ args w, (callFunc gf args).run Try.prog w = .ok (.enter gf args) w) (hm1 : 1 ≤ m) (hm3 : m ≤ 3) {L : List (List (List Int) × Int)} {Inv : World → Prop} (hseq : SeqG Try.prog gf lb (LayEnc W0 m) L Inv) :
    SeqG Try.prog 86 #[.pointer (some ⟨gK, 0, none⟩)] (KeptEnc W0 m) L (fun A => Inv A ∧ ∃ T, Blk A gK T #[.func (.func gf) #[] lb]) := by
  intro lp O0 J Jx W hO0 hInv hJ hJx hR h0
  obtain ⟨hI0, TK, hKb⟩ := hInv W (Kept.refl _ _)
  have k0 := hKb.cell 0
  have hkl := hKb.lt
  have HINV := Lib.hid hInv
  have HR := Lib.hid hR
  have HJ0 := Lib.hid h0
  clear hInv hI0 hR h0 hKb
  rw [show (#[Value.func (.yield lp) #[] #[]] ++ #[Value.pointer (some ⟨gK, 0, none⟩)] : Array Value) = #[.func (.yield lp) #[] #[], .pointer (some ⟨gK, 0, none⟩)] from rfl]
  refine (callsIn_wide (n := 1)).1 ?_
  refine callsIn_of_wp_marks Try.func86 rfl trivial ?_ rfl
  simp only [Try.ntmps86, List.size_toArray, List.length_cons, List.length_nil, Nat.reduceAdd, Nat.reduceSub, Array.replicate_succ, Array.replicate_zero, List.push_toArray, List.append_toArray, List.nil_append, List.cons_append]
  gi_wp2_with fail
  obtain ⟨W1, hW1⟩ : ∃ W1, W.alloc (.cells #[.func (.yield lp) #[] #[]] 144) = W1 := ⟨_, rfl⟩
  have hk1 : Kept (fun _ => False) W W1 := by rw [← hW1]; exact Kept.alloc _ _ _
  have hs1 : W1.heap.size = W.heap.size + 1 := by rw [← hW1]; simp
  have hY1 : Blk W1 W.heap.size 144 #[.func (.yield lp) #[] #[]] := by rw [← hW1]; exact Blk.new _ _ _ rfl
  rw [hW1]
  clear hW1 k0 hkl
  have hbig : ∀ {A : World}, Kept (fun k => O0 k ∨ W1.heap.size ≤ k) W1 A → Kept (fun k => O0 k ∨ W.heap.size ≤ k) W A := fun hK => hk1.any.seq hK (fun i hi h => h.imp id (fun h => by omega))
  have hold : ∀ {A : World} {g : Nat} {t : TypeId} {cs : Array Value}, Blk W1 g t cs → W.heap.size ≤ g → Kept (fun k => O0 k ∨ W1.heap.size ≤ k) W1 A → Blk A g t cs := fun hB hg hK =>
    (hK.block _ hB.lt (fun h => h.elim (fun h => by have := hO0 _ h; omega) (fun h => by have := hB.lt; omega))).trans hB
  refine rangeFunc_outerG (m := 1) (gf := gf) (lb := lb) rfl eg hseq (fun x args Y A hE => by obtain ⟨_, gR, T, cs, rfl, _⟩ := hE; rfl) O0 J (fun c O A => c = .ret ∧ Jx O A) (fun k h => by have := hO0 k h; omega) (fun A hK => (HINV.out A (hbig hK)).1) hJ (fun c O A B h h1 h2 => ⟨h.1, hJx O A B h.2 h1 h2⟩) (hJ _ _ _ _ HJ0.out hO0 hk1.any) ?round ?done ?stop
  case round =>
    intro l' i x args Y O A hx hEnc hY hYl hj hlt hsub hK hnl hlA hWl hr1
    obtain ⟨rfl, gR, TR, cs, rfl, hBR, hxl, hRV⟩ := hEnc
    have hone := hRV.one hxl
    have hyA := hold hY1 (Nat.le_refl _) hK
    have hRl : gR ≠ l' := by
      rintro rfl
      obtain ⟨r1, hr1⟩ := hr1
      have := hr1.symm.trans hBR
      injection this with this
      cases this
    have hYl' : W.heap.size ≠ l' := by omega
    rw [fold2]
    simp only [List.setIfInBounds_toArray, List.set_cons_zero, List.set_cons_succ]
    gi_wp2
    refine ⟨Kept.refl _ _, fun A2 hK2 hs2 r2 hr2 => ?_⟩
    have hBR2 : Blk A2 gR TR cs := (hK2.block _ hBR.lt hRl).trans hBR
    have hyA2 : Blk A2 W.heap.size 144 #[.func (.yield lp) #[] #[]] := (hK2.block _ hyA.lt hYl').trans hyA
    have hj2 : J i O A2 := hJ _ _ _ _ hj hlt (hK2.mono fun k _ h hO => hnl (h ▸ hO))
    have hmk := run_make_row' (P := Try.prog) 45 39 (.slice none 0 0) 24 Try.underlying45 infoInts rfl .i64 .i64 m (by omega) (by omega)
    obtain ⟨A3, hA3⟩ : ∃ A3, A2.alloc (.cells (madeCells #[.slice none 0 0] m) 39) = A3 := ⟨_, rfl⟩
    have hB3 : Blk A3 A2.heap.size 39 (madeCells #[.slice none 0 0] m) := by rw [← hA3]; exact Blk.new _ _ _ rfl
    have hBR3 : Blk A3 gR TR cs := by rw [← hA3]; exact hBR2.alloc _
    have hcp : ∀ sT ty, (Builtin.copy_ #[45, sT] ty #[.slice (some ⟨A2.heap.size, 0, none⟩) m m, .slice (some ⟨gR, 0, none⟩) m m]).run Try.prog A3 = .ok (goInt m) (A3.setCells A2.heap.size 0 cs.toList) := fun sT ty => copy_rows hB3 (by rw [made_rep]; simp) hBR3 hRV.1 hone sT ty
    have hs3 : A3.heap.size = A2.heap.size + 1 := by rw [← hA3]; simp
    obtain ⟨gO, hgO⟩ : ∃ gO, A2.heap.size = gO := ⟨_, rfl⟩
    rw [hgO] at hB3 hcp hs3
    obtain ⟨A4, hA4⟩ : ∃ A4, A3.setCells gO 0 cs.toList = A4 := ⟨_, rfl⟩
    rw [hA4] at hcp
    have hB4 : Blk A4 gO 39 cs := by rw [← hA4]; exact setCells_whole hB3 (by rw [made_rep]; simp [hRV.1])
    have hs4 : A4.heap.size = gO + 1 := by rw [← hA4, setCells_size2, hs3]
    have hk24 : Kept (fun _ => False) A2 A4 := by
      rw [← hA4, ← hA3]
      exact Kept.seq (Kept.alloc (fun _ => False) A2 _) (setCells_kept cs.toList 0 _) (fun j hj e => by omega)
    have hy4 : Blk A4 W.heap.size 144 #[.func (.yield lp) #[] #[]] := (hk24.block _ hyA2.lt (fun h => h)).trans hyA2
    have hj4 : J i O A4 := hJ _ _ _ _ hj2 (fun k hk => by have := hlt k hk; omega) hk24.any
    have hK4 : Kept (fun k => O0 k ∨ W.heap.size ≤ k) W A4 := ((hbig hK).trans (hK2.mono fun k _ e => .inr (by omega))).trans hk24.any
    have hgOn : ¬ O gO := fun h => by have := hlt _ h; omega
    obtain ⟨fn, tmps, assign, body, hy, hRd⟩ := HR.out i x #[.slice (some ⟨gO, 0, none⟩) m m, .int .i64 x.2] (fun k => k = gO) O A4 hx ⟨gO, _, cs, rfl, rfl, hB4, hxl, hRV⟩ (fun k e => by subst e; exact ⟨hgOn, by omega, by omega⟩) hj4 (fun k hk => by have := hlt k hk; omega) (fun k hk => (hsub k hk).imp id (fun h => by omega)) hK4 0
    have HRD := Lib.hid hRd
    have HS2 := Lib.hid hs2
    have HS4 := Lib.hid hs4
    have HGO := Lib.hid hgO
    have HK24 := Lib.hid hk24
    have hmk2 := hmk A2
    rw [hA3, hgO] at hmk2
    have y0 := hy4.cell 0
    have hyl4 := hy4.lt
    clear hRd hs2 hs4 hgO hk24 hmk hB3 hBR3 hs3 hA3 hA4 hB4 hy4 hj4 hK4 hyA2 hBR2 hj2
    gi_wp2_with fail
    refine RoundIn.mono (F := Fence.wide.inRound l') HRD.out ?_
    clear HRD
    rintro e B ⟨O2, hO2, hKB, hcase⟩
    have HKB : Hid (Kept O A2 B) := Kept.seq (HK24.out.any) hKB (fun k _ h => h)
    have HOB : Hid (∀ k, O2 k → O k ∨ False ∨ (A.heap.size ≤ k ∧ k < B.heap.size)) := fun k hk => by
      have h1 := HS2.out
      have h2 := HS4.out
      have h3 := HGO.out
      have h4 := hKB.size
      rcases hO2 k hk with h | h | h
      · exact .inl h
      · exact .inr (.inr (by omega))
      · exact .inr (.inr (by omega))
    clear hO2 hKB
    rcases hcase with ⟨rfl, hj'⟩ | ⟨rfl, hx'⟩
    · have HJB := Lib.hid hj'
      clear hj'
      gi_wp2_with fail
      exact ⟨HKB.out, O2, HOB.out, HJB.out⟩
    · have HXB := Lib.hid hx'
      clear hx'
      gi_wp2_with fail
      exact ⟨HKB.out, O2, HOB.out, rfl, HXB.out⟩
  case done =>
    rintro O W' D hj hO hK hD hnD hDb
    gi_wp2
    refine ⟨by simp, .inl ⟨_, _, rfl, run_takeDeferred hDb, ?_⟩⟩
    refine ⟨_, results_none rfl _ _ _, ⟨_, rfl⟩, (hbig hK).trans (Kept.putObj _ _ _ (.inr (by omega))), O, fun k h => (hO k h).imp id (fun h => ⟨by omega, by simpa using h.2⟩), .inl (hJ _ _ _ _ hj (fun k h => (hO k h).elim (fun h => by have := hO0 k h; have := hK.size; omega) (fun h => h.2)) (Kept.putObj _ _ _ hnD))⟩
  case stop =>
    rintro cd O W' D ⟨rfl, hx⟩ hO hK hD hnD hDb
    gi_wp2
    refine ⟨by simp, .inl ⟨_, _, rfl, run_takeDeferred hDb, ?_⟩⟩
    refine ⟨_, results_none rfl _ _ _, ⟨_, rfl⟩, (hbig hK).trans (Kept.putObj _ _ _ (.inr (by omega))), O, fun k h => (hO k h).imp id (fun h => ⟨by omega, by simpa using h.2⟩), .inr (hJx _ _ _ hx (fun k h => (hO k h).elim (fun h => by have := hO0 k h; have := hK.size; omega) (fun h => h.2)) (Kept.putObj _ _ _ hnD))⟩

end Go.Proofs.Ytpbimgafafkjgaa
