/- A part of the proof that TopLaid always answers true. -/
import Derived.Laws.MakeOwn
import Derived.Laws.IdiomCopy
import Derived.RangeFuncKeeps
import Derived.Test.YtdbfincinjoppaaGreatCTRec
set_option linter.all false
namespace Go.Proofs.YtdbfincinjoppaaGreat
open Go.RowKit Go.Shelf
attribute [local go_sem] Oper.semAt_some
theorem lex_len : ∀ n : Nat, n < 9 → ∀ k : Nat, k < 9 → (lexL k (numbersL n)).length ≤ 256 := by decide +kernel
theorem fitS_row {h : Hall} {l : List Seen} (hk : OkH h) {r : Nat} (hr : r < h.rows.length) : rowP h r < 9 ∧ (∀ x ∈ fitS h l r, x.1 < 256) ∧ (fitS h l r).length ≤ 256 := by
 have hn := hk.nt
 have hx : h.rows[r]? = some ⟨(h.rows[r]).frame, (h.rows[r]).swell, (h.rows[r]).places⟩ := List.getElem?_eq_getElem hr
 obtain ⟨_, _, _, _, _, f6⟩ := rowE_zero hx (hk.row hr)
 have hp : rowP h r < 9 := by rw [rowP, getD_of hx]; dsimp only; omega
 have h256 : ∀ s, s < 2 ^ h.tiles.length → s < 256 := fun s hs => Nat.lt_of_lt_of_le hs (Nat.pow_le_pow_right (by decide) (by omega : h.tiles.length ≤ 8) : 2 ^ h.tiles.length ≤ 2 ^ 8)
 refine ⟨hp, fun x hx => ?_, ?_⟩
 ·unfold fitS at hx
  obtain ⟨y, hy, rfl⟩ := List.mem_map.1 hx
  exact h256 _ (fit_lt (by omega) hp hy).1
 unfold fitS fitL
 rw [List.length_map]
 exact Nat.le_trans (List.length_filter_le _ _) (lex_len _ (by omega) _ hp)
theorem lay_rec {W0 W : World} {h : Hall} {l : List Seen} {gh g2 g5 g3 gF base m cb wo gB gY gL gR lp : Nat} {B' : Option Addr} (lb : LayBox W0 h l gh g2 g5 g3 gF base m cb wo B') (hok : OkH h) (hm : h.rows.length = m) (hm3 : m ≤ 3)
  (O0 : Foot) (J : Nat → Foot → World → Prop) (Jx : Foot → World → Prop) (L : List (List (List Int) × Int))
  (hO0 : ∀ k, O0 k → k < W.heap.size) (hInv : ∀ A, Kept (fun k => O0 k ∨ W.heap.size ≤ k) W A → Below W0.heap.size W0 A)
  (hJ : ∀ i O A B, J i O A → (∀ k, O k → k < A.heap.size) → Kept (fun k => ¬ O k) A B → J i O B)
  (hR : ∀ i x args Y O A, L[i]? = some x → LayEnc W0 m x args Y A → (∀ k, Y k → ¬ O k ∧ W.heap.size ≤ k ∧ k < A.heap.size) → J i O A → (∀ k, O k → k < A.heap.size) → (∀ k, O k → O0 k ∨ W.heap.size ≤ k) → Kept (fun k => O0 k ∨ W.heap.size ≤ k) W A →
   ∀ mm, YieldAt Fence.wide mm Tryz.prog lp args A fun e B => ∃ O' : Foot, (∀ k, O' k → O k ∨ Y k ∨ (A.heap.size ≤ k ∧ k < B.heap.size)) ∧ Kept O A B ∧ ((e = .returned (.bool true) ∧ J (i + 1) O' B) ∨ (e = .returned (.bool false) ∧ Jx O' B)))
  (hg : W.heap.size ≤ gB ∧ W.heap.size ≤ gY ∧ W.heap.size ≤ gL ∧ W.heap.size ≤ gR) (hgne : gR ≠ gB ∧ gR ≠ gY ∧ gR ≠ gL) :
  ∀ (k row : Nat), row + k = m → ∀ (u : Nat) (g : Int) (i : Nat) (O : Foot) (A : World) (cs : Array Value) (pre : List (List Int)), u < 256 → pre.length = row → RowsV W0 m cs pre → RecSt A gB gY gL gR g5 lp m cs → Kept (fun k => O0 k ∨ W.heap.size ≤ k) W A →
   J i O A → (∀ j, O j → j < A.heap.size) → (∀ j, O j → O0 j ∨ W.heap.size ≤ j) → (¬ O gB ∧ ¬ O gY ∧ ¬ O gL ∧ ¬ O gR) → (∀ t x, (layP h l k u g)[t]? = some x → L[i + t]? = some (pre ++ x.1, x.2)) →
   Calls Tryz.prog 82 #[.int .i64 row, .int .i64 u, .int .i64 g, .pointer (some ⟨gB, 0, none⟩), .pointer (some ⟨gY, 0, none⟩), .pointer (some ⟨g5, 0, none⟩), .pointer (some ⟨gL, 0, none⟩)] A (LayPost m row gR J Jx O A cs i (layP h l k u g).length) := by
 intro k
 induction k with
 | zero =>
  intro row hrow u g i O A cs pre hu hpre hrv hst hK hj hO hO2 hnO hL
  obtain rfl : row = m := by omega
  have := hL 0 ([], g) rfl
  exact lay_zero (h := h) (l := l) O0 J Jx L hm3 hR u g i O A cs pre hpre hrv hst hK hj hO hO2 hnO.2.2.2 (by simpa using this)
 | succ k ih =>
  intro row hrow u g i O A cs pre hu hpre hrv hst hK hj hO hO2 hnO hL
  obtain ⟨_, hf1, hf2⟩ := fitS_row (l := l) hok (r := row) (by omega)
  exact lay_step lb hrow hm hm3 hf1 hf2 O0 J Jx L hO0 hInv hJ hg hgne (fun u' g' i' O' A' cs' pre' a1 a2 a3 a4 a5 a6 a7 a8 a9 a10 => ih (row + 1) (by omega) u' g' i' O' A' cs' pre' a1 a2 a3 a4 a5 a6 a7 a8 a9 a10) u g i O A cs pre hu hpre hrv hst hK hj hO hO2 hnO hL
theorem app13t (a b c d : Value) : (#[a] ++ #[b, c, d] : Array Value) = #[a, b, c, d] := rfl
theorem eg_layings : Enters Tryz.prog 81 := enters_of Tryz.func81 (by kernel_rfl) rfl
set_option maxRecDepth 100000 in
set_option maxHeartbeats 2000000 in
theorem layings_seq {W0 : World} {h : Hall} {l : List Seen} {gh g2 g5 g3 gF base m cb wo : Nat} {B' : Option Addr} (lb : LayBox W0 h l gh g2 g5 g3 gF base m cb wo B') (hok : OkH h) (hm : h.rows.length = m) (hm3 : m ≤ 3) (hwo : wo < 256) :
  SeqG Tryz.prog 81 #[.pointer (some ⟨g2, 0, none⟩), .pointer (some ⟨g5, 0, none⟩), .pointer (some ⟨g3, 0, none⟩)] (LayEnc W0 m) (layP h l m wo 0) (fun A => Below W0.heap.size W0 A) := by
 intro lp O0 J Jx W hO0 hInv hJ hJx hR h0
 rw [app13t]
 have hBW := hInv W (Kept.refl _ _)
 have c2 := (hBW.cell (World.block_lt_of_cell? _ _ lb.c2)).trans lb.c2
 have c4 := (hBW.cell (World.block_lt_of_cell? _ _ lb.c4)).trans lb.c4
 have c3 := (hBW.cell (World.block_lt_of_cell? _ _ lb.c3)).trans lb.c3
 have hl2 := World.block_lt_of_cell? _ _ c2
 have hl4 := World.block_lt_of_cell? _ _ c4
 have hl3 := World.block_lt_of_cell? _ _ c3
 dsimp only at hl2 hl3 hl4
 have hmk := run_make_row' (P := Tryz.prog) 57 47 (.slice none 0 0) 24 Tryz.underlying57 infoInts rfl .i64 .i64 m (by omega) (by omega)
 have hg21 : g2 < W.heap.size + 1 := by omega
 have hg41 : gh < W.heap.size + 1 := by omega
 have hg31 : g3 < W.heap.size + 1 := by omega
 have hg32 : g3 < W.heap.size + 1 + 1 := by omega
 have hg33 : g3 < W.heap.size + 1 + 1 + 1 := by omega
 have EG : ∀ args w, (callFunc 82 args).run Tryz.prog w = .ok (.enter 82 args) w := eg_lay
 clear hBW
 refine (callsIn_wide (n := 1)).1 ?_
 refine callsIn_of_wp Tryz.func81 rfl trivial ?_ rfl
 simp only [Tryz.ntmps81, List.size_toArray, List.length_cons, List.length_nil, Nat.reduceAdd, Nat.reduceSub, Array.replicate_succ, Array.replicate_zero, List.push_toArray, List.append_toArray, List.nil_append, List.cons_append]
 gi_wp2_with fail
 obtain ⟨W4, hW4⟩ : ∃ W4, (((W.alloc (.cells #[.func (.yield lp) #[] #[]] 167)).alloc (.cells (madeCells #[.slice none 0 0] m) 47)).alloc (.cells #[.slice (some ⟨W.heap.size + 1, 0, none⟩) m m] 57)).alloc (.cells #[.func (.func 82) #[] #[.pointer (some ⟨W.heap.size + 1 + 1, 0, none⟩), .pointer (some ⟨W.heap.size, 0, none⟩), .pointer (some ⟨g5, 0, none⟩), .pointer (some ⟨W.heap.size + 1 + 1 + 1, 0, none⟩)]] 69) = W4 := ⟨_, rfl⟩
 have hk4 : Kept (fun _ => False) W W4 := by rw [← hW4]; exact (((Kept.alloc _ _ _).trans (Kept.alloc _ _ _)).trans (Kept.alloc _ _ _)).trans (Kept.alloc _ _ _)
 have hs4 : W4.heap.size = W.heap.size + 4 := by rw [← hW4]; simp
 have hst : RecSt W4 (W.heap.size + 1 + 1) W.heap.size (W.heap.size + 1 + 1 + 1) (W.heap.size + 1) g5 lp m (madeCells #[.slice none 0 0] m) := by
  rw [← hW4]
  exact ⟨⟨_, (Blk.new _ _ _ (by simp)).alloc _⟩, ⟨_, (((Blk.new _ _ _ rfl).alloc _).alloc _).alloc _⟩, ⟨_, Blk.new _ _ _ (by simp)⟩, ⟨_, ((Blk.new _ _ _ (by simp)).alloc _).alloc _⟩, by rw [made_rep]; simp⟩
 rw [hW4]
 refine ⟨trivial, ?_⟩
 refine (callsIn_wide.2 (lay_rec lb hok hm hm3 O0 J Jx (layP h l m wo 0) hO0 hInv hJ hR (by omega) (by omega) m 0 (Nat.zero_add _) wo 0 0 O0 W4 _ [] hwo rfl ⟨by rw [made_rep]; simp, fun r y hr => by simp at hr⟩ hst hk4.any (hJ _ _ _ _ h0 hO0 hk4.any) (fun j hj => by have := hO0 j hj; omega) (fun j hj => .inl hj) ⟨fun hh => by have := hO0 _ hh; omega, fun hh => by have := hO0 _ hh; omega, fun hh => by have := hO0 _ hh; omega, fun hh => by have := hO0 _ hh; omega⟩ (fun t x ht => by simpa using ht))).mono ?_
 rintro e B ⟨hKB, _, O', hO', hcase⟩
 have hfin : Kept (fun k => O0 k ∨ W.heap.size ≤ k) W B := hk4.any.seq hKB (fun j hj hh => hh.elim .inl (fun e => by omega))
 have hO'' : ∀ k, O' k → O0 k ∨ (W.heap.size ≤ k ∧ k < B.heap.size) := fun k hk => (hO' k hk).imp id (fun h => ⟨by omega, h.2⟩)
 have HC : Hid (J (layP h l m wo 0).length O' B ∨ Jx O' B) := by
  rcases hcase with ⟨_, h⟩ | ⟨_, h⟩
  ·exact .inl (by simpa using h)
  exact .inr h
 have HFIN := Lib.hid hfin
 have HOO := Lib.hid hO''
 have he : ∃ b : Bool, e = .returned (.bool b) := by
  rcases hcase with ⟨h, _⟩ | ⟨h, _⟩
  ·exact ⟨_, h⟩
  exact ⟨_, h⟩
 obtain ⟨b, rfl⟩ := he
 clear hcase hKB hO' hfin hO''
 gi_wp2_with fail
 go_end0
 exact ⟨⟨_, rfl⟩, HFIN.out, O', HOO.out, HC.out⟩
open Go.RowKit Go.Shelf
attribute [local go_sem] Oper.semAt_some
def setMany2 : Array Value → Nat → List Value → Array Value
 | ds, _, [] => ds
 | ds, o, v :: r => setMany2 (ds.setIfInBounds o v) (o + 1) r
theorem setCells_blk {g : Nat} {t : TypeId} : ∀ (vs : List Value) (o : Nat) (w : World) (ds : Array Value), Blk w g t ds → Blk (w.setCells g o vs) g t (setMany2 ds o vs)
 | [], _, _, _, h => h
 | v :: r, o, _, _, h => setCells_blk r (o + 1) _ _ (h.set_ o v)
theorem setMany2_get : ∀ (vs : List Value) (o : Nat) (ds : Array Value), o + vs.length ≤ ds.size → (setMany2 ds o vs).size = ds.size ∧ ∀ k, (setMany2 ds o vs)[k]? = if o ≤ k ∧ k < o + vs.length then vs[k - o]? else ds[k]?
 | [], o, ds, _ => ⟨rfl, fun k => by rw [if_neg (by simp)]; rfl⟩
 | v :: r, o, ds, h => by
  rw [List.length_cons] at h
  obtain ⟨h1, h2⟩ := setMany2_get r (o + 1) (ds.setIfInBounds o v) (by rw [Array.size_setIfInBounds]; omega)
  refine ⟨h1.trans (Array.size_setIfInBounds ..), fun k => ?_⟩
  rw [setMany2, h2 k, List.length_cons]
  by_cases e : k = o
  ·subst e
   rw [if_neg (by omega), if_pos (by omega), Nat.sub_self, Array.getElem?_setIfInBounds_self_of_lt (by omega)]; rfl
  by_cases e2 : o ≤ k ∧ k < o + (r.length + 1)
  ·rw [if_pos (by omega), if_pos e2]
   obtain ⟨d, hd⟩ : ∃ d, k - o = d + 1 := ⟨k - o - 1, by omega⟩
   rw [hd, show k - (o + 1) = d by omega]; rfl
  rw [if_neg (by omega), if_neg e2, Array.getElem?_setIfInBounds_ne (fun h => e h.symm)]
theorem setCells_whole {w : World} {g : Nat} {t : TypeId} {ds cs : Array Value} (h : Blk w g t ds) (hs : ds.size = cs.size) : Blk (w.setCells g 0 cs.toList) g t cs := by
 have h1 := setCells_blk cs.toList 0 w ds h
 obtain ⟨h2, h3⟩ := setMany2_get cs.toList 0 ds (by simp [hs])
 have e : setMany2 ds 0 cs.toList = cs := by
  apply Array.ext_getElem?
  intro k
  rw [h3 k]
  by_cases hk : k < cs.size
  ·rw [if_pos (by simpa using hk), Nat.sub_zero, Array.getElem?_toList]
  rw [if_neg (by simpa using hk), Array.getElem?_eq_none (by omega), Array.getElem?_eq_none (by omega)]
 rw [e] at h1; exact h1
theorem setCells_kept {g : Nat} : ∀ (vs : List Value) (o : Nat) (w : World), Kept (fun k => k = g) w (w.setCells g o vs)
 | [], _, _ => Kept.refl _ _
 | v :: r, o, w => (Kept.setCell (M := fun k => k = g) w ⟨g, o, none⟩ v rfl).trans (setCells_kept r (o + 1) _)
theorem setCells_size2 {g : Nat} : ∀ (vs : List Value) (o : Nat) (w : World), (w.setCells g o vs).heap.size = w.heap.size
 | [], _, _ => rfl
 | v :: r, o, w => (setCells_size2 r (o + 1) _).trans (by simp [World.setCell])
theorem copy_rows {w : World} {g ga m : Nat} {ds cs : Array Value} {t1 t2 : TypeId} (hg : Blk w g t1 ds) (hn : ds.size = m) (ha : Blk w ga t2 cs) (hc : cs.size = m) (h1 : ∀ v ∈ cs.toList, v.oneCell' = true) (sT ty : TypeId) :
  (Builtin.copy_ #[57, sT] ty #[.slice (some ⟨g, 0, none⟩) m m, .slice (some ⟨ga, 0, none⟩) m m]).run Tryz.prog w = .ok (goInt m) (w.setCells g 0 cs.toList) := by
 obtain ⟨i0, hi0, hz0, hz1, hz2⟩ := info_parts infoInts
 have hs : (Tryz.prog.info? 47).map (·.size) = some 1 := by rw [hi0]; simp [hz1]
 have hl : cs.toList.length = m := by simp [hc]
 have h := run_copy_cells (P := Tryz.prog) w 57 sT ty 47 g 0 m m ⟨ga, 0, none⟩ m m cs.toList Tryz.underlying57 hs (by rw [hl]; exact (Nat.min_self m).symm) (fun j v hj => by
   rw [show (⟨ga, 0, none⟩ : Addr).add j = ⟨ga, j, none⟩ by unfold Addr.add; split <;> simp_all]
   rw [ha.cell j]; simpa using hj)
  (fun j hj => by rw [Nat.zero_add, hg.cell j]; rw [hl] at hj; simp [hn, hj])
  (fun j hj => by rw [Nat.zero_add]; exact hg.frozen j) h1
 rw [hl] at h
 exact h
def KeptEnc (W0 : World) (m : Nat) (x : List (List Int) × Int) (args : Array Value) (Y : Foot) (A : World) : Prop :=
 ∃ gO T cs, args = #[.slice (some ⟨gO, 0, none⟩) m m, .int .i64 x.2] ∧ Y = (fun k => k = gO) ∧ Blk A gO T cs ∧ x.1.length = m ∧ RowsV W0 m cs x.1
theorem RowsV.one {W0 : World} {m : Nat} {cs : Array Value} {ys : List (List Int)} (h : RowsV W0 m cs ys) (hl : ys.length = m) : ∀ v ∈ cs.toList, v.oneCell' = true := by
 intro v hv
 obtain ⟨k, hk, rfl⟩ := List.getElem_of_mem hv
 have hk' : k < ys.length := by rw [hl, ← h.1]; simpa using hk
 obtain ⟨u, hu, A, n, c, rfl, _⟩ := h.2 k ys[k] (List.getElem?_eq_getElem hk')
 have : cs.toList[k]? = some (.slice A n c) := by rw [Array.getElem?_toList]; exact hu
 rw [List.getElem?_eq_getElem hk] at this
 injection this with this
 rw [this]; rfl
theorem eg_kept : Enters Tryz.prog 76 := enters_of Tryz.func76 (by kernel_rfl) rfl
theorem kept_call (gf : Nat) (lb : Array Value) (w : World) : Calls Tryz.prog 47 #[.func (.func gf) #[] lb] w fun e w' => e = .returned (.func (.func 76) #[] #[.pointer (some ⟨w.heap.size, 0, none⟩)]) ∧ w' = w.alloc (.cells #[.func (.func gf) #[] lb] 117) := by
 go_enter Tryz.func47, Tryz.ntmps47
 go_wp2
 go_ret
 exact ⟨rfl, rfl⟩
set_option maxRecDepth 100000 in
set_option maxHeartbeats 2000000 in
theorem kept_seq {W0 : World} {m gf gK : Nat} {lb : Array Value} (eg : ∀ args w, (callFunc gf args).run Tryz.prog w = .ok (.enter gf args) w) (hm1 : 1 ≤ m) (hm3 : m ≤ 3) {L : List (List (List Int) × Int)} {Inv : World → Prop} (hseq : SeqG Tryz.prog gf lb (LayEnc W0 m) L Inv) :
  SeqG Tryz.prog 76 #[.pointer (some ⟨gK, 0, none⟩)] (KeptEnc W0 m) L (fun A => Inv A ∧ ∃ T, Blk A gK T #[.func (.func gf) #[] lb]) := by
 intro lp O0 J Jx W hO0 hInv hJ hJx hR h0
 obtain ⟨hI0, TK, hKb⟩ := hInv W (Kept.refl _ _)
 have k0 := hKb.cell 0
 have hkl := hKb.lt
 have HINV := Lib.hid hInv
 have HR := Lib.hid hR
 have HJ0 := Lib.hid h0
 clear hInv hI0 hR h0 hKb
 rw [show (#[Value.func (.yield lp) #[] #[]] ++ #[Value.pointer (some ⟨gK, 0, none⟩)] : Array Value) = #[.func (.yield lp) #[] #[], .pointer (some ⟨gK, 0, none⟩)] from rfl]
 refine (callsIn_wide (n := 1)).1 ?_
 refine callsIn_of_wp_marks Tryz.func76 rfl trivial ?_ rfl
 simp only [Tryz.ntmps76, List.size_toArray, List.length_cons, List.length_nil, Nat.reduceAdd, Nat.reduceSub, Array.replicate_succ, Array.replicate_zero, List.push_toArray, List.append_toArray, List.nil_append, List.cons_append]
 gi_wp2_with fail
 obtain ⟨W1, hW1⟩ : ∃ W1, W.alloc (.cells #[.func (.yield lp) #[] #[]] 167) = W1 := ⟨_, rfl⟩
 have hk1 : Kept (fun _ => False) W W1 := by rw [← hW1]; exact Kept.alloc _ _ _
 have hs1 : W1.heap.size = W.heap.size + 1 := by rw [← hW1]; simp
 have hY1 : Blk W1 W.heap.size 167 #[.func (.yield lp) #[] #[]] := by rw [← hW1]; exact Blk.new _ _ _ rfl
 rw [hW1]
 clear hW1 k0 hkl
 have hbig : ∀ {A : World}, Kept (fun k => O0 k ∨ W1.heap.size ≤ k) W1 A → Kept (fun k => O0 k ∨ W.heap.size ≤ k) W A := fun hK => hk1.any.seq hK (fun i hi h => h.imp id (fun h => by omega))
 have hold : ∀ {A : World} {g : Nat} {t : TypeId} {cs : Array Value}, Blk W1 g t cs → W.heap.size ≤ g → Kept (fun k => O0 k ∨ W1.heap.size ≤ k) W1 A → Blk A g t cs := fun hB hg hK =>
  (hK.block _ hB.lt (fun h => h.elim (fun h => by have := hO0 _ h; omega) (fun h => by have := hB.lt; omega))).trans hB
 refine rangeFunc_outerG (m := 1) (gf := gf) (lb := lb) rfl eg hseq (fun x args Y A hE => by obtain ⟨_, gR, T, cs, rfl, _⟩ := hE; rfl) O0 J (fun c O A => c = .ret ∧ Jx O A) (fun k h => by have := hO0 k h; omega) (fun A hK => (HINV.out A (hbig hK)).1) hJ (fun c O A B h h1 h2 => ⟨h.1, hJx O A B h.2 h1 h2⟩) (hJ _ _ _ _ HJ0.out hO0 hk1.any) ?round ?done ?stop
 case round =>
  intro l' i x args Y O A hx hEnc hY hYl hj hlt hsub hK hnl hlA hWl hr1
  obtain ⟨rfl, gR, TR, cs, rfl, hBR, hxl, hRV⟩ := hEnc
  have hone := hRV.one hxl
  have hyA := hold hY1 (Nat.le_refl _) hK
  have hRl : gR ≠ l' := by
   rintro rfl
   obtain ⟨r1, hr1⟩ := hr1
   have := hr1.symm.trans hBR
   injection this with this
   cases this
  have hYl' : W.heap.size ≠ l' := by omega
  rw [fold2]
  simp only [List.setIfInBounds_toArray, List.set_cons_zero, List.set_cons_succ]
  gi_wp2
  refine ⟨Kept.refl _ _, fun A2 hK2 hs2 r2 hr2 => ?_⟩
  have hBR2 : Blk A2 gR TR cs := (hK2.block _ hBR.lt hRl).trans hBR
  have hyA2 : Blk A2 W.heap.size 167 #[.func (.yield lp) #[] #[]] := (hK2.block _ hyA.lt hYl').trans hyA
  have hj2 : J i O A2 := hJ _ _ _ _ hj hlt (hK2.mono fun k _ h hO => hnl (h ▸ hO))
  have hmk := run_make_row' (P := Tryz.prog) 57 47 (.slice none 0 0) 24 Tryz.underlying57 infoInts rfl .i64 .i64 m (by omega) (by omega)
  obtain ⟨A3, hA3⟩ : ∃ A3, A2.alloc (.cells (madeCells #[.slice none 0 0] m) 47) = A3 := ⟨_, rfl⟩
  have hB3 : Blk A3 A2.heap.size 47 (madeCells #[.slice none 0 0] m) := by rw [← hA3]; exact Blk.new _ _ _ rfl
  have hBR3 : Blk A3 gR TR cs := by rw [← hA3]; exact hBR2.alloc _
  have hcp : ∀ sT ty, (Builtin.copy_ #[57, sT] ty #[.slice (some ⟨A2.heap.size, 0, none⟩) m m, .slice (some ⟨gR, 0, none⟩) m m]).run Tryz.prog A3 = .ok (goInt m) (A3.setCells A2.heap.size 0 cs.toList) := fun sT ty => copy_rows hB3 (by rw [made_rep]; simp) hBR3 hRV.1 hone sT ty
  have hs3 : A3.heap.size = A2.heap.size + 1 := by rw [← hA3]; simp
  obtain ⟨gO, hgO⟩ : ∃ gO, A2.heap.size = gO := ⟨_, rfl⟩
  rw [hgO] at hB3 hcp hs3
  obtain ⟨A4, hA4⟩ : ∃ A4, A3.setCells gO 0 cs.toList = A4 := ⟨_, rfl⟩
  rw [hA4] at hcp
  have hB4 : Blk A4 gO 47 cs := by rw [← hA4]; exact setCells_whole hB3 (by rw [made_rep]; simp [hRV.1])
  have hs4 : A4.heap.size = gO + 1 := by rw [← hA4, setCells_size2, hs3]
  have hk24 : Kept (fun _ => False) A2 A4 := by
   rw [← hA4, ← hA3]
   exact Kept.seq (Kept.alloc (fun _ => False) A2 _) (setCells_kept cs.toList 0 _) (fun j hj e => by omega)
  have hy4 : Blk A4 W.heap.size 167 #[.func (.yield lp) #[] #[]] := (hk24.block _ hyA2.lt (fun h => h)).trans hyA2
  have hj4 : J i O A4 := hJ _ _ _ _ hj2 (fun k hk => by have := hlt k hk; omega) hk24.any
  have hK4 : Kept (fun k => O0 k ∨ W.heap.size ≤ k) W A4 := ((hbig hK).trans (hK2.mono fun k _ e => .inr (by omega))).trans hk24.any
  have hgOn : ¬ O gO := fun h => by have := hlt _ h; omega
  obtain ⟨fn, tmps, assign, body, hy, hRd⟩ := HR.out i x #[.slice (some ⟨gO, 0, none⟩) m m, .int .i64 x.2] (fun k => k = gO) O A4 hx ⟨gO, _, cs, rfl, rfl, hB4, hxl, hRV⟩ (fun k e => by subst e; exact ⟨hgOn, by omega, by omega⟩) hj4 (fun k hk => by have := hlt k hk; omega) (fun k hk => (hsub k hk).imp id (fun h => by omega)) hK4 0
  have HRD := Lib.hid hRd
  have HS2 := Lib.hid hs2
  have HS4 := Lib.hid hs4
  have HGO := Lib.hid hgO
  have HK24 := Lib.hid hk24
  have hmk2 := hmk A2
  rw [hA3, hgO] at hmk2
  have y0 := hy4.cell 0
  have hyl4 := hy4.lt
  clear hRd hs2 hs4 hgO hk24 hmk hB3 hBR3 hs3 hA3 hA4 hB4 hy4 hj4 hK4 hyA2 hBR2 hj2
  gi_wp2_with fail
  refine RoundIn.mono (F := Fence.wide.inRound l') HRD.out ?_
  clear HRD
  rintro e B ⟨O2, hO2, hKB, hcase⟩
  have HKB : Hid (Kept O A2 B) := Kept.seq (HK24.out.any) hKB (fun k _ h => h)
  have HOB : Hid (∀ k, O2 k → O k ∨ False ∨ (A.heap.size ≤ k ∧ k < B.heap.size)) := fun k hk => by
   have h1 := HS2.out
   have h2 := HS4.out
   have h3 := HGO.out
   have h4 := hKB.size
   rcases hO2 k hk with h | h | h
   ·exact .inl h
   ·exact .inr (.inr (by omega))
   exact .inr (.inr (by omega))
  clear hO2 hKB
  rcases hcase with ⟨rfl, hj'⟩ | ⟨rfl, hx'⟩
  ·have HJB := Lib.hid hj'
   clear hj'
   gi_wp2_with fail
   exact ⟨HKB.out, O2, HOB.out, HJB.out⟩
  have HXB := Lib.hid hx'
  clear hx'
  gi_wp2_with fail
  exact ⟨HKB.out, O2, HOB.out, rfl, HXB.out⟩
 case done =>
  rintro O W' D hj hO hK hD hnD hDb
  gi_wp2
  refine ⟨by simp, .inl ⟨_, _, rfl, run_takeDeferred hDb, ?_⟩⟩
  refine ⟨_, results_none rfl _ _ _, ⟨_, rfl⟩, (hbig hK).trans (Kept.putObj _ _ _ (.inr (by omega))), O, fun k h => (hO k h).imp id (fun h => ⟨by omega, by simpa using h.2⟩), .inl (hJ _ _ _ _ hj (fun k h => (hO k h).elim (fun h => by have := hO0 k h; have := hK.size; omega) (fun h => h.2)) (Kept.putObj _ _ _ hnD))⟩
 rintro cd O W' D ⟨rfl, hx⟩ hO hK hD hnD hDb
 gi_wp2
 refine ⟨by simp, .inl ⟨_, _, rfl, run_takeDeferred hDb, ?_⟩⟩
 refine ⟨_, results_none rfl _ _ _, ⟨_, rfl⟩, (hbig hK).trans (Kept.putObj _ _ _ (.inr (by omega))), O, fun k h => (hO k h).imp id (fun h => ⟨by omega, by simpa using h.2⟩), .inr (hJx _ _ _ hx (fun k h => (hO k h).elim (fun h => by have := hO0 k h; have := hK.size; omega) (fun h => h.2)) (Kept.putObj _ _ _ hnD))⟩
end Go.Proofs.YtdbfincinjoppaaGreat
