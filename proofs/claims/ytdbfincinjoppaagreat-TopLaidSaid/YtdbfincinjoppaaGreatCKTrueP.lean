/- A part of the proof that TopLaid always answers true. -/
import Derived.Test.YtdbfincinjoppaaGreatCKOut3
import Derived.Test.YtdbfincinjoppaaGreatCRegion4
import Derived.Test.YtdbfincinjoppaaGreatCTWidth
set_option linter.all false
namespace Go.Proofs.YtdbfincinjoppaaGreat
structure Truth7 (s : Shop) (k : Int) (tw : List (Int × Int)) : Prop where
 shrink : s.klo ≤ k ∧ k ≤ s.khi
 len : tw.length = s.moulds.length
 two : ∀ m, m < s.moulds.length → InM (s.moulds.getD m dMould) (tw.getD m (0, 0))
theorem mould_bd {s : Shop} (hk : OkS s) {m : Nat} (hm : m < s.moulds.length) : (1 ≤ (s.moulds.getD m dMould).slo ∧ (s.moulds.getD m dMould).slo ≤ (s.moulds.getD m dMould).shi ∧ (s.moulds.getD m dMould).shi ≤ 20000) ∧ (0 ≤ (s.moulds.getD m dMould).wlo ∧ (s.moulds.getD m dMould).wlo ≤ (s.moulds.getD m dMould).whi ∧ (s.moulds.getD m dMould).whi ≤ 20) ∧ 1 ≤ (s.moulds.getD m dMould).casts ∧ (s.moulds.getD m dMould).casts ≤ 8 := by
 have hx : s.moulds[m]? = some s.moulds[m] := List.getElem?_eq_getElem hm
 have hz := mouldE_zero hx (hk.mould hm)
 rw [getD_of hx]
 omega
theorem any_truth {s : Shop} (hk : OkS s) (xs : List Nat) : Truth7 s (anyS7 s xs) (anyT7 s xs) where
 shrink := amongC_bd hk.shrink.2.1
 len := anyK7_len _ _ _
 two := fun m hm => by
  have e : (anyT7 s xs).getD m (0, 0) = anyTwo7 (s.moulds.getD m dMould) xs m := by
   unfold anyT7 anyK7
   rw [List.getD_eq_getElem?_getD, List.getElem?_map, List.getElem?_range hm]
   rfl
  rw [e]
  obtain ⟨h1, h2, _⟩ := mould_bd hk hm
  have a1 := amongC_bd (n := turnL xs (2 * m + 1)) h1.2.1
  have a2 := amongC_bd (n := turnL xs (2 * m + 2)) h2.2.1
  exact ⟨a1.1, a1.2, a2.1, a2.2⟩
theorem truth_bd {s : Shop} {k : Int} {tw : List (Int × Int)} (hk : OkS s) (ht : Truth7 s k tw) : ∀ p ∈ tw, (1 ≤ p.1 ∧ p.1 ≤ 20000) ∧ 0 ≤ p.2 ∧ p.2 ≤ 20 := by
 intro p hp
 obtain ⟨m, hm, rfl⟩ := List.getElem_of_mem hp
 have hm2 : m < s.moulds.length := by rw [← ht.len]; exact hm
 have h := ht.two m hm2
 rw [getD_of (List.getElem?_eq_getElem hm)] at h
 obtain ⟨h1, h2, h3, h4⟩ := h
 obtain ⟨b1, b2, _⟩ := mould_bd hk hm2
 omega
theorem truth_k {s : Shop} {k : Int} {tw : List (Int × Int)} (hk : OkS s) (ht : Truth7 s k tw) : 0 ≤ k ∧ k ≤ 100 := by
 have := hk.shrink
 have := ht.shrink
 omega
def SeenIn (s : Shop) (k : Int) (tw : List (Int × Int)) (y : SeenC) : Prop := ∃ m c : Nat, y.mould = m ∧ y.cast = c ∧ m < s.moulds.length ∧ c < castsN s m ∧ 0 ≤ y.lo ∧ y.lo ≤ madeT k tw m c ∧ madeT k tw m c ≤ y.hi ∧ y.hi ≤ 20000
theorem madeT_bd {s : Shop} {k : Int} {tw : List (Int × Int)} (hk : OkS s) (ht : Truth7 s k tw) {m c : Nat} (hm : m < s.moulds.length) (hc : c ≤ 8) : 1 ≤ madeT k tw m c ∧ madeT k tw m c ≤ 20160 := by
 have h := ht.two m hm
 obtain ⟨h1, h2, h3, h4⟩ := h
 obtain ⟨b1, b2, _⟩ := mould_bd hk hm
 have := made7_bd (a := (tw.getD m (0, 0)).1) (w := (tw.getD m (0, 0)).2) (k := k) (c := (c : Int)) (by omega) (by omega) (by omega) (truth_k hk ht)
 exact this.2.2.2.2
theorem told_seen {s : Shop} {k : Int} {tw : List (Int × Int)} (hk : OkS s) (ht : Truth7 s k tw) (xs : List Nat) : ∀ r, ∀ y ∈ toldK7 s k tw xs r, SeenIn s k tw y
 | 0 => fun y hy => by simp [toldK7] at hy
 | r + 1 => fun y hy => by
  have ih := told_seen hk ht xs r
  unfold toldK7 at hy
  split at hy
  ·split at hy
   ·rename_i h20
    rcases List.mem_append.1 hy with hy | hy
    ·exact ih y hy
    rw [List.mem_singleton] at hy
    subst hy
    have hm : toldI s xs r < s.moulds.length := Nat.mod_lt _ (by have := hk.nm; omega)
    have hcs := castsN_bd hk hm
    have hc : toldC s xs r < castsN s (toldI s xs r) := Nat.mod_lt _ (by omega)
    have hb := madeT_bd hk ht hm (c := toldC s xs r) (by omega)
    have hM : toldM s k tw xs r = madeT k tw (toldI s xs r) (toldC s xs r) := rfl
    refine ⟨toldI s xs r, toldC s xs r, rfl, rfl, hm, hc, ?_⟩
    unfold toldOne
    dsimp only
    rw [hM] at h20 ⊢
    generalize madeT k tw (toldI s xs r) (toldC s xs r) = n at *
    omega
   exact ih y hy
  exact ih y hy
theorem toldL_seen {s : Shop} {k : Int} {tw : List (Int × Int)} (hk : OkS s) (ht : Truth7 s k tw) (xs : List Nat) : ∀ y ∈ toldL7 s k tw xs, SeenIn s k tw y := told_seen hk ht xs _
theorem toldL_len (s : Shop) (k : Int) (tw : List (Int × Int)) (xs : List Nat) : (toldL7 s k tw xs).length ≤ 6 := toldK7_le _ _ _ _ _
theorem seen_ok {s : Shop} {l : List SeenC} {k : Int} {tw : List (Int × Int)} (he : (check7 s).2.2 = 0) (hl : l.length ≤ 6) (h : ∀ y ∈ l, SeenIn s k tw y) : seen7 s l = (0, 0) := by
 refine seen7_ok he hl fun j hj => ?_
 have hx := List.getElem?_eq_getElem hj
 obtain ⟨m, c, e1, e2, h1, h2, h3, h4, h5, h6⟩ := h _ (List.getElem_mem hj)
 have hcs := castsN_bd (okS_of he) h1
 refine seenE_of hx ⟨by omega, by omega⟩ ⟨by omega, ?_⟩ ⟨h3, by omega, h6⟩
 rw [e1, e2, Int.toNat_natCast]
 omega
theorem truth_ok {s : Shop} {l : List SeenC} {k : Int} {tw : List (Int × Int)} (h : ∀ y ∈ l, SeenIn s k tw y) (m : Nat) : twoOk7 l m k (tw.getD m (0, 0)).1 (tw.getD m (0, 0)).2 = true := by
 rw [twoOk_iff]
 intro y hy e
 obtain ⟨m', c, e1, e2, h1, h2, h3, h4, h5, h6⟩ := h y hy
 obtain rfl : m' = m := by omega
 rw [e2]
 exact ⟨h4, h5⟩
theorem truth_two {s : Shop} {l : List SeenC} {k : Int} {tw : List (Int × Int)} (hk : OkS s) (ht : Truth7 s k tw) (h : ∀ y ∈ l, SeenIn s k tw y) {m : Nat} (hm : m < s.moulds.length) : tw.getD m (0, 0) ∈ twosC s l m k :=
 (twos_mem hk hm).2 ⟨ht.two m hm, truth_ok h m⟩
theorem truth_known {s : Shop} {l : List SeenC} {k : Int} {tw : List (Int × Int)} (hk : OkS s) (ht : Truth7 s k tw) (h : ∀ y ∈ l, SeenIn s k tw y) : k ∈ known7 s l :=
 known_iff.2 ⟨ht.shrink, fun m hm => ⟨_, truth_two hk ht h hm⟩⟩
theorem truth_size {s : Shop} {l : List SeenC} {k : Int} {tw : List (Int × Int)} (hk : OkS s) (ht : Truth7 s k tw) (h : ∀ y ∈ l, SeenIn s k tw y) {m : Nat} (hm : m < s.moulds.length) (c : Nat) : (size7 s l m c).1 ≤ madeT k tw m c ∧ madeT k tw m c ≤ (size7 s l m c).2 :=
 (size_at hm (List.ne_nil_of_mem (truth_known hk ht h))).2.2 _ (made_mem.2 ⟨k, truth_known hk ht h, _, truth_two hk ht h hm, rfl⟩)
theorem sizesR_in {s : Shop} {l : List SeenC} {m c : Nat} (e : (seen7 s l).2 = 0) (hk : OkS s) (hm : m < s.moulds.length) (hc : c < castsN s m) (hne : known7 s l ≠ []) : sizesR s l m c = (size7 s l m c, 0) := by
 have hcs := castsN_bd hk hm
 have ht : there7 s (m : Int) (c : Int) = true := by
  unfold there7
  simp only [inB, Bool.and_eq_true, decide_eq_true_eq, Int.toNat_natCast]
  omega
 rw [sizesR_n e, ht, if_neg (by simp), if_neg hne, Int.toNat_natCast]
open Go.RowKit
theorem litFlat_get {α β : Type} {f : α → List β} {K : Nat} : ∀ {l : List α}, (∀ x ∈ l, (f x).length = K) → ∀ {n j : Nat} {v : α} {x : β}, l[n]? = some v → (f v)[j]? = some x → (l.flatMap f)[n * K + j]? = some x := by
 intro l
 induction l with
 | nil => intro _ n j v x h; simp at h
 | cons y l ih =>
  intro hK n j v x hv hx
  have hjK : j < K := by
   have h1 : j < (f v).length := by
    obtain ⟨h, _⟩ := List.getElem?_eq_some_iff.1 hx; exact h
   rw [hK v (List.mem_of_getElem? hv)] at h1; exact h1
  rw [List.flatMap_cons]
  cases n with
  | zero =>
   simp at hv; subst hv
   rw [Nat.zero_mul, Nat.zero_add, List.getElem?_append_left (by rw [hK _ List.mem_cons_self]; exact hjK)]
   exact hx
  | succ n =>
   simp at hv
   have hy := hK y List.mem_cons_self
   rw [List.getElem?_append_right (by rw [hy, Nat.succ_mul]; omega)]
   rw [hy, show (n + 1) * K + j - K = n * K + j by rw [Nat.succ_mul]; omega]
   exact ih (fun x hx => hK x (List.mem_cons_of_mem _ hx)) hv hx
theorem litFlat_len {α β : Type} {f : α → List β} {K : Nat} : ∀ {l : List α}, (∀ x ∈ l, (f x).length = K) → (l.flatMap f).length = l.length * K := by
 intro l
 induction l with
 | nil => intro _; simp
 | cons y l ih => intro h; rw [List.flatMap_cons, List.length_append, h y List.mem_cons_self, ih (fun x hx => h x (List.mem_cons_of_mem _ hx)), List.length_cons, Nat.succ_mul]; omega
theorem rows_news {α : Type} {R : Rd α} {m : Nat} (g : R.Good m) {S : Foot} {w : World} {ad : Addr} {q : Nat} {ys : List α} (h : SliceOf R m S w (some ad) q ys) :
  ∃ news : List Value, news.length = q * m ∧ (∀ j u, news[j]? = some u → w.cell? (ad.add j) = some u) ∧ (∀ u ∈ news, u.oneCell' = true) ∧ ∀ (k : Nat) y, ys[k]? = some y → ∃ vs, R S w y vs ∧ ∀ (j : Nat) u, vs[j]? = some u → news[k * m + j]? = some u := by
 have hex : ∀ k : Nat, ∃ vs : List Value, ∀ y, ys[k]? = some y → R S w y vs ∧ ∀ (j : Nat) u, vs[j]? = some u → w.cell? (ad.add (k * m + j)) = some u := fun k => by
  cases hy : ys[k]? with
  | none => exact ⟨[], fun y h => by cases h⟩
  | some y =>
   obtain ⟨b, off, vs, hA, _, _, hR, hc⟩ := h.2.2 k y hy
   injection hA with hA
   subst hA
   refine ⟨vs, fun y' hy' => ?_⟩
   injection hy' with hy'
   subst hy'
   refine ⟨hR, fun j u hu => ?_⟩
   have hadd : (⟨b, off, none⟩ : Addr).add (k * m + j) = ⟨b, off + k * m + j, none⟩ := by
    have : ∀ n, (⟨b, off, none⟩ : Addr).add n = ⟨b, off + n, none⟩ := fun n => by unfold Addr.add; split <;> simp_all
    rw [this, Nat.add_assoc]
   rw [hadd]
   exact hc j u hu
 obtain ⟨F, hF⟩ := Classical.axiomOfChoice hex
 have hys := h.1
 have hk : ∀ k, k < q → ∃ y, ys[k]? = some y := fun k hk => ⟨ys[k]'(by omega), List.getElem?_eq_getElem (by omega)⟩
 have hlen : ∀ k ∈ List.range q, (F k).length = m := fun k hk' => by
  obtain ⟨y, hy⟩ := hk k (List.mem_range.1 hk')
  exact g.len (hF k y hy).1
 refine ⟨(List.range q).flatMap F, by rw [litFlat_len hlen, List.length_range], fun j u hu => ?_, fun u hu => ?_, fun k y hy => ?_⟩
 ·have hj : j < q * m := by have := of_getq' hu; rw [litFlat_len hlen, List.length_range] at this; exact this
  have hm : 0 < m := Nat.pos_of_ne_zero (fun e => by subst e; simp at hj)
  have hkq : j / m < q := (Nat.div_lt_iff_lt_mul hm).2 hj
  obtain ⟨y, hy⟩ := hk _ hkq
  have hr : j % m < (F (j / m)).length := by rw [g.len (hF _ y hy).1]; exact Nat.mod_lt _ hm
  have h1 := litFlat_get hlen (List.getElem?_range hkq) (List.getElem?_eq_getElem hr)
  have hjm : j / m * m + j % m = j := by rw [Nat.mul_comm]; exact Nat.div_add_mod j m
  rw [hjm, hu] at h1
  injection h1 with h1
  have := (hF _ y hy).2 (j % m) _ (List.getElem?_eq_getElem hr)
  rw [hjm] at this
  rw [this, h1]
 ·obtain ⟨k, hk', hu⟩ := List.mem_flatMap.1 hu
  obtain ⟨y, hy⟩ := hk k (List.mem_range.1 hk')
  exact g.one (hF k y hy).1 u hu
 have hkq : k < q := by have := of_getq' hy; omega
 exact ⟨F k, (hF k y hy).1, fun j u hu => litFlat_get hlen (List.getElem?_range hkq) hu⟩
theorem wp_append_lit {P : Program} {o : Oper} {a : Act} {K : Act → World → Prop} {Q : Exit → Act → World → Prop} (w : World) (s x : Operand) (t : TypeId)
  (ho : o.op = .call { callee := .builtin .append, args := #[s, x], argTypes := #[t, t] })
  {α : Type} {R : Rd α} {m : Nat} (g : R.Good m) {T S : Foot} (base : Nat) (e : TypeId) (i : TypeInfo) (z : Value) (bytes : Nat) (ht : P.underlying t = some (.slice e)) (hi : P.info? e = some i) (hz : i.zero = some z)
  (hsize : i.size = m) (hby : i.bytes = bytes) (hzs : z.cells.size = m) (hsz : 0 < m)
  (gl : Nat) (hs : a.eval s = .slice (some ⟨gl, 0, none⟩) 0 0) (hBl : Blk w gl e #[]) (hgl : base ≤ gl)
  (A : Option Addr) (q c : Nat) (ys : List α) (hx : a.eval x = .slice A q c) (hR : SliceOf R m T w A q ys) (hconv : ∀ y vs, R T w y vs → R S w y vs)
  (h63 : q ≤ maxLen) (hbytes : q * bytes ≤ 140737488355328) (hbase : base ≤ w.heap.size) (hS : ¬ S w.heap.size) (hSl : ¬ S gl)
  (h : ∀ A' cap' w', OwnL R m S w' base e (.slice A' q cap') ys → Below w.heap.size w w' → K (a.put o.dst (.slice A' q cap')) w') : o.wp P a w K Q := by
 have hown : w.ownsRow base e m (.slice (some ⟨gl, 0, none⟩) 0 0) 0 [] := ⟨by simp, .inr ⟨gl, 0, #[], rfl, hgl, hBl, Nat.le_refl _, Nat.zero_le _, by simp, by simp⟩⟩
 rcases Nat.eq_zero_or_pos q with hq | hq
 ·subst hq
  obtain rfl : ys = [] := List.eq_nil_of_length_eq_zero hR.1
  have hrun : (Builtin.append_ #[t, t] o.type #[.slice (some ⟨gl, 0, none⟩) 0 0, .slice A 0 c]).run P w = .ok (.slice (some ⟨gl, 0, none⟩) 0 0) w := by
   cases A with
   | none => simp [Builtin.append_, run_underlying ht, sizeOf, typeInfo, hi, Builtin.lenOf, Builtin.firstCells, storeCells]
   | some ad => simp [Builtin.append_, run_underlying ht, sizeOf, typeInfo, hi, Builtin.lenOf, Builtin.firstCells, storeCells, loadCells, loadCellsFrom]
  unfold Oper.wp execOp
  simp only [ho, resolve, invoke, builtin, Sem.run_bind, Sem.run_pure, Result.andThen_ok, List.map_toArray, List.map_cons, List.map_nil, hs, hx, hrun]
  refine h _ _ w ⟨fun k hk => ?_, [], hown, fun k y hy => by simp at hy⟩ (Below.refl _ _)
  have : gl = k := by simpa [Value.ownBlock] using hk
  subst this
  exact hSl
 obtain ⟨ad, rfl⟩ : ∃ ad, A = some ad := by
  obtain ⟨b, off, _, hA, _⟩ := hR.2.2 0 (ys[0]'(by rw [hR.1]; exact hq)) (List.getElem?_eq_getElem _)
  exact ⟨_, hA⟩
 obtain ⟨news, hl, hnews, h1, hrd⟩ := rows_news g hR
 have hsmall : q ≤ 9223372036854775807 := by simp only [maxLen] at h63; omega
 obtain ⟨v', w', hr, hown', _, _, hat⟩ := run_append_own_at (P := P) w base t o.type e i z m bytes ht hi hz hsize hby hzs hsz _ 0 [] hown ad q c news hl hnews h1 (by omega) (by rw [Nat.zero_add]; exact hbytes) hbase
 have hr2 := run_append_grow (P := P) (ty := o.type) w t e i z ht hi hz ⟨gl, 0, none⟩ 0 0 [] (by simp) (fun j v hv => by simp at hv) ad q c news (by rw [hsize]; exact hl) hnews (by omega) (by omega) (growslice_fits (by omega) (by rw [Nat.zero_add, hby]; exact hbytes))
 have hrr := hr.symm.trans hr2
 injection hrr with e1 e2
 have hb : Below w.heap.size w w' := by rw [e2]; exact bl_alloc (Below.refl _ _).drew _ (Nat.le_refl _)
 unfold Oper.wp execOp
 simp only [ho, resolve, invoke, builtin, Sem.run_bind, Sem.run_pure, Result.andThen_ok, List.map_toArray, List.map_cons, List.map_nil, hs, hx, hr]
 rw [Nat.zero_add] at e1
 rw [e1] at hown' ⊢
 refine h _ _ w' ⟨fun k hk => ?_, news, by rw [hR.1]; simpa using hown', fun k y hy => ?_⟩ hb
 ·have : w.heap.size = k := by simpa [Value.ownBlock] using hk
  subst this
  exact hS
 obtain ⟨vs, hv, hc⟩ := hrd k y hy
 exact ⟨vs, g.keep (hconv y vs hv) (Keeps.below hb), hc⟩
theorem OwnL.blk {α : Type} {R : Rd α} {m : Nat} {S : Foot} {w : World} {base : Nat} {e : TypeId} {v : Value} {xs : List α} (h : OwnL R m S w base e v xs) {k : Nat} (hk : v.ownBlock = some k) : ∃ cur, Blk w k e cur := by
 obtain ⟨_, cells, ho, _⟩ := h
 rcases ho.2 with ⟨e, _⟩ | ⟨gb, cap, cur, e, _, hgg, _⟩
 ·subst e; simp [Value.ownBlock] at hk
 subst e
 have : gb = k := by simpa [Value.ownBlock] using hk
 subst this
 exact ⟨cur, hgg⟩
open Go.RowKit Go.Shelf
structure Asked (h : Hall) (l : List Seen) (n m : Nat) (row : Int) (tl : List Int) (r : Nat) : Prop where
 ok : OkH h
 ag : agree8 h l = true
 row : row = (r : Int)
 lt : r < m
 k8 : tl.length ≤ 8
 tl : ∀ i ∈ tl, 0 ≤ i ∧ i < n
theorem asked_ok {h : Hall} {l : List Seen} {n m : Nat} {row : Int} {tl : List Int} (e : asked8 h l row tl = 0) (hn : h.tiles.length = n) (hm : h.rows.length = m) : ∃ r, Asked h l n m row tl r := by
 obtain ⟨h1, ⟨h2, h3⟩, h4, h5⟩ := asked_zero e
 obtain ⟨hc0, _, _⟩ := seen_zero h1
 have hk := okH_of hc0
 obtain ⟨r, rfl⟩ := Int.eq_ofNat_of_zero_le h2
 have hr : r < h.rows.length := by omega
 obtain ⟨g1, g2, _⟩ := tilesE_zero h4
 have hx : h.rows[r]? = some ⟨(h.rows[r]).frame, (h.rows[r]).swell, (h.rows[r]).places⟩ := List.getElem?_eq_getElem hr
 obtain ⟨_, _, _, _, _, f6⟩ := rowE_zero hx (hk.row hr)
 have := hk.nt
 rw [Int.toNat_natCast, getD_of hx] at g1
 dsimp only at g1
 exact ⟨r, hk, h5, rfl, by omega, by omega, by rw [← hn]; exact g2⟩
theorem gapR_bad {h : Hall} {l : List Seen} {row : Int} {tl : List Int} (e : asked8 h l row tl ≠ 0) : gapR h l row tl = ((0, 0), asked8 h l row tl) := by rw [gapR, if_pos e]
theorem gapR_ok {h : Hall} {l : List Seen} {r : Nat} {tl : List Int} (e : asked8 h l r tl = 0) : gapR h l r tl = (gap8 h l r tl, 0) := by rw [gapR, if_neg (by simp [e])]; rfl
set_option maxRecDepth 100000 in
set_option maxHeartbeats 1000000 in
theorem tgap_any {S : Foot} {A B C T : Option Addr} {n ca m cb q cc k c : Nat} {h : Hall} {l : List Seen} {alo ahi most : Int} {tl : List Int} (row : Int) (w : World) (g : HallAt (fun _ => True) w A n B m h) (gs : Seens (fun _ => True) w C q l) (ht : Ints S w T k tl) (hca : n ≤ ca) (h1 : h.alo = alo) (h2 : h.ahi = ahi) (h3 : h.most = most) :
  Calls Tryz.prog 34 #[.agg #[.int .i64 alo, .int .i64 ahi, .int .i64 most, .slice A n ca, .slice B m cb], .slice C q cc, .int .i64 row, .slice T k c] w fun e w' =>
   e = .returned (.tuple #[.agg #[.int .i64 (gapR h l row tl).1.1, .int .i64 (gapR h l row tl).1.2], .int .i64 (gapR h l row tl).2]) ∧ Below w.heap.size w w' := by
 obtain ⟨W, hW⟩ : ∃ W, (w.alloc (.cells #[.int .i64 alo, .int .i64 ahi, .int .i64 most, .slice A n ca, .slice B m cb] 30)).alloc (.cells #[.int .i64 0, .int .i64 0] 23) = W := ⟨_, rfl⟩
 have X8 : Blk W (w.heap.size + 1) 23 #[.int .i64 0, .int .i64 0] := by rw [← hW]; exact Blk.new _ _ _ (by simp)
 have hBW : Below w.heap.size w W := by rw [← hW]; exact bl_alloc (bl_alloc (Below.refl _ _) _ (Nat.le_refl _)) _ (Nat.le_refl _)
 have hc : HallAt (fun _ => True) W A n B m h := g.keep (Keeps.below hBW)
 have hs : Seens (fun _ => True) W C q l := gs.keep SeenR.good (Keeps.below hBW)
 have htW : Ints S W T k tl := ht.keep IntR.good (Keeps.below hBW)
 have hWs : w.heap.size ≤ W.heap.size := hBW.size
 have HW := Lib.hid hW
 have Hn := Lib.hid hc.ts.len
 have Hm := Lib.hid hc.rs.len
 have Hk := Lib.hid ht.len
 clear hW g gs
 go_enter Tryz.func34, Tryz.ntmps34
 go_wp2_with fail
 rw [HW.out]
 refine (topen_any row W hc hs htW hca h1 h2 h3).mono ?_
 rintro e W1 ⟨b1, p, rfl, hbx⟩
 have B1 : Below w.heap.size w W1 := hBW.trans (b1.mono hWs)
 have Y1 := X8.bl b1
 clear X8
 by_cases he : asked8 h l row tl = 0
 ·obtain ⟨gh, rfl, hbox⟩ := hbx he
  obtain ⟨r, ha⟩ := asked_ok he Hn.out Hm.out
  have hrow := ha.row
  subst hrow
  have HR := Lib.hid (gapR_ok he)
  have htW1 := htW.keep IntR.good (Keeps.below b1)
  have HA := Lib.hid ha
  rw [he]
  clear he hbx ha
  go_wp2_with fail
  refine (gap_any W1 hbox HA.out.ok HA.out.ag HA.out.lt htW1 (by rw [← Hk.out]; exact HA.out.k8) HA.out.tl).mono ?_
  rintro e W2 ⟨rfl, b2⟩
  have B2 : Below w.heap.size w W2 := bl_call B1 b2 (Nat.le_refl _)
  have Y3 := Y1.bl b2
  have y0 := Y3.cell 0
  have y1 := Y3.cell 1
  have fy0 := Y3.frozen 0
  have fy1 := Y3.frozen 1
  have hyl := Y3.lt
  clear hbox htW1 b2
  go_wp2_with fail
  exact bodyPost_ret (ret_span rfl rfl rfl (Y3.set2 _ _).c0 (Y3.set2 _ _).c1) rfl ⟨by rw [HR.out], bl_set (bl_set B2 (by dsimp only; omega) _) (by dsimp only; omega) _⟩
 have HR := Lib.hid (gapR_bad he)
 have heb : (asked8 h l row tl != 0) = true := by simpa using he
 have y0 := Y1.cell 0
 have y1 := Y1.cell 1
 have fy0 := Y1.frozen 0
 have fy1 := Y1.frozen 1
 have hyl := Y1.lt
 clear he hbx
 go_wp2_with fail
 exact bodyPost_ret (ret_span rfl rfl rfl (Y1.set2 _ _).c0 (Y1.set2 _ _).c1) rfl ⟨by rw [HR.out], bl_set (bl_set B1 (by dsimp only; omega) _) (by dsimp only; omega) _⟩
theorem whyR_bad {h : Hall} {l : List Seen} {row : Int} {tl : List Int} (e : asked8 h l row tl ≠ 0) : whyR h l row tl = (0, 0, asked8 h l row tl) := by rw [whyR, if_pos e]
theorem whyR_ok {h : Hall} {l : List Seen} {r : Nat} {tl : List Int} (e : asked8 h l r tl = 0) : whyR h l r tl = match whyUpto h l r tl (h.ahi - h.alo + 1).toNat with
 | some (n, e) => (e, h.alo + n, 0)
 | none => (0, 0, 0) := by rw [whyR, if_neg (by simp [e])]; rfl
set_option maxRecDepth 100000 in
set_option maxHeartbeats 1000000 in
theorem twhy_any {S : Foot} {A B C T : Option Addr} {n ca m cb q cc k c : Nat} {h : Hall} {l : List Seen} {alo ahi most : Int} {tl : List Int} (row : Int) (w : World) (g : HallAt (fun _ => True) w A n B m h) (gs : Seens (fun _ => True) w C q l) (ht : Ints S w T k tl) (hca : n ≤ ca) (h1 : h.alo = alo) (h2 : h.ahi = ahi) (h3 : h.most = most) :
  Calls Tryz.prog 36 #[.agg #[.int .i64 alo, .int .i64 ahi, .int .i64 most, .slice A n ca, .slice B m cb], .slice C q cc, .int .i64 row, .slice T k c] w fun e w' =>
   e = .returned (.tuple #[.int .i64 (whyR h l row tl).1, .int .i64 (whyR h l row tl).2.1, .int .i64 (whyR h l row tl).2.2]) ∧ Below w.heap.size w w' := by
 obtain ⟨W, hW⟩ : ∃ W, w.alloc (.cells #[.int .i64 alo, .int .i64 ahi, .int .i64 most, .slice A n ca, .slice B m cb] 30) = W := ⟨_, rfl⟩
 have X8 : Blk W w.heap.size 30 #[.int .i64 alo, .int .i64 ahi, .int .i64 most, .slice A n ca, .slice B m cb] := by rw [← hW]; exact Blk.new _ _ _ rfl
 have hBW : Below w.heap.size w W := by rw [← hW]; exact bl_alloc (Below.refl _ _) _ (Nat.le_refl _)
 have hc : HallAt (fun _ => True) W A n B m h := g.keep (Keeps.below hBW)
 have hs : Seens (fun _ => True) W C q l := gs.keep SeenR.good (Keeps.below hBW)
 have htW : Ints S W T k tl := ht.keep IntR.good (Keeps.below hBW)
 have hWs : w.heap.size ≤ W.heap.size := hBW.size
 have HW := Lib.hid hW
 have Hn := Lib.hid hc.ts.len
 have Hm := Lib.hid hc.rs.len
 have Hk := Lib.hid ht.len
 clear hW g gs
 go_enter Tryz.func36, Tryz.ntmps36
 go_wp2_with fail
 rw [HW.out]
 refine (topen_any row W hc hs htW hca h1 h2 h3).mono ?_
 rintro e W1 ⟨b1, p, rfl, hbx⟩
 have B1 : Below w.heap.size w W1 := hBW.trans (b1.mono hWs)
 have Y1 := X8.bl b1
 clear X8
 by_cases he : asked8 h l row tl = 0
 ·obtain ⟨gh, rfl, hbox⟩ := hbx he
  obtain ⟨r, ha⟩ := asked_ok he Hn.out Hm.out
  have hrow := ha.row
  subst hrow
  have HR := Lib.hid (whyR_ok he)
  have htW1 := htW.keep IntR.good (Keeps.below b1)
  have HA := Lib.hid ha
  rw [he]
  obtain ⟨g1, g2, g3, g4⟩ := ha.ok.air
  obtain ⟨a0, ha0⟩ : ∃ a0 : Nat, h.alo = a0 := ⟨h.alo.toNat, by omega⟩
  obtain ⟨a1, ha1⟩ : ∃ a1 : Nat, h.ahi = a1 := ⟨h.ahi.toNat, by omega⟩
  obtain ⟨d, hd⟩ : ∃ d : Nat, a1 + 1 = a0 + d := ⟨a1 + 1 - a0, by omega⟩
  have hcall : Hid (∀ (V : World) (a : Nat), Below W1.heap.size W1 V → a ≤ 40 → Calls Tryz.prog 66 #[.pointer (some ⟨gh, 0, none⟩), .int .i64 r, .slice T k c, .int .i64 a] V fun e w' =>
   e = .returned (.agg #[.int .i64 (at8 h l r tl a).1, .int .i64 (at8 h l r tl a).2]) ∧ Below V.heap.size V w') :=
   fun V a hb ha => at_any V (hbox.keep hb) HA.out.ok HA.out.ag HA.out.lt (htW1.keep IntR.good (Keeps.below hb)) (by rw [← Hk.out]; exact HA.out.k8) HA.out.tl ha
  have hwhy : Hid (∀ (V : World) (lo hi : Int), Below W1.heap.size W1 V → Calls Tryz.prog 65 #[.pointer (some ⟨gh, 0, none⟩), .agg #[.int .i64 lo, .int .i64 hi]] V fun e w' => e = .returned (.int .i64 (wrong8 h.most (lo, hi))) ∧ Below V.heap.size V w') :=
   fun V lo hi hb => why_any lo hi V (hbox.keep hb)
  have hw1 : IntKind.i64.wrap ((a1 : Int) - a0) = (a1 : Int) - a0 := by rw [IntKind.wrap_i64]; omega
  have hw2 : IntKind.i64.wrap ((a1 : Int) - a0 + 1) = (d : Int) := by rw [IntKind.wrap_i64]; omega
  have HR2 : Hid (whyR h l r tl = match firstErr (fun i => wrong8 h.most (at8 h l r tl ((a0 + i : Nat) : Int))) d with
   | some (i, e) => (e, ((a0 + i : Nat) : Int), 0)
   | none => (0, 0, 0)) := by
   have e1 : (h.ahi - h.alo + 1).toNat = d := by omega
   rw [Hid, HR.out, whyUpto, e1, ha0]
   simp only [Int.natCast_add]
  have hd41 : a0 + d ≤ 41 := by omega
  have y0 : W1.cell? ⟨w.heap.size, 0, none⟩ = some (.int .i64 a0) := by rw [← ha0, h1]; exact Y1.cell 0
  have y1 : W1.cell? ⟨w.heap.size, 1, none⟩ = some (.int .i64 a1) := by rw [← ha1, h2]; exact Y1.cell 1
  have Y0 := Lib.hid y0
  have HB1 := Lib.hid B1
  have hyl := Y1.lt
  clear he hbx ha hbox htW1 HR g1 g2 g3 g4 ha0 ha1 hd B1
  go_wp2_with fail
  clear y0 y1
  go_loopw [8, 9, 10, 12, 32] (fun _ _ _ _ i' wr => ∃ j : Nat, i' = .int .i64 j ∧ j ≤ d ∧ Hid (Below W1.heap.size W1 wr) ∧ Hid (∀ i, i < j → wrong8 h.most (at8 h l r tl ((a0 + i : Nat) : Int)) = 0)) (fun _ _ _ _ i' _ => d - (intOf i').toNat)
  case atStart => exact ⟨0, rfl, Nat.zero_le _, Below.refl _ _, fun i hi => by omega⟩
  case round =>
   obtain ⟨j, rfl, hj, HB, HZ⟩ := hrel
   by_cases hlt : j < d
   ·have hji : (j : Int) < d := by omega
    have y0 := getc HB.out Y0.out
    have hyl2 : w.heap.size < wr.heap.size := by have := HB.out.size; omega
    have hw3 : IntKind.i64.wrap ((a0 : Int) + (j : Int)) = ((a0 + j : Nat) : Int) := by rw [IntKind.wrap_i64]; omega
    go_wp2_with fail
    rw [show (a0 : Int) + (j : Int) = ((a0 + j : Nat) : Int) by omega]
    refine (hcall.out wr (a0 + j) HB.out (by omega)).mono ?_
    rintro e W2 ⟨rfl, b2⟩
    have HB2 : Hid (Below W1.heap.size W1 W2) := bl_call HB.out b2 (Nat.le_refl _)
    have HV : Hid (∀ V, Below W1.heap.size W1 V → Calls Tryz.prog 65 #[.pointer (some ⟨gh, 0, none⟩), .agg #[.int .i64 (at8 h l r tl ((a0 + j : Nat) : Int)).1, .int .i64 (at8 h l r tl ((a0 + j : Nat) : Int)).2]] V fun e w' => e = .returned (.int .i64 (wrong8 h.most (at8 h l r tl ((a0 + j : Nat) : Int)))) ∧ Below V.heap.size V w') := fun V hb => hwhy.out V _ _ hb
    clear b2 y0
    go_wp2_with fail
    refine (HV.out W2 HB2.out).mono ?_
    rintro e W3 ⟨rfl, b3⟩
    have HB3 : Hid (Below W1.heap.size W1 W3) := bl_call HB2.out b3 (Nat.le_refl _)
    obtain ⟨v, hv⟩ : ∃ v, wrong8 h.most (at8 h l r tl ((a0 + j : Nat) : Int)) = v := ⟨_, rfl⟩
    rw [hv]
    by_cases hz : v = 0
    ·have hzb : (v != 0) = false := by rw [hz]; rfl
     have HZ2 : Hid (∀ i, i < j + 1 → wrong8 h.most (at8 h l r tl ((a0 + i : Nat) : Int)) = 0) := fun i hi => by
      by_cases e : i = j
      ·rw [e, hv, hz]
      exact HZ.out i (by omega)
     clear hv hz b3 hw3
     go_wp2_with fail
     go_roundw
     case rel => exact ⟨j + 1, by go_num, by omega, HB3.out, HZ2.out⟩
     case measure => simp [intOf]; omega
    have hzb : (v != 0) = true := by simpa using hz
    have HV2 := Lib.hid hv
    have HNZ := Lib.hid hz
    have HRR : Hid (whyR h l r tl = (v, ((a0 + j : Nat) : Int), 0)) := by
     rw [Hid, HR2.out, firstErr_some hlt HZ.out (by rw [hv]; exact hz), hv]
    have y0 := getc HB3.out Y0.out
    have hyl3 : w.heap.size < W3.heap.size := by have := HB3.out.size; omega
    clear hv hz b3
    go_wp2_with fail
    go_quiet (fail)
    go_wp2_with fail
    go_ret3
    exact ⟨by rw [HRR.out]; rfl, bl_drewN (bl_call HB1.out HB3.out (Nat.le_refl _)) _⟩
   obtain rfl : j = d := by omega
   have HRR : Hid (whyR h l r tl = (0, 0, 0)) := by
    rw [Hid, HR2.out, firstErr_none HZ.out]
   go_wp2_with fail
   go_ret3
   exact ⟨by rw [HRR.out]; rfl, bl_call HB1.out HB.out (Nat.le_refl _)⟩
 have HR := Lib.hid (whyR_bad he)
 have heb : (asked8 h l row tl != 0) = true := by simpa using he
 clear he hbx
 go_wp2_with fail
 go_ret3
 exact ⟨by rw [HR.out]; rfl, B1⟩
end Go.Proofs.YtdbfincinjoppaaGreat
