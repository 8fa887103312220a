/- append of the rows of a slice to a literal of none (rows of more than one cell), and a number of a row set. Nothing of a program stands here but the layout of rows. -/
import Derived.Test.YtpbimgafafkjgaaCTAirPs
import Derived.Test.YtpbimgafafkjgaaCTOutHs
import Derived.Test.YtpbimgafafkjgaaCTRefsO
import Derived.Test.YtpbimgafafkjgaaCTilePure2
set_option linter.unusedVariables false
set_option linter.unusedSimpArgs false
set_option linter.all false
namespace Go.Proofs.Ytpbimgafafkjgaa
open Go.RowKit

theorem litFlat_get {α β : Type} {f : α → List β} {K : Nat} : ∀ {l : List α}, (∀ x ∈ l, (f x).length = K) → ∀ {n j : Nat} {v : α} {x : β}, l[n]? = some v → (f v)[j]? = some x → (l.flatMap f)[n * K + j]? = some x := by
  intro l
  induction l with
  | nil => intro _ n j v x h; simp at h
  | cons y l ih =>
    intro hK n j v x hv hx
    have hjK : j < K := by
      have h1 : j < (f v).length := by
        obtain ⟨h, _⟩ := List.getElem?_eq_some_iff.1 hx; exact h
      rw [hK v (List.mem_of_getElem? hv)] at h1; exact h1
    rw [List.flatMap_cons]
    cases n with
    | zero =>
      simp at hv; subst hv
      rw [Nat.zero_mul, Nat.zero_add, List.getElem?_append_left (by rw [hK _ List.mem_cons_self]; exact hjK)]
      exact hx
    | succ n =>
      simp at hv
      have hy := hK y List.mem_cons_self
      rw [List.getElem?_append_right (by rw [hy, Nat.succ_mul]; omega)]
      rw [hy, show (n + 1) * K + j - K = n * K + j by rw [Nat.succ_mul]; omega]
      exact ih (fun x hx => hK x (List.mem_cons_of_mem _ hx)) hv hx
theorem litFlat_len {α β : Type} {f : α → List β} {K : Nat} : ∀ {l : List α}, (∀ x ∈ l, (f x).length = K) → (l.flatMap f).length = l.length * K := by
  intro l
  induction l with
  | nil => intro _; simp
  | cons y l ih => intro h; rw [List.flatMap_cons, List.length_append, h y List.mem_cons_self, ih (fun x hx => h x (List.mem_cons_of_mem _ hx)), List.length_cons, Nat.succ_mul]; omega
/-- the cells of the rows of a slice -/
theorem rows_news {α : Type} {R : Rd α} {m : Nat} (g : R.Good m) {S : Foot} {w : World} {ad : Addr} {q : Nat} {ys : List α} (h : SliceOf R m S w (some ad) q ys) :
    ∃ news : List Value, news.length = q * m ∧ (∀ j u, news[j]? = some u → w.cell? (ad.add j) = some u) ∧ (∀ u ∈ news, u.oneCell' = true) ∧ ∀ (k : Nat) y, ys[k]? = some y → ∃ vs, R S w y vs ∧ ∀ (j : Nat) u, vs[j]? = some u → news[k * m + j]? = some u := by
  have hex : ∀ k : Nat, ∃ vs : List Value, ∀ y, ys[k]? = some y → R S w y vs ∧ ∀ (j : Nat) u, vs[j]? = some u → w.cell? (ad.add (k * m + j)) = some u := fun k => by
    cases hy : ys[k]? with
    | none => exact ⟨[], fun y h => by cases h⟩
    | some y =>
      obtain ⟨b, off, vs, hA, _, _, hR, hc⟩ := h.2.2 k y hy
      injection hA with hA
      subst hA
      refine ⟨vs, fun y' hy' => ?_⟩
      injection hy' with hy'
      subst hy'
      refine ⟨hR, fun j u hu => ?_⟩
      have hadd : (⟨b, off, none⟩ : Addr).add (k * m + j) = ⟨b, off + k * m + j, none⟩ := by
        have : ∀ n, (⟨b, off, none⟩ : Addr).add n = ⟨b, off + n, none⟩ := fun n => by unfold Addr.add; split <;> simp_all
        rw [this, Nat.add_assoc]
      rw [hadd]
      exact hc j u hu
  obtain ⟨F, hF⟩ := Classical.axiomOfChoice hex
  have hys := h.1
  have hk : ∀ k, k < q → ∃ y, ys[k]? = some y := fun k hk => ⟨ys[k]'(by omega), List.getElem?_eq_getElem (by omega)⟩
  have hlen : ∀ k ∈ List.range q, (F k).length = m := fun k hk' => by
    obtain ⟨y, hy⟩ := hk k (List.mem_range.1 hk')
    exact g.len (hF k y hy).1
  refine ⟨(List.range q).flatMap F, by rw [litFlat_len hlen, List.length_range], fun j u hu => ?_, fun u hu => ?_, fun k y hy => ?_⟩
  · have hj : j < q * m := by have := of_getq' hu; rw [litFlat_len hlen, List.length_range] at this; exact this
    have hm : 0 < m := Nat.pos_of_ne_zero (fun e => by subst e; simp at hj)
    have hkq : j / m < q := (Nat.div_lt_iff_lt_mul hm).2 hj
    obtain ⟨y, hy⟩ := hk _ hkq
    have hr : j % m < (F (j / m)).length := by rw [g.len (hF _ y hy).1]; exact Nat.mod_lt _ hm
    have h1 := litFlat_get hlen (List.getElem?_range hkq) (List.getElem?_eq_getElem hr)
    have hjm : j / m * m + j % m = j := by rw [Nat.mul_comm]; exact Nat.div_add_mod j m
    rw [hjm, hu] at h1
    injection h1 with h1
    have := (hF _ y hy).2 (j % m) _ (List.getElem?_eq_getElem hr)
    rw [hjm] at this
    rw [this, h1]
  · obtain ⟨k, hk', hu⟩ := List.mem_flatMap.1 hu
    obtain ⟨y, hy⟩ := hk k (List.mem_range.1 hk')
    exact g.one (hF k y hy).1 u hu
  · have hkq : k < q := by have := of_getq' hy; omega
    exact ⟨F k, (hF k y hy).1, fun j u hu => litFlat_get hlen (List.getElem?_range hkq) hu⟩

/-- append of the rows of a slice to a literal of none -/
theorem wp_append_lit {P : Program} {o : Oper} {a : Act} {K : Act → World → Prop} {Q : Exit → Act → World → Prop} (w : World) (s x : Operand) (t : TypeId)
    (ho : o.op = .call { callee := .builtin .append, args := #[s, x], argTypes := #[t, t] })
    {α : Type} {R : Rd α} {m : Nat} (g : R.Good m) {T S : Foot} (base : Nat) (e : TypeId) (i : TypeInfo) (z : Value) (bytes : Nat) (ht : P.underlying t = some (.slice e)) (hi : P.info? e = some i) (hz : i.zero = some z)
    (hsize : i.size = m) (hby : i.bytes = bytes) (hzs : z.cells.size = m) (hsz : 0 < m)
    (gl : Nat) (hs : a.eval s = .slice (some ⟨gl, 0, none⟩) 0 0) (hBl : Blk w gl e #[]) (hgl : base ≤ gl)
    (A : Option Addr) (q c : Nat) (ys : List α) (hx : a.eval x = .slice A q c) (hR : SliceOf R m T w A q ys) (hconv : ∀ y vs, R T w y vs → R S w y vs)
    (h63 : q ≤ maxLen) (hbytes : q * bytes ≤ 140737488355328) (hbase : base ≤ w.heap.size) (hS : ¬ S w.heap.size) (hSl : ¬ S gl)
    (h : ∀ A' cap' w', OwnL R m S w' base e (.slice A' q cap') ys → Below w.heap.size w w' → K (a.put o.dst (.slice A' q cap')) w') : o.wp P a w K Q := by
  have hown : w.ownsRow base e m (.slice (some ⟨gl, 0, none⟩) 0 0) 0 [] := ⟨by simp, .inr ⟨gl, 0, #[], rfl, hgl, hBl, Nat.le_refl _, Nat.zero_le _, by simp, by simp⟩⟩
  rcases Nat.eq_zero_or_pos q with hq | hq
  · subst hq
    obtain rfl : ys = [] := List.eq_nil_of_length_eq_zero hR.1
    have hrun : (Builtin.append_ #[t, t] o.type #[.slice (some ⟨gl, 0, none⟩) 0 0, .slice A 0 c]).run P w = .ok (.slice (some ⟨gl, 0, none⟩) 0 0) w := by
      cases A with
      | none => simp [Builtin.append_, run_underlying ht, sizeOf, typeInfo, hi, Builtin.lenOf, Builtin.firstCells, storeCells]
      | some ad => simp [Builtin.append_, run_underlying ht, sizeOf, typeInfo, hi, Builtin.lenOf, Builtin.firstCells, storeCells, loadCells, loadCellsFrom]
    unfold Oper.wp execOp
    simp only [ho, resolve, invoke, builtin, Sem.run_bind, Sem.run_pure, Result.andThen_ok, List.map_toArray, List.map_cons, List.map_nil, hs, hx, hrun]
    refine h _ _ w ⟨fun k hk => ?_, [], hown, fun k y hy => by simp at hy⟩ (Below.refl _ _)
    have : gl = k := by simpa [Value.ownBlock] using hk
    subst this
    exact hSl
  · obtain ⟨ad, rfl⟩ : ∃ ad, A = some ad := by
      obtain ⟨b, off, _, hA, _⟩ := hR.2.2 0 (ys[0]'(by rw [hR.1]; exact hq)) (List.getElem?_eq_getElem _)
      exact ⟨_, hA⟩
    obtain ⟨news, hl, hnews, h1, hrd⟩ := rows_news g hR
    have hsmall : q ≤ 9223372036854775807 := by simp only [maxLen] at h63; omega
    obtain ⟨v', w', hr, hown', _, _, hat⟩ := run_append_own_at (P := P) w base t o.type e i z m bytes ht hi hz hsize hby hzs hsz _ 0 [] hown ad q c news hl hnews h1 (by omega) (by rw [Nat.zero_add]; exact hbytes) hbase
    have hr2 := run_append_grow (P := P) (ty := o.type) w t e i z ht hi hz ⟨gl, 0, none⟩ 0 0 [] (by simp) (fun j v hv => by simp at hv) ad q c news (by rw [hsize]; exact hl) hnews (by omega) (by omega) (growslice_fits (by omega) (by rw [Nat.zero_add, hby]; exact hbytes))
    have hrr := hr.symm.trans hr2
    injection hrr with e1 e2
    have hb : Below w.heap.size w w' := by rw [e2]; exact bl_alloc (Below.refl _ _).drew _ (Nat.le_refl _)
    unfold Oper.wp execOp
    simp only [ho, resolve, invoke, builtin, Sem.run_bind, Sem.run_pure, Result.andThen_ok, List.map_toArray, List.map_cons, List.map_nil, hs, hx, hr]
    rw [Nat.zero_add] at e1
    rw [e1] at hown' ⊢
    refine h _ _ w' ⟨fun k hk => ?_, news, by rw [hR.1]; simpa using hown', fun k y hy => ?_⟩ hb
    · have : w.heap.size = k := by simpa [Value.ownBlock] using hk
      subst this
      exact hS
    · obtain ⟨vs, hv, hc⟩ := hrd k y hy
      exact ⟨vs, g.keep (hconv y vs hv) (Keeps.below hb), hc⟩

/-- a row's first number is set -/
theorem RowTs.setFrame {S : Foot} {w : World} {gb n k : Nat} {xs : List RowT} (h : RowTs S w (some ⟨gb, 0, none⟩) n xs) (hk : k < n) (f : Int) :
    RowTs S (w.setCell ⟨gb, k * 3, none⟩ (.int .i64 f)) (some ⟨gb, 0, none⟩) n (xs.set k ⟨f, (xs.getD k dRow).swell, (xs.getD k dRow).places⟩) := by
  have hkl : k < xs.length := by rw [h.1]; exact hk
  refine ⟨by rw [List.length_set]; exact h.1, h.2.1, fun i x hx => ?_⟩
  have hil : i < xs.length := by have := of_getq' hx; rwa [List.length_set] at this
  obtain ⟨b, off, vs, hA, h1, h2, h3, h4⟩ := h.2.2 i xs[i] (List.getElem?_eq_getElem hil)
  injection hA with hA
  injection hA with e1 e2
  subst e1; subst e2
  have h3' : vs = [.int .i64 xs[i].frame, .int .i64 xs[i].swell, .int .i64 xs[i].places] := h3
  subst h3'
  rw [List.getElem?_set] at hx
  by_cases hik : k = i
  · subst hik
    rw [if_pos rfl, if_pos hil] at hx
    have hx := (Option.some.inj hx).symm
    subst hx
    rw [getD_of (List.getElem?_eq_getElem hil)]
    refine ⟨gb, 0, _, rfl, h1, by simpa using h2, rfl, fun j u hu => ?_⟩
    have hj : j = 0 ∨ j = 1 ∨ j = 2 := by have := of_getq' hu; simp at this; omega
    have hc0 := h4 0 _ rfl
    rcases hj with rfl | rfl | rfl
    · simp at hu; subst hu
      have : (⟨gb, 0 + k * 3 + 0, none⟩ : Addr) = ⟨gb, k * 3, none⟩ := by simp
      rw [this]
      exact World.cell?_setCell_same (h := show w.cell? ⟨gb, k * 3, none⟩ = some (.int .i64 xs[k].frame) by simpa using hc0) ..
    · rw [World.cell?_setCell_other (h := by intro e; injection e with _ e; omega)]; exact h4 1 u (by simpa using hu)
    · rw [World.cell?_setCell_other (h := by intro e; injection e with _ e; omega)]; exact h4 2 u (by simpa using hu)
  · rw [if_neg hik, List.getElem?_eq_getElem hil] at hx
    have hx := (Option.some.inj hx).symm
    subst hx
    refine ⟨gb, 0, _, rfl, h1, by simpa using h2, rfl, fun j u hu => ?_⟩
    have hj : j < 3 := by have := of_getq' hu; simpa using this
    rw [World.cell?_setCell_other (h := by intro e; injection e with _ e; omega)]
    exact h4 j u hu

end Go.Proofs.Ytpbimgafafkjgaa

namespace Go.Proofs.Ytpbimgafafkjgaa

/-- one more tile that is seen, of one width -/
def moreS (l : List Seen) (t air n : Int) : List Seen := l ++ [⟨t, air, n, n⟩]
theorem more_two {l : List Seen} {t i : Nat} {air n w s : Int} : twoOk (moreS l i air n) t w s = (twoOk l t w s && (!((i : Int) == (t : Int)) || inB (w + s * air) n n)) := by
  unfold twoOk moreS
  rw [List.all_append]
  simp
theorem more_twos {h : Hall} {l : List Seen} {t i : Nat} {air n : Int} : twosL h (moreS l i air n) t = (twosL h l t).filter fun p => !((i : Int) == (t : Int)) || inB (p.1 + p.2 * air) n n := by
  unfold twosL twosK
  rw [List.filter_filter]
  refine List.filter_congr fun p _ => ?_
  rw [more_two, Bool.and_comm]
theorem more_other {h : Hall} {l : List Seen} {t i : Nat} {air n : Int} (ht : i ≠ t) : twosL h (moreS l i air n) t = twosL h l t := by
  rw [more_twos]
  have : ((i : Int) == (t : Int)) = false := by simp; omega
  rw [this]; simp
theorem more_same {h : Hall} {l : List Seen} {i : Nat} {air n : Int} {p : Int × Int} : p ∈ twosL h (moreS l i air n) i ↔ p ∈ twosL h l i ∧ p.1 + p.2 * air = n := by
  rw [more_twos, List.mem_filter]
  simp [inB]
  intro _
  constructor
  · intro h; omega
  · intro h; omega
theorem more_seen {h : Hall} {l : List Seen} {i : Nat} {air n : Int} (e : (check8 h).2.2 = 0) (el : (seen8 h l).2 = 0) (hl : l.length < 6) (hi : i < h.tiles.length) (h0 : 0 ≤ air) (h40 : air ≤ 40) (hn : 0 ≤ n) (hn4 : n ≤ 40000) : (seen8 h (moreS l i air n)).2 = 0 := by
  obtain ⟨s1, s2, s3⟩ := seen_zero el
  unfold seen8
  rw [if_neg (show ¬ err8 h ≠ 0 by unfold err8; rw [e]; decide), if_neg (show ¬ 6 < (moreS l i air n).length by unfold moreS; simp; omega)]
  rw [firstErr_none (fun k hk => ?_)]
  have hlen : (moreS l i air n).length = l.length + 1 := by unfold moreS; simp
  rw [hlen] at hk
  rcases Nat.lt_or_eq_of_le (Nat.le_of_lt_succ hk) with h1 | h1
  · have := s3 k h1
    unfold seenE at this ⊢
    have hg : (moreS l i air n).getD k dSeen = l.getD k dSeen := by
      unfold moreS
      rw [List.getD_eq_getElem?_getD, List.getD_eq_getElem?_getD, List.getElem?_append_left h1]
    rw [hg]; exact this
  · have hg : (moreS l i air n).getD k dSeen = ⟨(i : Int), air, n, n⟩ := by
      unfold moreS
      rw [List.getD_eq_getElem?_getD, List.getElem?_append_right (by omega), show k - l.length = 0 by omega]; rfl
    unfold seenE
    rw [hg]
    dsimp only
    have p1 : inB (i : Int) 0 ((h.tiles.length : Int) - 1) = true := by simp [inB]; omega
    have p2 : inB air 0 40 = true := by simp [inB]; omega
    have p3 : inB n 0 40000 = true := by simp [inB]; omega
    rw [p1, p2, p3, if_neg (by decide), if_neg (by decide), if_neg (by omega)]
/-- an end of the width is reached -/
theorem more_end {h : Hall} {l : List Seen} {i : Nat} {air n : Int} (e : (check8 h).2.2 = 0) (el : (seen8 h l).2 = 0) (ea : agree8 h l = true) (hl : l.length < 6) (hi : i < h.tiles.length) (h0 : 0 ≤ air) (h40 : air ≤ 40) (hn : 0 ≤ n) (hn4 : n ≤ 40000) (hp : ∃ p ∈ twosL h l i, p.1 + p.2 * air = n) : width8 h (moreS l i air n) i air = ((n, n), 0) := by
  obtain ⟨p, hp, hpe⟩ := hp
  have hm : p ∈ twosL h (moreS l i air n) i := more_same.2 ⟨hp, hpe⟩
  have hag : agree8 h (moreS l i air n) = true := by
    unfold agree8
    rw [List.all_eq_true]
    intro k hk
    by_cases hik : i = k
    · subst hik
      cases hx : twosL h (moreS l i air n) i with
      | nil => rw [hx] at hm; cases hm
      | cons a b => rfl
    · rw [more_other hik]
      unfold agree8 at ea
      rw [List.all_eq_true] at ea
      exact ea k hk
  rw [width_ok (more_seen e el hl hi h0 h40 hn hn4) hag hi h0 h40]
  obtain ⟨_, ⟨q1, hq1, e1⟩, ⟨q2, hq2, e2⟩⟩ := wide_pair (List.ne_nil_of_mem hm) air
  have f1 := (more_same.1 hq1).2
  have f2 := (more_same.1 hq2).2
  have : wide8 h (moreS l i air n) i air = (n, n) := by
    ext
    · exact e1.trans f1
    · exact e2.trans f2
  rw [this]
/-- beyond the ends there is nothing -/
theorem more_none {h : Hall} {l : List Seen} {i : Nat} {air n : Int} (e : (check8 h).2.2 = 0) (el : (seen8 h l).2 = 0) (hl : l.length < 6) (hi : i < h.tiles.length) (h0 : 0 ≤ air) (h40 : air ≤ 40) (hn : 0 ≤ n) (hn4 : n ≤ 40000) (hp : ∀ p ∈ twosL h l i, p.1 + p.2 * air ≠ n) : (width8 h (moreS l i air n) i air).2 = 9 := by
  have hag : agree8 h (moreS l i air n) = false := by
    cases hc : agree8 h (moreS l i air n) with
    | false => rfl
    | true =>
      have := agree_ne hc hi
      exfalso
      obtain ⟨a, ha⟩ := List.exists_mem_of_ne_nil _ this
      obtain ⟨h1, h2⟩ := more_same.1 ha
      exact hp a h1 h2
  unfold width8
  rw [if_neg (by rw [more_seen e el hl hi h0 h40 hn hn4]; decide), if_neg (by simp [inB]; omega), if_neg (by simp [inB]; omega), if_pos hag]

end Go.Proofs.Ytpbimgafafkjgaa

namespace Go.Proofs.Ytpbimgafafkjgaa

theorem gapUpto_bd (h : Hall) (l : List Seen) (row : Nat) (tl : List Int) : ∀ k : Nat, (∀ j : Nat, j ≤ k → (gapUpto h l row tl k).1 ≤ (at8 h l row tl (h.alo + j)).1 ∧ (at8 h l row tl (h.alo + j)).2 ≤ (gapUpto h l row tl k).2) ∧ (∃ j : Nat, j ≤ k ∧ (gapUpto h l row tl k).1 = (at8 h l row tl (h.alo + j)).1) ∧ (∃ j : Nat, j ≤ k ∧ (gapUpto h l row tl k).2 = (at8 h l row tl (h.alo + j)).2) := by
  intro k
  induction k with
  | zero =>
    have e : gapUpto h l row tl 0 = at8 h l row tl (h.alo + (0 : Nat)) := by rw [gapUpto]; simp
    rw [e]
    refine ⟨fun j hj => ?_, ⟨0, Nat.le_refl _, rfl⟩, ⟨0, Nat.le_refl _, rfl⟩⟩
    obtain rfl : j = 0 := by omega
    exact ⟨Int.le_refl _, Int.le_refl _⟩
  | succ k ih =>
    obtain ⟨h1, ⟨j1, hj1, e1⟩, ⟨j2, hj2, e2⟩⟩ := ih
    have e : gapUpto h l row tl (k + 1) = (min (gapUpto h l row tl k).1 (at8 h l row tl (h.alo + (k + 1 : Nat))).1, max (gapUpto h l row tl k).2 (at8 h l row tl (h.alo + (k + 1 : Nat))).2) := by
      rw [gapUpto, show h.alo + 1 + (k : Int) = h.alo + ((k + 1 : Nat) : Int) by omega]
    rw [e]
    dsimp only
    refine ⟨fun j hj => ?_, ?_, ?_⟩
    · rcases Nat.lt_or_eq_of_le hj with h2 | h2
      · have := h1 j (by omega); omega
      · subst h2; omega
    · rcases Int.le_total (gapUpto h l row tl k).1 (at8 h l row tl (h.alo + (k + 1 : Nat))).1 with h2 | h2
      · exact ⟨j1, by omega, by rw [← e1]; omega⟩
      · exact ⟨k + 1, Nat.le_refl _, by omega⟩
    · rcases Int.le_total (at8 h l row tl (h.alo + (k + 1 : Nat))).2 (gapUpto h l row tl k).2 with h2 | h2
      · exact ⟨j2, by omega, by rw [← e2]; omega⟩
      · exact ⟨k + 1, Nat.le_refl _, by omega⟩
theorem gap8_bd {h : Hall} {l : List Seen} {row : Nat} {tl : List Int} (hal : h.alo ≤ h.ahi) : (∀ a, h.alo ≤ a → a ≤ h.ahi → (gap8 h l row tl).1 ≤ (at8 h l row tl a).1 ∧ (at8 h l row tl a).2 ≤ (gap8 h l row tl).2) ∧ (∃ a, h.alo ≤ a ∧ a ≤ h.ahi ∧ (gap8 h l row tl).1 = (at8 h l row tl a).1) ∧ (∃ a, h.alo ≤ a ∧ a ≤ h.ahi ∧ (gap8 h l row tl).2 = (at8 h l row tl a).2) := by
  unfold gap8
  obtain ⟨h1, ⟨j1, hj1, e1⟩, ⟨j2, hj2, e2⟩⟩ := gapUpto_bd h l row tl (h.ahi - h.alo).toNat
  refine ⟨fun a ha1 ha2 => ?_, ⟨_, by omega, by omega, e1⟩, ⟨_, by omega, by omega, e2⟩⟩
  have := h1 (a - h.alo).toNat (by omega)
  rwa [show h.alo + ((a - h.alo).toNat : Int) = a by omega] at this

/-- the same hall with another air -/
def dryOf (h : Hall) (a z : Int) : Hall := { h with alo := a, ahi := z }
theorem dry_check {h : Hall} {a z : Int} (e : (check8 h).2.2 = 0) (h1 : h.alo ≤ a) (h2 : a ≤ z) (h3 : z ≤ h.ahi) : (check8 (dryOf h a z)).2.2 = 0 := by
  have hk := okH_of e
  have hm := hk.most
  have hnt := hk.nt
  have hnr := hk.nr
  have hair := hk.air
  unfold check8
  have q1 : inB a 0 40 = true := by simp [inB]; omega
  have q4 : inB z 0 40 = true := by simp [inB]; omega
  have q2 : inB h.most 0 20000 = true := by simp [inB]; omega
  have q3 : inB z a (a + 12) = true := by simp [inB]; omega
  rw [if_neg (by simp only [dryOf]; rw [q1, q2, q4]; decide), if_neg (by simp only [dryOf]; rw [q3]; decide), if_neg (by simp only [dryOf]; omega)]
  have h1 : firstErr (tileE (dryOf h a z).tiles) (dryOf h a z).tiles.length = none := firstErr_none fun k hk' => hk.tile hk'
  have h2 : firstErr (rowE (dryOf h a z).tiles.length (dryOf h a z).rows) (dryOf h a z).rows.length = none := firstErr_none fun k hk' => hk.row hk'
  rw [h1, h2]
theorem dry_asked {h : Hall} {l : List Seen} {row : Nat} {tl : List Int} {a z : Int} (e : asked8 h l row tl = 0) (h1 : h.alo ≤ a) (h2 : a ≤ z) (h3 : z ≤ h.ahi) : asked8 (dryOf h a z) l row tl = 0 := by
  obtain ⟨g1, ⟨g2, g3⟩, g4, g5⟩ := asked_zero e
  obtain ⟨s1, s2, s3⟩ := seen_zero g1
  have hc := dry_check s1 h1 h2 h3
  have hs : (seen8 (dryOf h a z) l).2 = (seen8 h l).2 := by
    unfold seen8
    rw [if_neg (show ¬ err8 (dryOf h a z) ≠ 0 by unfold err8; rw [hc]; decide), if_neg (show ¬ 6 < l.length by omega), if_neg (show ¬ err8 h ≠ 0 by unfold err8; rw [s1]; decide), if_neg (show ¬ 6 < l.length by omega)]
    rfl
  exact asked_fine (by rw [hs]; exact g1) (show row < h.rows.length by omega) (by rw [Int.toNat_natCast] at g4; exact g4) g5
theorem dry_law {h : Hall} {l : List Seen} {row : Nat} {tl : List Int} {a z : Int} (e : asked8 h l row tl = 0) (hal : h.alo ≤ h.ahi) (h1 : h.alo ≤ a) (h2 : a ≤ z) (h3 : z ≤ h.ahi) :
    (gap8 h l row tl).1 ≤ (gap8 (dryOf h a z) l row tl).1 ∧ (gap8 (dryOf h a z) l row tl).2 ≤ (gap8 h l row tl).2 ∧ ((whyR h l row tl).1 = 0 → (whyR (dryOf h a z) l row tl).1 = 0) := by
  obtain ⟨g1, _, _⟩ := gap8_bd (l := l) (row := row) (tl := tl) hal
  obtain ⟨_, ⟨x, hx1, hx2, ex⟩, ⟨y, hy1, hy2, ey⟩⟩ := gap8_bd (h := dryOf h a z) (l := l) (row := row) (tl := tl) h2
  have hx1' : a ≤ x := hx1
  have hx2' : x ≤ z := hx2
  have hy1' : a ≤ y := hy1
  have hy2' : y ≤ z := hy2
  refine ⟨?_, ?_, fun hw => ?_⟩
  · rw [ex]; exact (g1 x (by omega) (by omega)).1
  · rw [ey]; exact (g1 y (by omega) (by omega)).2
  · refine (why_iff (dry_asked e h1 h2 h3) h2).2.2 fun b hb1 hb2 => ?_
    have hb1' : a ≤ b := hb1
    have hb2' : b ≤ z := hb2
    exact (why_iff e hal).2.1 hw b (by omega) (by omega)

/-- the same hall with a wider frame of a row -/
def bigOf (h : Hall) (row : Nat) (d : Int) : Hall := { h with rows := h.rows.set row ⟨(h.rows.getD row dRow).frame + d, (h.rows.getD row dRow).swell, (h.rows.getD row dRow).places⟩ }
theorem big_get {h : Hall} {row k : Nat} {d : Int} (hr : row < h.rows.length) : (bigOf h row d).rows.getD k dRow = if k = row then ⟨(h.rows.getD row dRow).frame + d, (h.rows.getD row dRow).swell, (h.rows.getD row dRow).places⟩ else h.rows.getD k dRow := by
  unfold bigOf
  simp only [List.getD_eq_getElem?_getD, List.getElem?_set]
  by_cases hk : k = row
  · subst hk; simp [hr]
  · rw [if_neg (fun e => hk e.symm), if_neg hk]
theorem big_places {h : Hall} {row k : Nat} {d : Int} (hr : row < h.rows.length) : placesOf ((bigOf h row d).rows.take k) = placesOf (h.rows.take k) := by
  unfold placesOf
  congr 1
  apply List.ext_getElem?
  intro i
  simp only [List.getElem?_map, List.getElem?_take]
  split
  · unfold bigOf
    simp only [List.getElem?_set]
    by_cases hk : row = i
    · subst hk
      rw [if_pos rfl, if_pos hr, List.getElem?_eq_getElem hr, getD_of (List.getElem?_eq_getElem hr)]; rfl
    · rw [if_neg hk]
  · rfl
theorem big_check {h : Hall} {row : Nat} {d : Int} (e : (check8 h).2.2 = 0) (hr : row < h.rows.length) (h0 : 0 ≤ d) (h1 : (h.rows.getD row dRow).frame + d ≤ 200000) : (check8 (bigOf h row d)).2.2 = 0 := by
  have hk := okH_of e
  have hm := hk.most
  have hnt := hk.nt
  have hnr := hk.nr
  have hair := hk.air
  have hlen : (bigOf h row d).rows.length = h.rows.length := by unfold bigOf; simp
  unfold check8
  have q1 : inB h.alo 0 40 = true := by simp [inB]; omega
  have q4 : inB h.ahi 0 40 = true := by simp [inB]; omega
  have q2 : inB h.most 0 20000 = true := by simp [inB]; omega
  have q3 : inB h.ahi h.alo (h.alo + 12) = true := by simp [inB]; omega
  have c1 : ¬ (!inB (bigOf h row d).alo 0 40 || !inB (bigOf h row d).ahi 0 40 || !inB (bigOf h row d).most 0 20000) = true := by
    show ¬ (!inB h.alo 0 40 || !inB h.ahi 0 40 || !inB h.most 0 20000) = true
    rw [q1, q4, q2]; decide
  have c2 : ¬ (!inB (bigOf h row d).ahi (bigOf h row d).alo ((bigOf h row d).alo + 12)) = true := by
    show ¬ (!inB h.ahi h.alo (h.alo + 12)) = true
    rw [q3]; decide
  have c3 : ¬ (¬ (1 ≤ (bigOf h row d).tiles.length ∧ (bigOf h row d).tiles.length ≤ 8) ∨ ¬ (1 ≤ (bigOf h row d).rows.length ∧ (bigOf h row d).rows.length ≤ 3)) := by
    rw [hlen]
    show ¬ (¬ (1 ≤ h.tiles.length ∧ h.tiles.length ≤ 8) ∨ ¬ (1 ≤ h.rows.length ∧ h.rows.length ≤ 3))
    omega
  rw [if_neg c1, if_neg c2, if_neg c3]
  have h1' : firstErr (tileE (bigOf h row d).tiles) (bigOf h row d).tiles.length = none := firstErr_none fun k hk' => hk.tile hk'
  have h2' : firstErr (rowE (bigOf h row d).tiles.length (bigOf h row d).rows) (bigOf h row d).rows.length = none := firstErr_none fun k hk' => by
    rw [hlen] at hk'
    have hre := hk.row hk'
    have hx : h.rows[k]? = some ⟨(h.rows[k]).frame, (h.rows[k]).swell, (h.rows[k]).places⟩ := List.getElem?_eq_getElem hk'
    obtain ⟨f1, f2, f3, f4, f5, f6⟩ := rowE_zero hx hre
    unfold rowE at hre ⊢
    rw [big_get hr, big_places hr]
    by_cases hkr : k = row
    · rw [if_pos hkr, ← hkr]
      rw [← hkr] at h1
      rw [getD_of hx] at hre h1 ⊢
      dsimp only at hre h1 ⊢
      have p1 : inB ((h.rows[k]).frame + d) 0 200000 = true := by simp [inB]; omega
      have p2 : inB (h.rows[k]).frame 0 200000 = true := by simp [inB]; omega
      rw [p1]
      rw [p2] at hre
      exact hre
    · rw [if_neg hkr]; exact hre
  rw [h1', h2']
theorem big_asked {h : Hall} {l : List Seen} {row : Nat} {tl : List Int} {d : Int} (e : asked8 h l row tl = 0) (h0 : 0 ≤ d) (h1 : (h.rows.getD row dRow).frame + d ≤ 200000) : asked8 (bigOf h row d) l row tl = 0 := by
  obtain ⟨g1, ⟨g2, g3⟩, g4, g5⟩ := asked_zero e
  obtain ⟨s1, s2, s3⟩ := seen_zero g1
  have hr : row < h.rows.length := by omega
  have hc := big_check s1 hr h0 h1
  have hs : (seen8 (bigOf h row d) l).2 = (seen8 h l).2 := by
    unfold seen8
    rw [if_neg (show ¬ err8 (bigOf h row d) ≠ 0 by unfold err8; rw [hc]; decide), if_neg (show ¬ 6 < l.length by omega), if_neg (show ¬ err8 h ≠ 0 by unfold err8; rw [s1]; decide), if_neg (show ¬ 6 < l.length by omega)]
    rfl
  refine asked_fine (by rw [hs]; exact g1) (by unfold bigOf; simpa using hr) ?_ g5
  rw [big_get hr, if_pos rfl]
  rw [Int.toNat_natCast] at g4
  exact g4
theorem fold_shift {α : Type} (W : α → Int × Int) (d : Int) : ∀ (tl : List α) (g : Int × Int), tl.foldl (fun g i => (g.1 - (W i).2, g.2 - (W i).1)) (g.1 + d, g.2 + d) = ((tl.foldl (fun g i => (g.1 - (W i).2, g.2 - (W i).1)) g).1 + d, (tl.foldl (fun g i => (g.1 - (W i).2, g.2 - (W i).1)) g).2 + d) := by
  intro tl
  induction tl with
  | nil => intro g; rfl
  | cons x tl ih =>
    intro g
    rw [List.foldl_cons, List.foldl_cons, ← ih]
    congr 1
    ext <;> dsimp only <;> omega
theorem big_at {h : Hall} {l : List Seen} {row : Nat} {tl : List Int} {d a : Int} (hr : row < h.rows.length) : at8 (bigOf h row d) l row tl a = ((at8 h l row tl a).1 + d, (at8 h l row tl a).2 + d) := by
  unfold at8 atUpto
  rw [big_get hr, if_pos rfl]
  dsimp only
  have := fold_shift (fun i : Int => wide8 h l i.toNat a) d (tl.take tl.length) ((h.rows.getD row dRow).frame + (h.rows.getD row dRow).swell * a, (h.rows.getD row dRow).frame + (h.rows.getD row dRow).swell * a)
  dsimp only at this
  rw [← this, show (h.rows.getD row dRow).frame + d + (h.rows.getD row dRow).swell * a = (h.rows.getD row dRow).frame + (h.rows.getD row dRow).swell * a + d by omega]
  rfl
theorem big_gap {h : Hall} {l : List Seen} {row : Nat} {tl : List Int} {d : Int} (hr : row < h.rows.length) : gap8 (bigOf h row d) l row tl = ((gap8 h l row tl).1 + d, (gap8 h l row tl).2 + d) := by
  unfold gap8
  show gapUpto (bigOf h row d) l row tl (h.ahi - h.alo).toNat = _
  generalize (h.ahi - h.alo).toNat = k
  induction k with
  | zero => exact big_at hr
  | succ k ih =>
    rw [gapUpto, ih, gapUpto]
    have e : at8 (bigOf h row d) l row tl ((bigOf h row d).alo + 1 + (k : Int)) = ((at8 h l row tl (h.alo + 1 + k)).1 + d, (at8 h l row tl (h.alo + 1 + k)).2 + d) := big_at hr
    rw [e]
    ext <;> dsimp only <;> omega

end Go.Proofs.Ytpbimgafafkjgaa

namespace Go.Proofs.Ytpbimgafafkjgaa

theorem sub_twos {h : Hall} {l : List Seen} {y : Seen} {t : Nat} {p : Int × Int} (hp : p ∈ twosL h (l ++ [y]) t) : p ∈ twosL h l t := by
  unfold twosL twosK at hp ⊢
  obtain ⟨h1, h2⟩ := List.mem_filter.1 hp
  refine List.mem_filter.2 ⟨h1, ?_⟩
  unfold twoOk at h2 ⊢
  rw [List.all_append, Bool.and_eq_true] at h2
  exact h2.1
theorem sub_agree {h : Hall} {l : List Seen} {y : Seen} (ha : agree8 h (l ++ [y]) = true) : agree8 h l = true := by
  unfold agree8
  rw [List.all_eq_true]
  intro t ht
  have hne := agree_ne ha (List.mem_range.1 ht)
  obtain ⟨p, hp⟩ := List.exists_mem_of_ne_nil _ hne
  have := sub_twos hp
  cases hx : twosL h l t with
  | nil => rw [hx] at this; cases this
  | cons a b => rfl
theorem sub_wide {h : Hall} {l : List Seen} {y : Seen} {t : Nat} (ha : agree8 h (l ++ [y]) = true) (ht : t < h.tiles.length) (a : Int) : (wide8 h l t a).1 ≤ (wide8 h (l ++ [y]) t a).1 ∧ (wide8 h (l ++ [y]) t a).2 ≤ (wide8 h l t a).2 := by
  obtain ⟨_, ⟨p, hp, e1⟩, ⟨q, hq, e2⟩⟩ := wide_pair (agree_ne ha ht) a
  have h1 := (wide_pair (agree_ne (sub_agree ha) ht) a).1
  rw [e1, e2]
  exact ⟨(h1 p (sub_twos hp)).1, (h1 q (sub_twos hq)).2⟩
theorem sub_at {h : Hall} {l : List Seen} {y : Seen} {row : Nat} {tl : List Int} (ha : agree8 h (l ++ [y]) = true) (hT : ∀ i ∈ tl, 0 ≤ i ∧ i < h.tiles.length) (a : Int) : (at8 h l row tl a).1 ≤ (at8 h (l ++ [y]) row tl a).1 ∧ (at8 h (l ++ [y]) row tl a).2 ≤ (at8 h l row tl a).2 := by
  unfold at8
  have key : ∀ k, k ≤ tl.length → (atUpto h l row tl a k).1 ≤ (atUpto h (l ++ [y]) row tl a k).1 ∧ (atUpto h (l ++ [y]) row tl a k).2 ≤ (atUpto h l row tl a k).2 := by
    intro k
    induction k with
    | zero => intro _; exact ⟨Int.le_refl _, Int.le_refl _⟩
    | succ k ih =>
      intro hk
      obtain ⟨h1, h2⟩ := ih (by omega)
      have hx : tl[k]? = some tl[k] := List.getElem?_eq_getElem (by omega)
      obtain ⟨h0, hn⟩ := hT _ (List.mem_of_getElem? hx)
      have hw := sub_wide ha (t := (tl[k]).toNat) (by omega) a
      rw [atUpto_succ hx, atUpto_succ hx]
      dsimp only
      omega
  exact key _ (Nat.le_refl _)
theorem sub_gap {h : Hall} {l : List Seen} {y : Seen} {row : Nat} {tl : List Int} (hal : h.alo ≤ h.ahi) (ha : agree8 h (l ++ [y]) = true) (hT : ∀ i ∈ tl, 0 ≤ i ∧ i < h.tiles.length) : (gap8 h l row tl).1 ≤ (gap8 h (l ++ [y]) row tl).1 ∧ (gap8 h (l ++ [y]) row tl).2 ≤ (gap8 h l row tl).2 := by
  obtain ⟨g1, _, _⟩ := gap8_bd (l := l) (row := row) (tl := tl) hal
  obtain ⟨_, ⟨x, hx1, hx2, ex⟩, ⟨z, hz1, hz2, ez⟩⟩ := gap8_bd (l := l ++ [y]) (row := row) (tl := tl) hal
  have k1 := sub_at (row := row) ha hT x
  have k2 := sub_at (row := row) ha hT z
  have k3 := g1 x hx1 hx2
  have k4 := g1 z hz1 hz2
  rw [ex, ez]
  omega
theorem sub_wrong {h : Hall} {l : List Seen} {y : Seen} {row : Nat} {tl : List Int} (hal : h.alo ≤ h.ahi) (ha : agree8 h (l ++ [y]) = true) (hT : ∀ i ∈ tl, 0 ≤ i ∧ i < h.tiles.length) (hw : wrong8 h.most (gap8 h l row tl) = 0) : wrong8 h.most (gap8 h (l ++ [y]) row tl) = 0 := by
  have hg := sub_gap (row := row) hal ha hT
  unfold wrong8 at hw ⊢
  split at hw
  · cases hw
  · split at hw
    · cases hw
    · rw [if_neg (by omega), if_neg (by omega)]
/-- the least is one of them, and none is less -/
theorem least_spec : ∀ (X : List (List (List Int) × Int)) (o : Option (List (List Int) × Int)), (∀ x ∈ X, ∃ z, X.foldl betterL o = some z ∧ z.2 ≤ x.2) ∧ (∀ z, o = some z → ∃ u, X.foldl betterL o = some u ∧ u.2 ≤ z.2) ∧ (∀ z, X.foldl betterL o = some z → o = some z ∨ z ∈ X) := by
  intro X
  induction X with
  | nil => intro o; exact ⟨fun x hx => (by cases hx), fun z hz => ⟨z, hz, Int.le_refl _⟩, fun z hz => .inl hz⟩
  | cons x X ih =>
    intro o
    obtain ⟨h1, h2, h3⟩ := ih (betterL o x)
    rw [List.foldl_cons]
    have hb : ∃ b, betterL o x = some b ∧ b.2 ≤ x.2 ∧ (∀ z, o = some z → b.2 ≤ z.2) ∧ (o = some b ∨ b = x) := by
      unfold betterL
      cases o with
      | none => exact ⟨x, rfl, Int.le_refl _, (fun z hz => by cases hz), .inr rfl⟩
      | some z =>
        dsimp only
        by_cases hlt : x.2 < z.2
        · rw [if_pos hlt]; exact ⟨x, rfl, Int.le_refl _, (fun u hu => by cases hu; omega), .inr rfl⟩
        · rw [if_neg hlt]; exact ⟨z, rfl, by omega, (fun u hu => by cases hu; exact Int.le_refl _), .inl rfl⟩
    obtain ⟨b, hb1, hb2, hb3, hb4⟩ := hb
    obtain ⟨u, hu1, hu2⟩ := h2 b hb1
    refine ⟨fun z hz => ?_, fun z hz => ⟨u, hu1, by have := hb3 z hz; omega⟩, fun z hz => ?_⟩
    · rcases List.mem_cons.1 hz with rfl | hz
      · exact ⟨u, hu1, by omega⟩
      · exact h1 z hz
    · rcases h3 z hz with h4 | h4
      · rw [hb1] at h4
        have h4 := Option.some.inj h4
        subst h4
        rcases hb4 with h5 | h5
        · exact .inl h5
        · exact .inr (by rw [h5]; exact List.mem_cons_self)
      · exact .inr (List.mem_cons_of_mem _ h4)
/-- each laying is one still, with no greater gap -/
theorem sub_lay {h : Hall} {l : List Seen} {y : Seen} (hal : h.alo ≤ h.ahi) (ha : agree8 h (l ++ [y]) = true) : ∀ (k : Nat) (used : List Int) (b b' : Int), b' ≤ b → ∀ r ∈ layL h l k used b, ∃ r' ∈ layL h (l ++ [y]) k used b', r'.1 = r.1 ∧ r'.2 ≤ r.2 := by
  intro k
  induction k with
  | zero =>
    intro used b b' hb r hr
    rw [layL, List.mem_singleton] at hr
    subst hr
    exact ⟨([], b'), by rw [layL]; exact List.mem_singleton_self _, rfl, hb⟩
  | succ k ih =>
    intro used b b' hb r hr
    rw [layL, List.mem_flatMap] at hr
    obtain ⟨x, hx, hr⟩ := hr
    unfold fitL at hx
    obtain ⟨hx1, hx2⟩ := List.mem_filter.1 hx
    have hT : ∀ i ∈ x, 0 ≤ i ∧ i < (h.tiles.length : Int) := fun i hi => by
      have h1 := (lex_sub _ _ x hx1).1.subset hi
      unfold numbersL at h1
      obtain ⟨j, hj, rfl⟩ := List.mem_map.1 h1
      have := List.mem_range.1 hj
      omega
    have hw := sub_wrong (row := h.rows.length - (k + 1)) hal ha hT (by simpa using hx2)
    have hg := sub_gap (row := h.rows.length - (k + 1)) hal ha hT
    split at hr
    · rename_i hu
      obtain ⟨r0, hr0, rfl⟩ := List.mem_map.1 hr
      obtain ⟨r', h1, h2, h3⟩ := ih _ _ (max b' (gap8 h (l ++ [y]) (h.rows.length - (k + 1)) x).2) (by omega) r0 hr0
      refine ⟨headL x r', ?_, by unfold headL; rw [h2], by unfold headL; exact h3⟩
      rw [layL, List.mem_flatMap]
      refine ⟨x, ?_, ?_⟩
      · unfold fitL; exact List.mem_filter.2 ⟨hx1, by simpa using hw⟩
      · rw [if_pos hu]; exact List.mem_map.2 ⟨r', h1, rfl⟩
    · cases hr
/-- a laying has no greater gap with one more tile that is seen -/
theorem sub_best {h : Hall} {l : List Seen} {y : Seen} (hal : h.alo ≤ h.ahi) (ha : agree8 h (l ++ [y]) = true) {r : List (List Int) × Int} (e : bestR h l h.rows.length (numbersL h.tiles.length) 0 = some r) : ∃ r', bestR h (l ++ [y]) h.rows.length (numbersL h.tiles.length) 0 = some r' ∧ r'.2 ≤ r.2 := by
  rw [best_all] at e ⊢
  unfold leastL at e ⊢
  rcases (least_spec _ none).2.2 r e with h1 | h1
  · cases h1
  · obtain ⟨r', h2, _, h3⟩ := sub_lay hal ha _ _ 0 0 (Int.le_refl _) r h1
    obtain ⟨z, h4, h5⟩ := (least_spec _ none).1 r' h2
    exact ⟨z, h4, by omega⟩

end Go.Proofs.Ytpbimgafafkjgaa
