/- append of the rows of a slice to a literal of none (rows of more than one cell), and an invariant of promises that two operations may change. Nothing of a program stands here but the layout of rows. -/
import Derived.Test.YtpdldmichpmgmaaGreatCKOuts
import Derived.Test.YtpdldmichpmgmaaGreatCTRegs
set_option linter.unusedVariables false
set_option linter.unusedSimpArgs false
set_option linter.all false
namespace Go.Proofs.YtpdldmichpmgmaaGreat
open Go.RowKit

theorem litFlat_get {α β : Type} {f : α → List β} {K : Nat} : ∀ {l : List α}, (∀ x ∈ l, (f x).length = K) → ∀ {n j : Nat} {v : α} {x : β}, l[n]? = some v → (f v)[j]? = some x → (l.flatMap f)[n * K + j]? = some x := by
  intro l
  induction l with
  | nil => intro _ n j v x h; simp at h
  | cons y l ih =>
    intro hK n j v x hv hx
    have hjK : j < K := by
      have h1 : j < (f v).length := by
        obtain ⟨h, _⟩ := List.getElem?_eq_some_iff.1 hx; exact h
      rw [hK v (List.mem_of_getElem? hv)] at h1; exact h1
    rw [List.flatMap_cons]
    cases n with
    | zero =>
      simp at hv; subst hv
      rw [Nat.zero_mul, Nat.zero_add, List.getElem?_append_left (by rw [hK _ List.mem_cons_self]; exact hjK)]
      exact hx
    | succ n =>
      simp at hv
      have hy := hK y List.mem_cons_self
      rw [List.getElem?_append_right (by rw [hy, Nat.succ_mul]; omega)]
      rw [hy, show (n + 1) * K + j - K = n * K + j by rw [Nat.succ_mul]; omega]
      exact ih (fun x hx => hK x (List.mem_cons_of_mem _ hx)) hv hx
theorem litFlat_len {α β : Type} {f : α → List β} {K : Nat} : ∀ {l : List α}, (∀ x ∈ l, (f x).length = K) → (l.flatMap f).length = l.length * K := by
  intro l
  induction l with
  | nil => intro _; simp
  | cons y l ih => intro h; rw [List.flatMap_cons, List.length_append, h y List.mem_cons_self, ih (fun x hx => h x (List.mem_cons_of_mem _ hx)), List.length_cons, Nat.succ_mul]; omega
/-- the cells of the rows of a slice -/
theorem rows_news {α : Type} {R : Rd α} {m : Nat} (g : R.Good m) {S : Foot} {w : World} {ad : Addr} {q : Nat} {ys : List α} (h : SliceOf R m S w (some ad) q ys) :
    ∃ news : List Value, news.length = q * m ∧ (∀ j u, news[j]? = some u → w.cell? (ad.add j) = some u) ∧ (∀ u ∈ news, u.oneCell' = true) ∧ ∀ (k : Nat) y, ys[k]? = some y → ∃ vs, R S w y vs ∧ ∀ (j : Nat) u, vs[j]? = some u → news[k * m + j]? = some u := by
  have hex : ∀ k : Nat, ∃ vs : List Value, ∀ y, ys[k]? = some y → R S w y vs ∧ ∀ (j : Nat) u, vs[j]? = some u → w.cell? (ad.add (k * m + j)) = some u := fun k => by
    cases hy : ys[k]? with
    | none => exact ⟨[], fun y h => by cases h⟩
    | some y =>
      obtain ⟨b, off, vs, hA, _, _, hR, hc⟩ := h.2.2 k y hy
      injection hA with hA
      subst hA
      refine ⟨vs, fun y' hy' => ?_⟩
      injection hy' with hy'
      subst hy'
      refine ⟨hR, fun j u hu => ?_⟩
      have hadd : (⟨b, off, none⟩ : Addr).add (k * m + j) = ⟨b, off + k * m + j, none⟩ := by
        have : ∀ n, (⟨b, off, none⟩ : Addr).add n = ⟨b, off + n, none⟩ := fun n => by unfold Addr.add; split <;> simp_all
        rw [this, Nat.add_assoc]
      rw [hadd]
      exact hc j u hu
  obtain ⟨F, hF⟩ := Classical.axiomOfChoice hex
  have hys := h.1
  have hk : ∀ k, k < q → ∃ y, ys[k]? = some y := fun k hk => ⟨ys[k]'(by omega), List.getElem?_eq_getElem (by omega)⟩
  have hlen : ∀ k ∈ List.range q, (F k).length = m := fun k hk' => by
    obtain ⟨y, hy⟩ := hk k (List.mem_range.1 hk')
    exact g.len (hF k y hy).1
  refine ⟨(List.range q).flatMap F, by rw [litFlat_len hlen, List.length_range], fun j u hu => ?_, fun u hu => ?_, fun k y hy => ?_⟩
  · have hj : j < q * m := by have := of_getq' hu; rw [litFlat_len hlen, List.length_range] at this; exact this
    have hm : 0 < m := Nat.pos_of_ne_zero (fun e => by subst e; simp at hj)
    have hkq : j / m < q := (Nat.div_lt_iff_lt_mul hm).2 hj
    obtain ⟨y, hy⟩ := hk _ hkq
    have hr : j % m < (F (j / m)).length := by rw [g.len (hF _ y hy).1]; exact Nat.mod_lt _ hm
    have h1 := litFlat_get hlen (List.getElem?_range hkq) (List.getElem?_eq_getElem hr)
    have hjm : j / m * m + j % m = j := by rw [Nat.mul_comm]; exact Nat.div_add_mod j m
    rw [hjm, hu] at h1
    injection h1 with h1
    have := (hF _ y hy).2 (j % m) _ (List.getElem?_eq_getElem hr)
    rw [hjm] at this
    rw [this, h1]
  · obtain ⟨k, hk', hu⟩ := List.mem_flatMap.1 hu
    obtain ⟨y, hy⟩ := hk k (List.mem_range.1 hk')
    exact g.one (hF k y hy).1 u hu
  · have hkq : k < q := by have := of_getq' hy; omega
    exact ⟨F k, (hF k y hy).1, fun j u hu => litFlat_get hlen (List.getElem?_range hkq) hu⟩

/-- append of the rows of a slice to a literal of none -/
theorem wp_append_lit {P : Program} {o : Oper} {a : Act} {K : Act → World → Prop} {Q : Exit → Act → World → Prop} (w : World) (s x : Operand) (t : TypeId)
    (ho : o.op = .call { callee := .builtin .append, args := #[s, x], argTypes := #[t, t] })
    {α : Type} {R : Rd α} {m : Nat} (g : R.Good m) {T S : Foot} (base : Nat) (e : TypeId) (i : TypeInfo) (z : Value) (bytes : Nat) (ht : P.underlying t = some (.slice e)) (hi : P.info? e = some i) (hz : i.zero = some z)
    (hsize : i.size = m) (hby : i.bytes = bytes) (hzs : z.cells.size = m) (hsz : 0 < m)
    (gl : Nat) (hs : a.eval s = .slice (some ⟨gl, 0, none⟩) 0 0) (hBl : Blk w gl e #[]) (hgl : base ≤ gl)
    (A : Option Addr) (q c : Nat) (ys : List α) (hx : a.eval x = .slice A q c) (hR : SliceOf R m T w A q ys) (hconv : ∀ y vs, R T w y vs → R S w y vs)
    (h63 : q ≤ maxLen) (hbytes : q * bytes ≤ 140737488355328) (hbase : base ≤ w.heap.size) (hS : ¬ S w.heap.size) (hSl : ¬ S gl)
    (h : ∀ A' cap' w', OwnL R m S w' base e (.slice A' q cap') ys → Below w.heap.size w w' → K (a.put o.dst (.slice A' q cap')) w') : o.wp P a w K Q := by
  have hown : w.ownsRow base e m (.slice (some ⟨gl, 0, none⟩) 0 0) 0 [] := ⟨by simp, .inr ⟨gl, 0, #[], rfl, hgl, hBl, Nat.le_refl _, Nat.zero_le _, by simp, by simp⟩⟩
  rcases Nat.eq_zero_or_pos q with hq | hq
  · subst hq
    obtain rfl : ys = [] := List.eq_nil_of_length_eq_zero hR.1
    have hrun : (Builtin.append_ #[t, t] o.type #[.slice (some ⟨gl, 0, none⟩) 0 0, .slice A 0 c]).run P w = .ok (.slice (some ⟨gl, 0, none⟩) 0 0) w := by
      cases A with
      | none => simp [Builtin.append_, run_underlying ht, sizeOf, typeInfo, hi, Builtin.lenOf, Builtin.firstCells, storeCells]
      | some ad => simp [Builtin.append_, run_underlying ht, sizeOf, typeInfo, hi, Builtin.lenOf, Builtin.firstCells, storeCells, loadCells, loadCellsFrom]
    unfold Oper.wp execOp
    simp only [ho, resolve, invoke, builtin, Sem.run_bind, Sem.run_pure, Result.andThen_ok, List.map_toArray, List.map_cons, List.map_nil, hs, hx, hrun]
    refine h _ _ w ⟨fun k hk => ?_, [], hown, fun k y hy => by simp at hy⟩ (Below.refl _ _)
    have : gl = k := by simpa [Value.ownBlock] using hk
    subst this
    exact hSl
  · obtain ⟨ad, rfl⟩ : ∃ ad, A = some ad := by
      obtain ⟨b, off, _, hA, _⟩ := hR.2.2 0 (ys[0]'(by rw [hR.1]; exact hq)) (List.getElem?_eq_getElem _)
      exact ⟨_, hA⟩
    obtain ⟨news, hl, hnews, h1, hrd⟩ := rows_news g hR
    have hsmall : q ≤ 9223372036854775807 := by simp only [maxLen] at h63; omega
    obtain ⟨v', w', hr, hown', _, _, hat⟩ := run_append_own_at (P := P) w base t o.type e i z m bytes ht hi hz hsize hby hzs hsz _ 0 [] hown ad q c news hl hnews h1 (by omega) (by rw [Nat.zero_add]; exact hbytes) hbase
    have hr2 := run_append_grow (P := P) (ty := o.type) w t e i z ht hi hz ⟨gl, 0, none⟩ 0 0 [] (by simp) (fun j v hv => by simp at hv) ad q c news (by rw [hsize]; exact hl) hnews (by omega) (by omega) (growslice_fits (by omega) (by rw [Nat.zero_add, hby]; exact hbytes))
    have hrr := hr.symm.trans hr2
    injection hrr with e1 e2
    have hb : Below w.heap.size w w' := by rw [e2]; exact bl_alloc (Below.refl _ _).drew _ (Nat.le_refl _)
    unfold Oper.wp execOp
    simp only [ho, resolve, invoke, builtin, Sem.run_bind, Sem.run_pure, Result.andThen_ok, List.map_toArray, List.map_cons, List.map_nil, hs, hx, hr]
    rw [Nat.zero_add] at e1
    rw [e1] at hown' ⊢
    refine h _ _ w' ⟨fun k hk => ?_, news, by rw [hR.1]; simpa using hown', fun k y hy => ?_⟩ hb
    · have : w.heap.size = k := by simpa [Value.ownBlock] using hk
      subst this
      exact hS
    · obtain ⟨vs, hv, hc⟩ := hrd k y hy
      exact ⟨vs, g.keep (hconv y vs hv) (Keeps.below hb), hc⟩

theorem blk_news4 {w : World} {g : Nat} {t : TypeId} {x y z u : Value} (h : Blk w g t #[x, y, z, u]) {j : Nat} {v : Value} (hv : [x, y, z, u][j]? = some v) : w.cell? ((⟨g, 0, none⟩ : Addr).add j) = some v := by
  have hadd : (⟨g, 0, none⟩ : Addr).add j = ⟨g, j, none⟩ := by unfold Addr.add; split <;> simp_all
  rw [hadd, h.cell]
  simpa using hv
/-- an invariant of single promises; two operations may change what the others promise -/
def InvG (B : Nat) (W0 : World) (E : Nat → Bool → Bool → Value → World → Prop) (j0 j1 : Nat) (ls : Nat → Bool) (vs : Nat → Value) (w : World) : Prop :=
  Below B W0 w ∧ ∀ i, ls i = true → E i (ls j0) (ls j1) (vs i) w
theorem InvG.step {B : Nat} {W0 : World} {E : Nat → Bool → Bool → Value → World → Prop} {j0 j1 j : Nat} {ls : Nat → Bool} {vs : Nat → Value} {w w' : World} {v : Value} (stab : ∀ i p q v w w', Below w.heap.size w w' → E i p q v w → E i p q v w') (hI : InvG B W0 E j0 j1 ls vs w) (hb : Below w.heap.size w w') (hB : B ≤ w.heap.size) (hj : j ≠ j0) (hj1 : j ≠ j1) (hv : E j (ls j0) (ls j1) v w') : InvG B W0 E j0 j1 (updB ls j) (updV vs j v) w' := by
  refine ⟨hI.1.trans (hb.mono hB), fun i hi => ?_⟩
  have h0 : updB ls j j0 = ls j0 := by unfold updB; rw [if_neg (fun e => hj e.symm)]
  have h1 : updB ls j j1 = ls j1 := by unfold updB; rw [if_neg (fun e => hj1 e.symm)]
  rw [h0, h1]
  by_cases hij : i = j
  · subst hij; simpa [updV] using hv
  · have : updB ls j i = ls i := by unfold updB; rw [if_neg hij]
    rw [this] at hi
    rw [show updV vs j v i = vs i by simp [updV, hij]]
    exact stab _ _ _ _ _ _ hb (hI.2 i hi)

theorem OwnL.blk {α : Type} {R : Rd α} {m : Nat} {S : Foot} {w : World} {base : Nat} {e : TypeId} {v : Value} {xs : List α} (h : OwnL R m S w base e v xs) {k : Nat} (hk : v.ownBlock = some k) : ∃ cur, Blk w k e cur := by
  obtain ⟨_, cells, ho, _⟩ := h
  rcases ho.2 with ⟨e, _⟩ | ⟨gb, cap, cur, e, _, hgg, _⟩
  · subst e; simp [Value.ownBlock] at hk
  · subst e
    have : gb = k := by simpa [Value.ownBlock] using hk
    subst this
    exact ⟨cur, hgg⟩
theorem Blk.ty {w : World} {g : Nat} {t1 t2 : TypeId} {c1 c2 : Array Value} (h1 : Blk w g t1 c1) (h2 : Blk w g t2 c2) : t1 = t2 := by
  have e := h1.symm.trans h2
  injection e with e
  injection e
theorem wp_frameE {c : Code} {P : Program} {Q : Exit → Act → World → Prop} {a : Act} {w : World} (h : ∀ a0 : Act, a0 = a → c.wp P Q a0 w) : c.wp P Q a w := h a rfl
end Go.Proofs.YtpdldmichpmgmaaGreat
