/- A part of the proof that TopMoulds always answers true. -/
import Derived.WalkKit
import Derived.WalkSpells
import Derived.WalkLawsBesides
import Derived.BigQuiet
import Derived.Deep.QuietTactic
import Derived.Outline
import Derived.Lib.Hide
import Derived.RangeFuncBox
import Derived.Maps.AppendAt
import Derived.Deep.AppendLies
import Derived.Test.YtkpbchnggdnmaaaGreatCPure
set_option linter.all false
namespace Go.Proofs.YtkpbchnggdnmaaaGreat
structure OkS (s : Shop) : Prop where
 shrink : 0 ≤ s.klo ∧ s.klo ≤ s.khi ∧ s.khi ≤ s.klo + 6 ∧ s.khi ≤ 100
 nm : 1 ≤ s.moulds.length ∧ s.moulds.length ≤ 4
 mould : ∀ {k : Nat}, k < s.moulds.length → mouldE s.moulds k = 0
theorem okS_of {s : Shop} (e : (check7 s).2.2 = 0) : OkS s := by
 unfold check7 at e
 split at e
 ·cases e
 split at e
 ·cases e
 split at e
 ·cases e
 rename_i g1 g2 g3
 simp [inB] at g1 g2
 rcases firstErr_cases (mouldE s.moulds) s.moulds.length with ⟨h4, h5⟩ | ⟨k, _, h4, h5, _⟩
 ·exact ⟨by omega, by omega, fun hk => h5 _ hk⟩
 rw [h4] at e; exact absurd e h5
theorem mouldE_zero {l : List Mould} {k : Nat} {x : Mould} (h : l[k]? = some x) (he : mouldE l k = 0) : (1 ≤ x.slo ∧ x.slo ≤ x.shi ∧ x.shi ≤ x.slo + 12 ∧ x.shi ≤ 20000) ∧ (0 ≤ x.wlo ∧ x.wlo ≤ x.whi ∧ x.whi ≤ x.wlo + 3 ∧ x.whi ≤ 20) ∧ 1 ≤ x.casts ∧ x.casts ≤ 8 := by
 unfold mouldE at he
 rw [getD_of h] at he
 dsimp only at he
 split at he
 ·rename_i h1; exact absurd he h1
 unfold mouldN at he
 split at he
 ·cases he
 split at he
 ·cases he
 rename_i h2 h3
 simp [inB] at h2 h3
 omega
theorem seen7_bad {s : Shop} {l : List SeenC} (h : err7 s ≠ 0) : seen7 s l = (0, err7 s) := by rw [seen7, if_pos h]
theorem seen7_long {s : Shop} {l : List SeenC} (h : err7 s = 0) (h2 : 6 < l.length) : seen7 s l = (0, 3) := by rw [seen7, if_neg (by simp [h]), if_pos h2]
theorem seen7_n {s : Shop} {l : List SeenC} (h : err7 s = 0) (h2 : ¬ 6 < l.length) : seen7 s l = match firstErr (seenE7 s l) l.length with
  | some (k, e) => ((k : Int), e)
  | none => (0, 0) := by rw [seen7, if_neg (by simp [h]), if_neg h2]; rfl
theorem seen7_zero {s : Shop} {l : List SeenC} (e : (seen7 s l).2 = 0) : (check7 s).2.2 = 0 ∧ l.length ≤ 6 ∧ ∀ k, k < l.length → seenE7 s l k = 0 := by
 by_cases h1 : err7 s = 0
 ·by_cases h2 : 6 < l.length
  ·rw [seen7_long h1 h2] at e; cases e
  rw [seen7_n h1 h2] at e
  rcases firstErr_cases (seenE7 s l) l.length with ⟨_, h3⟩ | ⟨k, _, h4, h5, _⟩
  ·exact ⟨h1, by omega, h3⟩
  rw [h4] at e; exact absurd e h5
 rw [seen7_bad h1] at e; exact absurd e h1
theorem seen7_one {s : Shop} {l : List SeenC} {k : Nat} {y : SeenC} (h : l[k]? = some y) (e : seenE7 s l k = 0) : (0 ≤ y.mould ∧ y.mould < s.moulds.length) ∧ (0 ≤ y.cast ∧ y.cast < (s.moulds.getD y.mould.toNat dMould).casts) ∧ 0 ≤ y.lo ∧ y.lo ≤ y.hi ∧ y.hi ≤ 20000 := by
 unfold seenE7 at e
 rw [getD_of h] at e
 dsimp only at e
 split at e
 ·cases e
 rename_i g1
 unfold there7 at g1
 simp [inB] at g1
 unfold rangeE at e
 split at e
 ·cases e
 split at e
 ·cases e
 rename_i g2 g3
 simp [inB] at g2 g3
 rw [List.getD_eq_getElem?_getD]
 omega
theorem made7_bd {a w c k : Int} (h1 : 1 ≤ a ∧ a ≤ 20000) (h2 : 0 ≤ w ∧ w ≤ 20) (h3 : 0 ≤ c ∧ c ≤ 8) (h4 : 0 ≤ k ∧ k ≤ 100) : 0 ≤ w * c ∧ w * c ≤ 160 ∧ 0 ≤ (a + w * c) * k ∧ (a + w * c) * k ≤ 2016000 ∧ 1 ≤ made7 a w c k ∧ made7 a w c k ≤ 20160 := by
 have q1 : 0 ≤ w * c := Int.mul_nonneg h2.1 h3.1
 have q2 : w * c ≤ 20 * 8 := Int.mul_le_mul h2.2 h3.2 h3.1 (by decide)
 obtain ⟨n, hn⟩ : ∃ n, a + w * c = n := ⟨_, rfl⟩
 have q3 : 0 ≤ n * k := Int.mul_nonneg (by omega) h4.1
 have q4 : n * k ≤ n * 100 := Int.mul_le_mul_of_nonneg_left h4.2 (by omega)
 have hq : (n * k).tdiv 1000 = (n * k) / 1000 := Int.tdiv_eq_ediv_of_nonneg q3
 unfold made7
 rw [hn, hq]
 omega
theorem twos7_bd {s : Shop} {l : List SeenC} {m : Nat} {k : Int} (hk : OkS s) (hm : m < s.moulds.length) {p : Int × Int} (hp : p ∈ twosC s l m k) : (1 ≤ p.1 ∧ p.1 ≤ 20000) ∧ 0 ≤ p.2 ∧ p.2 ≤ 20 := by
 have hx : s.moulds[m]? = some s.moulds[m] := List.getElem?_eq_getElem hm
 have hz := mouldE_zero hx (hk.mould hm)
 unfold twosC at hp
 rw [getD_of hx] at hp
 obtain ⟨hm1, _⟩ := List.mem_filter.1 hp
 obtain ⟨j, hk2, rfl⟩ := List.mem_map.1 hm1
 have hk3 := List.mem_range.1 hk2
 generalize s.moulds[m] = x at *
 have hs : 0 < wearN x := by unfold wearN; omega
 have hd : j / wearN x < sizeN x := by rw [Nat.mul_comm] at hk3; exact Nat.div_lt_of_lt_mul hk3
 have hm2 : j % wearN x < wearN x := Nat.mod_lt _ hs
 unfold pairC
 dsimp only
 generalize j / wearN x = d at *
 generalize j % wearN x = e at *
 unfold sizeN at hd
 unfold wearN at hm2
 omega
theorem shrinkL_bd {s : Shop} (hk : OkS s) {k : Int} (h : k ∈ shrinkL s) : 0 ≤ k ∧ k ≤ 100 ∧ s.klo ≤ k ∧ k ≤ s.khi := by
 unfold shrinkL at h
 obtain ⟨i, hi, rfl⟩ := List.mem_map.1 h
 have := List.mem_range.1 hi
 have := hk.shrink
 omega
theorem known7_mem {s : Shop} {l : List SeenC} {k : Int} (h : k ∈ known7 s l) : k ∈ shrinkL s ∧ knownB s l k = true := List.mem_filter.1 h
theorem known7_two {s : Shop} {l : List SeenC} {k : Int} {m : Nat} (h : knownB s l k = true) (hm : m < s.moulds.length) : twosC s l m k ≠ [] := by
 unfold knownB at h
 rw [List.all_eq_true] at h
 have := h m (List.mem_range.2 hm)
 simpa using this
theorem places_len {s : Shop} (hk : OkS s) : (placesL s).length ≤ 32 := by
 unfold placesL
 have key : ∀ n : Nat, n ≤ s.moulds.length → ((List.range n).flatMap fun m => (List.range (s.moulds.getD m dMould).casts.toNat).map fun c => (m, c)).length ≤ n * 8 := by
  intro n
  induction n with
  | zero => intro _; simp
  | succ n ih =>
   intro hn
   rw [List.range_succ, List.flatMap_append, List.length_append, List.flatMap_singleton, List.length_map, List.length_range]
   have := ih (by omega)
   have hx : s.moulds[n]? = some s.moulds[n] := List.getElem?_eq_getElem (by omega)
   have hz := (mouldE_zero hx (hk.mould (by omega))).2.2
   rw [getD_of hx]
   omega
 have := key s.moulds.length (Nat.le_refl _)
 have := hk.nm.2
 omega
theorem places_mem {s : Shop} {p : Nat × Nat} : p ∈ placesL s ↔ p.1 < s.moulds.length ∧ (p.2 : Int) < (s.moulds.getD p.1 dMould).casts := by
 unfold placesL
 rw [List.mem_flatMap]
 constructor
 ·rintro ⟨m, hm, h⟩
  obtain ⟨c, hc, rfl⟩ := List.mem_map.1 h
  have := List.mem_range.1 hc
  exact ⟨List.mem_range.1 hm, by dsimp only; omega⟩
 rintro ⟨h1, h2⟩
 exact ⟨p.1, List.mem_range.2 h1, List.mem_map.2 ⟨p.2, List.mem_range.2 (by omega), rfl⟩⟩
theorem ends_at7 (L : List Int) : ∀ lo hi : Int, ((ends lo hi L).1 = lo ∨ (ends lo hi L).1 ∈ L) ∧ ((ends lo hi L).2 = hi ∨ (ends lo hi L).2 ∈ L) ∧ (ends lo hi L).1 ≤ lo ∧ hi ≤ (ends lo hi L).2 ∧ ∀ x ∈ L, (ends lo hi L).1 ≤ x ∧ x ≤ (ends lo hi L).2 := by
 induction L with
 | nil => intro lo hi; exact ⟨.inl rfl, .inl rfl, Int.le_refl _, Int.le_refl _, fun x h => by cases h⟩
 | cons y L ih =>
  intro lo hi
  obtain ⟨h1, h2, h3, h4, h5⟩ := ih (min lo y) (max hi y)
  simp only [ends]
  refine ⟨?_, ?_, by omega, by omega, fun x hx => ?_⟩
  ·rcases h1 with h1 | h1
   ·rw [h1]
    by_cases hm : lo ≤ y
    ·left; omega
    right; rw [show min lo y = y by omega]; exact List.mem_cons_self
   exact .inr (List.mem_cons_of_mem _ h1)
  ·rcases h2 with h2 | h2
   ·rw [h2]
    by_cases hm : y ≤ hi
    ·left; omega
    right; rw [show max hi y = y by omega]; exact List.mem_cons_self
   exact .inr (List.mem_cons_of_mem _ h2)
  rcases List.mem_cons.1 hx with rfl | hx
  ·omega
  exact h5 x hx
theorem endsOf_at7 {L : List Int} (h : L ≠ []) : (endsOf L).1 ∈ L ∧ (endsOf L).2 ∈ L ∧ ∀ x ∈ L, (endsOf L).1 ≤ x ∧ x ≤ (endsOf L).2 := by
 cases L with
 | nil => exact absurd rfl h
 | cons y L =>
  obtain ⟨h1, h2, h3, h4, h5⟩ := ends_at7 L y y
  simp only [endsOf]
  refine ⟨?_, ?_, fun x hx => ?_⟩
  ·rcases h1 with h1 | h1
   ·rw [h1]; exact List.mem_cons_self
   exact List.mem_cons_of_mem _ h1
  ·rcases h2 with h2 | h2
   ·rw [h2]; exact List.mem_cons_self
   exact List.mem_cons_of_mem _ h2
  rcases List.mem_cons.1 hx with rfl | hx
  ·exact ⟨h3, h4⟩
  exact h5 x hx
def InM (x : Mould) (p : Int × Int) : Prop := x.slo ≤ p.1 ∧ p.1 ≤ x.shi ∧ x.wlo ≤ p.2 ∧ p.2 ≤ x.whi
theorem twoOk_iff {l : List SeenC} {m : Nat} {k a w : Int} : twoOk7 l m k a w = true ↔ ∀ y ∈ l, y.mould = (m : Int) → y.lo ≤ made7 a w y.cast k ∧ made7 a w y.cast k ≤ y.hi := by
 unfold twoOk7
 rw [List.all_eq_true]
 constructor
 ·intro h y hy e
  have := h y hy
  simpa [e, inB] using this
 intro h y hy
 by_cases e : y.mould = (m : Int)
 ·have := h y hy e
  simp [e, inB, this]
 simp [e]
theorem twos_mem {s : Shop} {l : List SeenC} {m : Nat} {k : Int} {p : Int × Int} (hk : OkS s) (hm : m < s.moulds.length) : p ∈ twosC s l m k ↔ InM (s.moulds.getD m dMould) p ∧ twoOk7 l m k p.1 p.2 = true := by
 have hx : s.moulds[m]? = some s.moulds[m] := List.getElem?_eq_getElem hm
 have hz := mouldE_zero hx (hk.mould hm)
 unfold twosC
 rw [getD_of hx]
 generalize s.moulds[m] = x at *
 have hs : 0 < wearN x := by unfold wearN; omega
 rw [List.mem_filter]
 refine and_congr_left fun _ => ?_
 constructor
 ·intro hm1
  obtain ⟨j, hk2, rfl⟩ := List.mem_map.1 hm1
  have hk3 := List.mem_range.1 hk2
  have hd : j / wearN x < sizeN x := by rw [Nat.mul_comm] at hk3; exact Nat.div_lt_of_lt_mul hk3
  have hm2 : j % wearN x < wearN x := Nat.mod_lt _ hs
  unfold pairC InM
  dsimp only
  generalize j / wearN x = d at *
  generalize j % wearN x = e at *
  unfold sizeN at hd
  unfold wearN at hm2
  omega
 rintro ⟨h1, h2, h3, h4⟩
 have hd : (p.1 - x.slo).toNat < sizeN x := by unfold sizeN; omega
 have hw : (p.2 - x.wlo).toNat < wearN x := by unfold wearN; omega
 refine List.mem_map.2 ⟨(p.1 - x.slo).toNat * wearN x + (p.2 - x.wlo).toNat, List.mem_range.2 ?_, ?_⟩
 ·have : ((p.1 - x.slo).toNat + 1) * wearN x ≤ sizeN x * wearN x := Nat.mul_le_mul_right _ (by omega)
  rw [Nat.succ_mul] at this
  omega
 unfold pairC
 rw [Nat.add_comm, Nat.add_mul_div_right _ _ hs, Nat.div_eq_of_lt hw, Nat.add_mul_mod_self_right, Nat.mod_eq_of_lt hw, Nat.zero_add]
 exact Prod.ext (by dsimp only; omega) (by dsimp only; omega)
theorem shrink_mem {s : Shop} {k : Int} : k ∈ shrinkL s ↔ s.klo ≤ k ∧ k ≤ s.khi := by
 unfold shrinkL
 rw [List.mem_map]
 constructor
 ·rintro ⟨i, hi, rfl⟩
  have := List.mem_range.1 hi
  omega
 rintro ⟨h1, h2⟩
 exact ⟨(k - s.klo).toNat, List.mem_range.2 (by omega), by omega⟩
theorem knownB_iff {s : Shop} {l : List SeenC} {k : Int} : knownB s l k = true ↔ ∀ m, m < s.moulds.length → ∃ p, p ∈ twosC s l m k := by
 unfold knownB
 rw [List.all_eq_true]
 constructor
 ·intro h m hm
  have := h m (List.mem_range.2 hm)
  exact List.exists_mem_of_ne_nil _ (by simpa using this)
 intro h m hm
 obtain ⟨p, hp⟩ := h m (List.mem_range.1 hm)
 have := List.ne_nil_of_mem hp
 simpa using this
theorem known_iff {s : Shop} {l : List SeenC} {k : Int} : k ∈ known7 s l ↔ (s.klo ≤ k ∧ k ≤ s.khi) ∧ ∀ m, m < s.moulds.length → ∃ p, p ∈ twosC s l m k := by
 unfold known7
 rw [List.mem_filter, shrink_mem, knownB_iff]
theorem made_mem {s : Shop} {l : List SeenC} {m : Nat} {c n : Int} : n ∈ madeL s l m c ↔ ∃ k ∈ known7 s l, ∃ p ∈ twosC s l m k, made7 p.1 p.2 c k = n := by
 unfold madeL
 simp only [List.mem_flatMap, List.mem_map]
theorem made_ne {s : Shop} {l : List SeenC} {m : Nat} {c : Int} (hm : m < s.moulds.length) (h : known7 s l ≠ []) : madeL s l m c ≠ [] := by
 obtain ⟨k, hk⟩ := List.exists_mem_of_ne_nil _ h
 obtain ⟨p, hp⟩ := (known_iff.1 hk).2 m hm
 exact List.ne_nil_of_mem (made_mem.2 ⟨k, hk, p, hp, rfl⟩)
theorem size_at {s : Shop} {l : List SeenC} {m : Nat} {c : Int} (hm : m < s.moulds.length) (h : known7 s l ≠ []) : (size7 s l m c).1 ∈ madeL s l m c ∧ (size7 s l m c).2 ∈ madeL s l m c ∧ ∀ x ∈ madeL s l m c, (size7 s l m c).1 ≤ x ∧ x ≤ (size7 s l m c).2 :=
 endsOf_at7 (made_ne hm h)
theorem seen7_ok {s : Shop} {l : List SeenC} (h1 : (check7 s).2.2 = 0) (h2 : l.length ≤ 6) (h3 : ∀ k, k < l.length → seenE7 s l k = 0) : seen7 s l = (0, 0) := by
 rw [seen7_n h1 (by omega)]
 rw [firstErr_none h3]
theorem seenE_of {s : Shop} {l : List SeenC} {k : Nat} {y : SeenC} (h : l[k]? = some y) (h1 : 0 ≤ y.mould ∧ y.mould < s.moulds.length) (h2 : 0 ≤ y.cast ∧ y.cast < (s.moulds.getD y.mould.toNat dMould).casts) (h3 : 0 ≤ y.lo ∧ y.lo ≤ y.hi ∧ y.hi ≤ 20000) : seenE7 s l k = 0 := by
 unfold seenE7
 rw [getD_of h]
 dsimp only
 have ht : there7 s y.mould y.cast = true := by
  unfold there7
  simp only [inB, Bool.and_eq_true, decide_eq_true_eq]
  omega
 rw [ht]
 unfold rangeE
 simp [inB]
 omega
open Go.RowKit
abbrev Foot := Nat → Prop
abbrev Rd (α : Type) := Foot → World → α → List Value → Prop
structure Keeps (S : Foot) (w w' : World) : Prop where
 size : w.heap.size ≤ w'.heap.size
 block : ∀ k, S k → k < w.heap.size → w'.heap[k]? = w.heap[k]?
theorem Keeps.sub {S T : Foot} {a b : World} (h : Keeps S a b) (hT : ∀ k, T k → S k) : Keeps T a b := ⟨h.size, fun k hk => h.block k (hT k hk)⟩
theorem Keeps.below {S : Foot} {w w' : World} (h : Below w.heap.size w w') : Keeps S w w' := ⟨h.size, fun k _ hk => h.block k hk⟩
theorem Keeps.alloc {S : Foot} (w : World) (o : Obj) : Keeps S w (w.alloc o) := ⟨by simp, fun k _ hk => Below.heap_alloc w o k hk⟩
theorem Keeps.drew {S : Foot} (w : World) : Keeps S w w.drew := ⟨Nat.le_refl _, fun _ _ _ => rfl⟩
theorem Keeps.drewN {S : Foot} (w : World) (n : Nat) : Keeps S w (w.drewN n) := ⟨Nat.le_refl _, fun _ _ _ => rfl⟩
theorem Keeps.setCell {S : Foot} (w : World) (a : Addr) (v : Value) (h : ¬ S a.block) : Keeps S w (w.setCell a v) :=
 ⟨by simp [World.setCell], fun k hk _ => Below.heap_setCell w a v k (fun e => h (e ▸ hk))⟩
theorem Keeps.grown {S : Foot} {w w' : World} {row : Option Nat} (hg : w.grownBy w' row) (h : ∀ k, row = some k → ¬ S k) : Keeps S w w' :=
 ⟨hg.size, fun k hk hlt => hg.block k hlt (fun e => h k e.symm hk)⟩
theorem Keeps.cell {S : Foot} {w w' : World} (h : Keeps S w w') {p : Addr} (hS : S p.block) (hlt : p.block < w.heap.size) : w'.cell? p = w.cell? p :=
 World.cell?_of_block (h.block _ hS hlt)
structure Rd.Good {α : Type} (R : Rd α) (m : Nat) : Prop where
 len : ∀ {S w x vs}, R S w x vs → vs.length = m
 one : ∀ {S w x vs}, R S w x vs → ∀ v ∈ vs, v.oneCell' = true
 keep : ∀ {S w w' x vs}, R S w x vs → Keeps S w w' → R S w' x vs
 mono : ∀ {S T w x vs}, R S w x vs → (∀ k, S k → T k) → R T w x vs
 bound : ∀ {S w x vs}, R S w x vs → R (fun k => S k ∧ k < w.heap.size) w x vs
def SliceOf {α : Type} (R : Rd α) (m : Nat) (S : Foot) (w : World) (A : Option Addr) (n : Nat) (xs : List α) : Prop :=
 xs.length = n ∧ n ≤ maxLen ∧ ∀ k x, xs[k]? = some x → ∃ b off vs, A = some ⟨b, off, none⟩ ∧ S b ∧ b < w.heap.size ∧ R S w x vs ∧ ∀ j v, vs[j]? = some v → w.cell? ⟨b, off + k * m + j, none⟩ = some v
theorem SliceOf.len {α : Type} {R : Rd α} {m : Nat} {S : Foot} {w : World} {A : Option Addr} {n : Nat} {xs : List α} (h : SliceOf R m S w A n xs) : xs.length = n := h.1
theorem SliceOf.le {α : Type} {R : Rd α} {m : Nat} {S : Foot} {w : World} {A : Option Addr} {n : Nat} {xs : List α} (h : SliceOf R m S w A n xs) : n ≤ 9223372036854775807 := h.2.1
theorem SliceOf.keep {α : Type} {R : Rd α} {m : Nat} {S : Foot} {w w' : World} {A : Option Addr} {n : Nat} {xs : List α} (g : R.Good m) (h : SliceOf R m S w A n xs) (hk : Keeps S w w') : SliceOf R m S w' A n xs :=
 ⟨h.1, h.2.1, fun k x hx => by
  obtain ⟨b, off, vs, hA, hS, hb, hR, hc⟩ := h.2.2 k x hx
  exact ⟨b, off, vs, hA, hS, Nat.lt_of_lt_of_le hb hk.size, g.keep hR hk, fun j v hv => (hk.cell (p := ⟨b, _, none⟩) hS hb).trans (hc j v hv)⟩⟩
theorem SliceOf.mono {α : Type} {R : Rd α} {m : Nat} {S T : Foot} {w : World} {A : Option Addr} {n : Nat} {xs : List α} (g : R.Good m) (h : SliceOf R m S w A n xs) (hk : ∀ k, S k → T k) : SliceOf R m T w A n xs :=
 ⟨h.1, h.2.1, fun k x hx => by
  obtain ⟨b, off, vs, hA, hS, hb, hR, hc⟩ := h.2.2 k x hx
  exact ⟨b, off, vs, hA, hk _ hS, hb, g.mono hR hk, hc⟩⟩
theorem SliceOf.nil {α : Type} (R : Rd α) (m : Nat) (S : Foot) (w : World) (A : Option Addr) : SliceOf R m S w A 0 [] := ⟨rfl, Nat.zero_le _, fun k x hx => by simp at hx⟩
theorem SliceOf.bound {α : Type} {R : Rd α} {m : Nat} {S : Foot} {w : World} {A : Option Addr} {n : Nat} {xs : List α} (g : R.Good m) (h : SliceOf R m S w A n xs) : SliceOf R m (fun k => S k ∧ k < w.heap.size) w A n xs :=
 ⟨h.1, h.2.1, fun k x hx => by
  obtain ⟨b, off, vs, hA, hS, hb, hR, hc⟩ := h.2.2 k x hx
  exact ⟨b, off, vs, hA, ⟨hS, hb⟩, hb, g.bound hR, hc⟩⟩
def SlR {α : Type} (R : Rd α) (m : Nat) : Rd (List α) := fun S w xs vs => ∃ A n c, vs = [.slice A n c] ∧ SliceOf R m S w A n xs
theorem SlR.good {α : Type} {R : Rd α} {m : Nat} (g : R.Good m) : (SlR R m).Good 1 where
 len := by rintro S w x vs ⟨A, n, c, rfl, h⟩; rfl
 one := by rintro S w x vs ⟨A, n, c, rfl, h⟩ v hv; simp at hv; subst hv; rfl
 keep := by rintro S w w' x vs ⟨A, n, c, rfl, h⟩ hk; exact ⟨A, n, c, rfl, h.keep g hk⟩
 mono := by rintro S T w x vs ⟨A, n, c, rfl, h⟩ hk; exact ⟨A, n, c, rfl, h.mono g hk⟩
 bound := by rintro S w x vs ⟨A, n, c, rfl, h⟩; exact ⟨A, n, c, rfl, h.bound g⟩
def IntR : Rd Int := fun _ _ x vs => vs = [.int .i64 x]
theorem IntR.good : IntR.Good 1 where
 len := by rintro S w x vs rfl; rfl
 one := by rintro S w x vs rfl v hv; simp at hv; subst hv; rfl
 keep := by rintro S w w' x vs rfl hk; rfl
 mono := by rintro S T w x vs rfl hk; rfl
 bound := by rintro S w x vs rfl; rfl
def StrR : Rd (List UInt8) := fun _ _ x vs => ∃ s : ByteArray, vs = [.string s] ∧ s.data.toList = x ∧ s.size ≤ 9223372036854775807
theorem StrR.good : StrR.Good 1 where
 len := by rintro S w x vs ⟨s, rfl, _⟩; rfl
 one := by rintro S w x vs ⟨s, rfl, _⟩ v hv; simp at hv; subst hv; rfl
 keep := by rintro S w w' x vs ⟨s, rfl, h⟩ hk; exact ⟨s, rfl, h⟩
 mono := by rintro S T w x vs ⟨s, rfl, h⟩ hk; exact ⟨s, rfl, h⟩
 bound := by rintro S w x vs ⟨s, rfl, h⟩; exact ⟨s, rfl, h⟩
theorem of_getq' {α : Type} {xs : List α} {k : Nat} {x : α} (h : xs[k]? = some x) : k < xs.length := by
 obtain ⟨h, _⟩ := List.getElem?_eq_some_iff.1 h; exact h
def OwnL {α : Type} (R : Rd α) (m : Nat) (S : Foot) (w : World) (base : Nat) (e : TypeId) (v : Value) (xs : List α) : Prop :=
 (∀ k, v.ownBlock = some k → ¬ S k) ∧ ∃ cells, w.ownsRow base e m v xs.length cells ∧ ∀ k x, xs[k]? = some x → ∃ vs, R S w x vs ∧ ∀ j u, vs[j]? = some u → cells[k * m + j]? = some u
section
variable {α : Type} {R : Rd α} {m : Nat} {S : Foot} {w w' : World} {base : Nat} {e : TypeId} {v : Value} {xs : List α}
theorem OwnL.nil (R : Rd α) (m : Nat) (S : Foot) (w : World) (base : Nat) (e : TypeId) : OwnL R m S w base e (.slice none 0 0) [] :=
 ⟨fun k h => by simp [Value.ownBlock] at h, [], World.ownsRow_nil w base e m, fun k x h => by simp at h⟩
theorem OwnL.keep (g : R.Good m) (h : OwnL R m S w base e v xs) (hk : Keeps (fun k => S k ∨ v.ownBlock = some k) w w') : OwnL R m S w' base e v xs := by
 obtain ⟨h1, cells, ho, hx⟩ := h
 refine ⟨h1, cells, ⟨ho.1, ?_⟩, fun k x hk' => ?_⟩
 ·rcases ho.2 with hn | ⟨gb, cap, cur, rfl, hb, hgg, rest⟩
  ·exact .inl hn
  exact .inr ⟨gb, cap, cur, rfl, hb, (hk.block gb (.inr rfl) (Array.getElem?_eq_some_iff.1 hgg).1).trans hgg, rest⟩
 obtain ⟨vs, hR, hc⟩ := hx k x hk'
 exact ⟨vs, g.keep hR (hk.sub fun k h => .inl h), hc⟩
theorem OwnL.below (g : R.Good m) (h : OwnL R m S w base e v xs) (hb : Below w.heap.size w w') : OwnL R m S w' base e v xs := h.keep g (Keeps.below hb)
theorem OwnL.alloc (g : R.Good m) (h : OwnL R m S w base e v xs) (o : Obj) : OwnL R m S (w.alloc o) base e v xs := h.keep g (Keeps.alloc w o)
theorem OwnL.slice {T : Foot} (g : R.Good m) (h : OwnL R m S w base e v xs) {A : Option Addr} {n cap : Nat} (hv : v = .slice A n cap) (hn : n ≤ maxLen) (hST : ∀ k, S k → T k) (hT : ∀ k, base ≤ k → k < w.heap.size → T k) : SliceOf R m T w A n xs := by
 obtain ⟨h1, cells, ho, hx⟩ := h
 subst hv
 have hlen : xs.length = n := by
  rcases ho.2 with ⟨e, h0⟩ | ⟨gb, cap', cur, e, _⟩
  ·injection e with _ e _; rw [e, h0]
  injection e with _ e _; rw [e]
 refine ⟨hlen, hn, fun k x hk => ?_⟩
 obtain ⟨vs, hR, hc⟩ := hx k x hk
 rcases ho.2 with ⟨e, h0⟩ | ⟨gb, cap', cur, e, hb, hgg, _, _, _, htake⟩
 ·have := of_getq' hk; omega
 injection e with e1 e2 e3
 subst e1
 have hlt := (Array.getElem?_eq_some_iff.1 hgg).1
 refine ⟨gb, 0, vs, rfl, hT gb hb hlt, hlt, g.mono hR hST, fun j u hu => ?_⟩
 have h2 := hc j u hu
 rw [← htake, List.getElem?_take] at h2
 rw [cell_of_row w gb (0 + k * m + j) cur _ (0, 0) hgg]
 split at h2
 ·rw [Nat.zero_add]; simpa using h2
 cases h2
end
abbrev Ints := SliceOf IntR 1
abbrev Strs := SliceOf StrR 1
abbrev Rows := SliceOf (SlR IntR 1) 1
theorem Ints.get {S : Foot} {w : World} {A : Option Addr} {n : Nat} {xs : List Int} {k : Nat} (h : Ints S w A n xs) (hk : k < n) :
  ∃ b off x, A = some ⟨b, off, none⟩ ∧ w.cell? ⟨b, off + k, none⟩ = some (.int .i64 x) ∧ Hid (xs[k]? = some x) := by
 have hlt : k < xs.length := by rw [h.1]; exact hk
 obtain ⟨b, off, vs, hA, _, _, rfl, hc⟩ := h.2.2 k xs[k] (List.getElem?_eq_getElem hlt)
 exact ⟨b, off, xs[k], hA, by simpa using hc 0 _ rfl, List.getElem?_eq_getElem hlt⟩
theorem Strs.get {S : Foot} {w : World} {A : Option Addr} {n : Nat} {xs : List (List UInt8)} {k : Nat} (h : Strs S w A n xs) (hk : k < n) :
  ∃ b off s, A = some ⟨b, off, none⟩ ∧ w.cell? ⟨b, off + k, none⟩ = some (.string s) ∧ Hid (xs[k]? = some s.data.toList) ∧ s.size ≤ 9223372036854775807 := by
 have hlt : k < xs.length := by rw [h.1]; exact hk
 obtain ⟨b, off, vs, hA, _, _, ⟨s, rfl, hx, hs⟩, hc⟩ := h.2.2 k xs[k] (List.getElem?_eq_getElem hlt)
 exact ⟨b, off, s, hA, by simpa using hc 0 _ rfl, by rw [Hid, hx]; exact List.getElem?_eq_getElem hlt, hs⟩
theorem ret_bool {a b : Bool} (h : a = b) : Ending.returned (.bool a) = .returned (.bool b) := by rw [h]
theorem ret_int {k : IntKind} {a b : Int} (h : a = b) : Ending.returned (.int k a) = .returned (.int k b) := by rw [h]
theorem take_snoc_get {α : Type} {xs : List α} {k : Nat} {x : α} (h : xs[k]? = some x) : xs.take (k + 1) = xs.take k ++ [x] := by
 rw [List.take_add_one, h]; rfl
theorem drop_cons {α : Type} {xs : List α} {k : Nat} {x : α} (h : xs[k]? = some x) : xs.drop k = x :: xs.drop (k + 1) := by
 obtain ⟨hlt, hx⟩ := List.getElem?_eq_some_iff.1 h
 rw [List.drop_eq_getElem_cons hlt, hx]
theorem of_getq {α : Type} {xs : List α} {k : Nat} {x : α} (h : xs[k]? = some x) : k < xs.length := by
 obtain ⟨h, _⟩ := List.getElem?_eq_some_iff.1 h; exact h
theorem newc {w : World} {cs : Array Value} {t : TypeId} {i g : Nat} {v : Value} (h : cs[i]? = some v) (hg : g = w.heap.size) : (w.alloc (.cells cs t)).cell? ⟨g, i, none⟩ = some v := by
 subst hg; rw [cell_of_row _ _ _ cs t (0, 0) (heap_alloc_new w _)]; exact h
theorem news_new {w : World} {cs : Array Value} {t : TypeId} {g : Nat} {l : List Value} (hl : cs.toList = l) (hg : g = w.heap.size) : ∀ j u, l[j]? = some u → (w.alloc (.cells cs t)).cell? ((⟨g, 0, none⟩ : Addr).add j) = some u := by
 intro j u hu
 have hadd : (⟨g, 0, none⟩ : Addr).add j = ⟨g, j, none⟩ := by unfold Addr.add; split <;> simp_all
 rw [hadd]
 exact newc (by rw [← hl] at hu; simpa using hu) hg
theorem oldc {w : World} {o : Obj} {p : Addr} {v : Value} (h : w.cell? p = some v) : (w.alloc o).cell? p = some v :=
 (World.cell?_alloc_lt w o p (World.block_lt_of_cell? w p h)).trans h
theorem getc {w w' : World} {p : Addr} {v : Value} (hb : Below w.heap.size w w') (h : w.cell? p = some v) : w'.cell? p = some v :=
 (hb.cell (World.block_lt_of_cell? w p h)).trans h
theorem bl_alloc {B : Nat} {w w' : World} (h : Below B w w') (o : Obj) (hB : B ≤ w.heap.size) : Below B w (w'.alloc o) := h.alloc (Nat.le_trans hB h.size) o
theorem bl_call {B : Nat} {w w' w2 : World} (h : Below B w w') (h2 : Below w'.heap.size w' w2) (hB : B ≤ w.heap.size) : Below B w w2 := h.trans (h2.mono (Nat.le_trans hB h.size))
theorem bl_drewN {B : Nat} {w w' : World} (h : Below B w w') (q : Nat) : Below B w (w'.drewN q) := below_drewN h q
theorem wpList_append_one {P : Program} {ops : Array Oper} {rest : List Oper} {o : Oper} {a : Act} {Q : Exit → Act → World → Prop} (w : World) (hgd : o.guard = none) (s x : Operand) (t : TypeId)
  (ho : o.op = .call { callee := .builtin .append, args := #[s, x], argTypes := #[t, t] })
  {α : Type} {R : Rd α} {m : Nat} (g : R.Good m) {S : Foot} (base : Nat) (e : TypeId) (i : TypeInfo) (z : Value) (bytes : Nat) (ht : P.underlying t = some (.slice e)) (hi : P.info? e = some i) (hz : i.zero = some z)
  (hsize : i.size = m) (hby : i.bytes = bytes) (hzs : z.cells.size = m) (hsz : 0 < m)
  (v : Value) (xs : List α) (y : α) (hs : a.eval s = v) (hown : OwnL R m S w base e v xs)
  (ad : Addr) (c : Nat) (news : List Value) (hx : a.eval x = .slice (some ad) 1 c) (hR : R S w y news) (hnews : ∀ j u, news[j]? = some u → w.cell? (ad.add j) = some u)
  (h63 : xs.length + 1 ≤ maxLen) (hbytes : (xs.length + 1) * bytes ≤ 140737488355328) (hbase : base ≤ w.heap.size) (hS : ¬ S w.heap.size)
  (h : ∀ A' cap' w', OwnL R m S w' base e (.slice (some ⟨A', 0, none⟩) (xs.length + 1) cap') (xs ++ [y]) → w.grownBy w' v.ownBlock → (v.ownBlock = some A' ∨ A' = w.heap.size) → wpList P ops Q rest (a.put o.dst (.slice (some ⟨A', 0, none⟩) (xs.length + 1) cap')) w') : wpList P ops Q (o :: rest) a w := by
 obtain ⟨hS0, cells, hrow, hcells⟩ := hown
 refine wpList_append_own_at w hgd s x t ho base e i z m bytes ht hi hz hsize hby hzs hsz v xs.length cells hs hrow ad 1 c news hx (by rw [g.len hR]; omega) hnews (g.one hR) h63 hbytes hbase ?_
 intro v' w' hown' hgrow _ hat
 obtain ⟨gb, cap, rfl⟩ := ownsRow_succ hown'
 have hat' : v.ownBlock = some gb ∨ gb = w.heap.size := by
  rcases hat with e | e
  ·left; rw [← e]; rfl
  right; injection e
 have hk : Keeps S w w' := Keeps.grown hgrow hS0
 refine h gb cap w' ⟨fun k hk' => ?_, cells ++ news, by simpa using hown', fun k y' hy => ?_⟩ hgrow hat'
 ·have : gb = k := by simpa [Value.ownBlock] using hk'
  subst this
  rcases hat' with e | e
  ·exact hS0 _ e
  rw [e]; exact hS
 by_cases hlt : k < xs.length
 ·rw [List.getElem?_append_left hlt] at hy
  obtain ⟨vs, hR', hc⟩ := hcells k y' hy
  refine ⟨vs, g.keep hR' hk, fun j u hu => ?_⟩
  have h3 := hc j u hu
  rw [List.getElem?_append_left (of_getq' h3)]; exact h3
 have hk2 : k = xs.length := by have := of_getq' hy; simp at this; omega
 subst hk2
 simp at hy; subst hy
 refine ⟨news, g.keep hR hk, fun j u hu => ?_⟩
 rw [List.getElem?_append_right (by rw [hrow.1]; omega), hrow.1]
 rw [show xs.length * m + j - xs.length * m = j by omega]; exact hu
end Go.Proofs.YtkpbchnggdnmaaaGreat
