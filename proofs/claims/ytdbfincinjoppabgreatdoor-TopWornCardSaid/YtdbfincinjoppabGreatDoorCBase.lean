/- A part of the proof that TopWorn always answers true. -/
import Derived.WalkKit
import Derived.WalkSpells
import Derived.WalkLawsBesides
import Derived.BigQuiet
import Derived.Deep.QuietTactic
import Derived.Outline
import Derived.Lib.Hide
import Derived.RangeFuncBox
import Derived.Maps.AppendAt
import Derived.Deep.AppendLies
import Derived.Laws.OwnMore
import Derived.Laws.Rows
import Derived.Deep.RegionHeld3
set_option linter.all false
namespace Go.Proofs.YtdbfincinjoppabGreatDoor
open Go.RowKit
abbrev Foot := Nat → Prop
abbrev Rd (α : Type) := Foot → World → α → List Value → Prop
structure Keeps (S : Foot) (w w' : World) : Prop where
 size : w.heap.size ≤ w'.heap.size
 block : ∀ k, S k → k < w.heap.size → w'.heap[k]? = w.heap[k]?
theorem Keeps.refl (S : Foot) (w : World) : Keeps S w w := ⟨Nat.le_refl _, fun _ _ _ => rfl⟩
theorem Keeps.trans {S : Foot} {a b c : World} (h : Keeps S a b) (k : Keeps S b c) : Keeps S a c :=
 ⟨Nat.le_trans h.size k.size, fun i hi hlt => (k.block i hi (Nat.lt_of_lt_of_le hlt h.size)).trans (h.block i hi hlt)⟩
theorem Keeps.sub {S T : Foot} {a b : World} (h : Keeps S a b) (hT : ∀ k, T k → S k) : Keeps T a b := ⟨h.size, fun k hk => h.block k (hT k hk)⟩
theorem Keeps.below {S : Foot} {w w' : World} (h : Below w.heap.size w w') : Keeps S w w' := ⟨h.size, fun k _ hk => h.block k hk⟩
theorem Keeps.alloc {S : Foot} (w : World) (o : Obj) : Keeps S w (w.alloc o) := ⟨by simp, fun k _ hk => Below.heap_alloc w o k hk⟩
theorem Keeps.drew {S : Foot} (w : World) : Keeps S w w.drew := ⟨Nat.le_refl _, fun _ _ _ => rfl⟩
theorem Keeps.drewN {S : Foot} (w : World) (n : Nat) : Keeps S w (w.drewN n) := ⟨Nat.le_refl _, fun _ _ _ => rfl⟩
theorem Keeps.setCell {S : Foot} (w : World) (a : Addr) (v : Value) (h : ¬ S a.block) : Keeps S w (w.setCell a v) :=
 ⟨by simp [World.setCell], fun k hk _ => Below.heap_setCell w a v k (fun e => h (e ▸ hk))⟩
theorem Keeps.grown {S : Foot} {w w' : World} {row : Option Nat} (hg : w.grownBy w' row) (h : ∀ k, row = some k → ¬ S k) : Keeps S w w' :=
 ⟨hg.size, fun k hk hlt => hg.block k hlt (fun e => h k e.symm hk)⟩
theorem Keeps.cell {S : Foot} {w w' : World} (h : Keeps S w w') {p : Addr} (hS : S p.block) (hlt : p.block < w.heap.size) : w'.cell? p = w.cell? p :=
 World.cell?_of_block (h.block _ hS hlt)
structure Rd.Good {α : Type} (R : Rd α) (m : Nat) : Prop where
 len : ∀ {S w x vs}, R S w x vs → vs.length = m
 one : ∀ {S w x vs}, R S w x vs → ∀ v ∈ vs, v.oneCell' = true
 keep : ∀ {S w w' x vs}, R S w x vs → Keeps S w w' → R S w' x vs
 mono : ∀ {S T w x vs}, R S w x vs → (∀ k, S k → T k) → R T w x vs
 bound : ∀ {S w x vs}, R S w x vs → R (fun k => S k ∧ k < w.heap.size) w x vs
def SliceOf {α : Type} (R : Rd α) (m : Nat) (S : Foot) (w : World) (A : Option Addr) (n : Nat) (xs : List α) : Prop :=
 xs.length = n ∧ n ≤ maxLen ∧ ∀ k x, xs[k]? = some x → ∃ b off vs, A = some ⟨b, off, none⟩ ∧ S b ∧ b < w.heap.size ∧ R S w x vs ∧ ∀ j v, vs[j]? = some v → w.cell? ⟨b, off + k * m + j, none⟩ = some v
theorem SliceOf.len {α : Type} {R : Rd α} {m : Nat} {S : Foot} {w : World} {A : Option Addr} {n : Nat} {xs : List α} (h : SliceOf R m S w A n xs) : xs.length = n := h.1
theorem SliceOf.le {α : Type} {R : Rd α} {m : Nat} {S : Foot} {w : World} {A : Option Addr} {n : Nat} {xs : List α} (h : SliceOf R m S w A n xs) : n ≤ 9223372036854775807 := h.2.1
theorem SliceOf.keep {α : Type} {R : Rd α} {m : Nat} {S : Foot} {w w' : World} {A : Option Addr} {n : Nat} {xs : List α} (g : R.Good m) (h : SliceOf R m S w A n xs) (hk : Keeps S w w') : SliceOf R m S w' A n xs :=
 ⟨h.1, h.2.1, fun k x hx => by
  obtain ⟨b, off, vs, hA, hS, hb, hR, hc⟩ := h.2.2 k x hx
  exact ⟨b, off, vs, hA, hS, Nat.lt_of_lt_of_le hb hk.size, g.keep hR hk, fun j v hv => (hk.cell (p := ⟨b, _, none⟩) hS hb).trans (hc j v hv)⟩⟩
theorem SliceOf.mono {α : Type} {R : Rd α} {m : Nat} {S T : Foot} {w : World} {A : Option Addr} {n : Nat} {xs : List α} (g : R.Good m) (h : SliceOf R m S w A n xs) (hk : ∀ k, S k → T k) : SliceOf R m T w A n xs :=
 ⟨h.1, h.2.1, fun k x hx => by
  obtain ⟨b, off, vs, hA, hS, hb, hR, hc⟩ := h.2.2 k x hx
  exact ⟨b, off, vs, hA, hk _ hS, hb, g.mono hR hk, hc⟩⟩
theorem SliceOf.nil {α : Type} (R : Rd α) (m : Nat) (S : Foot) (w : World) (A : Option Addr) : SliceOf R m S w A 0 [] := ⟨rfl, Nat.zero_le _, fun k x hx => by simp at hx⟩
theorem SliceOf.bound {α : Type} {R : Rd α} {m : Nat} {S : Foot} {w : World} {A : Option Addr} {n : Nat} {xs : List α} (g : R.Good m) (h : SliceOf R m S w A n xs) : SliceOf R m (fun k => S k ∧ k < w.heap.size) w A n xs :=
 ⟨h.1, h.2.1, fun k x hx => by
  obtain ⟨b, off, vs, hA, hS, hb, hR, hc⟩ := h.2.2 k x hx
  exact ⟨b, off, vs, hA, ⟨hS, hb⟩, hb, g.bound hR, hc⟩⟩
def SlR {α : Type} (R : Rd α) (m : Nat) : Rd (List α) := fun S w xs vs => ∃ A n c, vs = [.slice A n c] ∧ SliceOf R m S w A n xs
theorem SlR.good {α : Type} {R : Rd α} {m : Nat} (g : R.Good m) : (SlR R m).Good 1 where
 len := by rintro S w x vs ⟨A, n, c, rfl, h⟩; rfl
 one := by rintro S w x vs ⟨A, n, c, rfl, h⟩ v hv; simp at hv; subst hv; rfl
 keep := by rintro S w w' x vs ⟨A, n, c, rfl, h⟩ hk; exact ⟨A, n, c, rfl, h.keep g hk⟩
 mono := by rintro S T w x vs ⟨A, n, c, rfl, h⟩ hk; exact ⟨A, n, c, rfl, h.mono g hk⟩
 bound := by rintro S w x vs ⟨A, n, c, rfl, h⟩; exact ⟨A, n, c, rfl, h.bound g⟩
def IntR : Rd Int := fun _ _ x vs => vs = [.int .i64 x]
theorem IntR.good : IntR.Good 1 where
 len := by rintro S w x vs rfl; rfl
 one := by rintro S w x vs rfl v hv; simp at hv; subst hv; rfl
 keep := by rintro S w w' x vs rfl hk; rfl
 mono := by rintro S T w x vs rfl hk; rfl
 bound := by rintro S w x vs rfl; rfl
def StrR : Rd (List UInt8) := fun _ _ x vs => ∃ s : ByteArray, vs = [.string s] ∧ s.data.toList = x ∧ s.size ≤ 9223372036854775807
theorem StrR.good : StrR.Good 1 where
 len := by rintro S w x vs ⟨s, rfl, _⟩; rfl
 one := by rintro S w x vs ⟨s, rfl, _⟩ v hv; simp at hv; subst hv; rfl
 keep := by rintro S w w' x vs ⟨s, rfl, h⟩ hk; exact ⟨s, rfl, h⟩
 mono := by rintro S T w x vs ⟨s, rfl, h⟩ hk; exact ⟨s, rfl, h⟩
 bound := by rintro S w x vs ⟨s, rfl, h⟩; exact ⟨s, rfl, h⟩
theorem of_getq' {α : Type} {xs : List α} {k : Nat} {x : α} (h : xs[k]? = some x) : k < xs.length := by
 obtain ⟨h, _⟩ := List.getElem?_eq_some_iff.1 h; exact h
def OwnL {α : Type} (R : Rd α) (m : Nat) (S : Foot) (w : World) (base : Nat) (e : TypeId) (v : Value) (xs : List α) : Prop :=
 (∀ k, v.ownBlock = some k → ¬ S k) ∧ ∃ cells, w.ownsRow base e m v xs.length cells ∧ ∀ k x, xs[k]? = some x → ∃ vs, R S w x vs ∧ ∀ j u, vs[j]? = some u → cells[k * m + j]? = some u
section
variable {α : Type} {R : Rd α} {m : Nat} {S : Foot} {w w' : World} {base : Nat} {e : TypeId} {v : Value} {xs : List α}
theorem OwnL.nil (R : Rd α) (m : Nat) (S : Foot) (w : World) (base : Nat) (e : TypeId) : OwnL R m S w base e (.slice none 0 0) [] :=
 ⟨fun k h => by simp [Value.ownBlock] at h, [], World.ownsRow_nil w base e m, fun k x h => by simp at h⟩
theorem OwnL.keep (g : R.Good m) (h : OwnL R m S w base e v xs) (hk : Keeps (fun k => S k ∨ v.ownBlock = some k) w w') : OwnL R m S w' base e v xs := by
 obtain ⟨h1, cells, ho, hx⟩ := h
 refine ⟨h1, cells, ⟨ho.1, ?_⟩, fun k x hk' => ?_⟩
 ·rcases ho.2 with hn | ⟨gb, cap, cur, rfl, hb, hgg, rest⟩
  ·exact .inl hn
  exact .inr ⟨gb, cap, cur, rfl, hb, (hk.block gb (.inr rfl) (Array.getElem?_eq_some_iff.1 hgg).1).trans hgg, rest⟩
 obtain ⟨vs, hR, hc⟩ := hx k x hk'
 exact ⟨vs, g.keep hR (hk.sub fun k h => .inl h), hc⟩
theorem OwnL.below (g : R.Good m) (h : OwnL R m S w base e v xs) (hb : Below w.heap.size w w') : OwnL R m S w' base e v xs := h.keep g (Keeps.below hb)
theorem OwnL.alloc (g : R.Good m) (h : OwnL R m S w base e v xs) (o : Obj) : OwnL R m S (w.alloc o) base e v xs := h.keep g (Keeps.alloc w o)
theorem OwnL.slice {T : Foot} (g : R.Good m) (h : OwnL R m S w base e v xs) {A : Option Addr} {n cap : Nat} (hv : v = .slice A n cap) (hn : n ≤ maxLen) (hST : ∀ k, S k → T k) (hT : ∀ k, base ≤ k → k < w.heap.size → T k) : SliceOf R m T w A n xs := by
 obtain ⟨h1, cells, ho, hx⟩ := h
 subst hv
 have hlen : xs.length = n := by
  rcases ho.2 with ⟨e, h0⟩ | ⟨gb, cap', cur, e, _⟩
  ·injection e with _ e _; rw [e, h0]
  injection e with _ e _; rw [e]
 refine ⟨hlen, hn, fun k x hk => ?_⟩
 obtain ⟨vs, hR, hc⟩ := hx k x hk
 rcases ho.2 with ⟨e, h0⟩ | ⟨gb, cap', cur, e, hb, hgg, _, _, _, htake⟩
 ·have := of_getq' hk; omega
 injection e with e1 e2 e3
 subst e1
 have hlt := (Array.getElem?_eq_some_iff.1 hgg).1
 refine ⟨gb, 0, vs, rfl, hT gb hb hlt, hlt, g.mono hR hST, fun j u hu => ?_⟩
 have h2 := hc j u hu
 rw [← htake, List.getElem?_take] at h2
 rw [cell_of_row w gb (0 + k * m + j) cur _ (0, 0) hgg]
 split at h2
 ·rw [Nat.zero_add]; simpa using h2
 cases h2
end
abbrev Ints := SliceOf IntR 1
abbrev Strs := SliceOf StrR 1
abbrev Rows := SliceOf (SlR IntR 1) 1
theorem Ints.get {S : Foot} {w : World} {A : Option Addr} {n : Nat} {xs : List Int} {k : Nat} (h : Ints S w A n xs) (hk : k < n) :
  ∃ b off x, A = some ⟨b, off, none⟩ ∧ w.cell? ⟨b, off + k, none⟩ = some (.int .i64 x) ∧ Hid (xs[k]? = some x) := by
 have hlt : k < xs.length := by rw [h.1]; exact hk
 obtain ⟨b, off, vs, hA, _, _, rfl, hc⟩ := h.2.2 k xs[k] (List.getElem?_eq_getElem hlt)
 exact ⟨b, off, xs[k], hA, by simpa using hc 0 _ rfl, List.getElem?_eq_getElem hlt⟩
theorem Strs.get {S : Foot} {w : World} {A : Option Addr} {n : Nat} {xs : List (List UInt8)} {k : Nat} (h : Strs S w A n xs) (hk : k < n) :
  ∃ b off s, A = some ⟨b, off, none⟩ ∧ w.cell? ⟨b, off + k, none⟩ = some (.string s) ∧ Hid (xs[k]? = some s.data.toList) ∧ s.size ≤ 9223372036854775807 := by
 have hlt : k < xs.length := by rw [h.1]; exact hk
 obtain ⟨b, off, vs, hA, _, _, ⟨s, rfl, hx, hs⟩, hc⟩ := h.2.2 k xs[k] (List.getElem?_eq_getElem hlt)
 exact ⟨b, off, s, hA, by simpa using hc 0 _ rfl, by rw [Hid, hx]; exact List.getElem?_eq_getElem hlt, hs⟩
theorem Rows.get {S : Foot} {w : World} {A : Option Addr} {n : Nat} {xs : List (List Int)} {k : Nat} (h : Rows S w A n xs) (hk : k < n) :
  ∃ b off x A' n' c', A = some ⟨b, off, none⟩ ∧ w.cell? ⟨b, off + k, none⟩ = some (.slice A' n' c') ∧ Ints S w A' n' x ∧ Hid (xs[k]? = some x) := by
 have hlt : k < xs.length := by rw [h.1]; exact hk
 obtain ⟨b, off, vs, hA, _, _, ⟨A', n', c', rfl, hi⟩, hc⟩ := h.2.2 k xs[k] (List.getElem?_eq_getElem hlt)
 exact ⟨b, off, xs[k], A', n', c', hA, by simpa using hc 0 _ rfl, hi, List.getElem?_eq_getElem hlt⟩
theorem ret_bool {a b : Bool} (h : a = b) : Ending.returned (.bool a) = .returned (.bool b) := by rw [h]
theorem ret_int {k : IntKind} {a b : Int} (h : a = b) : Ending.returned (.int k a) = .returned (.int k b) := by rw [h]
theorem take_snoc_get {α : Type} {xs : List α} {k : Nat} {x : α} (h : xs[k]? = some x) : xs.take (k + 1) = xs.take k ++ [x] := by
 rw [List.take_add_one, h]; rfl
theorem drop_cons {α : Type} {xs : List α} {k : Nat} {x : α} (h : xs[k]? = some x) : xs.drop k = x :: xs.drop (k + 1) := by
 obtain ⟨hlt, hx⟩ := List.getElem?_eq_some_iff.1 h
 rw [List.drop_eq_getElem_cons hlt, hx]
theorem of_getq {α : Type} {xs : List α} {k : Nat} {x : α} (h : xs[k]? = some x) : k < xs.length := by
 obtain ⟨h, _⟩ := List.getElem?_eq_some_iff.1 h; exact h
theorem newc {w : World} {cs : Array Value} {t : TypeId} {i g : Nat} {v : Value} (h : cs[i]? = some v) (hg : g = w.heap.size) : (w.alloc (.cells cs t)).cell? ⟨g, i, none⟩ = some v := by
 subst hg; rw [cell_of_row _ _ _ cs t (0, 0) (heap_alloc_new w _)]; exact h
theorem news_new {w : World} {cs : Array Value} {t : TypeId} {g : Nat} {l : List Value} (hl : cs.toList = l) (hg : g = w.heap.size) : ∀ j u, l[j]? = some u → (w.alloc (.cells cs t)).cell? ((⟨g, 0, none⟩ : Addr).add j) = some u := by
 intro j u hu
 have hadd : (⟨g, 0, none⟩ : Addr).add j = ⟨g, j, none⟩ := by unfold Addr.add; split <;> simp_all
 rw [hadd]
 exact newc (by rw [← hl] at hu; simpa using hu) hg
theorem oldc {w : World} {o : Obj} {p : Addr} {v : Value} (h : w.cell? p = some v) : (w.alloc o).cell? p = some v :=
 (World.cell?_alloc_lt w o p (World.block_lt_of_cell? w p h)).trans h
theorem getc {w w' : World} {p : Addr} {v : Value} (hb : Below w.heap.size w w') (h : w.cell? p = some v) : w'.cell? p = some v :=
 (hb.cell (World.block_lt_of_cell? w p h)).trans h
theorem bl_alloc {B : Nat} {w w' : World} (h : Below B w w') (o : Obj) (hB : B ≤ w.heap.size) : Below B w (w'.alloc o) := h.alloc (Nat.le_trans hB h.size) o
theorem bl_call {B : Nat} {w w' w2 : World} (h : Below B w w') (h2 : Below w'.heap.size w' w2) (hB : B ≤ w.heap.size) : Below B w w2 := h.trans (h2.mono (Nat.le_trans hB h.size))
theorem bl_drewN {B : Nat} {w w' : World} (h : Below B w w') (q : Nat) : Below B w (w'.drewN q) := below_drewN h q
theorem wpList_append_one {P : Program} {ops : Array Oper} {rest : List Oper} {o : Oper} {a : Act} {Q : Exit → Act → World → Prop} (w : World) (hgd : o.guard = none) (s x : Operand) (t : TypeId)
  (ho : o.op = .call { callee := .builtin .append, args := #[s, x], argTypes := #[t, t] })
  {α : Type} {R : Rd α} {m : Nat} (g : R.Good m) {S : Foot} (base : Nat) (e : TypeId) (i : TypeInfo) (z : Value) (bytes : Nat) (ht : P.underlying t = some (.slice e)) (hi : P.info? e = some i) (hz : i.zero = some z)
  (hsize : i.size = m) (hby : i.bytes = bytes) (hzs : z.cells.size = m) (hsz : 0 < m)
  (v : Value) (xs : List α) (y : α) (hs : a.eval s = v) (hown : OwnL R m S w base e v xs)
  (ad : Addr) (c : Nat) (news : List Value) (hx : a.eval x = .slice (some ad) 1 c) (hR : R S w y news) (hnews : ∀ j u, news[j]? = some u → w.cell? (ad.add j) = some u)
  (h63 : xs.length + 1 ≤ maxLen) (hbytes : (xs.length + 1) * bytes ≤ 140737488355328) (hbase : base ≤ w.heap.size) (hS : ¬ S w.heap.size)
  (h : ∀ A' cap' w', OwnL R m S w' base e (.slice (some ⟨A', 0, none⟩) (xs.length + 1) cap') (xs ++ [y]) → w.grownBy w' v.ownBlock → (v.ownBlock = some A' ∨ A' = w.heap.size) → wpList P ops Q rest (a.put o.dst (.slice (some ⟨A', 0, none⟩) (xs.length + 1) cap')) w') : wpList P ops Q (o :: rest) a w := by
 obtain ⟨hS0, cells, hrow, hcells⟩ := hown
 refine wpList_append_own_at w hgd s x t ho base e i z m bytes ht hi hz hsize hby hzs hsz v xs.length cells hs hrow ad 1 c news hx (by rw [g.len hR]; omega) hnews (g.one hR) h63 hbytes hbase ?_
 intro v' w' hown' hgrow _ hat
 obtain ⟨gb, cap, rfl⟩ := ownsRow_succ hown'
 have hat' : v.ownBlock = some gb ∨ gb = w.heap.size := by
  rcases hat with e | e
  ·left; rw [← e]; rfl
  right; injection e
 have hk : Keeps S w w' := Keeps.grown hgrow hS0
 refine h gb cap w' ⟨fun k hk' => ?_, cells ++ news, by simpa using hown', fun k y' hy => ?_⟩ hgrow hat'
 ·have : gb = k := by simpa [Value.ownBlock] using hk'
  subst this
  rcases hat' with e | e
  ·exact hS0 _ e
  rw [e]; exact hS
 by_cases hlt : k < xs.length
 ·rw [List.getElem?_append_left hlt] at hy
  obtain ⟨vs, hR', hc⟩ := hcells k y' hy
  refine ⟨vs, g.keep hR' hk, fun j u hu => ?_⟩
  have h3 := hc j u hu
  rw [List.getElem?_append_left (of_getq' h3)]; exact h3
 have hk2 : k = xs.length := by have := of_getq' hy; simp at this; omega
 subst hk2
 simp at hy; subst hy
 refine ⟨news, g.keep hR hk, fun j u hu => ?_⟩
 rw [List.getElem?_append_right (by rw [hrow.1]; omega), hrow.1]
 rw [show xs.length * m + j - xs.length * m = j by omega]; exact hu
open Go.RowKit
theorem OwnL.block {α : Type} {R : Rd α} {m : Nat} {S : Foot} {w : World} {base : Nat} {e : TypeId} {v : Value} {xs : List α} (h : OwnL R m S w base e v xs) : ∀ k, v.ownBlock = some k → base ≤ k ∧ k < w.heap.size := by
 obtain ⟨_, cells, ho, _⟩ := h
 exact ho.lt
theorem bl_grown {B : Nat} {w w' w2 : World} {α : Type} {R : Rd α} {m : Nat} {S : Foot} {base : Nat} {e : TypeId} {v : Value} {xs : List α} (h : Below B w w') (ho : OwnL R m S w' base e v xs) (hg : w'.grownBy w2 v.ownBlock) (hB : B ≤ base) (hBw : B ≤ w.heap.size) : Below B w w2 :=
 h.grown hg (Nat.le_trans hBw h.size) (fun k hk => Nat.le_trans hB (ho.block k hk).1)
theorem wpList_append_n {P : Program} {ops : Array Oper} {rest : List Oper} {o : Oper} {a : Act} {Q : Exit → Act → World → Prop} (w : World) (hgd : o.guard = none) (s x : Operand) (t : TypeId)
  (ho : o.op = .call { callee := .builtin .append, args := #[s, x], argTypes := #[t, t] })
  {α : Type} {R : Rd α} {m : Nat} (g : R.Good m) {S : Foot} (base : Nat) (e : TypeId) (i : TypeInfo) (z : Value) (bytes : Nat) (ht : P.underlying t = some (.slice e)) (hi : P.info? e = some i) (hz : i.zero = some z)
  (hsize : i.size = m) (hby : i.bytes = bytes) (hzs : z.cells.size = m) (hsz : 0 < m)
  (v : Value) (xs : List α) (y : α) (n : Nat) (hn : xs.length = n) (hs : a.eval s = v) (hown : OwnL R m S w base e v xs)
  (ad : Addr) (c : Nat) (news : List Value) (hx : a.eval x = .slice (some ad) 1 c) (hR : R S w y news) (hnews : ∀ j u, news[j]? = some u → w.cell? (ad.add j) = some u)
  (h63 : n + 1 ≤ maxLen) (hbytes : (n + 1) * bytes ≤ 140737488355328) (hbase : base ≤ w.heap.size) (hS : ¬ S w.heap.size)
  (h : ∀ A' cap' w', OwnL R m S w' base e (.slice (some ⟨A', 0, none⟩) (n + 1) cap') (xs ++ [y]) → w.grownBy w' v.ownBlock → (v.ownBlock = some A' ∨ A' = w.heap.size) → wpList P ops Q rest (a.put o.dst (.slice (some ⟨A', 0, none⟩) (n + 1) cap')) w') : wpList P ops Q (o :: rest) a w := by
 subst hn
 exact wpList_append_one w hgd s x t ho g base e i z bytes ht hi hz hsize hby hzs hsz v xs y hs hown ad c news hx hR hnews h63 hbytes hbase hS h
def OwnT (T : Foot) {α : Type} (R : Rd α) (m : Nat) (w : World) (base : Nat) (e : TypeId) (v : Value) (xs : List α) : Prop :=
 OwnL R m (fun k => T k ∧ v.ownBlock ≠ some k) w base e v xs
theorem OwnT.nil (T : Foot) {α : Type} (R : Rd α) (m : Nat) (w : World) (base : Nat) (e : TypeId) : OwnT T R m w base e (.slice none 0 0) [] :=
 ⟨fun k h => by simp [Value.ownBlock] at h, [], World.ownsRow_nil w base e m, fun k x h => by simp at h⟩
theorem OwnT.below {T : Foot} {α : Type} {R : Rd α} {m : Nat} {w w' : World} {base : Nat} {e : TypeId} {v : Value} {xs : List α} (g : R.Good m) (h : OwnT T R m w base e v xs) (hb : Below w.heap.size w w') : OwnT T R m w' base e v xs := OwnL.keep g h (Keeps.below hb)
theorem OwnT.slice {T : Foot} {α : Type} {R : Rd α} {m : Nat} {w : World} {base : Nat} {e : TypeId} {v : Value} {xs : List α} {U : Foot} (g : R.Good m) (h : OwnT T R m w base e v xs) {A : Option Addr} {n cap : Nat} (hv : v = .slice A n cap) (hn : n ≤ maxLen) (hT : ∀ k, T k → U k) (hU : ∀ k, base ≤ k → U k) : SliceOf R m U w A n xs :=
 OwnL.slice g h hv hn (fun k hk => hT k hk.1) (fun k hk _ => hU k hk)
theorem wpList_append_t {P : Program} {ops : Array Oper} {rest : List Oper} {o : Oper} {a : Act} {Q : Exit → Act → World → Prop} (w : World) (hgd : o.guard = none) (s x : Operand) (t : TypeId)
  (ho : o.op = .call { callee := .builtin .append, args := #[s, x], argTypes := #[t, t] })
  {α : Type} {R : Rd α} {m : Nat} (T : Foot) (g : R.Good m) (base : Nat) (e : TypeId) (i : TypeInfo) (z : Value) (bytes : Nat) (ht : P.underlying t = some (.slice e)) (hi : P.info? e = some i) (hz : i.zero = some z)
  (hsize : i.size = m) (hby : i.bytes = bytes) (hzs : z.cells.size = m) (hsz : 0 < m)
  (v : Value) (xs : List α) (y : α) (n : Nat) (hn : xs.length = n) (hs : a.eval s = v) (hown : OwnT T R m w base e v xs)
  (ad : Addr) (c : Nat) (news : List Value) (hx : a.eval x = .slice (some ad) 1 c) (hR : R (fun k => T k ∧ v.ownBlock ≠ some k) w y news) (hnews : ∀ j u, news[j]? = some u → w.cell? (ad.add j) = some u)
  (h63 : n + 1 ≤ maxLen) (hbytes : (n + 1) * bytes ≤ 140737488355328) (hbase : base ≤ w.heap.size)
  (h : ∀ A' cap' w', OwnT T R m w' base e (.slice (some ⟨A', 0, none⟩) (n + 1) cap') (xs ++ [y]) → w.grownBy w' v.ownBlock → (v.ownBlock = some A' ∨ A' = w.heap.size) → wpList P ops Q rest (a.put o.dst (.slice (some ⟨A', 0, none⟩) (n + 1) cap')) w') : wpList P ops Q (o :: rest) a w := by
 obtain ⟨h0, cells, hrow, hcells⟩ := hown
 have hb : OwnL R m (fun k => (T k ∧ v.ownBlock ≠ some k) ∧ k < w.heap.size) w base e v xs := ⟨fun k hk h => h0 k hk h.1, cells, hrow, fun k x hx => by
  obtain ⟨vs, hR, hc⟩ := hcells k x hx
  exact ⟨vs, g.bound hR, hc⟩⟩
 refine wpList_append_n w hgd s x t ho g base e i z bytes ht hi hz hsize hby hzs hsz v xs y n hn hs hb ad c news hx (g.bound hR) hnews h63 hbytes hbase (fun h => absurd h.2 (Nat.lt_irrefl _)) ?_
 intro A' cap' w' ho' hg' hat'
 refine h A' cap' w' ?_ hg' hat'
 obtain ⟨h1, cells', hrow', hcells'⟩ := ho'
 refine ⟨fun k hk hc => hc.2 hk, cells', hrow', fun k x hx => ?_⟩
 obtain ⟨vs, hR', hc⟩ := hcells' k x hx
 refine ⟨vs, g.mono hR' fun j hj => ⟨hj.1.1, fun hA => ?_⟩, hc⟩
 have hA' : A' = j := by simpa [Value.ownBlock] using hA
 subst hA'
 rcases hat' with e | e
 ·exact hj.1.2 e
 have := hj.2; omega
open Go.RowKit
def Blk (w : World) (g : Nat) (t : TypeId) (cs : Array Value) : Prop := w.heap[g]? = some (.cells cs t (0, 0))
section
variable {w w' : World} {g : Nat} {t : TypeId} {cs : Array Value}
theorem Blk.lt (h : Blk w g t cs) : g < w.heap.size := (Array.getElem?_eq_some_iff.1 h).1
theorem Blk.cell (h : Blk w g t cs) (i : Nat) : w.cell? ⟨g, i, none⟩ = cs[i]? := cell_of_row w g i cs t (0, 0) h
theorem Blk.frozen (h : Blk w g t cs) (i : Nat) : w.frozen? ⟨g, i, none⟩ = false := by
 unfold Blk at h
 simp [World.frozen?, h]
theorem Blk.new (w : World) (t : TypeId) (cs : Array Value) {g : Nat} (hg : g = w.heap.size) : Blk (w.alloc (.cells cs t)) g t cs := by subst hg; exact heap_alloc_new w _
theorem Blk.drew (h : Blk w g t cs) : Blk w.drew g t cs := h
theorem Blk.alloc (h : Blk w g t cs) (o : Obj) : Blk (w.alloc o) g t cs := (Below.heap_alloc w o g h.lt).trans h
theorem Blk.set_ (h : Blk w g t cs) (i : Nat) (u : Value) : Blk (w.setCell ⟨g, i, none⟩ u) g t (cs.setIfInBounds i u) := by
 unfold Blk at h ⊢
 simp [World.setCell, Array.getElem?_modify, h]
theorem Blk.far (h : Blk w g t cs) {p : Addr} (hp : g ≠ p.block) (u : Value) : Blk (w.setCell p u) g t cs := (Below.heap_setCell w p u g hp).trans h
theorem Blk.bl (h : Blk w g t cs) (hb : Below w.heap.size w w') : Blk w' g t cs := (hb.block g h.lt).trans h
theorem Blk.grown {row : Option Nat} (h : Blk w g t cs) (hb : w.grownBy w' row) (hg : some g ≠ row) : Blk w' g t cs := (hb.block g h.lt hg).trans h
end
theorem Blk.set2 {w : World} {g : Nat} {t : TypeId} {a b : Value} (h : Blk w g t #[a, b]) (x y : Value) : Blk ((w.setCell ⟨g, 0, none⟩ x).setCell ⟨g, 1, none⟩ y) g t #[x, y] := (h.set_ 0 x).set_ 1 y
theorem Blk.c0 {w : World} {g : Nat} {t : TypeId} {a b : Value} (h : Blk w g t #[a, b]) : w.cell? ⟨g, 0, none⟩ = some a := h.cell 0
theorem Blk.c1 {w : World} {g : Nat} {t : TypeId} {a b : Value} (h : Blk w g t #[a, b]) : w.cell? ⟨g, 1, none⟩ = some b := h.cell 1
theorem setc {w : World} {p q : Addr} {v u : Value} (h : w.cell? p = some v) (hne : p.block ≠ q.block) : (w.setCell q u).cell? p = some v :=
 (World.cell?_of_block (Below.heap_setCell w q u p.block hne)).trans h
theorem bl_set {B : Nat} {w w' : World} (h : Below B w w') {p : Addr} (hp : B ≤ p.block) (v : Value) : Below B w (w'.setCell p v) := h.setCell hp v
open Go.RowKit
theorem run_append_one {P : Program} (w : World) (t ty : TypeId) {α : Type} {R : Rd α} {m : Nat} (g : R.Good m) {S : Foot} (base : Nat) (e : TypeId) (i : TypeInfo) (z : Value) (bytes : Nat) (ht : P.underlying t = some (.slice e)) (hi : P.info? e = some i) (hz : i.zero = some z)
  (hsize : i.size = m) (hby : i.bytes = bytes) (hzs : z.cells.size = m) (hsz : 0 < m)
  (v : Value) (xs : List α) (y : α) (hown : OwnL R m S w base e v xs)
  (ad : Addr) (c : Nat) (news : List Value) (hR : R S w y news) (hnews : ∀ j u, news[j]? = some u → w.cell? (ad.add j) = some u)
  (h63 : xs.length + 1 ≤ maxLen) (hbytes : (xs.length + 1) * bytes ≤ 140737488355328) (hbase : base ≤ w.heap.size) (hS : ¬ S w.heap.size) :
  ∃ A' cap' w', (Builtin.append_ #[t, t] ty #[v, .slice (some ad) 1 c]).run P w = .ok (.slice (some ⟨A', 0, none⟩) (xs.length + 1) cap') w' ∧ OwnL R m S w' base e (.slice (some ⟨A', 0, none⟩) (xs.length + 1) cap') (xs ++ [y]) ∧ w.grownBy w' v.ownBlock ∧ (v.ownBlock = some A' ∨ A' = w.heap.size) := by
 obtain ⟨hS0, cells, hrow, hcells⟩ := hown
 obtain ⟨v', w', hr, hown', hgrow, _, hat⟩ := run_append_own_at (P := P) w base t ty e i z m bytes ht hi hz hsize hby hzs hsz v xs.length cells hrow ad 1 c news (by rw [g.len hR]; omega) hnews (g.one hR) h63 hbytes hbase
 obtain ⟨gb, cap, rfl⟩ := ownsRow_succ hown'
 have hat' : v.ownBlock = some gb ∨ gb = w.heap.size := by
  rcases hat with e | e
  ·left; rw [← e]; rfl
  right; injection e
 have hk : Keeps S w w' := Keeps.grown hgrow hS0
 refine ⟨gb, cap, w', hr, ⟨fun k hk' => ?_, cells ++ news, by simpa using hown', fun k y' hy => ?_⟩, hgrow, hat'⟩
 ·have : gb = k := by simpa [Value.ownBlock] using hk'
  subst this
  rcases hat' with e | e
  ·exact hS0 _ e
  rw [e]; exact hS
 by_cases hlt : k < xs.length
 ·rw [List.getElem?_append_left hlt] at hy
  obtain ⟨vs, hR', hc⟩ := hcells k y' hy
  refine ⟨vs, g.keep hR' hk, fun j u hu => ?_⟩
  have h3 := hc j u hu
  rw [List.getElem?_append_left (of_getq' h3)]; exact h3
 have hk2 : k = xs.length := by have := of_getq' hy; simp at this; omega
 subst hk2
 simp at hy; subst hy
 refine ⟨news, g.keep hR hk, fun j u hu => ?_⟩
 rw [List.getElem?_append_right (by rw [hrow.1]; omega), hrow.1]
 rw [show xs.length * m + j - xs.length * m = j by omega]; exact hu
end Go.Proofs.YtdbfincinjoppabGreatDoor
