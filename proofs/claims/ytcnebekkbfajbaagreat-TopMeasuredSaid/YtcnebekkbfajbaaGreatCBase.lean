/- A part of the proof that TopMeasured always answers true. -/
import Derived.WalkKit
import Derived.WalkSpells
import Derived.WalkLawsBesides
import Derived.BigQuiet
import Derived.Deep.QuietTactic
import Derived.Outline
import Derived.Lib.Hide
import Derived.RangeFuncBox
import Derived.Maps.AppendAt
import Derived.Deep.AppendLies
import Derived.Test.YtcnebekkbfajbaaGreatProg
set_option linter.all false
namespace Go.Proofs.YtcnebekkbfajbaaGreat
open Go.RowKit
abbrev Foot := Nat → Prop
abbrev Rd (α : Type) := Foot → World → α → List Value → Prop
structure Keeps (S : Foot) (w w' : World) : Prop where
 size : w.heap.size ≤ w'.heap.size
 block : ∀ k, S k → k < w.heap.size → w'.heap[k]? = w.heap[k]?
theorem Keeps.sub {S T : Foot} {a b : World} (h : Keeps S a b) (hT : ∀ k, T k → S k) : Keeps T a b := ⟨h.size, fun k hk => h.block k (hT k hk)⟩
theorem Keeps.below {S : Foot} {w w' : World} (h : Below w.heap.size w w') : Keeps S w w' := ⟨h.size, fun k _ hk => h.block k hk⟩
theorem Keeps.alloc {S : Foot} (w : World) (o : Obj) : Keeps S w (w.alloc o) := ⟨by simp, fun k _ hk => Below.heap_alloc w o k hk⟩
theorem Keeps.drew {S : Foot} (w : World) : Keeps S w w.drew := ⟨Nat.le_refl _, fun _ _ _ => rfl⟩
theorem Keeps.drewN {S : Foot} (w : World) (n : Nat) : Keeps S w (w.drewN n) := ⟨Nat.le_refl _, fun _ _ _ => rfl⟩
theorem Keeps.setCell {S : Foot} (w : World) (a : Addr) (v : Value) (h : ¬ S a.block) : Keeps S w (w.setCell a v) :=
 ⟨by simp [World.setCell], fun k hk _ => Below.heap_setCell w a v k (fun e => h (e ▸ hk))⟩
theorem Keeps.grown {S : Foot} {w w' : World} {row : Option Nat} (hg : w.grownBy w' row) (h : ∀ k, row = some k → ¬ S k) : Keeps S w w' :=
 ⟨hg.size, fun k hk hlt => hg.block k hlt (fun e => h k e.symm hk)⟩
theorem Keeps.cell {S : Foot} {w w' : World} (h : Keeps S w w') {p : Addr} (hS : S p.block) (hlt : p.block < w.heap.size) : w'.cell? p = w.cell? p :=
 World.cell?_of_block (h.block _ hS hlt)
structure Rd.Good {α : Type} (R : Rd α) (m : Nat) : Prop where
 len : ∀ {S w x vs}, R S w x vs → vs.length = m
 one : ∀ {S w x vs}, R S w x vs → ∀ v ∈ vs, v.oneCell' = true
 keep : ∀ {S w w' x vs}, R S w x vs → Keeps S w w' → R S w' x vs
 mono : ∀ {S T w x vs}, R S w x vs → (∀ k, S k → T k) → R T w x vs
 bound : ∀ {S w x vs}, R S w x vs → R (fun k => S k ∧ k < w.heap.size) w x vs
def SliceOf {α : Type} (R : Rd α) (m : Nat) (S : Foot) (w : World) (A : Option Addr) (n : Nat) (xs : List α) : Prop :=
 xs.length = n ∧ n ≤ maxLen ∧ ∀ k x, xs[k]? = some x → ∃ b off vs, A = some ⟨b, off, none⟩ ∧ S b ∧ b < w.heap.size ∧ R S w x vs ∧ ∀ j v, vs[j]? = some v → w.cell? ⟨b, off + k * m + j, none⟩ = some v
theorem SliceOf.len {α : Type} {R : Rd α} {m : Nat} {S : Foot} {w : World} {A : Option Addr} {n : Nat} {xs : List α} (h : SliceOf R m S w A n xs) : xs.length = n := h.1
theorem SliceOf.le {α : Type} {R : Rd α} {m : Nat} {S : Foot} {w : World} {A : Option Addr} {n : Nat} {xs : List α} (h : SliceOf R m S w A n xs) : n ≤ 9223372036854775807 := h.2.1
theorem SliceOf.keep {α : Type} {R : Rd α} {m : Nat} {S : Foot} {w w' : World} {A : Option Addr} {n : Nat} {xs : List α} (g : R.Good m) (h : SliceOf R m S w A n xs) (hk : Keeps S w w') : SliceOf R m S w' A n xs :=
 ⟨h.1, h.2.1, fun k x hx => by
  obtain ⟨b, off, vs, hA, hS, hb, hR, hc⟩ := h.2.2 k x hx
  exact ⟨b, off, vs, hA, hS, Nat.lt_of_lt_of_le hb hk.size, g.keep hR hk, fun j v hv => (hk.cell (p := ⟨b, _, none⟩) hS hb).trans (hc j v hv)⟩⟩
theorem SliceOf.mono {α : Type} {R : Rd α} {m : Nat} {S T : Foot} {w : World} {A : Option Addr} {n : Nat} {xs : List α} (g : R.Good m) (h : SliceOf R m S w A n xs) (hk : ∀ k, S k → T k) : SliceOf R m T w A n xs :=
 ⟨h.1, h.2.1, fun k x hx => by
  obtain ⟨b, off, vs, hA, hS, hb, hR, hc⟩ := h.2.2 k x hx
  exact ⟨b, off, vs, hA, hk _ hS, hb, g.mono hR hk, hc⟩⟩
theorem SliceOf.nil {α : Type} (R : Rd α) (m : Nat) (S : Foot) (w : World) (A : Option Addr) : SliceOf R m S w A 0 [] := ⟨rfl, Nat.zero_le _, fun k x hx => by simp at hx⟩
theorem SliceOf.bound {α : Type} {R : Rd α} {m : Nat} {S : Foot} {w : World} {A : Option Addr} {n : Nat} {xs : List α} (g : R.Good m) (h : SliceOf R m S w A n xs) : SliceOf R m (fun k => S k ∧ k < w.heap.size) w A n xs :=
 ⟨h.1, h.2.1, fun k x hx => by
  obtain ⟨b, off, vs, hA, hS, hb, hR, hc⟩ := h.2.2 k x hx
  exact ⟨b, off, vs, hA, ⟨hS, hb⟩, hb, g.bound hR, hc⟩⟩
def SlR {α : Type} (R : Rd α) (m : Nat) : Rd (List α) := fun S w xs vs => ∃ A n c, vs = [.slice A n c] ∧ SliceOf R m S w A n xs
theorem SlR.good {α : Type} {R : Rd α} {m : Nat} (g : R.Good m) : (SlR R m).Good 1 where
 len := by rintro S w x vs ⟨A, n, c, rfl, h⟩; rfl
 one := by rintro S w x vs ⟨A, n, c, rfl, h⟩ v hv; simp at hv; subst hv; rfl
 keep := by rintro S w w' x vs ⟨A, n, c, rfl, h⟩ hk; exact ⟨A, n, c, rfl, h.keep g hk⟩
 mono := by rintro S T w x vs ⟨A, n, c, rfl, h⟩ hk; exact ⟨A, n, c, rfl, h.mono g hk⟩
 bound := by rintro S w x vs ⟨A, n, c, rfl, h⟩; exact ⟨A, n, c, rfl, h.bound g⟩
def IntR : Rd Int := fun _ _ x vs => vs = [.int .i64 x]
theorem IntR.good : IntR.Good 1 where
 len := by rintro S w x vs rfl; rfl
 one := by rintro S w x vs rfl v hv; simp at hv; subst hv; rfl
 keep := by rintro S w w' x vs rfl hk; rfl
 mono := by rintro S T w x vs rfl hk; rfl
 bound := by rintro S w x vs rfl; rfl
def StrR : Rd (List UInt8) := fun _ _ x vs => ∃ s : ByteArray, vs = [.string s] ∧ s.data.toList = x ∧ s.size ≤ 9223372036854775807
theorem StrR.good : StrR.Good 1 where
 len := by rintro S w x vs ⟨s, rfl, _⟩; rfl
 one := by rintro S w x vs ⟨s, rfl, _⟩ v hv; simp at hv; subst hv; rfl
 keep := by rintro S w w' x vs ⟨s, rfl, h⟩ hk; exact ⟨s, rfl, h⟩
 mono := by rintro S T w x vs ⟨s, rfl, h⟩ hk; exact ⟨s, rfl, h⟩
 bound := by rintro S w x vs ⟨s, rfl, h⟩; exact ⟨s, rfl, h⟩
theorem of_getq' {α : Type} {xs : List α} {k : Nat} {x : α} (h : xs[k]? = some x) : k < xs.length := by
 obtain ⟨h, _⟩ := List.getElem?_eq_some_iff.1 h; exact h
def OwnL {α : Type} (R : Rd α) (m : Nat) (S : Foot) (w : World) (base : Nat) (e : TypeId) (v : Value) (xs : List α) : Prop :=
 (∀ k, v.ownBlock = some k → ¬ S k) ∧ ∃ cells, w.ownsRow base e m v xs.length cells ∧ ∀ k x, xs[k]? = some x → ∃ vs, R S w x vs ∧ ∀ j u, vs[j]? = some u → cells[k * m + j]? = some u
section
variable {α : Type} {R : Rd α} {m : Nat} {S : Foot} {w w' : World} {base : Nat} {e : TypeId} {v : Value} {xs : List α}
theorem OwnL.nil (R : Rd α) (m : Nat) (S : Foot) (w : World) (base : Nat) (e : TypeId) : OwnL R m S w base e (.slice none 0 0) [] :=
 ⟨fun k h => by simp [Value.ownBlock] at h, [], World.ownsRow_nil w base e m, fun k x h => by simp at h⟩
theorem OwnL.keep (g : R.Good m) (h : OwnL R m S w base e v xs) (hk : Keeps (fun k => S k ∨ v.ownBlock = some k) w w') : OwnL R m S w' base e v xs := by
 obtain ⟨h1, cells, ho, hx⟩ := h
 refine ⟨h1, cells, ⟨ho.1, ?_⟩, fun k x hk' => ?_⟩
 ·rcases ho.2 with hn | ⟨gb, cap, cur, rfl, hb, hgg, rest⟩
  ·exact .inl hn
  exact .inr ⟨gb, cap, cur, rfl, hb, (hk.block gb (.inr rfl) (Array.getElem?_eq_some_iff.1 hgg).1).trans hgg, rest⟩
 obtain ⟨vs, hR, hc⟩ := hx k x hk'
 exact ⟨vs, g.keep hR (hk.sub fun k h => .inl h), hc⟩
theorem OwnL.below (g : R.Good m) (h : OwnL R m S w base e v xs) (hb : Below w.heap.size w w') : OwnL R m S w' base e v xs := h.keep g (Keeps.below hb)
theorem OwnL.alloc (g : R.Good m) (h : OwnL R m S w base e v xs) (o : Obj) : OwnL R m S (w.alloc o) base e v xs := h.keep g (Keeps.alloc w o)
theorem OwnL.slice {T : Foot} (g : R.Good m) (h : OwnL R m S w base e v xs) {A : Option Addr} {n cap : Nat} (hv : v = .slice A n cap) (hn : n ≤ maxLen) (hST : ∀ k, S k → T k) (hT : ∀ k, base ≤ k → k < w.heap.size → T k) : SliceOf R m T w A n xs := by
 obtain ⟨h1, cells, ho, hx⟩ := h
 subst hv
 have hlen : xs.length = n := by
  rcases ho.2 with ⟨e, h0⟩ | ⟨gb, cap', cur, e, _⟩
  ·injection e with _ e _; rw [e, h0]
  injection e with _ e _; rw [e]
 refine ⟨hlen, hn, fun k x hk => ?_⟩
 obtain ⟨vs, hR, hc⟩ := hx k x hk
 rcases ho.2 with ⟨e, h0⟩ | ⟨gb, cap', cur, e, hb, hgg, _, _, _, htake⟩
 ·have := of_getq' hk; omega
 injection e with e1 e2 e3
 subst e1
 have hlt := (Array.getElem?_eq_some_iff.1 hgg).1
 refine ⟨gb, 0, vs, rfl, hT gb hb hlt, hlt, g.mono hR hST, fun j u hu => ?_⟩
 have h2 := hc j u hu
 rw [← htake, List.getElem?_take] at h2
 rw [cell_of_row w gb (0 + k * m + j) cur _ (0, 0) hgg]
 split at h2
 ·rw [Nat.zero_add]; simpa using h2
 cases h2
end
abbrev Ints := SliceOf IntR 1
abbrev Strs := SliceOf StrR 1
abbrev Rows := SliceOf (SlR IntR 1) 1
theorem Ints.get {S : Foot} {w : World} {A : Option Addr} {n : Nat} {xs : List Int} {k : Nat} (h : Ints S w A n xs) (hk : k < n) :
  ∃ b off x, A = some ⟨b, off, none⟩ ∧ w.cell? ⟨b, off + k, none⟩ = some (.int .i64 x) ∧ Hid (xs[k]? = some x) := by
 have hlt : k < xs.length := by rw [h.1]; exact hk
 obtain ⟨b, off, vs, hA, _, _, rfl, hc⟩ := h.2.2 k xs[k] (List.getElem?_eq_getElem hlt)
 exact ⟨b, off, xs[k], hA, by simpa using hc 0 _ rfl, List.getElem?_eq_getElem hlt⟩
theorem Strs.get {S : Foot} {w : World} {A : Option Addr} {n : Nat} {xs : List (List UInt8)} {k : Nat} (h : Strs S w A n xs) (hk : k < n) :
  ∃ b off s, A = some ⟨b, off, none⟩ ∧ w.cell? ⟨b, off + k, none⟩ = some (.string s) ∧ Hid (xs[k]? = some s.data.toList) ∧ s.size ≤ 9223372036854775807 := by
 have hlt : k < xs.length := by rw [h.1]; exact hk
 obtain ⟨b, off, vs, hA, _, _, ⟨s, rfl, hx, hs⟩, hc⟩ := h.2.2 k xs[k] (List.getElem?_eq_getElem hlt)
 exact ⟨b, off, s, hA, by simpa using hc 0 _ rfl, by rw [Hid, hx]; exact List.getElem?_eq_getElem hlt, hs⟩
theorem ret_bool {a b : Bool} (h : a = b) : Ending.returned (.bool a) = .returned (.bool b) := by rw [h]
theorem ret_int {k : IntKind} {a b : Int} (h : a = b) : Ending.returned (.int k a) = .returned (.int k b) := by rw [h]
theorem take_snoc_get {α : Type} {xs : List α} {k : Nat} {x : α} (h : xs[k]? = some x) : xs.take (k + 1) = xs.take k ++ [x] := by
 rw [List.take_add_one, h]; rfl
theorem drop_cons {α : Type} {xs : List α} {k : Nat} {x : α} (h : xs[k]? = some x) : xs.drop k = x :: xs.drop (k + 1) := by
 obtain ⟨hlt, hx⟩ := List.getElem?_eq_some_iff.1 h
 rw [List.drop_eq_getElem_cons hlt, hx]
theorem of_getq {α : Type} {xs : List α} {k : Nat} {x : α} (h : xs[k]? = some x) : k < xs.length := by
 obtain ⟨h, _⟩ := List.getElem?_eq_some_iff.1 h; exact h
theorem newc {w : World} {cs : Array Value} {t : TypeId} {i g : Nat} {v : Value} (h : cs[i]? = some v) (hg : g = w.heap.size) : (w.alloc (.cells cs t)).cell? ⟨g, i, none⟩ = some v := by
 subst hg; rw [cell_of_row _ _ _ cs t (0, 0) (heap_alloc_new w _)]; exact h
theorem news_new {w : World} {cs : Array Value} {t : TypeId} {g : Nat} {l : List Value} (hl : cs.toList = l) (hg : g = w.heap.size) : ∀ j u, l[j]? = some u → (w.alloc (.cells cs t)).cell? ((⟨g, 0, none⟩ : Addr).add j) = some u := by
 intro j u hu
 have hadd : (⟨g, 0, none⟩ : Addr).add j = ⟨g, j, none⟩ := by unfold Addr.add; split <;> simp_all
 rw [hadd]
 exact newc (by rw [← hl] at hu; simpa using hu) hg
theorem oldc {w : World} {o : Obj} {p : Addr} {v : Value} (h : w.cell? p = some v) : (w.alloc o).cell? p = some v :=
 (World.cell?_alloc_lt w o p (World.block_lt_of_cell? w p h)).trans h
theorem getc {w w' : World} {p : Addr} {v : Value} (hb : Below w.heap.size w w') (h : w.cell? p = some v) : w'.cell? p = some v :=
 (hb.cell (World.block_lt_of_cell? w p h)).trans h
theorem bl_alloc {B : Nat} {w w' : World} (h : Below B w w') (o : Obj) (hB : B ≤ w.heap.size) : Below B w (w'.alloc o) := h.alloc (Nat.le_trans hB h.size) o
theorem bl_call {B : Nat} {w w' w2 : World} (h : Below B w w') (h2 : Below w'.heap.size w' w2) (hB : B ≤ w.heap.size) : Below B w w2 := h.trans (h2.mono (Nat.le_trans hB h.size))
theorem bl_drewN {B : Nat} {w w' : World} (h : Below B w w') (q : Nat) : Below B w (w'.drewN q) := below_drewN h q
theorem wpList_append_one {P : Program} {ops : Array Oper} {rest : List Oper} {o : Oper} {a : Act} {Q : Exit → Act → World → Prop} (w : World) (hgd : o.guard = none) (s x : Operand) (t : TypeId)
  (ho : o.op = .call { callee := .builtin .append, args := #[s, x], argTypes := #[t, t] })
  {α : Type} {R : Rd α} {m : Nat} (g : R.Good m) {S : Foot} (base : Nat) (e : TypeId) (i : TypeInfo) (z : Value) (bytes : Nat) (ht : P.underlying t = some (.slice e)) (hi : P.info? e = some i) (hz : i.zero = some z)
  (hsize : i.size = m) (hby : i.bytes = bytes) (hzs : z.cells.size = m) (hsz : 0 < m)
  (v : Value) (xs : List α) (y : α) (hs : a.eval s = v) (hown : OwnL R m S w base e v xs)
  (ad : Addr) (c : Nat) (news : List Value) (hx : a.eval x = .slice (some ad) 1 c) (hR : R S w y news) (hnews : ∀ j u, news[j]? = some u → w.cell? (ad.add j) = some u)
  (h63 : xs.length + 1 ≤ maxLen) (hbytes : (xs.length + 1) * bytes ≤ 140737488355328) (hbase : base ≤ w.heap.size) (hS : ¬ S w.heap.size)
  (h : ∀ A' cap' w', OwnL R m S w' base e (.slice (some ⟨A', 0, none⟩) (xs.length + 1) cap') (xs ++ [y]) → w.grownBy w' v.ownBlock → (v.ownBlock = some A' ∨ A' = w.heap.size) → wpList P ops Q rest (a.put o.dst (.slice (some ⟨A', 0, none⟩) (xs.length + 1) cap')) w') : wpList P ops Q (o :: rest) a w := by
 obtain ⟨hS0, cells, hrow, hcells⟩ := hown
 refine wpList_append_own_at w hgd s x t ho base e i z m bytes ht hi hz hsize hby hzs hsz v xs.length cells hs hrow ad 1 c news hx (by rw [g.len hR]; omega) hnews (g.one hR) h63 hbytes hbase ?_
 intro v' w' hown' hgrow _ hat
 obtain ⟨gb, cap, rfl⟩ := ownsRow_succ hown'
 have hat' : v.ownBlock = some gb ∨ gb = w.heap.size := by
  rcases hat with e | e
  ·left; rw [← e]; rfl
  right; injection e
 have hk : Keeps S w w' := Keeps.grown hgrow hS0
 refine h gb cap w' ⟨fun k hk' => ?_, cells ++ news, by simpa using hown', fun k y' hy => ?_⟩ hgrow hat'
 ·have : gb = k := by simpa [Value.ownBlock] using hk'
  subst this
  rcases hat' with e | e
  ·exact hS0 _ e
  rw [e]; exact hS
 by_cases hlt : k < xs.length
 ·rw [List.getElem?_append_left hlt] at hy
  obtain ⟨vs, hR', hc⟩ := hcells k y' hy
  refine ⟨vs, g.keep hR' hk, fun j u hu => ?_⟩
  have h3 := hc j u hu
  rw [List.getElem?_append_left (of_getq' h3)]; exact h3
 have hk2 : k = xs.length := by have := of_getq' hy; simp at this; omega
 subst hk2
 simp at hy; subst hy
 refine ⟨news, g.keep hR hk, fun j u hu => ?_⟩
 rw [List.getElem?_append_right (by rw [hrow.1]; omega), hrow.1]
 rw [show xs.length * m + j - xs.length * m = j by omega]; exact hu
open Go.RowKit
def letter (b : UInt8) : Bool := decide ((97 : Int) ≤ b.toNat) && decide ((b.toNat : Int) ≤ 122)
def okByte (b : UInt8) : Bool := letter b || (decide ((48 : Int) ≤ b.toNat) && decide ((b.toNat : Int) ≤ 57)) || decide ((b.toNat : Int) = 45)
def isName (s : List UInt8) : Bool :=
 decide (1 ≤ s.length) && decide (s.length ≤ 16) && letter (s.getD 0 0) && s.all okByte
theorem okByte_iff (b : UInt8) : okByte b = true ↔ ((97 : Int) ≤ b.toNat ∧ (b.toNat : Int) ≤ 122) ∨ ((48 : Int) ≤ b.toNat ∧ (b.toNat : Int) ≤ 57) ∨ (b.toNat : Int) = 45 := by
 simp [okByte, letter, or_assoc]
theorem okByte_false (b : UInt8) (h : ¬ (((97 : Int) ≤ b.toNat ∧ (b.toNat : Int) ≤ 122) ∨ ((48 : Int) ≤ b.toNat ∧ (b.toNat : Int) ≤ 57) ∨ (b.toNat : Int) = 45)) : okByte b = false := by
 rw [← Bool.not_eq_true, okByte_iff]; exact h
theorem byte_get (s : ByteArray) (k : Nat) (h : k < s.size) : s.data.toList[k]? = some s[k] := by
 rw [List.getElem?_eq_getElem (by simpa using h)]; rfl
theorem name_no (s : ByteArray) (k : Nat) (h : k < s.size) (hb : okByte s[k] = false) : isName s.data.toList = false := by
 have : s.data.toList.all okByte = false := by
  rw [← Bool.not_eq_true]
  intro ha
  rw [List.all_eq_true.1 ha s[k] (List.mem_of_getElem? (byte_get s k h))] at hb
  cases hb
 simp [isName, this]
theorem letter_iff (b : UInt8) : letter b = true ↔ ((97 : Int) ≤ b.toNat ∧ (b.toNat : Int) ≤ 122) := by simp [letter]
theorem getD_zero (s : ByteArray) (h : 0 < s.size) : s.data.toList.getD 0 0 = s[0] := by
 rw [List.getD_eq_getElem?_getD, byte_get s 0 h]; rfl
theorem name_first (s : ByteArray) (h : 0 < s.size) (hb : letter s[0] = false) : isName s.data.toList = false := by
 unfold isName; rw [getD_zero s h, hb]; simp
theorem name_yes (s : ByteArray) (h : 0 < s.size) (h16 : s.size ≤ 16) (hl : letter s[0] = true) (ha : (s.data.toList.take s.size).all okByte = true) : isName s.data.toList = true := by
 have e : s.data.toList.length = s.size := by simp
 rw [List.take_of_length_le (by omega)] at ha
 unfold isName
 rw [getD_zero s h, hl, ha, e]
 simp; omega
theorem byte_cases (b : UInt8) :
  (okByte b = false ∧ (((b.toNat : Int) < 45 ∧ ((b.toNat : Int) != 45) = true) ∨ ((46 : Int) ≤ b.toNat ∧ (b.toNat : Int) ≤ 47 ∧ ((b.toNat : Int) != 45) = true) ∨ ((58 : Int) ≤ b.toNat ∧ (b.toNat : Int) ≤ 96 ∧ ((b.toNat : Int) != 45) = true) ∨ ((123 : Int) ≤ b.toNat ∧ ((b.toNat : Int) != 45) = true))) ∨
  (okByte b = true ∧ (((45 : Int) ≤ b.toNat ∧ (b.toNat : Int) ≤ 45 ∧ ((b.toNat : Int) != 45) = false) ∨ ((48 : Int) ≤ b.toNat ∧ (b.toNat : Int) ≤ 57) ∨ ((97 : Int) ≤ b.toNat ∧ (b.toNat : Int) ≤ 122))) := by
 have hn : ∀ n : Int, n ≠ 45 → (n != 45) = true := fun n h => by simpa using h
 by_cases h : ((97 : Int) ≤ b.toNat ∧ (b.toNat : Int) ≤ 122) ∨ ((48 : Int) ≤ b.toNat ∧ (b.toNat : Int) ≤ 57) ∨ (b.toNat : Int) = 45
 ·refine .inr ⟨(okByte_iff b).2 h, ?_⟩
  rcases h with h | h | h
  ·exact .inr (.inr h)
  ·exact .inr (.inl h)
  exact .inl ⟨by omega, by omega, by rw [h]; rfl⟩
 refine .inl ⟨okByte_false b h, ?_⟩
 have h45 := hn b.toNat (by omega)
 by_cases h1 : (b.toNat : Int) < 45
 ·exact .inl ⟨h1, h45⟩
 by_cases h2 : (b.toNat : Int) ≤ 47
 ·exact .inr (.inl ⟨by omega, h2, h45⟩)
 by_cases h3 : (b.toNat : Int) ≤ 96
 ·exact .inr (.inr (.inl ⟨by omega, h3, h45⟩))
 exact .inr (.inr (.inr ⟨by omega, h45⟩))
theorem take_all (s : ByteArray) (k : Nat) (h : k < s.size) (ha : (s.data.toList.take k).all okByte = true) (hb : okByte s[k] = true) : (s.data.toList.take (k + 1)).all okByte = true := by
 rw [List.take_add_one, byte_get s k h, List.all_append, ha]; simp [hb]
theorem name_long (s : ByteArray) (h : ¬ (1 ≤ s.size ∧ s.size ≤ 16)) : isName s.data.toList = false := by
 have e : s.data.toList.length = s.size := by simp
 unfold isName; rw [e]; simp; omega
def place : List (List UInt8) → List UInt8 → Int
 | [], _ => -1
 | x :: l, s => if x = s then 0 else if place l s < 0 then -1 else place l s + 1
theorem place_none {l : List (List UInt8)} {s : List UInt8} (h : s ∉ l) : place l s = -1 := by
 induction l with
 | nil => rfl
 | cons x l ih =>
  simp only [List.mem_cons, not_or] at h
  rw [place, if_neg (fun e => h.1 e.symm), ih h.2]; simp
theorem place_found {l : List (List UInt8)} {s : List UInt8} {k : Nat} (h : l[k]? = some s) (hn : s ∉ l.take k) : place l s = k := by
 induction l generalizing k with
 | nil => simp at h
 | cons x l ih =>
  cases k with
  | zero => simp at h; simp [place, h]
  | succ k =>
   simp only [List.take_succ_cons, List.mem_cons, not_or] at hn
   have := ih (k := k) (by simpa using h) hn.2
   rw [place, if_neg (fun e => hn.1 e.symm), this, if_neg (by omega)]
   omega
theorem place_neg (l : List (List UInt8)) (s : List UInt8) : place l s < 0 ↔ s ∉ l := by
 constructor
 ·intro h hm
  obtain ⟨k, hk⟩ := List.getElem?_of_mem hm
  induction l generalizing k with
  | nil => simp at hm
  | cons x l ih =>
   rw [place] at h
   split at h
   ·omega
   rename_i hne
   split at h
   ·rename_i h2
    have hm' : s ∈ l := by
     rcases List.mem_cons.1 hm with e | e
     ·exact absurd e.symm hne
     exact e
    obtain ⟨k', hk'⟩ := List.getElem?_of_mem hm'
    exact ih h2 hm' k' hk'
   omega
 intro h; rw [place_none h]; omega
def fresh (s : List UInt8) (l : List (List UInt8)) : Int := if isName s then (if s ∈ l then 5 else 0) else 6
structure Span where
 lo : Int
 hi : Int
 deriving DecidableEq
def inB (n lo hi : Int) : Bool := decide (lo ≤ n) && decide (n ≤ hi)
def spreadGo (lo hi : Int) : List Span → Int → Int
 | [], e => e
 | s :: l, e => if !inB s.lo lo hi || !inB s.hi lo hi then 7 else spreadGo lo hi l (if s.lo > s.hi then 2 else e)
def spread (l : List Span) (lo hi : Int) : Int := spreadGo lo hi l 0
def rangeE (s : Span) (lo hi : Int) : Int := if !inB s.lo lo hi || !inB s.hi lo hi then 7 else if s.lo > s.hi then 2 else 0
open Go.RowKit
set_option maxHeartbeats 400000 in
theorem in1_any (n lo hi : Int) (w : World) :
  Calls Tryz.prog 117 #[.int .i64 n, .int .i64 lo, .int .i64 hi] w fun e w' => e = .returned (.bool (inB n lo hi)) ∧ w = w' := by
 go_enter Tryz.func117, Tryz.ntmps117
 go_wp2
 all_goals
  go_ret
  exact ⟨ret_bool (by simp [inB, *]; try omega), rfl⟩
set_option maxHeartbeats 400000 in
set_option maxHeartbeats 400000 in
theorem ints_any {S T : Foot} {A B : Option Addr} {n c m d : Nat} {xs ys : List Int} (w : World) (h : Ints S w A n xs) (g : Ints T w B m ys) :
  Calls Tryz.prog 32 #[.slice A n c, .slice B m d] w fun e w' => e = .returned (.bool (decide (xs = ys))) ∧ ∃ q, w' = w.drewN q := by
 have hle := h.le
 have gle := g.le
 by_cases hnm : n = m
 ·obtain rfl : n = m := hnm
  have hb : ((n : Int) != (n : Int)) = false := by simp
  go_enter Tryz.func32, Tryz.ntmps32
  go_wp2
  go_loopw [5] (fun i wr => ∃ k : Nat, k ≤ n ∧ i = .int .i64 k ∧ Hid (xs.take k = ys.take k) ∧ ∃ q, wr = w.drewN q) (fun i _ => n - (intOf i).toNat)
  case atStart => exact ⟨0, Nat.zero_le _, rfl, by simp [Hid], 0, rfl⟩
  case round =>
   obtain ⟨k, hk, rfl, Hn, q, rfl⟩ := hrel
   by_cases hlt : k < n
   ·obtain ⟨b, off, x, rfl, hcell, Hx⟩ := h.get hlt
    obtain ⟨b', off', y, rfl, hcell', Hy⟩ := g.get hlt
    by_cases hm : x = y
    ·have hmb : (x != y) = false := by simpa using hm
     have HM := Lib.hid hm
     clear hm
     go_wp2
     go_quiet (fail)
     go_wp2
     go_roundw
     case rel => exact ⟨k + 1, by omega, by go_num, by rw [Hid, take_snoc_get Hx.out, take_snoc_get Hy.out, Hn.out, HM.out], _, rfl⟩
     case measure => simp [intOf]; omega
    have hmb : (x != y) = true := by simpa using hm
    have HM := Lib.hid hm
    clear hm
    go_wp2
    go_quiet (fail)
    go_wp2
    go_ret
    refine ⟨ret_bool ?_, q + nq, by rw [World.drewN_drewN]⟩
    symm; rw [decide_eq_false_iff_not]; rintro rfl
    have h1 := Hx.out; rw [Hy.out] at h1; exact HM.out (Option.some.inj h1).symm
   go_wp2
   go_ret
   refine ⟨ret_bool ?_, _, rfl⟩
   symm; rw [decide_eq_true_iff]
   have := Hn.out
   rwa [List.take_of_length_le (by rw [h.len]; omega), List.take_of_length_le (by rw [g.len]; omega)] at this
 have hb : ((n : Int) != (m : Int)) = true := by simp; omega
 have HM := Lib.hid hnm
 clear hnm
 go_enter Tryz.func32, Tryz.ntmps32
 go_wp2
 go_ret
 exact ⟨ret_bool (by symm; rw [decide_eq_false_iff_not]; rintro rfl; exact HM.out (h.len.symm.trans g.len)), 0, rfl⟩
set_option maxHeartbeats 400000 in
theorem place_any {S : Foot} {A : Option Addr} {n c : Nat} {xs : List (List UInt8)} (s : ByteArray) (w : World) (h : Strs S w A n xs) (hs : s.size ≤ 9223372036854775807) :
  Calls Tryz.prog 95 #[.slice A n c, .string s] w fun e w' => e = .returned (.int .i64 (place xs s.data.toList)) ∧ w = w' := by
 have hle := h.le
 go_enter Tryz.func95, Tryz.ntmps95
 go_wp2
 go_loop [5] (fun i => ∃ k : Nat, k ≤ n ∧ i = .int .i64 k ∧ Hid (s.data.toList ∉ xs.take k)) (fun i => n - (intOf i).toNat)
 case atStart => exact ⟨0, Nat.zero_le _, rfl, by simp [Hid]⟩
 case round =>
  obtain ⟨k, hk, rfl, Hn⟩ := hrel
  by_cases hlt : k < n
  ·obtain ⟨b, off, x, rfl, hcell, Hx, hxs⟩ := h.get hlt
   by_cases hm : x.data.toList = s.data.toList
   ·have hmb : (x.toList == s.toList) = true := by rw [ByteArray.toList_eq, ByteArray.toList_eq]; simpa using hm
    have HM := Lib.hid hm
    clear hm
    go_wp2
    go_ret
    exact ⟨ret_int (place_found (HM.out ▸ Hx.out) Hn.out).symm, rfl⟩
   have hmb : (x.toList == s.toList) = false := by rw [ByteArray.toList_eq, ByteArray.toList_eq]; simpa using hm
   have HM := Lib.hid hm
   clear hm
   go_wp2
   go_round
   case rel => exact ⟨k + 1, by omega, by go_num, by rw [Hid, take_snoc_get Hx.out, List.mem_append, List.mem_singleton]; exact fun hc => hc.elim Hn.out (fun e => HM.out e.symm)⟩
   case measure => simp [intOf]; omega
  go_wp2
  go_ret
  exact ⟨ret_int (place_none (by have := Hn.out; rwa [List.take_of_length_le (by rw [h.len]; omega)] at this)).symm, rfl⟩
set_option maxHeartbeats 400000 in
theorem name_any (s : ByteArray) (w : World) (hs : s.size ≤ 9223372036854775807) :
    Calls Tryz.prog 94 #[.string s] w fun e w' => e = .returned (.bool (isName s.data.toList)) ∧ w = w' := by
  by_cases h1 : 1 ≤ s.size ∧ s.size ≤ 16
  · have hin : inB (s.size : Int) 1 16 = true := by simp [inB]; omega
    obtain ⟨h1, h2⟩ := h1
    have hpos : (0 : Int) < s.size := by omega
    by_cases hc : (s[0].toNat : Int) < 97 ∨ (122 : Int) < s[0].toNat
    · rcases hc with hc | hc
      all_goals
        go_enter Tryz.func94, Tryz.ntmps94
        go_wp2_with (go_at_call 117; refine (in1_any _ _ _ _).mono ?_; rintro e w' ⟨rfl, rfl⟩)
        go_ret
        exact ⟨ret_bool (name_first s h1 (by rw [← Bool.not_eq_true, letter_iff]; omega)).symm, rfl⟩
    · have hc1 : (97 : Int) ≤ s[0].toNat := by omega
      have hc2 : (s[0].toNat : Int) ≤ 122 := by omega
      clear hc
      have hl : Hid (letter s[0] = true) := (letter_iff _).2 ⟨hc1, hc2⟩
      go_enter Tryz.func94, Tryz.ntmps94
      go_wp2_with (go_at_call 117; refine (in1_any _ _ _ _).mono ?_; rintro e w' ⟨rfl, rfl⟩)
      clear hin
      go_loop [3] (fun i => ∃ k : Nat, k ≤ s.size ∧ i = .int .i64 k ∧ Hid ((s.data.toList.take k).all okByte = true)) (fun i => s.size - (intOf i).toNat)
      case atStart => exact ⟨0, Nat.zero_le _, rfl, by simp [Hid]⟩
      case round =>
        obtain ⟨k, hk, rfl, Hn⟩ := hrel
        by_cases hlt : k < s.size
        · rcases byte_cases s[k] with ⟨hok, hb | hb | hb | hb⟩ | ⟨hok, hb | hb | hb⟩
          all_goals
            have HO := Lib.hid hok
            clear hok
            go_wp2
          all_goals first
            | (go_ret
               exact ⟨ret_bool (name_no s k hlt HO.out).symm, rfl⟩)
            | (go_round
               case rel => exact ⟨k + 1, by omega, by go_num, take_all s k hlt Hn.out HO.out⟩
               case measure => simp [intOf]; omega)
        · go_wp2
          go_ret
          obtain rfl : k = s.size := by omega
          exact ⟨ret_bool (name_yes s h1 h2 hl.out Hn.out).symm, rfl⟩
  · have hin : inB (s.size : Int) 1 16 = false := by simp [inB]; omega
    go_enter Tryz.func94, Tryz.ntmps94
    go_wp2_with (go_at_call 117; refine (in1_any _ _ _ _).mono ?_; rintro e w' ⟨rfl, rfl⟩)
    go_ret
    exact ⟨ret_bool (name_long s h1).symm, rfl⟩
set_option maxHeartbeats 400000 in
theorem fresh_any {S : Foot} {A : Option Addr} {n c : Nat} {xs : List (List UInt8)} (s : ByteArray) (w : World) (h : Strs S w A n xs) (hs : s.size ≤ 9223372036854775807) :
  Calls Tryz.prog 63 #[.string s, .slice A n c] w fun e w' => e = .returned (.int .i64 (fresh s.data.toList xs)) ∧ w = w' := by
 cases hn : isName s.data.toList
 ·go_enter Tryz.func63, Tryz.ntmps63
  go_wp2_with (go_at_call 94; refine (name_any _ _ hs).mono ?_; rintro e w' ⟨rfl, rfl⟩)
  go_ret
  exact ⟨ret_int (by simp [fresh, hn]), rfl⟩
 by_cases hp : place xs s.data.toList < 0
 ·have hp2 : ¬ 0 ≤ place xs s.data.toList := by omega
  have HP := Lib.hid ((place_neg _ _).1 hp)
  go_enter Tryz.func63, Tryz.ntmps63
  go_wp2_with (first | (go_at_call 94; refine (name_any _ _ hs).mono ?_; rintro e w' ⟨rfl, rfl⟩) | (go_at_call 95; refine (place_any _ _ h hs).mono ?_; rintro e w' ⟨rfl, rfl⟩))
  go_ret
  exact ⟨ret_int (by simp [fresh, hn, HP.out]), rfl⟩
 have hp2 : 0 ≤ place xs s.data.toList := by omega
 have HP : Hid (s.data.toList ∈ xs) := Classical.byContradiction fun hc => hp ((place_neg _ _).2 hc)
 clear hp
 go_enter Tryz.func63, Tryz.ntmps63
 go_wp2_with (first | (go_at_call 94; refine (name_any _ _ hs).mono ?_; rintro e w' ⟨rfl, rfl⟩) | (go_at_call 95; refine (place_any _ _ h hs).mono ?_; rintro e w' ⟨rfl, rfl⟩))
 go_ret
 exact ⟨ret_int (by simp [fresh, hn, HP.out]), rfl⟩
end Go.Proofs.YtcnebekkbfajbaaGreat
