/- A part of the proof that TopWorn always answers true. -/
import Derived.Laws.Rows
import Derived.Shelf.Abstract
import Derived.StillTailTactics
import Derived.Shelf.Small.Bits
import Derived.Test.YtdbfincinjoppabGreatDoorCBase
import Derived.Test.YtdbfincinjoppabGreatDoorCRef1
import Derived.Test.YtdbfincinjoppabGreatDoorCTilePure
set_option linter.all false
namespace Go.Proofs.YtdbfincinjoppabGreatDoor
open Go.RowKit Go.Maps
open Go.WideMaps (KeyLaw)
open Go.ChangeMaps (setBlock)
def z0 : DataW Unit := .lit (.int .i64 0)
def MaskIs (D : DataW Unit) (g : Int → Nat) : Prop := ∀ x : Int, D.atKey (.int .i64 x) z0 = .lit (.int .i64 (g x)) ∧ (has D (.int .i64 x) = true → g x ≠ 0)
theorem keyLit (x : Int) : WideAt.IsKeyLit (.int .i64 x) := by unfold WideAt.IsKeyLit; trivial
theorem wf_i64 {x : Int} (h1 : -9223372036854775808 ≤ x) (h2 : x ≤ 9223372036854775807) : (Lit.int .i64 x).wf = true := WalkArith.wf_i64 ⟨h1, h2⟩
section
variable {P : Program} {t k e : TypeId} {w : World} {b n : Nat}
structure MapZ (P : Program) (k e : TypeId) (w : World) (b n : Nat) (g : Int → Nat) : Prop where
 ex : ∃ D : DataW Unit, w.ownsMap P k (plainElem P e) b n D ∧ MaskIs D g
theorem MapZ.new (w : World) : MapZ P k e (w.alloc (.map #[] 0)) w.heap.size 0 (fun _ => 0) := ⟨_, World.ownsMap_made _ _ _ _, fun _ => ⟨rfl, fun h => by cases h⟩⟩
theorem MapZ.at {w' : World} {g : Int → Nat} (h : MapZ P k e w b n g) (hb : w'.heap[b]? = w.heap[b]?) : MapZ P k e w' b n g := by
 obtain ⟨D, h1, h2⟩ := h.ex
 exact ⟨D, ownsMap_at h1 hb, h2⟩
theorem MapZ.lt {g : Int → Nat} (h : MapZ P k e w b n g) : b < w.heap.size := by obtain ⟨D, h1, _⟩ := h.ex; exact h1.lt
theorem MapZ.mono {g : Int → Nat} (h : MapZ P k e w b n g) {n' : Nat} (hn : n ≤ n') : MapZ P k e w b n' g := by obtain ⟨D, h1, h2⟩ := h.ex; exact ⟨D, h1.mono hn, h2⟩
theorem MapZ.congr {g g' : Int → Nat} (h : MapZ P k e w b n g) (hg : ∀ x, g x = g' x) : MapZ P k e w b n g' := by rw [← show g = g' from funext hg]; exact h
theorem MapZ.look {g : Int → Nat} (h : MapZ P k e w b n g) (hk : P.underlying k = some (.int .i64)) (he : P.underlying e = some (.int .i64)) (ht : P.underlying t = some (.map k e)) (hz : ∀ u : World, (zeroValue e).run P u = .ok (.int .i64 0) u)
  {x : Int} (hx : (Lit.int .i64 x).wf = true) : (Instr.lookup t (.map (some b)) (.int .i64 x) false).run P w = .ok (.int .i64 (g x)) w := by
 obtain ⟨D, h1, h2⟩ := h.ex
 obtain ⟨c, hrun, hat, _⟩ := h1.lookup_int (int_keyed hk) ht he (hz w) (keyOf_int_mk hk hx)
 have := (h2 x).1
 unfold z0 at this
 rw [hat] at this
 injection this with this
 injection this with _ this
 rw [hrun, this]
theorem MapZ.put {g : Int → Nat} (h : MapZ P k e w b n g) (hk : P.underlying k = some (.int .i64)) (he : P.underlying e = some (.int .i64)) (ht : P.underlying t = some (.map k e))
  {x : Int} (hx : (Lit.int .i64 x).wf = true) (hn : n < maxLen) (v : Nat) (hv : v ≠ 0) (hv2 : v ≤ 9223372036854775807) :
  ∃ w', (Instr.mapUpdate t (.map (some b)) (.int .i64 x) (.int .i64 v)).run P w = .ok () w' ∧ MapZ P k e w' b (n + 1) (fun y => if y = x then v else g y) ∧ w.grownBy w' (some b) := by
 obtain ⟨D, h1, h2⟩ := h.ex
 obtain ⟨w', hrun, h3, h4⟩ := h1.update (int_keyed hk) ht hn (keyOf_int_mk hk hx) (plainElem_int (a := (v : Int)) he (wf_i64 (by omega) (by omega)))
 refine ⟨w', hrun, ⟨_, h3, fun y => ?_⟩, h4⟩
 by_cases hy : y = x
 ·subst hy
  simp only [if_true]
  exact ⟨atKey_put_same h1.isMap (keyLit _) _ _, fun _ => hv⟩
 have hne : Lit.int .i64 y ≠ Lit.int .i64 x := fun e => hy (by injection e)
 simp only [if_neg hy]
 rw [atKey_put_other hne, has_put_other hne]
 exact h2 y
structure KeysZ (P : Program) (k e : TypeId) (w : World) (b n : Nat) (S : Int → Prop) : Prop where
 ex : ∃ D : DataW Unit, w.ownsMap P k (plainElem P e) b n D ∧ ∀ x : Int, has D (.int .i64 x) = true ↔ S x
theorem KeysZ.new (w : World) : KeysZ P k e (w.alloc (.map #[] 0)) w.heap.size 0 (fun _ => False) := ⟨_, World.ownsMap_made _ _ _ _, fun _ => ⟨(fun h => by cases h), fun h => h.elim⟩⟩
theorem KeysZ.at {w' : World} {S : Int → Prop} (h : KeysZ P k e w b n S) (hb : w'.heap[b]? = w.heap[b]?) : KeysZ P k e w' b n S := by
 obtain ⟨D, h1, h2⟩ := h.ex
 exact ⟨D, ownsMap_at h1 hb, h2⟩
theorem KeysZ.lt {S : Int → Prop} (h : KeysZ P k e w b n S) : b < w.heap.size := by obtain ⟨D, h1, _⟩ := h.ex; exact h1.lt
theorem KeysZ.congr {S S' : Int → Prop} (h : KeysZ P k e w b n S) (hg : ∀ x, S x ↔ S' x) : KeysZ P k e w b n S' := by rw [← show S = S' from funext fun x => propext (hg x)]; exact h
theorem KeysZ.look {S : Int → Prop} (h : KeysZ P k e w b n S) (hk : P.underlying k = some (.int .i64)) (he : P.underlying e = some (.int .i64)) (ht : P.underlying t = some (.map k e)) (hz : ∀ u : World, (zeroValue e).run P u = .ok (.int .i64 0) u)
  {x : Int} (hx : (Lit.int .i64 x).wf = true) : ∃ c, ∀ w2 : World, w2.heap[b]? = w.heap[b]? → (Instr.lookup t (.map (some b)) (.int .i64 x) false).run P w2 = .ok (.int .i64 c) w2 := by
 obtain ⟨D, h1, h2⟩ := h.ex
 obtain ⟨c, _, hat, _⟩ := h1.lookup_int (int_keyed hk) ht he (hz w) (keyOf_int_mk hk hx)
 refine ⟨c, fun w2 hw2 => ?_⟩
 obtain ⟨c2, hrun, hat2, _⟩ := (ownsMap_at h1 hw2).lookup_int (int_keyed hk) ht he (hz w2) (keyOf_int_mk hk hx)
 rw [hat] at hat2
 injection hat2 with hat2
 injection hat2 with _ hat2
 rw [hrun, hat2]
theorem KeysZ.put {S : Int → Prop} (h : KeysZ P k e w b n S) (hk : P.underlying k = some (.int .i64)) (he : P.underlying e = some (.int .i64)) (ht : P.underlying t = some (.map k e))
  {x : Int} (hx : (Lit.int .i64 x).wf = true) (hn : n < maxLen) (a : Int) (ha : (Lit.int .i64 a).wf = true) :
  ∃ w', (Instr.mapUpdate t (.map (some b)) (.int .i64 x) (.int .i64 a)).run P w = .ok () w' ∧ KeysZ P k e w' b (n + 1) (fun y => y = x ∨ S y) ∧ w.grownBy w' (some b) := by
 obtain ⟨D, h1, h2⟩ := h.ex
 obtain ⟨w', hrun, h3, h4⟩ := h1.update (int_keyed hk) ht hn (keyOf_int_mk hk hx) (plainElem_int (a := a) he ha)
 refine ⟨w', hrun, ⟨_, h3, fun y => ?_⟩, h4⟩
 by_cases hy : y = x
 ·subst hy
  rw [has_put_same h1.isMap (keyLit _)]
  simp
 have hne : Lit.int .i64 y ≠ Lit.int .i64 x := fun e => hy (by injection e)
 rw [has_put_other hne, h2 y]
 exact ⟨.inr, fun h => h.elim (fun h => absurd h hy) id⟩
structure SeenZ (P : Program) (k e : TypeId) {α : Type} (key : α → Value) (w : World) (b n : Nat) (S : α → Prop) : Prop where
 ex : ∃ D : DataW Unit, w.ownsMap P k (plainElem P e) b n D ∧ ∀ (x : α) (kl : Lit), keyOf P k (key x) = some kl → ∃ c : Int, D.atKey kl z0 = .lit (.int .i64 c) ∧ 0 ≤ c ∧ c ≤ n ∧ (0 < c → S x)
theorem SeenZ.new {α : Type} {key : α → Value} (w : World) : SeenZ P k e key (w.alloc (.map #[] 0)) w.heap.size 0 (fun _ => False) := ⟨_, World.ownsMap_made _ _ _ _, fun _ _ _ => ⟨0, rfl, by omega, by omega, fun h => by omega⟩⟩
theorem SeenZ.at {α : Type} {key : α → Value} {w' : World} {S : α → Prop} (h : SeenZ P k e key w b n S) (hb : w'.heap[b]? = w.heap[b]?) : SeenZ P k e key w' b n S := by
 obtain ⟨D, h1, h2⟩ := h.ex
 exact ⟨D, ownsMap_at h1 hb, h2⟩
theorem SeenZ.lt {α : Type} {key : α → Value} {S : α → Prop} (h : SeenZ P k e key w b n S) : b < w.heap.size := by obtain ⟨D, h1, _⟩ := h.ex; exact h1.lt
theorem SeenZ.mono {α : Type} {key : α → Value} {S S' : α → Prop} (h : SeenZ P k e key w b n S) (hS : ∀ x, S x → S' x) : SeenZ P k e key w b n S' := by
 obtain ⟨D, h1, h2⟩ := h.ex
 exact ⟨D, h1, fun x kl hk => by obtain ⟨c, g1, g2, g3, g4⟩ := h2 x kl hk; exact ⟨c, g1, g2, g3, fun h => hS x (g4 h)⟩⟩
theorem SeenZ.count {α : Type} {key : α → Value} (hinj : ∀ x y, key x = key y → x = y) {S : α → Prop} (h : SeenZ P k e key w b n S) (K : KeyLaw P k) (he : P.underlying e = some (.int .i64)) (ht : P.underlying t = some (.map k e)) (hz : ∀ u : World, (zeroValue e).run P u = .ok (.int .i64 0) u)
  (hn : n < 4611686018427387904) (x : α) (hkey : ∃ kl, keyOf P k (key x) = some kl) :
  ∃ (c : Int) (st : Nat) (o1 : Obj), 0 ≤ c ∧ c ≤ n ∧ (0 < c → S x) ∧
   (∀ w2 : World, (w2.heap[b]? = w.heap[b]? ∨ w2.heap[b]? = some o1) → (Instr.mapEntry t (.map (some b)) (key x)).run P w2 = .ok (.tuple #[.int .i64 c, goInt st]) (setBlock w2 b o1)) ∧
   (∀ w2 : World, (w2.heap[b]? = w.heap[b]? ∨ w2.heap[b]? = some o1) → w2.heap[b]? ≠ none) ∧
   (∀ w2 : World, (w2.heap[b]? = w.heap[b]? ∨ w2.heap[b]? = some o1) → (Instr.lookup t (.map (some b)) (key x) false).run P w2 = .ok (.int .i64 c) w2) ∧
   (∀ w2 : World, w2.heap[b]? = some o1 → ∃ w3, (Instr.entryStore t (.map (some b)) (goInt st) (.int .i64 (c + 1))).run P w2 = .ok () w3 ∧ w2.grownBy w3 (some b) ∧
    SeenZ P k e key w3 b (n + 1) (fun y => y = x ∨ S y) ∧ ∀ w4 : World, w4.heap[b]? = w3.heap[b]? → (Instr.lookup t (.map (some b)) (key x) false).run P w4 = .ok (.int .i64 (c + 1)) w4) := by
 obtain ⟨D, h1, h2⟩ := h.ex
 obtain ⟨kl, hkl⟩ := hkey
 obtain ⟨c, g1, g2, g3, g4⟩ := h2 x kl hkl
 obtain ⟨c', st, es1, clock1, e1, _, e3, e4, e5⟩ := entry_own K ht he hz h1 (Nat.lt_of_lt_of_le hn (by unfold maxLen; omega)) hkl
 have hcc : c' = c := by
  unfold z0 at g1
  rw [e1] at g1
  injection g1 with g1
  injection g1
 subst hcc
 have hblt := h1.lt
 refine ⟨c', st, .map es1 clock1, g2, g3, g4, e3, ?_, e4, fun w2 hw2 => ?_⟩
 ·rintro w2 (h | h) hn0
  ·rw [hn0] at h
   have := Array.getElem?_eq_none_iff.1 h.symm
   omega
  rw [hn0] at h; cases h
 obtain ⟨w3, r1, r2, r3⟩ := e5 w2 (c' + 1) hw2 (wf_i64 (by omega) (by omega))
 have KK := Keyed.of_law K
 refine ⟨w3, r1, r3, ⟨_, r2, fun y kl' hkl' => ?_⟩, fun w4 hw4 => ?_⟩
 ·by_cases hy : kl' = kl
  ·subst hy
   have hxy : y = x := hinj _ _ (K.inj hkl' hkl)
   exact ⟨c' + 1, atKey_put_same h1.isMap (KK.key hkl) _ _, by omega, by omega, fun _ => .inl hxy⟩
  obtain ⟨c2, q1, q2, q3, q4⟩ := h2 y kl' hkl'
  exact ⟨c2, by rw [atKey_put_other hy]; exact q1, q2, by omega, fun h => .inr (q4 h)⟩
 obtain ⟨c2, hrun, hat2, _⟩ := (ownsMap_at r2 hw4).lookup_int KK ht he (hz w4) hkl
 rw [atKey_put_same h1.isMap (KK.key hkl)] at hat2
 injection hat2 with hat2
 injection hat2 with _ hat2
 rw [hrun, hat2]
end
open Go.RowKit Go.ChangeMaps Go.MapKept
def updF (f : Nat → Int × Int) (a : Nat) (p : Int × Int) : Nat → Int × Int := fun i => if i = a then p else f i
open Go.RowKit Go.Shelf
def outB (lo hi x : Int) : Bool := decide (x < lo) || decide (hi < x)
theorem outB_inB (lo hi x : Int) : outB lo hi x = !inB x lo hi := by
 unfold outB inB
 by_cases h1 : x < lo <;> by_cases h2 : hi < x <;> simp [h1, h2] <;> omega
theorem any_take_no {α : Type} {xs : List α} {k : Nat} {x : α} {p : α → Bool} (hx : xs[k]? = some x) (h : (xs.take k).any p = false) (hp : p x = false) : (xs.take (k + 1)).any p = false := by
 rw [take_snoc_get hx, List.any_append, h]; simp [hp]
theorem any_yes {α : Type} {xs : List α} {k : Nat} {x : α} {p : α → Bool} (hx : xs[k]? = some x) (hp : p x = true) : xs.any p = true := List.any_eq_true.2 ⟨x, List.mem_of_getElem? hx, hp⟩
set_option maxHeartbeats 1000000 in
theorem indexI_any {S : Foot} {A : Option Addr} {n c : Nat} {xs : List Int} (p : Int → Bool) (g : Nat) (lb : Array Value) (eg : ∀ args w, (callFunc g args).run Tryz.prog w = .ok (.enter g args) w) (w : World) (h : Ints S w A n xs)
  (hp : ∀ (x : Int) (W : World), Below w.heap.size w W → Calls Tryz.prog g (#[.int .i64 x] ++ lb) W fun e W' => e = .returned (.bool (p x)) ∧ W = W') :
  Calls Tryz.prog 126 #[.slice A n c, .func (.func g) #[] lb] w fun e w' => (∃ r : Int, e = .returned (.int .i64 r) ∧ Hid (decide (0 ≤ r) = xs.any p)) ∧ w = w' := by
 have hle := h.le
 have Hn0 := Lib.hid h.len
 have HP := Lib.hid hp
 clear hp
 go_enter Tryz.func126, Tryz.ntmps126
 go_wp2
 go_loop [5, 8] (fun _ i => ∃ k : Nat, k ≤ n ∧ i = .int .i64 k ∧ Hid ((xs.take k).any p = false)) (fun _ i => n - (intOf i).toNat)
 case atStart => exact ⟨0, Nat.zero_le _, rfl, rfl⟩
 case round =>
  obtain ⟨k, hk, rfl, Hk⟩ := hrel
  by_cases hlt : k < n
  ·have hki : (k : Int) < n := by omega
   obtain ⟨b, off, x, rfl, hcell, Hx⟩ := h.get hlt
   have hcall := HP.out x w (Below.refl _ _)
   cases hq : p x with
   | true =>
    have HQ := Lib.hid hq
    rw [hq] at hcall
    clear hq
    go_wp2_with (go_at_fn g; refine hcall.mono ?_; rintro e w' ⟨rfl, rfl⟩)
    go_ret
    exact ⟨⟨_, rfl, by rw [Hid, any_yes Hx.out HQ.out]; simp⟩, rfl⟩
   | false =>
    have HQ := Lib.hid hq
    rw [hq] at hcall
    clear hq
    go_wp2_with (go_at_fn g; refine hcall.mono ?_; rintro e w' ⟨rfl, rfl⟩)
    go_round
    case rel => exact ⟨k + 1, by omega, by go_num, any_take_no Hx.out Hk.out HQ.out⟩
    case measure => simp [intOf]; omega
  obtain rfl : k = n := by omega
  go_wp2
  go_ret
  refine ⟨⟨_, rfl, ?_⟩, rfl⟩
  have := Hk.out
  rw [List.take_of_length_le (by rw [Hn0.out]; exact Nat.le_refl _)] at this
  rw [Hid, this]; rfl
theorem containsI_any {S : Foot} {A : Option Addr} {n c : Nat} {xs : List Int} (p : Int → Bool) (g : Nat) (lb : Array Value) (eg : ∀ args w, (callFunc g args).run Tryz.prog w = .ok (.enter g args) w) (w : World) (h : Ints S w A n xs)
  (hp : ∀ (x : Int) (W : World), Below w.heap.size w W → Calls Tryz.prog g (#[.int .i64 x] ++ lb) W fun e W' => e = .returned (.bool (p x)) ∧ W = W') :
  Calls Tryz.prog 99 #[.slice A n c, .func (.func g) #[] lb] w fun e w' => e = .returned (.bool (xs.any p)) ∧ w = w' := by
 have hle := h.le
 have HP := Lib.hid hp
 have HG := Lib.hid eg
 clear hp eg
 go_enter Tryz.func99, Tryz.ntmps99
 go_wp2_with (go_at_call 126; refine (indexI_any p g lb HG.out _ h HP.out).mono ?_; rintro e w' ⟨⟨r, rfl, Hr⟩, rfl⟩)
 go_ret
 exact ⟨ret_bool Hr.out, rfl⟩
theorem app11 (a b : Value) : (#[a] ++ #[b] : Array Value) = #[a, b] := rfl
theorem app12 (a b c : Value) : (#[a] ++ #[b, c] : Array Value) = #[a, b, c] := rfl
theorem SliceOf.take {α : Type} {R : Rd α} {m : Nat} {S : Foot} {w : World} {A : Option Addr} {n : Nat} {xs : List α} (h : SliceOf R m S w A n xs) {k : Nat} (hk : k ≤ n) : SliceOf R m S w A k (xs.take k) :=
 ⟨by rw [List.length_take, h.1]; omega, Nat.le_trans hk h.2.1, fun j x hx => by
  rw [List.getElem?_take] at hx
  split at hx
  ·exact h.2.2 j x hx
  cases hx⟩
theorem streq_t {s t : ByteArray} (h : s.data.toList = t.data.toList) : (s.toList == t.toList) = true := by rw [ByteArray.toList_eq, ByteArray.toList_eq]; simpa using h
theorem streq_f {s t : ByteArray} (h : s.data.toList ≠ t.data.toList) : (s.toList == t.toList) = false := by rw [ByteArray.toList_eq, ByteArray.toList_eq]; simpa using h
theorem Ints.one {w : World} {g : Nat} {x : Int} (h : w.cell? ⟨g, 0, none⟩ = some (.int .i64 x)) : Ints (fun _ => True) w (some ⟨g, 0, none⟩) 1 [x] := by
 refine ⟨rfl, by decide, fun k y hk => ?_⟩
 have hk0 : k = 0 := by have := of_getq' hk; simp at this; omega
 subst hk0
 simp at hk; subst hk
 refine ⟨g, 0, [.int .i64 x], rfl, trivial, World.block_lt_of_cell? w _ h, rfl, fun j u hu => ?_⟩
 have hj : j = 0 := by have := of_getq' hu; simp at this; omega
 subst hj
 simp at hu; subst hu
 simpa using h
theorem Ints.two {w : World} {g : Nat} {x y : Int} (h : w.cell? ⟨g, 0, none⟩ = some (.int .i64 x)) (h2 : w.cell? ⟨g, 1, none⟩ = some (.int .i64 y)) : Ints (fun _ => True) w (some ⟨g, 0, none⟩) 2 [x, y] := by
 refine ⟨rfl, by decide, fun k z hk => ?_⟩
 have hk0 : k = 0 ∨ k = 1 := by have := of_getq' hk; simp at this; omega
 rcases hk0 with rfl | rfl
 all_goals
  simp at hk; subst hk
  refine ⟨g, 0, _, rfl, trivial, World.block_lt_of_cell? w _ h, rfl, fun j u hu => ?_⟩
  have hj : j = 0 := by have := of_getq' hu; simp at this; omega
  subst hj
  simp at hu; subst hu
  first | (simpa using h) | (simpa using h2)
theorem inB_iff {n lo hi : Int} : inB n lo hi = true ↔ lo ≤ n ∧ n ≤ hi := by simp [inB]
def firstRF : Code → Option (Code × Code)
 | .rangeFunc _ _ a b => some (a, b)
 | .loop c => firstRF c
 | .seq a b => match firstRF a with
  | some c => some c
  | none => firstRF b
 | .block _ c => firstRF c
 | .scope c => firstRF c
 | .cond _ a b => match firstRF a with
  | some c => some c
  | none => firstRF b
 | _ => none
def mixF (new old : Nat → Int × Int) (j : Nat) : Nat → Int × Int := fun a => if a < j then new a else old a
theorem mixF_at (new old : Nat → Int × Int) (j : Nat) : mixF new old j j = old j := by simp [mixF]
theorem mixF_upd (new old : Nat → Int × Int) (j : Nat) : updF (mixF new old j) j (new j) = mixF new old (j + 1) := by
 funext a
 unfold updF mixF
 by_cases h : a = j
 ·subst h; simp
 rw [if_neg h]
 by_cases h2 : a < j
 ·rw [if_pos h2, if_pos (by omega)]
 rw [if_neg h2, if_neg (by omega)]
theorem min_if (a b : Int) : (if b < a then b else a) = min a b := by split <;> omega
theorem max_if (a b : Int) : (if a < b then b else a) = max a b := by split <;> omega
def firstLoopC : Code → Option Code
 | .loop c => some c
 | .seq a b => match firstLoopC a with
  | some c => some c
  | none => firstLoopC b
 | .block _ c => firstLoopC c
 | .scope c => firstLoopC c
 | .cond _ a b => match firstLoopC a with
  | some c => some c
  | none => firstLoopC b
 | _ => none
theorem ret_span {fn : Func} {p u : Tmp} (h : fn.results = #[.cell p 23, .tmp u]) {tmps : Array Value} {g : Nat} {lo hi e : Int} {w : World} (hp : tmps.getD p undef = .pointer (some ⟨g, 0, none⟩)) (hu : tmps.getD u undef = .int .i64 e)
  (h0 : w.cell? ⟨g, 0, none⟩ = some (.int .i64 lo)) (h1 : w.cell? ⟨g, 1, none⟩ = some (.int .i64 hi)) : (results fn tmps).run Tryz.prog w = .ok (.tuple #[.agg #[.int .i64 lo, .int .i64 hi], .int .i64 e]) w := by
 rw [results_cell_tmp h, hp, hu]
 simp [go_sem, h0, h1]
def lexL : Nat → List Int → List (List Int)
 | 0, _ => [[]]
 | _ + 1, [] => []
 | k + 1, x :: of => ((lexL k of).map (x :: ·)) ++ lexL (k + 1) of
def numbersL (n : Nat) : List Int := (List.range n).map fun i : Nat => (i : Int)
theorem lex_sub : ∀ (k : Nat) (of : List Int) (x : List Int), x ∈ lexL k of → x.Sublist of ∧ x.length = k := by
 intro k of
 induction of generalizing k with
 | nil =>
  intro x hx
  cases k with
  | zero => simp [lexL] at hx; subst hx; exact ⟨List.Sublist.refl _, rfl⟩
  | succ k => simp [lexL] at hx
 | cons y of ih =>
  intro x hx
  cases k with
  | zero => simp [lexL] at hx; subst hx; exact ⟨List.nil_sublist _, rfl⟩
  | succ k =>
   rw [lexL, List.mem_append] at hx
   rcases hx with hx | hx
   ·obtain ⟨u, hu, rfl⟩ := List.mem_map.1 hx
    obtain ⟨h1, h2⟩ := ih k u hu
    exact ⟨h1.cons_cons y, by simp [h2]⟩
   obtain ⟨h1, h2⟩ := ih (k + 1) x hx
   exact ⟨h1.cons y, h2⟩
end Go.Proofs.YtdbfincinjoppabGreatDoor
namespace Go.Proofs
open Go.RowKit Go.Shelf
def Tryz.bitsLen_ren : Go.Shelf.Ren := ⟨fun | 125 => 73 | 128 => 117 | 129 => 118 | n => n, fun | 46 => 119 | 3 => 3 | 51 => 156 | 53 => 158 | 4 => 4 | 5 => 5 | 9 => 9 | n => n, fun n => n⟩
theorem Tryz.bitsLen : Lays.n125 Tryz.prog Tryz.bitsLen_ren where
 mixed := by kernel_rfl
 f125 := Tryz.func73.trans (congrArg some (by kernel_rfl))
 f128 := Tryz.func117.trans (congrArg some (by kernel_rfl))
 f129 := Tryz.func118.trans (congrArg some (by kernel_rfl))
 t3 := Tryz.underlying3
 a3 := Tryz.isAgg3
 z3 := Tryz.sizeOf3
 v3 := Tryz.zeroValue3
 t4 := Tryz.underlying4
 a4 := Tryz.isAgg4
 z4 := Tryz.sizeOf4
 v4 := Tryz.zeroValue4
 t5 := Tryz.underlying5
 a5 := Tryz.isAgg5
 z5 := Tryz.sizeOf5
 v5 := Tryz.zeroValue5
 t9 := Tryz.underlying9
 a9 := Tryz.isAgg9
 z9 := Tryz.sizeOf9
 v9 := Tryz.zeroValue9
 t46 := Tryz.underlying119
 a46 := Tryz.isAgg119
 z46 := Tryz.sizeOf119
 v46 := Tryz.zeroValue119
 t51 := Tryz.underlying156
 a51 := Tryz.isAgg156
 z51 := Tryz.sizeOf156
 v51 := Tryz.zeroValue156
 t53 := Tryz.underlying158
 a53 := Tryz.isAgg158
 z53 := Tryz.sizeOf158
 v53 := Tryz.zeroValue158
end Go.Proofs
namespace Go.Proofs.YtdbfincinjoppabGreatDoor
open Go.RowKit Go.Shelf
def bitU (s k : Nat) : List Int := ((List.range k).filter fun i => s.testBit i).map fun i : Nat => (i : Int)
def bitL (s : Nat) : List Int := bitU s 8
def st1 (x : Int) : Int := IntKind.u64.wrap (bits BinOp.and IntKind.u64 (x / 2) 6148914691236517205 + bits BinOp.and IntKind.u64 x 6148914691236517205)
def st2 (x : Int) : Int := IntKind.u64.wrap (bits BinOp.and IntKind.u64 (x / 4) 3689348814741910323 + bits BinOp.and IntKind.u64 x 3689348814741910323)
def st3 (x : Int) : Int := bits BinOp.and IntKind.u64 (IntKind.u64.wrap (x / 16 + x)) 1085102592571150095
def st4 (x : Int) : Int := IntKind.u64.wrap (x + x / 256)
def st5 (x : Int) : Int := IntKind.u64.wrap (x + x / 65536)
def st6 (x : Int) : Int := IntKind.u64.wrap (x + x / 4294967296)
def onesI (x : Int) : Int := bits BinOp.and IntKind.i64 (wrap64 (st6 (st5 (st4 (st3 (st2 (st1 x))))))) 127
theorem ones_bit : ∀ s : Nat, s < 256 → onesI s = (bitL s).length := by decide +kernel
theorem bitU_succ (s k : Nat) : bitU s (k + 1) = bitU s k ++ if s.testBit k then [(k : Int)] else [] := by
 unfold bitU; rw [List.range_succ, List.filter_append, List.map_append]
 cases h : s.testBit k <;> simp [h]
theorem len_bit : ∀ s : Nat, s < 256 → Lib.bitLen s ≤ 8 ∧ bitU s (Lib.bitLen s) = bitL s := by decide +kernel
theorem bit_test : ∀ s : Nat, s < 256 → ∀ k : Nat, k < 8 → (bits BinOp.and IntKind.i64 ((s : Int) / 2 ^ k) 1 == 1) = s.testBit k := by decide +kernel
theorem bitL_len : ∀ s : Nat, s < 256 → (bitL s).length ≤ 8 := by decide +kernel
set_option maxHeartbeats 1000000 in
theorem ones64_any (x : Nat) (w : World) : Calls Tryz.prog 86 #[.int .u64 x] w fun e w' => e = .returned (.int .i64 (onesI x)) ∧ w = w' := by
 go_enter Tryz.func86, Tryz.ntmps86
 go_wp2
 go_ret
 exact ⟨rfl, rfl⟩
theorem ones_any (s : Nat) (hs : s < 256) (w : World) : Calls Tryz.prog 54 #[.int .u64 s] w fun e w' => e = .returned (.int .i64 (bitL s).length) ∧ w = w' := by
 have h := ones64_any s w
 rw [ones_bit s hs] at h
 go_enter Tryz.func54, Tryz.ntmps54
 go_wp2_with (go_at_call 86; refine h.mono ?_; rintro e w' ⟨rfl, rfl⟩)
 go_ret
 exact ⟨rfl, rfl⟩
theorem infoInt : (Tryz.prog.info? 3).map (fun i => (i.zero, i.size, i.bytes)) = some (some (.int .i64 0), 1, 8) := by kernel_rfl
end Go.Proofs.YtdbfincinjoppabGreatDoor
