/- A part of the proof that TopLaid always answers true. -/
import Derived.Laws.Rows
import Derived.Shelf.Abstract
import Derived.StillTailTactics
import Derived.Test.YtdbfincinjoppaaGreatCBase2
import Derived.Test.YtdbfincinjoppaaGreatCMaps
import Derived.Test.YtdbfincinjoppaaGreatCPure
import Derived.Test.YtdbfincinjoppaaGreatCRef1
set_option linter.all false
namespace Go.Proofs.YtdbfincinjoppaaGreat
open Go.RowKit Go.Maps
open Go.WideMaps (KeyLaw)
open Go.ChangeMaps (setBlock)
def z0 : DataW Unit := .lit (.int .i64 0)
theorem wf_i64 {x : Int} (h1 : -9223372036854775808 ≤ x) (h2 : x ≤ 9223372036854775807) : (Lit.int .i64 x).wf = true := WalkArith.wf_i64 ⟨h1, h2⟩
section
variable {P : Program} {t k e : TypeId} {w : World} {b n : Nat}
end
open Go.RowKit Go.ChangeMaps Go.MapKept
def entsFrom (i : Nat) : List Value → List MapEntry
 | [] => []
 | v :: vs => ⟨.int .i64 i, v, i⟩ :: entsFrom (i + 1) vs
theorem entsFrom_snoc (v : Value) : ∀ (vs : List Value) (i : Nat), entsFrom i (vs ++ [v]) = entsFrom i vs ++ [⟨.int .i64 ((i + vs.length : Nat) : Int), v, i + vs.length⟩] := by
 intro vs
 induction vs with
 | nil => intro i; simp [entsFrom]
 | cons x vs ih => intro i; simp only [List.cons_append, entsFrom, ih]; rw [List.length_cons, show i + 1 + vs.length = i + (vs.length + 1) by omega]
theorem find_yes (v : Value) : ∀ (vs : List Value) (i k st : Nat), vs[k]? = some v → ∃ p, Instr.findNow (.int .i64) (.int .i64 ((i + k : Nat) : Int)) (entsFrom i vs) st = some (some (p, v)) := by
 intro vs
 induction vs with
 | nil => intro i k st h; simp at h
 | cons x vs ih =>
  intro i k st h
  cases k with
  | zero => simp at h; subst h; exact ⟨st, by simp [entsFrom, Instr.findNow, Instr.sameNow]⟩
  | succ k =>
   obtain ⟨p, hp⟩ := ih (i + 1) k (st + 1) (by simpa using h)
   refine ⟨p, ?_⟩
   rw [show i + 1 + k = i + (k + 1) by omega] at hp
   have hne : (((i + (k + 1) : Nat) : Int) == ((i : Nat) : Int)) = false := by simp; omega
   simp only [entsFrom, Instr.findNow, Instr.sameNow, if_true, hne]
   exact hp
theorem find_no (y : Int) : ∀ (vs : List Value) (i st : Nat), ((i + vs.length : Nat) : Int) ≤ y → Instr.findNow (.int .i64) (.int .i64 y) (entsFrom i vs) st = some none := by
 intro vs
 induction vs with
 | nil => intro i st _; rfl
 | cons x vs ih =>
  intro i st h
  rw [List.length_cons] at h
  have hne : (y == ((i : Nat) : Int)) = false := by simp; omega
  simp only [entsFrom, Instr.findNow, Instr.sameNow, if_true, hne]
  exact ih (i + 1) (st + 1) (by omega)
def MapOf (w : World) (b : Nat) (vs : List Value) : Prop := w.heap[b]? = some (.map (entsFrom 0 vs).toArray vs.length)
theorem MapOf.lt {w : World} {b : Nat} {vs : List Value} (h : MapOf w b vs) : b < w.heap.size := by exact (Array.getElem?_eq_some_iff.1 h).1
theorem MapOf.new (w : World) : MapOf (w.alloc (.map #[] 0)) w.heap.size [] := World.alloc_heap_new w _
theorem MapOf.at {w w' : World} {b : Nat} {vs : List Value} (h : MapOf w b vs) (hb : w'.heap[b]? = w.heap[b]?) : MapOf w' b vs := hb.trans h
theorem MapOf.bl {w w' : World} {b : Nat} {vs : List Value} (h : MapOf w b vs) (hb : Below w.heap.size w w') : MapOf w' b vs := h.at (hb.block b h.lt)
theorem MapOf.look {P : Program} {t k e : TypeId} {w : World} {b : Nat} {vs : List Value} (h : MapOf w b vs) (ht : P.underlying t = some (.map k e)) (hk : P.underlying k = some (.int .i64)) {i : Nat} {v : Value} (hv : vs[i]? = some v) :
  (Instr.lookup t (.map (some b)) (.int .i64 i) false).run P w = .ok v w := by
 have hb := h
 unfold MapOf at hb
 obtain ⟨p, hp⟩ := find_yes v vs 0 i 0 hv
 rw [Nat.zero_add] at hp
 have h1 := run_checkKey (P := P) (w := w) (k := .int .i64 i) hk (by simp [IsKey]) (entsFrom 0 vs).isEmpty 9999
 have h2 := run_findKey (w := w) hk hp
 rw [show (9999 + 1 : Nat) = 10000 from rfl] at h1
 simp [Instr.lookup, run_underlying ht, MapKept.run_getObj_map hb, h1, h2, Result.andThen]
theorem MapOf.put {P : Program} {t k e : TypeId} {w : World} {b : Nat} {vs : List Value} (h : MapOf w b vs) (ht : P.underlying t = some (.map k e)) (hk : P.underlying k = some (.int .i64)) (v : Value) :
  ∃ w', (Instr.mapUpdate t (.map (some b)) (.int .i64 vs.length) v).run P w = .ok () w' ∧ MapOf w' b (vs ++ [v]) ∧ w.grownBy w' (some b) := by
 have hb := h
 unfold MapOf at hb
 have hp := find_no (vs.length : Int) vs 0 0 (by omega)
 have h1 := run_checkKey (P := P) (w := w) (k := .int .i64 vs.length) hk (by simp [IsKey]) false 9999
 have h2 := run_findKey (w := w) hk hp
 have hlt := (Array.getElem?_eq_some_iff.1 hb).1
 rw [show (9999 + 1 : Nat) = 10000 from rfl] at h1
 have hrun : (Instr.mapUpdate t (.map (some b)) (.int .i64 vs.length) v).run P w = .ok () { w with heap := w.heap.setIfInBounds b (.map ((entsFrom 0 vs).toArray.push ⟨.int .i64 vs.length, v, vs.length⟩) (vs.length + 1)) } := by
  simp [Instr.mapUpdate, run_underlying ht, MapKept.run_getObj_map hb, h1, h2, MapKept.run_setObj_map _ hb, Result.andThen]
 obtain ⟨hs1, hs2⟩ := heap_set (o' := .map ((entsFrom 0 vs).toArray.push ⟨.int .i64 vs.length, v, vs.length⟩) (vs.length + 1)) hb
 refine ⟨_, hrun, ?_, ⟨rfl, rfl, rfl, by simp, fun k hk hne => hs2 k (fun e => hne (by rw [e]))⟩⟩
 unfold MapOf
 rw [hs1, entsFrom_snoc]
 simp
def cellsF (f : Nat → Int × Int) : Array Value := Array.ofFn (n := 82) fun j => if j.val % 2 = 0 then .int .i64 (f (j.val / 2)).1 else .int .i64 (f (j.val / 2)).2
theorem cellsF_size (f : Nat → Int × Int) : (cellsF f).size = 82 := by simp [cellsF]
theorem cellsF_lo (f : Nat → Int × Int) {i : Nat} (hi : i < 41) : (cellsF f)[i * 2]? = some (.int .i64 (f i).1) := by
 unfold cellsF
 rw [Array.getElem?_ofFn, dif_pos (by omega)]
 simp
theorem cellsF_hi (f : Nat → Int × Int) {i : Nat} (hi : i < 41) : (cellsF f)[i * 2 + 1]? = some (.int .i64 (f i).2) := by
 unfold cellsF
 rw [Array.getElem?_ofFn, dif_pos (by omega)]
 have h1 : (i * 2 + 1) % 2 = 1 := by omega
 have h2 : (i * 2 + 1) / 2 = i := by omega
 simp [h1, h2]
def updF (f : Nat → Int × Int) (a : Nat) (p : Int × Int) : Nat → Int × Int := fun i => if i = a then p else f i
theorem cellsF_get (f : Nat → Int × Int) (j : Nat) : (cellsF f)[j]? = if j < 82 then some (if j % 2 = 0 then .int .i64 (f (j / 2)).1 else .int .i64 (f (j / 2)).2) else none := by
 unfold cellsF
 rw [Array.getElem?_ofFn]
 by_cases h : j < 82
 ·rw [dif_pos h, if_pos h]
 rw [dif_neg h, if_neg h]
theorem cellsF_set (f : Nat → Int × Int) {a : Nat} (ha : a < 41) (x y : Int) : ((cellsF f).setIfInBounds (a * 2) (.int .i64 x)).setIfInBounds (a * 2 + 1) (.int .i64 y) = cellsF (updF f a (x, y)) := by
 apply Array.ext_getElem?
 intro j
 rw [Array.getElem?_setIfInBounds, Array.getElem?_setIfInBounds, cellsF_get, cellsF_get, Array.size_setIfInBounds, cellsF_size]
 by_cases e1 : a * 2 + 1 = j
 ·subst e1
  have q1 : (a * 2 + 1) % 2 = 1 := by omega
  have q2 : (a * 2 + 1) / 2 = a := by omega
  have q3 : a * 2 + 1 < 82 := by omega
  simp [q1, q2, q3, updF]
 rw [if_neg e1]
 by_cases e2 : a * 2 = j
 ·subst e2
  have q3 : a * 2 < 82 := by omega
  simp [q3, updF]
 rw [if_neg e2]
 by_cases q3 : j < 82
 ·rw [if_pos q3, if_pos q3]
  have hne : j / 2 ≠ a := by omega
  simp [updF, hne]
 rw [if_neg q3, if_neg q3]
theorem cellsF_ext {f g : Nat → Int × Int} (h : ∀ i, i < 41 → f i = g i) : cellsF f = cellsF g := by
 unfold cellsF
 congr 1
 funext j
 have := h (j.val / 2) (by omega)
 rw [this]
theorem run_index_spans {P : Program} {t e : TypeId} (ht : P.underlying t = some (.array 41 e)) (he : ∃ fs, P.underlying e = some (.struct fs)) (hs : (P.info? e).map (·.size) = some 2) (f : Nat → Int × Int) {i : Nat} (hi : i < 41) (w : World) :
  (Instr.index t (.agg (cellsF f)) (.int .i64 i)).run P w = .ok (.agg #[.int .i64 (f i).1, .int .i64 (f i).2]) w := by
 obtain ⟨fs, he⟩ := he
 cases hq : P.info? e with
 | none => simp [hq] at hs
 | some inf =>
  have hsz : inf.size = 2 := by simpa [hq] using hs
  have hx : (cellsF f).extract (i * 2) (i * 2 + 2) = #[.int .i64 (f i).1, .int .i64 (f i).2] := by
   apply Array.ext
   ·rw [Array.size_extract, cellsF_size]; simp; omega
   intro j h1 h2
   have hj : j < 2 := by simpa using h2
   have hlo := cellsF_lo f hi
   have hhi := cellsF_hi f hi
   rw [Array.getElem?_eq_getElem (by rw [cellsF_size]; omega)] at hlo hhi
   rw [Array.getElem_extract]
   rcases j with _ | _ | j
   ·simpa using hlo
   ·simpa using hhi
   omega
  have h1 : (0 : Int) ≤ (i : Int) ∧ (i : Int) < ((41 : Nat) : Int) := by omega
  simp [Instr.index, asIntOf, run_underlying ht, run_underlying he, part, isAgg, sizeOf, typeInfo, hq, hsz, Result.andThen, hx]
  intro h2; omega
open Go.RowKit Go.Shelf
def outB (lo hi x : Int) : Bool := decide (x < lo) || decide (hi < x)
theorem outB_inB (lo hi x : Int) : outB lo hi x = !inB x lo hi := by
 unfold outB inB
 by_cases h1 : x < lo <;> by_cases h2 : hi < x <;> simp [h1, h2] <;> omega
theorem any_take_no {α : Type} {xs : List α} {k : Nat} {x : α} {p : α → Bool} (hx : xs[k]? = some x) (h : (xs.take k).any p = false) (hp : p x = false) : (xs.take (k + 1)).any p = false := by
 rw [take_snoc_get hx, List.any_append, h]; simp [hp]
theorem any_yes {α : Type} {xs : List α} {k : Nat} {x : α} {p : α → Bool} (hx : xs[k]? = some x) (hp : p x = true) : xs.any p = true := List.any_eq_true.2 ⟨x, List.mem_of_getElem? hx, hp⟩
set_option maxHeartbeats 1000000 in
theorem indexI_any {S : Foot} {A : Option Addr} {n c : Nat} {xs : List Int} (p : Int → Bool) (g : Nat) (lb : Array Value) (eg : ∀ args w, (callFunc g args).run Tryz.prog w = .ok (.enter g args) w) (w : World) (h : Ints S w A n xs)
  (hp : ∀ (x : Int) (W : World), Below w.heap.size w W → Calls Tryz.prog g (#[.int .i64 x] ++ lb) W fun e W' => e = .returned (.bool (p x)) ∧ W = W') :
  Calls Tryz.prog 113 #[.slice A n c, .func (.func g) #[] lb] w fun e w' => (∃ r : Int, e = .returned (.int .i64 r) ∧ Hid (decide (0 ≤ r) = xs.any p)) ∧ w = w' := by
 have hle := h.le
 have Hn0 := Lib.hid h.len
 have HP := Lib.hid hp
 clear hp
 go_enter Tryz.func113, Tryz.ntmps113
 go_wp2
 go_loop [5, 8] (fun _ i => ∃ k : Nat, k ≤ n ∧ i = .int .i64 k ∧ Hid ((xs.take k).any p = false)) (fun _ i => n - (intOf i).toNat)
 case atStart => exact ⟨0, Nat.zero_le _, rfl, rfl⟩
 case round =>
  obtain ⟨k, hk, rfl, Hk⟩ := hrel
  by_cases hlt : k < n
  ·have hki : (k : Int) < n := by omega
   obtain ⟨b, off, x, rfl, hcell, Hx⟩ := h.get hlt
   have hcall := HP.out x w (Below.refl _ _)
   cases hq : p x with
   | true =>
    have HQ := Lib.hid hq
    rw [hq] at hcall
    clear hq
    go_wp2_with (go_at_fn g; refine hcall.mono ?_; rintro e w' ⟨rfl, rfl⟩)
    go_ret
    exact ⟨⟨_, rfl, by rw [Hid, any_yes Hx.out HQ.out]; simp⟩, rfl⟩
   | false =>
    have HQ := Lib.hid hq
    rw [hq] at hcall
    clear hq
    go_wp2_with (go_at_fn g; refine hcall.mono ?_; rintro e w' ⟨rfl, rfl⟩)
    go_round
    case rel => exact ⟨k + 1, by omega, by go_num, any_take_no Hx.out Hk.out HQ.out⟩
    case measure => simp [intOf]; omega
  obtain rfl : k = n := by omega
  go_wp2
  go_ret
  refine ⟨⟨_, rfl, ?_⟩, rfl⟩
  have := Hk.out
  rw [List.take_of_length_le (by rw [Hn0.out]; exact Nat.le_refl _)] at this
  rw [Hid, this]; rfl
theorem containsI_any {S : Foot} {A : Option Addr} {n c : Nat} {xs : List Int} (p : Int → Bool) (g : Nat) (lb : Array Value) (eg : ∀ args w, (callFunc g args).run Tryz.prog w = .ok (.enter g args) w) (w : World) (h : Ints S w A n xs)
  (hp : ∀ (x : Int) (W : World), Below w.heap.size w W → Calls Tryz.prog g (#[.int .i64 x] ++ lb) W fun e W' => e = .returned (.bool (p x)) ∧ W = W') :
  Calls Tryz.prog 96 #[.slice A n c, .func (.func g) #[] lb] w fun e w' => e = .returned (.bool (xs.any p)) ∧ w = w' := by
 have hle := h.le
 have HP := Lib.hid hp
 have HG := Lib.hid eg
 clear hp eg
 go_enter Tryz.func96, Tryz.ntmps96
 go_wp2_with (go_at_call 113; refine (indexI_any p g lb HG.out _ h HP.out).mono ?_; rintro e w' ⟨⟨r, rfl, Hr⟩, rfl⟩)
 go_ret
 exact ⟨ret_bool Hr.out, rfl⟩
theorem app11 (a b : Value) : (#[a] ++ #[b] : Array Value) = #[a, b] := rfl
theorem app12 (a b c : Value) : (#[a] ++ #[b, c] : Array Value) = #[a, b, c] := rfl
theorem SliceOf.take {α : Type} {R : Rd α} {m : Nat} {S : Foot} {w : World} {A : Option Addr} {n : Nat} {xs : List α} (h : SliceOf R m S w A n xs) {k : Nat} (hk : k ≤ n) : SliceOf R m S w A k (xs.take k) :=
 ⟨by rw [List.length_take, h.1]; omega, Nat.le_trans hk h.2.1, fun j x hx => by
  rw [List.getElem?_take] at hx
  split at hx
  ·exact h.2.2 j x hx
  cases hx⟩
theorem streq_t {s t : ByteArray} (h : s.data.toList = t.data.toList) : (s.toList == t.toList) = true := by rw [ByteArray.toList_eq, ByteArray.toList_eq]; simpa using h
theorem streq_f {s t : ByteArray} (h : s.data.toList ≠ t.data.toList) : (s.toList == t.toList) = false := by rw [ByteArray.toList_eq, ByteArray.toList_eq]; simpa using h
theorem Ints.one {w : World} {g : Nat} {x : Int} (h : w.cell? ⟨g, 0, none⟩ = some (.int .i64 x)) : Ints (fun _ => True) w (some ⟨g, 0, none⟩) 1 [x] := by
 refine ⟨rfl, by decide, fun k y hk => ?_⟩
 have hk0 : k = 0 := by have := of_getq' hk; simp at this; omega
 subst hk0
 simp at hk; subst hk
 refine ⟨g, 0, [.int .i64 x], rfl, trivial, World.block_lt_of_cell? w _ h, rfl, fun j u hu => ?_⟩
 have hj : j = 0 := by have := of_getq' hu; simp at this; omega
 subst hj
 simp at hu; subst hu
 simpa using h
theorem Ints.two {w : World} {g : Nat} {x y : Int} (h : w.cell? ⟨g, 0, none⟩ = some (.int .i64 x)) (h2 : w.cell? ⟨g, 1, none⟩ = some (.int .i64 y)) : Ints (fun _ => True) w (some ⟨g, 0, none⟩) 2 [x, y] := by
 refine ⟨rfl, by decide, fun k z hk => ?_⟩
 have hk0 : k = 0 ∨ k = 1 := by have := of_getq' hk; simp at this; omega
 rcases hk0 with rfl | rfl
 all_goals
  simp at hk; subst hk
  refine ⟨g, 0, _, rfl, trivial, World.block_lt_of_cell? w _ h, rfl, fun j u hu => ?_⟩
  have hj : j = 0 := by have := of_getq' hu; simp at this; omega
  subst hj
  simp at hu; subst hu
  first | (simpa using h) | (simpa using h2)
theorem inB_iff {n lo hi : Int} : inB n lo hi = true ↔ lo ≤ n ∧ n ≤ hi := by simp [inB]
def firstRF : Code → Option (Code × Code)
 | .rangeFunc _ _ a b => some (a, b)
 | .loop c => firstRF c
 | .seq a b => match firstRF a with
  | some c => some c
  | none => firstRF b
 | .block _ c => firstRF c
 | .scope c => firstRF c
 | .cond _ a b => match firstRF a with
  | some c => some c
  | none => firstRF b
 | _ => none
def mixF (new old : Nat → Int × Int) (j : Nat) : Nat → Int × Int := fun a => if a < j then new a else old a
theorem mixF_at (new old : Nat → Int × Int) (j : Nat) : mixF new old j j = old j := by simp [mixF]
theorem mixF_upd (new old : Nat → Int × Int) (j : Nat) : updF (mixF new old j) j (new j) = mixF new old (j + 1) := by
 funext a
 unfold updF mixF
 by_cases h : a = j
 ·subst h; simp
 rw [if_neg h]
 by_cases h2 : a < j
 ·rw [if_pos h2, if_pos (by omega)]
 rw [if_neg h2, if_neg (by omega)]
theorem min_if (a b : Int) : (if b < a then b else a) = min a b := by split <;> omega
theorem max_if (a b : Int) : (if a < b then b else a) = max a b := by split <;> omega
def firstLoopC : Code → Option Code
 | .loop c => some c
 | .seq a b => match firstLoopC a with
  | some c => some c
  | none => firstLoopC b
 | .block _ c => firstLoopC c
 | .scope c => firstLoopC c
 | .cond _ a b => match firstLoopC a with
  | some c => some c
  | none => firstLoopC b
 | _ => none
theorem ret_span {fn : Func} {p u : Tmp} (h : fn.results = #[.cell p 23, .tmp u]) {tmps : Array Value} {g : Nat} {lo hi e : Int} {w : World} (hp : tmps.getD p undef = .pointer (some ⟨g, 0, none⟩)) (hu : tmps.getD u undef = .int .i64 e)
  (h0 : w.cell? ⟨g, 0, none⟩ = some (.int .i64 lo)) (h1 : w.cell? ⟨g, 1, none⟩ = some (.int .i64 hi)) : (results fn tmps).run Tryz.prog w = .ok (.tuple #[.agg #[.int .i64 lo, .int .i64 hi], .int .i64 e]) w := by
 rw [results_cell_tmp h, hp, hu]
 simp [go_sem, h0, h1]
open Go.RowKit Go.Shelf
theorem outc_any (lo hi x : Int) (B1 B2 : Nat) (w : World) (h1 : w.cell? ⟨B1, 0, none⟩ = some (.int .i64 lo)) (h2 : w.cell? ⟨B2, 0, none⟩ = some (.int .i64 hi)) :
  Calls Tryz.prog 97 #[.int .i64 x, .pointer (some ⟨B1, 0, none⟩), .pointer (some ⟨B2, 0, none⟩)] w fun e w' => e = .returned (.bool (outB lo hi x)) ∧ w = w' := by
 have Hb : Hid (outB lo hi x = (decide (x < lo) || decide (hi < x))) := rfl
 by_cases c1 : x < lo
 ·go_enter Tryz.func97, Tryz.ntmps97
  go_wp2
  go_ret
  exact ⟨ret_bool (by rw [Hb.out, decide_eq_true c1]; rfl), rfl⟩
 by_cases c2 : hi < x
 ·go_enter Tryz.func97, Tryz.ntmps97
  go_wp2
  go_ret
  exact ⟨ret_bool (by rw [Hb.out, decide_eq_true c2]; simp), rfl⟩
 go_enter Tryz.func97, Tryz.ntmps97
 go_wp2
 go_ret
 exact ⟨ret_bool (by rw [Hb.out, decide_eq_false (by omega), decide_eq_false (by omega)]; rfl), rfl⟩
theorem eg_out1 : Enters Tryz.prog 97 := enters_of Tryz.func97 (by kernel_rfl) rfl
theorem out_any {S : Foot} {A : Option Addr} {n c : Nat} {xs : List Int} (lo hi : Int) (w : World) (h : Ints S w A n xs) :
  Calls Tryz.prog 62 #[.int .i64 lo, .int .i64 hi, .slice A n c] w fun e w' => e = .returned (.bool (xs.any (outB lo hi))) ∧ Below w.heap.size w w' := by
 have H1 : Ints S ((w.alloc (.cells #[.int .i64 lo] 3)).alloc (.cells #[.int .i64 hi] 3)) A n xs := (h.keep IntR.good (Keeps.alloc _ _)).keep IntR.good (Keeps.alloc _ _)
 have EG := Lib.hid eg_out1
 go_enter Tryz.func62, Tryz.ntmps62
 go_wp2_with (go_at_call 96; refine (containsI_any (outB lo hi) 97 #[.pointer (some ⟨w.heap.size, 0, none⟩), .pointer (some ⟨w.heap.size + 1, 0, none⟩)] EG.out _ H1 (fun x W hb => by rw [app12]; exact outc_any lo hi x w.heap.size (w.heap.size + 1) W (getc hb (oldc (newc rfl rfl))) (getc hb (newc rfl (by simp))))).mono ?_; rintro e w' ⟨rfl, rfl⟩)
 go_ret
 exact ⟨rfl, bl_alloc (bl_alloc (Below.refl _ _) _ (Nat.le_refl _)) _ (Nat.le_refl _)⟩
open Go.RowKit Go.Shelf
def TileR : Rd Tile := fun _ _ x vs => ∃ s : ByteArray, vs = [.string s, .int .i64 x.wlo, .int .i64 x.whi, .int .i64 x.slo, .int .i64 x.shi] ∧ s.data.toList = x.name ∧ s.size ≤ 9223372036854775807
theorem TileR.good : TileR.Good 5 where
 len := by rintro S w x vs ⟨s, rfl, _⟩; rfl
 one := by rintro S w x vs ⟨s, rfl, _⟩ v hv; simp at hv; rcases hv with rfl | rfl | rfl | rfl | rfl <;> rfl
 keep := by rintro S w w' x vs h hk; exact h
 mono := by rintro S T w x vs h hk; exact h
 bound := by rintro S w x vs h; exact h
def RowR : Rd RowT := fun _ _ x vs => vs = [.int .i64 x.frame, .int .i64 x.swell, .int .i64 x.places]
theorem RowR.good : RowR.Good 3 where
 len := by rintro S w x vs rfl; rfl
 one := by rintro S w x vs rfl v hv; simp at hv; rcases hv with rfl | rfl | rfl <;> rfl
 keep := by rintro S w w' x vs h hk; exact h
 mono := by rintro S T w x vs h hk; exact h
 bound := by rintro S w x vs h; exact h
def SeenR : Rd Seen := fun _ _ x vs => vs = [.int .i64 x.tile, .int .i64 x.air, .int .i64 x.lo, .int .i64 x.hi]
theorem SeenR.good : SeenR.Good 4 where
 len := by rintro S w x vs rfl; rfl
 one := by rintro S w x vs rfl v hv; simp at hv; rcases hv with rfl | rfl | rfl | rfl <;> rfl
 keep := by rintro S w w' x vs h hk; exact h
 mono := by rintro S T w x vs h hk; exact h
 bound := by rintro S w x vs h; exact h
abbrev Tiles := SliceOf TileR 5
abbrev RowTs := SliceOf RowR 3
abbrev Seens := SliceOf SeenR 4
section
variable {S : Foot} {w : World} {A : Option Addr} {n k : Nat}
theorem Tiles.get {xs : List Tile} (h : Tiles S w A n xs) (hk : k < n) :
  ∃ b off s a z y u, A = some ⟨b, off, none⟩ ∧ b < w.heap.size ∧ w.cell? ⟨b, off + k * 5, none⟩ = some (.string s) ∧ w.cell? ⟨b, off + k * 5 + 1, none⟩ = some (.int .i64 a) ∧ w.cell? ⟨b, off + k * 5 + 2, none⟩ = some (.int .i64 z) ∧ w.cell? ⟨b, off + k * 5 + 3, none⟩ = some (.int .i64 y) ∧ w.cell? ⟨b, off + k * 5 + 4, none⟩ = some (.int .i64 u) ∧ s.size ≤ 9223372036854775807 ∧ Hid (xs[k]? = some ⟨s.data.toList, a, z, y, u⟩) := by
 have hlt : k < xs.length := by rw [h.1]; exact hk
 obtain ⟨b, off, vs, hA, _, hb, ⟨s, rfl, hn, hs⟩, hc⟩ := h.2.2 k xs[k] (List.getElem?_eq_getElem hlt)
 exact ⟨b, off, s, xs[k].wlo, xs[k].whi, xs[k].slo, xs[k].shi, hA, hb, by simpa using hc 0 _ rfl, by simpa using hc 1 _ rfl, by simpa using hc 2 _ rfl, by simpa using hc 3 _ rfl, by simpa using hc 4 _ rfl, hs, by rw [Hid, hn]; exact List.getElem?_eq_getElem hlt⟩
theorem RowTs.get {xs : List RowT} (h : RowTs S w A n xs) (hk : k < n) :
  ∃ b off a z y, A = some ⟨b, off, none⟩ ∧ b < w.heap.size ∧ w.cell? ⟨b, off + k * 3, none⟩ = some (.int .i64 a) ∧ w.cell? ⟨b, off + k * 3 + 1, none⟩ = some (.int .i64 z) ∧ w.cell? ⟨b, off + k * 3 + 2, none⟩ = some (.int .i64 y) ∧ Hid (xs[k]? = some ⟨a, z, y⟩) := by
 have hlt : k < xs.length := by rw [h.1]; exact hk
 obtain ⟨b, off, vs, hA, _, hb, rfl, hc⟩ := h.2.2 k xs[k] (List.getElem?_eq_getElem hlt)
 exact ⟨b, off, xs[k].frame, xs[k].swell, xs[k].places, hA, hb, by simpa using hc 0 _ rfl, by simpa using hc 1 _ rfl, by simpa using hc 2 _ rfl, List.getElem?_eq_getElem hlt⟩
theorem Seens.get {xs : List Seen} (h : Seens S w A n xs) (hk : k < n) :
  ∃ b off a z y u, A = some ⟨b, off, none⟩ ∧ b < w.heap.size ∧ w.cell? ⟨b, off + k * 4, none⟩ = some (.int .i64 a) ∧ w.cell? ⟨b, off + k * 4 + 1, none⟩ = some (.int .i64 z) ∧ w.cell? ⟨b, off + k * 4 + 2, none⟩ = some (.int .i64 y) ∧ w.cell? ⟨b, off + k * 4 + 3, none⟩ = some (.int .i64 u) ∧ Hid (xs[k]? = some ⟨a, z, y, u⟩) := by
 have hlt : k < xs.length := by rw [h.1]; exact hk
 obtain ⟨b, off, vs, hA, _, hb, rfl, hc⟩ := h.2.2 k xs[k] (List.getElem?_eq_getElem hlt)
 exact ⟨b, off, xs[k].tile, xs[k].air, xs[k].lo, xs[k].hi, hA, hb, by simpa using hc 0 _ rfl, by simpa using hc 1 _ rfl, by simpa using hc 2 _ rfl, by simpa using hc 3 _ rfl, List.getElem?_eq_getElem hlt⟩
end
structure HallAt (S : Foot) (w : World) (A : Option Addr) (n : Nat) (B : Option Addr) (m : Nat) (h : Hall) : Prop where
 ts : Tiles S w A n h.tiles
 rs : RowTs S w B m h.rows
theorem HallAt.keep {S : Foot} {w w' : World} {A B : Option Addr} {n m : Nat} {h : Hall} (g : HallAt S w A n B m h) (hk : Keeps S w w') : HallAt S w' A n B m h :=
 ⟨g.ts.keep TileR.good hk, g.rs.keep RowR.good hk⟩
theorem HallAt.mono {S T : Foot} {w : World} {A B : Option Addr} {n m : Nat} {h : Hall} (g : HallAt S w A n B m h) (hk : ∀ k, S k → T k) : HallAt T w A n B m h :=
 ⟨g.ts.mono TileR.good hk, g.rs.mono RowR.good hk⟩
theorem eg_F : Enters Tryz.prog 121 := enters_of Tryz.func121 (by kernel_rfl) rfl
theorem eqF_any (s t : ByteArray) (a z y u : Int) (g : Nat) (w : World) (hg : w.cell? ⟨g, 0, none⟩ = some (.string t)) :
  Calls Tryz.prog 121 #[.agg #[.string s, .int .i64 a, .int .i64 z, .int .i64 y, .int .i64 u], .pointer (some ⟨g, 0, none⟩)] w fun e w' => e = .returned (.bool (decide (s.data.toList = t.data.toList))) ∧ Below w.heap.size w w' := by
 have h1 := oldc (o := .cells #[.string s, .int .i64 a, .int .i64 z, .int .i64 y, .int .i64 u] 55) hg
 by_cases hm : s.data.toList = t.data.toList
 ·have hmb := streq_t hm
  have HM := Lib.hid hm
  clear hm
  go_enter Tryz.func121, Tryz.ntmps121
  go_wp2
  go_ret
  exact ⟨ret_bool (by rw [decide_eq_true HM.out]), bl_alloc (Below.refl _ _) _ (Nat.le_refl _)⟩
 have hmb := streq_f hm
 have HM := Lib.hid hm
 clear hm
 go_enter Tryz.func121, Tryz.ntmps121
 go_wp2
 go_ret
 exact ⟨ret_bool (by rw [decide_eq_false HM.out]), bl_alloc (Below.refl _ _) _ (Nat.le_refl _)⟩
set_option maxHeartbeats 1000000 in
theorem indexF_any {S : Foot} {A : Option Addr} {n c : Nat} {xs : List Tile} (t : ByteArray) (g : Nat) (w : World) (h : Tiles S w A n xs) (hg : w.cell? ⟨g, 0, none⟩ = some (.string t)) :
  Calls Tryz.prog 140 #[.slice A n c, .func (.func 121) #[] #[.pointer (some ⟨g, 0, none⟩)]] w fun e w' => (∃ r : Int, e = .returned (.int .i64 r) ∧ Hid (decide (0 ≤ r) = decide (t.data.toList ∈ xs.map (·.name)))) ∧ Below w.heap.size w w' := by
 have hle := h.le
 have Hn0 := Lib.hid h.len
 have eg : ∀ args w, (callFunc 121 args).run Tryz.prog w = .ok (.enter 121 args) w := eg_F
 have EG := Lib.hid eg
 clear eg
 go_enter Tryz.func140, Tryz.ntmps140
 go_wp2
 go_loopw [5, 8] (fun _ i wr => ∃ k : Nat, k ≤ n ∧ i = .int .i64 k ∧ Below w.heap.size w wr ∧ Hid (t.data.toList ∉ (xs.take k).map (·.name))) (fun _ i _ => n - (intOf i).toNat)
 case atStart => exact ⟨0, Nat.zero_le _, rfl, Below.refl _ _, by simp [Hid]⟩
 case round =>
  obtain ⟨k, hk, rfl, hB, Hk⟩ := hrel
  by_cases hlt : k < n
  ·have hki : (k : Int) < n := by omega
   have hr := h.keep TileR.good (Keeps.below hB)
   obtain ⟨b, off, s, a, z, y, u, rfl, hb0, hc0, hc1, hc2, hc3, hc4, hs, Hx⟩ := Tiles.get hr hlt
   have hcall := eqF_any s t a z y u g wr (getc hB hg)
   by_cases hm : s.data.toList = t.data.toList
   ·have HM := Lib.hid hm
    rw [decide_eq_true hm] at hcall
    clear hm
    go_wp2_with (go_at_call 121; refine hcall.mono ?_; rintro e w2 ⟨rfl, hb2⟩)
    go_ret
    refine ⟨⟨_, rfl, ?_⟩, bl_call hB hb2 (Nat.le_refl _)⟩
    have hmem : t.data.toList ∈ xs.map (·.name) := List.mem_map.2 ⟨_, List.mem_of_getElem? Hx.out, HM.out⟩
    rw [Hid, decide_eq_true hmem]; simp
   have HM := Lib.hid hm
   rw [decide_eq_false hm] at hcall
   clear hm
   go_wp2_with (go_at_call 121; refine hcall.mono ?_; rintro e w2 ⟨rfl, hb2⟩)
   go_roundw
   case rel => exact ⟨k + 1, by omega, by go_num, bl_call hB hb2 (Nat.le_refl _), by rw [Hid, take_snoc_get Hx.out, List.map_append, List.mem_append]; exact fun hc => hc.elim Hk.out (fun e => HM.out (List.mem_singleton.1 e).symm)⟩
   case measure => simp [intOf]; omega
  obtain rfl : k = n := by omega
  go_wp2
  go_ret
  refine ⟨⟨_, rfl, ?_⟩, hB⟩
  have := Hk.out
  rw [List.take_of_length_le (by rw [Hn0.out]; exact Nat.le_refl _)] at this
  rw [Hid, decide_eq_false this]; rfl
theorem hasF_any {S : Foot} {A : Option Addr} {n c : Nat} {xs : List Tile} (t : ByteArray) (g : Nat) (w : World) (h : Tiles S w A n xs) (hg : w.cell? ⟨g, 0, none⟩ = some (.string t)) :
  Calls Tryz.prog 120 #[.slice A n c, .func (.func 121) #[] #[.pointer (some ⟨g, 0, none⟩)]] w fun e w' => e = .returned (.bool (decide (t.data.toList ∈ xs.map (·.name)))) ∧ Below w.heap.size w w' := by
 have hle := h.le
 go_enter Tryz.func120, Tryz.ntmps120
 go_wp2_with (go_at_call 140; refine (indexF_any t g _ h hg).mono ?_; rintro e w' ⟨⟨r, rfl, Hr⟩, hb⟩)
 go_ret
 exact ⟨ret_bool Hr.out, hb⟩
theorem out1_any {lo hi x : Int} {b : Bool} {g c : Nat} (w : World) (h : w.cell? ⟨g, 0, none⟩ = some (.int .i64 x)) (hb : outB lo hi x = b) :
  Calls Tryz.prog 62 #[.int .i64 lo, .int .i64 hi, .slice (some ⟨g, 0, none⟩) 1 c] w fun e w' => e = .returned (.bool b) ∧ Below w.heap.size w w' :=
 (out_any lo hi w (Ints.one h)).mono fun _ _ ⟨he, hB⟩ => ⟨by rw [he, ← hb]; simp, hB⟩
theorem out2_any {lo hi x y : Int} {b : Bool} {g c : Nat} (w : World) (h : w.cell? ⟨g, 0, none⟩ = some (.int .i64 x)) (h2 : w.cell? ⟨g, 1, none⟩ = some (.int .i64 y)) (hb : (outB lo hi x || outB lo hi y) = b) :
  Calls Tryz.prog 62 #[.int .i64 lo, .int .i64 hi, .slice (some ⟨g, 0, none⟩) 2 c] w fun e w' => e = .returned (.bool b) ∧ Below w.heap.size w w' :=
 (out_any lo hi w (Ints.two h h2)).mono fun _ _ ⟨he, hB⟩ => ⟨by rw [he, ← hb]; simp, hB⟩
end Go.Proofs.YtdbfincinjoppaaGreat
