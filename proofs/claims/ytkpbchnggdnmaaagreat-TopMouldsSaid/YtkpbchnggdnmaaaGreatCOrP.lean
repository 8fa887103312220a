/- A part of the proof that TopMoulds always answers true. -/
import Derived.Test.YtkpbchnggdnmaaaGreatCKBase
import Derived.Test.YtkpbchnggdnmaaaGreatCMaps
import Derived.Test.YtkpbchnggdnmaaaGreatCPure
set_option linter.all false
namespace Go.Proofs.YtkpbchnggdnmaaaGreat
structure Part11 where
 name : List UInt8
 batch : Int
 long : Int
 stock : Int
structure Ord11 where
 part : Int
 many : Int
 due : Int
 worth : Int
structure Shop11 where
 hours : List Int
 parts : List Part11
 orders : List Ord11
def dPart : Part11 := ⟨[], 0, 0, 0⟩
def dOrd : Ord11 := ⟨0, 0, 0, 0⟩
def PartOk (p : Part11) : Prop := (1 ≤ p.batch ∧ p.batch ≤ 10) ∧ (1 ≤ p.long ∧ p.long ≤ 48) ∧ (0 ≤ p.stock ∧ p.stock ≤ 50)
def OrdOk (s : Shop11) (o : Ord11) : Prop := (0 ≤ o.part ∧ o.part < s.parts.length) ∧ (1 ≤ o.many ∧ o.many ≤ 50) ∧ (0 ≤ o.due ∧ o.due < s.hours.length) ∧ (0 ≤ o.worth ∧ o.worth ≤ 10000)
structure Ok11 (s : Shop11) : Prop where
 nh : 1 ≤ s.hours.length ∧ s.hours.length ≤ 20
 np : 1 ≤ s.parts.length ∧ s.parts.length ≤ 3
 no : s.orders.length ≤ 8
 hours : ∀ h ∈ s.hours, 0 ≤ h ∧ h ≤ 24
 names : ∀ i, i < s.parts.length → fresh (s.parts.getD i dPart).name ((s.parts.take i).map (·.name)) = 0
 parts : ∀ p ∈ s.parts, PartOk p
 orders : ∀ o ∈ s.orders, OrdOk s o
def castN (p : Part11) (n : Int) : Int := (max 0 (n - p.stock + p.batch - 1)).tdiv p.batch
def castP (s : Shop11) (d : List Int) : List Int := (List.range 3).map fun i => if i < s.parts.length then castN (s.parts.getD i dPart) (d.getD i 0) else 0
def stepO (day : Nat) (d : List Int) (o : Ord11) : List Int := if o.due = (day : Int) then d.set o.part.toNat (d.getD o.part.toNat 0 + o.many) else d
def dueK : List Ord11 → Nat → List Int
 | l, 0 => l.foldl (stepO 0) [0, 0, 0]
 | l, n + 1 => l.foldl (stepO (n + 1)) (dueK l n)
def daysL (s : Shop11) (l : List Ord11) : List (Nat × List Int) := (List.range s.hours.length).map fun day => (day, castP s (dueK l day))
def upN (s : Shop11) (day : Nat) : Int := (s.hours.take (day + 1)).foldl (· + ·) 0
def upL (s : Shop11) : List Int := (List.range s.hours.length).map (upN s)
def takesN (s : Shop11) (c : List Int) : Int := (List.range s.parts.length).foldl (fun n i => n + c.getD i 0 * (s.parts.getD i dPart).long) 0
def lateF (s : Shop11) : List (Nat × List Int) → Int × Int
 | [] => (0, 0)
 | (d, c) :: r => if upN s d < takesN s c then ((d : Int), takesN s c - upN s d) else lateF s r
def lateR (s : Shop11) (l : List Ord11) : Int × Int := lateF s (daysL s l)
def neededR (s : Shop11) (l : List Ord11) : List Int := (castP s (dueK l (s.hours.length - 1))).take s.parts.length
def TakenOk (s : Shop11) (t : List Int) : Prop := (∀ i ∈ t, 0 ≤ i ∧ i < s.orders.length) ∧ t.Pairwise (· < ·)
def ordsL (s : Shop11) (t : List Int) : List Ord11 := t.map fun i => s.orders.getD i.toNat dOrd
def exShop11 : Shop11 := ⟨[8, 8, 0, 8, 8], [⟨[104, 105, 108, 108], 4, 6, 1⟩, ⟨[118, 97, 108, 101], 2, 5, 0⟩], [⟨0, 5, 1, 100⟩, ⟨1, 2, 1, 40⟩, ⟨1, 3, 4, 70⟩, ⟨0, 9, 3, 110⟩]⟩
theorem ex11_late : lateR exShop11 (ordsL exShop11 [0, 1, 2, 3]) = (3, 5) := by decide +kernel
theorem ex11_needed : neededR exShop11 (ordsL exShop11 [0, 1, 2]) = [1, 3] := by decide +kernel
theorem ex11_can : lateR exShop11 (ordsL exShop11 [0, 1, 2]) = (0, 0) := by decide +kernel
theorem dueK_len (l : List Ord11) (n : Nat) : (dueK l n).length = 3 := by
 have key : ∀ (day : Nat) (l : List Ord11) (d : List Int), (l.foldl (stepO day) d).length = d.length := by
  intro day l
  induction l with
  | nil => intro d; rfl
  | cons o l ih =>
   intro d
   rw [List.foldl_cons, ih]
   unfold stepO
   split
   ·rw [List.length_set]
   rfl
 cases n with
 | zero => rw [dueK, key]; rfl
 | succ n =>
  induction n with
  | zero => rw [dueK, key, dueK, key]; rfl
  | succ n ih => rw [dueK, key]; exact ih
def sumO (p : Ord11 → Bool) : List Ord11 → Int
 | [] => 0
 | o :: l => (if p o then o.many else 0) + sumO p l
theorem sumO_bd {p : Ord11 → Bool} : ∀ {l : List Ord11}, (∀ o ∈ l, 1 ≤ o.many ∧ o.many ≤ 50) → 0 ≤ sumO p l ∧ sumO p l ≤ 50 * l.length
 | [], _ => by simp [sumO]
 | o :: l, h => by
  have h1 := sumO_bd (p := p) (l := l) (fun x hx => h x (List.mem_cons.2 (.inr hx)))
  have h2 := h o (List.mem_cons.2 (.inl rfl))
  rw [sumO, List.length_cons]
  split <;> omega
theorem sumO_or {p q r : Ord11 → Bool} (hd : ∀ o, r o = (p o || q o)) (hn : ∀ o, ¬ (p o = true ∧ q o = true)) : ∀ l : List Ord11, sumO r l = sumO p l + sumO q l
 | [] => rfl
 | o :: l => by
  have ih := sumO_or hd hn l
  rw [sumO, sumO, sumO, ih, hd]
  have h := hn o
  cases hp : p o <;> cases hq : q o
  ·simp
  ·simp; omega
  ·simp; omega
  exact absurd ⟨hp, hq⟩ h
theorem foldO_get {n day i : Nat} (hi : i < 3) : ∀ (l : List Ord11) (d : List Int), d.length = 3 → (∀ o ∈ l, 0 ≤ o.part ∧ o.part < 3) →
  (l.foldl (stepO day) d).getD i 0 = d.getD i 0 + sumO (fun o => decide (o.due = (day : Int)) && decide (o.part = (i : Int))) l ∧ (l.foldl (stepO day) d).length = 3
 | [], d, hd, _ => by simp [sumO, hd]
 | o :: l, d, hd, h => by
  have h2 := h o (List.mem_cons.2 (.inl rfl))
  have hs : (stepO day d o).length = 3 := by
   unfold stepO
   split
   ·rw [List.length_set]; exact hd
   exact hd
  obtain ⟨h3, h4⟩ := foldO_get (n := n) hi l (stepO day d o) hs (fun x hx => h x (List.mem_cons.2 (.inr hx)))
  rw [List.foldl_cons, h3, sumO]
  refine ⟨?_, h4⟩
  have e : (stepO day d o).getD i 0 = d.getD i 0 + (if (decide (o.due = (day : Int)) && decide (o.part = (i : Int))) then o.many else 0) := by
   unfold stepO
   by_cases h5 : o.due = (day : Int)
   ·rw [if_pos h5, decide_eq_true h5, Bool.true_and]
    by_cases h6 : o.part = (i : Int)
    ·have h7 : o.part.toNat = i := by omega
     rw [decide_eq_true h6, if_pos rfl, h7, List.getD_eq_getElem?_getD, List.getElem?_set]
     rw [if_pos rfl, if_pos (by omega)]; rfl
    have h7 : o.part.toNat ≠ i := by omega
    rw [decide_eq_false h6, if_neg Bool.false_ne_true, List.getD_eq_getElem?_getD, List.getElem?_set, if_neg h7, ← List.getD_eq_getElem?_getD]
    omega
   rw [if_neg h5, decide_eq_false h5, Bool.false_and, if_neg Bool.false_ne_true]
   omega
  rw [e]
  omega
theorem dueK_get {i : Nat} (hi : i < 3) {l : List Ord11} (h : ∀ o ∈ l, (0 ≤ o.part ∧ o.part < 3) ∧ 0 ≤ o.due) : ∀ n : Nat, (dueK l n).getD i 0 = sumO (fun o => decide (o.due ≤ (n : Int)) && decide (o.part = (i : Int))) l
 | 0 => by
  rw [dueK, (foldO_get (n := 0) hi l [0, 0, 0] rfl (fun o ho => (h o ho).1)).1]
  have e0 : ([0, 0, 0] : List Int).getD i 0 = 0 := by
   rcases i with _ | _ | _ | i
   ·rfl
   ·rfl
   ·rfl
   omega
  rw [e0, Int.zero_add]
  have key : ∀ l : List Ord11, (∀ o ∈ l, 0 ≤ o.due) → sumO (fun o => decide (o.due = ((0 : Nat) : Int)) && decide (o.part = (i : Int))) l = sumO (fun o => decide (o.due ≤ ((0 : Nat) : Int)) && decide (o.part = (i : Int))) l := by
   intro l
   induction l with
   | nil => intro _; rfl
   | cons o l ih =>
    intro hl
    rw [sumO, sumO, ih (fun x hx => hl x (List.mem_cons.2 (.inr hx)))]
    have h1 := hl o (List.mem_cons.2 (.inl rfl))
    have e : decide (o.due = ((0 : Nat) : Int)) = decide (o.due ≤ ((0 : Nat) : Int)) := by
     by_cases h2 : o.due = ((0 : Nat) : Int)
     ·rw [decide_eq_true h2, decide_eq_true (by omega)]
     rw [decide_eq_false h2, decide_eq_false (by omega)]
    rw [e]
  exact key l (fun o ho => (h o ho).2)
 | n + 1 => by
  rw [dueK, (foldO_get (n := 0) hi l (dueK l n) (dueK_len l n) (fun o ho => (h o ho).1)).1, dueK_get hi h n]
  refine (sumO_or (fun o => ?_) (fun o => ?_) l).symm
  ·by_cases h1 : o.due ≤ (n : Int)
   ·rw [decide_eq_true h1, decide_eq_true (show o.due ≤ ((n + 1 : Nat) : Int) by omega), decide_eq_false (show ¬ o.due = ((n + 1 : Nat) : Int) by omega)]; simp
   by_cases h2 : o.due = ((n + 1 : Nat) : Int)
   ·rw [decide_eq_false h1, decide_eq_true h2, decide_eq_true (show o.due ≤ ((n + 1 : Nat) : Int) by omega)]; simp
   rw [decide_eq_false h1, decide_eq_false h2, decide_eq_false (show ¬ o.due ≤ ((n + 1 : Nat) : Int) by omega)]; simp
  simp only [Bool.and_eq_true, decide_eq_true_eq]
  omega
theorem due_bd {s : Shop11} (hs : Ok11 s) {l : List Ord11} (hl : ∀ o ∈ l, OrdOk s o) (h9 : l.length ≤ 9) (n i : Nat) : 0 ≤ (dueK l n).getD i 0 ∧ (dueK l n).getD i 0 ≤ 450 := by
 have hp := hs.np
 by_cases hi : i < 3
 ·rw [dueK_get hi (fun o ho => by obtain ⟨h1, _, h3, _⟩ := hl o ho; exact ⟨⟨h1.1, by omega⟩, h3.1⟩) n]
  have h := sumO_bd (p := fun o => decide (o.due ≤ (n : Int)) && decide (o.part = (i : Int))) (l := l) (fun o ho => (hl o ho).2.1)
  omega
 rw [List.getD_eq_getElem?_getD, List.getElem?_eq_none (by rw [dueK_len]; omega)]
 exact ⟨by simp, by simp⟩
open Go.RowKit Go.Shelf
def PartR : Rd Part11 := fun _ _ x vs => ∃ s : ByteArray, vs = [.string s, .int .i64 x.batch, .int .i64 x.long, .int .i64 x.stock] ∧ s.data.toList = x.name ∧ s.size ≤ 9223372036854775807
theorem PartR.good : PartR.Good 4 where
 len := by rintro S w x vs ⟨s, rfl, _⟩; rfl
 one := by rintro S w x vs ⟨s, rfl, _⟩ v hv; simp at hv; rcases hv with rfl | rfl | rfl | rfl <;> rfl
 keep := by rintro S w w' x vs h hk; exact h
 mono := by rintro S T w x vs h hk; exact h
 bound := by rintro S w x vs h; exact h
def OrR11 : Rd Ord11 := fun _ _ x vs => vs = [.int .i64 x.part, .int .i64 x.many, .int .i64 x.due, .int .i64 x.worth]
theorem OrR11.good : OrR11.Good 4 where
 len := by rintro S w x vs rfl; rfl
 one := by rintro S w x vs rfl v hv; simp at hv; rcases hv with rfl | rfl | rfl | rfl <;> rfl
 keep := by rintro S w w' x vs h hk; exact h
 mono := by rintro S T w x vs h hk; exact h
 bound := by rintro S w x vs h; exact h
abbrev Parts := SliceOf PartR 4
abbrev Ords11 := SliceOf OrR11 4
section
variable {S : Foot} {w : World} {A : Option Addr} {n k : Nat}
theorem Parts.get {xs : List Part11} (h : Parts S w A n xs) (hk : k < n) :
  ∃ b off s a z y, A = some ⟨b, off, none⟩ ∧ b < w.heap.size ∧ w.cell? ⟨b, off + k * 4, none⟩ = some (.string s) ∧ w.cell? ⟨b, off + k * 4 + 1, none⟩ = some (.int .i64 a) ∧ w.cell? ⟨b, off + k * 4 + 2, none⟩ = some (.int .i64 z) ∧ w.cell? ⟨b, off + k * 4 + 3, none⟩ = some (.int .i64 y) ∧ s.size ≤ 9223372036854775807 ∧ Hid (xs[k]? = some ⟨s.data.toList, a, z, y⟩) := by
 have hlt : k < xs.length := by rw [h.1]; exact hk
 obtain ⟨b, off, vs, hA, _, hb, ⟨s, rfl, hn, hs⟩, hc⟩ := h.2.2 k xs[k] (List.getElem?_eq_getElem hlt)
 exact ⟨b, off, s, xs[k].batch, xs[k].long, xs[k].stock, hA, hb, by simpa using hc 0 _ rfl, by simpa using hc 1 _ rfl, by simpa using hc 2 _ rfl, by simpa using hc 3 _ rfl, hs, by rw [Hid, hn]; exact List.getElem?_eq_getElem hlt⟩
theorem Ords11.get {xs : List Ord11} (h : Ords11 S w A n xs) (hk : k < n) :
  ∃ b off a z y u, A = some ⟨b, off, none⟩ ∧ b < w.heap.size ∧ w.cell? ⟨b, off + k * 4, none⟩ = some (.int .i64 a) ∧ w.cell? ⟨b, off + k * 4 + 1, none⟩ = some (.int .i64 z) ∧ w.cell? ⟨b, off + k * 4 + 2, none⟩ = some (.int .i64 y) ∧ w.cell? ⟨b, off + k * 4 + 3, none⟩ = some (.int .i64 u) ∧ Hid (xs[k]? = some ⟨a, z, y, u⟩) := by
 have hlt : k < xs.length := by rw [h.1]; exact hk
 obtain ⟨b, off, vs, hA, _, hb, rfl, hc⟩ := h.2.2 k xs[k] (List.getElem?_eq_getElem hlt)
 exact ⟨b, off, xs[k].part, xs[k].many, xs[k].due, xs[k].worth, hA, hb, by simpa using hc 0 _ rfl, by simpa using hc 1 _ rfl, by simpa using hc 2 _ rfl, by simpa using hc 3 _ rfl, List.getElem?_eq_getElem hlt⟩
end
structure ShopO (S : Foot) (w : World) (H : Option Addr) (hn : Nat) (P : Option Addr) (pn : Nat) (Q : Option Addr) (on : Nat) (s : Shop11) : Prop where
 hs : Ints S w H hn s.hours
 ps : Parts S w P pn s.parts
 os : Ords11 S w Q on s.orders
theorem ShopO.keep {S : Foot} {w w' : World} {H P Q : Option Addr} {hn pn on : Nat} {s : Shop11} (h : ShopO S w H hn P pn Q on s) (hk : Keeps S w w') : ShopO S w' H hn P pn Q on s := ⟨h.hs.keep IntR.good hk, h.ps.keep PartR.good hk, h.os.keep OrR11.good hk⟩
theorem ShopO.bl {w w' : World} {H P Q : Option Addr} {hn pn on : Nat} {s : Shop11} (h : ShopO (fun _ => True) w H hn P pn Q on s) (hb : Below w.heap.size w w') : ShopO (fun _ => True) w' H hn P pn Q on s := h.keep (Keeps.below hb)
theorem ShopO.mono {S T : Foot} {w : World} {H P Q : Option Addr} {hn pn on : Nat} {s : Shop11} (h : ShopO S w H hn P pn Q on s) (hST : ∀ k, S k → T k) : ShopO T w H hn P pn Q on s := ⟨h.hs.mono IntR.good hST, h.ps.mono PartR.good hST, h.os.mono OrR11.good hST⟩
theorem ShopO.bound {S : Foot} {w : World} {H P Q : Option Addr} {hn pn on : Nat} {s : Shop11} (h : ShopO S w H hn P pn Q on s) : ShopO (fun k => S k ∧ k < w.heap.size) w H hn P pn Q on s := ⟨h.hs.bound IntR.good, h.ps.bound PartR.good, h.os.bound OrR11.good⟩
open Go.RowKit Go.Shelf
theorem ooutc_any (lo hi x : Int) (B1 B2 : Nat) (w : World) (h1 : w.cell? ⟨B1, 0, none⟩ = some (.int .i64 lo)) (h2 : w.cell? ⟨B2, 0, none⟩ = some (.int .i64 hi)) :
  Calls Tryz.prog 89 #[.int .i64 x, .pointer (some ⟨B1, 0, none⟩), .pointer (some ⟨B2, 0, none⟩)] w fun e w' => e = .returned (.bool (outB lo hi x)) ∧ w = w' := by
 have Hb : Hid (outB lo hi x = (decide (x < lo) || decide (hi < x))) := rfl
 by_cases c1 : x < lo
 ·go_enter Tryz.func89, Tryz.ntmps89
  go_wp2
  go_ret
  exact ⟨ret_bool (by rw [Hb.out, decide_eq_true c1]; rfl), rfl⟩
 by_cases c2 : hi < x
 ·go_enter Tryz.func89, Tryz.ntmps89
  go_wp2
  go_ret
  exact ⟨ret_bool (by rw [Hb.out, decide_eq_true c2]; simp), rfl⟩
 go_enter Tryz.func89, Tryz.ntmps89
 go_wp2
 go_ret
 exact ⟨ret_bool (by rw [Hb.out, decide_eq_false (by omega), decide_eq_false (by omega)]; rfl), rfl⟩
theorem eg_oout1 : Enters Tryz.prog 89 := enters_of Tryz.func89 (by kernel_rfl) rfl
theorem oout_any {S : Foot} {A : Option Addr} {n c : Nat} {xs : List Int} (lo hi : Int) (w : World) (h : Ints S w A n xs) :
  Calls Tryz.prog 58 #[.int .i64 lo, .int .i64 hi, .slice A n c] w fun e w' => e = .returned (.bool (xs.any (outB lo hi))) ∧ Below w.heap.size w w' := by
 have H1 : Ints S ((w.alloc (.cells #[.int .i64 lo] 3)).alloc (.cells #[.int .i64 hi] 3)) A n xs := (h.keep IntR.good (Keeps.alloc _ _)).keep IntR.good (Keeps.alloc _ _)
 have EG := Lib.hid eg_oout1
 go_enter Tryz.func58, Tryz.ntmps58
 go_wp2_with (go_at_call 88; refine (containsI_any (outB lo hi) 89 #[.pointer (some ⟨w.heap.size, 0, none⟩), .pointer (some ⟨w.heap.size + 1, 0, none⟩)] EG.out _ H1 (fun x W hb => by rw [app12]; exact ooutc_any lo hi x w.heap.size (w.heap.size + 1) W (getc hb (oldc (newc rfl rfl))) (getc hb (newc rfl (by simp))))).mono ?_; rintro e w' ⟨rfl, rfl⟩)
 go_ret
 exact ⟨rfl, bl_alloc (bl_alloc (Below.refl _ _) _ (Nat.le_refl _)) _ (Nat.le_refl _)⟩
theorem oout1 {lo hi x : Int} {b : Bool} {g c : Nat} (w : World) (h : w.cell? ⟨g, 0, none⟩ = some (.int .i64 x)) (hb : outB lo hi x = b) :
  Calls Tryz.prog 58 #[.int .i64 lo, .int .i64 hi, .slice (some ⟨g, 0, none⟩) 1 c] w fun e w' => e = .returned (.bool b) ∧ Below w.heap.size w w' :=
 (oout_any lo hi w (Ints.one h)).mono fun _ _ ⟨he, hB⟩ => ⟨by rw [he, ← hb]; simp, hB⟩
theorem outB_f {lo hi x : Int} (h : lo ≤ x ∧ x ≤ hi) : outB lo hi x = false := outB_iff.2 h
theorem eg_OC1 : Enters Tryz.prog 106 := enters_of Tryz.func106 (by kernel_rfl) rfl
theorem eg_OC2 : Enters Tryz.prog 109 := enters_of Tryz.func109 (by kernel_rfl) rfl
theorem ocheck1_any {x : Int} (hx : 0 ≤ x ∧ x ≤ 24) (w : World) :
  Calls Tryz.prog 106 #[.int .i64 x] w fun e w' => e = .returned (.bool false) ∧ Below w.heap.size w w' := by
 have o := outB_f hx
 go_enter Tryz.func106, Tryz.ntmps106
 go_wp2_with fail
 refine (oout1 _ (by exact newc rfl rfl) o).mono ?_
 rintro e W ⟨rfl, hb⟩
 go_wp2
 go_ret
 exact ⟨rfl, bl_call (bl_alloc (Below.refl _ _) _ (Nat.le_refl _)) hb (Nat.le_refl _)⟩
theorem oindexI_none {S : Foot} {A : Option Addr} {n c : Nat} {xs : List Int} (g : Nat) (lb : Array Value) (eg : ∀ args w, (callFunc g args).run Tryz.prog w = .ok (.enter g args) w) (w : World) (h : Ints S w A n xs)
  (hp : ∀ (k : Nat) (x : Int) (W : World), Below w.heap.size w W → Hid (xs[k]? = some x) → Calls Tryz.prog g (#[.int .i64 x] ++ lb) W fun e W' => e = .returned (.bool false) ∧ Below W.heap.size W W') :
  Calls Tryz.prog 105 #[.slice A n c, .func (.func g) #[] lb] w fun e w' => e = .returned (.int .i64 (-1)) ∧ Below w.heap.size w w' := by
 have hle := h.le
 have HP := Lib.hid hp
 have HG := Lib.hid eg
 clear hp eg
 go_enter Tryz.func105, Tryz.ntmps105
 go_wp2
 go_loopw [5, 8] (fun _ i wr => ∃ k : Nat, k ≤ n ∧ i = .int .i64 k ∧ Below w.heap.size w wr) (fun _ i _ => n - (intOf i).toNat)
 case atStart => exact ⟨0, Nat.zero_le _, rfl, Below.refl _ _⟩
 case round =>
  obtain ⟨k, hk, rfl, hB⟩ := hrel
  by_cases hlt : k < n
  ·have hki : (k : Int) < n := by omega
   have hr := h.keep IntR.good (Keeps.below hB)
   obtain ⟨b, off, x, rfl, hc0, Hx⟩ := Ints.get hr hlt
   have hcall := HP.out k x wr hB Hx
   have eg : ∀ args w, (callFunc g args).run Tryz.prog w = .ok (.enter g args) w := HG.out
   clear hr
   go_wp2_with (go_at_fn g; refine hcall.mono ?_; rintro e w2 ⟨rfl, hb2⟩)
   have hB2 := bl_call hB hb2 (Nat.le_refl _)
   go_roundw
   case rel => exact ⟨k + 1, by omega, by go_num, hB2⟩
   case measure => simp [intOf]; omega
  obtain rfl : k = n := by omega
  go_wp2
  go_ret
  exact ⟨rfl, hB⟩
theorem oindexP_none {S : Foot} {A : Option Addr} {n c : Nat} {xs : List Part11} (g : Nat) (lb : Array Value) (eg : ∀ args w, (callFunc g args).run Tryz.prog w = .ok (.enter g args) w) (w : World) (h : Parts S w A n xs)
  (hp : ∀ (k : Nat) (s : ByteArray) (a z y : Int) (W : World), Below w.heap.size w W → Hid (xs[k]? = some ⟨s.data.toList, a, z, y⟩) → Calls Tryz.prog g (#[.agg #[.string s, .int .i64 a, .int .i64 z, .int .i64 y]] ++ lb) W fun e W' => e = .returned (.bool false) ∧ Below W.heap.size W W') :
  Calls Tryz.prog 126 #[.slice A n c, .func (.func g) #[] lb] w fun e w' => e = .returned (.int .i64 (-1)) ∧ Below w.heap.size w w' := by
 have hle := h.le
 have HP := Lib.hid hp
 have HG := Lib.hid eg
 clear hp eg
 go_enter Tryz.func126, Tryz.ntmps126
 go_wp2
 go_loopw [5, 8] (fun _ i wr => ∃ k : Nat, k ≤ n ∧ i = .int .i64 k ∧ Below w.heap.size w wr) (fun _ i _ => n - (intOf i).toNat)
 case atStart => exact ⟨0, Nat.zero_le _, rfl, Below.refl _ _⟩
 case round =>
  obtain ⟨k, hk, rfl, hB⟩ := hrel
  by_cases hlt : k < n
  ·have hki : (k : Int) < n := by omega
   have hr := h.keep PartR.good (Keeps.below hB)
   obtain ⟨b, off, s, a, z, y, rfl, hb0, hc0, hc1, hc2, hc3, hs, Hx⟩ := Parts.get hr hlt
   have hcall := HP.out k s a z y wr hB Hx
   have eg : ∀ args w, (callFunc g args).run Tryz.prog w = .ok (.enter g args) w := HG.out
   clear hr
   go_wp2_with (go_at_fn g; refine hcall.mono ?_; rintro e w2 ⟨rfl, hb2⟩)
   have hB2 := bl_call hB hb2 (Nat.le_refl _)
   go_roundw
   case rel => exact ⟨k + 1, by omega, by go_num, hB2⟩
   case measure => simp [intOf]; omega
  obtain rfl : k = n := by omega
  go_wp2
  go_ret
  exact ⟨rfl, hB⟩
theorem ocontainsP_none {S : Foot} {A : Option Addr} {n c : Nat} {xs : List Part11} (g : Nat) (lb : Array Value) (eg : ∀ args w, (callFunc g args).run Tryz.prog w = .ok (.enter g args) w) (w : World) (h : Parts S w A n xs)
  (hp : ∀ (k : Nat) (s : ByteArray) (a z y : Int) (W : World), Below w.heap.size w W → Hid (xs[k]? = some ⟨s.data.toList, a, z, y⟩) → Calls Tryz.prog g (#[.agg #[.string s, .int .i64 a, .int .i64 z, .int .i64 y]] ++ lb) W fun e W' => e = .returned (.bool false) ∧ Below W.heap.size W W') :
  Calls Tryz.prog 108 #[.slice A n c, .func (.func g) #[] lb] w fun e w' => e = .returned (.bool false) ∧ Below w.heap.size w w' := by
 have hle := h.le
 have HP := Lib.hid hp
 have HG := Lib.hid eg
 clear hp eg
 go_enter Tryz.func108, Tryz.ntmps108
 go_wp2_with (go_at_call 126; refine (oindexP_none g lb HG.out _ h HP.out).mono ?_; rintro e w' ⟨rfl, hb⟩)
 go_ret
 exact ⟨rfl, hb⟩
theorem ocheck2_any {s t : ByteArray} {a z y : Int} {g : Nat} (hne : s.data.toList ≠ t.data.toList) (w : World) (hg : w.cell? ⟨g, 0, none⟩ = some (.string t)) :
  Calls Tryz.prog 109 #[.agg #[.string s, .int .i64 a, .int .i64 z, .int .i64 y], .pointer (some ⟨g, 0, none⟩)] w fun e w' => e = .returned (.bool false) ∧ Below w.heap.size w w' := by
 have h1 := oldc (o := .cells #[.string s, .int .i64 a, .int .i64 z, .int .i64 y] 58) hg
 have hmb := streq_f hne
 clear hne
 go_enter Tryz.func109, Tryz.ntmps109
 go_wp2
 go_ret
 exact ⟨rfl, bl_alloc (Below.refl _ _) _ (Nat.le_refl _)⟩
theorem fresh_zero {s : List UInt8} {l : List (List UInt8)} (h : fresh s l = 0) : isName s = true ∧ s ∉ l := by
 unfold fresh at h
 split at h
 ·rename_i h1
  split at h
  ·omega
  exact ⟨h1, by assumption⟩
 omega
set_option maxHeartbeats 2000000 in
set_option maxRecDepth 100000 in
theorem ocheck_any {s : Shop11} {H P Q : Option Addr} {hn hc pn pc on oc : Nat} (hok : Ok11 s) (hpc : pn ≤ pc) (w : World) (g : ShopO (fun _ => True) w H hn P pn Q on s) :
  Calls Tryz.prog 90 #[.agg #[.slice H hn hc, .slice P pn pc, .slice Q on oc]] w fun e w' => e = .returned (.tuple #[.int .i64 0, .int .i64 0, .int .i64 0]) ∧ Below w.heap.size w w' := by
 have hh := g.hs.len
 have hp := g.ps.len
 have ho := g.os.len
 have nh := hok.nh
 have np := hok.np
 have no := hok.no
 have o1 : outB 1 20 (hn : Int) = false := outB_f (by omega)
 have o2 : outB 1 3 (pn : Int) = false := outB_f (by omega)
 have h8 : ¬ (8 : Int) < on := by omega
 have wp1 : IntKind.i64.wrap ((pn : Int) - 1) = (pn : Int) - 1 := by rw [IntKind.wrap_i64]; omega
 have wh1 : IntKind.i64.wrap ((hn : Int) - 1) = (hn : Int) - 1 := by rw [IntKind.wrap_i64]; omega
 have hpn3 : pn ≤ 3 := by omega
 have hon8 : on ≤ 8 := by omega
 have HNM : Hid (∀ (k : Nat) (nm : List UInt8) (a z y : Int), s.parts[k]? = some ⟨nm, a, z, y⟩ → isName nm = true ∧ (∀ (j : Nat) (n2 : List UInt8) (a2 z2 y2 : Int), (s.parts.take k)[j]? = some ⟨n2, a2, z2, y2⟩ → n2 ≠ nm) ∧ (1 ≤ a ∧ a ≤ 10) ∧ (1 ≤ z ∧ z ≤ 48) ∧ (0 ≤ y ∧ y ≤ 50)) := by
  intro k nm a z y hx
  have hk : k < s.parts.length := (List.getElem?_eq_some_iff.1 hx).1
  have h1 := hok.names k hk
  rw [List.getD_eq_getElem?_getD, hx] at h1
  obtain ⟨h2, h3⟩ := fresh_zero h1
  obtain ⟨p1, p2, p3⟩ := hok.parts _ (List.mem_of_getElem? hx)
  refine ⟨h2, fun j n2 a2 z2 y2 hj he => h3 ?_, p1, p2, p3⟩
  exact List.mem_map.2 ⟨_, List.mem_of_getElem? hj, he⟩
 have HOD : Hid (∀ (k : Nat) (a z y u : Int), s.orders[k]? = some ⟨a, z, y, u⟩ → (0 ≤ a ∧ a ≤ (pn : Int) - 1) ∧ (1 ≤ z ∧ z ≤ 50) ∧ (0 ≤ y ∧ y ≤ (hn : Int) - 1) ∧ (0 ≤ u ∧ u ≤ 10000)) := by
  intro k a z y u hx
  obtain ⟨⟨p1, p2⟩, p3, ⟨p5, p6⟩, p7⟩ := hok.orders _ (List.mem_of_getElem? hx)
  dsimp only at p1 p2 p3 p5 p6 p7
  exact ⟨⟨p1, by omega⟩, p3, ⟨p5, by omega⟩, p7⟩
 have HHR : Hid (∀ h ∈ s.hours, 0 ≤ h ∧ h ≤ 24) := hok.hours
 obtain ⟨W, hW⟩ : ∃ W, w.alloc (.cells #[.slice H hn hc, .slice P pn pc, .slice Q on oc] 31) = W := ⟨_, rfl⟩
 have X : Blk W w.heap.size 31 #[.slice H hn hc, .slice P pn pc, .slice Q on oc] := by rw [← hW]; exact Blk.new _ _ _ rfl
 have hBW : Below w.heap.size w W := by rw [← hW]; exact bl_alloc (Below.refl _ _) _ (Nat.le_refl _)
 have HG : Hid (∀ V, Below W.heap.size W V → ShopO (fun _ => True) V H hn P pn Q on s) := fun V hb => (g.bl hBW).bl hb
 have kk : Hid (∀ V, Below W.heap.size W V → V.cell? ⟨w.heap.size, 0, none⟩ = some (.slice H hn hc) ∧ V.cell? ⟨w.heap.size, 1, none⟩ = some (.slice P pn pc) ∧ V.cell? ⟨w.heap.size, 2, none⟩ = some (.slice Q on oc)) :=
  fun V hb => ⟨(X.bl hb).cell 0, (X.bl hb).cell 1, (X.bl hb).cell 2⟩
 have E1 := Lib.hid eg_OC1
 have E2 := Lib.hid eg_OC2
 have Ho := Lib.hid ho
 have Hp := Lib.hid hp
 have hle := g.hs.le
 have hlp := g.ps.le
 have hlo := g.os.le
 clear hok g X hh hp ho nh np no
 obtain ⟨x0, x1, x2⟩ := kk.out W (Below.refl _ _)
 go_enter Tryz.func90, Tryz.ntmps90
 go_wp2_with fail
 clear hW x0 x1 x2
 refine (oout1 _ (by exact newc rfl rfl) o1).mono ?_
 rintro e V1 ⟨rfl, b1⟩
 have B1 : Below W.heap.size W V1 := bl_call (bl_alloc (Below.refl _ _) _ (Nat.le_refl _)) b1 (Nat.le_refl _)
 clear b1
 obtain ⟨x0, x1, x2⟩ := kk.out V1 B1
 go_wp2_with fail
 clear x0 x1 x2
 refine (oout1 _ (by exact newc rfl rfl) o2).mono ?_
 rintro e V2 ⟨rfl, b2⟩
 have B2 : Below W.heap.size W V2 := bl_call (bl_alloc B1 _ (Nat.le_refl _)) b2 (Nat.le_refl _)
 clear b2
 obtain ⟨x0, x1, x2⟩ := kk.out V2 B2
 go_wp2_with fail
 clear x0 x1 x2
 refine (oindexI_none 106 #[] E1.out V2 (HG.out V2 B2).hs (fun k x V hb hx => by
  exact ocheck1_any (HHR.out x (List.mem_of_getElem? hx.out)) V)).mono ?_
 rintro e V3 ⟨rfl, b3⟩
 have B3 : Below W.heap.size W V3 := bl_call B2 b3 (Nat.le_refl _)
 clear b3
 obtain ⟨x0, x1, x2⟩ := kk.out V3 B3
 go_wp2
 clear x0 x1 x2
 go_loopw [6, 7, 37] (fun _ _ i wr => ∃ k : Nat, k ≤ pn ∧ i = .int .i64 k ∧ Below W.heap.size W wr) (fun _ _ i _ => pn - (intOf i).toNat)
 case atStart => exact ⟨0, Nat.zero_le _, rfl, B3⟩
 case round =>
  obtain ⟨k, hk, rfl, hB⟩ := hrel
  by_cases hlt : k < pn
  ·obtain ⟨b, off, nm, a, z, y, rfl, hbb, hc0, hc1, hc2, hc3, hs, Hx⟩ := Parts.get (HG.out wr hB).ps hlt
   have hki : (k : Int) < pn := by omega
   have hkc : (k : Int) ≤ pc := by omega
   obtain ⟨q1, q2, q3, q4, q5⟩ := HNM.out k _ a z y Hx.out
   have p3 := outB_f q3
   have p4 := outB_f q4
   have p5 := outB_f q5
   have HQ2 := Lib.hid q2
   clear q2 q3 q4 q5
   go_wp2_with fail
   refine (sheetName_any nm _ hs).mono ?_
   rw [q1]
   rintro e w1 ⟨rfl, hb1⟩
   have F1 : Blk w1 wr.heap.size 58 #[.string nm, .int .i64 a, .int .i64 z, .int .i64 y] := (Blk.new _ _ _ rfl).bl hb1
   have C1 : Below W.heap.size W w1 := bl_call (bl_alloc hB _ (Nat.le_refl _)) hb1 (Nat.le_refl _)
   clear hb1 hc0 hc1 hc2 hc3 hbb q1
   obtain ⟨x0, x1, x2⟩ := kk.out w1 C1
   have f0 := F1.cell 0
   have f1 := F1.cell 1
   have f2 := F1.cell 2
   have f3 := F1.cell 3
   go_wp2_with fail
   clear x0 x1 x2
   refine (ocontainsP_none 109 #[.pointer (some ⟨wr.heap.size, 0, none⟩)] E2.out w1 ((HG.out w1 C1).ps.take hk) (fun j s2 a2 z2 y2 V hb hx => by
    exact ocheck2_any (HQ2.out j _ a2 z2 y2 hx.out) V (getc hb f0))).mono ?_
   rintro e w2 ⟨rfl, hb2⟩
   have F2 := F1.bl hb2
   have C2 : Below W.heap.size W w2 := bl_call C1 hb2 (Nat.le_refl _)
   clear hb2 f0 f1 f2 f3 F1
   have f0 := F2.cell 0
   have f1 := F2.cell 1
   have f2 := F2.cell 2
   have f3 := F2.cell 3
   go_wp2_with fail
   refine (oout1 _ (by exact newc rfl rfl) p3).mono ?_
   rintro e w3 ⟨rfl, hb3⟩
   have F3 := (F2.alloc _).bl hb3
   have C3 : Below W.heap.size W w3 := bl_call (bl_alloc C2 _ (Nat.le_refl _)) hb3 (Nat.le_refl _)
   clear hb3 f0 f1 f2 f3 F2
   have f0 := F3.cell 0
   have f1 := F3.cell 1
   have f2 := F3.cell 2
   have f3 := F3.cell 3
   go_wp2_with fail
   refine (oout1 _ (by exact newc rfl rfl) p4).mono ?_
   rintro e w4 ⟨rfl, hb4⟩
   have F4 := (F3.alloc _).bl hb4
   have C4 : Below W.heap.size W w4 := bl_call (bl_alloc C3 _ (Nat.le_refl _)) hb4 (Nat.le_refl _)
   clear hb4 f0 f1 f2 f3 F3
   have f0 := F4.cell 0
   have f1 := F4.cell 1
   have f2 := F4.cell 2
   have f3 := F4.cell 3
   go_wp2_with fail
   refine (oout1 _ (by exact newc rfl rfl) p5).mono ?_
   rintro e w5 ⟨rfl, hb5⟩
   have C5 : Below W.heap.size W w5 := bl_call (bl_alloc C4 _ (Nat.le_refl _)) hb5 (Nat.le_refl _)
   clear hb5 f0 f1 f2 f3 F4
   go_wp2
   go_roundw
   case rel => exact ⟨k + 1, by omega, by go_num, C5⟩
   case measure => simp [intOf]; omega
  obtain rfl : k = pn := by omega
  obtain ⟨x0, x1, x2⟩ := kk.out wr hB
  go_wp2
  clear x0 x1 x2 hlt
  go_loopw [8, 9, 78] (fun _ _ i wr' => ∃ j : Nat, j ≤ on ∧ i = .int .i64 j ∧ Below W.heap.size W wr') (fun _ _ i _ => on - (intOf i).toNat)
  case atStart => exact ⟨0, Nat.zero_le _, rfl, hB⟩
  case round =>
   clear hB
   obtain ⟨j, hj, rfl, hB⟩ := hrel
   by_cases hlt : j < on
   ·obtain ⟨b, off, a, z, y, u, rfl, hbb, hc0, hc1, hc2, hc3, Hx⟩ := Ords11.get (HG.out _ hB).os hlt
    have hji : (j : Int) < on := by omega
    obtain ⟨q1, q2, q3, q4⟩ := HOD.out j a z y u Hx.out
    have p1 := outB_f q1
    have p2 := outB_f q2
    have p3 := outB_f q3
    have p4 := outB_f q4
    clear q1 q2 q3 q4
    obtain ⟨x0, x1, x2⟩ := kk.out _ (bl_alloc hB (.cells #[.int .i64 a, .int .i64 z, .int .i64 y, .int .i64 u] 61) (Nat.le_refl _))
    go_wp2_with fail
    refine (oout1 _ (by exact newc rfl (by simp)) p1).mono ?_
    rintro e w1 ⟨rfl, hb1⟩
    have F1 : Blk w1 wr.heap.size 61 #[.int .i64 a, .int .i64 z, .int .i64 y, .int .i64 u] := ((Blk.new _ _ _ rfl).alloc _).bl hb1
    have C1 : Below W.heap.size W w1 := bl_call (bl_alloc (bl_alloc hB _ (Nat.le_refl _)) _ (Nat.le_refl _)) hb1 (Nat.le_refl _)
    clear hb1 hc0 hc1 hc2 hc3 hbb x0 x1 x2
    obtain ⟨x0, x1, x2⟩ := kk.out w1 C1
    have f0 := F1.cell 0
    have f1 := F1.cell 1
    have f2 := F1.cell 2
    have f3 := F1.cell 3
    go_wp2_with fail
    refine (oout1 _ (by exact newc rfl rfl) p2).mono ?_
    rintro e w2 ⟨rfl, hb2⟩
    have F2 := (F1.alloc _).bl hb2
    have C2 : Below W.heap.size W w2 := bl_call (bl_alloc C1 _ (Nat.le_refl _)) hb2 (Nat.le_refl _)
    clear hb2 f0 f1 f2 f3 F1 x0 x1 x2
    obtain ⟨x0, x1, x2⟩ := kk.out w2 C2
    have f0 := F2.cell 0
    have f1 := F2.cell 1
    have f2 := F2.cell 2
    have f3 := F2.cell 3
    go_wp2_with fail
    refine (oout1 _ (by exact newc rfl rfl) p3).mono ?_
    rintro e w3 ⟨rfl, hb3⟩
    have F3 := (F2.alloc _).bl hb3
    have C3 : Below W.heap.size W w3 := bl_call (bl_alloc C2 _ (Nat.le_refl _)) hb3 (Nat.le_refl _)
    clear hb3 f0 f1 f2 f3 F2 x0 x1 x2
    have f0 := F3.cell 0
    have f1 := F3.cell 1
    have f2 := F3.cell 2
    have f3 := F3.cell 3
    go_wp2_with fail
    refine (oout1 _ (by exact newc rfl rfl) p4).mono ?_
    rintro e w4 ⟨rfl, hb4⟩
    have C4 : Below W.heap.size W w4 := bl_call (bl_alloc C3 _ (Nat.le_refl _)) hb4 (Nat.le_refl _)
    clear hb4 f0 f1 f2 f3 F3
    go_wp2
    go_roundw
    case rel => exact ⟨j + 1, by omega, by go_num, C4⟩
    case measure => simp [intOf]; omega
   obtain rfl : j = on := by omega
   go_wp2
   go_ret3
   exact ⟨rfl, bl_call hBW hB (Nat.le_refl _)⟩
end Go.Proofs.YtkpbchnggdnmaaaGreat
