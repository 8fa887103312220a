/- Walks: the program's outside, and the library's search by a function. -/
import Derived.Shelf.Abstract
import Derived.Test.YtkbpmcpmcmnfgaaDoorCLaw1
set_option linter.unusedVariables false
set_option linter.unusedSimpArgs false
set_option linter.all false
namespace Go.Proofs.YtkbpmcpmcmnfgaaDoor
open Go.RowKit Go.Shelf

def outB (lo hi x : Int) : Bool := decide (x < lo) || decide (hi < x)
theorem outB_inB (lo hi x : Int) : outB lo hi x = !inB x lo hi := by
  unfold outB inB
  by_cases h1 : x < lo <;> by_cases h2 : hi < x <;> simp [h1, h2] <;> omega

theorem any_take_no {α : Type} {xs : List α} {k : Nat} {x : α} {p : α → Bool} (hx : xs[k]? = some x) (h : (xs.take k).any p = false) (hp : p x = false) : (xs.take (k + 1)).any p = false := by
  rw [take_snoc_get hx, List.any_append, h]; simp [hp]
theorem any_yes {α : Type} {xs : List α} {k : Nat} {x : α} {p : α → Bool} (hx : xs[k]? = some x) (hp : p x = true) : xs.any p = true := List.any_eq_true.2 ⟨x, List.mem_of_getElem? hx, hp⟩

set_option maxHeartbeats 1000000 in
theorem indexI_any {S : Foot} {A : Option Addr} {n c : Nat} {xs : List Int} (p : Int → Bool) (g : Nat) (lb : Array Value) (eg : ∀ args w, (callFunc g args).run Tryd.prog w = .ok (.enter g args) w) (w : World) (h : Ints S w A n xs)
    (hp : ∀ (x : Int) (W : World), Below w.heap.size w W → Calls Tryd.prog g (#[.int .i64 x] ++ lb) W fun e W' => e = .returned (.bool (p x)) ∧ W = W') :
    Calls Tryd.prog 102 #[.slice A n c, .func (.func g) #[] lb] w fun e w' => (∃ r : Int, e = .returned (.int .i64 r) ∧ Hid (decide (0 ≤ r) = xs.any p)) ∧ w = w' := by
  have hle := h.le
  have Hn0 := Lib.hid h.len
  have HP := Lib.hid hp
  clear hp
  go_enter Tryd.func102, Tryd.ntmps102
  go_wp2
  go_loop [5, 8] (fun _ i => ∃ k : Nat, k ≤ n ∧ i = .int .i64 k ∧ Hid ((xs.take k).any p = false)) (fun _ i => n - (intOf i).toNat)
  case atStart => exact ⟨0, Nat.zero_le _, rfl, rfl⟩
  case round =>
    obtain ⟨k, hk, rfl, Hk⟩ := hrel
    by_cases hlt : k < n
    · have hki : (k : Int) < n := by omega
      obtain ⟨b, off, x, rfl, hcell, Hx⟩ := h.get hlt
      have hcall := HP.out x w (Below.refl _ _)
      cases hq : p x with
      | true =>
        have HQ := Lib.hid hq
        rw [hq] at hcall
        clear hq
        go_wp2_with (go_at_fn g; refine hcall.mono ?_; rintro e w' ⟨rfl, rfl⟩)
        go_ret
        exact ⟨⟨_, rfl, by rw [Hid, any_yes Hx.out HQ.out]; simp⟩, rfl⟩
      | false =>
        have HQ := Lib.hid hq
        rw [hq] at hcall
        clear hq
        go_wp2_with (go_at_fn g; refine hcall.mono ?_; rintro e w' ⟨rfl, rfl⟩)
        go_round
        case rel => exact ⟨k + 1, by omega, by go_num, any_take_no Hx.out Hk.out HQ.out⟩
        case measure => simp [intOf]; omega
    · obtain rfl : k = n := by omega
      go_wp2
      go_ret
      refine ⟨⟨_, rfl, ?_⟩, rfl⟩
      have := Hk.out
      rw [List.take_of_length_le (by rw [Hn0.out]; exact Nat.le_refl _)] at this
      rw [Hid, this]; rfl

theorem containsI_any {S : Foot} {A : Option Addr} {n c : Nat} {xs : List Int} (p : Int → Bool) (g : Nat) (lb : Array Value) (eg : ∀ args w, (callFunc g args).run Tryd.prog w = .ok (.enter g args) w) (w : World) (h : Ints S w A n xs)
    (hp : ∀ (x : Int) (W : World), Below w.heap.size w W → Calls Tryd.prog g (#[.int .i64 x] ++ lb) W fun e W' => e = .returned (.bool (p x)) ∧ W = W') :
    Calls Tryd.prog 83 #[.slice A n c, .func (.func g) #[] lb] w fun e w' => e = .returned (.bool (xs.any p)) ∧ w = w' := by
  have hle := h.le
  have HP := Lib.hid hp
  have HG := Lib.hid eg
  clear hp eg
  go_enter Tryd.func83, Tryd.ntmps83
  go_wp2_with (go_at_call 102; refine (indexI_any p g lb HG.out _ h HP.out).mono ?_; rintro e w' ⟨⟨r, rfl, Hr⟩, rfl⟩)
  go_ret
  exact ⟨ret_bool Hr.out, rfl⟩

theorem outside1_any (lo hi x : Int) (B1 B2 : Nat) (w : World) (h1 : w.cell? ⟨B1, 0, none⟩ = some (.int .i64 lo)) (h2 : w.cell? ⟨B2, 0, none⟩ = some (.int .i64 hi)) :
    Calls Tryd.prog 84 #[.int .i64 x, .pointer (some ⟨B1, 0, none⟩), .pointer (some ⟨B2, 0, none⟩)] w fun e w' => e = .returned (.bool (outB lo hi x)) ∧ w = w' := by
  have Hb : Hid (outB lo hi x = (decide (x < lo) || decide (hi < x))) := rfl
  by_cases c1 : x < lo
  · go_enter Tryd.func84, Tryd.ntmps84
    go_wp2
    go_ret
    exact ⟨ret_bool (by rw [Hb.out, decide_eq_true c1]; rfl), rfl⟩
  · by_cases c2 : hi < x
    · go_enter Tryd.func84, Tryd.ntmps84
      go_wp2
      go_ret
      exact ⟨ret_bool (by rw [Hb.out, decide_eq_true c2]; simp), rfl⟩
    · go_enter Tryd.func84, Tryd.ntmps84
      go_wp2
      go_ret
      exact ⟨ret_bool (by rw [Hb.out, decide_eq_false (by omega), decide_eq_false (by omega)]; rfl), rfl⟩

theorem app11 (a b : Value) : (#[a] ++ #[b] : Array Value) = #[a, b] := rfl
theorem app12 (a b c : Value) : (#[a] ++ #[b, c] : Array Value) = #[a, b, c] := rfl
theorem eg_outside1 : Enters Tryd.prog 84 := enters_of Tryd.func84 (by kernel_rfl) rfl
theorem outside_any {S : Foot} {A : Option Addr} {n c : Nat} {xs : List Int} (lo hi : Int) (w : World) (h : Ints S w A n xs) :
    Calls Tryd.prog 52 #[.int .i64 lo, .int .i64 hi, .slice A n c] w fun e w' => e = .returned (.bool (xs.any (outB lo hi))) ∧ Below w.heap.size w w' := by
  have H1 : Ints S ((w.alloc (.cells #[.int .i64 lo] 3)).alloc (.cells #[.int .i64 hi] 3)) A n xs := (h.keep IntR.good (Keeps.alloc _ _)).keep IntR.good (Keeps.alloc _ _)
  have EG := Lib.hid eg_outside1
  go_enter Tryd.func52, Tryd.ntmps52
  go_wp2_with (go_at_call 83; refine (containsI_any (outB lo hi) 84 #[.pointer (some ⟨w.heap.size, 0, none⟩), .pointer (some ⟨w.heap.size + 1, 0, none⟩)] EG.out _ H1 (fun x W hb => by rw [app12]; exact outside1_any lo hi x w.heap.size (w.heap.size + 1) W (getc hb (oldc (newc rfl rfl))) (getc hb (newc rfl (by simp))))).mono ?_; rintro e w' ⟨rfl, rfl⟩)
  go_ret
  exact ⟨rfl, bl_alloc (bl_alloc (Below.refl _ _) _ (Nat.le_refl _)) _ (Nat.le_refl _)⟩

end Go.Proofs.YtkbpmcpmcmnfgaaDoor

namespace Go.Proofs.YtkbpmcpmcmnfgaaDoor
open Go.RowKit Go.Shelf

theorem SliceOf.take {α : Type} {R : Rd α} {m : Nat} {S : Foot} {w : World} {A : Option Addr} {n : Nat} {xs : List α} (h : SliceOf R m S w A n xs) {k : Nat} (hk : k ≤ n) : SliceOf R m S w A k (xs.take k) :=
  ⟨by rw [List.length_take, h.1]; omega, Nat.le_trans hk h.2.1, fun j x hx => by
    rw [List.getElem?_take] at hx
    split at hx
    · exact h.2.2 j x hx
    · cases hx⟩
theorem streq_t {s t : ByteArray} (h : s.data.toList = t.data.toList) : (s.toList == t.toList) = true := by rw [ByteArray.toList_eq, ByteArray.toList_eq]; simpa using h
theorem streq_f {s t : ByteArray} (h : s.data.toList ≠ t.data.toList) : (s.toList == t.toList) = false := by rw [ByteArray.toList_eq, ByteArray.toList_eq]; simpa using h

theorem eg_F : Enters Tryd.prog 55 := enters_of Tryd.func55 (by kernel_rfl) rfl
theorem eqF_any (s t : ByteArray) (a z : Int) (g : Nat) (w : World) (hg : w.cell? ⟨g, 0, none⟩ = some (.string t)) :
    Calls Tryd.prog 55 #[.agg #[.string s, .int .i64 a, .int .i64 z], .pointer (some ⟨g, 0, none⟩)] w fun e w' => e = .returned (.bool (decide (s.data.toList = t.data.toList))) ∧ Below w.heap.size w w' := by
  have h1 := oldc (o := .cells #[.string s, .int .i64 a, .int .i64 z] 69) hg
  by_cases hm : s.data.toList = t.data.toList
  · have hmb := streq_t hm
    have HM := Lib.hid hm
    clear hm
    go_enter Tryd.func55, Tryd.ntmps55
    go_wp2
    go_ret
    exact ⟨ret_bool (by rw [decide_eq_true HM.out]), bl_alloc (Below.refl _ _) _ (Nat.le_refl _)⟩
  · have hmb := streq_f hm
    have HM := Lib.hid hm
    clear hm
    go_enter Tryd.func55, Tryd.ntmps55
    go_wp2
    go_ret
    exact ⟨ret_bool (by rw [decide_eq_false HM.out]), bl_alloc (Below.refl _ _) _ (Nat.le_refl _)⟩

set_option maxHeartbeats 1000000 in
theorem indexF_any {S : Foot} {A : Option Addr} {n c : Nat} {xs : List Feat} (t : ByteArray) (g : Nat) (w : World) (h : Feats S w A n xs) (hg : w.cell? ⟨g, 0, none⟩ = some (.string t)) :
    Calls Tryd.prog 85 #[.slice A n c, .func (.func 55) #[] #[.pointer (some ⟨g, 0, none⟩)]] w fun e w' => (∃ r : Int, e = .returned (.int .i64 r) ∧ Hid (decide (0 ≤ r) = decide (t.data.toList ∈ xs.map (·.name)))) ∧ Below w.heap.size w w' := by
  have hle := h.le
  have Hn0 := Lib.hid h.len
  have eg : ∀ args w, (callFunc 55 args).run Tryd.prog w = .ok (.enter 55 args) w := eg_F
  have EG := Lib.hid eg
  clear eg
  go_enter Tryd.func85, Tryd.ntmps85
  go_wp2
  go_loopw [5, 8] (fun _ i wr => ∃ k : Nat, k ≤ n ∧ i = .int .i64 k ∧ Below w.heap.size w wr ∧ Hid (t.data.toList ∉ (xs.take k).map (·.name))) (fun _ i _ => n - (intOf i).toNat)
  case atStart => exact ⟨0, Nat.zero_le _, rfl, Below.refl _ _, by simp [Hid]⟩
  case round =>
    obtain ⟨k, hk, rfl, hB, Hk⟩ := hrel
    by_cases hlt : k < n
    · have hki : (k : Int) < n := by omega
      have hr := h.keep FeatR.good (Keeps.below hB)
      obtain ⟨b, off, s, a, z, rfl, hb0, hc0, hc1, hc2, hs, Hx⟩ := Feats.get hr hlt
      have hcall := eqF_any s t a z g wr (getc hB hg)
      by_cases hm : s.data.toList = t.data.toList
      · have HM := Lib.hid hm
        rw [decide_eq_true hm] at hcall
        clear hm
        go_wp2_with (go_at_call 55; refine hcall.mono ?_; rintro e w2 ⟨rfl, hb2⟩)
        go_ret
        refine ⟨⟨_, rfl, ?_⟩, bl_call hB hb2 (Nat.le_refl _)⟩
        have hmem : t.data.toList ∈ xs.map (·.name) := List.mem_map.2 ⟨_, List.mem_of_getElem? Hx.out, HM.out⟩
        rw [Hid, decide_eq_true hmem]; simp
      · have HM := Lib.hid hm
        rw [decide_eq_false hm] at hcall
        clear hm
        go_wp2_with (go_at_call 55; refine hcall.mono ?_; rintro e w2 ⟨rfl, hb2⟩)
        go_roundw
        case rel => exact ⟨k + 1, by omega, by go_num, bl_call hB hb2 (Nat.le_refl _), by rw [Hid, take_snoc_get Hx.out, List.map_append, List.mem_append]; exact fun hc => hc.elim Hk.out (fun e => HM.out (List.mem_singleton.1 e).symm)⟩
        case measure => simp [intOf]; omega
    · obtain rfl : k = n := by omega
      go_wp2
      go_ret
      refine ⟨⟨_, rfl, ?_⟩, hB⟩
      have := Hk.out
      rw [List.take_of_length_le (by rw [Hn0.out]; exact Nat.le_refl _)] at this
      rw [Hid, decide_eq_false this]; rfl

theorem hasF_any {S : Foot} {A : Option Addr} {n c : Nat} {xs : List Feat} (t : ByteArray) (g : Nat) (w : World) (h : Feats S w A n xs) (hg : w.cell? ⟨g, 0, none⟩ = some (.string t)) :
    Calls Tryd.prog 54 #[.slice A n c, .func (.func 55) #[] #[.pointer (some ⟨g, 0, none⟩)]] w fun e w' => e = .returned (.bool (decide (t.data.toList ∈ xs.map (·.name)))) ∧ Below w.heap.size w w' := by
  have hle := h.le
  go_enter Tryd.func54, Tryd.ntmps54
  go_wp2_with (go_at_call 85; refine (indexF_any t g _ h hg).mono ?_; rintro e w' ⟨⟨r, rfl, Hr⟩, hb⟩)
  go_ret
  exact ⟨ret_bool Hr.out, hb⟩

theorem eg_C : Enters Tryd.prog 57 := enters_of Tryd.func57 (by kernel_rfl) rfl
theorem eqC_any (s t : ByteArray) (lo hi : Int) (P : Option Addr) (np cp : Nat) (g : Nat) (w : World) (hg : w.cell? ⟨g, 0, none⟩ = some (.string t)) :
    Calls Tryd.prog 57 #[.agg #[.string s, .int .i64 lo, .int .i64 hi, .slice P np cp], .pointer (some ⟨g, 0, none⟩)] w fun e w' => e = .returned (.bool (decide (s.data.toList = t.data.toList))) ∧ Below w.heap.size w w' := by
  have h1 := oldc (o := .cells #[.string s, .int .i64 lo, .int .i64 hi, .slice P np cp] 76) hg
  by_cases hm : s.data.toList = t.data.toList
  · have hmb := streq_t hm
    have HM := Lib.hid hm
    clear hm
    go_enter Tryd.func57, Tryd.ntmps57
    go_wp2
    go_ret
    exact ⟨ret_bool (by rw [decide_eq_true HM.out]), bl_alloc (Below.refl _ _) _ (Nat.le_refl _)⟩
  · have hmb := streq_f hm
    have HM := Lib.hid hm
    clear hm
    go_enter Tryd.func57, Tryd.ntmps57
    go_wp2
    go_ret
    exact ⟨ret_bool (by rw [decide_eq_false HM.out]), bl_alloc (Below.refl _ _) _ (Nat.le_refl _)⟩

set_option maxHeartbeats 1000000 in
theorem indexC_any {S : Foot} {A : Option Addr} {n c : Nat} {xs : List Cause} (t : ByteArray) (g : Nat) (w : World) (h : Causes S w A n xs) (hg : w.cell? ⟨g, 0, none⟩ = some (.string t)) :
    Calls Tryd.prog 86 #[.slice A n c, .func (.func 57) #[] #[.pointer (some ⟨g, 0, none⟩)]] w fun e w' => (∃ r : Int, e = .returned (.int .i64 r) ∧ Hid (decide (0 ≤ r) = decide (t.data.toList ∈ xs.map (·.name)))) ∧ Below w.heap.size w w' := by
  have hle := h.le
  have Hn0 := Lib.hid h.len
  have eg : ∀ args w, (callFunc 57 args).run Tryd.prog w = .ok (.enter 57 args) w := eg_C
  have EG := Lib.hid eg
  clear eg
  go_enter Tryd.func86, Tryd.ntmps86
  go_wp2
  go_loopw [5, 8] (fun _ i wr => ∃ k : Nat, k ≤ n ∧ i = .int .i64 k ∧ Below w.heap.size w wr ∧ Hid (t.data.toList ∉ (xs.take k).map (·.name))) (fun _ i _ => n - (intOf i).toNat)
  case atStart => exact ⟨0, Nat.zero_le _, rfl, Below.refl _ _, by simp [Hid]⟩
  case round =>
    obtain ⟨k, hk, rfl, hB, Hk⟩ := hrel
    by_cases hlt : k < n
    · have hki : (k : Int) < n := by omega
      have hr := h.keep CauseR.good (Keeps.below hB)
      obtain ⟨b, off, s, lo, hi, P, np, cp, per, rfl, hb0, hc0, hc1, hc2, hc3, hs, hper, Hx⟩ := Causes.get hr hlt
      have hcall := eqC_any s t lo hi P np cp g wr (getc hB hg)
      by_cases hm : s.data.toList = t.data.toList
      · have HM := Lib.hid hm
        rw [decide_eq_true hm] at hcall
        clear hm
        go_wp2_with (go_at_call 57; refine hcall.mono ?_; rintro e w2 ⟨rfl, hb2⟩)
        go_ret
        refine ⟨⟨_, rfl, ?_⟩, bl_call hB hb2 (Nat.le_refl _)⟩
        have hmem : t.data.toList ∈ xs.map (·.name) := List.mem_map.2 ⟨_, List.mem_of_getElem? Hx.out, HM.out⟩
        rw [Hid, decide_eq_true hmem]; simp
      · have HM := Lib.hid hm
        rw [decide_eq_false hm] at hcall
        clear hm
        go_wp2_with (go_at_call 57; refine hcall.mono ?_; rintro e w2 ⟨rfl, hb2⟩)
        go_roundw
        case rel => exact ⟨k + 1, by omega, by go_num, bl_call hB hb2 (Nat.le_refl _), by rw [Hid, take_snoc_get Hx.out, List.map_append, List.mem_append]; exact fun hc => hc.elim Hk.out (fun e => HM.out (List.mem_singleton.1 e).symm)⟩
        case measure => simp [intOf]; omega
    · obtain rfl : k = n := by omega
      go_wp2
      go_ret
      refine ⟨⟨_, rfl, ?_⟩, hB⟩
      have := Hk.out
      rw [List.take_of_length_le (by rw [Hn0.out]; exact Nat.le_refl _)] at this
      rw [Hid, decide_eq_false this]; rfl

theorem hasC_any {S : Foot} {A : Option Addr} {n c : Nat} {xs : List Cause} (t : ByteArray) (g : Nat) (w : World) (h : Causes S w A n xs) (hg : w.cell? ⟨g, 0, none⟩ = some (.string t)) :
    Calls Tryd.prog 56 #[.slice A n c, .func (.func 57) #[] #[.pointer (some ⟨g, 0, none⟩)]] w fun e w' => e = .returned (.bool (decide (t.data.toList ∈ xs.map (·.name)))) ∧ Below w.heap.size w w' := by
  have hle := h.le
  go_enter Tryd.func56, Tryd.ntmps56
  go_wp2_with (go_at_call 86; refine (indexC_any t g _ h hg).mono ?_; rintro e w' ⟨⟨r, rfl, Hr⟩, hb⟩)
  go_ret
  exact ⟨ret_bool Hr.out, hb⟩

end Go.Proofs.YtkbpmcpmcmnfgaaDoor

namespace Go.Proofs.YtkbpmcpmcmnfgaaDoor
open Go.RowKit Go.Shelf

theorem Ints.one {w : World} {g : Nat} {x : Int} (h : w.cell? ⟨g, 0, none⟩ = some (.int .i64 x)) : Ints (fun _ => True) w (some ⟨g, 0, none⟩) 1 [x] := by
  refine ⟨rfl, by decide, fun k y hk => ?_⟩
  have hk0 : k = 0 := by have := of_getq' hk; simp at this; omega
  subst hk0
  simp at hk; subst hk
  refine ⟨g, 0, [.int .i64 x], rfl, trivial, World.block_lt_of_cell? w _ h, rfl, fun j u hu => ?_⟩
  have hj : j = 0 := by have := of_getq' hu; simp at this; omega
  subst hj
  simp at hu; subst hu
  simpa using h
theorem Ints.two {w : World} {g : Nat} {x y : Int} (h : w.cell? ⟨g, 0, none⟩ = some (.int .i64 x)) (h2 : w.cell? ⟨g, 1, none⟩ = some (.int .i64 y)) : Ints (fun _ => True) w (some ⟨g, 0, none⟩) 2 [x, y] := by
  refine ⟨rfl, by decide, fun k z hk => ?_⟩
  have hk0 : k = 0 ∨ k = 1 := by have := of_getq' hk; simp at this; omega
  rcases hk0 with rfl | rfl
  all_goals
    simp at hk; subst hk
    refine ⟨g, 0, _, rfl, trivial, World.block_lt_of_cell? w _ h, rfl, fun j u hu => ?_⟩
    have hj : j = 0 := by have := of_getq' hu; simp at this; omega
    subst hj
    simp at hu; subst hu
    first | (simpa using h) | (simpa using h2)
theorem out1_any {lo hi x : Int} {b : Bool} {g c : Nat} (w : World) (h : w.cell? ⟨g, 0, none⟩ = some (.int .i64 x)) (hb : outB lo hi x = b) :
    Calls Tryd.prog 52 #[.int .i64 lo, .int .i64 hi, .slice (some ⟨g, 0, none⟩) 1 c] w fun e w' => e = .returned (.bool b) ∧ Below w.heap.size w w' :=
  (outside_any lo hi w (Ints.one h)).mono fun _ _ ⟨he, hB⟩ => ⟨by rw [he, ← hb]; simp, hB⟩
theorem out2_any {lo hi x y : Int} {b : Bool} {g c : Nat} (w : World) (h : w.cell? ⟨g, 0, none⟩ = some (.int .i64 x)) (h2 : w.cell? ⟨g, 1, none⟩ = some (.int .i64 y)) (hb : (outB lo hi x || outB lo hi y) = b) :
    Calls Tryd.prog 52 #[.int .i64 lo, .int .i64 hi, .slice (some ⟨g, 0, none⟩) 2 c] w fun e w' => e = .returned (.bool b) ∧ Below w.heap.size w w' :=
  (outside_any lo hi w (Ints.two h h2)).mono fun _ _ ⟨he, hB⟩ => ⟨by rw [he, ← hb]; simp, hB⟩

theorem perBad_out (l : List Int) : perBad l = l.any (outB (-20) 20) := by
  unfold perBad; congr 1; funext n; rw [outB_inB]

theorem featE_back {l : List Feat} {k : Nat} {s : List UInt8} {a z : Int} (h : l[k]? = some ⟨s, a, z⟩) : featE l k = if isName s then (if s ∈ (l.take k).map (·.name) then 5 else if outB 1 100000 a || outB 0 100 z then 7 else 0) else 6 := by
  rw [featE_get h]
  unfold fresh
  dsimp only
  rw [outB_inB, outB_inB]
  cases isName s
  · simp
  · by_cases hm : s ∈ (l.take k).map (·.name)
    · simp only [if_pos hm]; simp
    · simp only [if_neg hm]; simp
theorem causeAt_back {l : List Cause} {k nf : Nat} {s : List UInt8} {lo hi : Int} {per : List Int} (h : l[k]? = some ⟨s, lo, hi, per⟩) : causeAt nf l k = if isName s then (if s ∈ (l.take k).map (·.name) then 5 else if per.length ≠ nf then 3 else if per.any (outB (-20) 20) then 7 else if outB 1 50 lo || outB 1 50 hi then 7 else if outB 0 6 (hi - lo) then 2 else 0) else 6 := by
  rw [causeAt_get h]
  unfold fresh causeE rangeE
  dsimp only
  rw [perBad_out, outB_inB, outB_inB]
  cases isName s
  · simp
  · by_cases hm : s ∈ (l.take k).map (·.name)
    · simp only [if_pos hm]; simp
    · simp only [if_neg hm]
      by_cases hl : per.length = nf
      · cases hp : per.any (outB (-20) 20)
        · cases h1 : inB lo 1 50
          · simp [hl]
          · cases h2 : inB hi 1 50
            · simp [hl]
            · by_cases h3 : lo > hi
              · have : outB 0 6 (hi - lo) = true := by unfold outB; simp; omega
                simp [hl, this, h3]
              · by_cases h4 : hi - lo > 6
                · have : outB 0 6 (hi - lo) = true := by unfold outB; simp; omega
                  simp [hl, this, h3, h4]
                · have : outB 0 6 (hi - lo) = false := by unfold outB; simp; omega
                  simp [hl, this, h3, h4]
        · simp [hl]
      · simp [hl]
theorem measE_back {l : List Meas} {k nf : Nat} {a z : Int} (h : l[k]? = some ⟨a, z⟩) : measE nf l k = if outB 0 ((nf : Int) - 1) a then 4 else if outB 0 200000 z then 7 else 0 := by
  rw [measE_get h, outB_inB, outB_inB]

end Go.Proofs.YtkbpmcpmcmnfgaaDoor
