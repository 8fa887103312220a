/- Walks: the laws' own small functions. -/
import Derived.Test.YtkbpmcpmcmnfgaaDoorCRefB10
set_option linter.unusedVariables false
set_option linter.unusedSimpArgs false
set_option linter.all false
namespace Go.Proofs.YtkbpmcpmcmnfgaaDoor
open Go.RowKit

theorem lawpart_any {S T : Foot} {A B : Option Addr} {n c m d : Nat} {xs ys : List Int} (w : World) (h : Ints S w A n xs) (g : Ints T w B m ys) :
    Calls Tryd.prog 41 #[.slice A n c, .slice B m d] w fun e w' => e = .returned (.bool (partL xs ys)) ∧ w = w' := by
  have hle := h.le
  go_enter Tryd.func41, Tryd.ntmps41
  go_wp2
  go_loop [5] (fun i => ∃ k : Nat, k ≤ n ∧ i = .int .i64 k ∧ Hid (partL (xs.take k) ys = true)) (fun i => n - (intOf i).toNat)
  case atStart => exact ⟨0, Nat.zero_le _, rfl, rfl⟩
  case round =>
    obtain ⟨k, hk, rfl, Hn⟩ := hrel
    by_cases hlt : k < n
    · obtain ⟨b, off, x, rfl, hcell, Hx⟩ := h.get hlt
      by_cases hm : x ∈ ys
      · have HM := Lib.hid hm
        have hmb := decide_eq_true hm
        clear hm
        go_wp2_with (go_at_call 46; refine (has_any _ _ g).mono ?_; rintro e w' ⟨rfl, rfl⟩)
        go_round
        case rel => exact ⟨k + 1, by omega, by go_num, by rw [Hid, take_snoc_get Hx.out, partL, List.all_append, ← partL, Hn.out]; simp [HM.out]⟩
        case measure => simp [intOf]; omega
      · have HM := Lib.hid hm
        have hmb := decide_eq_false hm
        clear hm
        go_wp2_with (go_at_call 46; refine (has_any _ _ g).mono ?_; rintro e w' ⟨rfl, rfl⟩)
        go_ret
        refine ⟨ret_bool ?_, rfl⟩
        symm; rw [← Bool.not_eq_true, partL, List.all_eq_true]
        intro hall
        have := hall x (List.mem_of_getElem? Hx.out)
        exact HM.out (of_decide_eq_true this)
    · go_wp2
      go_ret
      exact ⟨ret_bool (by have := Hn.out; rw [List.take_of_length_le (by rw [h.len]; omega)] at this; exact this.symm), rfl⟩

theorem ret_span1 {fn : Func} {p : Tmp} (h : fn.results = #[.cell p 44]) {tmps : Array Value} {g : Nat} {lo hi : Int} {w : World} (hp : tmps.getD p undef = .pointer (some ⟨g, 0, none⟩))
    (h0 : w.cell? ⟨g, 0, none⟩ = some (.int .i64 lo)) (h1 : w.cell? ⟨g, 1, none⟩ = some (.int .i64 hi)) : (results fn tmps).run Tryd.prog w = .ok (.agg #[.int .i64 lo, .int .i64 hi]) w := by
  have hp' : tmps[p]?.getD undef = .pointer (some ⟨g, 0, none⟩) := by simpa using hp
  simp [results, h, hp', asAddr, go_sem, h0, h1]

theorem ret_claim1 {fn : Func} {p : Tmp} (h : fn.results = #[.cell p 26]) {tmps : Array Value} {g : Nat} {a b c : Value} {w : World} (hp : tmps.getD p undef = .pointer (some ⟨g, 0, none⟩))
    (h0 : w.cell? ⟨g, 0, none⟩ = some a) (h1 : w.cell? ⟨g, 1, none⟩ = some b) (h2 : w.cell? ⟨g, 2, none⟩ = some c) : (results fn tmps).run Tryd.prog w = .ok (.agg #[a, b, c]) w := by
  have hp' : tmps[p]?.getD undef = .pointer (some ⟨g, 0, none⟩) := by simpa using hp
  simp [results, h, hp', asAddr, go_sem, h0, h1, h2]

set_option maxHeartbeats 400000 in
theorem span_any (lo hi : Int) (w : World) :
    Calls Tryd.prog 36 #[.int .i64 lo, .int .i64 hi] w fun e w' => e = .returned (.agg #[.int .i64 lo, .int .i64 hi]) ∧ Below w.heap.size w w' := by
  go_enter Tryd.func36, Tryd.ntmps36
  have hr : Blk (w.alloc (.cells #[.int .i64 lo, .int .i64 hi] 44)) w.heap.size 44 #[.int .i64 lo, .int .i64 hi] := Blk.new _ _ _ rfl
  go_wp2
  exact bodyPost_ret (ret_span1 rfl rfl hr.c0 hr.c1) rfl ⟨rfl, bl_alloc (Below.refl _ _) _ (Nat.le_refl _)⟩

set_option maxHeartbeats 400000 in
theorem valid_any {A B C : Option Addr} {n ca m cb q cc : Nat} {c : Claim} (w : World) (h : ClaimAt (fun _ => True) w A n B m C q c) :
    Calls Tryd.prog 37 #[.agg #[.slice A n ca, .slice B m cb, .slice C q cc]] w fun e w' => e = .returned (.bool ((check c).2.2 == 0)) ∧ Below w.heap.size w w' := by
  go_enter Tryd.func37, Tryd.ntmps37
  go_wp2_with (go_at_call 16; refine (check12_any _ (h.keep (Keeps.alloc _ _))).mono ?_; rintro e w1 ⟨rfl, hb1⟩)
  go_ret
  exact ⟨rfl, bl_call (bl_alloc (Below.refl _ _) _ (Nat.le_refl _)) hb1 (Nat.le_refl _)⟩

/-- a byte -/
def U8R : Rd Int := fun _ _ x vs => vs = [.int .u8 x] ∧ 0 ≤ x ∧ x < 256
theorem U8R.good : U8R.Good 1 where
  len := by rintro S w x vs ⟨rfl, _⟩; rfl
  one := by rintro S w x vs ⟨rfl, _⟩ v hv; simp at hv; subst hv; rfl
  keep := by rintro S w w' x vs ⟨rfl, h⟩ hk; exact ⟨rfl, h⟩
  mono := by rintro S T w x vs ⟨rfl, h⟩ hk; exact ⟨rfl, h⟩
  bound := by rintro S w x vs ⟨rfl, h⟩; exact ⟨rfl, h⟩
abbrev Bytes := SliceOf U8R 1
theorem Bytes.get {S : Foot} {w : World} {A : Option Addr} {n : Nat} {xs : List Int} {k : Nat} (h : Bytes S w A n xs) (hk : k < n) :
    ∃ b off x, A = some ⟨b, off, none⟩ ∧ w.cell? ⟨b, off + k, none⟩ = some (.int .u8 x) ∧ 0 ≤ x ∧ x < 256 ∧ Hid (xs[k]? = some x) := by
  have hlt : k < xs.length := by rw [h.1]; exact hk
  obtain ⟨b, off, vs, hA, _, _, ⟨rfl, hx⟩, hc⟩ := h.2.2 k xs[k] (List.getElem?_eq_getElem hlt)
  exact ⟨b, off, xs[k], hA, by simpa using hc 0 _ rfl, hx.1, hx.2, List.getElem?_eq_getElem hlt⟩

def turnR (l : List Int) (n : Nat) : Int := l.getD (n % l.length) 0
theorem turn_rem (n m : Nat) : Int.tmod (n : Int) (m : Int) = ((n % m : Nat) : Int) := rfl

set_option maxHeartbeats 400000 in
theorem turn_any {S : Foot} {A : Option Addr} {n c : Nat} {l : List Int} (i : Nat) (w : World) (h : Bytes S w A n l) (hi : (i : Int) < 9223372036854775808) :
    Calls Tryd.prog 49 #[.slice A n c, .int .i64 i] w fun e w' => e = .returned (.int .i64 (turnR l i)) ∧ w = w' := by
  have hle := h.le
  have Hn := Lib.hid h.len
  by_cases h0 : n = 0
  · subst h0
    have : l = [] := List.eq_nil_of_length_eq_zero Hn.out
    subst this
    go_enter Tryd.func49, Tryd.ntmps49
    go_wp2
    go_ret
    exact ⟨rfl, rfl⟩
  · have hpos : 0 < n := by omega
    have hlt : i % n < n := Nat.mod_lt _ hpos
    have hlti : ((i % n : Nat) : Int) < n := by omega
    have Hr := Lib.hid (turn_rem i n)
    have hne : ((n : Int) == 0) = false := by simpa using h0
    obtain ⟨b, off, x, rfl, hcell, hx0, hx1, Hx⟩ := h.get hlt
    generalize hj : i % n = j at *
    go_enter Tryd.func49, Tryd.ntmps49
    go_wp2
    go_ret
    exact ⟨by rw [turnR, Hn.out, hj, List.getD_eq_getElem?_getD, Hx.out]; rfl, rfl⟩

end Go.Proofs.YtkbpmcpmcmnfgaaDoor
