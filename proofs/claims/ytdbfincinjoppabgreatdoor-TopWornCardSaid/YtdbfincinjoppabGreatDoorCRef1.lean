/- A part of the proof that TopWorn always answers true. -/
import Derived.Test.YtdbfincinjoppabGreatDoorProg
import Derived.Test.YtdbfincinjoppabGreatDoorCBase
import Derived.Test.YtdbfincinjoppabGreatDoorCRegion2
set_option linter.all false
namespace Go.Proofs.YtdbfincinjoppabGreatDoor
open Go.RowKit
set_option maxHeartbeats 400000 in
theorem in1_any (n lo hi : Int) (w : World) :
  Calls Tryz.prog 42 #[.int .i64 n, .int .i64 lo, .int .i64 hi] w fun e w' => e = .returned (.bool (inB n lo hi)) ∧ w = w' := by
 go_enter Tryz.func42, Tryz.ntmps42
 go_wp2
 all_goals
  go_ret
  exact ⟨ret_bool (by simp [inB, *]; try omega), rfl⟩
set_option maxHeartbeats 400000 in
set_option maxHeartbeats 400000 in
theorem ints_any {S T : Foot} {A B : Option Addr} {n c m d : Nat} {xs ys : List Int} (w : World) (h : Ints S w A n xs) (g : Ints T w B m ys) :
  Calls Tryz.prog 25 #[.slice A n c, .slice B m d] w fun e w' => e = .returned (.bool (decide (xs = ys))) ∧ ∃ q, w' = w.drewN q := by
 have hle := h.le
 have gle := g.le
 by_cases hnm : n = m
 ·obtain rfl : n = m := hnm
  have hb : ((n : Int) != (n : Int)) = false := by simp
  go_enter Tryz.func25, Tryz.ntmps25
  go_wp2
  go_loopw [5] (fun i wr => ∃ k : Nat, k ≤ n ∧ i = .int .i64 k ∧ Hid (xs.take k = ys.take k) ∧ ∃ q, wr = w.drewN q) (fun i _ => n - (intOf i).toNat)
  case atStart => exact ⟨0, Nat.zero_le _, rfl, by simp [Hid], 0, rfl⟩
  case round =>
   obtain ⟨k, hk, rfl, Hn, q, rfl⟩ := hrel
   by_cases hlt : k < n
   ·obtain ⟨b, off, x, rfl, hcell, Hx⟩ := h.get hlt
    obtain ⟨b', off', y, rfl, hcell', Hy⟩ := g.get hlt
    by_cases hm : x = y
    ·have hmb : (x != y) = false := by simpa using hm
     have HM := Lib.hid hm
     clear hm
     go_wp2
     go_quiet (fail)
     go_wp2
     go_roundw
     case rel => exact ⟨k + 1, by omega, by go_num, by rw [Hid, take_snoc_get Hx.out, take_snoc_get Hy.out, Hn.out, HM.out], _, rfl⟩
     case measure => simp [intOf]; omega
    have hmb : (x != y) = true := by simpa using hm
    have HM := Lib.hid hm
    clear hm
    go_wp2
    go_quiet (fail)
    go_wp2
    go_ret
    refine ⟨ret_bool ?_, q + nq, by rw [World.drewN_drewN]⟩
    symm; rw [decide_eq_false_iff_not]; rintro rfl
    have h1 := Hx.out; rw [Hy.out] at h1; exact HM.out (Option.some.inj h1).symm
   go_wp2
   go_ret
   refine ⟨ret_bool ?_, _, rfl⟩
   symm; rw [decide_eq_true_iff]
   have := Hn.out
   rwa [List.take_of_length_le (by rw [h.len]; omega), List.take_of_length_le (by rw [g.len]; omega)] at this
 have hb : ((n : Int) != (m : Int)) = true := by simp; omega
 have HM := Lib.hid hnm
 clear hnm
 go_enter Tryz.func25, Tryz.ntmps25
 go_wp2
 go_ret
 exact ⟨ret_bool (by symm; rw [decide_eq_false_iff_not]; rintro rfl; exact HM.out (h.len.symm.trans g.len)), 0, rfl⟩
set_option maxHeartbeats 400000 in
theorem place_any {S : Foot} {A : Option Addr} {n c : Nat} {xs : List (List UInt8)} (s : ByteArray) (w : World) (h : Strs S w A n xs) (hs : s.size ≤ 9223372036854775807) :
  Calls Tryz.prog 77 #[.slice A n c, .string s] w fun e w' => e = .returned (.int .i64 (place xs s.data.toList)) ∧ w = w' := by
 have hle := h.le
 go_enter Tryz.func77, Tryz.ntmps77
 go_wp2
 go_loop [5] (fun i => ∃ k : Nat, k ≤ n ∧ i = .int .i64 k ∧ Hid (s.data.toList ∉ xs.take k)) (fun i => n - (intOf i).toNat)
 case atStart => exact ⟨0, Nat.zero_le _, rfl, by simp [Hid]⟩
 case round =>
  obtain ⟨k, hk, rfl, Hn⟩ := hrel
  by_cases hlt : k < n
  ·obtain ⟨b, off, x, rfl, hcell, Hx, hxs⟩ := h.get hlt
   by_cases hm : x.data.toList = s.data.toList
   ·have hmb : (x.toList == s.toList) = true := by rw [ByteArray.toList_eq, ByteArray.toList_eq]; simpa using hm
    have HM := Lib.hid hm
    clear hm
    go_wp2
    go_ret
    exact ⟨ret_int (place_found (HM.out ▸ Hx.out) Hn.out).symm, rfl⟩
   have hmb : (x.toList == s.toList) = false := by rw [ByteArray.toList_eq, ByteArray.toList_eq]; simpa using hm
   have HM := Lib.hid hm
   clear hm
   go_wp2
   go_round
   case rel => exact ⟨k + 1, by omega, by go_num, by rw [Hid, take_snoc_get Hx.out, List.mem_append, List.mem_singleton]; exact fun hc => hc.elim Hn.out (fun e => HM.out e.symm)⟩
   case measure => simp [intOf]; omega
  go_wp2
  go_ret
  exact ⟨ret_int (place_none (by have := Hn.out; rwa [List.take_of_length_le (by rw [h.len]; omega)] at this)).symm, rfl⟩
set_option maxHeartbeats 400000 in
theorem name_any (s : ByteArray) (w : World) (hs : s.size ≤ 9223372036854775807) :
    Calls Tryz.prog 76 #[.string s] w fun e w' => e = .returned (.bool (isName s.data.toList)) ∧ w = w' := by
  by_cases h1 : 1 ≤ s.size ∧ s.size ≤ 16
  · have hin : inB (s.size : Int) 1 16 = true := by simp [inB]; omega
    obtain ⟨h1, h2⟩ := h1
    have hpos : (0 : Int) < s.size := by omega
    by_cases hc : (s[0].toNat : Int) < 97 ∨ (122 : Int) < s[0].toNat
    · rcases hc with hc | hc
      all_goals
        go_enter Tryz.func76, Tryz.ntmps76
        go_wp2_with (go_at_call 42; refine (in1_any _ _ _ _).mono ?_; rintro e w' ⟨rfl, rfl⟩)
        go_ret
        exact ⟨ret_bool (name_first s h1 (by rw [← Bool.not_eq_true, letter_iff]; omega)).symm, rfl⟩
    · have hc1 : (97 : Int) ≤ s[0].toNat := by omega
      have hc2 : (s[0].toNat : Int) ≤ 122 := by omega
      clear hc
      have hl : Hid (letter s[0] = true) := (letter_iff _).2 ⟨hc1, hc2⟩
      go_enter Tryz.func76, Tryz.ntmps76
      go_wp2_with (go_at_call 42; refine (in1_any _ _ _ _).mono ?_; rintro e w' ⟨rfl, rfl⟩)
      clear hin
      go_loop [3] (fun i => ∃ k : Nat, k ≤ s.size ∧ i = .int .i64 k ∧ Hid ((s.data.toList.take k).all okByte = true)) (fun i => s.size - (intOf i).toNat)
      case atStart => exact ⟨0, Nat.zero_le _, rfl, by simp [Hid]⟩
      case round =>
        obtain ⟨k, hk, rfl, Hn⟩ := hrel
        by_cases hlt : k < s.size
        · rcases byte_cases s[k] with ⟨hok, hb | hb | hb | hb⟩ | ⟨hok, hb | hb | hb⟩
          all_goals
            have HO := Lib.hid hok
            clear hok
            go_wp2
          all_goals first
            | (go_ret
               exact ⟨ret_bool (name_no s k hlt HO.out).symm, rfl⟩)
            | (go_round
               case rel => exact ⟨k + 1, by omega, by go_num, take_all s k hlt Hn.out HO.out⟩
               case measure => simp [intOf]; omega)
        · go_wp2
          go_ret
          obtain rfl : k = s.size := by omega
          exact ⟨ret_bool (name_yes s h1 h2 hl.out Hn.out).symm, rfl⟩
  · have hin : inB (s.size : Int) 1 16 = false := by simp [inB]; omega
    go_enter Tryz.func76, Tryz.ntmps76
    go_wp2_with (go_at_call 42; refine (in1_any _ _ _ _).mono ?_; rintro e w' ⟨rfl, rfl⟩)
    go_ret
    exact ⟨ret_bool (name_long s h1).symm, rfl⟩
set_option maxHeartbeats 400000 in
theorem fresh_any {S : Foot} {A : Option Addr} {n c : Nat} {xs : List (List UInt8)} (s : ByteArray) (w : World) (h : Strs S w A n xs) (hs : s.size ≤ 9223372036854775807) :
  Calls Tryz.prog 46 #[.string s, .slice A n c] w fun e w' => e = .returned (.int .i64 (fresh s.data.toList xs)) ∧ w = w' := by
 cases hn : isName s.data.toList
 ·go_enter Tryz.func46, Tryz.ntmps46
  go_wp2_with (go_at_call 76; refine (name_any _ _ hs).mono ?_; rintro e w' ⟨rfl, rfl⟩)
  go_ret
  exact ⟨ret_int (by simp [fresh, hn]), rfl⟩
 by_cases hp : place xs s.data.toList < 0
 ·have hp2 : ¬ 0 ≤ place xs s.data.toList := by omega
  have HP := Lib.hid ((place_neg _ _).1 hp)
  go_enter Tryz.func46, Tryz.ntmps46
  go_wp2_with (first | (go_at_call 76; refine (name_any _ _ hs).mono ?_; rintro e w' ⟨rfl, rfl⟩) | (go_at_call 77; refine (place_any _ _ h hs).mono ?_; rintro e w' ⟨rfl, rfl⟩))
  go_ret
  exact ⟨ret_int (by simp [fresh, hn, HP.out]), rfl⟩
 have hp2 : 0 ≤ place xs s.data.toList := by omega
 have HP : Hid (s.data.toList ∈ xs) := Classical.byContradiction fun hc => hp ((place_neg _ _).2 hc)
 clear hp
 go_enter Tryz.func46, Tryz.ntmps46
 go_wp2_with (first | (go_at_call 76; refine (name_any _ _ hs).mono ?_; rintro e w' ⟨rfl, rfl⟩) | (go_at_call 77; refine (place_any _ _ h hs).mono ?_; rintro e w' ⟨rfl, rfl⟩))
 go_ret
 exact ⟨ret_int (by simp [fresh, hn, HP.out]), rfl⟩
open Go.RowKit
def SpanR : Rd Span := fun _ _ x vs => vs = [.int .i64 x.lo, .int .i64 x.hi]
abbrev Spans := SliceOf SpanR 2
theorem Spans.get {S : Foot} {w : World} {A : Option Addr} {n : Nat} {xs : List Span} {k : Nat} (h : Spans S w A n xs) (hk : k < n) :
  ∃ b off lo hi, A = some ⟨b, off, none⟩ ∧ w.cell? ⟨b, off + k * 2, none⟩ = some (.int .i64 lo) ∧ w.cell? ⟨b, off + k * 2 + 1, none⟩ = some (.int .i64 hi) ∧ Hid (xs[k]? = some ⟨lo, hi⟩) := by
 have hlt : k < xs.length := by rw [h.1]; exact hk
 obtain ⟨b, off, vs, hA, _, _, rfl, hc⟩ := h.2.2 k xs[k] (List.getElem?_eq_getElem hlt)
 exact ⟨b, off, xs[k].lo, xs[k].hi, hA, by simpa using hc 0 _ rfl, by simpa using hc 1 _ rfl, List.getElem?_eq_getElem hlt⟩
set_option maxHeartbeats 1000000 in
theorem spread_any {S : Foot} {A : Option Addr} {n c : Nat} {xs : List Span} (lo hi : Int) (w : World) (h : Spans S w A n xs) :
  Calls Tryz.prog 75 #[.slice A n c, .int .i64 lo, .int .i64 hi] w fun e w' => e = .returned (.int .i64 (spread xs lo hi)) ∧ ∃ q, w' = w.drewN q := by
 have hle := h.le
 go_enter Tryz.func75, Tryz.ntmps75
 go_wp2
 go_loopw [7, 8] (fun e i wr => ∃ (k : Nat) (ev : Int), k ≤ n ∧ i = .int .i64 k ∧ e = .int .i64 ev ∧ Hid (spread xs lo hi = spreadGo lo hi (xs.drop k) ev) ∧ ∃ q, wr = w.drewN q) (fun _ i _ => n - (intOf i).toNat)
 case atStart => exact ⟨0, 0, Nat.zero_le _, rfl, rfl, rfl, 0, rfl⟩
 case round =>
  obtain ⟨k, ev, hk, rfl, rfl, Hn, q, rfl⟩ := hrel
  by_cases hlt : k < n
  ·obtain ⟨b, off, a, z, rfl, hc1, hc2, Hx⟩ := h.get hlt
   have hd : Hid (xs.drop k = ⟨a, z⟩ :: xs.drop (k + 1)) := drop_cons Hx.out
   by_cases h1 : inB a lo hi = true ∧ inB z lo hi = true
   ·obtain ⟨h1, h2⟩ := h1
    by_cases h3 : a > z
    all_goals
     go_wp2_with (go_at_call 42; refine (in1_any _ _ _ _).mono ?_; rintro e w' ⟨rfl, rfl⟩)
     go_quiet (fail)
     go_wp2
     go_roundw
     case rel => exact ⟨k + 1, _, by omega, by go_num, rfl, by rw [Hid, Hn.out, hd.out, spreadGo, h1, h2]; first | (rw [if_pos (show a > z by omega)]; rfl) | (rw [if_neg (show ¬ a > z by omega)]; rfl), _, rfl⟩
     case measure => simp [intOf]; omega
   have HM := Lib.hid h1
   clear h1
   have hfin : Hid (spread xs lo hi = 7) := by rw [Hid, Hn.out, hd.out, spreadGo, if_pos (by have := HM.out; cases h : inB a lo hi <;> cases h' : inB z lo hi <;> simp_all)]
   cases h1 : inB a lo hi
   ·go_wp2_with (go_at_call 42; refine (in1_any _ _ _ _).mono ?_; rintro e w' ⟨rfl, rfl⟩)
    go_ret
    exact ⟨ret_int hfin.out.symm, _, rfl⟩
   have h2 : inB z lo hi = false := Bool.eq_false_iff.2 (fun h' => HM.out ⟨h1, h'⟩)
   go_wp2_with (go_at_call 42; refine (in1_any _ _ _ _).mono ?_; rintro e w' ⟨rfl, rfl⟩)
   go_ret
   exact ⟨ret_int hfin.out.symm, _, rfl⟩
  go_wp2
  go_ret
  exact ⟨ret_int (by rw [Hn.out, List.drop_of_length_le (by rw [h.len]; omega)]; rfl), _, rfl⟩
theorem Spans.one {S : Foot} (W : World) (a z : Int) (t : TypeId) {g : Nat} (hg : g = W.heap.size) (hS : S g) : Spans S (W.alloc (.cells #[.int .i64 a, .int .i64 z] t)) (some ⟨g, 0, none⟩) 1 [⟨a, z⟩] := by
 subst hg
 refine ⟨rfl, by decide, fun k x hx => ?_⟩
 cases k with
 | zero =>
  simp at hx; subst hx
  refine ⟨_, 0, _, rfl, hS, by simp, rfl, fun j v hv => ?_⟩
  have := cell_of_row (W.alloc (.cells #[.int .i64 a, .int .i64 z] t)) W.heap.size j _ t (0, 0) (heap_alloc_new W _)
  rw [show 0 + 0 * 2 + j = j by omega, this]
  simpa using hv
 | succ k => simp at hx
theorem rangeE_eq (a z lo hi : Int) : spread [⟨a, z⟩] lo hi = rangeE ⟨a, z⟩ lo hi := by
 simp only [spread, spreadGo, rangeE]
set_option maxHeartbeats 400000 in
theorem range_any (a z lo hi : Int) (w : World) :
  Calls Tryz.prog 45 #[.agg #[.int .i64 a, .int .i64 z], .int .i64 lo, .int .i64 hi] w fun e w' => e = .returned (.int .i64 (rangeE ⟨a, z⟩ lo hi)) ∧ Below w.heap.size w w' := by
 go_enter Tryz.func45, Tryz.ntmps45
 go_wp2_with (fail)
 refine (spread_any (S := fun _ => True) (xs := [⟨a, z⟩]) _ _ _ (Spans.one _ a z _ (by simp) trivial)).mono ?_
 rintro e w' ⟨rfl, q, rfl⟩
 go_wp2
 go_ret
 exact ⟨ret_int (rangeE_eq _ _ _ _), (((Below.refl _ _).alloc (Nat.le_refl _) _).alloc (by simp) _).trans (below_drewN (Below.refl _ _) _)⟩
theorem beq45 {x : Int} (h : (x != 45) = true) : (x == 45) = false := by simpa using h
theorem beq45' {x : Int} (h : (x != 45) = false) : (x == 45) = true := by simpa using h
theorem next_round (w : World) (s : ByteArray) (k : Nat) (hlt : k < s.size) :
  ∃ c adv : Nat, (∀ (P : Program) (ty : TypeId), (Instr.next (.pointer (some ⟨w.heap.size, 0, none⟩)) true ty).run P (w.iter s k) = .ok (.tuple #[.bool true, .int .i64 k, .int .i32 c]) (w.iter s (k + adv))) ∧
   ((128 ≤ c ∧ okByte s[k] = false ∧ letter s[k] = false) ∨ (c = s[k].toNat ∧ adv = 1)) := by
 by_cases ha : (s[k]'hlt).toNat < 128
 ·exact ⟨s[k].toNat, 1, fun P ty => run_next_ascii w s k ty hlt ha, .inr ⟨rfl, rfl⟩⟩
 exact ⟨_, _, fun P ty => run_next_any w s k ty hlt, .inl ⟨(decode_high s k hlt (by omega)).1, okByte_false _ (by omega), by rw [← Bool.not_eq_true, letter_iff]; omega⟩⟩
set_option maxHeartbeats 2000000 in
theorem sheetName_any (s : ByteArray) (w : World) (hs : s.size ≤ 9223372036854775807) :
    Calls Tryz.prog 101 #[.string s] w fun e w' => e = .returned (.bool (isName s.data.toList)) ∧ Below w.heap.size w w' := by
  go_enter Tryz.func101, Tryz.ntmps101
  go_wp2
  go_loopw [3, 4] (fun _ _ w' => ∃ k : Nat, w' = w.iter s k ∧ k ≤ s.size ∧ Hid ((s.data.toList.take k).all okByte = true) ∧ Hid (∀ h : 0 < s.size, 0 < k → letter s[0] = true)) (fun _ _ w' => s.size - w'.iterPos w.heap.size)
  case atStart => exact ⟨0, rfl, Nat.zero_le _, by simp [Hid], fun _ h => absurd h (by omega)⟩
  case round =>
    obtain ⟨k, rfl, hk, Hn, Hl⟩ := hrel
    by_cases hlt : k < s.size
    · obtain ⟨c, adv, hnx', hc⟩ := next_round w s k hlt
      have hnx := hnx' Tryz.prog
      clear hnx'
      rcases hc with ⟨hc, hok, hlet⟩ | ⟨rfl, rfl⟩
      · have hcI : (128 : Int) ≤ c := by omega
        have hne : ((c : Int) == 45) = false := by simp; omega
        have HO := Lib.hid hok
        have HL := Lib.hid hlet
        clear hok hlet hc
        first | have d1 : decide ((97 : Int) ≤ c) = true := decide_eq_true (by omega) | have d1 : decide ((97 : Int) ≤ c) = false := decide_eq_false (by omega)
        first | have d2 : decide ((c : Int) ≤ 122) = true := decide_eq_true (by omega) | have d2 : decide ((c : Int) ≤ 122) = false := decide_eq_false (by omega)
        first | have d3 : decide ((48 : Int) ≤ c) = true := decide_eq_true (by omega) | have d3 : decide ((48 : Int) ≤ c) = false := decide_eq_false (by omega)
        first | have d4 : decide ((c : Int) ≤ 57) = true := decide_eq_true (by omega) | have d4 : decide ((c : Int) ≤ 57) = false := decide_eq_false (by omega)
        by_cases hk0 : 0 < k
        all_goals
          go_wp2
          go_ret
          exact ⟨ret_bool (name_no s k hlt HO.out).symm, (Below.refl _ _).alloc (Nat.le_refl _) _⟩
      · by_cases hk0 : 0 < k
        · rcases byte_cases s[k] with ⟨hok, hb | hb | hb | hb⟩ | ⟨hok, hb | hb | hb⟩
          all_goals
            have HO := Lib.hid hok
            clear hok
            try have h45 := beq45 hb.2
            try have h45 := beq45 hb.2.2
            try have h45 := beq45' hb.2.2
            first | have d1 : decide ((97 : Int) ≤ s[k].toNat) = true := decide_eq_true (by omega) | have d1 : decide ((97 : Int) ≤ s[k].toNat) = false := decide_eq_false (by omega)
            first | have d2 : decide ((s[k].toNat : Int) ≤ 122) = true := decide_eq_true (by omega) | have d2 : decide ((s[k].toNat : Int) ≤ 122) = false := decide_eq_false (by omega)
            first | have d3 : decide ((48 : Int) ≤ s[k].toNat) = true := decide_eq_true (by omega) | have d3 : decide ((48 : Int) ≤ s[k].toNat) = false := decide_eq_false (by omega)
            first | have d4 : decide ((s[k].toNat : Int) ≤ 57) = true := decide_eq_true (by omega) | have d4 : decide ((s[k].toNat : Int) ≤ 57) = false := decide_eq_false (by omega)
            go_wp2
          all_goals first
            | (go_ret
               exact ⟨ret_bool (name_no s k hlt HO.out).symm, (Below.refl _ _).alloc (Nat.le_refl _) _⟩)
            | (go_roundw
               case rel => exact ⟨k + 1, rfl, by omega, take_all s k hlt Hn.out HO.out, fun h _ => Hl.out h (by omega)⟩
               case measure => simp; omega)
        · by_cases hc : (97 : Int) ≤ s[k].toNat ∧ (s[k].toNat : Int) ≤ 122
          · have HO : Hid (letter s[k] = true) := (letter_iff _).2 hc
            have HO2 : Hid (okByte s[k] = true) := (okByte_iff _).2 (.inl hc)
            obtain ⟨hc1, hc2⟩ := hc
            first | have d1 : decide ((97 : Int) ≤ s[k].toNat) = true := decide_eq_true (by omega) | have d1 : decide ((97 : Int) ≤ s[k].toNat) = false := decide_eq_false (by omega)
            first | have d2 : decide ((s[k].toNat : Int) ≤ 122) = true := decide_eq_true (by omega) | have d2 : decide ((s[k].toNat : Int) ≤ 122) = false := decide_eq_false (by omega)
            first | have d3 : decide ((48 : Int) ≤ s[k].toNat) = true := decide_eq_true (by omega) | have d3 : decide ((48 : Int) ≤ s[k].toNat) = false := decide_eq_false (by omega)
            first | have d4 : decide ((s[k].toNat : Int) ≤ 57) = true := decide_eq_true (by omega) | have d4 : decide ((s[k].toNat : Int) ≤ 57) = false := decide_eq_false (by omega)
            go_wp2
            go_roundw
            case rel =>
              refine ⟨k + 1, rfl, by omega, take_all s k hlt Hn.out HO2.out, fun h _ => ?_⟩
              obtain rfl : k = 0 := by omega
              exact HO.out
            case measure => simp; omega
          · have HO : Hid (letter s[k] = false) := by rw [Hid, ← Bool.not_eq_true, letter_iff]; exact hc
            have hc3 : (s[k].toNat : Int) < 97 ∨ (122 : Int) < s[k].toNat := by omega
            clear hc
            rcases hc3 with hc | hc
            all_goals
              first | have d1 : decide ((97 : Int) ≤ s[k].toNat) = true := decide_eq_true (by omega) | have d1 : decide ((97 : Int) ≤ s[k].toNat) = false := decide_eq_false (by omega)
              try first | have d2 : decide ((s[k].toNat : Int) ≤ 122) = true := decide_eq_true (by omega) | have d2 : decide ((s[k].toNat : Int) ≤ 122) = false := decide_eq_false (by omega)
              try first | have d3 : decide ((48 : Int) ≤ s[k].toNat) = true := decide_eq_true (by omega) | have d3 : decide ((48 : Int) ≤ s[k].toNat) = false := decide_eq_false (by omega)
              try first | have d4 : decide ((s[k].toNat : Int) ≤ 57) = true := decide_eq_true (by omega) | have d4 : decide ((s[k].toNat : Int) ≤ 57) = false := decide_eq_false (by omega)
              go_wp2
              go_ret
              refine ⟨ret_bool ?_, (Below.refl _ _).alloc (Nat.le_refl _) _⟩
              obtain rfl : k = 0 := by omega
              exact (name_first s hlt HO.out).symm
    · obtain rfl : k = s.size := by omega
      have hnx : ∀ ty, (Instr.next (.pointer (some ⟨w.heap.size, 0, none⟩)) true ty).run Tryz.prog (w.iter s s.size) = _ := fun ty => run_next_end w s s.size ty hlt
      have hlt2 : ¬ (s.size : Int) < s.size := by omega
      by_cases h0 : s.size = 0
      · have he : s.toList.isEmpty = true := by rw [ByteArray.toList_eq, List.isEmpty_iff]; apply List.eq_nil_of_length_eq_zero; simpa using h0
        have HF : Hid (isName s.data.toList = false) := name_long s (by omega)
        clear h0
        go_wp2
        go_ret
        exact ⟨ret_bool HF.out.symm, (Below.refl _ _).alloc (Nat.le_refl _) _⟩
      · have he : (s.toList.isEmpty) = false := by rw [ByteArray.toList_eq, ← Bool.not_eq_true, List.isEmpty_iff]; intro h; apply h0; simpa using congrArg List.length h
        by_cases h16 : s.size ≤ 16
        · have HF : Hid (isName s.data.toList = true) := name_yes s (by omega) h16 (Hl.out (by omega) (by omega)) Hn.out
          have d1 : decide ((s.size : Int) ≤ 16) = true := decide_eq_true (by omega)
          go_wp2
          go_ret
          exact ⟨ret_bool HF.out.symm, (Below.refl _ _).alloc (Nat.le_refl _) _⟩
        · have HF : Hid (isName s.data.toList = false) := name_long s (by omega)
          have d1 : decide ((s.size : Int) ≤ 16) = false := decide_eq_false (by omega)
          go_wp2
          go_ret
          exact ⟨ret_bool HF.out.symm, (Below.refl _ _).alloc (Nat.le_refl _) _⟩
end Go.Proofs.YtdbfincinjoppabGreatDoor
