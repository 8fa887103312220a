/- A part of the proof that TopMeasured always answers true. -/
import Derived.Laws.OwnMore
import Derived.Laws.Rows
import Derived.Deep.AppendLies
import Derived.Deep.RegionHeld3
import Derived.Test.YtcnebekkbfajbaaGreatCBase
set_option linter.all false
namespace Go.Proofs.YtcnebekkbfajbaaGreat
open Go.RowKit
def SpanR : Rd Span := fun _ _ x vs => vs = [.int .i64 x.lo, .int .i64 x.hi]
abbrev Spans := SliceOf SpanR 2
theorem Spans.get {S : Foot} {w : World} {A : Option Addr} {n : Nat} {xs : List Span} {k : Nat} (h : Spans S w A n xs) (hk : k < n) :
  ∃ b off lo hi, A = some ⟨b, off, none⟩ ∧ w.cell? ⟨b, off + k * 2, none⟩ = some (.int .i64 lo) ∧ w.cell? ⟨b, off + k * 2 + 1, none⟩ = some (.int .i64 hi) ∧ Hid (xs[k]? = some ⟨lo, hi⟩) := by
 have hlt : k < xs.length := by rw [h.1]; exact hk
 obtain ⟨b, off, vs, hA, _, _, rfl, hc⟩ := h.2.2 k xs[k] (List.getElem?_eq_getElem hlt)
 exact ⟨b, off, xs[k].lo, xs[k].hi, hA, by simpa using hc 0 _ rfl, by simpa using hc 1 _ rfl, List.getElem?_eq_getElem hlt⟩
set_option maxHeartbeats 1000000 in
theorem spread_any {S : Foot} {A : Option Addr} {n c : Nat} {xs : List Span} (lo hi : Int) (w : World) (h : Spans S w A n xs) :
  Calls Tryz.prog 87 #[.slice A n c, .int .i64 lo, .int .i64 hi] w fun e w' => e = .returned (.int .i64 (spread xs lo hi)) ∧ ∃ q, w' = w.drewN q := by
 have hle := h.le
 go_enter Tryz.func87, Tryz.ntmps87
 go_wp2
 go_loopw [7, 8] (fun e i wr => ∃ (k : Nat) (ev : Int), k ≤ n ∧ i = .int .i64 k ∧ e = .int .i64 ev ∧ Hid (spread xs lo hi = spreadGo lo hi (xs.drop k) ev) ∧ ∃ q, wr = w.drewN q) (fun _ i _ => n - (intOf i).toNat)
 case atStart => exact ⟨0, 0, Nat.zero_le _, rfl, rfl, rfl, 0, rfl⟩
 case round =>
  obtain ⟨k, ev, hk, rfl, rfl, Hn, q, rfl⟩ := hrel
  by_cases hlt : k < n
  ·obtain ⟨b, off, a, z, rfl, hc1, hc2, Hx⟩ := h.get hlt
   have hd : Hid (xs.drop k = ⟨a, z⟩ :: xs.drop (k + 1)) := drop_cons Hx.out
   by_cases h1 : inB a lo hi = true ∧ inB z lo hi = true
   ·obtain ⟨h1, h2⟩ := h1
    by_cases h3 : a > z
    all_goals
     go_wp2_with (go_at_call 117; refine (in1_any _ _ _ _).mono ?_; rintro e w' ⟨rfl, rfl⟩)
     go_quiet (fail)
     go_wp2
     go_roundw
     case rel => exact ⟨k + 1, _, by omega, by go_num, rfl, by rw [Hid, Hn.out, hd.out, spreadGo, h1, h2]; first | (rw [if_pos (show a > z by omega)]; rfl) | (rw [if_neg (show ¬ a > z by omega)]; rfl), _, rfl⟩
     case measure => simp [intOf]; omega
   have HM := Lib.hid h1
   clear h1
   have hfin : Hid (spread xs lo hi = 7) := by rw [Hid, Hn.out, hd.out, spreadGo, if_pos (by have := HM.out; cases h : inB a lo hi <;> cases h' : inB z lo hi <;> simp_all)]
   cases h1 : inB a lo hi
   ·go_wp2_with (go_at_call 117; refine (in1_any _ _ _ _).mono ?_; rintro e w' ⟨rfl, rfl⟩)
    go_ret
    exact ⟨ret_int hfin.out.symm, _, rfl⟩
   have h2 : inB z lo hi = false := Bool.eq_false_iff.2 (fun h' => HM.out ⟨h1, h'⟩)
   go_wp2_with (go_at_call 117; refine (in1_any _ _ _ _).mono ?_; rintro e w' ⟨rfl, rfl⟩)
   go_ret
   exact ⟨ret_int hfin.out.symm, _, rfl⟩
  go_wp2
  go_ret
  exact ⟨ret_int (by rw [Hn.out, List.drop_of_length_le (by rw [h.len]; omega)]; rfl), _, rfl⟩
theorem Spans.one {S : Foot} (W : World) (a z : Int) (t : TypeId) {g : Nat} (hg : g = W.heap.size) (hS : S g) : Spans S (W.alloc (.cells #[.int .i64 a, .int .i64 z] t)) (some ⟨g, 0, none⟩) 1 [⟨a, z⟩] := by
 subst hg
 refine ⟨rfl, by decide, fun k x hx => ?_⟩
 cases k with
 | zero =>
  simp at hx; subst hx
  refine ⟨_, 0, _, rfl, hS, by simp, rfl, fun j v hv => ?_⟩
  have := cell_of_row (W.alloc (.cells #[.int .i64 a, .int .i64 z] t)) W.heap.size j _ t (0, 0) (heap_alloc_new W _)
  rw [show 0 + 0 * 2 + j = j by omega, this]
  simpa using hv
 | succ k => simp at hx
theorem rangeE_eq (a z lo hi : Int) : spread [⟨a, z⟩] lo hi = rangeE ⟨a, z⟩ lo hi := by
 simp only [spread, spreadGo, rangeE]
set_option maxHeartbeats 400000 in
theorem range_any (a z lo hi : Int) (w : World) :
  Calls Tryz.prog 55 #[.agg #[.int .i64 a, .int .i64 z], .int .i64 lo, .int .i64 hi] w fun e w' => e = .returned (.int .i64 (rangeE ⟨a, z⟩ lo hi)) ∧ Below w.heap.size w w' := by
 go_enter Tryz.func55, Tryz.ntmps55
 go_wp2_with (fail)
 refine (spread_any (S := fun _ => True) (xs := [⟨a, z⟩]) _ _ _ (Spans.one _ a z _ (by simp) trivial)).mono ?_
 rintro e w' ⟨rfl, q, rfl⟩
 go_wp2
 go_ret
 exact ⟨ret_int (rangeE_eq _ _ _ _), (((Below.refl _ _).alloc (Nat.le_refl _) _).alloc (by simp) _).trans (below_drewN (Below.refl _ _) _)⟩
theorem beq45 {x : Int} (h : (x != 45) = true) : (x == 45) = false := by simpa using h
theorem beq45' {x : Int} (h : (x != 45) = false) : (x == 45) = true := by simpa using h
theorem next_round (w : World) (s : ByteArray) (k : Nat) (hlt : k < s.size) :
  ∃ c adv : Nat, (∀ (P : Program) (ty : TypeId), (Instr.next (.pointer (some ⟨w.heap.size, 0, none⟩)) true ty).run P (w.iter s k) = .ok (.tuple #[.bool true, .int .i64 k, .int .i32 c]) (w.iter s (k + adv))) ∧
   ((128 ≤ c ∧ okByte s[k] = false ∧ letter s[k] = false) ∨ (c = s[k].toNat ∧ adv = 1)) := by
 by_cases ha : (s[k]'hlt).toNat < 128
 ·exact ⟨s[k].toNat, 1, fun P ty => run_next_ascii w s k ty hlt ha, .inr ⟨rfl, rfl⟩⟩
 exact ⟨_, _, fun P ty => run_next_any w s k ty hlt, .inl ⟨(decode_high s k hlt (by omega)).1, okByte_false _ (by omega), by rw [← Bool.not_eq_true, letter_iff]; omega⟩⟩
set_option maxHeartbeats 2000000 in
theorem sheetName_any (s : ByteArray) (w : World) (hs : s.size ≤ 9223372036854775807) :
    Calls Tryz.prog 139 #[.string s] w fun e w' => e = .returned (.bool (isName s.data.toList)) ∧ Below w.heap.size w w' := by
  go_enter Tryz.func139, Tryz.ntmps139
  go_wp2
  go_loopw [3, 4] (fun _ _ w' => ∃ k : Nat, w' = w.iter s k ∧ k ≤ s.size ∧ Hid ((s.data.toList.take k).all okByte = true) ∧ Hid (∀ h : 0 < s.size, 0 < k → letter s[0] = true)) (fun _ _ w' => s.size - w'.iterPos w.heap.size)
  case atStart => exact ⟨0, rfl, Nat.zero_le _, by simp [Hid], fun _ h => absurd h (by omega)⟩
  case round =>
    obtain ⟨k, rfl, hk, Hn, Hl⟩ := hrel
    by_cases hlt : k < s.size
    · obtain ⟨c, adv, hnx', hc⟩ := next_round w s k hlt
      have hnx := hnx' Tryz.prog
      clear hnx'
      rcases hc with ⟨hc, hok, hlet⟩ | ⟨rfl, rfl⟩
      · have hcI : (128 : Int) ≤ c := by omega
        have hne : ((c : Int) == 45) = false := by simp; omega
        have HO := Lib.hid hok
        have HL := Lib.hid hlet
        clear hok hlet hc
        first | have d1 : decide ((97 : Int) ≤ c) = true := decide_eq_true (by omega) | have d1 : decide ((97 : Int) ≤ c) = false := decide_eq_false (by omega)
        first | have d2 : decide ((c : Int) ≤ 122) = true := decide_eq_true (by omega) | have d2 : decide ((c : Int) ≤ 122) = false := decide_eq_false (by omega)
        first | have d3 : decide ((48 : Int) ≤ c) = true := decide_eq_true (by omega) | have d3 : decide ((48 : Int) ≤ c) = false := decide_eq_false (by omega)
        first | have d4 : decide ((c : Int) ≤ 57) = true := decide_eq_true (by omega) | have d4 : decide ((c : Int) ≤ 57) = false := decide_eq_false (by omega)
        by_cases hk0 : 0 < k
        all_goals
          go_wp2
          go_ret
          exact ⟨ret_bool (name_no s k hlt HO.out).symm, (Below.refl _ _).alloc (Nat.le_refl _) _⟩
      · by_cases hk0 : 0 < k
        · rcases byte_cases s[k] with ⟨hok, hb | hb | hb | hb⟩ | ⟨hok, hb | hb | hb⟩
          all_goals
            have HO := Lib.hid hok
            clear hok
            try have h45 := beq45 hb.2
            try have h45 := beq45 hb.2.2
            try have h45 := beq45' hb.2.2
            first | have d1 : decide ((97 : Int) ≤ s[k].toNat) = true := decide_eq_true (by omega) | have d1 : decide ((97 : Int) ≤ s[k].toNat) = false := decide_eq_false (by omega)
            first | have d2 : decide ((s[k].toNat : Int) ≤ 122) = true := decide_eq_true (by omega) | have d2 : decide ((s[k].toNat : Int) ≤ 122) = false := decide_eq_false (by omega)
            first | have d3 : decide ((48 : Int) ≤ s[k].toNat) = true := decide_eq_true (by omega) | have d3 : decide ((48 : Int) ≤ s[k].toNat) = false := decide_eq_false (by omega)
            first | have d4 : decide ((s[k].toNat : Int) ≤ 57) = true := decide_eq_true (by omega) | have d4 : decide ((s[k].toNat : Int) ≤ 57) = false := decide_eq_false (by omega)
            go_wp2
          all_goals first
            | (go_ret
               exact ⟨ret_bool (name_no s k hlt HO.out).symm, (Below.refl _ _).alloc (Nat.le_refl _) _⟩)
            | (go_roundw
               case rel => exact ⟨k + 1, rfl, by omega, take_all s k hlt Hn.out HO.out, fun h _ => Hl.out h (by omega)⟩
               case measure => simp; omega)
        · by_cases hc : (97 : Int) ≤ s[k].toNat ∧ (s[k].toNat : Int) ≤ 122
          · have HO : Hid (letter s[k] = true) := (letter_iff _).2 hc
            have HO2 : Hid (okByte s[k] = true) := (okByte_iff _).2 (.inl hc)
            obtain ⟨hc1, hc2⟩ := hc
            first | have d1 : decide ((97 : Int) ≤ s[k].toNat) = true := decide_eq_true (by omega) | have d1 : decide ((97 : Int) ≤ s[k].toNat) = false := decide_eq_false (by omega)
            first | have d2 : decide ((s[k].toNat : Int) ≤ 122) = true := decide_eq_true (by omega) | have d2 : decide ((s[k].toNat : Int) ≤ 122) = false := decide_eq_false (by omega)
            first | have d3 : decide ((48 : Int) ≤ s[k].toNat) = true := decide_eq_true (by omega) | have d3 : decide ((48 : Int) ≤ s[k].toNat) = false := decide_eq_false (by omega)
            first | have d4 : decide ((s[k].toNat : Int) ≤ 57) = true := decide_eq_true (by omega) | have d4 : decide ((s[k].toNat : Int) ≤ 57) = false := decide_eq_false (by omega)
            go_wp2
            go_roundw
            case rel =>
              refine ⟨k + 1, rfl, by omega, take_all s k hlt Hn.out HO2.out, fun h _ => ?_⟩
              obtain rfl : k = 0 := by omega
              exact HO.out
            case measure => simp; omega
          · have HO : Hid (letter s[k] = false) := by rw [Hid, ← Bool.not_eq_true, letter_iff]; exact hc
            have hc3 : (s[k].toNat : Int) < 97 ∨ (122 : Int) < s[k].toNat := by omega
            clear hc
            rcases hc3 with hc | hc
            all_goals
              first | have d1 : decide ((97 : Int) ≤ s[k].toNat) = true := decide_eq_true (by omega) | have d1 : decide ((97 : Int) ≤ s[k].toNat) = false := decide_eq_false (by omega)
              try first | have d2 : decide ((s[k].toNat : Int) ≤ 122) = true := decide_eq_true (by omega) | have d2 : decide ((s[k].toNat : Int) ≤ 122) = false := decide_eq_false (by omega)
              try first | have d3 : decide ((48 : Int) ≤ s[k].toNat) = true := decide_eq_true (by omega) | have d3 : decide ((48 : Int) ≤ s[k].toNat) = false := decide_eq_false (by omega)
              try first | have d4 : decide ((s[k].toNat : Int) ≤ 57) = true := decide_eq_true (by omega) | have d4 : decide ((s[k].toNat : Int) ≤ 57) = false := decide_eq_false (by omega)
              go_wp2
              go_ret
              refine ⟨ret_bool ?_, (Below.refl _ _).alloc (Nat.le_refl _) _⟩
              obtain rfl : k = 0 := by omega
              exact (name_first s hlt HO.out).symm
    · obtain rfl : k = s.size := by omega
      have hnx : ∀ ty, (Instr.next (.pointer (some ⟨w.heap.size, 0, none⟩)) true ty).run Tryz.prog (w.iter s s.size) = _ := fun ty => run_next_end w s s.size ty hlt
      have hlt2 : ¬ (s.size : Int) < s.size := by omega
      by_cases h0 : s.size = 0
      · have he : s.toList.isEmpty = true := by rw [ByteArray.toList_eq, List.isEmpty_iff]; apply List.eq_nil_of_length_eq_zero; simpa using h0
        have HF : Hid (isName s.data.toList = false) := name_long s (by omega)
        clear h0
        go_wp2
        go_ret
        exact ⟨ret_bool HF.out.symm, (Below.refl _ _).alloc (Nat.le_refl _) _⟩
      · have he : (s.toList.isEmpty) = false := by rw [ByteArray.toList_eq, ← Bool.not_eq_true, List.isEmpty_iff]; intro h; apply h0; simpa using congrArg List.length h
        by_cases h16 : s.size ≤ 16
        · have HF : Hid (isName s.data.toList = true) := name_yes s (by omega) h16 (Hl.out (by omega) (by omega)) Hn.out
          have d1 : decide ((s.size : Int) ≤ 16) = true := decide_eq_true (by omega)
          go_wp2
          go_ret
          exact ⟨ret_bool HF.out.symm, (Below.refl _ _).alloc (Nat.le_refl _) _⟩
        · have HF : Hid (isName s.data.toList = false) := name_long s (by omega)
          have d1 : decide ((s.size : Int) ≤ 16) = false := decide_eq_false (by omega)
          go_wp2
          go_ret
          exact ⟨ret_bool HF.out.symm, (Below.refl _ _).alloc (Nat.le_refl _) _⟩
open Go.RowKit
theorem OwnL.block {α : Type} {R : Rd α} {m : Nat} {S : Foot} {w : World} {base : Nat} {e : TypeId} {v : Value} {xs : List α} (h : OwnL R m S w base e v xs) : ∀ k, v.ownBlock = some k → base ≤ k ∧ k < w.heap.size := by
 obtain ⟨_, cells, ho, _⟩ := h
 exact ho.lt
theorem OwnL.ne {α : Type} {R : Rd α} {m : Nat} {S : Foot} {w : World} {base : Nat} {e : TypeId} {v : Value} {xs : List α} (h : OwnL R m S w base e v xs) {g : Nat} (hg : g < base ∨ w.heap.size ≤ g) : some g ≠ v.ownBlock := by
 intro he
 have := h.block g he.symm
 omega
theorem bl_grown {B : Nat} {w w' w2 : World} {α : Type} {R : Rd α} {m : Nat} {S : Foot} {base : Nat} {e : TypeId} {v : Value} {xs : List α} (h : Below B w w') (ho : OwnL R m S w' base e v xs) (hg : w'.grownBy w2 v.ownBlock) (hB : B ≤ base) (hBw : B ≤ w.heap.size) : Below B w w2 :=
 h.grown hg (Nat.le_trans hBw h.size) (fun k hk => Nat.le_trans hB (ho.block k hk).1)
theorem wpList_append_n {P : Program} {ops : Array Oper} {rest : List Oper} {o : Oper} {a : Act} {Q : Exit → Act → World → Prop} (w : World) (hgd : o.guard = none) (s x : Operand) (t : TypeId)
  (ho : o.op = .call { callee := .builtin .append, args := #[s, x], argTypes := #[t, t] })
  {α : Type} {R : Rd α} {m : Nat} (g : R.Good m) {S : Foot} (base : Nat) (e : TypeId) (i : TypeInfo) (z : Value) (bytes : Nat) (ht : P.underlying t = some (.slice e)) (hi : P.info? e = some i) (hz : i.zero = some z)
  (hsize : i.size = m) (hby : i.bytes = bytes) (hzs : z.cells.size = m) (hsz : 0 < m)
  (v : Value) (xs : List α) (y : α) (n : Nat) (hn : xs.length = n) (hs : a.eval s = v) (hown : OwnL R m S w base e v xs)
  (ad : Addr) (c : Nat) (news : List Value) (hx : a.eval x = .slice (some ad) 1 c) (hR : R S w y news) (hnews : ∀ j u, news[j]? = some u → w.cell? (ad.add j) = some u)
  (h63 : n + 1 ≤ maxLen) (hbytes : (n + 1) * bytes ≤ 140737488355328) (hbase : base ≤ w.heap.size) (hS : ¬ S w.heap.size)
  (h : ∀ A' cap' w', OwnL R m S w' base e (.slice (some ⟨A', 0, none⟩) (n + 1) cap') (xs ++ [y]) → w.grownBy w' v.ownBlock → (v.ownBlock = some A' ∨ A' = w.heap.size) → wpList P ops Q rest (a.put o.dst (.slice (some ⟨A', 0, none⟩) (n + 1) cap')) w') : wpList P ops Q (o :: rest) a w := by
 subst hn
 exact wpList_append_one w hgd s x t ho g base e i z bytes ht hi hz hsize hby hzs hsz v xs y hs hown ad c news hx hR hnews h63 hbytes hbase hS h
def OwnT (T : Foot) {α : Type} (R : Rd α) (m : Nat) (w : World) (base : Nat) (e : TypeId) (v : Value) (xs : List α) : Prop :=
 OwnL R m (fun k => T k ∧ v.ownBlock ≠ some k) w base e v xs
theorem OwnT.nil (T : Foot) {α : Type} (R : Rd α) (m : Nat) (w : World) (base : Nat) (e : TypeId) : OwnT T R m w base e (.slice none 0 0) [] :=
 ⟨fun k h => by simp [Value.ownBlock] at h, [], World.ownsRow_nil w base e m, fun k x h => by simp at h⟩
theorem OwnT.below {T : Foot} {α : Type} {R : Rd α} {m : Nat} {w w' : World} {base : Nat} {e : TypeId} {v : Value} {xs : List α} (g : R.Good m) (h : OwnT T R m w base e v xs) (hb : Below w.heap.size w w') : OwnT T R m w' base e v xs := OwnL.keep g h (Keeps.below hb)
theorem OwnT.slice {T : Foot} {α : Type} {R : Rd α} {m : Nat} {w : World} {base : Nat} {e : TypeId} {v : Value} {xs : List α} {U : Foot} (g : R.Good m) (h : OwnT T R m w base e v xs) {A : Option Addr} {n cap : Nat} (hv : v = .slice A n cap) (hn : n ≤ maxLen) (hT : ∀ k, T k → U k) (hU : ∀ k, base ≤ k → U k) : SliceOf R m U w A n xs :=
 OwnL.slice g h hv hn (fun k hk => hT k hk.1) (fun k hk _ => hU k hk)
theorem wpList_append_t {P : Program} {ops : Array Oper} {rest : List Oper} {o : Oper} {a : Act} {Q : Exit → Act → World → Prop} (w : World) (hgd : o.guard = none) (s x : Operand) (t : TypeId)
  (ho : o.op = .call { callee := .builtin .append, args := #[s, x], argTypes := #[t, t] })
  {α : Type} {R : Rd α} {m : Nat} (T : Foot) (g : R.Good m) (base : Nat) (e : TypeId) (i : TypeInfo) (z : Value) (bytes : Nat) (ht : P.underlying t = some (.slice e)) (hi : P.info? e = some i) (hz : i.zero = some z)
  (hsize : i.size = m) (hby : i.bytes = bytes) (hzs : z.cells.size = m) (hsz : 0 < m)
  (v : Value) (xs : List α) (y : α) (n : Nat) (hn : xs.length = n) (hs : a.eval s = v) (hown : OwnT T R m w base e v xs)
  (ad : Addr) (c : Nat) (news : List Value) (hx : a.eval x = .slice (some ad) 1 c) (hR : R (fun k => T k ∧ v.ownBlock ≠ some k) w y news) (hnews : ∀ j u, news[j]? = some u → w.cell? (ad.add j) = some u)
  (h63 : n + 1 ≤ maxLen) (hbytes : (n + 1) * bytes ≤ 140737488355328) (hbase : base ≤ w.heap.size)
  (h : ∀ A' cap' w', OwnT T R m w' base e (.slice (some ⟨A', 0, none⟩) (n + 1) cap') (xs ++ [y]) → w.grownBy w' v.ownBlock → (v.ownBlock = some A' ∨ A' = w.heap.size) → wpList P ops Q rest (a.put o.dst (.slice (some ⟨A', 0, none⟩) (n + 1) cap')) w') : wpList P ops Q (o :: rest) a w := by
 obtain ⟨h0, cells, hrow, hcells⟩ := hown
 have hb : OwnL R m (fun k => (T k ∧ v.ownBlock ≠ some k) ∧ k < w.heap.size) w base e v xs := ⟨fun k hk h => h0 k hk h.1, cells, hrow, fun k x hx => by
  obtain ⟨vs, hR, hc⟩ := hcells k x hx
  exact ⟨vs, g.bound hR, hc⟩⟩
 refine wpList_append_n w hgd s x t ho g base e i z bytes ht hi hz hsize hby hzs hsz v xs y n hn hs hb ad c news hx (g.bound hR) hnews h63 hbytes hbase (fun h => absurd h.2 (Nat.lt_irrefl _)) ?_
 intro A' cap' w' ho' hg' hat'
 refine h A' cap' w' ?_ hg' hat'
 obtain ⟨h1, cells', hrow', hcells'⟩ := ho'
 refine ⟨fun k hk hc => hc.2 hk, cells', hrow', fun k x hx => ?_⟩
 obtain ⟨vs, hR', hc⟩ := hcells' k x hx
 refine ⟨vs, g.mono hR' fun j hj => ⟨hj.1.1, fun hA => ?_⟩, hc⟩
 have hA' : A' = j := by simpa [Value.ownBlock] using hA
 subst hA'
 rcases hat' with e | e
 ·exact hj.1.2 e
 have := hj.2; omega
open Go.RowKit
def Blk (w : World) (g : Nat) (t : TypeId) (cs : Array Value) : Prop := w.heap[g]? = some (.cells cs t (0, 0))
section
variable {w w' : World} {g : Nat} {t : TypeId} {cs : Array Value}
theorem Blk.lt (h : Blk w g t cs) : g < w.heap.size := (Array.getElem?_eq_some_iff.1 h).1
theorem Blk.cell (h : Blk w g t cs) (i : Nat) : w.cell? ⟨g, i, none⟩ = cs[i]? := cell_of_row w g i cs t (0, 0) h
theorem Blk.frozen (h : Blk w g t cs) (i : Nat) : w.frozen? ⟨g, i, none⟩ = false := by
 unfold Blk at h
 simp [World.frozen?, h]
theorem Blk.new (w : World) (t : TypeId) (cs : Array Value) {g : Nat} (hg : g = w.heap.size) : Blk (w.alloc (.cells cs t)) g t cs := by subst hg; exact heap_alloc_new w _
theorem Blk.drew (h : Blk w g t cs) : Blk w.drew g t cs := h
theorem Blk.alloc (h : Blk w g t cs) (o : Obj) : Blk (w.alloc o) g t cs := (Below.heap_alloc w o g h.lt).trans h
theorem Blk.set_ (h : Blk w g t cs) (i : Nat) (u : Value) : Blk (w.setCell ⟨g, i, none⟩ u) g t (cs.setIfInBounds i u) := by
 unfold Blk at h ⊢
 simp [World.setCell, Array.getElem?_modify, h]
theorem Blk.far (h : Blk w g t cs) {p : Addr} (hp : g ≠ p.block) (u : Value) : Blk (w.setCell p u) g t cs := (Below.heap_setCell w p u g hp).trans h
theorem Blk.bl (h : Blk w g t cs) (hb : Below w.heap.size w w') : Blk w' g t cs := (hb.block g h.lt).trans h
theorem Blk.grown {row : Option Nat} (h : Blk w g t cs) (hb : w.grownBy w' row) (hg : some g ≠ row) : Blk w' g t cs := (hb.block g h.lt hg).trans h
end
theorem Blk.set2 {w : World} {g : Nat} {t : TypeId} {a b : Value} (h : Blk w g t #[a, b]) (x y : Value) : Blk ((w.setCell ⟨g, 0, none⟩ x).setCell ⟨g, 1, none⟩ y) g t #[x, y] := (h.set_ 0 x).set_ 1 y
theorem Blk.c0 {w : World} {g : Nat} {t : TypeId} {a b : Value} (h : Blk w g t #[a, b]) : w.cell? ⟨g, 0, none⟩ = some a := h.cell 0
theorem Blk.c1 {w : World} {g : Nat} {t : TypeId} {a b : Value} (h : Blk w g t #[a, b]) : w.cell? ⟨g, 1, none⟩ = some b := h.cell 1
theorem bl_set {B : Nat} {w w' : World} (h : Below B w w') {p : Addr} (hp : B ≤ p.block) (v : Value) : Below B w (w'.setCell p v) := h.setCell hp v
open Go.RowKit
theorem run_append_one {P : Program} (w : World) (t ty : TypeId) {α : Type} {R : Rd α} {m : Nat} (g : R.Good m) {S : Foot} (base : Nat) (e : TypeId) (i : TypeInfo) (z : Value) (bytes : Nat) (ht : P.underlying t = some (.slice e)) (hi : P.info? e = some i) (hz : i.zero = some z)
  (hsize : i.size = m) (hby : i.bytes = bytes) (hzs : z.cells.size = m) (hsz : 0 < m)
  (v : Value) (xs : List α) (y : α) (hown : OwnL R m S w base e v xs)
  (ad : Addr) (c : Nat) (news : List Value) (hR : R S w y news) (hnews : ∀ j u, news[j]? = some u → w.cell? (ad.add j) = some u)
  (h63 : xs.length + 1 ≤ maxLen) (hbytes : (xs.length + 1) * bytes ≤ 140737488355328) (hbase : base ≤ w.heap.size) (hS : ¬ S w.heap.size) :
  ∃ A' cap' w', (Builtin.append_ #[t, t] ty #[v, .slice (some ad) 1 c]).run P w = .ok (.slice (some ⟨A', 0, none⟩) (xs.length + 1) cap') w' ∧ OwnL R m S w' base e (.slice (some ⟨A', 0, none⟩) (xs.length + 1) cap') (xs ++ [y]) ∧ w.grownBy w' v.ownBlock ∧ (v.ownBlock = some A' ∨ A' = w.heap.size) := by
 obtain ⟨hS0, cells, hrow, hcells⟩ := hown
 obtain ⟨v', w', hr, hown', hgrow, _, hat⟩ := run_append_own_at (P := P) w base t ty e i z m bytes ht hi hz hsize hby hzs hsz v xs.length cells hrow ad 1 c news (by rw [g.len hR]; omega) hnews (g.one hR) h63 hbytes hbase
 obtain ⟨gb, cap, rfl⟩ := ownsRow_succ hown'
 have hat' : v.ownBlock = some gb ∨ gb = w.heap.size := by
  rcases hat with e | e
  ·left; rw [← e]; rfl
  right; injection e
 have hk : Keeps S w w' := Keeps.grown hgrow hS0
 refine ⟨gb, cap, w', hr, ⟨fun k hk' => ?_, cells ++ news, by simpa using hown', fun k y' hy => ?_⟩, hgrow, hat'⟩
 ·have : gb = k := by simpa [Value.ownBlock] using hk'
  subst this
  rcases hat' with e | e
  ·exact hS0 _ e
  rw [e]; exact hS
 by_cases hlt : k < xs.length
 ·rw [List.getElem?_append_left hlt] at hy
  obtain ⟨vs, hR', hc⟩ := hcells k y' hy
  refine ⟨vs, g.keep hR' hk, fun j u hu => ?_⟩
  have h3 := hc j u hu
  rw [List.getElem?_append_left (of_getq' h3)]; exact h3
 have hk2 : k = xs.length := by have := of_getq' hy; simp at this; omega
 subst hk2
 simp at hy; subst hy
 refine ⟨news, g.keep hR hk, fun j u hu => ?_⟩
 rw [List.getElem?_append_right (by rw [hrow.1]; omega), hrow.1]
 rw [show xs.length * m + j - xs.length * m = j by omega]; exact hu
theorem step_append_n {P : Program} {ops : Array Oper} {o : Oper} {a : Act} {K : Act → World → Prop} {Q : Exit → Act → World → Prop} {E : Prop} (w : World) (hgd : o.guard = none) (s x : Operand) (t : TypeId)
  (ho : o.op = .call { callee := .builtin .append, args := #[s, x], argTypes := #[t, t] })
  {α : Type} {R : Rd α} {m : Nat} (g : R.Good m) {S : Foot} (base : Nat) (e : TypeId) (i : TypeInfo) (z : Value) (bytes : Nat) (ht : P.underlying t = some (.slice e)) (hi : P.info? e = some i) (hz : i.zero = some z)
  (hsize : i.size = m) (hby : i.bytes = bytes) (hzs : z.cells.size = m) (hsz : 0 < m)
  (v : Value) (xs : List α) (y : α) (n : Nat) (hn : xs.length = n) (hs : a.eval s = v) (hown : OwnL R m S w base e v xs)
  (ad : Addr) (c : Nat) (news : List Value) (hx : a.eval x = .slice (some ad) 1 c) (hR : R S w y news) (hnews : ∀ j u, news[j]? = some u → w.cell? (ad.add j) = some u)
  (h63 : n + 1 ≤ maxLen) (hbytes : (n + 1) * bytes ≤ 140737488355328) (hbase : base ≤ w.heap.size) (hS : ¬ S w.heap.size)
  (h : ∀ A' cap' w', OwnL R m S w' base e (.slice (some ⟨A', 0, none⟩) (n + 1) cap') (xs ++ [y]) → w.grownBy w' v.ownBlock → (v.ownBlock = some A' ∨ A' = w.heap.size) → K (a.put o.dst (.slice (some ⟨A', 0, none⟩) (n + 1) cap')) w') :
  if Region.wanted o (yielded ops a.tmps) = true then Oper.wp P o a w K Q else E := by
 subst hn
 have hw : Region.wanted o (yielded ops a.tmps) = true := by simp [Region.wanted, hgd]
 rw [if_pos hw]
 obtain ⟨A', cap', w', hr, h2, h3, h4⟩ := run_append_one (P := P) w t o.type g base e i z bytes ht hi hz hsize hby hzs hsz v xs y hown ad c news hR hnews h63 hbytes hbase hS
 unfold Oper.wp execOp
 simp only [ho, resolve, invoke, builtin, Sem.run_bind, Sem.run_pure, Result.andThen_ok, List.map_toArray, List.map_cons, List.map_nil, hs, hx, hr]
 exact h A' cap' w' h2 h3 h4
def firstErr (f : Nat → Int) : Nat → Option (Nat × Int)
 | 0 => none
 | n + 1 => match firstErr f n with
  | some r => some r
  | none => if f n = 0 then none else some (n, f n)
theorem firstErr_none {f : Nat → Int} {n : Nat} (h : ∀ k, k < n → f k = 0) : firstErr f n = none := by
 induction n with
 | zero => rfl
 | succ n ih => simp [firstErr, ih (fun k hk => h k (by omega)), h n (by omega)]
theorem firstErr_some {f : Nat → Int} {n k : Nat} (hk : k < n) (h : ∀ j, j < k → f j = 0) (he : f k ≠ 0) : firstErr f n = some (k, f k) := by
 induction n with
 | zero => omega
 | succ n ih =>
  by_cases hkn : k = n
  ·subst hkn
   simp [firstErr, firstErr_none h, he]
  simp [firstErr, ih (by omega)]
theorem firstErr_cases (f : Nat → Int) (n : Nat) : (firstErr f n = none ∧ ∀ k, k < n → f k = 0) ∨ ∃ k, k < n ∧ firstErr f n = some (k, f k) ∧ f k ≠ 0 ∧ ∀ j, j < k → f j = 0 := by
 induction n with
 | zero => exact .inl ⟨rfl, fun k h => by omega⟩
 | succ n ih =>
  rcases ih with ⟨h, ha⟩ | ⟨k, hk, h, he, hj⟩
  ·by_cases he : f n = 0
   ·exact .inl ⟨by simp [firstErr, h, he], fun k hk => by rcases Nat.lt_or_eq_of_le (Nat.le_of_lt_succ hk) with h1 | h1; exact ha k h1; rw [h1]; exact he⟩
   exact .inr ⟨n, by omega, by simp [firstErr, h, he], he, ha⟩
  exact .inr ⟨k, by omega, by simp [firstErr, h], he, hj⟩
theorem upto_succ {f : Nat → Int} {k : Nat} (h : ∀ j, j < k → f j = 0) (hk : f k = 0) : ∀ j, j < k + 1 → f j = 0 := by
 intro j hj
 rcases Nat.lt_or_eq_of_le (Nat.le_of_lt_succ hj) with h1 | h1
 ·exact h j h1
 rw [h1]; exact hk
theorem getD_of {α : Type} {l : List α} {k : Nat} {x d : α} (h : l[k]? = some x) : l.getD k d = x := by rw [List.getD_eq_getElem?_getD, h]; rfl
def ends (lo hi : Int) : List Int → Int × Int
 | [] => (lo, hi)
 | x :: l => ends (min lo x) (max hi x) l
def endsOf : List Int → Int × Int
 | [] => (0, 0)
 | x :: l => ends x x l
theorem ends_snoc (l : List Int) (x : Int) : ∀ lo hi, ends lo hi (l ++ [x]) = (min (ends lo hi l).1 x, max (ends lo hi l).2 x) := by
 induction l with
 | nil => intro lo hi; rfl
 | cons y l ih => intro lo hi; exact ih _ _
theorem endsOf_snoc {l : List Int} (h : l ≠ []) (x : Int) : endsOf (l ++ [x]) = (min (endsOf l).1 x, max (endsOf l).2 x) := by
 cases l with
 | nil => exact absurd rfl h
 | cons y l => exact ends_snoc l x y y
theorem endsOf_one (x : Int) : endsOf [x] = (x, x) := rfl
end Go.Proofs.YtcnebekkbfajbaaGreat
