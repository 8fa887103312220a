/- Walks: the set of a truth, as bits. -/
import Derived.Test.YtkbpmcpmcmnfgaaDoorCPlain
import Derived.Test.YtkbpmcpmcmnfgaaDoorCProg7
import Derived.Test.YtkbpmcpmcmnfgaaDoorCRefB3
set_option linter.unusedVariables false
set_option linter.unusedSimpArgs false
set_option linter.all false
namespace Go.Proofs.YtkbpmcpmcmnfgaaDoor
open Go.RowKit Go.Shelf

theorem bits_or32 : ∀ a, a < 32 → ∀ b, b < 32 → bits BinOp.or .i64 (a : Nat) (b : Nat) = ((a ||| b : Nat) : Int) := by decide +kernel
theorem bits_and32 : ∀ a, a < 32 → ∀ b, b < 32 → bits BinOp.and .i64 (a : Nat) (b : Nat) = ((a &&& b : Nat) : Int) := by decide +kernel
theorem bits_andNot32 : ∀ a, a < 32 → ∀ b, b < 32 → bits BinOp.andNot .i64 (a : Nat) (b : Nat) = ((a - (a &&& b) : Nat) : Int) := by decide +kernel
theorem or_pow : ∀ k, k < 5 → ∀ n, n < 2 ^ k → bits BinOp.or .i64 (n : Nat) ((2 ^ k : Nat) : Int) = ((n + 2 ^ k : Nat) : Int) := by decide +kernel
def sumB (l : List Nat) : Nat := l.foldl (· + ·) 0
theorem sumB_snoc {l : List Nat} {k x : Nat} (h : l[k]? = some x) : sumB (l.take (k + 1)) = sumB (l.take k) + x := by
  unfold sumB; rw [List.take_add_one, h]; simp

theorem set63_any (a0 a1 a2 a3 a4 : Int) (w : World) :
    Calls Tryd.prog 63 #[.agg #[.int .i64 a0, .int .i64 a1, .int .i64 a2, .int .i64 a3, .int .i64 a4]] w fun e w' => e = .returned (.int .i64 (setN [a0, a1, a2, a3, a4])) ∧ Below w.heap.size w w' := by
  have i0 : ∀ w, (Instr.index 96 (.agg #[.int .i64 a0, .int .i64 a1, .int .i64 a2, .int .i64 a3, .int .i64 a4]) (.int .i64 0)).run Tryd.prog w = .ok (.int .i64 a0) w := fun _ => by kernel_rfl
  have i1 : ∀ w, (Instr.index 96 (.agg #[.int .i64 a0, .int .i64 a1, .int .i64 a2, .int .i64 a3, .int .i64 a4]) (.int .i64 1)).run Tryd.prog w = .ok (.int .i64 a1) w := fun _ => by kernel_rfl
  have i2 : ∀ w, (Instr.index 96 (.agg #[.int .i64 a0, .int .i64 a1, .int .i64 a2, .int .i64 a3, .int .i64 a4]) (.int .i64 2)).run Tryd.prog w = .ok (.int .i64 a2) w := fun _ => by kernel_rfl
  have i3 : ∀ w, (Instr.index 96 (.agg #[.int .i64 a0, .int .i64 a1, .int .i64 a2, .int .i64 a3, .int .i64 a4]) (.int .i64 3)).run Tryd.prog w = .ok (.int .i64 a3) w := fun _ => by kernel_rfl
  have i4 : ∀ w, (Instr.index 96 (.agg #[.int .i64 a0, .int .i64 a1, .int .i64 a2, .int .i64 a3, .int .i64 a4]) (.int .i64 4)).run Tryd.prog w = .ok (.int .i64 a4) w := fun _ => by kernel_rfl
  go_enter Tryd.func63, Tryd.ntmps63
  go_wp2
  go_loop [2, 3, 4, 6] (fun s _ _ i => ∃ k : Nat, k ≤ 5 ∧ i = .int .i64 k ∧ ∃ n : Nat, s = .int .i64 n ∧ n < 2 ^ k ∧ Hid (n = sumB ([bitOf a0 0, bitOf a1 1, bitOf a2 2, bitOf a3 3, bitOf a4 4].take k))) (fun _ _ _ i => 5 - (intOf i).toNat)
  case atStart => exact ⟨0, by omega, rfl, 0, rfl, by omega, rfl⟩
  case round =>
    obtain ⟨k, hk, rfl, n, rfl, hn, Hn⟩ := hrel
    rcases k with _ | _ | _ | _ | _ | _ | k
    · by_cases hp : 0 < a0
      · have hor : bits BinOp.or .i64 (n : Nat) 1 = ((n + 1 : Nat) : Int) := or_pow 0 (by decide) n hn
        have Hs : Hid (n + 1 = sumB ([bitOf a0 0, bitOf a1 1, bitOf a2 2, bitOf a3 3, bitOf a4 4].take 1)) := by rw [Hid, sumB_snoc (k := 0) (x := bitOf a0 0) rfl, ← Hn.out, bitOf, if_pos hp]
        go_wp2
        exact ⟨⟨1, by omega, rfl, n + 1, by go_num, by simp at hn ⊢; omega, Hs⟩, by decide⟩
      · have Hs : Hid (n = sumB ([bitOf a0 0, bitOf a1 1, bitOf a2 2, bitOf a3 3, bitOf a4 4].take 1)) := by rw [Hid, sumB_snoc (k := 0) (x := bitOf a0 0) rfl, ← Hn.out, bitOf, if_neg hp]; rfl
        go_wp2
        exact ⟨⟨1, by omega, rfl, n, rfl, by simp at hn ⊢; omega, Hs⟩, by decide⟩
    · by_cases hp : 0 < a1
      · have hor : bits BinOp.or .i64 (n : Nat) 2 = ((n + 2 : Nat) : Int) := or_pow 1 (by decide) n hn
        have Hs : Hid (n + 2 = sumB ([bitOf a0 0, bitOf a1 1, bitOf a2 2, bitOf a3 3, bitOf a4 4].take 2)) := by rw [Hid, sumB_snoc (k := 1) (x := bitOf a1 1) rfl, ← Hn.out, bitOf, if_pos hp]
        go_wp2
        exact ⟨⟨2, by omega, rfl, n + 2, by go_num, by simp at hn ⊢; omega, Hs⟩, by decide⟩
      · have Hs : Hid (n = sumB ([bitOf a0 0, bitOf a1 1, bitOf a2 2, bitOf a3 3, bitOf a4 4].take 2)) := by rw [Hid, sumB_snoc (k := 1) (x := bitOf a1 1) rfl, ← Hn.out, bitOf, if_neg hp]; rfl
        go_wp2
        exact ⟨⟨2, by omega, rfl, n, rfl, by simp at hn ⊢; omega, Hs⟩, by decide⟩
    · by_cases hp : 0 < a2
      · have hor : bits BinOp.or .i64 (n : Nat) 4 = ((n + 4 : Nat) : Int) := or_pow 2 (by decide) n hn
        have Hs : Hid (n + 4 = sumB ([bitOf a0 0, bitOf a1 1, bitOf a2 2, bitOf a3 3, bitOf a4 4].take 3)) := by rw [Hid, sumB_snoc (k := 2) (x := bitOf a2 2) rfl, ← Hn.out, bitOf, if_pos hp]
        go_wp2
        exact ⟨⟨3, by omega, rfl, n + 4, by go_num, by simp at hn ⊢; omega, Hs⟩, by decide⟩
      · have Hs : Hid (n = sumB ([bitOf a0 0, bitOf a1 1, bitOf a2 2, bitOf a3 3, bitOf a4 4].take 3)) := by rw [Hid, sumB_snoc (k := 2) (x := bitOf a2 2) rfl, ← Hn.out, bitOf, if_neg hp]; rfl
        go_wp2
        exact ⟨⟨3, by omega, rfl, n, rfl, by simp at hn ⊢; omega, Hs⟩, by decide⟩
    · by_cases hp : 0 < a3
      · have hor : bits BinOp.or .i64 (n : Nat) 8 = ((n + 8 : Nat) : Int) := or_pow 3 (by decide) n hn
        have Hs : Hid (n + 8 = sumB ([bitOf a0 0, bitOf a1 1, bitOf a2 2, bitOf a3 3, bitOf a4 4].take 4)) := by rw [Hid, sumB_snoc (k := 3) (x := bitOf a3 3) rfl, ← Hn.out, bitOf, if_pos hp]
        go_wp2
        exact ⟨⟨4, by omega, rfl, n + 8, by go_num, by simp at hn ⊢; omega, Hs⟩, by decide⟩
      · have Hs : Hid (n = sumB ([bitOf a0 0, bitOf a1 1, bitOf a2 2, bitOf a3 3, bitOf a4 4].take 4)) := by rw [Hid, sumB_snoc (k := 3) (x := bitOf a3 3) rfl, ← Hn.out, bitOf, if_neg hp]; rfl
        go_wp2
        exact ⟨⟨4, by omega, rfl, n, rfl, by simp at hn ⊢; omega, Hs⟩, by decide⟩
    · by_cases hp : 0 < a4
      · have hor : bits BinOp.or .i64 (n : Nat) 16 = ((n + 16 : Nat) : Int) := or_pow 4 (by decide) n hn
        have Hs : Hid (n + 16 = sumB ([bitOf a0 0, bitOf a1 1, bitOf a2 2, bitOf a3 3, bitOf a4 4].take 5)) := by rw [Hid, sumB_snoc (k := 4) (x := bitOf a4 4) rfl, ← Hn.out, bitOf, if_pos hp]
        go_wp2
        exact ⟨⟨5, by omega, rfl, n + 16, by go_num, by simp at hn ⊢; omega, Hs⟩, by decide⟩
      · have Hs : Hid (n = sumB ([bitOf a0 0, bitOf a1 1, bitOf a2 2, bitOf a3 3, bitOf a4 4].take 5)) := by rw [Hid, sumB_snoc (k := 4) (x := bitOf a4 4) rfl, ← Hn.out, bitOf, if_neg hp]; rfl
        go_wp2
        exact ⟨⟨5, by omega, rfl, n, rfl, by simp at hn ⊢; omega, Hs⟩, by decide⟩
    · go_wp2
      go_ret
      refine ⟨ret_int ?_, bl_alloc (Below.refl _ _) _ (Nat.le_refl _)⟩
      rw [Hn.out]; simp [sumB, setN]
    · omega

/-- what is read of the library's table -/
structure TabOk (w : World) : Prop where
  c0 : w.cell? ⟨1, 0, none⟩ = some (.int .u8 0)
  c1 : w.cell? ⟨1, 1, none⟩ = some (.int .u8 1)
  c3 : w.cell? ⟨1, 3, none⟩ = some (.int .u8 2)
  c7 : w.cell? ⟨1, 7, none⟩ = some (.int .u8 3)
  c15 : w.cell? ⟨1, 15, none⟩ = some (.int .u8 4)

theorem TabOk.below {w w' : World} {B : Nat} (h : TabOk w) (hb : Below B w w') (hB : 2 ≤ B) : TabOk w' :=
  ⟨(hb.cell (p := ⟨1, 0, none⟩) (by simp; omega)).trans h.c0, (hb.cell (p := ⟨1, 1, none⟩) (by simp; omega)).trans h.c1, (hb.cell (p := ⟨1, 3, none⟩) (by simp; omega)).trans h.c3, (hb.cell (p := ⟨1, 7, none⟩) (by simp; omega)).trans h.c7, (hb.cell (p := ⟨1, 15, none⟩) (by simp; omega)).trans h.c15⟩
theorem TabOk.lt {w : World} (h : TabOk w) : 1 < w.heap.size := World.block_lt_of_cell? w _ h.c0
theorem TabOk.bl {w w' : World} (h : TabOk w) (hb : Below w.heap.size w w') : TabOk w' := h.below hb h.lt

/-- the number of the lowest bit -/
def tzN (x : Nat) : Nat := if x.testBit 0 then 0 else if x.testBit 1 then 1 else if x.testBit 2 then 2 else if x.testBit 3 then 3 else 4
theorem tz_idx : ∀ x, x < 32 → 0 < x → (IntKind.u64.wrap (bits BinOp.and IntKind.u64 (x : Nat) (IntKind.u64.wrap (-(x : Nat))) * 285870213051353865) / 288230376151711744, tzN x) ∈ [((0 : Int), 0), (1, 1), (3, 2), (7, 3), (15, 4)] := by decide +kernel

set_option maxHeartbeats 400000 in
theorem tz64_any (x : Nat) (w : World) (h : TabOk w) (hx : x < 32) (h0 : 0 < x) : Calls Tryd.prog 105 #[.int .u64 x] w fun e w' => e = .returned (.int .i64 (tzN x)) ∧ w = w' := by
  obtain ⟨c0, c1, c3, c7, c15⟩ := h
  have h := tz_idx x hx h0
  have hx0 : ((x : Int) == 0) = false := by simp; omega
  simp only [List.mem_cons, Prod.mk.injEq, List.mem_nil_iff, or_false] at h
  rcases h with ⟨h1, h2⟩ | ⟨h1, h2⟩ | ⟨h1, h2⟩ | ⟨h1, h2⟩ | ⟨h1, h2⟩
  all_goals
    rw [h2]
    clear h2
    go_enter Tryd.func105, Tryd.ntmps105
    go_wp2
    go_ret
    exact ⟨rfl, rfl⟩
theorem tz_any (x : Nat) (w : World) (h : TabOk w) (hx : x < 32) (h0 : 0 < x) : Calls Tryd.prog 91 #[.int .u64 x] w fun e w' => e = .returned (.int .i64 (tzN x)) ∧ w = w' := by
  go_enter Tryd.func91, Tryd.ntmps91
  go_wp2_with (go_at_call 105; refine (tz64_any x _ h hx h0).mono ?_; rintro e w' ⟨rfl, rfl⟩)
  go_ret
  exact ⟨rfl, rfl⟩

end Go.Proofs.YtkbpmcpmcmnfgaaDoor

namespace Go.Proofs.YtkbpmcpmcmnfgaaDoor
open Go.RowKit Go.Shelf

theorem listN_step : ∀ s, s < 32 → 0 < s → listN s = (tzN s : Int) :: listN (s &&& (s - 1)) ∧ s &&& (s - 1) < s := by decide +kernel
theorem listN_len13 : ∀ s, s < 32 → (listN s).length ≤ 5 := by decide +kernel
theorem and_pred : ∀ s, s < 32 → 0 < s → bits BinOp.and .i64 (s : Nat) ((s : Nat) - 1) = ((s &&& (s - 1) : Nat) : Int) := by decide +kernel

set_option maxHeartbeats 1000000 in
theorem list64_any (s : Nat) (w : World) (h : TabOk w) (hs : s < 32) : Calls Tryd.prog 64 #[.int .i64 s] w fun e w' => ∃ A' n' c', e = .returned (.slice A' n' c') ∧ Ints (fun k => w.heap.size ≤ k) w' A' n' (listN s) ∧ Below w.heap.size w w' := by
  obtain ⟨i0, hi0, hz0, hz1, hz2⟩ := info_parts infoInt
  have hlen := listN_len13 s hs
  go_enter Tryd.func64, Tryd.ntmps64
  go_wp2
  go_loopw [0, 2] (fun v l wr => ∃ (s1 k cap : Nat) (A' : Option Addr) (l1 : List Int), v = .int .i64 s1 ∧ s1 < 32 ∧ l = .slice A' k cap ∧ k ≤ 5 ∧ Hid (l1.length = k) ∧ OwnL IntR 1 (fun _ => False) wr w.heap.size 3 (.slice A' k cap) l1 ∧ Below w.heap.size w wr ∧ Hid (l1 ++ listN s1 = listN s)) (fun v _ _ => (intOf v).toNat)
  case atStart => exact ⟨s, 0, 0, none, [], rfl, hs, rfl, by omega, rfl, OwnL.nil _ _ _ _ _ _, Below.refl _ _, rfl⟩
  case round =>
    obtain ⟨s1, k, cap, A', l1, rfl, hs1, rfl, hk, Hl, hO, hB, Hf⟩ := hrel
    by_cases h0 : 0 < s1
    · have hne : ((s1 : Int) != 0) = true := by simp; omega
      obtain ⟨hst, hlt⟩ := listN_step s1 hs1 h0
      have Hs : Hid ((l1 ++ [(tzN s1 : Int)]) ++ listN (s1 &&& (s1 - 1)) = listN s) := by rw [Hid, ← Hf.out, hst]; simp
      have hk5 : k + 1 ≤ 5 := by
        have := congrArg List.length Hf.out
        rw [List.length_append, hst, List.length_cons, Hl.out] at this
        omega
      have hand := and_pred s1 hs1 h0
      have htab := h.bl hB
      have Hst := Lib.hid hst
      have htz := fun W hW => tz_any s1 W hW hs1 h0
      have HTZ := Lib.hid htz
      clear htz hst Hst
      generalize s1 &&& (s1 - 1) = s2 at hand Hs hlt
      generalize tzN s1 = z at Hs HTZ
      go_wp2_with (first
        | (go_at_call 91; refine (HTZ.out _ htab).mono ?_; rintro e w' ⟨rfl, rfl⟩)
        | (at_builtin; refine wpList_append_n _ rfl (.tmp 9) (.tmp 13) _ rfl IntR.good w.heap.size 3 i0 _ 8 Tryd.underlying34 hi0 hz0 hz1 hz2 rfl (by omega) _ l1 (z : Int) k Hl.out rfl (hO.alloc IntR.good _) ⟨_, 0, none⟩ 1 [.int .i64 z] rfl rfl (news_new rfl rfl) ?c1 ?c2 ?c3 (fun h => h) ?_))
      case c1 => simp only [maxLen]; omega
      case c2 => omega
      case c3 => have := hB.size; simp; omega
      intro A2 cap2 w2 hO2 hg2 _
      have hB2 : Below w.heap.size w w2 := bl_grown (bl_alloc hB _ (Nat.le_refl _)) (hO.alloc IntR.good _) hg2 (Nat.le_refl _) (Nat.le_refl _)
      clear hg2 hO hB htab
      go_wp2
      go_roundw
      case rel => exact ⟨s2, k + 1, cap2, _, _, rfl, by omega, rfl, hk5, by rw [Hid, List.length_append, Hl.out]; rfl, hO2, hB2, Hs⟩
      case measure => simp [intOf]; omega
    · obtain rfl : s1 = 0 := by omega
      go_wp2
      go_ret
      have hS := hO.slice (T := fun k => w.heap.size ≤ k) IntR.good rfl (by simp only [maxLen]; omega) (fun _ h => h.elim) (fun _ h _ => h)
      have hl : l1 = listN s := by rw [← Hf.out, show listN 0 = [] from rfl, List.append_nil]
      rw [hl] at hS
      exact ⟨_, _, _, rfl, hS, hB⟩

end Go.Proofs.YtkbpmcpmcmnfgaaDoor
