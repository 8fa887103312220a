/- Walks: the list of a set, and the count of its numbers. -/
import Derived.Shelf.Small.Bits
import Derived.Test.YtpbimgafafkjgaaCTAirs
import Derived.Test.YtpbimgafafkjgaaCTilePure2
set_option linter.unusedVariables false
set_option linter.unusedSimpArgs false
set_option linter.all false
namespace Go.Proofs
open Go.RowKit Go.Shelf
def Try.bitsLen_ren : Go.Shelf.Ren := ⟨fun | 125 => 102 | 128 => 105 | 129 => 106 | n => n, fun | 46 => 147 | 3 => 3 | 51 => 159 | 53 => 161 | 4 => 4 | 5 => 5 | 9 => 9 | n => n, fun n => n⟩
theorem Try.bitsLen : Lays.n125 Try.prog Try.bitsLen_ren where
  mixed := by kernel_rfl
  f125 := Try.func102.trans (congrArg some (by kernel_rfl))
  f128 := Try.func105.trans (congrArg some (by kernel_rfl))
  f129 := Try.func106.trans (congrArg some (by kernel_rfl))
  t3 := Try.underlying3
  a3 := Try.isAgg3
  z3 := Try.sizeOf3
  v3 := Try.zeroValue3
  t4 := Try.underlying4
  a4 := Try.isAgg4
  z4 := Try.sizeOf4
  v4 := Try.zeroValue4
  t5 := Try.underlying5
  a5 := Try.isAgg5
  z5 := Try.sizeOf5
  v5 := Try.zeroValue5
  t9 := Try.underlying9
  a9 := Try.isAgg9
  z9 := Try.sizeOf9
  v9 := Try.zeroValue9
  t46 := Try.underlying147
  a46 := Try.isAgg147
  z46 := Try.sizeOf147
  v46 := Try.zeroValue147
  t51 := Try.underlying159
  a51 := Try.isAgg159
  z51 := Try.sizeOf159
  v51 := Try.zeroValue159
  t53 := Try.underlying161
  a53 := Try.isAgg161
  z53 := Try.sizeOf161
  v53 := Try.zeroValue161
end Go.Proofs
namespace Go.Proofs.Ytpbimgafafkjgaa
open Go.RowKit Go.Shelf

def bitU (s k : Nat) : List Int := ((List.range k).filter fun i => s.testBit i).map fun i : Nat => (i : Int)
/-- the numbers of a set -/
def bitL (s : Nat) : List Int := bitU s 8
def st1 (x : Int) : Int := IntKind.u64.wrap (bits BinOp.and IntKind.u64 (x / 2) 6148914691236517205 + bits BinOp.and IntKind.u64 x 6148914691236517205)
def st2 (x : Int) : Int := IntKind.u64.wrap (bits BinOp.and IntKind.u64 (x / 4) 3689348814741910323 + bits BinOp.and IntKind.u64 x 3689348814741910323)
def st3 (x : Int) : Int := bits BinOp.and IntKind.u64 (IntKind.u64.wrap (x / 16 + x)) 1085102592571150095
def st4 (x : Int) : Int := IntKind.u64.wrap (x + x / 256)
def st5 (x : Int) : Int := IntKind.u64.wrap (x + x / 65536)
def st6 (x : Int) : Int := IntKind.u64.wrap (x + x / 4294967296)
/-- what the count of ones reckons -/
def onesI (x : Int) : Int := bits BinOp.and IntKind.i64 (wrap64 (st6 (st5 (st4 (st3 (st2 (st1 x))))))) 127
theorem ones_bit : ∀ s : Nat, s < 256 → onesI s = (bitL s).length := by decide +kernel
theorem bitU_succ (s k : Nat) : bitU s (k + 1) = bitU s k ++ if s.testBit k then [(k : Int)] else [] := by
  unfold bitU; rw [List.range_succ, List.filter_append, List.map_append]
  cases h : s.testBit k <;> simp [h]
theorem len_bit : ∀ s : Nat, s < 256 → Lib.bitLen s ≤ 8 ∧ bitU s (Lib.bitLen s) = bitL s := by decide +kernel
theorem bit_test : ∀ s : Nat, s < 256 → ∀ k : Nat, k < 8 → (bits BinOp.and IntKind.i64 ((s : Int) / 2 ^ k) 1 == 1) = s.testBit k := by decide +kernel
theorem bitL_len : ∀ s : Nat, s < 256 → (bitL s).length ≤ 8 := by decide +kernel

set_option maxHeartbeats 1000000 in
theorem ones64_any (x : Nat) (w : World) : Calls Try.prog 101 #[.int .u64 x] w fun e w' => e = .returned (.int .i64 (onesI x)) ∧ w = w' := by
  go_enter Try.func101, Try.ntmps101
  go_wp2
  go_ret
  exact ⟨rfl, rfl⟩
theorem ones_any (s : Nat) (hs : s < 256) (w : World) : Calls Try.prog 87 #[.int .u64 s] w fun e w' => e = .returned (.int .i64 (bitL s).length) ∧ w = w' := by
  have h := ones64_any s w
  rw [ones_bit s hs] at h
  go_enter Try.func87, Try.ntmps87
  go_wp2_with (go_at_call 101; refine h.mono ?_; rintro e w' ⟨rfl, rfl⟩)
  go_ret
  exact ⟨rfl, rfl⟩

theorem infoInt : (Try.prog.info? 3).map (fun i => (i.zero, i.size, i.bytes)) = some (some (.int .i64 0), 1, 8) := by kernel_rfl
set_option maxRecDepth 100000 in
set_option maxHeartbeats 1000000 in
theorem list_any (s : Nat) (w : World) (hs : s < 256) : Calls Try.prog 88 #[.int .i64 s] w fun e w' => (∃ A' c', e = .returned (.slice A' (bitL s).length c') ∧ Ints (fun k => w.heap.size ≤ k) w' A' (bitL s).length (bitL s)) ∧ Below w.heap.size w w' := by
  obtain ⟨i0, hi0, hz0, hz1, hz2⟩ := info_parts infoInt
  obtain ⟨hl8, hlb⟩ := len_bit s hs
  have hlen : Calls Try.prog 102 #[.int .u64 s] w fun e w' => e = .returned (.int .i64 (Lib.bitLen s)) ∧ w = w' := Calls.mono (Any.bits_Len Try.bitsLen s w (by omega) (by omega)) fun _ _ ⟨he, hw⟩ => ⟨he, hw.symm⟩
  obtain ⟨bl, hbl⟩ : ∃ bl, Lib.bitLen s = bl := ⟨_, rfl⟩
  rw [hbl] at hl8 hlb hlen
  have HLB := Lib.hid hlb
  have HLEN := Lib.hid hlen
  have hb8 := bitL_len s hs
  clear hbl hlen hlb
  go_enter Try.func88, Try.ntmps88
  go_wp2_with fail
  refine Calls.mono (f := 102) HLEN.out ?_
  rintro e w' ⟨rfl, rfl⟩
  go_wp2_with fail
  go_loopw [2, 3, 7] (fun v _ i' wr => ∃ (k j cap : Nat) (A' : Option Addr) (l1 : List Int), i' = .int .i64 k ∧ k ≤ bl ∧ v = .slice A' j cap ∧ Hid (l1.length = j) ∧ j ≤ k ∧ OwnL IntR 1 (fun _ => False) wr w.heap.size 3 (.slice A' j cap) l1 ∧ Below w.heap.size w wr ∧ Hid (l1 = bitU s k)) (fun _ _ i' _ => bl - (intOf i').toNat)
  case atStart => exact ⟨0, 0, 0, none, [], rfl, Nat.zero_le _, rfl, rfl, Nat.le_refl _, OwnL.nil _ _ _ _ _ _, Below.refl _ _, rfl⟩
  case round =>
    obtain ⟨k, j, cap, A', l1, rfl, hk, rfl, Hj, hjk, hO, hB, Hu⟩ := hrel
    by_cases hlt : k < bl
    · have hki : (k : Int) < bl := by omega
      have hbt := bit_test s hs k (by omega)
      cases htb : s.testBit k
      · rw [htb] at hbt
        have HU2 : Hid (l1 = bitU s (k + 1)) := by rw [Hid, bitU_succ, htb, Hu.out]; simp
        clear htb
        go_wp2_with fail
        go_roundw
        case rel => exact ⟨k + 1, j, cap, A', l1, by go_num, by omega, rfl, Hj.out, by omega, hO, hB, HU2⟩
        case measure => simp [intOf]; omega
      · rw [htb] at hbt
        have HU2 : Hid (l1 ++ [(k : Int)] = bitU s (k + 1)) := by rw [Hid, bitU_succ, htb, Hu.out]; simp
        clear htb
        go_wp2_with (at_builtin; refine wpList_append_n _ rfl (.tmp 15) (.tmp 17) _ rfl IntR.good w.heap.size 3 i0 _ 8 Try.underlying39 hi0 hz0 hz1 hz2 rfl (by omega) _ l1 (k : Int) j Hj.out rfl (hO.alloc IntR.good _) ⟨_, 0, none⟩ 1 [.int .i64 k] rfl rfl (news_new rfl rfl) ?c1 ?c2 ?c3 (fun h => h) ?_)
        case c1 => simp only [maxLen]; omega
        case c2 => omega
        case c3 => have := hB.size; simp; omega
        intro A2 cap2 w2 hO2 hg2 _
        have hB2 : Below w.heap.size w w2 := bl_grown (bl_alloc hB _ (Nat.le_refl _)) (hO.alloc IntR.good _) hg2 (Nat.le_refl _) (Nat.le_refl _)
        have Hj2 : Hid ((l1 ++ [(k : Int)]).length = j + 1) := by rw [Hid, List.length_append, Hj.out]; rfl
        clear hg2 hO hB hbt
        go_wp2_with fail
        go_roundw
        case rel => exact ⟨k + 1, j + 1, cap2, _, l1 ++ [(k : Int)], by go_num, by omega, rfl, Hj2, by omega, hO2, hB2, HU2⟩
        case measure => simp [intOf]; omega
    · obtain rfl : k = bl := by omega
      have hl : l1 = bitL s := by rw [Hu.out]; exact HLB.out
      have hj : j = (bitL s).length := by rw [← Hj.out, hl]
      have hS := hO.slice (T := fun k => w.heap.size ≤ k) IntR.good rfl (by simp only [maxLen]; omega) (fun _ h => h.elim) (fun _ h _ => h)
      rw [hl, hj] at hS
      have HS := Lib.hid hS
      have HJ := Lib.hid hj
      have HB := Lib.hid hB
      clear hl hj hS hO hB
      go_wp2
      go_ret
      exact ⟨⟨A', cap, by rw [← HJ.out]; rfl, HS.out⟩, HB.out⟩

end Go.Proofs.Ytpbimgafafkjgaa
