/- Walks, layer 7: chosen of the laws: numbers below another one, by bits. -/
import Derived.Test.YtpdldmichpmgmaaGreatCKRefs2
set_option linter.unusedVariables false
set_option linter.unusedSimpArgs false
set_option linter.all false
namespace Go.Proofs.YtpdldmichpmgmaaGreat
open Go.RowKit Go.Shelf

def bitB (bits i : Nat) : Bool := decide (bits / 2 ^ i % 2 = 1)
def choC (bits k : Nat) : List Int := ((List.range k).filter (bitB bits)).map fun i : Nat => (i : Int)
theorem choC_succ (bits k : Nat) : choC bits (k + 1) = if bitB bits k then choC bits k ++ [(k : Int)] else choC bits k := by
  unfold choC
  rw [List.range_succ, List.filter_append]
  split <;> rename_i h <;> simp [h]
theorem choC_len (bits k : Nat) : (choC bits k).length ≤ k := by
  unfold choC
  rw [List.length_map]
  exact Nat.le_trans (List.length_filter_le _ _) (by simp)
theorem choC_sub (bits k : Nat) : (choC bits k).Sublist (numbersL k) := by
  unfold choC numbersL
  exact List.Sublist.map _ List.filter_sublist

set_option maxRecDepth 100000 in
set_option maxHeartbeats 4000000 in
theorem chosen7_any {n bits : Nat} (w : World) (hn : n ≤ 8) (hb : bits < 256) :
    Calls Tryz.prog 25 #[.int .i64 n, .int .u8 bits] w fun e w' => IsInts7 w.heap.size (choC bits n) e w' ∧ Below w.heap.size w w' := by
  obtain ⟨i0, hi0, hz0, hz1, hz2⟩ := info_parts infoInt7
  go_enter Tryz.func25, Tryz.ntmps25
  go_wp2_with fail
  go_loopw [5, 6] (fun o i wr => ∃ (k len cap : Nat) (An : Option Addr), k ≤ n ∧ i = .int .i64 k ∧ o = .slice An len cap ∧ Hid (Below w.heap.size w wr) ∧ Hid (OwnL IntR 1 (fun _ => False) wr w.heap.size 3 (.slice An len cap) (choC bits k)) ∧ Hid ((choC bits k).length = len)) (fun _ i _ => n - (intOf i).toNat)
  case atStart => exact ⟨0, 0, 0, none, Nat.zero_le _, rfl, rfl, Below.refl _ _, OwnL.nil _ _ _ _ _ _, rfl⟩
  case round =>
    obtain ⟨k, len, cap, An, hk, rfl, rfl, HB, HO, Hlen⟩ := hrel
    have hlen8 : len ≤ 8 := by have := choC_len bits k; rw [Hlen.out] at this; omega
    by_cases hlt : k < n
    · have hki : (k : Int) < n := by omega
      obtain ⟨qb, hqb⟩ : ∃ qb : Bool, bitB bits k = qb := ⟨_, rfl⟩
      have hqv : (((bits : Int) / 2 ^ k).tmod 2 == 1) = qb := by
        rw [show ((bits : Int) / 2 ^ k) = ((bits / 2 ^ k : Nat) : Int) by push_cast; rfl, ← hqb, bitB]
        generalize bits / 2 ^ k = x
        rw [Int.tmod_eq_emod_of_nonneg (Int.natCast_nonneg x)]
        have e2 : ((x : Int) % 2) = ((x % 2 : Nat) : Int) := rfl
        rw [e2]
        by_cases hh : x % 2 = 1
        · simp [hh]
        · have h0 : x % 2 = 0 := by omega
          simp [h0]
      have HSx := Lib.hid (choC_succ bits k)
      rw [hqb] at HSx
      clear hqb
      cases qb with
      | true =>
        go_wp2_with (at_builtin; refine wpList_append_n _ rfl (.tmp 17) (.tmp 19) _ rfl IntR.good w.heap.size 3 i0 _ 8 Tryz.underlying30 hi0 hz0 hz1 hz2 rfl (by omega) _ (choC bits k) (k : Int) len Hlen.out rfl (HO.out.alloc IntR.good _) ⟨wr.heap.size, 0, none⟩ 1 [.int .i64 k] rfl rfl (news_new rfl (by simp)) ?c1 ?c2 ?c3 (fun h => h) ?_)
        case c1 => simp only [maxLen]; omega
        case c2 => omega
        case c3 => have := HB.out.size; simp; omega
        intro A' cap' w2 hown2 hg2 hat2
        have hB3 : Below w.heap.size w w2 := bl_grown (bl_alloc HB.out _ (Nat.le_refl _)) (HO.out.alloc IntR.good _) hg2 (Nat.le_refl _) (Nat.le_refl _)
        have HOW := Lib.hid hown2
        clear hg2 hat2 hown2
        go_wp2
        go_roundw
        case rel => exact ⟨k + 1, len + 1, cap', _, by omega, by go_num, rfl, hB3, by rw [HSx.out]; exact HOW.out, by rw [Hid, HSx.out, if_pos trivial, List.length_append, Hlen.out]; rfl⟩
        case measure => simp [intOf]; omega
      | false =>
        go_wp2_with fail
        go_roundw
        case rel => exact ⟨k + 1, len, cap, An, by omega, by go_num, rfl, HB.out, by rw [HSx.out]; exact HO.out, by rw [Hid, HSx.out]; exact Hlen.out⟩
        case measure => simp [intOf]; omega
    · obtain rfl : k = n := by omega
      have hki : ¬ (k : Int) < k := by omega
      go_wp2_with fail
      go_ret
      exact ⟨⟨An, len, cap, by rfl, HO.out.slice IntR.good rfl (by simp only [maxLen]; omega) (fun _ h => h.elim) (fun j h _ => h)⟩, HB.out⟩
end Go.Proofs.YtpdldmichpmgmaaGreat
