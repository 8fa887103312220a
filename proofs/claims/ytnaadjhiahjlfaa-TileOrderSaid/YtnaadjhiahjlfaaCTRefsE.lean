/- Walks: the reference's Agree, Wide. -/
import Derived.Test.YtnaadjhiahjlfaaCTAt
import Derived.Test.YtnaadjhiahjlfaaCTRefD
set_option linter.unusedVariables false
set_option linter.unusedSimpArgs false
set_option linter.all false
namespace Go.Proofs.Ytnaadjhiahjlfaa
open Go.RowKit

theorem agree_all {h : Hall} {l : List Seen} (g : ∀ j, j < h.tiles.length → twosL h l j ≠ []) : agree8 h l = true := by
  unfold agree8
  rw [List.all_eq_true]
  intro t ht
  have := g t (List.mem_range.1 ht)
  cases e : twosL h l t with
  | nil => exact absurd e this
  | cons x xs => rfl
theorem agree_no {h : Hall} {l : List Seen} {t : Nat} (ht : t < h.tiles.length) (g : twosL h l t = []) : agree8 h l = false := by
  cases e : agree8 h l
  · rfl
  · exact absurd g (agree_ne e ht)

set_option maxHeartbeats 1000000 in
theorem ragree_any {A B C : Option Addr} {n ca m cb q cc : Nat} {h : Hall} {l : List Seen} {v1 v2 v3 : Value} (w : World) (g : HallAt (fun _ => True) w A n B m h) (gs : Seens (fun _ => True) w C q l)
    (hv1 : v1.oneCell' = true) (hv2 : v2.oneCell' = true) (hv3 : v3.oneCell' = true) (hk : OkH h) (hq6 : l.length ≤ 6) (hsn : ∀ (k : Nat) (y : Seen), l[k]? = some y → 0 ≤ y.air ∧ y.air ≤ 40) :
    Calls Try.prog 59 #[.agg #[v1, v2, v3, .slice A n ca, .slice B m cb], .slice C q cc] w fun e w' => e = .returned (.bool (agree8 h l)) ∧ Below w.heap.size w w' := by
  have hle := g.ts.le
  have Hn := Lib.hid g.ts.len
  obtain ⟨W, hW⟩ : ∃ W, w.alloc (.cells #[v1, v2, v3, .slice A n ca, .slice B m cb] 27) = W := ⟨_, rfl⟩
  have X : Blk W w.heap.size 27 #[v1, v2, v3, .slice A n ca, .slice B m cb] := by rw [← hW]; exact Blk.new _ _ _ rfl
  have hBW : Below w.heap.size w W := by rw [← hW]; exact bl_alloc (Below.refl _ _) _ (Nat.le_refl _)
  have hc := g.keep (Keeps.below hBW)
  have hs := gs.keep SeenR.good (Keeps.below hBW)
  have hWs : w.heap.size ≤ W.heap.size := hBW.size
  have HW := Lib.hid hW
  have x0 : W.cell? ⟨w.heap.size, 0, none⟩ = some v1 := X.cell 0
  have x1 : W.cell? ⟨w.heap.size, 1, none⟩ = some v2 := X.cell 1
  have x2 : W.cell? ⟨w.heap.size, 2, none⟩ = some v3 := X.cell 2
  have x3 : W.cell? ⟨w.heap.size, 3, none⟩ = some (.slice A n ca) := X.cell 3
  have x4 : W.cell? ⟨w.heap.size, 4, none⟩ = some (.slice B m cb) := X.cell 4
  clear hW g gs X
  go_enter Try.func59, Try.ntmps59
  go_wp2_with fail
  rw [HW.out]
  go_loopw [5] (fun i wr => ∃ k : Nat, k ≤ n ∧ i = .int .i64 k ∧ Below W.heap.size W wr ∧ Hid (∀ j, j < k → twosL h l j ≠ [])) (fun i _ => n - (intOf i).toNat)
  case atStart => exact ⟨0, Nat.zero_le _, rfl, Below.refl _ _, fun j h => by omega⟩
  case round =>
    obtain ⟨k, hk', rfl, hB, Hz⟩ := hrel
    have y0 := getc hB x0
    have y1 := getc hB x1
    have y2 := getc hB x2
    have y3 := getc hB x3
    have y4 := getc hB x4
    by_cases hlt : k < n
    · have hki : (k : Int) < n := by omega
      have hkt : k < h.tiles.length := by rw [Hn.out]; exact hlt
      go_wp2_with fail
      refine (twos_any wr (hc.keep (Keeps.below hB)) (hs.keep SeenR.good (Keeps.below hB)) hv1 hv2 hv3 hk hkt hq6 hsn).mono ?_
      rintro e w1 ⟨⟨A', k', c', rfl, hT⟩, hb1⟩
      have hB1 := bl_call hB hb1 (Nat.le_refl _)
      have Hl := Lib.hid hT.len
      clear hT hb1 y0 y1 y2 y3 y4
      by_cases h0 : k' = 0
      · subst h0
        have HR := Lib.hid (agree_no hkt (List.eq_nil_of_length_eq_zero Hl.out))
        go_wp2
        go_ret
        exact ⟨ret_bool HR.out.symm, hBW.trans (hB1.mono hWs)⟩
      · have h0b : ((k' : Int) == 0) = false := by simp; omega
        have h0' : ¬ (k' : Int) = 0 := by omega
        have HN : Hid (twosL h l k ≠ []) := fun e => h0 (by rw [← Hl.out, e]; rfl)
        go_wp2
        go_roundw
        case rel => exact ⟨k + 1, by omega, by go_num, hB1, fun j hj => by rcases Nat.lt_or_eq_of_le (Nat.le_of_lt_succ hj) with h1 | h1; exact Hz.out j h1; rw [h1]; exact HN.out⟩
        case measure => simp [intOf]; omega
    · obtain rfl : k = n := by omega
      have HR := Lib.hid (agree_all fun j hj => Hz.out j (by rw [← Hn.out]; exact hj))
      go_wp2
      go_ret
      exact ⟨ret_bool HR.out.symm, hBW.trans (hB.mono hWs)⟩

end Go.Proofs.Ytnaadjhiahjlfaa
