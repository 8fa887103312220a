/- Walks: comparing numbers and lists (taken out of XTSort). -/
import Derived.Test.YtpdldmichpmgmaaGreatCTGen
import Derived.Test.YtpdldmichpmgmaaGreatCTSorts
set_option linter.unusedVariables false
set_option linter.unusedSimpArgs false
set_option linter.all false
namespace Go.Proofs.YtpdldmichpmgmaaGreat
open Go.RowKit Go.Shelf

theorem nan_int (x : Int) (w : World) : Calls Tryz.prog 105 #[.int .i64 x] w fun e w' => e = .returned (.bool false) ∧ w = w' := by
  go_enter Tryz.func105, Tryz.ntmps105
  go_wp2
  go_ret
  exact ⟨rfl, rfl⟩
set_option maxHeartbeats 400000 in
theorem cmp_int (x y : Int) (w : World) : Calls Tryz.prog 82 #[.int .i64 x, .int .i64 y] w fun e w' => e = .returned (.int .i64 (cmpI x y)) ∧ w = w' := by
  by_cases h : x < y
  · have HR : Hid (cmpI x y = -1) := by rw [Hid, cmpI, if_pos h]
    go_enter Tryz.func82, Tryz.ntmps82
    go_wp2_with (go_at_call 105; refine (nan_int _ _).mono ?_; rintro e w' ⟨rfl, rfl⟩)
    go_ret
    exact ⟨by rw [HR.out]; rfl, rfl⟩
  · by_cases h2 : y < x
    · have HR : Hid (cmpI x y = 1) := by rw [Hid, cmpI, if_neg h, if_pos h2]
      go_enter Tryz.func82, Tryz.ntmps82
      go_wp2_with (go_at_call 105; refine (nan_int _ _).mono ?_; rintro e w' ⟨rfl, rfl⟩)
      go_ret
      exact ⟨by rw [HR.out]; rfl, rfl⟩
    · have HR : Hid (cmpI x y = 0) := by rw [Hid, cmpI, if_neg h, if_neg h2]
      go_enter Tryz.func82, Tryz.ntmps82
      go_wp2_with (go_at_call 105; refine (nan_int _ _).mono ?_; rintro e w' ⟨rfl, rfl⟩)
      go_ret
      exact ⟨by rw [HR.out]; rfl, rfl⟩
set_option maxHeartbeats 1000000 in
theorem compare_any {S T : Foot} {A B : Option Addr} {n c m d : Nat} {xs ys : List Int} (w : World) (h : Ints S w A n xs) (g : Ints T w B m ys) :
    Calls Tryz.prog 62 #[.slice A n c, .slice B m d] w fun e w' => e = .returned (.int .i64 (lexC xs ys)) ∧ w = w' := by
  have hle := h.le
  have gle := g.le
  have Hn := Lib.hid h.len
  have Hm := Lib.hid g.len
  go_enter Tryz.func62, Tryz.ntmps62
  go_wp2
  go_loop [11] (fun i => ∃ k : Nat, k ≤ n ∧ k ≤ m ∧ i = .int .i64 k ∧ Hid (lexC xs ys = lexC (xs.drop k) (ys.drop k))) (fun i => n - (intOf i).toNat)
  case atStart => exact ⟨0, Nat.zero_le _, Nat.zero_le _, rfl, rfl⟩
  case round =>
    obtain ⟨k, hk, hkm, rfl, Hl⟩ := hrel
    by_cases hlt : k < n
    · obtain ⟨b, off, x, rfl, hcell, Hx⟩ := h.get hlt
      have hdx := drop_cons Hx.out
      have hki : (k : Int) < n := by omega
      by_cases hmt : k < m
      · have hmi : (k : Int) < m := by omega
        obtain ⟨b', off', y, rfl, hcell', Hy⟩ := g.get hmt
        have hdy := drop_cons Hy.out
        have Hstep : Hid (lexC xs ys = if cmpI x y = 0 then lexC (xs.drop (k + 1)) (ys.drop (k + 1)) else cmpI x y) := by rw [Hid, Hl.out, hdx, hdy, lexC]
        clear hdx hdy
        generalize hz : cmpI x y = z at *
        have Hz := Lib.hid hz
        clear hz
        by_cases h0 : z = 0
        · subst h0
          go_wp2_with (go_at_call 82; refine (cmp_int _ _ _).mono ?_; rintro e w' ⟨rfl, rfl⟩; rw [Hz.out])
          go_round
          case rel => exact ⟨k + 1, by omega, by omega, by go_num, by rw [Hid, Hstep.out]; simp⟩
          case measure => simp [intOf]; omega
        · have h0b : (z != 0) = true := by simpa using h0
          have HR : Hid (lexC xs ys = z) := by rw [Hid, Hstep.out, if_neg h0]
          clear h0
          go_wp2_with (go_at_call 82; refine (cmp_int _ _ _).mono ?_; rintro e w' ⟨rfl, rfl⟩; rw [Hz.out])
          go_ret
          exact ⟨by rw [HR.out]; rfl, rfl⟩
      · obtain rfl : k = m := by omega
        have HR : Hid (lexC xs ys = 1) := by have hdy : ys.drop k = [] := List.drop_of_length_le (by rw [Hm.out]; exact Nat.le_refl _); rw [Hid, Hl.out, hdx, hdy, lexC]
        clear hdx
        go_wp2
        go_ret
        exact ⟨by rw [HR.out]; rfl, rfl⟩
    · obtain rfl : k = n := by omega
      have hd0 : xs.drop k = [] := List.drop_of_length_le (by rw [Hn.out]; exact Nat.le_refl _)
      by_cases hmt : k < m
      · have HR : Hid (lexC xs ys = -1) := by
          obtain ⟨y, hy⟩ : ∃ y, ys[k]? = some y := ⟨_, List.getElem?_eq_getElem (by rw [Hm.out]; exact hmt)⟩
          rw [Hid, Hl.out, hd0, drop_cons hy, lexC]
        clear hd0
        go_wp2
        go_ret
        exact ⟨by rw [HR.out]; rfl, rfl⟩
      · have HR : Hid (lexC xs ys = 0) := by have hdy : ys.drop k = [] := List.drop_of_length_le (by rw [Hm.out]; omega); rw [Hid, Hl.out, hd0, hdy, lexC]
        clear hd0
        go_wp2
        go_ret
        exact ⟨by rw [HR.out]; rfl, rfl⟩

end Go.Proofs.YtpdldmichpmgmaaGreat
