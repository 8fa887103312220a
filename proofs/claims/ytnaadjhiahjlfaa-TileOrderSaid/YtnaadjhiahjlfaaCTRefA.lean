/- Walks: the reference's in and tile. -/
import Derived.Test.YtnaadjhiahjlfaaCHelp1
import Derived.Test.YtnaadjhiahjlfaaCSmalls
import Derived.Test.YtnaadjhiahjlfaaCTCheck
set_option linter.unusedVariables false
set_option linter.unusedSimpArgs false
set_option linter.all false
namespace Go.Proofs.Ytnaadjhiahjlfaa
open Go.RowKit

set_option maxHeartbeats 400000 in
theorem in8_any (n lo hi : Int) (w : World) :
    Calls Try.prog 93 #[.int .i64 n, .int .i64 lo, .int .i64 hi] w fun e w' => e = .returned (.bool (inB n lo hi)) ∧ w = w' := by
  go_enter Try.func93, Try.ntmps93
  go_wp2
  all_goals
    go_ret
    exact ⟨ret_bool (by simp [inB, *]; try omega), rfl⟩

theorem range_cases (a z lo hi : Int) : rangeE ⟨a, z⟩ lo hi = 7 ∨ rangeE ⟨a, z⟩ lo hi = 2 ∨ (rangeE ⟨a, z⟩ lo hi = 0) := by
  unfold rangeE; split
  · exact .inl rfl
  · split
    · exact .inr (.inl rfl)
    · exact .inr (.inr rfl)
theorem range_0 {a z lo hi : Int} (h : rangeE ⟨a, z⟩ lo hi = 0) : lo ≤ a ∧ a ≤ z ∧ z ≤ hi := by
  simp [rangeE, inB] at h; omega
theorem range_2 {a z lo hi : Int} (h : rangeE ⟨a, z⟩ lo hi = 2) : lo ≤ a ∧ a ≤ hi ∧ lo ≤ z ∧ z ≤ hi ∧ z < a := by
  unfold rangeE at h
  dsimp only at h
  split at h
  · cases h
  · rename_i g; simp [inB] at g
    split at h
    · omega
    · cases h
theorem range_7 {a z lo hi : Int} (h : rangeE ⟨a, z⟩ lo hi = 7) : inB a lo hi = false ∨ inB z lo hi = false := by
  unfold rangeE at h
  dsimp only at h
  split at h
  · rename_i g
    simp only [Bool.or_eq_true, Bool.not_eq_true', Bool.not_eq_true] at g
    exact g
  · split at h <;> cases h
def tileS (s : List UInt8) (a z y u : Int) (names : List (List UInt8)) : Int := if fresh s names ≠ 0 then fresh s names else tileN ⟨s, a, z, y, u⟩
theorem tileE_ref {l : List Tile} {k : Nat} {s : List UInt8} {a z y u : Int} (h : l[k]? = some ⟨s, a, z, y, u⟩) : tileE l k = tileS s a z y u ((l.take k).map (·.name)) := by
  unfold tileE; rw [getD_of h]; rfl
theorem tileN_7 {s : List UInt8} {a z y u : Int} (h : rangeE ⟨a, z⟩ 1 20000 = 7 ∨ rangeE ⟨y, u⟩ 0 20 = 7) : tileN ⟨s, a, z, y, u⟩ = 7 := by
  unfold tileN
  rw [if_pos]
  rcases h with h | h
  all_goals rcases range_7 h with h | h <;> simp [h]
theorem tileN_2 {s : List UInt8} {a z y u : Int} (h1 : rangeE ⟨a, z⟩ 1 20000 ≠ 7) (h2 : rangeE ⟨y, u⟩ 0 20 ≠ 7) :
    tileN ⟨s, a, z, y, u⟩ = if z < a ∨ a + 10 < z ∨ u < y ∨ y + 3 < u then 2 else 0 := by
  have h3 : (!inB a 1 20000 || !inB z 1 20000) = false := by
    rcases range_cases a z 1 20000 with h | h | h
    · exact absurd h h1
    · have := range_2 h; simp [inB]; omega
    · have := range_0 h; simp [inB]; omega
  have h4 : (!inB y 0 20 || !inB u 0 20) = false := by
    rcases range_cases y u 0 20 with h | h | h
    · exact absurd h h2
    · have := range_2 h; simp [inB]; omega
    · have := range_0 h; simp [inB]; omega
  unfold tileN
  dsimp only
  rw [if_neg (by simp only [h3, Bool.false_or, Bool.or_assoc, h4]; decide)]
  by_cases hc : z < a ∨ a + 10 < z ∨ u < y ∨ y + 3 < u
  · rw [if_pos hc, if_pos (by simp [inB]; omega)]
  · rw [if_neg hc, if_neg (by simp [inB]; omega)]

set_option maxHeartbeats 1000000 in
theorem rtile_any {S : Foot} {A : Option Addr} {n c : Nat} {xs : List (List UInt8)} (s : ByteArray) (a z y u : Int) (w : World) (h : Strs S w A n xs) (hs : s.size ≤ 9223372036854775807) :
    Calls Try.prog 94 #[.agg #[.string s, .int .i64 a, .int .i64 z, .int .i64 y, .int .i64 u], .slice A n c] w fun e w' => e = .returned (.int .i64 (tileS s.data.toList a z y u xs)) ∧ Below w.heap.size w w' := by
  obtain ⟨W, hW⟩ : ∃ W, w.alloc (.cells #[.string s, .int .i64 a, .int .i64 z, .int .i64 y, .int .i64 u] 159) = W := ⟨_, rfl⟩
  have X : Blk W w.heap.size 159 #[.string s, .int .i64 a, .int .i64 z, .int .i64 y, .int .i64 u] := by rw [← hW]; exact Blk.new _ _ _ rfl
  have hr : Strs S W A n xs := by rw [← hW]; exact h.keep StrR.good (Keeps.alloc _ _)
  have hBW : Below w.heap.size w W := by rw [← hW]; exact bl_alloc (Below.refl _ _) _ (Nat.le_refl _)
  have hWs : w.heap.size ≤ W.heap.size := hBW.size
  have hWl : w.heap.size < W.heap.size := X.lt
  have HW := Lib.hid hW
  have x0 : W.cell? ⟨w.heap.size, 0, none⟩ = some (.string s) := X.cell 0
  have x1 : W.cell? ⟨w.heap.size, 1, none⟩ = some (.int .i64 a) := X.cell 1
  have x2 : W.cell? ⟨w.heap.size, 2, none⟩ = some (.int .i64 z) := X.cell 2
  have x3 : W.cell? ⟨w.heap.size, 3, none⟩ = some (.int .i64 y) := X.cell 3
  have x4 : W.cell? ⟨w.heap.size, 4, none⟩ = some (.int .i64 u) := X.cell 4
  clear hW h
  go_enter Try.func94, Try.ntmps94
  go_wp2_with fail
  rw [HW.out]
  refine (fresh_any s _ hr hs).mono ?_
  rintro e w' ⟨rfl, rfl⟩
  by_cases hf : fresh s.data.toList xs = 0
  · have hfb : (fresh s.data.toList xs != 0) = false := by rw [hf]; rfl
    have HE : Hid (tileS s.data.toList a z y u xs = tileN ⟨s.data.toList, a, z, y, u⟩) := by rw [Hid, tileS, if_neg (by simp [hf])]
    clear hf
    go_wp2
    have hx0 := Lib.hid hr
    clear hr
    refine wp_region_list (fun w' => Below W.heap.size W w') (fun w w' => Below w.heap.size w w')
      [isV (.pointer (some ⟨w.heap.size, 1, none⟩)), isV (.agg #[.int .i64 a, .int .i64 z]), isV (.int .i64 (rangeE ⟨a, z⟩ 1 20000)), isV (.pointer (some ⟨w.heap.size, 3, none⟩)), isV (.agg #[.int .i64 y, .int .i64 u]), isV (.int .i64 (rangeE ⟨y, u⟩ 0 20)), isV (.int .i64 (rangeE ⟨a, z⟩ 1 20000))]
      (by kernel_rfl) (by kernel_rfl) (by kernel_rfl) (by simp) (by simp) (Below.refl _ _).drew ?stab ?step ?fin
    case stab => exact StabL.is (StabL.is (StabL.is (StabL.is (StabL.is (StabL.is (StabL.is StabL.nil))))))
    case step =>
      refine StepsL.is ?_ (StepsL.is ?_ (StepsL.is ?_ (StepsL.is ?_ (StepsL.is ?_ (StepsL.is ?_ (StepsL.is ?_ StepsL.nil))))))
      all_goals
        intro vs W' K hC hD hU hK
        simp only [fillA, Act.put, List.setIfInBounds_toArray, List.set_cons_zero, List.set_cons_succ, Nat.zero_add, Nat.reduceAdd] at hK ⊢
        simp [waits, Region.binds] at hD
        try simp only [envOf, List.getD_cons_succ, List.getD_cons_zero, isV] at hD
        try simp only [hD] at hK ⊢
      · go_simp; exact hK _ hC (Below.refl _ _)
      · have k1 := getc hC x1; have k2 := getc hC x2; go_simp; exact hK _ hC (Below.refl _ _)
      · go_simp
        refine (range_any a z 1 20000 _).mono ?_
        rintro e w1 ⟨rfl, b1⟩
        exact hK _ (bl_call hC b1 (Nat.le_refl _)) b1
      · go_simp; exact hK _ hC (Below.refl _ _)
      · have k1 := getc hC x3; have k2 := getc hC x4; go_simp; exact hK _ hC (Below.refl _ _)
      · go_simp
        refine (range_any y u 0 20 _).mono ?_
        rintro e w1 ⟨rfl, b1⟩
        exact hK _ (bl_call hC b1 (Nat.le_refl _)) b1
      · go_simp; exact hK _ hC (Below.refl _ _)
    case fin =>
      intro vs W' hC hE hU
      have e2 := hE 6 (by simp)
      have e5 := hE 5 (by simp)
      simp only [envOf, List.getD_cons_succ, List.getD_cons_zero, isV] at e2 e5
      simp only [fillA, Act.put, List.setIfInBounds_toArray, List.set_cons_zero, List.set_cons_succ, Nat.zero_add, Nat.reduceAdd, e2, e5]
      clear e2 e5 hE hU
      simp [Region.wanted, yielded]
      have y1 := getc hC x1
      have y2 := getc hC x2
      have y3 := getc hC x3
      have y4 := getc hC x4
      clear x0 x1 x2 x3 x4 hx0
      by_cases h7 : rangeE ⟨a, z⟩ 1 20000 = 7 ∨ rangeE ⟨y, u⟩ 0 20 = 7
      · have HF := Lib.hid (tileN_7 (s := s.data.toList) h7)
        rcases h7 with h7 | h7
        all_goals
          rcases range_cases a z 1 20000 with hr1 | hr1 | hr1
          all_goals
            rcases range_cases y u 0 20 with hr2 | hr2 | hr2
            all_goals first
              | (rw [hr1] at h7; exact absurd h7 (by decide))
              | (rw [hr2] at h7; exact absurd h7 (by decide))
              | (rw [hr1, hr2]
                 clear h7 hr1 hr2
                 go_wp2
                 go_ret
                 exact ⟨ret_int (by rw [HE.out, HF.out]), hBW.trans (hC.mono hWs)⟩)
      · have HF := Lib.hid (tileN_2 (s := s.data.toList) (fun h => h7 (.inl h)) (fun h => h7 (.inr h)))
        have hr1 := (range_cases a z 1 20000).resolve_left fun h => h7 (.inl h)
        have hr2 := (range_cases y u 0 20).resolve_left fun h => h7 (.inr h)
        clear h7
        rcases hr1 with hr1 | hr1 <;> rcases hr2 with hr2 | hr2
        · have := range_2 hr1
          have HG := Lib.hid (HF.out.trans (if_pos (by omega)))
          rw [hr1, hr2]
          clear hr1 hr2 this
          go_wp2
          go_ret
          exact ⟨ret_int (by rw [HE.out, HG.out]), hBW.trans (hC.mono hWs)⟩
        · have := range_2 hr1
          have HG := Lib.hid (HF.out.trans (if_pos (by omega)))
          rw [hr1, hr2]
          clear hr1 hr2 this
          go_wp2
          go_ret
          exact ⟨ret_int (by rw [HE.out, HG.out]), hBW.trans (hC.mono hWs)⟩
        · have := range_2 hr2
          have HG := Lib.hid (HF.out.trans (if_pos (by omega)))
          rw [hr1, hr2]
          clear hr1 hr2 this
          go_wp2
          go_ret
          exact ⟨ret_int (by rw [HE.out, HG.out]), hBW.trans (hC.mono hWs)⟩
        · have t1 := range_0 hr1
          have t2 := range_0 hr2
          have hw1 : IntKind.i64.wrap (a + 10) = a + 10 := by rw [IntKind.wrap_i64]; omega
          have hw2 : IntKind.i64.wrap (y + 3) = y + 3 := by rw [IntKind.wrap_i64]; omega
          rw [hr1, hr2]
          have T := Lib.hid (And.intro t1 t2)
          clear hr1 hr2 t1 t2
          by_cases ha : z > a + 10
          · have HG := Lib.hid (HF.out.trans (if_pos (by omega)))
            go_wp2
            go_ret
            exact ⟨ret_int (by rw [HE.out, HG.out]), hBW.trans (hC.mono hWs)⟩
          · by_cases hb : u > y + 3
            · have HG := Lib.hid (HF.out.trans (if_pos (by omega)))
              go_wp2
              go_ret
              exact ⟨ret_int (by rw [HE.out, HG.out]), hBW.trans (hC.mono hWs)⟩
            · have HG := Lib.hid (HF.out.trans (if_neg (by have := T.out; omega)))
              go_wp2
              go_ret
              exact ⟨ret_int (by rw [HE.out, HG.out]), hBW.trans (hC.mono hWs)⟩
  · have hfb : (fresh s.data.toList xs != 0) = true := by simpa using hf
    have HE : Hid (tileS s.data.toList a z y u xs = fresh s.data.toList xs) := by rw [Hid, tileS, if_pos hf]
    clear hf
    go_wp2
    go_ret
    exact ⟨ret_int HE.out.symm, hBW⟩

end Go.Proofs.Ytnaadjhiahjlfaa
