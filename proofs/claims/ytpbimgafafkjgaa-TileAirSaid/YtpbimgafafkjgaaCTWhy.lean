/- Walks: why a gap is not right. -/
import Derived.Test.YtpbimgafafkjgaaCTGap
set_option linter.unusedVariables false
set_option linter.unusedSimpArgs false
set_option linter.all false
namespace Go.Proofs.Ytpbimgafafkjgaa
open Go.RowKit Go.Shelf

theorem eg_r1 : Enters Try.prog 82 := enters_of Try.func82 (by kernel_rfl) rfl
theorem eg_r2 : Enters Try.prog 83 := enters_of Try.func83 (by kernel_rfl) rfl
theorem rule1_any (lo hi : Int) (w : World) : Calls Try.prog 82 #[.agg #[.int .i64 lo, .int .i64 hi]] w fun e w' => e = .returned (.bool (decide (lo < 0))) ∧ Below w.heap.size w w' := by
  go_enter Try.func82, Try.ntmps82
  go_wp2
  go_ret
  exact ⟨rfl, bl_alloc (Below.refl _ _) _ (Nat.le_refl _)⟩
theorem rule2_any (lo hi most : Int) (gc : Nat) (w : World) (hc : w.cell? ⟨gc, 2, none⟩ = some (.int .i64 most)) : Calls Try.prog 83 #[.agg #[.int .i64 lo, .int .i64 hi], .pointer (some ⟨gc, 0, none⟩)] w fun e w' => e = .returned (.bool (decide (most < hi))) ∧ Below w.heap.size w w' := by
  have h1 := oldc (o := .cells #[.int .i64 lo, .int .i64 hi] 23) hc
  go_enter Try.func83, Try.ntmps83
  go_wp2
  go_ret
  exact ⟨rfl, bl_alloc (Below.refl _ _) _ (Nat.le_refl _)⟩

set_option maxHeartbeats 1000000 in
theorem why_any {A B C : Option Addr} {n ca m cb q cc gh : Nat} {h : Hall} {l : List Seen} (lo hi : Int) (w : World) (H : HBox w gh A n ca B m cb C q cc h l) :
    Calls Try.prog 63 #[.pointer (some ⟨gh, 0, none⟩), .agg #[.int .i64 lo, .int .i64 hi]] w fun e w' => e = .returned (.int .i64 (wrong8 h.most (lo, hi))) ∧ Below w.heap.size w w' := by
  obtain ⟨⟨gm, gr, gc, MH, MR, c2, MM⟩, hs⟩ := H
  have HW : Hid (wrong8 h.most (lo, hi) = if lo < 0 then 1 else if hi > h.most then 2 else 0) := rfl
  have eg1 : ∀ args w, (callFunc 82 args).run Try.prog w = .ok (.enter 82 args) w := eg_r1
  have eg2 : ∀ args w, (callFunc 83 args).run Try.prog w = .ok (.enter 83 args) w := eg_r2
  have HE1 := Lib.hid eg1
  have HE2 := Lib.hid eg2
  obtain ⟨w0, hw0⟩ : ∃ w0, w.alloc (.cells #[.int .i64 lo, .int .i64 hi] 23) = w0 := ⟨_, rfl⟩
  have b0 : Below w.heap.size w w0 := by rw [← hw0]; exact bl_alloc (Below.refl _ _) _ (Nat.le_refl _)
  have X0 : Blk w0 w.heap.size 23 #[.int .i64 lo, .int .i64 hi] := by rw [← hw0]; exact Blk.new _ _ _ rfl
  have hcell : Hid (∀ W, Below w0.heap.size w0 W → (W.cell? ⟨gr, 0, none⟩ = some (.int .i64 1) ∧ W.cell? ⟨gr, 1, none⟩ = some (.func (.func 82) #[] #[]) ∧ W.cell? ⟨gr, 2, none⟩ = some (.int .i64 2) ∧ W.cell? ⟨gr, 3, none⟩ = some (.func (.func 83) #[] #[.pointer (some ⟨gc, 0, none⟩)])) ∧ (W.cell? ⟨gc, 2, none⟩ = some (.int .i64 h.most) ∧ W.cell? ⟨w.heap.size, 0, none⟩ = some (.int .i64 lo) ∧ W.cell? ⟨w.heap.size, 1, none⟩ = some (.int .i64 hi))) := fun W hb => by
    have hM := (MR.bl b0).bl hb
    have hX := X0.bl hb
    exact ⟨⟨hM.cell 0, hM.cell 1, hM.cell 2, hM.cell 3⟩, getc hb (getc b0 c2), hX.cell 0, hX.cell 1⟩
  have m7 := (MH.bl b0).cell 7
  have hgh := (MH.bl b0).lt
  have hgr := (MR.bl b0).lt
  have hxs := X0.lt
  have HW0 := Lib.hid hw0
  have HB0 := Lib.hid b0
  clear eg1 eg2 b0 MH MR c2 MM hs X0
  go_enter Try.func63, Try.ntmps63
  go_wp2_with fail
  clear m7 hw0
  go_loopw [4, 6, 12] (fun u4 _ i' wr => ∃ j : Nat, i' = .int .i64 j ∧ j ≤ 2 ∧ u4 = .int .i64 0 ∧ Hid (Below w0.heap.size w0 wr) ∧ Hid (0 < j → ¬ lo < 0) ∧ Hid (1 < j → ¬ hi > h.most)) (fun _ _ i' _ => 2 - (intOf i').toNat)
  case atStart => exact ⟨0, rfl, by omega, rfl, Below.refl _ _, fun h => by omega, fun h => by omega⟩
  case round =>
    obtain ⟨j, rfl, hj, rfl, HB, H1, H2⟩ := hrel
    obtain ⟨⟨k0, k1, k2, k3⟩, kc, kx0, kx1⟩ := hcell.out wr HB.out
    have hxr : w.heap.size < wr.heap.size := by have := HB.out.size; omega
    have hBt : Below w.heap.size w wr := HB0.out.trans (HB.out.mono HB0.out.size)
    by_cases hj0 : j = 0
    · subst hj0
      have eg1 := HE1.out
      cases hd : decide (lo < 0)
      · have HD := Lib.hid (of_decide_eq_false hd)
        have HDB := Lib.hid hd
        clear hd k2 k3
        go_wp2_with fail
        refine (rule1_any lo hi _).mono ?_
        rintro e w2 ⟨rfl, hb2⟩
        rw [HDB.out]
        have HB2 : Hid (Below w0.heap.size w0 w2) := bl_call (bl_alloc HB.out _ (Nat.le_refl _)) hb2 (Nat.le_refl _)
        clear hb2 k0 k1 kc kx0 kx1
        go_wp2_with fail
        go_roundw
        case rel => exact ⟨1, rfl, by omega, rfl, HB2.out, fun _ => by have := HD.out; omega, fun h => by omega⟩
        case measure => simp [intOf]
      · have HD := Lib.hid (of_decide_eq_true hd)
        have HDB := Lib.hid hd
        clear hd k2 k3
        go_wp2_with fail
        refine (rule1_any lo hi _).mono ?_
        rintro e w2 ⟨rfl, hb2⟩
        rw [HDB.out]
        have hc := getc hb2 (newc (w := wr) (cs := #[.int .i64 1, .func (.func 82) #[] #[]]) (t := 139) (i := 0) rfl rfl)
        have HB2 : Hid (Below w.heap.size w w2) := bl_call (bl_alloc hBt _ (Nat.le_refl _)) hb2 (Nat.le_refl _)
        have hl2 := hb2.size
        clear k0 k1 kc kx0 kx1
        go_wp2_with fail
        go_ret
        exact ⟨by rw [HW.out, if_pos HD.out]; rfl, HB2.out⟩
    · by_cases hj1 : j = 1
      · subst hj1
        have eg2 := HE2.out
        cases hd : decide (h.most < hi)
        · have HD := Lib.hid (of_decide_eq_false hd)
          have HDB := Lib.hid hd
          have kc' := oldc (o := .cells #[.int .i64 2, .func (.func 83) #[] #[.pointer (some ⟨gc, 0, none⟩)]] 139) kc
          clear hd k0 k1
          go_wp2_with fail
          refine (rule2_any lo hi h.most gc _ kc').mono ?_
          rintro e w2 ⟨rfl, hb2⟩
          rw [HDB.out]
          have HB2 : Hid (Below w0.heap.size w0 w2) := bl_call (bl_alloc HB.out _ (Nat.le_refl _)) hb2 (Nat.le_refl _)
          clear hb2 k2 k3 kc kc' kx0 kx1
          go_wp2_with fail
          go_roundw
          case rel => exact ⟨2, rfl, by omega, rfl, HB2.out, fun _ => by have := H1.out (by omega); omega, fun _ => by have := HD.out; omega⟩
          case measure => simp [intOf]
        · have HD := Lib.hid (of_decide_eq_true hd)
          have HDB := Lib.hid hd
          have kc' := oldc (o := .cells #[.int .i64 2, .func (.func 83) #[] #[.pointer (some ⟨gc, 0, none⟩)]] 139) kc
          clear hd k0 k1
          go_wp2_with fail
          refine (rule2_any lo hi h.most gc _ kc').mono ?_
          rintro e w2 ⟨rfl, hb2⟩
          rw [HDB.out]
          have hc := getc hb2 (newc (w := wr) (cs := #[.int .i64 2, .func (.func 83) #[] #[.pointer (some ⟨gc, 0, none⟩)]]) (t := 139) (i := 0) rfl rfl)
          have HB2 : Hid (Below w.heap.size w w2) := bl_call (bl_alloc hBt _ (Nat.le_refl _)) hb2 (Nat.le_refl _)
          have hl2 := hb2.size
          clear k2 k3 kc kc' kx0 kx1
          go_wp2_with fail
          go_ret
          exact ⟨by rw [HW.out, if_neg (by have := H1.out (by omega); omega), if_pos HD.out]; rfl, HB2.out⟩
      · obtain rfl : j = 2 := by omega
        have HBt := Lib.hid hBt
        clear k0 k1 k2 k3 kc kx0 kx1 hBt
        go_wp2_with fail
        go_ret
        exact ⟨by rw [HW.out, if_neg (by have := H1.out (by omega); omega), if_neg (by have := H2.out (by omega); omega)]; rfl, HBt.out⟩

end Go.Proofs.Ytpbimgafafkjgaa
