/- Walks: the reference's Width. -/
import Derived.Test.YtpbimgafafkjgaaCTRefF
import Derived.Test.YtpbimgafafkjgaaCTWidth
set_option linter.unusedVariables false
set_option linter.unusedSimpArgs false
set_option linter.all false
namespace Go.Proofs.Ytpbimgafafkjgaa
open Go.RowKit

theorem width8_ref {h : Hall} {l : List Seen} {t a : Int} (e : (seen8 h l).2 = 0) : width8 h l t a = if inB t 0 ((h.tiles.length : Int) - 1) = false then ((0, 0), 4) else if inB a 0 40 = false then ((0, 0), 7) else if agree8 h l = false then ((0, 0), 9) else (wide8 h l t.toNat a, 0) := by
  rw [width8, if_neg (by simp [e])]
  cases inB t 0 ((h.tiles.length : Int) - 1) <;> cases inB a 0 40 <;> simp

theorem seen_air {h : Hall} {l : List Seen} (e : (seen8 h l).2 = 0) : OkH h ∧ l.length ≤ 6 ∧ ∀ (k : Nat) (y : Seen), l[k]? = some y → 0 ≤ y.air ∧ y.air ≤ 40 := by
  obtain ⟨h1, h2, h3⟩ := seen_zero e
  refine ⟨okH_of h1, h2, fun k y hy => ?_⟩
  have := h3 k (of_getq hy)
  rw [seenE_ref (a := y.tile) (z := y.air) (y := y.lo) (u := y.hi) hy] at this
  split at this
  · cases this
  · split at this
    · cases this
    · rename_i g; simp [inB] at g; omega

set_option maxRecDepth 100000 in
set_option maxHeartbeats 2000000 in
theorem rwidth_any {A B C : Option Addr} {n ca m cb q cc : Nat} {h : Hall} {l : List Seen} {alo ahi most : Int} (t a : Int) (w : World) (g : HallAt (fun _ => True) w A n B m h) (gs : Seens (fun _ => True) w C q l) (h1 : h.alo = alo) (h2 : h.ahi = ahi) (h3 : h.most = most) :
    Calls Try.prog 20 #[.agg #[.int .i64 alo, .int .i64 ahi, .int .i64 most, .slice A n ca, .slice B m cb], .slice C q cc, .int .i64 t, .int .i64 a] w fun e w' =>
      e = .returned (.tuple #[.agg #[.int .i64 (width8 h l t a).1.1, .int .i64 (width8 h l t a).1.2], .int .i64 (width8 h l t a).2]) ∧ Below w.heap.size w w' := by
  obtain ⟨W, hW⟩ : ∃ W, (w.alloc (.cells #[.int .i64 alo, .int .i64 ahi, .int .i64 most, .slice A n ca, .slice B m cb] 27)).alloc (.cells #[.int .i64 0, .int .i64 0] 23) = W := ⟨_, rfl⟩
  have X : Blk W w.heap.size 27 #[.int .i64 alo, .int .i64 ahi, .int .i64 most, .slice A n ca, .slice B m cb] := by rw [← hW]; exact (Blk.new _ _ _ rfl).alloc _
  have X8 : Blk W (w.heap.size + 1) 23 #[.int .i64 0, .int .i64 0] := by rw [← hW]; exact Blk.new _ _ _ (by simp)
  have hBW : Below w.heap.size w W := by rw [← hW]; exact bl_alloc (bl_alloc (Below.refl _ _) _ (Nat.le_refl _)) _ (Nat.le_refl _)
  have hc : HallAt (fun _ => True) W A n B m h := g.keep (Keeps.below hBW)
  have hs : Seens (fun _ => True) W C q l := gs.keep SeenR.good (Keeps.below hBW)
  have Hn := Lib.hid hc.ts.len
  have hlen := hc.ts.le
  have HW := Lib.hid hW
  have x0 : W.cell? ⟨w.heap.size, 0, none⟩ = some (.int .i64 alo) := X.cell 0
  have x1 : W.cell? ⟨w.heap.size, 1, none⟩ = some (.int .i64 ahi) := X.cell 1
  have x2 : W.cell? ⟨w.heap.size, 2, none⟩ = some (.int .i64 most) := X.cell 2
  have x3 : W.cell? ⟨w.heap.size, 3, none⟩ = some (.slice A n ca) := X.cell 3
  have x4 : W.cell? ⟨w.heap.size, 4, none⟩ = some (.slice B m cb) := X.cell 4
  have hw1 : IntKind.i64.wrap ((n : Int) - 1) = (n : Int) - 1 := by rw [IntKind.wrap_i64]; omega
  clear hW g gs X
  go_enter Try.func20, Try.ntmps20
  go_wp2_with fail
  rw [HW.out]
  go_wp2_with fail
  refine (rseen_any W hc hs h1 h2 h3).mono ?_
  rintro e W1 ⟨rfl, b1⟩
  have B1 : Below w.heap.size w W1 := bl_call hBW b1 (Nat.le_refl _)
  have Y1 := X8.bl b1
  have y0 := Y1.cell 0
  have y1 := Y1.cell 1
  have fy0 := Y1.frozen 0
  have fy1 := Y1.frozen 1
  have hyl := Y1.lt
  by_cases he : (seen8 h l).2 = 0
  · obtain ⟨hokh, hq6, hsn⟩ := seen_air he
    have HW8 : Hid (width8 h l t a = _) := width8_ref he
    have z0 := getc b1 x0
    have z1 := getc b1 x1
    have z2 := getc b1 x2
    have z3 := getc b1 x3
    have z4 := getc b1 x4
    have hc1 := hc.keep (Keeps.below b1)
    have hs1 := hs.keep SeenR.good (Keeps.below b1)
    rw [he]
    clear he X8 x0 x1 x2 x3 x4 hc hs b1
    cases ho1 : inB t 0 ((n : Int) - 1)
    · have HR : Hid (width8 h l t a = ((0, 0), 4)) := by rw [Hid, HW8.out, Hn.out, if_pos ho1]
      go_wp2_with (go_at_call 54; refine (in8_any _ _ _ _).mono ?_; rintro e w' ⟨rfl, rfl⟩)
      exact bodyPost_ret (ret_span rfl rfl rfl (Y1.set2 _ _).c0 (Y1.set2 _ _).c1) rfl ⟨by rw [HR.out], bl_set (bl_set B1 (by dsimp only; omega) _) (by dsimp only; omega) _⟩
    · cases ho2 : inB a 0 40
      · have HR : Hid (width8 h l t a = ((0, 0), 7)) := by rw [Hid, HW8.out, Hn.out, if_neg (by rw [ho1]; decide), if_pos ho2]
        go_wp2_with (go_at_call 54; refine (in8_any _ _ _ _).mono ?_; rintro e w' ⟨rfl, rfl⟩)
        exact bodyPost_ret (ret_span rfl rfl rfl (Y1.set2 _ _).c0 (Y1.set2 _ _).c1) rfl ⟨by rw [HR.out], bl_set (bl_set B1 (by dsimp only; omega) _) (by dsimp only; omega) _⟩
      · have HR1 : Hid (width8 h l t a = _) := (HW8.out.trans (if_neg (by rw [Hn.out, ho1]; decide))).trans (if_neg (by rw [ho2]; decide))
        have hr1 : 0 ≤ t ∧ t ≤ (n : Int) - 1 := by simp [inB] at ho1; omega
        have hr2 : 0 ≤ a ∧ a ≤ 40 := by simp [inB] at ho2; omega
        obtain ⟨t', rfl⟩ := Int.eq_ofNat_of_zero_le hr1.1
        obtain ⟨a', rfl⟩ := Int.eq_ofNat_of_zero_le hr2.1
        have htn : t' < h.tiles.length := by rw [Hn.out]; omega
        have ha40 : a' ≤ 40 := by omega
        clear HW8 hr1 hr2
        go_wp2_with (go_at_call 54; refine (in8_any _ _ _ _).mono ?_; rintro e w' ⟨rfl, rfl⟩)
        refine (ragree_any W1 hc1 hs1 rfl rfl rfl hokh hq6 hsn).mono ?_
        rintro e W2 ⟨rfl, b2⟩
        have B2 : Below w.heap.size w W2 := bl_call B1 b2 (Nat.le_refl _)
        have Y2 := Y1.bl b2
        clear y0 y1 fy0 fy1 hyl ho1 ho2
        have y0 := Y2.cell 0
        have y1 := Y2.cell 1
        have fy0 := Y2.frozen 0
        have fy1 := Y2.frozen 1
        have hyl := Y2.lt
        cases hga : agree8 h l
        · have HR : Hid (width8 h l t' a' = ((0, 0), 9)) := by rw [Hid, HR1.out, if_pos hga]
          clear z0 z1 z2 z3 z4
          go_wp2_with fail
          exact bodyPost_ret (ret_span rfl rfl rfl (Y2.set2 _ _).c0 (Y2.set2 _ _).c1) rfl ⟨by rw [HR.out], bl_set (bl_set B2 (by dsimp only; omega) _) (by dsimp only; omega) _⟩
        · have HR : Hid (width8 h l t' a' = (wide8 h l t' a', 0)) := by rw [Hid, HR1.out, if_neg (by rw [hga]; decide)]; rfl
          have x0 := getc b2 z0
          have x1 := getc b2 z1
          have x2 := getc b2 z2
          have x3 := getc b2 z3
          have x4 := getc b2 z4
          have hc2 := hc1.keep (Keeps.below b2)
          have hs2 := hs1.keep SeenR.good (Keeps.below b2)
          clear z0 z1 z2 z3 z4 y0 y1 fy0 fy1 hyl hc1 hs1 b2 Y1
          go_wp2_with fail
          refine (rwide_any W2 hc2 hs2 rfl rfl rfl hokh hq6 hsn htn ha40 (agree_ne hga htn)).mono ?_
          rintro e W3 ⟨rfl, b3⟩
          have B3 : Below w.heap.size w W3 := bl_call B2 b3 (Nat.le_refl _)
          have Y3 := Y2.bl b3
          have y0 := Y3.cell 0
          have y1 := Y3.cell 1
          have fy0 := Y3.frozen 0
          have fy1 := Y3.frozen 1
          have hyl := Y3.lt
          clear x0 x1 x2 x3 x4
          go_wp2_with fail
          exact bodyPost_ret (ret_span rfl rfl rfl (Y3.set2 _ _).c0 (Y3.set2 _ _).c1) rfl ⟨by rw [HR.out], bl_set (bl_set B3 (by dsimp only; omega) _) (by dsimp only; omega) _⟩
  · have heb : ((seen8 h l).2 == 0) = false := by simpa using he
    have heb2 : ((seen8 h l).2 != 0) = true := by simpa using he
    have HR : Hid (width8 h l t a = ((0, 0), (seen8 h l).2)) := width8_bad he
    clear he
    go_wp2_with fail
    exact bodyPost_ret (ret_span rfl rfl rfl (Y1.set2 _ _).c0 (Y1.set2 _ _).c1) rfl ⟨by rw [HR.out], bl_set (bl_set B1 (by dsimp only; omega) _) (by dsimp only; omega) _⟩

end Go.Proofs.Ytpbimgafafkjgaa
