/- Walks: the program's Width. -/
import Derived.Test.YtpbimgafafkjgaaCTWhy
set_option linter.unusedVariables false
set_option linter.unusedSimpArgs false
set_option linter.all false
namespace Go.Proofs.Ytpbimgafafkjgaa
open Go.RowKit Go.Shelf

section
variable {h : Hall} {l : List Seen} {t a : Int}
theorem width8_bad (e : (seen8 h l).2 ≠ 0) : width8 h l t a = ((0, 0), (seen8 h l).2) := by rw [width8, if_pos e]
theorem width8_n (e : (seen8 h l).2 = 0) : width8 h l t a = if outB 0 ((h.tiles.length : Int) - 1) t then ((0, 0), 4) else if outB 0 40 a then ((0, 0), 7) else if agree8 h l = false then ((0, 0), 9) else (wide8 h l t.toNat a, 0) := by
  rw [width8, if_neg (by simp [e])]
  simp only [outB_inB]
end

set_option maxRecDepth 100000 in
set_option maxHeartbeats 1000000 in
theorem twidth_any {A B C : Option Addr} {n ca m cb q cc : Nat} {h : Hall} {l : List Seen} {alo ahi most : Int} (t a : Int) (w : World) (g : HallAt (fun _ => True) w A n B m h) (gs : Seens (fun _ => True) w C q l) (hca : n ≤ ca) (h1 : h.alo = alo) (h2 : h.ahi = ahi) (h3 : h.most = most) :
    Calls Try.prog 19 #[.agg #[.int .i64 alo, .int .i64 ahi, .int .i64 most, .slice A n ca, .slice B m cb], .slice C q cc, .int .i64 t, .int .i64 a] w fun e w' =>
      e = .returned (.tuple #[.agg #[.int .i64 (width8 h l t a).1.1, .int .i64 (width8 h l t a).1.2], .int .i64 (width8 h l t a).2]) ∧ Below w.heap.size w w' := by
  obtain ⟨W, hW⟩ : ∃ W, (w.alloc (.cells #[.int .i64 alo, .int .i64 ahi, .int .i64 most, .slice A n ca, .slice B m cb] 27)).alloc (.cells #[.int .i64 0, .int .i64 0] 23) = W := ⟨_, rfl⟩
  have X : Blk W w.heap.size 27 #[.int .i64 alo, .int .i64 ahi, .int .i64 most, .slice A n ca, .slice B m cb] := by rw [← hW]; exact (Blk.new _ _ _ rfl).alloc _
  have X8 : Blk W (w.heap.size + 1) 23 #[.int .i64 0, .int .i64 0] := by rw [← hW]; exact Blk.new _ _ _ (by simp)
  have hBW : Below w.heap.size w W := by rw [← hW]; exact bl_alloc (bl_alloc (Below.refl _ _) _ (Nat.le_refl _)) _ (Nat.le_refl _)
  have hc : HallAt (fun _ => True) W A n B m h := g.keep (Keeps.below hBW)
  have hs : Seens (fun _ => True) W C q l := gs.keep SeenR.good (Keeps.below hBW)
  have hWs : w.heap.size ≤ W.heap.size := hBW.size
  have Hn := Lib.hid hc.ts.len
  have hlen := hc.ts.le
  have HW := Lib.hid hW
  have hw1 : IntKind.i64.wrap ((n : Int) - 1) = (n : Int) - 1 := by rw [IntKind.wrap_i64]; omega
  clear hW g gs
  go_enter Try.func19, Try.ntmps19
  go_wp2_with fail
  rw [HW.out]
  refine (tenter_any W hc hs hca h1 h2 h3).mono ?_
  rintro e W1 ⟨b1, p, ag, rfl, hag, hbx⟩
  have B1 : Below w.heap.size w W1 := hBW.trans (b1.mono hWs)
  have X1 := X.bl b1
  have Y1 := X8.bl b1
  clear X X8
  by_cases he : (seen8 h l).2 = 0
  · have hag := hag he
    have hbx := hbx he
    obtain ⟨hc0, _, _⟩ := seen_zero he
    have hokh := okH_of hc0
    have HW8 := Lib.hid (width8_n (t := t) (a := a) he)
    rw [he]
    have x2 := X1.cell 3
    clear he hc0
    cases ho1 : outB 0 ((n : Int) - 1) t
    · go_wp2_with fail
      refine (out1_any _ (by exact newc rfl rfl) ho1).mono ?_
      rintro e W2 ⟨rfl, b2⟩
      have B2 : Below w.heap.size w W2 := bl_call (bl_alloc B1 _ (Nat.le_refl _)) b2 (Nat.le_refl _)
      have b12 : Below W1.heap.size W1 W2 := bl_call (bl_alloc (Below.refl _ _) _ (Nat.le_refl _)) b2 (Nat.le_refl _)
      have Y2 := Y1.bl b12
      have HO1 := Lib.hid ho1
      clear b2 x2 X1 Y1 ho1
      cases ho2 : outB 0 40 a
      · go_wp2_with fail
        refine (out1_any _ (by exact newc rfl rfl) ho2).mono ?_
        rintro e W3 ⟨rfl, b3⟩
        have B3 : Below w.heap.size w W3 := bl_call (bl_alloc B2 _ (Nat.le_refl _)) b3 (Nat.le_refl _)
        have b23 : Below W2.heap.size W2 W3 := bl_call (bl_alloc (Below.refl _ _) _ (Nat.le_refl _)) b3 (Nat.le_refl _)
        have Y3 := Y2.bl b23
        have b13 : Below W1.heap.size W1 W3 := bl_call b12 b23 (Nat.le_refl _)
        have HO2 := Lib.hid ho2
        clear b3 Y2 ho2 b12 b23
        subst hag
        have y0 := Y3.cell 0
        have y1 := Y3.cell 1
        have fy0 := Y3.frozen 0
        have fy1 := Y3.frozen 1
        have hyl := Y3.lt
        cases hga : agree8 h l
        · have HR : Hid (width8 h l t a = ((0, 0), 9)) := by rw [Hid, HW8.out, Hn.out, HO1.out, HO2.out, if_neg (by decide), if_neg (by decide), if_pos hga]
          clear hbx
          go_wp2_with fail
          exact bodyPost_ret (ret_span rfl rfl rfl (Y3.set2 _ _).c0 (Y3.set2 _ _).c1) rfl ⟨by rw [HR.out], bl_set (bl_set B3 (by dsimp only; omega) _) (by dsimp only; omega) _⟩
        · obtain ⟨gh, rfl, hbox⟩ := hbx hga
          obtain ⟨⟨gm, gr, gc, MH, MR, c2, MM⟩, _⟩ := hbox
          have hr1 : 0 ≤ t ∧ t ≤ (n : Int) - 1 := by have := HO1.out; unfold outB at this; simp at this; omega
          have hr2 : 0 ≤ a ∧ a ≤ 40 := by have := HO2.out; unfold outB at this; simp at this; omega
          obtain ⟨t', rfl⟩ := Int.eq_ofNat_of_zero_le hr1.1
          obtain ⟨a', rfl⟩ := Int.eq_ofNat_of_zero_le hr2.1
          have htn : t' < n := by omega
          have HR : Hid (width8 h l t' a' = (wide8 h l t' a', 0)) := by rw [Hid, HW8.out, Hn.out, HO1.out, HO2.out, if_neg (by decide), if_neg (by decide), if_neg (by rw [hga]; decide)]; rfl
          obtain ⟨v1, v2, hv⟩ : ∃ v1 v2, wide8 h l t' a' = (v1, v2) := ⟨_, _, rfl⟩
          have HR2 : Hid (width8 h l t' a' = ((v1, v2), 0)) := by rw [Hid, HR.out, hv]
          have hlk := (MM.bl b13).look (P := Try.prog) Try.underlying102 Try.underlying3 (knownV_get h l htn)
          have hix : ∀ W, (Instr.index 101 (wideV h l t') (.int .i64 a')).run Try.prog W = .ok (.agg #[.int .i64 v1, .int .i64 v2]) W := fun W => by
            have := run_index_spans (P := Try.prog) Try.underlying101 ⟨_, Try.underlying23⟩ (by kernel_rfl) (fun a => wide8 h l t' a) (i := a') (by omega) W
            rw [hv] at this
            exact this
          have m6 := (MH.bl b13).cell 6
          have hghl := (MH.bl b13).lt
          clear hv HR hr1 hr2 MM MH MR c2
          go_wp2_with fail
          exact bodyPost_ret (ret_span rfl rfl rfl (Y3.set2 _ _).c0 (Y3.set2 _ _).c1) rfl ⟨by rw [HR2.out], bl_set (bl_set B3 (by dsimp only; omega) _) (by dsimp only; omega) _⟩
      · have HR : Hid (width8 h l t a = ((0, 0), 7)) := by rw [Hid, HW8.out, Hn.out, HO1.out, ho2, if_neg (by decide), if_pos rfl]
        go_wp2_with fail
        refine (out1_any _ (by exact newc rfl rfl) ho2).mono ?_
        rintro e W3 ⟨rfl, b3⟩
        have B3 : Below w.heap.size w W3 := bl_call (bl_alloc B2 _ (Nat.le_refl _)) b3 (Nat.le_refl _)
        have b23 : Below W2.heap.size W2 W3 := bl_call (bl_alloc (Below.refl _ _) _ (Nat.le_refl _)) b3 (Nat.le_refl _)
        have Y3 := Y2.bl b23
        have y0 := Y3.cell 0
        have y1 := Y3.cell 1
        have fy0 := Y3.frozen 0
        have fy1 := Y3.frozen 1
        have hyl := Y3.lt
        clear b3 Y2 ho2 b12 b23
        go_wp2_with fail
        exact bodyPost_ret (ret_span rfl rfl rfl (Y3.set2 _ _).c0 (Y3.set2 _ _).c1) rfl ⟨by rw [HR.out], bl_set (bl_set B3 (by dsimp only; omega) _) (by dsimp only; omega) _⟩
    · have HR : Hid (width8 h l t a = ((0, 0), 4)) := by rw [Hid, HW8.out, Hn.out, ho1, if_pos rfl]
      go_wp2_with fail
      refine (out1_any _ (by exact newc rfl rfl) ho1).mono ?_
      rintro e W2 ⟨rfl, b2⟩
      have B2 : Below w.heap.size w W2 := bl_call (bl_alloc B1 _ (Nat.le_refl _)) b2 (Nat.le_refl _)
      have b12 : Below W1.heap.size W1 W2 := bl_call (bl_alloc (Below.refl _ _) _ (Nat.le_refl _)) b2 (Nat.le_refl _)
      have Y3 := Y1.bl b12
      have y0 := Y3.cell 0
      have y1 := Y3.cell 1
      have fy0 := Y3.frozen 0
      have fy1 := Y3.frozen 1
      have hyl := Y3.lt
      clear b2 x2 X1 Y1 ho1
      go_wp2_with fail
      exact bodyPost_ret (ret_span rfl rfl rfl (Y3.set2 _ _).c0 (Y3.set2 _ _).c1) rfl ⟨by rw [HR.out], bl_set (bl_set B2 (by dsimp only; omega) _) (by dsimp only; omega) _⟩
  · have HR := Lib.hid (width8_bad (t := t) (a := a) he)
    have heb : ((seen8 h l).2 != 0) = true := by simpa using he
    have y0 := Y1.cell 0
    have y1 := Y1.cell 1
    have fy0 := Y1.frozen 0
    have fy1 := Y1.frozen 1
    have hyl := Y1.lt
    clear he hag hbx
    go_wp2_with fail
    exact bodyPost_ret (ret_span rfl rfl rfl (Y1.set2 _ _).c0 (Y1.set2 _ _).c1) rfl ⟨by rw [HR.out], bl_set (bl_set B1 (by dsimp only; omega) _) (by dsimp only; omega) _⟩

end Go.Proofs.Ytpbimgafafkjgaa
