/- Walks: the gaps of a row with tiles in any air of the hall, and why a gap is not right. -/
import Derived.Test.YtnaadjhiahjlfaaCTAt
set_option linter.unusedVariables false
set_option linter.unusedSimpArgs false
set_option linter.all false
namespace Go.Proofs.Ytnaadjhiahjlfaa
open Go.RowKit Go.Shelf

set_option maxRecDepth 100000 in
set_option maxHeartbeats 1000000 in
theorem gap_any {S : Foot} {A B C T : Option Addr} {n ca m cb q cc k c gh row : Nat} {h : Hall} {l : List Seen} {tl : List Int} (w : World) (H : HBox w gh A n ca B m cb C q cc h l) (hk : OkH h) (hag : agree8 h l = true)
    (hr : row < m) (ht : Ints S w T k tl) (hk8 : k ≤ 8) (hT : ∀ i ∈ tl, 0 ≤ i ∧ i < n) :
    Calls Try.prog 98 #[.pointer (some ⟨gh, 0, none⟩), .int .i64 row, .slice T k c] w fun e w' =>
      e = .returned (.agg #[.int .i64 (gap8 h l row tl).1, .int .i64 (gap8 h l row tl).2]) ∧ Below w.heap.size w w' := by
  obtain ⟨g1, g2, g3, g4⟩ := hk.air
  obtain ⟨a0, ha0⟩ : ∃ a0 : Nat, h.alo = a0 := ⟨h.alo.toNat, by omega⟩
  obtain ⟨a1, ha1⟩ : ∃ a1 : Nat, h.ahi = a1 := ⟨h.ahi.toNat, by omega⟩
  have ha01 : a0 ≤ a1 ∧ a1 ≤ 40 := by omega
  obtain ⟨d, hd⟩ : ∃ d : Nat, a1 = a0 + d := ⟨a1 - a0, by omega⟩
  have hcall : Hid (∀ (W : World) (a : Nat), Below w.heap.size w W → a ≤ 40 → Calls Try.prog 100 #[.pointer (some ⟨gh, 0, none⟩), .int .i64 row, .slice T k c, .int .i64 a] W fun e w' =>
      e = .returned (.agg #[.int .i64 (at8 h l row tl a).1, .int .i64 (at8 h l row tl a).2]) ∧ Below W.heap.size W w') :=
    fun W a hb ha => at_any W (H.keep hb) hk hag hr (ht.keep IntR.good (Keeps.below hb)) hk8 hT ha
  have hcell : Hid (∀ W, Below w.heap.size w W → W.cell? ⟨gh, 0, none⟩ = some (.int .i64 a0) ∧ W.cell? ⟨gh, 1, none⟩ = some (.int .i64 a1)) := fun W hb => by
    obtain ⟨⟨gm, gr, gc, MH, _⟩, _⟩ := H
    exact ⟨by rw [← ha0]; exact (MH.bl hb).cell 0, by rw [← ha1]; exact (MH.bl hb).cell 1⟩
  have hghl : gh < w.heap.size := by obtain ⟨⟨gm, gr, gc, MH, _⟩, _⟩ := H; exact MH.lt
  have H0 : Hid (gapUpto h l row tl 0 = at8 h l row tl (a0 : Nat)) := by rw [Hid, gapUpto, ha0]
  have HS : Hid (∀ j : Nat, gapUpto h l row tl (j + 1) = (min (gapUpto h l row tl j).1 (at8 h l row tl ((a0 + 1 + j : Nat) : Int)).1, max (gapUpto h l row tl j).2 (at8 h l row tl ((a0 + 1 + j : Nat) : Int)).2)) := fun j => by
    rw [gapUpto, ha0]; rfl
  have HD : Hid (gap8 h l row tl = gapUpto h l row tl d) := by
    rw [Hid, gap8]; congr 1; omega
  have hw1 : IntKind.i64.wrap ((a1 : Int) - a0) = (d : Int) := by rw [IntKind.wrap_i64]; omega
  have hw2 : IntKind.i64.wrap ((a0 : Int) + 1) = (a0 : Int) + 1 := by rw [IntKind.wrap_i64]; omega
  have had : a0 + d ≤ 40 := by omega
  have hlk := ht.le
  clear H hk hag ht ha0 ha1 hd g1 g2 g3 g4 hT
  go_enter Try.func98, Try.ntmps98
  have hb0 : Below w.heap.size w (w.alloc (.cells #[.int .i64 0, .int .i64 0] 23)) := bl_alloc (Below.refl _ _) _ (Nat.le_refl _)
  obtain ⟨c0, _⟩ := hcell.out _ hb0
  go_wp2_with fail
  refine (hcall.out _ _ hb0 (by omega)).mono ?_
  rintro e w1 ⟨rfl, hb1⟩
  obtain ⟨x0, x1, hx⟩ : ∃ x0 x1, at8 h l row tl (a0 : Nat) = (x0, x1) := ⟨_, _, rfl⟩
  have R6 : Blk w1 w.heap.size 23 #[.int .i64 0, .int .i64 0] := (Blk.new _ _ _ rfl).bl hb1
  have hB1 : Below w.heap.size w w1 := bl_call hb0 hb1 (Nat.le_refl _)
  have hs1 : w.heap.size < w1.heap.size := R6.lt
  rw [hx]
  have HX : Hid (gapUpto h l row tl 0 = (x0, x1)) := by rw [Hid, H0.out, hx]
  clear hx c0 hb0 hb1 H0
  go_wp2_with fail
  obtain ⟨gg, hgg⟩ : ∃ gg, w1.heap.size = gg := ⟨_, rfl⟩
  obtain ⟨Wa, hWa⟩ : ∃ Wa, w1.alloc (.cells #[.int .i64 x0, .int .i64 x1] 23) = Wa := ⟨_, rfl⟩
  have ba : Below w.heap.size w Wa := by rw [← hWa]; exact bl_alloc hB1 _ (Nat.le_refl _)
  obtain ⟨c0, c1⟩ := hcell.out Wa ba
  rw [hWa, hgg]
  go_quiet (fail)
  go_wp2_with fail
  obtain ⟨Wl, hWl⟩ : ∃ Wl, Wa.drewN nq = Wl := ⟨_, rfl⟩
  have RG : Blk Wl gg 23 #[.int .i64 x0, .int .i64 x1] := by rw [← hWl, ← hWa]; exact (Blk.new _ _ _ hgg.symm).drewN _
  have R6' : Blk Wl w.heap.size 23 #[.int .i64 0, .int .i64 0] := by rw [← hWl, ← hWa]; exact (R6.alloc _).drewN _
  have bl : Below w.heap.size w Wl := by rw [← hWl]; exact bl_drewN ba _
  have hgl : w.heap.size < gg := by omega
  rw [hWl]
  clear hWl hWa ba c0 c1 R6 hB1 hs1 hgg
  have HBL := Lib.hid bl
  have HRG := Lib.hid RG
  have HR6 := Lib.hid R6'
  clear bl RG R6'
  go_loopw [8, 9, 33] (fun _ _ i' wr => ∃ (j : Nat) (y0 y1 : Int), i' = .int .i64 j ∧ j ≤ d ∧ Hid (gapUpto h l row tl j = (y0, y1)) ∧ Hid (Kept (fun x => x = gg) Wl wr) ∧ Hid (Blk wr gg 23 #[.int .i64 y0, .int .i64 y1])) (fun _ _ i' _ => d - (intOf i').toNat)
  case atStart => exact ⟨0, x0, x1, rfl, Nat.zero_le _, HX, Kept.refl _ _, HRG.out⟩
  case round =>
    obtain ⟨j, y0, y1, rfl, hj, HG, HK, HB⟩ := hrel
    have hBl : Below w.heap.size w wr := HBL.out.trans (HK.out.below (B := w.heap.size) HBL.out.size (fun x hx => by omega))
    by_cases hlt : j < d
    · have hji : (j : Int) < d := by omega
      obtain ⟨c0, _⟩ := hcell.out wr hBl
      have hghr : gh < wr.heap.size := by have := hBl.size; omega
      have hw3 : IntKind.i64.wrap ((a0 : Int) + 1 + (j : Int)) = ((a0 + 1 + j : Nat) : Int) := by rw [IntKind.wrap_i64]; omega
      go_wp2_with fail
      rw [show (a0 : Int) + 1 + (j : Int) = ((a0 + 1 + j : Nat) : Int) by omega]
      refine (hcall.out wr (a0 + 1 + j) hBl (by omega)).mono ?_
      rintro e w2 ⟨rfl, hb2⟩
      obtain ⟨z0, z1, hz⟩ : ∃ z0 z1, at8 h l row tl ((a0 + 1 + j : Nat) : Int) = (z0, z1) := ⟨_, _, rfl⟩
      have HG2 : Hid (gapUpto h l row tl (j + 1) = (min y0 z0, max y1 z1)) := by rw [Hid, HS.out, HG.out, hz]
      rw [hz]
      have hBg := HB.out.bl hb2
      have q0 := hBg.cell 0
      have q1 := hBg.cell 1
      have fq0 := hBg.frozen 0
      have fq1 := hBg.frozen 1
      have hggl := hBg.lt
      have hmin := min_if y0 z0
      have hmax := max_if y1 z1
      have HBG := Lib.hid hBg
      have HK2 : Hid (Kept (fun x => x = gg) Wl w2) := HK.out.trans (Kept.of_bl hb2)
      clear hz c0 hw3 hb2 hBg
      go_wp2
      go_roundw
      case rel => exact ⟨j + 1, min y0 z0, max y1 z1, by go_num, by omega, HG2, ((HK2.out.trans (Kept.setCell _ _ _ rfl)).trans (Kept.setCell _ _ _ rfl)).trans (Kept.alloc _ _ _), (HBG.out.set2 _ _).alloc _⟩
      case measure => simp [intOf]; omega
    · obtain rfl : j = d := by omega
      have hR6 : Blk wr w.heap.size 23 #[.int .i64 0, .int .i64 0] := (HK.out.block _ HR6.out.lt (by omega)).trans HR6.out
      have q0 := HB.out.cell 0
      have q1 := HB.out.cell 1
      have z0 := hR6.cell 0
      have z1 := hR6.cell 1
      have fz0 := hR6.frozen 0
      have fz1 := hR6.frozen 1
      have hHR := Lib.hid hR6
      clear hR6
      go_wp2_with fail
      exact bodyPost_ret (ret_span1 rfl rfl (hHR.out.set2 _ _).c0 (hHR.out.set2 _ _).c1) rfl ⟨by rw [HD.out, HG.out], bl_set (bl_set hBl (Nat.le_refl _) _) (Nat.le_refl _) _⟩

end Go.Proofs.Ytnaadjhiahjlfaa

namespace Go.Proofs.Ytnaadjhiahjlfaa
open Go.RowKit Go.Shelf

theorem eg_r1 : Enters Try.prog 103 := enters_of Try.func103 (by kernel_rfl) rfl
theorem eg_r2 : Enters Try.prog 104 := enters_of Try.func104 (by kernel_rfl) rfl
theorem rule1_any (lo hi : Int) (w : World) : Calls Try.prog 103 #[.agg #[.int .i64 lo, .int .i64 hi]] w fun e w' => e = .returned (.bool (decide (lo < 0))) ∧ Below w.heap.size w w' := by
  go_enter Try.func103, Try.ntmps103
  go_wp2
  go_ret
  exact ⟨rfl, bl_alloc (Below.refl _ _) _ (Nat.le_refl _)⟩
theorem rule2_any (lo hi most : Int) (gc : Nat) (w : World) (hc : w.cell? ⟨gc, 2, none⟩ = some (.int .i64 most)) : Calls Try.prog 104 #[.agg #[.int .i64 lo, .int .i64 hi], .pointer (some ⟨gc, 0, none⟩)] w fun e w' => e = .returned (.bool (decide (most < hi))) ∧ Below w.heap.size w w' := by
  have h1 := oldc (o := .cells #[.int .i64 lo, .int .i64 hi] 23) hc
  go_enter Try.func104, Try.ntmps104
  go_wp2
  go_ret
  exact ⟨rfl, bl_alloc (Below.refl _ _) _ (Nat.le_refl _)⟩

set_option maxHeartbeats 1000000 in
theorem why_any {A B C : Option Addr} {n ca m cb q cc gh : Nat} {h : Hall} {l : List Seen} (lo hi : Int) (w : World) (H : HBox w gh A n ca B m cb C q cc h l) :
    Calls Try.prog 99 #[.pointer (some ⟨gh, 0, none⟩), .agg #[.int .i64 lo, .int .i64 hi]] w fun e w' => e = .returned (.int .i64 (wrong8 h.most (lo, hi))) ∧ Below w.heap.size w w' := by
  obtain ⟨⟨gm, gr, gc, MH, MR, c2, MM⟩, hs⟩ := H
  have HW : Hid (wrong8 h.most (lo, hi) = if lo < 0 then 1 else if hi > h.most then 2 else 0) := rfl
  have eg1 : ∀ args w, (callFunc 103 args).run Try.prog w = .ok (.enter 103 args) w := eg_r1
  have eg2 : ∀ args w, (callFunc 104 args).run Try.prog w = .ok (.enter 104 args) w := eg_r2
  have HE1 := Lib.hid eg1
  have HE2 := Lib.hid eg2
  obtain ⟨w0, hw0⟩ : ∃ w0, w.alloc (.cells #[.int .i64 lo, .int .i64 hi] 23) = w0 := ⟨_, rfl⟩
  have b0 : Below w.heap.size w w0 := by rw [← hw0]; exact bl_alloc (Below.refl _ _) _ (Nat.le_refl _)
  have X0 : Blk w0 w.heap.size 23 #[.int .i64 lo, .int .i64 hi] := by rw [← hw0]; exact Blk.new _ _ _ rfl
  have hcell : Hid (∀ W, Below w0.heap.size w0 W → (W.cell? ⟨gr, 0, none⟩ = some (.int .i64 1) ∧ W.cell? ⟨gr, 1, none⟩ = some (.func (.func 103) #[] #[]) ∧ W.cell? ⟨gr, 2, none⟩ = some (.int .i64 2) ∧ W.cell? ⟨gr, 3, none⟩ = some (.func (.func 104) #[] #[.pointer (some ⟨gc, 0, none⟩)])) ∧ (W.cell? ⟨gc, 2, none⟩ = some (.int .i64 h.most) ∧ W.cell? ⟨w.heap.size, 0, none⟩ = some (.int .i64 lo) ∧ W.cell? ⟨w.heap.size, 1, none⟩ = some (.int .i64 hi))) := fun W hb => by
    have hM := (MR.bl b0).bl hb
    have hX := X0.bl hb
    exact ⟨⟨hM.cell 0, hM.cell 1, hM.cell 2, hM.cell 3⟩, getc hb (getc b0 c2), hX.cell 0, hX.cell 1⟩
  have m7 := (MH.bl b0).cell 7
  have hgh := (MH.bl b0).lt
  have hgr := (MR.bl b0).lt
  have hxs := X0.lt
  have HW0 := Lib.hid hw0
  have HB0 := Lib.hid b0
  clear eg1 eg2 b0 MH MR c2 MM hs X0
  go_enter Try.func99, Try.ntmps99
  go_wp2_with fail
  clear m7 hw0
  go_loopw [4, 6, 12] (fun u4 _ i' wr => ∃ j : Nat, i' = .int .i64 j ∧ j ≤ 2 ∧ u4 = .int .i64 0 ∧ Hid (Below w0.heap.size w0 wr) ∧ Hid (0 < j → ¬ lo < 0) ∧ Hid (1 < j → ¬ hi > h.most)) (fun _ _ i' _ => 2 - (intOf i').toNat)
  case atStart => exact ⟨0, rfl, by omega, rfl, Below.refl _ _, fun h => by omega, fun h => by omega⟩
  case round =>
    obtain ⟨j, rfl, hj, rfl, HB, H1, H2⟩ := hrel
    obtain ⟨⟨k0, k1, k2, k3⟩, kc, kx0, kx1⟩ := hcell.out wr HB.out
    have hxr : w.heap.size < wr.heap.size := by have := HB.out.size; omega
    have hBt : Below w.heap.size w wr := HB0.out.trans (HB.out.mono HB0.out.size)
    by_cases hj0 : j = 0
    · subst hj0
      have eg1 := HE1.out
      cases hd : decide (lo < 0)
      · have HD := Lib.hid (of_decide_eq_false hd)
        have HDB := Lib.hid hd
        clear hd k2 k3
        go_wp2_with fail
        refine (rule1_any lo hi _).mono ?_
        rintro e w2 ⟨rfl, hb2⟩
        rw [HDB.out]
        have HB2 : Hid (Below w0.heap.size w0 w2) := bl_call (bl_alloc HB.out _ (Nat.le_refl _)) hb2 (Nat.le_refl _)
        clear hb2 k0 k1 kc kx0 kx1
        go_wp2_with fail
        go_roundw
        case rel => exact ⟨1, rfl, by omega, rfl, HB2.out, fun _ => by have := HD.out; omega, fun h => by omega⟩
        case measure => simp [intOf]
      · have HD := Lib.hid (of_decide_eq_true hd)
        have HDB := Lib.hid hd
        clear hd k2 k3
        go_wp2_with fail
        refine (rule1_any lo hi _).mono ?_
        rintro e w2 ⟨rfl, hb2⟩
        rw [HDB.out]
        have hc := getc hb2 (newc (w := wr) (cs := #[.int .i64 1, .func (.func 103) #[] #[]]) (t := 176) (i := 0) rfl rfl)
        have HB2 : Hid (Below w.heap.size w w2) := bl_call (bl_alloc hBt _ (Nat.le_refl _)) hb2 (Nat.le_refl _)
        have hl2 := hb2.size
        clear k0 k1 kc kx0 kx1
        go_wp2_with fail
        go_ret
        exact ⟨by rw [HW.out, if_pos HD.out]; rfl, HB2.out⟩
    · by_cases hj1 : j = 1
      · subst hj1
        have eg2 := HE2.out
        cases hd : decide (h.most < hi)
        · have HD := Lib.hid (of_decide_eq_false hd)
          have HDB := Lib.hid hd
          have kc' := oldc (o := .cells #[.int .i64 2, .func (.func 104) #[] #[.pointer (some ⟨gc, 0, none⟩)]] 176) kc
          clear hd k0 k1
          go_wp2_with fail
          refine (rule2_any lo hi h.most gc _ kc').mono ?_
          rintro e w2 ⟨rfl, hb2⟩
          rw [HDB.out]
          have HB2 : Hid (Below w0.heap.size w0 w2) := bl_call (bl_alloc HB.out _ (Nat.le_refl _)) hb2 (Nat.le_refl _)
          clear hb2 k2 k3 kc kc' kx0 kx1
          go_wp2_with fail
          go_roundw
          case rel => exact ⟨2, rfl, by omega, rfl, HB2.out, fun _ => by have := H1.out (by omega); omega, fun _ => by have := HD.out; omega⟩
          case measure => simp [intOf]
        · have HD := Lib.hid (of_decide_eq_true hd)
          have HDB := Lib.hid hd
          have kc' := oldc (o := .cells #[.int .i64 2, .func (.func 104) #[] #[.pointer (some ⟨gc, 0, none⟩)]] 176) kc
          clear hd k0 k1
          go_wp2_with fail
          refine (rule2_any lo hi h.most gc _ kc').mono ?_
          rintro e w2 ⟨rfl, hb2⟩
          rw [HDB.out]
          have hc := getc hb2 (newc (w := wr) (cs := #[.int .i64 2, .func (.func 104) #[] #[.pointer (some ⟨gc, 0, none⟩)]]) (t := 176) (i := 0) rfl rfl)
          have HB2 : Hid (Below w.heap.size w w2) := bl_call (bl_alloc hBt _ (Nat.le_refl _)) hb2 (Nat.le_refl _)
          have hl2 := hb2.size
          clear k2 k3 kc kc' kx0 kx1
          go_wp2_with fail
          go_ret
          exact ⟨by rw [HW.out, if_neg (by have := H1.out (by omega); omega), if_pos HD.out]; rfl, HB2.out⟩
      · obtain rfl : j = 2 := by omega
        have HBt := Lib.hid hBt
        clear k0 k1 k2 k3 kc kx0 kx1 hBt
        go_wp2_with fail
        go_ret
        exact ⟨by rw [HW.out, if_neg (by have := H1.out (by omega); omega), if_neg (by have := H2.out (by omega); omega)]; rfl, HBt.out⟩

end Go.Proofs.Ytnaadjhiahjlfaa

namespace Go.Proofs.Ytnaadjhiahjlfaa
open Go.RowKit Go.Shelf

section
variable {h : Hall} {l : List Seen} {t a : Int}
theorem width8_bad (e : (seen8 h l).2 ≠ 0) : width8 h l t a = ((0, 0), (seen8 h l).2) := by rw [width8, if_pos e]
theorem width8_n (e : (seen8 h l).2 = 0) : width8 h l t a = if outB 0 ((h.tiles.length : Int) - 1) t then ((0, 0), 4) else if outB 0 40 a then ((0, 0), 7) else if agree8 h l = false then ((0, 0), 9) else (wide8 h l t.toNat a, 0) := by
  rw [width8, if_neg (by simp [e])]
  simp only [outB_inB]
end

set_option maxRecDepth 100000 in
set_option maxHeartbeats 1000000 in
theorem twidth_any {A B C : Option Addr} {n ca m cb q cc : Nat} {h : Hall} {l : List Seen} {alo ahi most : Int} (t a : Int) (w : World) (g : HallAt (fun _ => True) w A n B m h) (gs : Seens (fun _ => True) w C q l) (hca : n ≤ ca) (h1 : h.alo = alo) (h2 : h.ahi = ahi) (h3 : h.most = most) :
    Calls Try.prog 51 #[.agg #[.int .i64 alo, .int .i64 ahi, .int .i64 most, .slice A n ca, .slice B m cb], .slice C q cc, .int .i64 t, .int .i64 a] w fun e w' =>
      e = .returned (.tuple #[.agg #[.int .i64 (width8 h l t a).1.1, .int .i64 (width8 h l t a).1.2], .int .i64 (width8 h l t a).2]) ∧ Below w.heap.size w w' := by
  obtain ⟨W, hW⟩ : ∃ W, (w.alloc (.cells #[.int .i64 alo, .int .i64 ahi, .int .i64 most, .slice A n ca, .slice B m cb] 27)).alloc (.cells #[.int .i64 0, .int .i64 0] 23) = W := ⟨_, rfl⟩
  have X : Blk W w.heap.size 27 #[.int .i64 alo, .int .i64 ahi, .int .i64 most, .slice A n ca, .slice B m cb] := by rw [← hW]; exact (Blk.new _ _ _ rfl).alloc _
  have X8 : Blk W (w.heap.size + 1) 23 #[.int .i64 0, .int .i64 0] := by rw [← hW]; exact Blk.new _ _ _ (by simp)
  have hBW : Below w.heap.size w W := by rw [← hW]; exact bl_alloc (bl_alloc (Below.refl _ _) _ (Nat.le_refl _)) _ (Nat.le_refl _)
  have hc : HallAt (fun _ => True) W A n B m h := g.keep (Keeps.below hBW)
  have hs : Seens (fun _ => True) W C q l := gs.keep SeenR.good (Keeps.below hBW)
  have hWs : w.heap.size ≤ W.heap.size := hBW.size
  have Hn := Lib.hid hc.ts.len
  have hlen := hc.ts.le
  have HW := Lib.hid hW
  have hw1 : IntKind.i64.wrap ((n : Int) - 1) = (n : Int) - 1 := by rw [IntKind.wrap_i64]; omega
  clear hW g gs
  go_enter Try.func51, Try.ntmps51
  go_wp2_with fail
  rw [HW.out]
  refine (tenter_any W hc hs hca h1 h2 h3).mono ?_
  rintro e W1 ⟨b1, p, ag, rfl, hag, hbx⟩
  have B1 : Below w.heap.size w W1 := hBW.trans (b1.mono hWs)
  have X1 := X.bl b1
  have Y1 := X8.bl b1
  clear X X8
  by_cases he : (seen8 h l).2 = 0
  · have hag := hag he
    have hbx := hbx he
    obtain ⟨hc0, _, _⟩ := seen_zero he
    have hokh := okH_of hc0
    have HW8 := Lib.hid (width8_n (t := t) (a := a) he)
    rw [he]
    have x2 := X1.cell 3
    clear he hc0
    cases ho1 : outB 0 ((n : Int) - 1) t
    · go_wp2_with fail
      refine (out1_any _ (by exact newc rfl rfl) ho1).mono ?_
      rintro e W2 ⟨rfl, b2⟩
      have B2 : Below w.heap.size w W2 := bl_call (bl_alloc B1 _ (Nat.le_refl _)) b2 (Nat.le_refl _)
      have b12 : Below W1.heap.size W1 W2 := bl_call (bl_alloc (Below.refl _ _) _ (Nat.le_refl _)) b2 (Nat.le_refl _)
      have Y2 := Y1.bl b12
      have HO1 := Lib.hid ho1
      clear b2 x2 X1 Y1 ho1
      cases ho2 : outB 0 40 a
      · go_wp2_with fail
        refine (out1_any _ (by exact newc rfl rfl) ho2).mono ?_
        rintro e W3 ⟨rfl, b3⟩
        have B3 : Below w.heap.size w W3 := bl_call (bl_alloc B2 _ (Nat.le_refl _)) b3 (Nat.le_refl _)
        have b23 : Below W2.heap.size W2 W3 := bl_call (bl_alloc (Below.refl _ _) _ (Nat.le_refl _)) b3 (Nat.le_refl _)
        have Y3 := Y2.bl b23
        have b13 : Below W1.heap.size W1 W3 := bl_call b12 b23 (Nat.le_refl _)
        have HO2 := Lib.hid ho2
        clear b3 Y2 ho2 b12 b23
        subst hag
        have y0 := Y3.cell 0
        have y1 := Y3.cell 1
        have fy0 := Y3.frozen 0
        have fy1 := Y3.frozen 1
        have hyl := Y3.lt
        cases hga : agree8 h l
        · have HR : Hid (width8 h l t a = ((0, 0), 9)) := by rw [Hid, HW8.out, Hn.out, HO1.out, HO2.out, if_neg (by decide), if_neg (by decide), if_pos hga]
          clear hbx
          go_wp2_with fail
          exact bodyPost_ret (ret_span rfl rfl rfl (Y3.set2 _ _).c0 (Y3.set2 _ _).c1) rfl ⟨by rw [HR.out], bl_set (bl_set B3 (by dsimp only; omega) _) (by dsimp only; omega) _⟩
        · obtain ⟨gh, rfl, hbox⟩ := hbx hga
          obtain ⟨⟨gm, gr, gc, MH, MR, c2, MM⟩, _⟩ := hbox
          have hr1 : 0 ≤ t ∧ t ≤ (n : Int) - 1 := by have := HO1.out; unfold outB at this; simp at this; omega
          have hr2 : 0 ≤ a ∧ a ≤ 40 := by have := HO2.out; unfold outB at this; simp at this; omega
          obtain ⟨t', rfl⟩ := Int.eq_ofNat_of_zero_le hr1.1
          obtain ⟨a', rfl⟩ := Int.eq_ofNat_of_zero_le hr2.1
          have htn : t' < n := by omega
          have HR : Hid (width8 h l t' a' = (wide8 h l t' a', 0)) := by rw [Hid, HW8.out, Hn.out, HO1.out, HO2.out, if_neg (by decide), if_neg (by decide), if_neg (by rw [hga]; decide)]; rfl
          obtain ⟨v1, v2, hv⟩ : ∃ v1 v2, wide8 h l t' a' = (v1, v2) := ⟨_, _, rfl⟩
          have HR2 : Hid (width8 h l t' a' = ((v1, v2), 0)) := by rw [Hid, HR.out, hv]
          have hlk := (MM.bl b13).look (P := Try.prog) Try.underlying163 Try.underlying3 (knownV_get h l htn)
          have hix : ∀ W, (Instr.index 162 (wideV h l t') (.int .i64 a')).run Try.prog W = .ok (.agg #[.int .i64 v1, .int .i64 v2]) W := fun W => by
            have := run_index_spans (P := Try.prog) Try.underlying162 ⟨_, Try.underlying23⟩ (by kernel_rfl) (fun a => wide8 h l t' a) (i := a') (by omega) W
            rw [hv] at this
            exact this
          have m6 := (MH.bl b13).cell 6
          have hghl := (MH.bl b13).lt
          clear hv HR hr1 hr2 MM MH MR c2
          go_wp2_with fail
          exact bodyPost_ret (ret_span rfl rfl rfl (Y3.set2 _ _).c0 (Y3.set2 _ _).c1) rfl ⟨by rw [HR2.out], bl_set (bl_set B3 (by dsimp only; omega) _) (by dsimp only; omega) _⟩
      · have HR : Hid (width8 h l t a = ((0, 0), 7)) := by rw [Hid, HW8.out, Hn.out, HO1.out, ho2, if_neg (by decide), if_pos rfl]
        go_wp2_with fail
        refine (out1_any _ (by exact newc rfl rfl) ho2).mono ?_
        rintro e W3 ⟨rfl, b3⟩
        have B3 : Below w.heap.size w W3 := bl_call (bl_alloc B2 _ (Nat.le_refl _)) b3 (Nat.le_refl _)
        have b23 : Below W2.heap.size W2 W3 := bl_call (bl_alloc (Below.refl _ _) _ (Nat.le_refl _)) b3 (Nat.le_refl _)
        have Y3 := Y2.bl b23
        have y0 := Y3.cell 0
        have y1 := Y3.cell 1
        have fy0 := Y3.frozen 0
        have fy1 := Y3.frozen 1
        have hyl := Y3.lt
        clear b3 Y2 ho2 b12 b23
        go_wp2_with fail
        exact bodyPost_ret (ret_span rfl rfl rfl (Y3.set2 _ _).c0 (Y3.set2 _ _).c1) rfl ⟨by rw [HR.out], bl_set (bl_set B3 (by dsimp only; omega) _) (by dsimp only; omega) _⟩
    · have HR : Hid (width8 h l t a = ((0, 0), 4)) := by rw [Hid, HW8.out, Hn.out, ho1, if_pos rfl]
      go_wp2_with fail
      refine (out1_any _ (by exact newc rfl rfl) ho1).mono ?_
      rintro e W2 ⟨rfl, b2⟩
      have B2 : Below w.heap.size w W2 := bl_call (bl_alloc B1 _ (Nat.le_refl _)) b2 (Nat.le_refl _)
      have b12 : Below W1.heap.size W1 W2 := bl_call (bl_alloc (Below.refl _ _) _ (Nat.le_refl _)) b2 (Nat.le_refl _)
      have Y3 := Y1.bl b12
      have y0 := Y3.cell 0
      have y1 := Y3.cell 1
      have fy0 := Y3.frozen 0
      have fy1 := Y3.frozen 1
      have hyl := Y3.lt
      clear b2 x2 X1 Y1 ho1
      go_wp2_with fail
      exact bodyPost_ret (ret_span rfl rfl rfl (Y3.set2 _ _).c0 (Y3.set2 _ _).c1) rfl ⟨by rw [HR.out], bl_set (bl_set B2 (by dsimp only; omega) _) (by dsimp only; omega) _⟩
  · have HR := Lib.hid (width8_bad (t := t) (a := a) he)
    have heb : ((seen8 h l).2 != 0) = true := by simpa using he
    have y0 := Y1.cell 0
    have y1 := Y1.cell 1
    have fy0 := Y1.frozen 0
    have fy1 := Y1.frozen 1
    have hyl := Y1.lt
    clear he hag hbx
    go_wp2_with fail
    exact bodyPost_ret (ret_span rfl rfl rfl (Y1.set2 _ _).c0 (Y1.set2 _ _).c1) rfl ⟨by rw [HR.out], bl_set (bl_set B1 (by dsimp only; omega) _) (by dsimp only; omega) _⟩

end Go.Proofs.Ytnaadjhiahjlfaa

namespace Go.Proofs.Ytnaadjhiahjlfaa
open Go.RowKit Go.Shelf

section
variable {h : Hall} {l : List Seen} {row : Int} {tl : List Int}
def notAsc (tl : List Int) (k : Nat) : Bool := decide (tl.getD (k + 1) 0 ≤ tl.getD k 0)
theorem asked_bad (e : (seen8 h l).2 ≠ 0) : asked8 h l row tl = (seen8 h l).2 := by rw [asked8, if_pos e]
theorem asked_row (e : (seen8 h l).2 = 0) (o : outB 0 ((h.rows.length : Int) - 1) row = true) : asked8 h l row tl = 4 := by
  rw [asked8, if_neg (by simp [e]), if_pos (by rw [← outB_inB]; exact o)]
theorem asked_tiles (e : (seen8 h l).2 = 0) (o : outB 0 ((h.rows.length : Int) - 1) row = false) : asked8 h l row tl =
    if tilesE h.tiles.length (h.rows.getD row.toNat dRow).places tl ≠ 0 then tilesE h.tiles.length (h.rows.getD row.toNat dRow).places tl else if agree8 h l = false then 9 else 0 := by
  rw [asked8, if_neg (by simp [e]), if_neg (by rw [← outB_inB, o]; decide)]
theorem tilesE_long {nt : Nat} {p : Int} (e : (tl.length : Int) ≠ p) : tilesE nt p tl = 3 := by rw [tilesE, if_pos e]
theorem tilesE_n {nt : Nat} {p : Int} (e : (tl.length : Int) = p) : tilesE nt p tl = if tl.any (outB 0 ((nt : Int) - 1)) then 4 else if (List.range (tl.length - 1)).any (notAsc tl) then 2 else 0 := by
  rw [tilesE, if_neg (by simp [e])]
  have : (fun i => !inB i 0 ((nt : Int) - 1)) = outB 0 ((nt : Int) - 1) := by funext i; rw [outB_inB]
  rw [this]; rfl
theorem tilesE_zero {nt : Nat} {p : Int} (e : tilesE nt p tl = 0) : (tl.length : Int) = p ∧ (∀ i ∈ tl, 0 ≤ i ∧ i < nt) ∧ (List.range (tl.length - 1)).any (notAsc tl) = false := by
  by_cases h1 : (tl.length : Int) = p
  · rw [tilesE_n h1] at e
    split at e
    · cases e
    · split at e
      · cases e
      · rename_i h2 h3
        refine ⟨h1, fun i hi => ?_, by simpa using h3⟩
        have : outB 0 ((nt : Int) - 1) i = false := by
          rw [← Bool.not_eq_true]; exact fun hh => h2 (List.any_eq_true.2 ⟨i, hi, hh⟩)
        unfold outB at this
        simp at this
        omega
  · rw [tilesE_long h1] at e; cases e
theorem asked_zero (e : asked8 h l row tl = 0) : (seen8 h l).2 = 0 ∧ (0 ≤ row ∧ row < h.rows.length) ∧ tilesE h.tiles.length (h.rows.getD row.toNat dRow).places tl = 0 ∧ agree8 h l = true := by
  by_cases h1 : (seen8 h l).2 = 0
  · cases h2 : outB 0 ((h.rows.length : Int) - 1) row
    · rw [asked_tiles h1 h2] at e
      by_cases h3 : tilesE h.tiles.length (h.rows.getD row.toNat dRow).places tl = 0
      · rw [if_neg (fun hh => hh h3)] at e
        split at e
        · cases e
        · rename_i h4
          unfold outB at h2
          simp at h2
          exact ⟨h1, by omega, h3, by simpa using h4⟩
      · rw [if_pos h3] at e; exact absurd e h3
    · rw [asked_row h1 h2] at e; cases e
  · rw [asked_bad h1] at e; exact absurd e h1
theorem any_range_no {p : Nat → Bool} {j : Nat} (h : (List.range j).any p = false) (hp : p j = false) : (List.range (j + 1)).any p = false := by rw [List.range_succ, List.any_append, h]; simp [hp]
theorem any_range_yes {p : Nat → Bool} {j n : Nat} (hj : j < n) (hp : p j = true) : (List.range n).any p = true := List.any_eq_true.2 ⟨j, List.mem_range.2 hj, hp⟩
end

/-- what open answers -/
def OpenOk (w0 : World) (A : Option Addr) (n ca : Nat) (B : Option Addr) (m cb : Nat) (C : Option Addr) (q cc : Nat) (h : Hall) (l : List Seen) (row : Int) (tl : List Int) (e : Ending) (w' : World) : Prop :=
  Below w0.heap.size w0 w' ∧ ∃ p, e = .returned (.tuple #[.pointer p, .int .i64 (asked8 h l row tl)]) ∧ (asked8 h l row tl = 0 → ∃ gh, p = some ⟨gh, 0, none⟩ ∧ HBox w' gh A n ca B m cb C q cc h l)

set_option maxRecDepth 100000 in
set_option maxHeartbeats 2000000 in
theorem topen_any {S : Foot} {A B C T : Option Addr} {n ca m cb q cc k c : Nat} {h : Hall} {l : List Seen} {alo ahi most : Int} {tl : List Int} (row : Int) (w : World) (g : HallAt (fun _ => True) w A n B m h) (gs : Seens (fun _ => True) w C q l) (ht : Ints S w T k tl) (hca : n ≤ ca) (h1 : h.alo = alo) (h2 : h.ahi = ahi) (h3 : h.most = most) :
    Calls Try.prog 97 #[.agg #[.int .i64 alo, .int .i64 ahi, .int .i64 most, .slice A n ca, .slice B m cb], .slice C q cc, .int .i64 row, .slice T k c] w (OpenOk w A n ca B m cb C q cc h l row tl) := by
  obtain ⟨W, hW⟩ : ∃ W, w.alloc (.cells #[.int .i64 alo, .int .i64 ahi, .int .i64 most, .slice A n ca, .slice B m cb] 27) = W := ⟨_, rfl⟩
  have X : Blk W w.heap.size 27 #[.int .i64 alo, .int .i64 ahi, .int .i64 most, .slice A n ca, .slice B m cb] := by rw [← hW]; exact Blk.new _ _ _ rfl
  have hBW : Below w.heap.size w W := by rw [← hW]; exact bl_alloc (Below.refl _ _) _ (Nat.le_refl _)
  have hc : HallAt (fun _ => True) W A n B m h := g.keep (Keeps.below hBW)
  have hs : Seens (fun _ => True) W C q l := gs.keep SeenR.good (Keeps.below hBW)
  have hWs : w.heap.size ≤ W.heap.size := hBW.size
  have Hn := Lib.hid hc.ts.len
  have Hm := Lib.hid hc.rs.len
  have Hk := Lib.hid ht.len
  have hlen := hc.ts.le
  have hlem := hc.rs.le
  have hlek := ht.le
  have HW := Lib.hid hW
  have hw1 : IntKind.i64.wrap ((n : Int) - 1) = (n : Int) - 1 := by rw [IntKind.wrap_i64]; omega
  have hw2 : IntKind.i64.wrap ((m : Int) - 1) = (m : Int) - 1 := by rw [IntKind.wrap_i64]; omega
  clear hW g gs
  go_enter Try.func97, Try.ntmps97
  go_wp2_with fail
  rw [HW.out]
  refine (tenter_any W hc hs hca h1 h2 h3).mono ?_
  rintro e W1 ⟨b1, p, ag, rfl, hag, hbx⟩
  have B1 : Below w.heap.size w W1 := hBW.trans (b1.mono hWs)
  have X1 := X.bl b1
  clear X
  by_cases he : (seen8 h l).2 = 0
  · have hag := hag he
    have hbx := hbx he
    have HE := Lib.hid he
    rw [he]
    have x3 := X1.cell 3
    have x4 := X1.cell 4
    have HX1 := Lib.hid X1
    clear he X1
    cases ho1 : outB 0 ((m : Int) - 1) row
    · have HO1 := Lib.hid ho1
      have HT0 : Hid (asked8 h l row tl = _) := asked_tiles (row := row) (tl := tl) HE.out (by rw [Hm.out]; exact ho1)
      have hr1 : 0 ≤ row ∧ row ≤ (m : Int) - 1 := by unfold outB at ho1; simp at ho1; omega
      obtain ⟨r, rfl⟩ := Int.eq_ofNat_of_zero_le hr1.1
      have hrm : r < m := by omega
      have hrmi : (r : Int) < m := by omega
      go_wp2_with fail
      refine (out1_any _ (by exact newc rfl rfl) ho1).mono ?_
      rintro e W2 ⟨rfl, b2⟩
      have b12 : Below W1.heap.size W1 W2 := bl_call (bl_alloc (Below.refl _ _) _ (Nat.le_refl _)) b2 (Nat.le_refl _)
      have B2 : Below w.heap.size w W2 := bl_call B1 b12 (Nat.le_refl _)
      have hrs : RowTs (fun _ => True) W2 B m h.rows := hc.rs.keep RowR.good (Keeps.below (bl_call b1 b12 (Nat.le_refl _)))
      obtain ⟨b, off, fr, sw, pl, rfl, hbb, r0, r1, r2, Hx⟩ := RowTs.get hrs hrm
      have HPL : Hid ((h.rows.getD ((r : Nat) : Int).toNat dRow).places = pl) := by rw [Hid, Int.toNat_natCast, getD_of Hx.out]
      have X2 := HX1.out.bl b12
      have x23 := X2.cell 3
      have x24 := X2.cell 4
      have HX2 := Lib.hid X2
      clear b2 x3 x4 ho1 r0 r1 X2 hr1 HX1 hrs
      by_cases hkp : (k : Int) = pl
      · have hkb : ((k : Int) != pl) = false := by simpa using hkp
        have HTE : Hid (tilesE h.tiles.length pl tl = _) := tilesE_n (tl := tl) (nt := h.tiles.length) (by rw [Hk.out]; exact hkp)
        clear hkp
        have ht2 := ht.keep IntR.good (Keeps.below B2)
        cases ho2 : tl.any (outB 0 ((n : Int) - 1))
        · go_wp2_with fail
          refine (out_any 0 ((n : Int) - 1) _ ht2).mono ?_
          rintro e W3 ⟨rfl, b3⟩
          rw [ho2]
          have B3 : Below w.heap.size w W3 := bl_call B2 b3 (Nat.le_refl _)
          have b13 : Below W1.heap.size W1 W3 := bl_call b12 b3 (Nat.le_refl _)
          have HO2 := Lib.hid ho2
          have HB3 := Lib.hid B3
          have HB13 := Lib.hid b13
          clear b3 ho2 x23 x24 r2 hkb ht2 b13 b12 B2 B3 hbb
          go_wp2_with fail
          go_loopw [13] (fun i' wr => ∃ i j qn : Nat, i' = .int .i64 i ∧ Hid (i = j + 1) ∧ (i ≤ k ∨ i = 1) ∧ 1 ≤ i ∧ wr = W3.drewN qn ∧ Hid ((List.range j).any (notAsc tl) = false)) (fun i' _ => k - (intOf i').toNat)
          case atStart => exact ⟨1, 0, 0, rfl, rfl, .inr rfl, Nat.le_refl _, rfl, rfl⟩
          case round =>
            obtain ⟨i, j, qn, rfl, Hij, hik, hi1, rfl, HA⟩ := hrel
            by_cases hlt : i < k
            · have hki : (i : Int) < k := by omega
              have hjk : j < k := by have := Hij.out; omega
              have hjki : (j : Int) < k := by omega
              have htr := ht.keep IntR.good (Keeps.below HB3.out)
              obtain ⟨b1', o1', x, rfl, hcx, Hx1⟩ := Ints.get htr hlt
              obtain ⟨b2', o2', y, hAe, hcy, Hy1⟩ := Ints.get htr hjk
              obtain ⟨rfl, rfl⟩ : b1' = b2' ∧ o1' = o2' := by injection hAe with hAe; injection hAe with e1 e2; exact ⟨e1, e2⟩
              have hwj : IntKind.i64.wrap ((i : Int) - 1) = (j : Int) := by have := Hij.out; rw [IntKind.wrap_i64]; omega
              have HNA : Hid (notAsc tl j = decide (x ≤ y)) := by
                rw [Hid, notAsc, ← Hij.out, getD_of Hx1.out, getD_of Hy1.out]
              clear htr hAe
              by_cases hxy : x ≤ y
              · have hd : decide (x ≤ y) = true := decide_eq_true hxy
                have HR : Hid (asked8 h l r tl = 2) := by
                  rw [Hid, HT0.out, HPL.out, HTE.out, Hn.out, HO2.out, if_neg (by decide : ¬ (false = true)), any_range_yes (j := j) (by rw [Hk.out]; have := Hij.out; omega) (by rw [HNA.out]; exact hd)]
                  rfl
                go_wp2_with fail
                go_quiet (fail)
                go_wp2_with fail
                go_ret2
                exact ⟨bl_drewN (bl_drewN HB3.out _) _, none, by rw [HR.out]; rfl, fun h => by rw [HR.out] at h; cases h⟩
              · have hd : decide (x ≤ y) = false := decide_eq_false hxy
                have HA2 : Hid ((List.range (j + 1)).any (notAsc tl) = false) := any_range_no HA.out (by rw [HNA.out]; exact hd)
                have hw3 : IntKind.i64.wrap ((i : Int) + 1) = ((i + 1 : Nat) : Int) := by rw [IntKind.wrap_i64]; omega
                go_wp2_with fail
                go_quiet (fail)
                go_wp2_with fail
                go_roundw
                case rel => exact ⟨i + 1, j + 1, _, by go_num, by have := Hij.out; show i + 1 = j + 1 + 1; omega, .inl (by omega), by omega, rfl, HA2⟩
                case measure => simp [intOf]; omega
            · have HJ : Hid ((List.range (tl.length - 1)).any (notAsc tl) = false) := by
                have := Hij.out
                have e : tl.length - 1 = j ∨ tl.length - 1 = 0 := by rw [Hk.out]; omega
                rcases e with e | e
                · rw [Hid, e]; exact HA.out
                · rw [Hid, e]; rfl
              have HT1 : Hid (asked8 h l r tl = if agree8 h l = false then 9 else 0) := by
                rw [Hid, HT0.out, HPL.out, HTE.out, Hn.out, HO2.out, HJ.out]; simp
              subst hag
              cases hga : agree8 h l
              · have HR : Hid (asked8 h l r tl = 9) := by rw [Hid, HT1.out, if_pos hga]
                clear hbx hga
                go_wp2_with fail
                go_ret2
                exact ⟨bl_drewN HB3.out _, none, by rw [HR.out]; rfl, fun h => by rw [HR.out] at h; cases h⟩
              · have HR : Hid (asked8 h l r tl = 0) := by rw [Hid, HT1.out, if_neg (by rw [hga]; decide)]
                obtain ⟨gh, rfl, hbox⟩ := hbx hga
                have HBOX := Lib.hid hbox
                clear hbx hga hbox
                go_wp2_with fail
                go_ret2
                exact ⟨bl_drewN HB3.out _, some ⟨gh, 0, none⟩, by rw [HR.out]; rfl, fun _ => ⟨gh, rfl, HBOX.out.keep (bl_drewN HB13.out _)⟩⟩
        · have HR : Hid (asked8 h l r tl = 4) := by
            rw [Hid, HT0.out, HPL.out, HTE.out, Hn.out, ho2]; rfl
          go_wp2_with fail
          refine (out_any 0 ((n : Int) - 1) _ ht2).mono ?_
          rintro e W3 ⟨rfl, b3⟩
          rw [ho2]
          have B3 : Below w.heap.size w W3 := bl_call B2 b3 (Nat.le_refl _)
          clear b3 ho2 x23 x24 r2 hkb ht2
          go_wp2_with fail
          go_ret2
          exact ⟨B3, none, by rw [HR.out]; rfl, fun h => by rw [HR.out] at h; cases h⟩
      · have hkb : ((k : Int) != pl) = true := by simpa using hkp
        have HR : Hid (asked8 h l r tl = 3) := by
          rw [Hid, HT0.out, HPL.out, tilesE_long (by rw [Hk.out]; exact hkp)]; rfl
        clear hkp
        go_wp2_with fail
        go_ret2
        exact ⟨B2, none, by rw [HR.out]; rfl, fun h => by rw [HR.out] at h; cases h⟩
    · have HR : Hid (asked8 h l row tl = 4) := asked_row HE.out (by rw [Hm.out]; exact ho1)
      go_wp2_with fail
      refine (out1_any _ (by exact newc rfl rfl) ho1).mono ?_
      rintro e W2 ⟨rfl, b2⟩
      have B2 : Below w.heap.size w W2 := bl_call (bl_alloc B1 _ (Nat.le_refl _)) b2 (Nat.le_refl _)
      clear b2 ho1
      go_wp2_with fail
      go_ret2
      exact ⟨B2, none, by rw [HR.out]; rfl, fun h => by rw [HR.out] at h; cases h⟩
  · have HR := Lib.hid (asked_bad (row := row) (tl := tl) he)
    have HNE := Lib.hid he
    have heb : ((seen8 h l).2 != 0) = true := by simpa using he
    clear he hag hbx
    go_wp2_with fail
    go_ret2
    exact ⟨B1, none, by rw [HR.out]; rfl, fun h => by rw [HR.out] at h; exact absurd h HNE.out⟩

end Go.Proofs.Ytnaadjhiahjlfaa

namespace Go.Proofs.Ytnaadjhiahjlfaa
open Go.RowKit Go.Shelf

/-- what a hall that is looked at, with a row and tiles, that is right, is -/
structure Asked (h : Hall) (l : List Seen) (n m : Nat) (row : Int) (tl : List Int) (r : Nat) : Prop where
  ok : OkH h
  ag : agree8 h l = true
  row : row = (r : Int)
  lt : r < m
  k8 : tl.length ≤ 8
  tl : ∀ i ∈ tl, 0 ≤ i ∧ i < n
theorem asked_ok {h : Hall} {l : List Seen} {n m : Nat} {row : Int} {tl : List Int} (e : asked8 h l row tl = 0) (hn : h.tiles.length = n) (hm : h.rows.length = m) : ∃ r, Asked h l n m row tl r := by
  obtain ⟨h1, ⟨h2, h3⟩, h4, h5⟩ := asked_zero e
  obtain ⟨hc0, _, _⟩ := seen_zero h1
  have hk := okH_of hc0
  obtain ⟨r, rfl⟩ := Int.eq_ofNat_of_zero_le h2
  have hr : r < h.rows.length := by omega
  obtain ⟨g1, g2, _⟩ := tilesE_zero h4
  have hx : h.rows[r]? = some ⟨(h.rows[r]).frame, (h.rows[r]).swell, (h.rows[r]).places⟩ := List.getElem?_eq_getElem hr
  obtain ⟨_, _, _, _, _, f6⟩ := rowE_zero hx (hk.row hr)
  have := hk.nt
  rw [Int.toNat_natCast, getD_of hx] at g1
  dsimp only at g1
  exact ⟨r, hk, h5, rfl, by omega, by omega, by rw [← hn]; exact g2⟩

theorem gapR_bad {h : Hall} {l : List Seen} {row : Int} {tl : List Int} (e : asked8 h l row tl ≠ 0) : gapR h l row tl = ((0, 0), asked8 h l row tl) := by rw [gapR, if_pos e]
theorem gapR_ok {h : Hall} {l : List Seen} {r : Nat} {tl : List Int} (e : asked8 h l r tl = 0) : gapR h l r tl = (gap8 h l r tl, 0) := by rw [gapR, if_neg (by simp [e])]; rfl

set_option maxRecDepth 100000 in
set_option maxHeartbeats 1000000 in
theorem tgap_any {S : Foot} {A B C T : Option Addr} {n ca m cb q cc k c : Nat} {h : Hall} {l : List Seen} {alo ahi most : Int} {tl : List Int} (row : Int) (w : World) (g : HallAt (fun _ => True) w A n B m h) (gs : Seens (fun _ => True) w C q l) (ht : Ints S w T k tl) (hca : n ≤ ca) (h1 : h.alo = alo) (h2 : h.ahi = ahi) (h3 : h.most = most) :
    Calls Try.prog 52 #[.agg #[.int .i64 alo, .int .i64 ahi, .int .i64 most, .slice A n ca, .slice B m cb], .slice C q cc, .int .i64 row, .slice T k c] w fun e w' =>
      e = .returned (.tuple #[.agg #[.int .i64 (gapR h l row tl).1.1, .int .i64 (gapR h l row tl).1.2], .int .i64 (gapR h l row tl).2]) ∧ Below w.heap.size w w' := by
  obtain ⟨W, hW⟩ : ∃ W, (w.alloc (.cells #[.int .i64 alo, .int .i64 ahi, .int .i64 most, .slice A n ca, .slice B m cb] 27)).alloc (.cells #[.int .i64 0, .int .i64 0] 23) = W := ⟨_, rfl⟩
  have X8 : Blk W (w.heap.size + 1) 23 #[.int .i64 0, .int .i64 0] := by rw [← hW]; exact Blk.new _ _ _ (by simp)
  have hBW : Below w.heap.size w W := by rw [← hW]; exact bl_alloc (bl_alloc (Below.refl _ _) _ (Nat.le_refl _)) _ (Nat.le_refl _)
  have hc : HallAt (fun _ => True) W A n B m h := g.keep (Keeps.below hBW)
  have hs : Seens (fun _ => True) W C q l := gs.keep SeenR.good (Keeps.below hBW)
  have htW : Ints S W T k tl := ht.keep IntR.good (Keeps.below hBW)
  have hWs : w.heap.size ≤ W.heap.size := hBW.size
  have HW := Lib.hid hW
  have Hn := Lib.hid hc.ts.len
  have Hm := Lib.hid hc.rs.len
  have Hk := Lib.hid ht.len
  clear hW g gs
  go_enter Try.func52, Try.ntmps52
  go_wp2_with fail
  rw [HW.out]
  refine (topen_any row W hc hs htW hca h1 h2 h3).mono ?_
  rintro e W1 ⟨b1, p, rfl, hbx⟩
  have B1 : Below w.heap.size w W1 := hBW.trans (b1.mono hWs)
  have Y1 := X8.bl b1
  clear X8
  by_cases he : asked8 h l row tl = 0
  · obtain ⟨gh, rfl, hbox⟩ := hbx he
    obtain ⟨r, ha⟩ := asked_ok he Hn.out Hm.out
    have hrow := ha.row
    subst hrow
    have HR := Lib.hid (gapR_ok he)
    have htW1 := htW.keep IntR.good (Keeps.below b1)
    have HA := Lib.hid ha
    rw [he]
    clear he hbx ha
    go_wp2_with fail
    refine (gap_any W1 hbox HA.out.ok HA.out.ag HA.out.lt htW1 (by rw [← Hk.out]; exact HA.out.k8) HA.out.tl).mono ?_
    rintro e W2 ⟨rfl, b2⟩
    have B2 : Below w.heap.size w W2 := bl_call B1 b2 (Nat.le_refl _)
    have Y3 := Y1.bl b2
    have y0 := Y3.cell 0
    have y1 := Y3.cell 1
    have fy0 := Y3.frozen 0
    have fy1 := Y3.frozen 1
    have hyl := Y3.lt
    clear hbox htW1 b2
    go_wp2_with fail
    exact bodyPost_ret (ret_span rfl rfl rfl (Y3.set2 _ _).c0 (Y3.set2 _ _).c1) rfl ⟨by rw [HR.out], bl_set (bl_set B2 (by dsimp only; omega) _) (by dsimp only; omega) _⟩
  · have HR := Lib.hid (gapR_bad he)
    have heb : (asked8 h l row tl != 0) = true := by simpa using he
    have y0 := Y1.cell 0
    have y1 := Y1.cell 1
    have fy0 := Y1.frozen 0
    have fy1 := Y1.frozen 1
    have hyl := Y1.lt
    clear he hbx
    go_wp2_with fail
    exact bodyPost_ret (ret_span rfl rfl rfl (Y1.set2 _ _).c0 (Y1.set2 _ _).c1) rfl ⟨by rw [HR.out], bl_set (bl_set B1 (by dsimp only; omega) _) (by dsimp only; omega) _⟩

theorem whyR_bad {h : Hall} {l : List Seen} {row : Int} {tl : List Int} (e : asked8 h l row tl ≠ 0) : whyR h l row tl = (0, 0, asked8 h l row tl) := by rw [whyR, if_pos e]
theorem whyR_ok {h : Hall} {l : List Seen} {r : Nat} {tl : List Int} (e : asked8 h l r tl = 0) : whyR h l r tl = match whyUpto h l r tl (h.ahi - h.alo + 1).toNat with
  | some (n, e) => (e, h.alo + n, 0)
  | none => (0, 0, 0) := by rw [whyR, if_neg (by simp [e])]; rfl

set_option maxRecDepth 100000 in
set_option maxHeartbeats 1000000 in
theorem twhy_any {S : Foot} {A B C T : Option Addr} {n ca m cb q cc k c : Nat} {h : Hall} {l : List Seen} {alo ahi most : Int} {tl : List Int} (row : Int) (w : World) (g : HallAt (fun _ => True) w A n B m h) (gs : Seens (fun _ => True) w C q l) (ht : Ints S w T k tl) (hca : n ≤ ca) (h1 : h.alo = alo) (h2 : h.ahi = ahi) (h3 : h.most = most) :
    Calls Try.prog 54 #[.agg #[.int .i64 alo, .int .i64 ahi, .int .i64 most, .slice A n ca, .slice B m cb], .slice C q cc, .int .i64 row, .slice T k c] w fun e w' =>
      e = .returned (.tuple #[.int .i64 (whyR h l row tl).1, .int .i64 (whyR h l row tl).2.1, .int .i64 (whyR h l row tl).2.2]) ∧ Below w.heap.size w w' := by
  obtain ⟨W, hW⟩ : ∃ W, w.alloc (.cells #[.int .i64 alo, .int .i64 ahi, .int .i64 most, .slice A n ca, .slice B m cb] 27) = W := ⟨_, rfl⟩
  have X8 : Blk W w.heap.size 27 #[.int .i64 alo, .int .i64 ahi, .int .i64 most, .slice A n ca, .slice B m cb] := by rw [← hW]; exact Blk.new _ _ _ rfl
  have hBW : Below w.heap.size w W := by rw [← hW]; exact bl_alloc (Below.refl _ _) _ (Nat.le_refl _)
  have hc : HallAt (fun _ => True) W A n B m h := g.keep (Keeps.below hBW)
  have hs : Seens (fun _ => True) W C q l := gs.keep SeenR.good (Keeps.below hBW)
  have htW : Ints S W T k tl := ht.keep IntR.good (Keeps.below hBW)
  have hWs : w.heap.size ≤ W.heap.size := hBW.size
  have HW := Lib.hid hW
  have Hn := Lib.hid hc.ts.len
  have Hm := Lib.hid hc.rs.len
  have Hk := Lib.hid ht.len
  clear hW g gs
  go_enter Try.func54, Try.ntmps54
  go_wp2_with fail
  rw [HW.out]
  refine (topen_any row W hc hs htW hca h1 h2 h3).mono ?_
  rintro e W1 ⟨b1, p, rfl, hbx⟩
  have B1 : Below w.heap.size w W1 := hBW.trans (b1.mono hWs)
  have Y1 := X8.bl b1
  clear X8
  by_cases he : asked8 h l row tl = 0
  · obtain ⟨gh, rfl, hbox⟩ := hbx he
    obtain ⟨r, ha⟩ := asked_ok he Hn.out Hm.out
    have hrow := ha.row
    subst hrow
    have HR := Lib.hid (whyR_ok he)
    have htW1 := htW.keep IntR.good (Keeps.below b1)
    have HA := Lib.hid ha
    rw [he]
    obtain ⟨g1, g2, g3, g4⟩ := ha.ok.air
    obtain ⟨a0, ha0⟩ : ∃ a0 : Nat, h.alo = a0 := ⟨h.alo.toNat, by omega⟩
    obtain ⟨a1, ha1⟩ : ∃ a1 : Nat, h.ahi = a1 := ⟨h.ahi.toNat, by omega⟩
    obtain ⟨d, hd⟩ : ∃ d : Nat, a1 + 1 = a0 + d := ⟨a1 + 1 - a0, by omega⟩
    have hcall : Hid (∀ (V : World) (a : Nat), Below W1.heap.size W1 V → a ≤ 40 → Calls Try.prog 100 #[.pointer (some ⟨gh, 0, none⟩), .int .i64 r, .slice T k c, .int .i64 a] V fun e w' =>
      e = .returned (.agg #[.int .i64 (at8 h l r tl a).1, .int .i64 (at8 h l r tl a).2]) ∧ Below V.heap.size V w') :=
      fun V a hb ha => at_any V (hbox.keep hb) HA.out.ok HA.out.ag HA.out.lt (htW1.keep IntR.good (Keeps.below hb)) (by rw [← Hk.out]; exact HA.out.k8) HA.out.tl ha
    have hwhy : Hid (∀ (V : World) (lo hi : Int), Below W1.heap.size W1 V → Calls Try.prog 99 #[.pointer (some ⟨gh, 0, none⟩), .agg #[.int .i64 lo, .int .i64 hi]] V fun e w' => e = .returned (.int .i64 (wrong8 h.most (lo, hi))) ∧ Below V.heap.size V w') :=
      fun V lo hi hb => why_any lo hi V (hbox.keep hb)
    have hw1 : IntKind.i64.wrap ((a1 : Int) - a0) = (a1 : Int) - a0 := by rw [IntKind.wrap_i64]; omega
    have hw2 : IntKind.i64.wrap ((a1 : Int) - a0 + 1) = (d : Int) := by rw [IntKind.wrap_i64]; omega
    have HR2 : Hid (whyR h l r tl = match firstErr (fun i => wrong8 h.most (at8 h l r tl ((a0 + i : Nat) : Int))) d with
      | some (i, e) => (e, ((a0 + i : Nat) : Int), 0)
      | none => (0, 0, 0)) := by
      have e1 : (h.ahi - h.alo + 1).toNat = d := by omega
      rw [Hid, HR.out, whyUpto, e1, ha0]
      simp only [Int.natCast_add]
    have hd41 : a0 + d ≤ 41 := by omega
    have y0 : W1.cell? ⟨w.heap.size, 0, none⟩ = some (.int .i64 a0) := by rw [← ha0, h1]; exact Y1.cell 0
    have y1 : W1.cell? ⟨w.heap.size, 1, none⟩ = some (.int .i64 a1) := by rw [← ha1, h2]; exact Y1.cell 1
    have Y0 := Lib.hid y0
    have HB1 := Lib.hid B1
    have hyl := Y1.lt
    clear he hbx ha hbox htW1 HR g1 g2 g3 g4 ha0 ha1 hd B1
    go_wp2_with fail
    clear y0 y1
    go_loopw [8, 9, 10, 12, 32] (fun _ _ _ _ i' wr => ∃ j : Nat, i' = .int .i64 j ∧ j ≤ d ∧ Hid (Below W1.heap.size W1 wr) ∧ Hid (∀ i, i < j → wrong8 h.most (at8 h l r tl ((a0 + i : Nat) : Int)) = 0)) (fun _ _ _ _ i' _ => d - (intOf i').toNat)
    case atStart => exact ⟨0, rfl, Nat.zero_le _, Below.refl _ _, fun i hi => by omega⟩
    case round =>
      obtain ⟨j, rfl, hj, HB, HZ⟩ := hrel
      by_cases hlt : j < d
      · have hji : (j : Int) < d := by omega
        have y0 := getc HB.out Y0.out
        have hyl2 : w.heap.size < wr.heap.size := by have := HB.out.size; omega
        have hw3 : IntKind.i64.wrap ((a0 : Int) + (j : Int)) = ((a0 + j : Nat) : Int) := by rw [IntKind.wrap_i64]; omega
        go_wp2_with fail
        rw [show (a0 : Int) + (j : Int) = ((a0 + j : Nat) : Int) by omega]
        refine (hcall.out wr (a0 + j) HB.out (by omega)).mono ?_
        rintro e W2 ⟨rfl, b2⟩
        have HB2 : Hid (Below W1.heap.size W1 W2) := bl_call HB.out b2 (Nat.le_refl _)
        have HV : Hid (∀ V, Below W1.heap.size W1 V → Calls Try.prog 99 #[.pointer (some ⟨gh, 0, none⟩), .agg #[.int .i64 (at8 h l r tl ((a0 + j : Nat) : Int)).1, .int .i64 (at8 h l r tl ((a0 + j : Nat) : Int)).2]] V fun e w' => e = .returned (.int .i64 (wrong8 h.most (at8 h l r tl ((a0 + j : Nat) : Int)))) ∧ Below V.heap.size V w') := fun V hb => hwhy.out V _ _ hb
        clear b2 y0
        go_wp2_with fail
        refine (HV.out W2 HB2.out).mono ?_
        rintro e W3 ⟨rfl, b3⟩
        have HB3 : Hid (Below W1.heap.size W1 W3) := bl_call HB2.out b3 (Nat.le_refl _)
        obtain ⟨v, hv⟩ : ∃ v, wrong8 h.most (at8 h l r tl ((a0 + j : Nat) : Int)) = v := ⟨_, rfl⟩
        rw [hv]
        by_cases hz : v = 0
        · have hzb : (v != 0) = false := by rw [hz]; rfl
          have HZ2 : Hid (∀ i, i < j + 1 → wrong8 h.most (at8 h l r tl ((a0 + i : Nat) : Int)) = 0) := fun i hi => by
            by_cases e : i = j
            · rw [e, hv, hz]
            · exact HZ.out i (by omega)
          clear hv hz b3 hw3
          go_wp2_with fail
          go_roundw
          case rel => exact ⟨j + 1, by go_num, by omega, HB3.out, HZ2.out⟩
          case measure => simp [intOf]; omega
        · have hzb : (v != 0) = true := by simpa using hz
          have HV2 := Lib.hid hv
          have HNZ := Lib.hid hz
          have HRR : Hid (whyR h l r tl = (v, ((a0 + j : Nat) : Int), 0)) := by
            rw [Hid, HR2.out, firstErr_some hlt HZ.out (by rw [hv]; exact hz), hv]
          have y0 := getc HB3.out Y0.out
          have hyl3 : w.heap.size < W3.heap.size := by have := HB3.out.size; omega
          clear hv hz b3
          go_wp2_with fail
          go_quiet (fail)
          go_wp2_with fail
          go_ret3
          exact ⟨by rw [HRR.out]; rfl, bl_drewN (bl_call HB1.out HB3.out (Nat.le_refl _)) _⟩
      · obtain rfl : j = d := by omega
        have HRR : Hid (whyR h l r tl = (0, 0, 0)) := by
          rw [Hid, HR2.out, firstErr_none HZ.out]
        go_wp2_with fail
        go_ret3
        exact ⟨by rw [HRR.out]; rfl, bl_call HB1.out HB.out (Nat.le_refl _)⟩
  · have HR := Lib.hid (whyR_bad he)
    have heb : (asked8 h l row tl != 0) = true := by simpa using he
    clear he hbx
    go_wp2_with fail
    go_ret3
    exact ⟨by rw [HR.out]; rfl, B1⟩

end Go.Proofs.Ytnaadjhiahjlfaa

namespace Go.Proofs.Ytnaadjhiahjlfaa
open Go.RowKit Go.Shelf

theorem airsR_bad {h : Hall} {l : List Seen} {row : Int} {tl : List Int} (e : asked8 h l row tl ≠ 0) : airsR h l row tl = ((0, 0), asked8 h l row tl) := by rw [airsR, if_pos e]
theorem airsR_ok {h : Hall} {l : List Seen} {r : Nat} {tl : List Int} (e : asked8 h l r tl = 0) : airsR h l r tl = match airsUpto h l r tl 41 with
  | none => ((0, 0), 8)
  | some g => (g, 0) := by rw [airsR, if_neg (by simp [e])]; rfl
theorem airs_no {h : Hall} {l : List Seen} {r j : Nat} {tl : List Int} (e : wrong8 h.most (at8 h l r tl j) ≠ 0) : airsUpto h l r tl (j + 1) = airsUpto h l r tl j := by rw [airsUpto, if_pos e]
theorem airs_first {h : Hall} {l : List Seen} {r j : Nat} {tl : List Int} (e : wrong8 h.most (at8 h l r tl j) = 0) (hn : airsUpto h l r tl j = none) : airsUpto h l r tl (j + 1) = some ((j : Int), (j : Int)) := by rw [airsUpto, if_neg (by simp [e]), hn]
theorem airs_next {h : Hall} {l : List Seen} {r j : Nat} {tl : List Int} {x y : Int} (e : wrong8 h.most (at8 h l r tl j) = 0) (hn : airsUpto h l r tl j = some (x, y)) : airsUpto h l r tl (j + 1) = some (x, (j : Int)) := by rw [airsUpto, if_neg (by simp [e]), hn]
theorem HBox.write {w w' : World} {gh : Nat} {A : Option Addr} {n ca : Nat} {B : Option Addr} {m cb : Nat} {C : Option Addr} {q cc : Nat} {h : Hall} {l : List Seen} (g : HBox w gh A n ca B m cb C q cc h l) {g8 : Nat} {t : TypeId} {x y : Value} (hY : Blk w g8 t #[x, y]) (hK : Kept (fun k => k = g8) w w') (hh : HallAt (fun _ => True) w' A n B m h) : HBox w' gh A n ca B m cb C q cc h l := by
  obtain ⟨⟨gm, gr, gc, h1, h2, h3, h4⟩, h5⟩ := g
  refine ⟨⟨gm, gr, gc, (hK.block _ h1.lt (fun e => ?_)).trans h1, (hK.block _ h2.lt (fun e => ?_)).trans h2, hK.cell h3 (fun e => ?_), h4.at (hK.block _ h4.lt (fun e => ?_))⟩, hh⟩
  · subst e
    have := h1.symm.trans hY
    injection this with this
    injection this with this
    have := congrArg Array.size this
    simp at this
  · subst e
    have := h2.symm.trans hY
    injection this with this
    injection this with this
    have := congrArg Array.size this
    simp at this
  · dsimp only at e
    subst e
    have := hY.cell 2
    rw [h3] at this
    simp at this
  · subst e
    have := Eq.trans h4.symm hY
    injection this with this
    cases this

set_option maxRecDepth 100000 in
set_option maxHeartbeats 1000000 in
theorem tairs_any {S : Foot} {A B C T : Option Addr} {n ca m cb q cc k c : Nat} {h : Hall} {l : List Seen} {alo ahi most : Int} {tl : List Int} (row : Int) (w : World) (g : HallAt (fun _ => True) w A n B m h) (gs : Seens (fun _ => True) w C q l) (ht : Ints S w T k tl) (hca : n ≤ ca) (h1 : h.alo = alo) (h2 : h.ahi = ahi) (h3 : h.most = most) :
    Calls Try.prog 55 #[.agg #[.int .i64 alo, .int .i64 ahi, .int .i64 most, .slice A n ca, .slice B m cb], .slice C q cc, .int .i64 row, .slice T k c] w fun e w' =>
      e = .returned (.tuple #[.agg #[.int .i64 (airsR h l row tl).1.1, .int .i64 (airsR h l row tl).1.2], .int .i64 (airsR h l row tl).2]) ∧ Below w.heap.size w w' := by
  obtain ⟨W, hW⟩ : ∃ W, (w.alloc (.cells #[.int .i64 alo, .int .i64 ahi, .int .i64 most, .slice A n ca, .slice B m cb] 27)).alloc (.cells #[.int .i64 0, .int .i64 0] 23) = W := ⟨_, rfl⟩
  have X8 : Blk W (w.heap.size + 1) 23 #[.int .i64 0, .int .i64 0] := by rw [← hW]; exact Blk.new _ _ _ (by simp)
  have hBW : Below w.heap.size w W := by rw [← hW]; exact bl_alloc (bl_alloc (Below.refl _ _) _ (Nat.le_refl _)) _ (Nat.le_refl _)
  have hc : HallAt (fun _ => True) W A n B m h := g.keep (Keeps.below hBW)
  have hs : Seens (fun _ => True) W C q l := gs.keep SeenR.good (Keeps.below hBW)
  have htW : Ints S W T k tl := ht.keep IntR.good (Keeps.below hBW)
  have hWs : w.heap.size ≤ W.heap.size := hBW.size
  have HW := Lib.hid hW
  have HGB := Lib.hid g.bound
  have Hn := Lib.hid hc.ts.len
  have Hm := Lib.hid hc.rs.len
  have Hk := Lib.hid ht.len
  clear hW g gs
  go_enter Try.func55, Try.ntmps55
  go_wp2_with fail
  rw [HW.out]
  refine (topen_any row W hc hs htW hca h1 h2 h3).mono ?_
  rintro e W1 ⟨b1, p, rfl, hbx⟩
  have B1 : Below w.heap.size w W1 := hBW.trans (b1.mono hWs)
  have Y1 := X8.bl b1
  clear X8
  by_cases he : asked8 h l row tl = 0
  · obtain ⟨gh, rfl, hbox⟩ := hbx he
    obtain ⟨r, ha⟩ := asked_ok he Hn.out Hm.out
    have hrow := ha.row
    subst hrow
    have HR := Lib.hid (airsR_ok he)
    have htW1 := htW.keep IntR.good (Keeps.below b1)
    have HA := Lib.hid ha
    rw [he]
    have HBOX := Lib.hid hbox
    obtain ⟨g8, hg8⟩ : ∃ g8, w.heap.size + 1 = g8 := ⟨_, rfl⟩
    rw [hg8] at Y1 ⊢
    have HY1 := Lib.hid Y1
    have HB1 := Lib.hid B1
    have hyl := Y1.lt
    have hg8w : w.heap.size ≤ g8 := by omega
    clear he hbx ha hbox htW1 B1 Y1 hg8
    go_wp2_with fail
    go_loopw [11, 12, 25] (fun u11 _ i' wr => ∃ (j : Nat) (b : Bool) (x0 x1 : Int), i' = .int .i64 j ∧ j ≤ 41 ∧ u11 = .bool b ∧ Hid (Kept (fun x => x = g8) W1 wr) ∧ Hid (Blk wr g8 23 #[.int .i64 x0, .int .i64 x1]) ∧ Hid (airsUpto h l r tl j = if b then some (x0, x1) else none) ∧ Hid (b = false → x0 = 0 ∧ x1 = 0)) (fun _ _ i' _ => 41 - (intOf i').toNat)
    case atStart => exact ⟨0, false, 0, 0, rfl, by omega, rfl, Kept.refl _ _, HY1.out, rfl, fun _ => ⟨rfl, rfl⟩⟩
    case round =>
      obtain ⟨j, b, x0, x1, rfl, hj, rfl, HK, HB, HU, HZ⟩ := hrel
      have hKw : Keeps (fun x => True ∧ x < w.heap.size) w wr := (Keeps.below HB1.out).trans (HK.out.keeps (fun x hx e => by omega))
      have hhr : HallAt (fun _ => True) wr A n B m h := (HGB.out.keep hKw).mono (fun _ _ => trivial)
      have htr : Ints (fun x => S x ∧ x < w.heap.size) wr T k tl := (ht.bound IntR.good).keep IntR.good ⟨hKw.size, fun x hx hl => hKw.block x ⟨trivial, hx.2⟩ hl⟩
      have hbr := HBOX.out.write HY1.out HK.out hhr
      have hBw : Below w.heap.size w wr := HB1.out.trans (HK.out.below (B := w.heap.size) HB1.out.size (fun x hx => by omega))
      by_cases hlt : j < 41
      · have hji : (j : Int) < 41 := by omega
        go_wp2_with fail
        refine (at_any wr hbr HA.out.ok HA.out.ag HA.out.lt htr (by rw [← Hk.out]; exact HA.out.k8) HA.out.tl (by omega)).mono ?_
        rintro e W2 ⟨rfl, b2⟩
        have hwhy := why_any (at8 h l r tl j).1 (at8 h l r tl j).2 W2 (hbr.keep b2)
        go_wp2_with fail
        refine hwhy.mono ?_
        rintro e W3 ⟨rfl, b3⟩
        have b23 : Below wr.heap.size wr W3 := bl_call b2 b3 (Nat.le_refl _)
        obtain ⟨v, hv⟩ : ∃ v, wrong8 h.most (at8 h l r tl j) = v := ⟨_, rfl⟩
        have HK3 : Hid (Kept (fun x => x = g8) W1 W3) := HK.out.trans (Kept.of_bl b23)
        have hB3 := HB.out.bl b23
        have HB3 := Lib.hid hB3
        have q0 := hB3.cell 0
        have q1 := hB3.cell 1
        have fq0 := hB3.frozen 0
        have fq1 := hB3.frozen 1
        have hgl := hB3.lt
        rw [show wrong8 h.most ((at8 h l r tl j).1, (at8 h l r tl j).2) = v from hv]
        have HV := Lib.hid hv
        clear hwhy hv b2 b3 b23 hbr htr hhr hKw hB3 hBw
        by_cases hz : v = 0
        · have hzb : (v != 0) = false := by rw [hz]; rfl
          cases b
          · have HN : Hid (airsUpto h l r tl (j + 1) = some ((j : Int), (j : Int))) := airs_first (by rw [HV.out, hz]) (by rw [HU.out]; rfl)
            clear hz
            go_wp2_with fail
            go_roundw
            case rel => exact ⟨j + 1, true, (j : Int), (j : Int), by go_num, by omega, rfl, (HK3.out.trans (Kept.setCell _ _ _ rfl)).trans (Kept.setCell _ _ _ rfl), (HB3.out.set_ 1 _).set_ 0 _, HN, fun h => by cases h⟩
            case measure => simp [intOf]; omega
          · have HN : Hid (airsUpto h l r tl (j + 1) = some (x0, (j : Int))) := airs_next (y := x1) (by rw [HV.out, hz]) (by rw [HU.out]; rfl)
            clear hz
            go_wp2_with fail
            go_roundw
            case rel => exact ⟨j + 1, true, x0, (j : Int), by go_num, by omega, rfl, HK3.out.trans (Kept.setCell _ _ _ rfl), HB3.out.set_ 1 _, HN, fun h => by cases h⟩
            case measure => simp [intOf]; omega
        · have hzb : (v != 0) = true := by simpa using hz
          have HN : Hid (airsUpto h l r tl (j + 1) = airsUpto h l r tl j) := airs_no (by rw [HV.out]; exact hz)
          clear hz
          go_wp2_with fail
          go_roundw
          case rel => exact ⟨j + 1, b, x0, x1, by go_num, by omega, rfl, HK3.out, HB3.out, HN.out.trans HU.out, HZ.out⟩
          case measure => simp [intOf]; omega
      · obtain rfl : j = 41 := by omega
        have q0 := HB.out.cell 0
        have q1 := HB.out.cell 1
        have fq0 := HB.out.frozen 0
        have fq1 := HB.out.frozen 1
        have hgl := HB.out.lt
        have HBW := Lib.hid hBw
        clear hbr htr hhr hKw hBw
        cases b
        · obtain ⟨rfl, rfl⟩ := HZ.out rfl
          have HRR : Hid (airsR h l r tl = ((0, 0), 8)) := by rw [Hid, HR.out, HU.out]; rfl
          go_wp2_with fail
          exact bodyPost_ret (ret_span rfl rfl rfl (HB.out.set2 _ _).c0 (HB.out.set2 _ _).c1) rfl ⟨by rw [HRR.out], bl_set (bl_set HBW.out (by dsimp only; omega) _) (by dsimp only; omega) _⟩
        · have HRR : Hid (airsR h l r tl = ((x0, x1), 0)) := by rw [Hid, HR.out, HU.out]; rfl
          go_wp2_with fail
          exact bodyPost_ret (ret_span rfl rfl rfl (HB.out.set2 _ _).c0 (HB.out.set2 _ _).c1) rfl ⟨by rw [HRR.out], bl_set (bl_set HBW.out (by dsimp only; omega) _) (by dsimp only; omega) _⟩
  · have HR := Lib.hid (airsR_bad he)
    have heb : (asked8 h l row tl != 0) = true := by simpa using he
    have y0 := Y1.cell 0
    have y1 := Y1.cell 1
    have fy0 := Y1.frozen 0
    have fy1 := Y1.frozen 1
    have hyl := Y1.lt
    clear he hbx
    go_wp2_with fail
    exact bodyPost_ret (ret_span rfl rfl rfl (Y1.set2 _ _).c0 (Y1.set2 _ _).c1) rfl ⟨by rw [HR.out], bl_set (bl_set B1 (by dsimp only; omega) _) (by dsimp only; omega) _⟩

end Go.Proofs.Ytnaadjhiahjlfaa
