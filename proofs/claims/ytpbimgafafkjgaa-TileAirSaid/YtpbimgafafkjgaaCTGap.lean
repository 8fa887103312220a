/- Walks: the gaps of a row with tiles in any air of the hall, and why a gap is not right. -/
import Derived.Test.YtpbimgafafkjgaaCTAt
set_option linter.unusedVariables false
set_option linter.unusedSimpArgs false
set_option linter.all false
namespace Go.Proofs.Ytpbimgafafkjgaa
open Go.RowKit Go.Shelf

set_option maxRecDepth 100000 in
set_option maxHeartbeats 1000000 in
theorem gap_any {S : Foot} {A B C T : Option Addr} {n ca m cb q cc k c gh row : Nat} {h : Hall} {l : List Seen} {tl : List Int} (w : World) (H : HBox w gh A n ca B m cb C q cc h l) (hk : OkH h) (hag : agree8 h l = true)
    (hr : row < m) (ht : Ints S w T k tl) (hk8 : k ≤ 8) (hT : ∀ i ∈ tl, 0 ≤ i ∧ i < n) :
    Calls Try.prog 60 #[.pointer (some ⟨gh, 0, none⟩), .int .i64 row, .slice T k c] w fun e w' =>
      e = .returned (.agg #[.int .i64 (gap8 h l row tl).1, .int .i64 (gap8 h l row tl).2]) ∧ Below w.heap.size w w' := by
  obtain ⟨g1, g2, g3, g4⟩ := hk.air
  obtain ⟨a0, ha0⟩ : ∃ a0 : Nat, h.alo = a0 := ⟨h.alo.toNat, by omega⟩
  obtain ⟨a1, ha1⟩ : ∃ a1 : Nat, h.ahi = a1 := ⟨h.ahi.toNat, by omega⟩
  have ha01 : a0 ≤ a1 ∧ a1 ≤ 40 := by omega
  obtain ⟨d, hd⟩ : ∃ d : Nat, a1 = a0 + d := ⟨a1 - a0, by omega⟩
  have hcall : Hid (∀ (W : World) (a : Nat), Below w.heap.size w W → a ≤ 40 → Calls Try.prog 64 #[.pointer (some ⟨gh, 0, none⟩), .int .i64 row, .slice T k c, .int .i64 a] W fun e w' =>
      e = .returned (.agg #[.int .i64 (at8 h l row tl a).1, .int .i64 (at8 h l row tl a).2]) ∧ Below W.heap.size W w') :=
    fun W a hb ha => at_any W (H.keep hb) hk hag hr (ht.keep IntR.good (Keeps.below hb)) hk8 hT ha
  have hcell : Hid (∀ W, Below w.heap.size w W → W.cell? ⟨gh, 0, none⟩ = some (.int .i64 a0) ∧ W.cell? ⟨gh, 1, none⟩ = some (.int .i64 a1)) := fun W hb => by
    obtain ⟨⟨gm, gr, gc, MH, _⟩, _⟩ := H
    exact ⟨by rw [← ha0]; exact (MH.bl hb).cell 0, by rw [← ha1]; exact (MH.bl hb).cell 1⟩
  have hghl : gh < w.heap.size := by obtain ⟨⟨gm, gr, gc, MH, _⟩, _⟩ := H; exact MH.lt
  have H0 : Hid (gapUpto h l row tl 0 = at8 h l row tl (a0 : Nat)) := by rw [Hid, gapUpto, ha0]
  have HS : Hid (∀ j : Nat, gapUpto h l row tl (j + 1) = (min (gapUpto h l row tl j).1 (at8 h l row tl ((a0 + 1 + j : Nat) : Int)).1, max (gapUpto h l row tl j).2 (at8 h l row tl ((a0 + 1 + j : Nat) : Int)).2)) := fun j => by
    rw [gapUpto, ha0]; rfl
  have HD : Hid (gap8 h l row tl = gapUpto h l row tl d) := by
    rw [Hid, gap8]; congr 1; omega
  have hw1 : IntKind.i64.wrap ((a1 : Int) - a0) = (d : Int) := by rw [IntKind.wrap_i64]; omega
  have hw2 : IntKind.i64.wrap ((a0 : Int) + 1) = (a0 : Int) + 1 := by rw [IntKind.wrap_i64]; omega
  have had : a0 + d ≤ 40 := by omega
  have hlk := ht.le
  clear H hk hag ht ha0 ha1 hd g1 g2 g3 g4 hT
  go_enter Try.func60, Try.ntmps60
  have hb0 : Below w.heap.size w (w.alloc (.cells #[.int .i64 0, .int .i64 0] 23)) := bl_alloc (Below.refl _ _) _ (Nat.le_refl _)
  obtain ⟨c0, _⟩ := hcell.out _ hb0
  go_wp2_with fail
  refine (hcall.out _ _ hb0 (by omega)).mono ?_
  rintro e w1 ⟨rfl, hb1⟩
  obtain ⟨x0, x1, hx⟩ : ∃ x0 x1, at8 h l row tl (a0 : Nat) = (x0, x1) := ⟨_, _, rfl⟩
  have R6 : Blk w1 w.heap.size 23 #[.int .i64 0, .int .i64 0] := (Blk.new _ _ _ rfl).bl hb1
  have hB1 : Below w.heap.size w w1 := bl_call hb0 hb1 (Nat.le_refl _)
  have hs1 : w.heap.size < w1.heap.size := R6.lt
  rw [hx]
  have HX : Hid (gapUpto h l row tl 0 = (x0, x1)) := by rw [Hid, H0.out, hx]
  clear hx c0 hb0 hb1 H0
  go_wp2_with fail
  obtain ⟨gg, hgg⟩ : ∃ gg, w1.heap.size = gg := ⟨_, rfl⟩
  obtain ⟨Wa, hWa⟩ : ∃ Wa, w1.alloc (.cells #[.int .i64 x0, .int .i64 x1] 23) = Wa := ⟨_, rfl⟩
  have ba : Below w.heap.size w Wa := by rw [← hWa]; exact bl_alloc hB1 _ (Nat.le_refl _)
  obtain ⟨c0, c1⟩ := hcell.out Wa ba
  rw [hWa, hgg]
  go_quiet (fail)
  go_wp2_with fail
  obtain ⟨Wl, hWl⟩ : ∃ Wl, Wa.drewN nq = Wl := ⟨_, rfl⟩
  have RG : Blk Wl gg 23 #[.int .i64 x0, .int .i64 x1] := by rw [← hWl, ← hWa]; exact (Blk.new _ _ _ hgg.symm).drewN _
  have R6' : Blk Wl w.heap.size 23 #[.int .i64 0, .int .i64 0] := by rw [← hWl, ← hWa]; exact (R6.alloc _).drewN _
  have bl : Below w.heap.size w Wl := by rw [← hWl]; exact bl_drewN ba _
  have hgl : w.heap.size < gg := by omega
  rw [hWl]
  clear hWl hWa ba c0 c1 R6 hB1 hs1 hgg
  have HBL := Lib.hid bl
  have HRG := Lib.hid RG
  have HR6 := Lib.hid R6'
  clear bl RG R6'
  go_loopw [8, 9, 33] (fun _ _ i' wr => ∃ (j : Nat) (y0 y1 : Int), i' = .int .i64 j ∧ j ≤ d ∧ Hid (gapUpto h l row tl j = (y0, y1)) ∧ Hid (Kept (fun x => x = gg) Wl wr) ∧ Hid (Blk wr gg 23 #[.int .i64 y0, .int .i64 y1])) (fun _ _ i' _ => d - (intOf i').toNat)
  case atStart => exact ⟨0, x0, x1, rfl, Nat.zero_le _, HX, Kept.refl _ _, HRG.out⟩
  case round =>
    obtain ⟨j, y0, y1, rfl, hj, HG, HK, HB⟩ := hrel
    have hBl : Below w.heap.size w wr := HBL.out.trans (HK.out.below (B := w.heap.size) HBL.out.size (fun x hx => by omega))
    by_cases hlt : j < d
    · have hji : (j : Int) < d := by omega
      obtain ⟨c0, _⟩ := hcell.out wr hBl
      have hghr : gh < wr.heap.size := by have := hBl.size; omega
      have hw3 : IntKind.i64.wrap ((a0 : Int) + 1 + (j : Int)) = ((a0 + 1 + j : Nat) : Int) := by rw [IntKind.wrap_i64]; omega
      go_wp2_with fail
      rw [show (a0 : Int) + 1 + (j : Int) = ((a0 + 1 + j : Nat) : Int) by omega]
      refine (hcall.out wr (a0 + 1 + j) hBl (by omega)).mono ?_
      rintro e w2 ⟨rfl, hb2⟩
      obtain ⟨z0, z1, hz⟩ : ∃ z0 z1, at8 h l row tl ((a0 + 1 + j : Nat) : Int) = (z0, z1) := ⟨_, _, rfl⟩
      have HG2 : Hid (gapUpto h l row tl (j + 1) = (min y0 z0, max y1 z1)) := by rw [Hid, HS.out, HG.out, hz]
      rw [hz]
      have hBg := HB.out.bl hb2
      have q0 := hBg.cell 0
      have q1 := hBg.cell 1
      have fq0 := hBg.frozen 0
      have fq1 := hBg.frozen 1
      have hggl := hBg.lt
      have hmin := min_if y0 z0
      have hmax := max_if y1 z1
      have HBG := Lib.hid hBg
      have HK2 : Hid (Kept (fun x => x = gg) Wl w2) := HK.out.trans (Kept.of_bl hb2)
      clear hz c0 hw3 hb2 hBg
      go_wp2
      go_roundw
      case rel => exact ⟨j + 1, min y0 z0, max y1 z1, by go_num, by omega, HG2, ((HK2.out.trans (Kept.setCell _ _ _ rfl)).trans (Kept.setCell _ _ _ rfl)).trans (Kept.alloc _ _ _), (HBG.out.set2 _ _).alloc _⟩
      case measure => simp [intOf]; omega
    · obtain rfl : j = d := by omega
      have hR6 : Blk wr w.heap.size 23 #[.int .i64 0, .int .i64 0] := (HK.out.block _ HR6.out.lt (by omega)).trans HR6.out
      have q0 := HB.out.cell 0
      have q1 := HB.out.cell 1
      have z0 := hR6.cell 0
      have z1 := hR6.cell 1
      have fz0 := hR6.frozen 0
      have fz1 := hR6.frozen 1
      have hHR := Lib.hid hR6
      clear hR6
      go_wp2_with fail
      exact bodyPost_ret (ret_span1 rfl rfl (hHR.out.set2 _ _).c0 (hHR.out.set2 _ _).c1) rfl ⟨by rw [HD.out, HG.out], bl_set (bl_set hBl (Nat.le_refl _) _) (Nat.le_refl _) _⟩

end Go.Proofs.Ytpbimgafafkjgaa
