/- A part of the proof that TopLaid always answers true. -/
import Derived.Test.YtdbfincinjoppaaGreatCPure
import Derived.Test.YtdbfincinjoppaaGreatCTEnter
set_option linter.all false
namespace Go.Proofs.YtdbfincinjoppaaGreat
open Go.RowKit Go.Shelf
section
variable {h : Hall} {l : List Seen} {t a : Int}
theorem width8_bad (e : (seen8 h l).2 ≠ 0) : width8 h l t a = ((0, 0), (seen8 h l).2) := by rw [width8, if_pos e]
theorem width8_n (e : (seen8 h l).2 = 0) : width8 h l t a = if outB 0 ((h.tiles.length : Int) - 1) t then ((0, 0), 4) else if outB 0 40 a then ((0, 0), 7) else if agree8 h l = false then ((0, 0), 9) else (wide8 h l t.toNat a, 0) := by
 rw [width8, if_neg (by simp [e])]
 simp only [outB_inB]
end
set_option maxRecDepth 100000 in
set_option maxHeartbeats 1000000 in
theorem twidth_any {A B C : Option Addr} {n ca m cb q cc : Nat} {h : Hall} {l : List Seen} {alo ahi most : Int} (t a : Int) (w : World) (g : HallAt (fun _ => True) w A n B m h) (gs : Seens (fun _ => True) w C q l) (hca : n ≤ ca) (h1 : h.alo = alo) (h2 : h.ahi = ahi) (h3 : h.most = most) :
  Calls Tryz.prog 33 #[.agg #[.int .i64 alo, .int .i64 ahi, .int .i64 most, .slice A n ca, .slice B m cb], .slice C q cc, .int .i64 t, .int .i64 a] w fun e w' =>
   e = .returned (.tuple #[.agg #[.int .i64 (width8 h l t a).1.1, .int .i64 (width8 h l t a).1.2], .int .i64 (width8 h l t a).2]) ∧ Below w.heap.size w w' := by
 obtain ⟨W, hW⟩ : ∃ W, (w.alloc (.cells #[.int .i64 alo, .int .i64 ahi, .int .i64 most, .slice A n ca, .slice B m cb] 30)).alloc (.cells #[.int .i64 0, .int .i64 0] 23) = W := ⟨_, rfl⟩
 have X : Blk W w.heap.size 30 #[.int .i64 alo, .int .i64 ahi, .int .i64 most, .slice A n ca, .slice B m cb] := by rw [← hW]; exact (Blk.new _ _ _ rfl).alloc _
 have X8 : Blk W (w.heap.size + 1) 23 #[.int .i64 0, .int .i64 0] := by rw [← hW]; exact Blk.new _ _ _ (by simp)
 have hBW : Below w.heap.size w W := by rw [← hW]; exact bl_alloc (bl_alloc (Below.refl _ _) _ (Nat.le_refl _)) _ (Nat.le_refl _)
 have hc : HallAt (fun _ => True) W A n B m h := g.keep (Keeps.below hBW)
 have hs : Seens (fun _ => True) W C q l := gs.keep SeenR.good (Keeps.below hBW)
 have hWs : w.heap.size ≤ W.heap.size := hBW.size
 have Hn := Lib.hid hc.ts.len
 have hlen := hc.ts.le
 have HW := Lib.hid hW
 have hw1 : IntKind.i64.wrap ((n : Int) - 1) = (n : Int) - 1 := by rw [IntKind.wrap_i64]; omega
 clear hW g gs
 go_enter Tryz.func33, Tryz.ntmps33
 go_wp2_with fail
 rw [HW.out]
 refine (tenter_any W hc hs hca h1 h2 h3).mono ?_
 rintro e W1 ⟨b1, p, ag, rfl, hag, hbx⟩
 have B1 : Below w.heap.size w W1 := hBW.trans (b1.mono hWs)
 have X1 := X.bl b1
 have Y1 := X8.bl b1
 clear X X8
 by_cases he : (seen8 h l).2 = 0
 ·have hag := hag he
  have hbx := hbx he
  obtain ⟨hc0, _, _⟩ := seen_zero he
  have hokh := okH_of hc0
  have HW8 := Lib.hid (width8_n (t := t) (a := a) he)
  rw [he]
  have x2 := X1.cell 3
  clear he hc0
  cases ho1 : outB 0 ((n : Int) - 1) t
  ·go_wp2_with fail
   refine (out1_any _ (by exact newc rfl rfl) ho1).mono ?_
   rintro e W2 ⟨rfl, b2⟩
   have B2 : Below w.heap.size w W2 := bl_call (bl_alloc B1 _ (Nat.le_refl _)) b2 (Nat.le_refl _)
   have b12 : Below W1.heap.size W1 W2 := bl_call (bl_alloc (Below.refl _ _) _ (Nat.le_refl _)) b2 (Nat.le_refl _)
   have Y2 := Y1.bl b12
   have HO1 := Lib.hid ho1
   clear b2 x2 X1 Y1 ho1
   cases ho2 : outB 0 40 a
   ·go_wp2_with fail
    refine (out1_any _ (by exact newc rfl rfl) ho2).mono ?_
    rintro e W3 ⟨rfl, b3⟩
    have B3 : Below w.heap.size w W3 := bl_call (bl_alloc B2 _ (Nat.le_refl _)) b3 (Nat.le_refl _)
    have b23 : Below W2.heap.size W2 W3 := bl_call (bl_alloc (Below.refl _ _) _ (Nat.le_refl _)) b3 (Nat.le_refl _)
    have Y3 := Y2.bl b23
    have b13 : Below W1.heap.size W1 W3 := bl_call b12 b23 (Nat.le_refl _)
    have HO2 := Lib.hid ho2
    clear b3 Y2 ho2 b12 b23
    subst hag
    have y0 := Y3.cell 0
    have y1 := Y3.cell 1
    have fy0 := Y3.frozen 0
    have fy1 := Y3.frozen 1
    have hyl := Y3.lt
    cases hga : agree8 h l
    ·have HR : Hid (width8 h l t a = ((0, 0), 9)) := by rw [Hid, HW8.out, Hn.out, HO1.out, HO2.out, if_neg (by decide), if_neg (by decide), if_pos hga]
     clear hbx
     go_wp2_with fail
     exact bodyPost_ret (ret_span rfl rfl rfl (Y3.set2 _ _).c0 (Y3.set2 _ _).c1) rfl ⟨by rw [HR.out], bl_set (bl_set B3 (by dsimp only; omega) _) (by dsimp only; omega) _⟩
    obtain ⟨gh, rfl, hbox⟩ := hbx hga
    obtain ⟨⟨gm, gr, gc, MH, MR, c2, MM⟩, _⟩ := hbox
    have hr1 : 0 ≤ t ∧ t ≤ (n : Int) - 1 := by have := HO1.out; unfold outB at this; simp at this; omega
    have hr2 : 0 ≤ a ∧ a ≤ 40 := by have := HO2.out; unfold outB at this; simp at this; omega
    obtain ⟨t', rfl⟩ := Int.eq_ofNat_of_zero_le hr1.1
    obtain ⟨a', rfl⟩ := Int.eq_ofNat_of_zero_le hr2.1
    have htn : t' < n := by omega
    have HR : Hid (width8 h l t' a' = (wide8 h l t' a', 0)) := by rw [Hid, HW8.out, Hn.out, HO1.out, HO2.out, if_neg (by decide), if_neg (by decide), if_neg (by rw [hga]; decide)]; rfl
    obtain ⟨v1, v2, hv⟩ : ∃ v1 v2, wide8 h l t' a' = (v1, v2) := ⟨_, _, rfl⟩
    have HR2 : Hid (width8 h l t' a' = ((v1, v2), 0)) := by rw [Hid, HR.out, hv]
    have hlk := (MM.bl b13).look (P := Tryz.prog) Tryz.underlying137 Tryz.underlying3 (knownV_get h l htn)
    have hix : ∀ W, (Instr.index 136 (wideV h l t') (.int .i64 a')).run Tryz.prog W = .ok (.agg #[.int .i64 v1, .int .i64 v2]) W := fun W => by
     have := run_index_spans (P := Tryz.prog) Tryz.underlying136 ⟨_, Tryz.underlying23⟩ (by kernel_rfl) (fun a => wide8 h l t' a) (i := a') (by omega) W
     rw [hv] at this
     exact this
    have m6 := (MH.bl b13).cell 6
    have hghl := (MH.bl b13).lt
    clear hv HR hr1 hr2 MM MH MR c2
    go_wp2_with fail
    exact bodyPost_ret (ret_span rfl rfl rfl (Y3.set2 _ _).c0 (Y3.set2 _ _).c1) rfl ⟨by rw [HR2.out], bl_set (bl_set B3 (by dsimp only; omega) _) (by dsimp only; omega) _⟩
   have HR : Hid (width8 h l t a = ((0, 0), 7)) := by rw [Hid, HW8.out, Hn.out, HO1.out, ho2, if_neg (by decide), if_pos rfl]
   go_wp2_with fail
   refine (out1_any _ (by exact newc rfl rfl) ho2).mono ?_
   rintro e W3 ⟨rfl, b3⟩
   have B3 : Below w.heap.size w W3 := bl_call (bl_alloc B2 _ (Nat.le_refl _)) b3 (Nat.le_refl _)
   have b23 : Below W2.heap.size W2 W3 := bl_call (bl_alloc (Below.refl _ _) _ (Nat.le_refl _)) b3 (Nat.le_refl _)
   have Y3 := Y2.bl b23
   have y0 := Y3.cell 0
   have y1 := Y3.cell 1
   have fy0 := Y3.frozen 0
   have fy1 := Y3.frozen 1
   have hyl := Y3.lt
   clear b3 Y2 ho2 b12 b23
   go_wp2_with fail
   exact bodyPost_ret (ret_span rfl rfl rfl (Y3.set2 _ _).c0 (Y3.set2 _ _).c1) rfl ⟨by rw [HR.out], bl_set (bl_set B3 (by dsimp only; omega) _) (by dsimp only; omega) _⟩
  have HR : Hid (width8 h l t a = ((0, 0), 4)) := by rw [Hid, HW8.out, Hn.out, ho1, if_pos rfl]
  go_wp2_with fail
  refine (out1_any _ (by exact newc rfl rfl) ho1).mono ?_
  rintro e W2 ⟨rfl, b2⟩
  have B2 : Below w.heap.size w W2 := bl_call (bl_alloc B1 _ (Nat.le_refl _)) b2 (Nat.le_refl _)
  have b12 : Below W1.heap.size W1 W2 := bl_call (bl_alloc (Below.refl _ _) _ (Nat.le_refl _)) b2 (Nat.le_refl _)
  have Y3 := Y1.bl b12
  have y0 := Y3.cell 0
  have y1 := Y3.cell 1
  have fy0 := Y3.frozen 0
  have fy1 := Y3.frozen 1
  have hyl := Y3.lt
  clear b2 x2 X1 Y1 ho1
  go_wp2_with fail
  exact bodyPost_ret (ret_span rfl rfl rfl (Y3.set2 _ _).c0 (Y3.set2 _ _).c1) rfl ⟨by rw [HR.out], bl_set (bl_set B2 (by dsimp only; omega) _) (by dsimp only; omega) _⟩
 have HR := Lib.hid (width8_bad (t := t) (a := a) he)
 have heb : ((seen8 h l).2 != 0) = true := by simpa using he
 have y0 := Y1.cell 0
 have y1 := Y1.cell 1
 have fy0 := Y1.frozen 0
 have fy1 := Y1.frozen 1
 have hyl := Y1.lt
 clear he hag hbx
 go_wp2_with fail
 exact bodyPost_ret (ret_span rfl rfl rfl (Y1.set2 _ _).c0 (Y1.set2 _ _).c1) rfl ⟨by rw [HR.out], bl_set (bl_set B1 (by dsimp only; omega) _) (by dsimp only; omega) _⟩
open Go.RowKit Go.Shelf
section
variable {h : Hall} {l : List Seen} {row : Int} {tl : List Int}
def notAsc (tl : List Int) (k : Nat) : Bool := decide (tl.getD (k + 1) 0 ≤ tl.getD k 0)
theorem asked_bad (e : (seen8 h l).2 ≠ 0) : asked8 h l row tl = (seen8 h l).2 := by rw [asked8, if_pos e]
theorem asked_row (e : (seen8 h l).2 = 0) (o : outB 0 ((h.rows.length : Int) - 1) row = true) : asked8 h l row tl = 4 := by
 rw [asked8, if_neg (by simp [e]), if_pos (by rw [← outB_inB]; exact o)]
theorem asked_tiles (e : (seen8 h l).2 = 0) (o : outB 0 ((h.rows.length : Int) - 1) row = false) : asked8 h l row tl =
  if tilesE h.tiles.length (h.rows.getD row.toNat dRow).places tl ≠ 0 then tilesE h.tiles.length (h.rows.getD row.toNat dRow).places tl else if agree8 h l = false then 9 else 0 := by
 rw [asked8, if_neg (by simp [e]), if_neg (by rw [← outB_inB, o]; decide)]
theorem tilesE_long {nt : Nat} {p : Int} (e : (tl.length : Int) ≠ p) : tilesE nt p tl = 3 := by rw [tilesE, if_pos e]
theorem tilesE_n {nt : Nat} {p : Int} (e : (tl.length : Int) = p) : tilesE nt p tl = if tl.any (outB 0 ((nt : Int) - 1)) then 4 else if (List.range (tl.length - 1)).any (notAsc tl) then 2 else 0 := by
 rw [tilesE, if_neg (by simp [e])]
 have : (fun i => !inB i 0 ((nt : Int) - 1)) = outB 0 ((nt : Int) - 1) := by funext i; rw [outB_inB]
 rw [this]; rfl
theorem tilesE_zero {nt : Nat} {p : Int} (e : tilesE nt p tl = 0) : (tl.length : Int) = p ∧ (∀ i ∈ tl, 0 ≤ i ∧ i < nt) ∧ (List.range (tl.length - 1)).any (notAsc tl) = false := by
 by_cases h1 : (tl.length : Int) = p
 ·rw [tilesE_n h1] at e
  split at e
  ·cases e
  split at e
  ·cases e
  rename_i h2 h3
  refine ⟨h1, fun i hi => ?_, by simpa using h3⟩
  have : outB 0 ((nt : Int) - 1) i = false := by
   rw [← Bool.not_eq_true]; exact fun hh => h2 (List.any_eq_true.2 ⟨i, hi, hh⟩)
  unfold outB at this
  simp at this
  omega
 rw [tilesE_long h1] at e; cases e
theorem asked_zero (e : asked8 h l row tl = 0) : (seen8 h l).2 = 0 ∧ (0 ≤ row ∧ row < h.rows.length) ∧ tilesE h.tiles.length (h.rows.getD row.toNat dRow).places tl = 0 ∧ agree8 h l = true := by
 by_cases h1 : (seen8 h l).2 = 0
 ·cases h2 : outB 0 ((h.rows.length : Int) - 1) row
  ·rw [asked_tiles h1 h2] at e
   by_cases h3 : tilesE h.tiles.length (h.rows.getD row.toNat dRow).places tl = 0
   ·rw [if_neg (fun hh => hh h3)] at e
    split at e
    ·cases e
    rename_i h4
    unfold outB at h2
    simp at h2
    exact ⟨h1, by omega, h3, by simpa using h4⟩
   rw [if_pos h3] at e; exact absurd e h3
  rw [asked_row h1 h2] at e; cases e
 rw [asked_bad h1] at e; exact absurd e h1
theorem any_range_no {p : Nat → Bool} {j : Nat} (h : (List.range j).any p = false) (hp : p j = false) : (List.range (j + 1)).any p = false := by rw [List.range_succ, List.any_append, h]; simp [hp]
theorem any_range_yes {p : Nat → Bool} {j n : Nat} (hj : j < n) (hp : p j = true) : (List.range n).any p = true := List.any_eq_true.2 ⟨j, List.mem_range.2 hj, hp⟩
end
def OpenOk (w0 : World) (A : Option Addr) (n ca : Nat) (B : Option Addr) (m cb : Nat) (C : Option Addr) (q cc : Nat) (h : Hall) (l : List Seen) (row : Int) (tl : List Int) (e : Ending) (w' : World) : Prop :=
 Below w0.heap.size w0 w' ∧ ∃ p, e = .returned (.tuple #[.pointer p, .int .i64 (asked8 h l row tl)]) ∧ (asked8 h l row tl = 0 → ∃ gh, p = some ⟨gh, 0, none⟩ ∧ HBox w' gh A n ca B m cb C q cc h l)
set_option maxRecDepth 100000 in
set_option maxHeartbeats 2000000 in
theorem topen_any {S : Foot} {A B C T : Option Addr} {n ca m cb q cc k c : Nat} {h : Hall} {l : List Seen} {alo ahi most : Int} {tl : List Int} (row : Int) (w : World) (g : HallAt (fun _ => True) w A n B m h) (gs : Seens (fun _ => True) w C q l) (ht : Ints S w T k tl) (hca : n ≤ ca) (h1 : h.alo = alo) (h2 : h.ahi = ahi) (h3 : h.most = most) :
  Calls Tryz.prog 63 #[.agg #[.int .i64 alo, .int .i64 ahi, .int .i64 most, .slice A n ca, .slice B m cb], .slice C q cc, .int .i64 row, .slice T k c] w (OpenOk w A n ca B m cb C q cc h l row tl) := by
 obtain ⟨W, hW⟩ : ∃ W, w.alloc (.cells #[.int .i64 alo, .int .i64 ahi, .int .i64 most, .slice A n ca, .slice B m cb] 30) = W := ⟨_, rfl⟩
 have X : Blk W w.heap.size 30 #[.int .i64 alo, .int .i64 ahi, .int .i64 most, .slice A n ca, .slice B m cb] := by rw [← hW]; exact Blk.new _ _ _ rfl
 have hBW : Below w.heap.size w W := by rw [← hW]; exact bl_alloc (Below.refl _ _) _ (Nat.le_refl _)
 have hc : HallAt (fun _ => True) W A n B m h := g.keep (Keeps.below hBW)
 have hs : Seens (fun _ => True) W C q l := gs.keep SeenR.good (Keeps.below hBW)
 have hWs : w.heap.size ≤ W.heap.size := hBW.size
 have Hn := Lib.hid hc.ts.len
 have Hm := Lib.hid hc.rs.len
 have Hk := Lib.hid ht.len
 have hlen := hc.ts.le
 have hlem := hc.rs.le
 have hlek := ht.le
 have HW := Lib.hid hW
 have hw1 : IntKind.i64.wrap ((n : Int) - 1) = (n : Int) - 1 := by rw [IntKind.wrap_i64]; omega
 have hw2 : IntKind.i64.wrap ((m : Int) - 1) = (m : Int) - 1 := by rw [IntKind.wrap_i64]; omega
 clear hW g gs
 go_enter Tryz.func63, Tryz.ntmps63
 go_wp2_with fail
 rw [HW.out]
 refine (tenter_any W hc hs hca h1 h2 h3).mono ?_
 rintro e W1 ⟨b1, p, ag, rfl, hag, hbx⟩
 have B1 : Below w.heap.size w W1 := hBW.trans (b1.mono hWs)
 have X1 := X.bl b1
 clear X
 by_cases he : (seen8 h l).2 = 0
 ·have hag := hag he
  have hbx := hbx he
  have HE := Lib.hid he
  rw [he]
  have x3 := X1.cell 3
  have x4 := X1.cell 4
  have HX1 := Lib.hid X1
  clear he X1
  cases ho1 : outB 0 ((m : Int) - 1) row
  ·have HO1 := Lib.hid ho1
   have HT0 : Hid (asked8 h l row tl = _) := asked_tiles (row := row) (tl := tl) HE.out (by rw [Hm.out]; exact ho1)
   have hr1 : 0 ≤ row ∧ row ≤ (m : Int) - 1 := by unfold outB at ho1; simp at ho1; omega
   obtain ⟨r, rfl⟩ := Int.eq_ofNat_of_zero_le hr1.1
   have hrm : r < m := by omega
   have hrmi : (r : Int) < m := by omega
   go_wp2_with fail
   refine (out1_any _ (by exact newc rfl rfl) ho1).mono ?_
   rintro e W2 ⟨rfl, b2⟩
   have b12 : Below W1.heap.size W1 W2 := bl_call (bl_alloc (Below.refl _ _) _ (Nat.le_refl _)) b2 (Nat.le_refl _)
   have B2 : Below w.heap.size w W2 := bl_call B1 b12 (Nat.le_refl _)
   have hrs : RowTs (fun _ => True) W2 B m h.rows := hc.rs.keep RowR.good (Keeps.below (bl_call b1 b12 (Nat.le_refl _)))
   obtain ⟨b, off, fr, sw, pl, rfl, hbb, r0, r1, r2, Hx⟩ := RowTs.get hrs hrm
   have HPL : Hid ((h.rows.getD ((r : Nat) : Int).toNat dRow).places = pl) := by rw [Hid, Int.toNat_natCast, getD_of Hx.out]
   have X2 := HX1.out.bl b12
   have x23 := X2.cell 3
   have x24 := X2.cell 4
   have HX2 := Lib.hid X2
   clear b2 x3 x4 ho1 r0 r1 X2 hr1 HX1 hrs
   by_cases hkp : (k : Int) = pl
   ·have hkb : ((k : Int) != pl) = false := by simpa using hkp
    have HTE : Hid (tilesE h.tiles.length pl tl = _) := tilesE_n (tl := tl) (nt := h.tiles.length) (by rw [Hk.out]; exact hkp)
    clear hkp
    have ht2 := ht.keep IntR.good (Keeps.below B2)
    cases ho2 : tl.any (outB 0 ((n : Int) - 1))
    ·go_wp2_with fail
     refine (out_any 0 ((n : Int) - 1) _ ht2).mono ?_
     rintro e W3 ⟨rfl, b3⟩
     rw [ho2]
     have B3 : Below w.heap.size w W3 := bl_call B2 b3 (Nat.le_refl _)
     have b13 : Below W1.heap.size W1 W3 := bl_call b12 b3 (Nat.le_refl _)
     have HO2 := Lib.hid ho2
     have HB3 := Lib.hid B3
     have HB13 := Lib.hid b13
     clear b3 ho2 x23 x24 r2 hkb ht2 b13 b12 B2 B3 hbb
     go_wp2_with fail
     go_loopw [13] (fun i' wr => ∃ i j qn : Nat, i' = .int .i64 i ∧ Hid (i = j + 1) ∧ (i ≤ k ∨ i = 1) ∧ 1 ≤ i ∧ wr = W3.drewN qn ∧ Hid ((List.range j).any (notAsc tl) = false)) (fun i' _ => k - (intOf i').toNat)
     case atStart => exact ⟨1, 0, 0, rfl, rfl, .inr rfl, Nat.le_refl _, rfl, rfl⟩
     case round =>
      obtain ⟨i, j, qn, rfl, Hij, hik, hi1, rfl, HA⟩ := hrel
      by_cases hlt : i < k
      ·have hki : (i : Int) < k := by omega
       have hjk : j < k := by have := Hij.out; omega
       have hjki : (j : Int) < k := by omega
       have htr := ht.keep IntR.good (Keeps.below HB3.out)
       obtain ⟨b1', o1', x, rfl, hcx, Hx1⟩ := Ints.get htr hlt
       obtain ⟨b2', o2', y, hAe, hcy, Hy1⟩ := Ints.get htr hjk
       obtain ⟨rfl, rfl⟩ : b1' = b2' ∧ o1' = o2' := by injection hAe with hAe; injection hAe with e1 e2; exact ⟨e1, e2⟩
       have hwj : IntKind.i64.wrap ((i : Int) - 1) = (j : Int) := by have := Hij.out; rw [IntKind.wrap_i64]; omega
       have HNA : Hid (notAsc tl j = decide (x ≤ y)) := by
        rw [Hid, notAsc, ← Hij.out, getD_of Hx1.out, getD_of Hy1.out]
       clear htr hAe
       by_cases hxy : x ≤ y
       ·have hd : decide (x ≤ y) = true := decide_eq_true hxy
        have HR : Hid (asked8 h l r tl = 2) := by
         rw [Hid, HT0.out, HPL.out, HTE.out, Hn.out, HO2.out, if_neg (by decide : ¬ (false = true)), any_range_yes (j := j) (by rw [Hk.out]; have := Hij.out; omega) (by rw [HNA.out]; exact hd)]
         rfl
        go_wp2_with fail
        go_quiet (fail)
        go_wp2_with fail
        go_ret2
        exact ⟨bl_drewN (bl_drewN HB3.out _) _, none, by rw [HR.out]; rfl, fun h => by rw [HR.out] at h; cases h⟩
       have hd : decide (x ≤ y) = false := decide_eq_false hxy
       have HA2 : Hid ((List.range (j + 1)).any (notAsc tl) = false) := any_range_no HA.out (by rw [HNA.out]; exact hd)
       have hw3 : IntKind.i64.wrap ((i : Int) + 1) = ((i + 1 : Nat) : Int) := by rw [IntKind.wrap_i64]; omega
       go_wp2_with fail
       go_quiet (fail)
       go_wp2_with fail
       go_roundw
       case rel => exact ⟨i + 1, j + 1, _, by go_num, by have := Hij.out; show i + 1 = j + 1 + 1; omega, .inl (by omega), by omega, rfl, HA2⟩
       case measure => simp [intOf]; omega
      have HJ : Hid ((List.range (tl.length - 1)).any (notAsc tl) = false) := by
       have := Hij.out
       have e : tl.length - 1 = j ∨ tl.length - 1 = 0 := by rw [Hk.out]; omega
       rcases e with e | e
       ·rw [Hid, e]; exact HA.out
       rw [Hid, e]; rfl
      have HT1 : Hid (asked8 h l r tl = if agree8 h l = false then 9 else 0) := by
       rw [Hid, HT0.out, HPL.out, HTE.out, Hn.out, HO2.out, HJ.out]; simp
      subst hag
      cases hga : agree8 h l
      ·have HR : Hid (asked8 h l r tl = 9) := by rw [Hid, HT1.out, if_pos hga]
       clear hbx hga
       go_wp2_with fail
       go_ret2
       exact ⟨bl_drewN HB3.out _, none, by rw [HR.out]; rfl, fun h => by rw [HR.out] at h; cases h⟩
      have HR : Hid (asked8 h l r tl = 0) := by rw [Hid, HT1.out, if_neg (by rw [hga]; decide)]
      obtain ⟨gh, rfl, hbox⟩ := hbx hga
      have HBOX := Lib.hid hbox
      clear hbx hga hbox
      go_wp2_with fail
      go_ret2
      exact ⟨bl_drewN HB3.out _, some ⟨gh, 0, none⟩, by rw [HR.out]; rfl, fun _ => ⟨gh, rfl, HBOX.out.keep (bl_drewN HB13.out _)⟩⟩
    have HR : Hid (asked8 h l r tl = 4) := by
     rw [Hid, HT0.out, HPL.out, HTE.out, Hn.out, ho2]; rfl
    go_wp2_with fail
    refine (out_any 0 ((n : Int) - 1) _ ht2).mono ?_
    rintro e W3 ⟨rfl, b3⟩
    rw [ho2]
    have B3 : Below w.heap.size w W3 := bl_call B2 b3 (Nat.le_refl _)
    clear b3 ho2 x23 x24 r2 hkb ht2
    go_wp2_with fail
    go_ret2
    exact ⟨B3, none, by rw [HR.out]; rfl, fun h => by rw [HR.out] at h; cases h⟩
   have hkb : ((k : Int) != pl) = true := by simpa using hkp
   have HR : Hid (asked8 h l r tl = 3) := by
    rw [Hid, HT0.out, HPL.out, tilesE_long (by rw [Hk.out]; exact hkp)]; rfl
   clear hkp
   go_wp2_with fail
   go_ret2
   exact ⟨B2, none, by rw [HR.out]; rfl, fun h => by rw [HR.out] at h; cases h⟩
  have HR : Hid (asked8 h l row tl = 4) := asked_row HE.out (by rw [Hm.out]; exact ho1)
  go_wp2_with fail
  refine (out1_any _ (by exact newc rfl rfl) ho1).mono ?_
  rintro e W2 ⟨rfl, b2⟩
  have B2 : Below w.heap.size w W2 := bl_call (bl_alloc B1 _ (Nat.le_refl _)) b2 (Nat.le_refl _)
  clear b2 ho1
  go_wp2_with fail
  go_ret2
  exact ⟨B2, none, by rw [HR.out]; rfl, fun h => by rw [HR.out] at h; cases h⟩
 have HR := Lib.hid (asked_bad (row := row) (tl := tl) he)
 have HNE := Lib.hid he
 have heb : ((seen8 h l).2 != 0) = true := by simpa using he
 clear he hag hbx
 go_wp2_with fail
 go_ret2
 exact ⟨B1, none, by rw [HR.out]; rfl, fun h => by rw [HR.out] at h; exact absurd h HNE.out⟩
def layingR (h : Hall) (l : List Seen) : List (List Int) → Nat → List Int → Int → Option Int
 | [], _, _, most => some most
 | x :: rows, r, used, most =>
  if tilesE h.tiles.length (h.rows.getD r dRow).places x ≠ 0 then none else
  if x.any (fun i => decide (i ∈ used)) = true then none else
  if wrong8 h.most (gap8 h l r x) ≠ 0 then none else layingR h l rows (r + 1) (used ++ x) (max most (gap8 h l r x).2)
def layingT (h : Hall) (l : List Seen) (rows : List (List Int)) : Int × Bool :=
 if rows.length ≠ h.rows.length then (0, false) else
 match layingR h l rows 0 [] 0 with
 | none => (0, false)
 | some g => (g, true)
theorem pair_of_adj : ∀ l : List Int, (∀ k, k + 1 < l.length → l.getD k 0 < l.getD (k + 1) 0) → l.Pairwise (· < ·)
 | [], _ => List.Pairwise.nil
 | [x], _ => List.pairwise_singleton _ x
 | x :: y :: l, h => by
  have ih := pair_of_adj (y :: l) (fun k hk => by have := h (k + 1) (by simpa using hk); simpa using this)
  have h0 : x < y := by have := h 0 (by simp); simpa using this
  refine List.Pairwise.cons (fun z hz => ?_) ih
  rcases List.mem_cons.1 hz with rfl | hz
  ·exact h0
  exact Int.lt_trans h0 ((List.pairwise_cons.1 ih).1 z hz)
theorem adj_of_pair {l : List Int} (h : l.Pairwise (· < ·)) {k : Nat} (hk : k + 1 < l.length) : l.getD k 0 < l.getD (k + 1) 0 := by
 rw [List.getD_eq_getElem?_getD, List.getD_eq_getElem?_getD, List.getElem?_eq_getElem (show k < l.length by omega), List.getElem?_eq_getElem hk]
 exact List.pairwise_iff_getElem.1 h k (k + 1) (by omega) hk (by omega)
theorem asc_sub : ∀ (n : Nat) (a : Int) (x : List Int), x.Pairwise (· < ·) → (∀ i ∈ x, a ≤ i ∧ i < a + n) → x.Sublist ((List.range n).map fun i : Nat => a + (i : Int)) := by
 intro n
 induction n with
 | zero =>
  intro a x _ hb
  cases x with
  | nil => exact List.nil_sublist _
  | cons y x => have := hb y List.mem_cons_self; simp at this; omega
 | succ n ih =>
  intro a x hp hb
  have hr : (List.range (n + 1)).map (fun i : Nat => a + (i : Int)) = a :: (List.range n).map fun i : Nat => a + 1 + (i : Int) := by
   rw [List.range_succ_eq_map, List.map_cons, List.map_map]
   congr 1
   ·simp
   refine List.map_congr_left fun i _ => ?_
   simp only [Function.comp, Nat.succ_eq_add_one]
   omega
  rw [hr]
  cases x with
  | nil => exact List.nil_sublist _
  | cons y x =>
   obtain ⟨p1, p2⟩ := List.pairwise_cons.1 hp
   have hy := hb y List.mem_cons_self
   by_cases e : y = a
   ·subst e
    refine (ih (y + 1) x p2 fun i hi => ?_).cons_cons y
    have h1 := p1 i hi
    have h2 := hb i (List.mem_cons_of_mem _ hi)
    omega
   refine (ih (a + 1) (y :: x) hp fun i hi => ?_).cons a
   have h2 := hb i hi
   rcases List.mem_cons.1 hi with rfl | hi
   ·omega
   have h1 := p1 i hi; omega
theorem sub_lex {x of : List Int} (h : x.Sublist of) : x ∈ lexL x.length of := by
 induction h with
 | slnil => simp [lexL]
 | @cons x of a h ih =>
  cases x with
  | nil => simp [lexL]
  | cons y x => rw [List.length_cons, lexL]; exact List.mem_append_right _ ih
 | @cons_cons x of a h ih =>
  rw [List.length_cons, lexL]
  exact List.mem_append_left _ (List.mem_map_of_mem ih)
theorem numbers_pair (n : Nat) : (numbersL n).Pairwise (· < ·) := by
 unfold numbersL
 rw [List.pairwise_map]
 exact List.pairwise_lt_range.imp fun h => by omega
theorem notAsc_any {tl : List Int} : (List.range (tl.length - 1)).any (fun k => decide (tl.getD (k + 1) 0 ≤ tl.getD k 0)) = false ↔ tl.Pairwise (· < ·) := by
 rw [List.any_eq_false]
 constructor
 ·intro h
  refine pair_of_adj tl fun k hk => ?_
  have := h k (List.mem_range.2 (by omega))
  simpa using this
 intro h k hk
 have hk := List.mem_range.1 hk
 have := adj_of_pair h (k := k) (by omega)
 simpa using this
theorem tiles_lex {h : Hall} {r : Nat} {x : List Int} (hk : OkH h) (hr : r < h.rows.length) : tilesE h.tiles.length (h.rows.getD r dRow).places x = 0 ↔ x ∈ lexL (rowP h r) (numbersL h.tiles.length) := by
 have hx : h.rows[r]? = some ⟨(h.rows[r]).frame, (h.rows[r]).swell, (h.rows[r]).places⟩ := List.getElem?_eq_getElem hr
 obtain ⟨f1, f2, f3, f4, f5, f6⟩ := rowE_zero hx (hk.row hr)
 have hp : 0 ≤ (h.rows.getD r dRow).places := by rw [getD_of hx]; dsimp only; omega
 unfold rowP
 constructor
 ·intro e
  obtain ⟨e1, e2, e3⟩ := tilesE_zero e
  have hpw : x.Pairwise (· < ·) := notAsc_any.1 e3
  have hs := asc_sub h.tiles.length 0 x hpw (fun i hi => by have := e2 i hi; omega)
  have hn : (List.range h.tiles.length).map (fun i : Nat => (0 : Int) + (i : Int)) = numbersL h.tiles.length := by
   unfold numbersL; refine List.map_congr_left fun i _ => ?_; omega
  rw [hn] at hs
  have := sub_lex hs
  rwa [show x.length = (h.rows.getD r dRow).places.toNat by omega] at this
 intro hx
 obtain ⟨s1, s2⟩ := lex_sub _ _ x hx
 have hpw : x.Pairwise (· < ·) := (numbers_pair _).sublist s1
 unfold tilesE
 rw [if_neg (by rw [s2]; omega), if_neg (by
  rw [Bool.not_eq_true, List.any_eq_false]
  intro i hi
  have h1 := s1.subset hi
  unfold numbersL at h1
  obtain ⟨j, hj, rfl⟩ := List.mem_map.1 h1
  have := List.mem_range.1 hj
  simp [inB]; omega), if_neg (by rw [notAsc_any.2 hpw]; decide)]
theorem lay_mem {h : Hall} {l : List Seen} (hk : OkH h) : ∀ (k : Nat) (rows : List (List Int)) (used : List Int) (most g : Int), k ≤ h.rows.length → rows.length = k → (layingR h l rows (h.rows.length - k) used most = some g ↔ (rows, g) ∈ layL h l k used most) := by
 intro k
 induction k with
 | zero =>
  intro rows used most g _ hl
  have : rows = [] := List.eq_nil_of_length_eq_zero hl
  subst this
  rw [layingR, layL, List.mem_singleton]
  constructor
  ·intro e; injection e with e; rw [e]
  ·intro e; injection e with _ e; rw [e]
 | succ k ih =>
  intro rows used most g hk' hl
  cases rows with
  | nil => simp at hl
  | cons x rows =>
   have hl' : rows.length = k := by simpa using hl
   rw [layingR, layL, List.mem_flatMap]
   have hr1 : h.rows.length - (k + 1) + 1 = h.rows.length - k := by omega
   rw [hr1]
   constructor
   ·intro e
    split at e
    ·cases e
    rename_i e1
    split at e
    ·cases e
    rename_i e2
    split at e
    ·cases e
    rename_i e3
    have e1 : tilesE h.tiles.length (h.rows.getD (h.rows.length - (k + 1)) dRow).places x = 0 := by simpa using e1
    have e3 : wrong8 h.most (gap8 h l (h.rows.length - (k + 1)) x) = 0 := by simpa using e3
    refine ⟨x, ?_, ?_⟩
    ·unfold fitL
     exact List.mem_filter.2 ⟨(tiles_lex hk (by omega)).1 e1, by simpa using e3⟩
    rw [if_pos (by
     rw [List.all_eq_true]
     intro i hi
     have := List.any_eq_false.1 (Bool.not_eq_true _ ▸ e2) i hi
     simpa using this)]
    exact List.mem_map.2 ⟨(rows, g), (ih rows _ _ g (by omega) hl').1 e, rfl⟩
   rintro ⟨x', hx', hm⟩
   unfold fitL at hx'
   obtain ⟨m1, m2⟩ := List.mem_filter.1 hx'
   split at hm
   ·rename_i hu
    obtain ⟨r', hr', he⟩ := List.mem_map.1 hm
    unfold headL at he
    injection he with he1 he2
    injection he1 with he1 he3
    subst he1; subst he2; subst he3
    rw [if_neg (by simpa using (tiles_lex hk (by omega)).2 m1), if_neg (by
     rw [Bool.not_eq_true, List.any_eq_false]
     intro i hi
     have := List.all_eq_true.1 hu i hi
     simpa using this), if_neg (by simpa using m2)]
    exact (ih _ _ _ _ (by omega) hl').2 hr'
   cases hm
theorem lay_len {h : Hall} {l : List Seen} : ∀ (k : Nat) (used : List Int) (b : Int), ∀ r ∈ layL h l k used b, r.1.length = k := by
 intro k
 induction k with
 | zero => intro used b r hr; rw [layL, List.mem_singleton] at hr; subst hr; rfl
 | succ k ih =>
  intro used b r hr
  rw [layL, List.mem_flatMap] at hr
  obtain ⟨x, _, hr⟩ := hr
  split at hr
  ·obtain ⟨r0, hr0, rfl⟩ := List.mem_map.1 hr
   show (x :: r0.1).length = k + 1
   rw [List.length_cons, ih _ _ r0 hr0]
  cases hr
theorem layingT_iff {h : Hall} {l : List Seen} {rows : List (List Int)} {g : Int} (hk : OkH h) : layingT h l rows = (g, true) ↔ (rows, g) ∈ layL h l h.rows.length [] 0 := by
 unfold layingT
 constructor
 ·intro e
  split at e
  ·injection e with _ e; cases e
  rename_i hl
  have hl : rows.length = h.rows.length := by simpa using hl
  have := (lay_mem (l := l) hk h.rows.length rows [] 0 g (Nat.le_refl _) hl).1
  rw [Nat.sub_self] at this
  refine this ?_
  split at e
  ·injection e with _ e; cases e
  rename_i g' hg
  injection e with e _
  rw [hg, e]
 intro hm
 have hl := lay_len _ _ _ _ hm
 dsimp only at hl
 rw [if_neg (by simp [hl])]
 have := (lay_mem hk h.rows.length rows [] 0 g (Nat.le_refl _) hl).2 hm
 rw [Nat.sub_self] at this
 rw [this]
theorem layingT_true {h : Hall} {l : List Seen} {rows : List (List Int)} (e : (layingT h l rows).2 = true) : layingT h l rows = ((layingT h l rows).1, true) := by rw [← e]
theorem laid_pack {h : Hall} {l : List Seen} (e1 : (seen8 h l).2 = 0) (ea : agree8 h l = true) :
  (layR h l = ([], 0, 8) ∧ bestR h l h.rows.length (numbersL h.tiles.length) 0 = none ∧ ∀ L, (layingT h l L).2 = false) ∨ ∃ rows g, layR h l = (rows, g, 0) ∧ bestR h l h.rows.length (numbersL h.tiles.length) 0 = some (rows, g) ∧ layingT h l rows = (g, true) ∧ ∀ L, (layingT h l L).2 = true → g ≤ (layingT h l L).1 := by
 have hk : OkH h := okH_of (seen_zero e1).1
 have hE : ¬ hallE h l ≠ 0 := by unfold hallE; rw [if_neg (by simp [e1]), if_neg (by rw [ea]; decide)]; decide
 unfold layR
 rw [if_neg hE]
 cases hb : bestR h l h.rows.length (numbersL h.tiles.length) 0 with
 | none =>
  refine .inl ⟨rfl, rfl, fun L => ?_⟩
  rw [best_all] at hb
  have hX := (least_none _).1 hb
  cases hq : (layingT h l L).2 with
  | false => rfl
  | true =>
   have := (layingT_iff hk).1 (layingT_true hq)
   rw [hX] at this
   cases this
 | some r =>
  obtain ⟨rows, g⟩ := r
  refine .inr ⟨rows, g, rfl, rfl, ?_, fun L hL => ?_⟩
  ·rw [best_all] at hb
   unfold leastL at hb
   rcases (least_spec _ none).2.2 _ hb with h1 | h1
   ·cases h1
   exact (layingT_iff hk).2 h1
  rw [best_all] at hb
  have hm := (layingT_iff hk).1 (layingT_true hL)
  obtain ⟨z, hz1, hz2⟩ := (least_spec _ none).1 _ hm
  unfold leastL at hb
  rw [hb] at hz1
  injection hz1 with hz1
  subst hz1
  exact hz2
def turnL (l : List Nat) (n : Nat) : Nat := if l.length = 0 then 0 else l.getD (n % l.length) 0
structure Mould where
 name : List UInt8
 slo : Int
 shi : Int
 wlo : Int
 whi : Int
 casts : Int
structure Shop where
 klo : Int
 khi : Int
 moulds : List Mould
structure SeenC where
 mould : Int
 cast : Int
 lo : Int
 hi : Int
def dMould : Mould := ⟨[], 0, 0, 0, 0, 0⟩
def dSeenC : SeenC := ⟨0, 0, 0, 0⟩
def mouldN (x : Mould) : Int :=
 if !inB x.slo 1 20000 || !inB x.shi 1 20000 || !inB x.wlo 0 20 || !inB x.whi 0 20 || !inB x.casts 1 8 then 7
 else if !inB x.shi x.slo (x.slo + 12) || !inB x.whi x.wlo (x.wlo + 3) then 2 else 0
def mouldE (l : List Mould) (k : Nat) : Int :=
 let x := l.getD k dMould
 let e := fresh x.name ((l.take k).map (·.name))
 if e ≠ 0 then e else mouldN x
def check7 (s : Shop) : Int × Int × Int :=
 if !inB s.klo 0 100 || !inB s.khi 0 100 then (1, 0, 7)
 else if !inB s.khi s.klo (s.klo + 6) then (1, 0, 2)
 else if ¬ (1 ≤ s.moulds.length ∧ s.moulds.length ≤ 4) then (1, 0, 3)
 else match firstErr (mouldE s.moulds) s.moulds.length with
 | some (k, e) => (2, k, e)
 | none => (0, 0, 0)
def err7 (s : Shop) : Int := (check7 s).2.2
def there7 (s : Shop) (m c : Int) : Bool := inB m 0 ((s.moulds.length : Int) - 1) && inB c 0 ((s.moulds.getD m.toNat dMould).casts - 1)
def seenE7 (s : Shop) (l : List SeenC) (k : Nat) : Int :=
 let x := l.getD k dSeenC
 if !there7 s x.mould x.cast then 4 else rangeE ⟨x.lo, x.hi⟩ 0 20000
def seen7 (s : Shop) (l : List SeenC) : Int × Int :=
 if err7 s ≠ 0 then (0, err7 s) else if 6 < l.length then (0, 3) else
 match firstErr (seenE7 s l) l.length with
 | some (k, e) => (k, e)
 | none => (0, 0)
def made7 (size wear cast shrink : Int) : Int := (size + wear * cast) - ((size + wear * cast) * shrink).tdiv 1000
def twoOk7 (l : List SeenC) (m : Nat) (k a w : Int) : Bool := l.all fun y => !(y.mould == (m : Int)) || inB (made7 a w y.cast k) y.lo y.hi
def sizeN (x : Mould) : Nat := (x.shi - x.slo + 1).toNat
def wearN (x : Mould) : Nat := (x.whi - x.wlo + 1).toNat
def pairC (x : Mould) (i : Nat) : Int × Int := (x.slo + ((i / wearN x : Nat) : Int), x.wlo + ((i % wearN x : Nat) : Int))
def twosC (s : Shop) (l : List SeenC) (m : Nat) (k : Int) : List (Int × Int) := ((List.range (sizeN (s.moulds.getD m dMould) * wearN (s.moulds.getD m dMould))).map (pairC (s.moulds.getD m dMould))).filter fun p => twoOk7 l m k p.1 p.2
def knownB (s : Shop) (l : List SeenC) (k : Int) : Bool := (List.range s.moulds.length).all fun m => !(twosC s l m k).isEmpty
def shrinkL (s : Shop) : List Int := (List.range (s.khi - s.klo + 1).toNat).map fun i : Nat => s.klo + (i : Int)
def known7 (s : Shop) (l : List SeenC) : List Int := (shrinkL s).filter (knownB s l)
def madeL (s : Shop) (l : List SeenC) (m : Nat) (c : Int) : List Int := (known7 s l).flatMap fun k => (twosC s l m k).map fun p => made7 p.1 p.2 c k
def size7 (s : Shop) (l : List SeenC) (m : Nat) (c : Int) : Int × Int := endsOf (madeL s l m c)
def sizesR (s : Shop) (l : List SeenC) (m c : Int) : (Int × Int) × Int :=
 if (seen7 s l).2 ≠ 0 then ((0, 0), (seen7 s l).2) else
 if !there7 s m c then ((0, 0), 4) else
 if known7 s l = [] then ((0, 0), 9) else (size7 s l m.toNat c, 0)
def shrinksR (s : Shop) (l : List SeenC) : List Int × Int :=
 if (seen7 s l).2 ≠ 0 then ([], (seen7 s l).2) else
 if known7 s l = [] then ([], 9) else (known7 s l, 0)
def placesL (s : Shop) : List (Nat × Nat) := (List.range s.moulds.length).flatMap fun m => (List.range (s.moulds.getD m dMould).casts.toNat).map fun c => (m, c)
def fit7 (s : Shop) (l : List SeenC) (a z : Int) : List (Nat × Nat) := (placesL s).filter fun p => decide (a ≤ (size7 s l p.1 p.2).1) && decide ((size7 s l p.1 p.2).2 ≤ z)
def fitsR (s : Shop) (l : List SeenC) (a z : Int) : List (Nat × Nat) × Int :=
 if (seen7 s l).2 ≠ 0 then ([], (seen7 s l).2) else
 if rangeE ⟨a, z⟩ 0 20000 ≠ 0 then ([], rangeE ⟨a, z⟩ 0 20000) else
 if known7 s l = [] then ([], 9) else (fit7 s l a z, 0)
end Go.Proofs.YtdbfincinjoppaaGreat
