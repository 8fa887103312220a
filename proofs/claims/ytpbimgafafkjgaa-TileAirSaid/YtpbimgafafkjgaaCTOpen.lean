/- Walks: a hall that is looked at, with a row and tiles. -/
import Derived.Test.YtpbimgafafkjgaaCTWidth
set_option linter.unusedVariables false
set_option linter.unusedSimpArgs false
set_option linter.all false
namespace Go.Proofs.Ytpbimgafafkjgaa
open Go.RowKit Go.Shelf

section
variable {h : Hall} {l : List Seen} {row : Int} {tl : List Int}
def notAsc (tl : List Int) (k : Nat) : Bool := decide (tl.getD (k + 1) 0 ≤ tl.getD k 0)
theorem asked_bad (e : (seen8 h l).2 ≠ 0) : asked8 h l row tl = (seen8 h l).2 := by rw [asked8, if_pos e]
theorem asked_row (e : (seen8 h l).2 = 0) (o : outB 0 ((h.rows.length : Int) - 1) row = true) : asked8 h l row tl = 4 := by
  rw [asked8, if_neg (by simp [e]), if_pos (by rw [← outB_inB]; exact o)]
theorem asked_tiles (e : (seen8 h l).2 = 0) (o : outB 0 ((h.rows.length : Int) - 1) row = false) : asked8 h l row tl =
    if tilesE h.tiles.length (h.rows.getD row.toNat dRow).places tl ≠ 0 then tilesE h.tiles.length (h.rows.getD row.toNat dRow).places tl else if agree8 h l = false then 9 else 0 := by
  rw [asked8, if_neg (by simp [e]), if_neg (by rw [← outB_inB, o]; decide)]
theorem tilesE_long {nt : Nat} {p : Int} (e : (tl.length : Int) ≠ p) : tilesE nt p tl = 3 := by rw [tilesE, if_pos e]
theorem tilesE_n {nt : Nat} {p : Int} (e : (tl.length : Int) = p) : tilesE nt p tl = if tl.any (outB 0 ((nt : Int) - 1)) then 4 else if (List.range (tl.length - 1)).any (notAsc tl) then 2 else 0 := by
  rw [tilesE, if_neg (by simp [e])]
  have : (fun i => !inB i 0 ((nt : Int) - 1)) = outB 0 ((nt : Int) - 1) := by funext i; rw [outB_inB]
  rw [this]; rfl
theorem tilesE_zero {nt : Nat} {p : Int} (e : tilesE nt p tl = 0) : (tl.length : Int) = p ∧ (∀ i ∈ tl, 0 ≤ i ∧ i < nt) ∧ (List.range (tl.length - 1)).any (notAsc tl) = false := by
  by_cases h1 : (tl.length : Int) = p
  · rw [tilesE_n h1] at e
    split at e
    · cases e
    · split at e
      · cases e
      · rename_i h2 h3
        refine ⟨h1, fun i hi => ?_, by simpa using h3⟩
        have : outB 0 ((nt : Int) - 1) i = false := by
          rw [← Bool.not_eq_true]; exact fun hh => h2 (List.any_eq_true.2 ⟨i, hi, hh⟩)
        unfold outB at this
        simp at this
        omega
  · rw [tilesE_long h1] at e; cases e
theorem asked_zero (e : asked8 h l row tl = 0) : (seen8 h l).2 = 0 ∧ (0 ≤ row ∧ row < h.rows.length) ∧ tilesE h.tiles.length (h.rows.getD row.toNat dRow).places tl = 0 ∧ agree8 h l = true := by
  by_cases h1 : (seen8 h l).2 = 0
  · cases h2 : outB 0 ((h.rows.length : Int) - 1) row
    · rw [asked_tiles h1 h2] at e
      by_cases h3 : tilesE h.tiles.length (h.rows.getD row.toNat dRow).places tl = 0
      · rw [if_neg (fun hh => hh h3)] at e
        split at e
        · cases e
        · rename_i h4
          unfold outB at h2
          simp at h2
          exact ⟨h1, by omega, h3, by simpa using h4⟩
      · rw [if_pos h3] at e; exact absurd e h3
    · rw [asked_row h1 h2] at e; cases e
  · rw [asked_bad h1] at e; exact absurd e h1
theorem any_range_no {p : Nat → Bool} {j : Nat} (h : (List.range j).any p = false) (hp : p j = false) : (List.range (j + 1)).any p = false := by rw [List.range_succ, List.any_append, h]; simp [hp]
theorem any_range_yes {p : Nat → Bool} {j n : Nat} (hj : j < n) (hp : p j = true) : (List.range n).any p = true := List.any_eq_true.2 ⟨j, List.mem_range.2 hj, hp⟩
end

/-- what open answers -/
def OpenOk (w0 : World) (A : Option Addr) (n ca : Nat) (B : Option Addr) (m cb : Nat) (C : Option Addr) (q cc : Nat) (h : Hall) (l : List Seen) (row : Int) (tl : List Int) (e : Ending) (w' : World) : Prop :=
  Below w0.heap.size w0 w' ∧ ∃ p, e = .returned (.tuple #[.pointer p, .int .i64 (asked8 h l row tl)]) ∧ (asked8 h l row tl = 0 → ∃ gh, p = some ⟨gh, 0, none⟩ ∧ HBox w' gh A n ca B m cb C q cc h l)

set_option maxRecDepth 100000 in
set_option maxHeartbeats 2000000 in
theorem topen_any {S : Foot} {A B C T : Option Addr} {n ca m cb q cc k c : Nat} {h : Hall} {l : List Seen} {alo ahi most : Int} {tl : List Int} (row : Int) (w : World) (g : HallAt (fun _ => True) w A n B m h) (gs : Seens (fun _ => True) w C q l) (ht : Ints S w T k tl) (hca : n ≤ ca) (h1 : h.alo = alo) (h2 : h.ahi = ahi) (h3 : h.most = most) :
    Calls Try.prog 59 #[.agg #[.int .i64 alo, .int .i64 ahi, .int .i64 most, .slice A n ca, .slice B m cb], .slice C q cc, .int .i64 row, .slice T k c] w (OpenOk w A n ca B m cb C q cc h l row tl) := by
  obtain ⟨W, hW⟩ : ∃ W, w.alloc (.cells #[.int .i64 alo, .int .i64 ahi, .int .i64 most, .slice A n ca, .slice B m cb] 27) = W := ⟨_, rfl⟩
  have X : Blk W w.heap.size 27 #[.int .i64 alo, .int .i64 ahi, .int .i64 most, .slice A n ca, .slice B m cb] := by rw [← hW]; exact Blk.new _ _ _ rfl
  have hBW : Below w.heap.size w W := by rw [← hW]; exact bl_alloc (Below.refl _ _) _ (Nat.le_refl _)
  have hc : HallAt (fun _ => True) W A n B m h := g.keep (Keeps.below hBW)
  have hs : Seens (fun _ => True) W C q l := gs.keep SeenR.good (Keeps.below hBW)
  have hWs : w.heap.size ≤ W.heap.size := hBW.size
  have Hn := Lib.hid hc.ts.len
  have Hm := Lib.hid hc.rs.len
  have Hk := Lib.hid ht.len
  have hlen := hc.ts.le
  have hlem := hc.rs.le
  have hlek := ht.le
  have HW := Lib.hid hW
  have hw1 : IntKind.i64.wrap ((n : Int) - 1) = (n : Int) - 1 := by rw [IntKind.wrap_i64]; omega
  have hw2 : IntKind.i64.wrap ((m : Int) - 1) = (m : Int) - 1 := by rw [IntKind.wrap_i64]; omega
  clear hW g gs
  go_enter Try.func59, Try.ntmps59
  go_wp2_with fail
  rw [HW.out]
  refine (tenter_any W hc hs hca h1 h2 h3).mono ?_
  rintro e W1 ⟨b1, p, ag, rfl, hag, hbx⟩
  have B1 : Below w.heap.size w W1 := hBW.trans (b1.mono hWs)
  have X1 := X.bl b1
  clear X
  by_cases he : (seen8 h l).2 = 0
  · have hag := hag he
    have hbx := hbx he
    have HE := Lib.hid he
    rw [he]
    have x3 := X1.cell 3
    have x4 := X1.cell 4
    have HX1 := Lib.hid X1
    clear he X1
    cases ho1 : outB 0 ((m : Int) - 1) row
    · have HO1 := Lib.hid ho1
      have HT0 : Hid (asked8 h l row tl = _) := asked_tiles (row := row) (tl := tl) HE.out (by rw [Hm.out]; exact ho1)
      have hr1 : 0 ≤ row ∧ row ≤ (m : Int) - 1 := by unfold outB at ho1; simp at ho1; omega
      obtain ⟨r, rfl⟩ := Int.eq_ofNat_of_zero_le hr1.1
      have hrm : r < m := by omega
      have hrmi : (r : Int) < m := by omega
      go_wp2_with fail
      refine (out1_any _ (by exact newc rfl rfl) ho1).mono ?_
      rintro e W2 ⟨rfl, b2⟩
      have b12 : Below W1.heap.size W1 W2 := bl_call (bl_alloc (Below.refl _ _) _ (Nat.le_refl _)) b2 (Nat.le_refl _)
      have B2 : Below w.heap.size w W2 := bl_call B1 b12 (Nat.le_refl _)
      have hrs : RowTs (fun _ => True) W2 B m h.rows := hc.rs.keep RowR.good (Keeps.below (bl_call b1 b12 (Nat.le_refl _)))
      obtain ⟨b, off, fr, sw, pl, rfl, hbb, r0, r1, r2, Hx⟩ := RowTs.get hrs hrm
      have HPL : Hid ((h.rows.getD ((r : Nat) : Int).toNat dRow).places = pl) := by rw [Hid, Int.toNat_natCast, getD_of Hx.out]
      have X2 := HX1.out.bl b12
      have x23 := X2.cell 3
      have x24 := X2.cell 4
      have HX2 := Lib.hid X2
      clear b2 x3 x4 ho1 r0 r1 X2 hr1 HX1 hrs
      by_cases hkp : (k : Int) = pl
      · have hkb : ((k : Int) != pl) = false := by simpa using hkp
        have HTE : Hid (tilesE h.tiles.length pl tl = _) := tilesE_n (tl := tl) (nt := h.tiles.length) (by rw [Hk.out]; exact hkp)
        clear hkp
        have ht2 := ht.keep IntR.good (Keeps.below B2)
        cases ho2 : tl.any (outB 0 ((n : Int) - 1))
        · go_wp2_with fail
          refine (out_any 0 ((n : Int) - 1) _ ht2).mono ?_
          rintro e W3 ⟨rfl, b3⟩
          rw [ho2]
          have B3 : Below w.heap.size w W3 := bl_call B2 b3 (Nat.le_refl _)
          have b13 : Below W1.heap.size W1 W3 := bl_call b12 b3 (Nat.le_refl _)
          have HO2 := Lib.hid ho2
          have HB3 := Lib.hid B3
          have HB13 := Lib.hid b13
          clear b3 ho2 x23 x24 r2 hkb ht2 b13 b12 B2 B3 hbb
          go_wp2_with fail
          go_loopw [13] (fun i' wr => ∃ i j qn : Nat, i' = .int .i64 i ∧ Hid (i = j + 1) ∧ (i ≤ k ∨ i = 1) ∧ 1 ≤ i ∧ wr = W3.drewN qn ∧ Hid ((List.range j).any (notAsc tl) = false)) (fun i' _ => k - (intOf i').toNat)
          case atStart => exact ⟨1, 0, 0, rfl, rfl, .inr rfl, Nat.le_refl _, rfl, rfl⟩
          case round =>
            obtain ⟨i, j, qn, rfl, Hij, hik, hi1, rfl, HA⟩ := hrel
            by_cases hlt : i < k
            · have hki : (i : Int) < k := by omega
              have hjk : j < k := by have := Hij.out; omega
              have hjki : (j : Int) < k := by omega
              have htr := ht.keep IntR.good (Keeps.below HB3.out)
              obtain ⟨b1', o1', x, rfl, hcx, Hx1⟩ := Ints.get htr hlt
              obtain ⟨b2', o2', y, hAe, hcy, Hy1⟩ := Ints.get htr hjk
              obtain ⟨rfl, rfl⟩ : b1' = b2' ∧ o1' = o2' := by injection hAe with hAe; injection hAe with e1 e2; exact ⟨e1, e2⟩
              have hwj : IntKind.i64.wrap ((i : Int) - 1) = (j : Int) := by have := Hij.out; rw [IntKind.wrap_i64]; omega
              have HNA : Hid (notAsc tl j = decide (x ≤ y)) := by
                rw [Hid, notAsc, ← Hij.out, getD_of Hx1.out, getD_of Hy1.out]
              clear htr hAe
              by_cases hxy : x ≤ y
              · have hd : decide (x ≤ y) = true := decide_eq_true hxy
                have HR : Hid (asked8 h l r tl = 2) := by
                  rw [Hid, HT0.out, HPL.out, HTE.out, Hn.out, HO2.out, if_neg (by decide : ¬ (false = true)), any_range_yes (j := j) (by rw [Hk.out]; have := Hij.out; omega) (by rw [HNA.out]; exact hd)]
                  rfl
                go_wp2_with fail
                go_quiet (fail)
                go_wp2_with fail
                go_ret2
                exact ⟨bl_drewN (bl_drewN HB3.out _) _, none, by rw [HR.out]; rfl, fun h => by rw [HR.out] at h; cases h⟩
              · have hd : decide (x ≤ y) = false := decide_eq_false hxy
                have HA2 : Hid ((List.range (j + 1)).any (notAsc tl) = false) := any_range_no HA.out (by rw [HNA.out]; exact hd)
                have hw3 : IntKind.i64.wrap ((i : Int) + 1) = ((i + 1 : Nat) : Int) := by rw [IntKind.wrap_i64]; omega
                go_wp2_with fail
                go_quiet (fail)
                go_wp2_with fail
                go_roundw
                case rel => exact ⟨i + 1, j + 1, _, by go_num, by have := Hij.out; show i + 1 = j + 1 + 1; omega, .inl (by omega), by omega, rfl, HA2⟩
                case measure => simp [intOf]; omega
            · have HJ : Hid ((List.range (tl.length - 1)).any (notAsc tl) = false) := by
                have := Hij.out
                have e : tl.length - 1 = j ∨ tl.length - 1 = 0 := by rw [Hk.out]; omega
                rcases e with e | e
                · rw [Hid, e]; exact HA.out
                · rw [Hid, e]; rfl
              have HT1 : Hid (asked8 h l r tl = if agree8 h l = false then 9 else 0) := by
                rw [Hid, HT0.out, HPL.out, HTE.out, Hn.out, HO2.out, HJ.out]; simp
              subst hag
              cases hga : agree8 h l
              · have HR : Hid (asked8 h l r tl = 9) := by rw [Hid, HT1.out, if_pos hga]
                clear hbx hga
                go_wp2_with fail
                go_ret2
                exact ⟨bl_drewN HB3.out _, none, by rw [HR.out]; rfl, fun h => by rw [HR.out] at h; cases h⟩
              · have HR : Hid (asked8 h l r tl = 0) := by rw [Hid, HT1.out, if_neg (by rw [hga]; decide)]
                obtain ⟨gh, rfl, hbox⟩ := hbx hga
                have HBOX := Lib.hid hbox
                clear hbx hga hbox
                go_wp2_with fail
                go_ret2
                exact ⟨bl_drewN HB3.out _, some ⟨gh, 0, none⟩, by rw [HR.out]; rfl, fun _ => ⟨gh, rfl, HBOX.out.keep (bl_drewN HB13.out _)⟩⟩
        · have HR : Hid (asked8 h l r tl = 4) := by
            rw [Hid, HT0.out, HPL.out, HTE.out, Hn.out, ho2]; rfl
          go_wp2_with fail
          refine (out_any 0 ((n : Int) - 1) _ ht2).mono ?_
          rintro e W3 ⟨rfl, b3⟩
          rw [ho2]
          have B3 : Below w.heap.size w W3 := bl_call B2 b3 (Nat.le_refl _)
          clear b3 ho2 x23 x24 r2 hkb ht2
          go_wp2_with fail
          go_ret2
          exact ⟨B3, none, by rw [HR.out]; rfl, fun h => by rw [HR.out] at h; cases h⟩
      · have hkb : ((k : Int) != pl) = true := by simpa using hkp
        have HR : Hid (asked8 h l r tl = 3) := by
          rw [Hid, HT0.out, HPL.out, tilesE_long (by rw [Hk.out]; exact hkp)]; rfl
        clear hkp
        go_wp2_with fail
        go_ret2
        exact ⟨B2, none, by rw [HR.out]; rfl, fun h => by rw [HR.out] at h; cases h⟩
    · have HR : Hid (asked8 h l row tl = 4) := asked_row HE.out (by rw [Hm.out]; exact ho1)
      go_wp2_with fail
      refine (out1_any _ (by exact newc rfl rfl) ho1).mono ?_
      rintro e W2 ⟨rfl, b2⟩
      have B2 : Below w.heap.size w W2 := bl_call (bl_alloc B1 _ (Nat.le_refl _)) b2 (Nat.le_refl _)
      clear b2 ho1
      go_wp2_with fail
      go_ret2
      exact ⟨B2, none, by rw [HR.out]; rfl, fun h => by rw [HR.out] at h; cases h⟩
  · have HR := Lib.hid (asked_bad (row := row) (tl := tl) he)
    have HNE := Lib.hid he
    have heb : ((seen8 h l).2 != 0) = true := by simpa using he
    clear he hag hbx
    go_wp2_with fail
    go_ret2
    exact ⟨B1, none, by rw [HR.out]; rfl, fun h => by rw [HR.out] at h; exact absurd h HNE.out⟩

end Go.Proofs.Ytpbimgafafkjgaa
