/- Walks: the reference's Tiles, hall, Asked. -/
import Derived.Test.YtpbimgafafkjgaaCTAnsws
import Derived.Test.YtpbimgafafkjgaaCTLay4
import Derived.Test.YtpbimgafafkjgaaCTRefsE
set_option linter.unusedVariables false
set_option linter.unusedSimpArgs false
set_option linter.all false
namespace Go.Proofs.Ytpbimgafafkjgaa
open Go.RowKit

set_option maxRecDepth 100000 in
set_option maxHeartbeats 2000000 in
theorem rtiles_any {S : Foot} {A B T : Option Addr} {n ca m cb k c row : Nat} {h : Hall} {tl : List Int} {v1 v2 v3 : Value} (w : World) (g : HallAt (fun _ => True) w A n B m h) (ht : Ints S w T k tl)
    (hv1 : v1.oneCell' = true) (hv2 : v2.oneCell' = true) (hv3 : v3.oneCell' = true) (hr : row < m) :
    Calls Try.prog 75 #[.agg #[v1, v2, v3, .slice A n ca, .slice B m cb], .int .i64 row, .slice T k c] w fun e w' => e = .returned (.int .i64 (tilesE h.tiles.length (h.rows.getD row dRow).places tl)) ∧ Below w.heap.size w w' := by
  obtain ⟨W, hW⟩ : ∃ W, w.alloc (.cells #[v1, v2, v3, .slice A n ca, .slice B m cb] 27) = W := ⟨_, rfl⟩
  obtain ⟨b, off, fr, sw, pl, rfl, hbb, r0, r1, r2, Hx⟩ := RowTs.get g.rs hr
  have X : Blk W w.heap.size 27 #[v1, v2, v3, .slice A n ca, .slice (some ⟨b, off, none⟩) m cb] := by rw [← hW]; exact Blk.new _ _ _ rfl
  have hBW : Below w.heap.size w W := by rw [← hW]; exact bl_alloc (Below.refl _ _) _ (Nat.le_refl _)
  have htW := ht.keep IntR.good (Keeps.below hBW)
  have Hn := Lib.hid g.ts.len
  have Hk := Lib.hid ht.len
  have hln := g.ts.le
  have hlk := ht.le
  have r2 := getc hBW r2
  have x3 : W.cell? ⟨w.heap.size, 3, none⟩ = some (.slice A n ca) := X.cell 3
  have x4 : W.cell? ⟨w.heap.size, 4, none⟩ = some (.slice (some ⟨b, off, none⟩) m cb) := X.cell 4
  have hri : (row : Int) < m := by omega
  have hw1 : IntKind.i64.wrap ((n : Int) - 1) = (n : Int) - 1 := by rw [IntKind.wrap_i64]; omega
  have HP : Hid ((h.rows.getD row dRow).places = pl) := by rw [Hid, getD_of Hx.out]
  have hxl := X.lt
  clear r0 r1 g hbb X
  obtain ⟨E, hE⟩ : ∃ E, tilesE h.tiles.length (h.rows.getD row dRow).places tl = E := ⟨_, rfl⟩
  rw [hE]
  by_cases hpl : (k : Int) = pl
  · have HN : Hid (E = if tl.any (outB 0 ((n : Int) - 1)) then 4 else if (List.range (tl.length - 1)).any (notAsc tl) then 2 else 0) := by rw [Hid, ← hE, tilesE_n (by rw [HP.out, Hk.out]; exact hpl), Hn.out]
    have hpb : ((k : Int) != pl) = false := by rw [hpl]; simp
    clear hpl hE
    go_enter Try.func75, Try.ntmps75
    go_wp2_with fail
    clear hW x4 r2 hpb
    go_loopw [7] (fun i wr => ∃ (j r : Nat), j ≤ k ∧ i = .int .i64 j ∧ wr = W.drewN r ∧ Hid ((tl.take j).any (outB 0 ((n : Int) - 1)) = false)) (fun i _ => k - (intOf i).toNat)
    case atStart => exact ⟨0, 0, Nat.zero_le _, rfl, rfl, by simp [Hid]⟩
    case round =>
      obtain ⟨j, r, hj, rfl, rfl, Hz⟩ := hrel
      by_cases hlt : j < k
      · obtain ⟨bT, oT, x, rfl, hcell, Hxi⟩ := Ints.get htW hlt
        have hji : (j : Int) < k := by omega
        have HS : Hid ((tl.take (j + 1)).any (outB 0 ((n : Int) - 1)) = !inB x 0 ((n : Int) - 1)) := by rw [Hid, take_snoc_get Hxi.out, List.any_append, Hz.out, Bool.false_or, ← outB_inB]; simp
        cases ho : inB x 0 ((n : Int) - 1)
        · have HR : Hid (E = 4) := by
            rw [Hid, HN.out, if_pos]
            exact List.any_eq_true.2 ⟨x, List.mem_of_getElem? Hxi.out, by rw [outB_inB, ho]; rfl⟩
          go_wp2
          go_quiet ((go_at_call 54; exact (in8_any _ _ _ _).mono fun _ _ h => ⟨h.1, _, h.2.symm⟩))
          go_wp2
          go_ret
          exact ⟨ret_int HR.out.symm, bl_drewN (bl_drewN hBW _) _⟩
        · go_wp2
          go_quiet ((go_at_call 54; exact (in8_any _ _ _ _).mono fun _ _ h => ⟨h.1, _, h.2.symm⟩))
          go_wp2
          go_roundw
          case rel => exact ⟨j + 1, r + nq, by omega, by go_num, rfl, by rw [Hid, HS.out, ho]; rfl⟩
          case measure => simp [intOf]; omega
      · obtain rfl : j = k := by omega
        have HN2 : Hid (E = if (List.range (j - 1)).any (notAsc tl) then 2 else 0) := by
          rw [Hid, HN.out, if_neg, Hk.out]
          have := Hz.out
          rw [List.take_of_length_le (by rw [Hk.out]; exact Nat.le_refl _)] at this
          rw [this]; decide
        go_wp2
        clear x3
        go_loopw [8] (fun i wr => ∃ (i2 r : Nat), 1 ≤ i2 ∧ i = .int .i64 i2 ∧ wr = W.drewN r ∧ Hid ((List.range (i2 - 1)).any (notAsc tl) = false)) (fun i _ => j - (intOf i).toNat)
        case atStart => exact ⟨1, r, Nat.le_refl _, rfl, rfl, by simp [Hid]⟩
        case round =>
          obtain ⟨i2, r, hi2, rfl, rfl, Hz2⟩ := hrel
          by_cases hlt2 : i2 < j
          · obtain ⟨d, rfl⟩ : ∃ d, i2 = d + 1 := ⟨i2 - 1, by omega⟩
            obtain ⟨bT, oT, x, hA, hcell, Hxi⟩ := Ints.get htW hlt2
            obtain ⟨bT2, oT2, x2, hA2, hcell2, Hxi2⟩ := Ints.get htW (show d < j by omega)
            subst hA
            obtain ⟨rfl, rfl⟩ : bT = bT2 ∧ oT = oT2 := by simpa using hA2
            have hw2 : ((((d + 1 : Nat) : Int)) - 1) = (d : Int) := by omega
            have hw3 : IntKind.i64.wrap ((((d + 1 : Nat) : Int)) - 1) = (d : Int) := by rw [IntKind.wrap_i64]; omega
            have hdi : (d : Int) < j := by omega
            have hdi2 : (((d + 1 : Nat) : Int)) < j := by omega
            have HV : Hid (notAsc tl d = decide (x ≤ x2)) := by rw [Hid, notAsc, getD_of Hxi.out, getD_of Hxi2.out]
            by_cases hx : x ≤ x2
            · have HR : Hid (E = 2) := by
                rw [Hid, HN2.out, if_pos]
                exact any_range_yes (j := d) (by omega) (by rw [HV.out]; exact decide_eq_true hx)
              go_wp2
              go_quiet (fail)
              go_wp2
              go_ret
              exact ⟨ret_int HR.out.symm, bl_drewN (bl_drewN hBW _) _⟩
            · have HS : Hid ((List.range (d + 1)).any (notAsc tl) = false) := any_range_no (by have := Hz2.out; rwa [Nat.add_sub_cancel] at this) (by rw [HV.out]; exact decide_eq_false hx)
              go_wp2
              go_quiet (fail)
              go_wp2
              go_roundw
              case rel => exact ⟨d + 1 + 1, r + nq, by omega, by go_num, rfl, by rw [Nat.add_sub_cancel]; exact HS⟩
              case measure => simp [intOf]; omega
          · have HR : Hid (E = 0) := by
              rw [Hid, HN2.out, if_neg]
              rw [Bool.not_eq_true, ← Bool.not_eq_true]
              intro hh
              obtain ⟨y, hy, hn⟩ := List.any_eq_true.1 hh
              have := any_range_yes (n := i2 - 1) (j := y) (by have := List.mem_range.1 hy; omega) hn
              rw [Hz2.out] at this
              cases this
            go_wp2
            go_ret
            exact ⟨ret_int HR.out.symm, bl_drewN hBW _⟩
  · have HN : Hid (E = 3) := by rw [Hid, ← hE]; exact tilesE_long (by rw [HP.out, Hk.out]; exact hpl)
    have hpb : ((k : Int) != pl) = true := by simpa using hpl
    clear hpl hE
    go_enter Try.func75, Try.ntmps75
    go_wp2
    go_ret
    exact ⟨ret_int HN.out.symm, hBW⟩

theorem hallE_bad {h : Hall} {l : List Seen} (e : (seen8 h l).2 ≠ 0) : hallE h l = (seen8 h l).2 := by unfold hallE; rw [if_pos e]
theorem hallE_n {h : Hall} {l : List Seen} (e : (seen8 h l).2 = 0) : hallE h l = if agree8 h l = false then 9 else 0 := by unfold hallE; rw [if_neg (by simp [e])]

set_option maxRecDepth 100000 in
set_option maxHeartbeats 2000000 in
theorem rhall_any {A B C : Option Addr} {n ca m cb q cc : Nat} {h : Hall} {l : List Seen} {alo ahi most : Int} (w : World) (g : HallAt (fun _ => True) w A n B m h) (gs : Seens (fun _ => True) w C q l) (h1 : h.alo = alo) (h2 : h.ahi = ahi) (h3 : h.most = most) :
    Calls Try.prog 70 #[.agg #[.int .i64 alo, .int .i64 ahi, .int .i64 most, .slice A n ca, .slice B m cb], .slice C q cc] w fun e w' => e = .returned (.int .i64 (hallE h l)) ∧ Below w.heap.size w w' := by
  obtain ⟨W, hW⟩ : ∃ W, w.alloc (.cells #[.int .i64 alo, .int .i64 ahi, .int .i64 most, .slice A n ca, .slice B m cb] 27) = W := ⟨_, rfl⟩
  have X : Blk W w.heap.size 27 #[.int .i64 alo, .int .i64 ahi, .int .i64 most, .slice A n ca, .slice B m cb] := by rw [← hW]; exact Blk.new _ _ _ rfl
  have hBW : Below w.heap.size w W := by rw [← hW]; exact bl_alloc (Below.refl _ _) _ (Nat.le_refl _)
  have hc : HallAt (fun _ => True) W A n B m h := g.keep (Keeps.below hBW)
  have hs : Seens (fun _ => True) W C q l := gs.keep SeenR.good (Keeps.below hBW)
  have x0 : W.cell? ⟨w.heap.size, 0, none⟩ = some (.int .i64 alo) := X.cell 0
  have x1 : W.cell? ⟨w.heap.size, 1, none⟩ = some (.int .i64 ahi) := X.cell 1
  have x2 : W.cell? ⟨w.heap.size, 2, none⟩ = some (.int .i64 most) := X.cell 2
  have x3 : W.cell? ⟨w.heap.size, 3, none⟩ = some (.slice A n ca) := X.cell 3
  have x4 : W.cell? ⟨w.heap.size, 4, none⟩ = some (.slice B m cb) := X.cell 4
  clear g gs X
  go_enter Try.func70, Try.ntmps70
  go_wp2_with fail
  refine (rseen_any W hc hs h1 h2 h3).mono ?_
  rintro e W1 ⟨rfl, b1⟩
  have B1 : Below w.heap.size w W1 := bl_call hBW b1 (Nat.le_refl _)
  clear hW
  by_cases he : (seen8 h l).2 = 0
  · obtain ⟨hokh, hq6, hsn⟩ := seen_air he
    have HW8 := Lib.hid (hallE_n he)
    have z0 := getc b1 x0
    have z1 := getc b1 x1
    have z2 := getc b1 x2
    have z3 := getc b1 x3
    have z4 := getc b1 x4
    have hc1 := hc.keep (Keeps.below b1)
    have hs1 := hs.keep SeenR.good (Keeps.below b1)
    rw [he]
    clear he x0 x1 x2 x3 x4 hc hs b1
    go_wp2_with fail
    refine (ragree_any W1 hc1 hs1 rfl rfl rfl hokh hq6 hsn).mono ?_
    rintro e W2 ⟨rfl, b2⟩
    have B2 : Below w.heap.size w W2 := bl_call B1 b2 (Nat.le_refl _)
    clear z0 z1 z2 z3 z4
    cases hga : agree8 h l
    · have HR := Lib.hid (HW8.out.trans (if_pos hga))
      go_wp2
      go_ret
      exact ⟨ret_int HR.out.symm, B2⟩
    · have HR := Lib.hid (HW8.out.trans (if_neg (by rw [hga]; decide)))
      go_wp2
      go_ret
      exact ⟨ret_int HR.out.symm, B2⟩
  · have heb : ((seen8 h l).2 == 0) = false := by simpa using he
    have HR := Lib.hid (hallE_bad he)
    clear he
    go_wp2
    go_ret
    exact ⟨ret_int HR.out.symm, B1⟩

theorem asked_row' {h : Hall} {l : List Seen} {row : Int} {tl : List Int} (e : (seen8 h l).2 = 0) (o : inB row 0 ((h.rows.length : Int) - 1) = false) : asked8 h l row tl = 4 := asked_row e (by rw [outB_inB, o]; rfl)
theorem asked_tiles' {h : Hall} {l : List Seen} {row : Int} {tl : List Int} (e : (seen8 h l).2 = 0) (o : inB row 0 ((h.rows.length : Int) - 1) = true) : asked8 h l row tl =
    if tilesE h.tiles.length (h.rows.getD row.toNat dRow).places tl ≠ 0 then tilesE h.tiles.length (h.rows.getD row.toNat dRow).places tl else if agree8 h l = false then 9 else 0 := asked_tiles e (by rw [outB_inB, o]; rfl)

set_option maxRecDepth 100000 in
set_option maxHeartbeats 2000000 in
theorem rasked_any {S : Foot} {A B C T : Option Addr} {n ca m cb q cc k c : Nat} {h : Hall} {l : List Seen} {alo ahi most : Int} {tl : List Int} (row : Int) (w : World) (g : HallAt (fun _ => True) w A n B m h) (gs : Seens (fun _ => True) w C q l) (ht : Ints S w T k tl) (h1 : h.alo = alo) (h2 : h.ahi = ahi) (h3 : h.most = most) :
    Calls Try.prog 61 #[.agg #[.int .i64 alo, .int .i64 ahi, .int .i64 most, .slice A n ca, .slice B m cb], .slice C q cc, .int .i64 row, .slice T k c] w fun e w' => e = .returned (.int .i64 (asked8 h l row tl)) ∧ Below w.heap.size w w' := by
  obtain ⟨W, hW⟩ : ∃ W, w.alloc (.cells #[.int .i64 alo, .int .i64 ahi, .int .i64 most, .slice A n ca, .slice B m cb] 27) = W := ⟨_, rfl⟩
  have X : Blk W w.heap.size 27 #[.int .i64 alo, .int .i64 ahi, .int .i64 most, .slice A n ca, .slice B m cb] := by rw [← hW]; exact Blk.new _ _ _ rfl
  have hBW : Below w.heap.size w W := by rw [← hW]; exact bl_alloc (Below.refl _ _) _ (Nat.le_refl _)
  have hc : HallAt (fun _ => True) W A n B m h := g.keep (Keeps.below hBW)
  have hs : Seens (fun _ => True) W C q l := gs.keep SeenR.good (Keeps.below hBW)
  have hT : Ints S W T k tl := ht.keep IntR.good (Keeps.below hBW)
  have Hm := Lib.hid hc.rs.len
  have hlm := hc.rs.le
  have x0 : W.cell? ⟨w.heap.size, 0, none⟩ = some (.int .i64 alo) := X.cell 0
  have x1 : W.cell? ⟨w.heap.size, 1, none⟩ = some (.int .i64 ahi) := X.cell 1
  have x2 : W.cell? ⟨w.heap.size, 2, none⟩ = some (.int .i64 most) := X.cell 2
  have x3 : W.cell? ⟨w.heap.size, 3, none⟩ = some (.slice A n ca) := X.cell 3
  have x4 : W.cell? ⟨w.heap.size, 4, none⟩ = some (.slice B m cb) := X.cell 4
  have hw1 : IntKind.i64.wrap ((m : Int) - 1) = (m : Int) - 1 := by rw [IntKind.wrap_i64]; omega
  clear g gs X ht
  go_enter Try.func61, Try.ntmps61
  go_wp2_with fail
  refine (rseen_any W hc hs h1 h2 h3).mono ?_
  rintro e W1 ⟨rfl, b1⟩
  have B1 : Below w.heap.size w W1 := bl_call hBW b1 (Nat.le_refl _)
  clear hW
  by_cases he : (seen8 h l).2 = 0
  · obtain ⟨hokh, hq6, hsn⟩ := seen_air he
    have HE1 : Hid (inB row 0 ((m : Int) - 1) = false → asked8 h l row tl = 4) := fun o => asked_row' he (by rw [Hm.out]; exact o)
    have HE2 : Hid (inB row 0 ((m : Int) - 1) = true → asked8 h l row tl = _) := fun o => asked_tiles' he (by rw [Hm.out]; exact o)
    have z0 := getc b1 x0
    have z1 := getc b1 x1
    have z2 := getc b1 x2
    have z3 := getc b1 x3
    have z4 := getc b1 x4
    have hc1 := hc.keep (Keeps.below b1)
    have hs1 := hs.keep SeenR.good (Keeps.below b1)
    have hT1 := hT.keep IntR.good (Keeps.below b1)
    rw [he]
    clear he x0 x1 x2 x3 x4 hc hs b1 hT
    cases ho1 : inB row 0 ((m : Int) - 1)
    · have HR := Lib.hid (HE1.out ho1)
      go_wp2_with (go_at_call 54; refine (in8_any _ _ _ _).mono ?_; rintro e w' ⟨rfl, rfl⟩)
      go_ret
      exact ⟨ret_int HR.out.symm, B1⟩
    · have hr1 : 0 ≤ row ∧ row ≤ (m : Int) - 1 := by simp [inB] at ho1; omega
      obtain ⟨row', rfl⟩ := Int.eq_ofNat_of_zero_le hr1.1
      have hrn : row' < m := by omega
      have HE3 := Lib.hid (HE2.out ho1)
      have hcall := rtiles_any (c := c) (ca := ca) (cb := cb) (v1 := .int .i64 alo) (v2 := .int .i64 ahi) (v3 := .int .i64 most) W1 hc1 hT1 rfl rfl rfl hrn
      rw [Int.toNat_natCast] at HE3
      generalize tilesE h.tiles.length (h.rows.getD row' dRow).places tl = E at HE3 hcall
      clear HE1 HE2 hr1
      go_wp2_with (go_at_call 54; refine (in8_any _ _ _ _).mono ?_; rintro e w' ⟨rfl, rfl⟩)
      refine hcall.mono ?_
      rintro e W2 ⟨rfl, b2⟩
      have B2 : Below w.heap.size w W2 := bl_call B1 b2 (Nat.le_refl _)
      have hc2 := hc1.keep (Keeps.below b2)
      have hs2 := hs1.keep SeenR.good (Keeps.below b2)
      have x0 := getc b2 z0
      have x1 := getc b2 z1
      have x2 := getc b2 z2
      have x3 := getc b2 z3
      have x4 := getc b2 z4
      clear hcall z0 z1 z2 z3 z4 ho1 hw1
      by_cases hE : E = 0
      · have HE4 := Lib.hid (HE3.out.trans (if_neg (by simp [hE])))
        rw [hE]
        clear hE HE3
        go_wp2_with fail
        refine (ragree_any W2 hc2 hs2 rfl rfl rfl hokh hq6 hsn).mono ?_
        rintro e W3 ⟨rfl, b3⟩
        have B3 : Below w.heap.size w W3 := bl_call B2 b3 (Nat.le_refl _)
        clear x0 x1 x2 x3 x4
        cases hga : agree8 h l
        · have HR := Lib.hid (HE4.out.trans (if_pos hga))
          go_wp2
          go_ret
          exact ⟨ret_int HR.out.symm, B3⟩
        · have HR := Lib.hid (HE4.out.trans (if_neg (by rw [hga]; decide)))
          go_wp2
          go_ret
          exact ⟨ret_int HR.out.symm, B3⟩
      · have hEb : (E == 0) = false := by simpa using hE
        have HR := Lib.hid (HE3.out.trans (if_pos hE))
        clear hE
        go_wp2
        go_ret
        exact ⟨ret_int HR.out.symm, B2⟩
  · have heb : ((seen8 h l).2 == 0) = false := by simpa using he
    have HR := Lib.hid (asked_bad (row := row) (tl := tl) he)
    clear he
    go_wp2
    go_ret
    exact ⟨ret_int HR.out.symm, B1⟩

end Go.Proofs.Ytpbimgafafkjgaa
