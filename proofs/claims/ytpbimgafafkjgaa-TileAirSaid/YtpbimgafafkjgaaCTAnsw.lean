/- Walks: the program's Gap, Why and Airs. -/
import Derived.Test.YtpbimgafafkjgaaCTOpen
set_option linter.unusedVariables false
set_option linter.unusedSimpArgs false
set_option linter.all false
namespace Go.Proofs.Ytpbimgafafkjgaa
open Go.RowKit Go.Shelf

/-- what a hall that is looked at, with a row and tiles, that is right, is -/
structure Asked (h : Hall) (l : List Seen) (n m : Nat) (row : Int) (tl : List Int) (r : Nat) : Prop where
  ok : OkH h
  ag : agree8 h l = true
  row : row = (r : Int)
  lt : r < m
  k8 : tl.length ≤ 8
  tl : ∀ i ∈ tl, 0 ≤ i ∧ i < n
theorem asked_ok {h : Hall} {l : List Seen} {n m : Nat} {row : Int} {tl : List Int} (e : asked8 h l row tl = 0) (hn : h.tiles.length = n) (hm : h.rows.length = m) : ∃ r, Asked h l n m row tl r := by
  obtain ⟨h1, ⟨h2, h3⟩, h4, h5⟩ := asked_zero e
  obtain ⟨hc0, _, _⟩ := seen_zero h1
  have hk := okH_of hc0
  obtain ⟨r, rfl⟩ := Int.eq_ofNat_of_zero_le h2
  have hr : r < h.rows.length := by omega
  obtain ⟨g1, g2, _⟩ := tilesE_zero h4
  have hx : h.rows[r]? = some ⟨(h.rows[r]).frame, (h.rows[r]).swell, (h.rows[r]).places⟩ := List.getElem?_eq_getElem hr
  obtain ⟨_, _, _, _, _, f6⟩ := rowE_zero hx (hk.row hr)
  have := hk.nt
  rw [Int.toNat_natCast, getD_of hx] at g1
  dsimp only at g1
  exact ⟨r, hk, h5, rfl, by omega, by omega, by rw [← hn]; exact g2⟩

theorem gapR_bad {h : Hall} {l : List Seen} {row : Int} {tl : List Int} (e : asked8 h l row tl ≠ 0) : gapR h l row tl = ((0, 0), asked8 h l row tl) := by rw [gapR, if_pos e]
theorem gapR_ok {h : Hall} {l : List Seen} {r : Nat} {tl : List Int} (e : asked8 h l r tl = 0) : gapR h l r tl = (gap8 h l r tl, 0) := by rw [gapR, if_neg (by simp [e])]; rfl

set_option maxRecDepth 100000 in
set_option maxHeartbeats 1000000 in
theorem tgap_any {S : Foot} {A B C T : Option Addr} {n ca m cb q cc k c : Nat} {h : Hall} {l : List Seen} {alo ahi most : Int} {tl : List Int} (row : Int) (w : World) (g : HallAt (fun _ => True) w A n B m h) (gs : Seens (fun _ => True) w C q l) (ht : Ints S w T k tl) (hca : n ≤ ca) (h1 : h.alo = alo) (h2 : h.ahi = ahi) (h3 : h.most = most) :
    Calls Try.prog 22 #[.agg #[.int .i64 alo, .int .i64 ahi, .int .i64 most, .slice A n ca, .slice B m cb], .slice C q cc, .int .i64 row, .slice T k c] w fun e w' =>
      e = .returned (.tuple #[.agg #[.int .i64 (gapR h l row tl).1.1, .int .i64 (gapR h l row tl).1.2], .int .i64 (gapR h l row tl).2]) ∧ Below w.heap.size w w' := by
  obtain ⟨W, hW⟩ : ∃ W, (w.alloc (.cells #[.int .i64 alo, .int .i64 ahi, .int .i64 most, .slice A n ca, .slice B m cb] 27)).alloc (.cells #[.int .i64 0, .int .i64 0] 23) = W := ⟨_, rfl⟩
  have X8 : Blk W (w.heap.size + 1) 23 #[.int .i64 0, .int .i64 0] := by rw [← hW]; exact Blk.new _ _ _ (by simp)
  have hBW : Below w.heap.size w W := by rw [← hW]; exact bl_alloc (bl_alloc (Below.refl _ _) _ (Nat.le_refl _)) _ (Nat.le_refl _)
  have hc : HallAt (fun _ => True) W A n B m h := g.keep (Keeps.below hBW)
  have hs : Seens (fun _ => True) W C q l := gs.keep SeenR.good (Keeps.below hBW)
  have htW : Ints S W T k tl := ht.keep IntR.good (Keeps.below hBW)
  have hWs : w.heap.size ≤ W.heap.size := hBW.size
  have HW := Lib.hid hW
  have Hn := Lib.hid hc.ts.len
  have Hm := Lib.hid hc.rs.len
  have Hk := Lib.hid ht.len
  clear hW g gs
  go_enter Try.func22, Try.ntmps22
  go_wp2_with fail
  rw [HW.out]
  refine (topen_any row W hc hs htW hca h1 h2 h3).mono ?_
  rintro e W1 ⟨b1, p, rfl, hbx⟩
  have B1 : Below w.heap.size w W1 := hBW.trans (b1.mono hWs)
  have Y1 := X8.bl b1
  clear X8
  by_cases he : asked8 h l row tl = 0
  · obtain ⟨gh, rfl, hbox⟩ := hbx he
    obtain ⟨r, ha⟩ := asked_ok he Hn.out Hm.out
    have hrow := ha.row
    subst hrow
    have HR := Lib.hid (gapR_ok he)
    have htW1 := htW.keep IntR.good (Keeps.below b1)
    have HA := Lib.hid ha
    rw [he]
    clear he hbx ha
    go_wp2_with fail
    refine (gap_any W1 hbox HA.out.ok HA.out.ag HA.out.lt htW1 (by rw [← Hk.out]; exact HA.out.k8) HA.out.tl).mono ?_
    rintro e W2 ⟨rfl, b2⟩
    have B2 : Below w.heap.size w W2 := bl_call B1 b2 (Nat.le_refl _)
    have Y3 := Y1.bl b2
    have y0 := Y3.cell 0
    have y1 := Y3.cell 1
    have fy0 := Y3.frozen 0
    have fy1 := Y3.frozen 1
    have hyl := Y3.lt
    clear hbox htW1 b2
    go_wp2_with fail
    exact bodyPost_ret (ret_span rfl rfl rfl (Y3.set2 _ _).c0 (Y3.set2 _ _).c1) rfl ⟨by rw [HR.out], bl_set (bl_set B2 (by dsimp only; omega) _) (by dsimp only; omega) _⟩
  · have HR := Lib.hid (gapR_bad he)
    have heb : (asked8 h l row tl != 0) = true := by simpa using he
    have y0 := Y1.cell 0
    have y1 := Y1.cell 1
    have fy0 := Y1.frozen 0
    have fy1 := Y1.frozen 1
    have hyl := Y1.lt
    clear he hbx
    go_wp2_with fail
    exact bodyPost_ret (ret_span rfl rfl rfl (Y1.set2 _ _).c0 (Y1.set2 _ _).c1) rfl ⟨by rw [HR.out], bl_set (bl_set B1 (by dsimp only; omega) _) (by dsimp only; omega) _⟩

theorem whyR_bad {h : Hall} {l : List Seen} {row : Int} {tl : List Int} (e : asked8 h l row tl ≠ 0) : whyR h l row tl = (0, 0, asked8 h l row tl) := by rw [whyR, if_pos e]
theorem whyR_ok {h : Hall} {l : List Seen} {r : Nat} {tl : List Int} (e : asked8 h l r tl = 0) : whyR h l r tl = match whyUpto h l r tl (h.ahi - h.alo + 1).toNat with
  | some (n, e) => (e, h.alo + n, 0)
  | none => (0, 0, 0) := by rw [whyR, if_neg (by simp [e])]; rfl

set_option maxRecDepth 100000 in
set_option maxHeartbeats 1000000 in
theorem twhy_any {S : Foot} {A B C T : Option Addr} {n ca m cb q cc k c : Nat} {h : Hall} {l : List Seen} {alo ahi most : Int} {tl : List Int} (row : Int) (w : World) (g : HallAt (fun _ => True) w A n B m h) (gs : Seens (fun _ => True) w C q l) (ht : Ints S w T k tl) (hca : n ≤ ca) (h1 : h.alo = alo) (h2 : h.ahi = ahi) (h3 : h.most = most) :
    Calls Try.prog 24 #[.agg #[.int .i64 alo, .int .i64 ahi, .int .i64 most, .slice A n ca, .slice B m cb], .slice C q cc, .int .i64 row, .slice T k c] w fun e w' =>
      e = .returned (.tuple #[.int .i64 (whyR h l row tl).1, .int .i64 (whyR h l row tl).2.1, .int .i64 (whyR h l row tl).2.2]) ∧ Below w.heap.size w w' := by
  obtain ⟨W, hW⟩ : ∃ W, w.alloc (.cells #[.int .i64 alo, .int .i64 ahi, .int .i64 most, .slice A n ca, .slice B m cb] 27) = W := ⟨_, rfl⟩
  have X8 : Blk W w.heap.size 27 #[.int .i64 alo, .int .i64 ahi, .int .i64 most, .slice A n ca, .slice B m cb] := by rw [← hW]; exact Blk.new _ _ _ rfl
  have hBW : Below w.heap.size w W := by rw [← hW]; exact bl_alloc (Below.refl _ _) _ (Nat.le_refl _)
  have hc : HallAt (fun _ => True) W A n B m h := g.keep (Keeps.below hBW)
  have hs : Seens (fun _ => True) W C q l := gs.keep SeenR.good (Keeps.below hBW)
  have htW : Ints S W T k tl := ht.keep IntR.good (Keeps.below hBW)
  have hWs : w.heap.size ≤ W.heap.size := hBW.size
  have HW := Lib.hid hW
  have Hn := Lib.hid hc.ts.len
  have Hm := Lib.hid hc.rs.len
  have Hk := Lib.hid ht.len
  clear hW g gs
  go_enter Try.func24, Try.ntmps24
  go_wp2_with fail
  rw [HW.out]
  refine (topen_any row W hc hs htW hca h1 h2 h3).mono ?_
  rintro e W1 ⟨b1, p, rfl, hbx⟩
  have B1 : Below w.heap.size w W1 := hBW.trans (b1.mono hWs)
  have Y1 := X8.bl b1
  clear X8
  by_cases he : asked8 h l row tl = 0
  · obtain ⟨gh, rfl, hbox⟩ := hbx he
    obtain ⟨r, ha⟩ := asked_ok he Hn.out Hm.out
    have hrow := ha.row
    subst hrow
    have HR := Lib.hid (whyR_ok he)
    have htW1 := htW.keep IntR.good (Keeps.below b1)
    have HA := Lib.hid ha
    rw [he]
    obtain ⟨g1, g2, g3, g4⟩ := ha.ok.air
    obtain ⟨a0, ha0⟩ : ∃ a0 : Nat, h.alo = a0 := ⟨h.alo.toNat, by omega⟩
    obtain ⟨a1, ha1⟩ : ∃ a1 : Nat, h.ahi = a1 := ⟨h.ahi.toNat, by omega⟩
    obtain ⟨d, hd⟩ : ∃ d : Nat, a1 + 1 = a0 + d := ⟨a1 + 1 - a0, by omega⟩
    have hcall : Hid (∀ (V : World) (a : Nat), Below W1.heap.size W1 V → a ≤ 40 → Calls Try.prog 64 #[.pointer (some ⟨gh, 0, none⟩), .int .i64 r, .slice T k c, .int .i64 a] V fun e w' =>
      e = .returned (.agg #[.int .i64 (at8 h l r tl a).1, .int .i64 (at8 h l r tl a).2]) ∧ Below V.heap.size V w') :=
      fun V a hb ha => at_any V (hbox.keep hb) HA.out.ok HA.out.ag HA.out.lt (htW1.keep IntR.good (Keeps.below hb)) (by rw [← Hk.out]; exact HA.out.k8) HA.out.tl ha
    have hwhy : Hid (∀ (V : World) (lo hi : Int), Below W1.heap.size W1 V → Calls Try.prog 63 #[.pointer (some ⟨gh, 0, none⟩), .agg #[.int .i64 lo, .int .i64 hi]] V fun e w' => e = .returned (.int .i64 (wrong8 h.most (lo, hi))) ∧ Below V.heap.size V w') :=
      fun V lo hi hb => why_any lo hi V (hbox.keep hb)
    have hw1 : IntKind.i64.wrap ((a1 : Int) - a0) = (a1 : Int) - a0 := by rw [IntKind.wrap_i64]; omega
    have hw2 : IntKind.i64.wrap ((a1 : Int) - a0 + 1) = (d : Int) := by rw [IntKind.wrap_i64]; omega
    have HR2 : Hid (whyR h l r tl = match firstErr (fun i => wrong8 h.most (at8 h l r tl ((a0 + i : Nat) : Int))) d with
      | some (i, e) => (e, ((a0 + i : Nat) : Int), 0)
      | none => (0, 0, 0)) := by
      have e1 : (h.ahi - h.alo + 1).toNat = d := by omega
      rw [Hid, HR.out, whyUpto, e1, ha0]
      simp only [Int.natCast_add]
    have hd41 : a0 + d ≤ 41 := by omega
    have y0 : W1.cell? ⟨w.heap.size, 0, none⟩ = some (.int .i64 a0) := by rw [← ha0, h1]; exact Y1.cell 0
    have y1 : W1.cell? ⟨w.heap.size, 1, none⟩ = some (.int .i64 a1) := by rw [← ha1, h2]; exact Y1.cell 1
    have Y0 := Lib.hid y0
    have HB1 := Lib.hid B1
    have hyl := Y1.lt
    clear he hbx ha hbox htW1 HR g1 g2 g3 g4 ha0 ha1 hd B1
    go_wp2_with fail
    clear y0 y1
    go_loopw [8, 9, 10, 12, 32] (fun _ _ _ _ i' wr => ∃ j : Nat, i' = .int .i64 j ∧ j ≤ d ∧ Hid (Below W1.heap.size W1 wr) ∧ Hid (∀ i, i < j → wrong8 h.most (at8 h l r tl ((a0 + i : Nat) : Int)) = 0)) (fun _ _ _ _ i' _ => d - (intOf i').toNat)
    case atStart => exact ⟨0, rfl, Nat.zero_le _, Below.refl _ _, fun i hi => by omega⟩
    case round =>
      obtain ⟨j, rfl, hj, HB, HZ⟩ := hrel
      by_cases hlt : j < d
      · have hji : (j : Int) < d := by omega
        have y0 := getc HB.out Y0.out
        have hyl2 : w.heap.size < wr.heap.size := by have := HB.out.size; omega
        have hw3 : IntKind.i64.wrap ((a0 : Int) + (j : Int)) = ((a0 + j : Nat) : Int) := by rw [IntKind.wrap_i64]; omega
        go_wp2_with fail
        rw [show (a0 : Int) + (j : Int) = ((a0 + j : Nat) : Int) by omega]
        refine (hcall.out wr (a0 + j) HB.out (by omega)).mono ?_
        rintro e W2 ⟨rfl, b2⟩
        have HB2 : Hid (Below W1.heap.size W1 W2) := bl_call HB.out b2 (Nat.le_refl _)
        have HV : Hid (∀ V, Below W1.heap.size W1 V → Calls Try.prog 63 #[.pointer (some ⟨gh, 0, none⟩), .agg #[.int .i64 (at8 h l r tl ((a0 + j : Nat) : Int)).1, .int .i64 (at8 h l r tl ((a0 + j : Nat) : Int)).2]] V fun e w' => e = .returned (.int .i64 (wrong8 h.most (at8 h l r tl ((a0 + j : Nat) : Int)))) ∧ Below V.heap.size V w') := fun V hb => hwhy.out V _ _ hb
        clear b2 y0
        go_wp2_with fail
        refine (HV.out W2 HB2.out).mono ?_
        rintro e W3 ⟨rfl, b3⟩
        have HB3 : Hid (Below W1.heap.size W1 W3) := bl_call HB2.out b3 (Nat.le_refl _)
        obtain ⟨v, hv⟩ : ∃ v, wrong8 h.most (at8 h l r tl ((a0 + j : Nat) : Int)) = v := ⟨_, rfl⟩
        rw [hv]
        by_cases hz : v = 0
        · have hzb : (v != 0) = false := by rw [hz]; rfl
          have HZ2 : Hid (∀ i, i < j + 1 → wrong8 h.most (at8 h l r tl ((a0 + i : Nat) : Int)) = 0) := fun i hi => by
            by_cases e : i = j
            · rw [e, hv, hz]
            · exact HZ.out i (by omega)
          clear hv hz b3 hw3
          go_wp2_with fail
          go_roundw
          case rel => exact ⟨j + 1, by go_num, by omega, HB3.out, HZ2.out⟩
          case measure => simp [intOf]; omega
        · have hzb : (v != 0) = true := by simpa using hz
          have HV2 := Lib.hid hv
          have HNZ := Lib.hid hz
          have HRR : Hid (whyR h l r tl = (v, ((a0 + j : Nat) : Int), 0)) := by
            rw [Hid, HR2.out, firstErr_some hlt HZ.out (by rw [hv]; exact hz), hv]
          have y0 := getc HB3.out Y0.out
          have hyl3 : w.heap.size < W3.heap.size := by have := HB3.out.size; omega
          clear hv hz b3
          go_wp2_with fail
          go_quiet (fail)
          go_wp2_with fail
          go_ret3
          exact ⟨by rw [HRR.out]; rfl, bl_drewN (bl_call HB1.out HB3.out (Nat.le_refl _)) _⟩
      · obtain rfl : j = d := by omega
        have HRR : Hid (whyR h l r tl = (0, 0, 0)) := by
          rw [Hid, HR2.out, firstErr_none HZ.out]
        go_wp2_with fail
        go_ret3
        exact ⟨by rw [HRR.out]; rfl, bl_call HB1.out HB.out (Nat.le_refl _)⟩
  · have HR := Lib.hid (whyR_bad he)
    have heb : (asked8 h l row tl != 0) = true := by simpa using he
    clear he hbx
    go_wp2_with fail
    go_ret3
    exact ⟨by rw [HR.out]; rfl, B1⟩

end Go.Proofs.Ytpbimgafafkjgaa
