/- Walks: the law TileShown. -/
import Derived.Test.YtpbimgafafkjgaaCTLaw2
import Derived.Test.YtpbimgafafkjgaaCTOuts1
import Derived.Test.YtpbimgafafkjgaaCTRegs
set_option linter.unusedVariables false
set_option linter.unusedSimpArgs false
set_option linter.all false
namespace Go.Proofs.Ytpbimgafafkjgaa
open Go.RowKit

/-- what the operations of a round promise -/
def shE (B : Nat) (hv lv tv : Value) (j bT oT : Nat) (t a z1 z2 : Int) : Nat → Bool → Value → World → Prop
  | 0, _, v, _ => v = hv
  | 1, _, v, _ => v = lv
  | 2, _, v, _ => v = tv
  | 3, _, v, _ => v = .int .i64 j
  | 4, _, v, _ => v = .pointer (some ⟨bT, oT + j, none⟩)
  | 5, _, v, _ => v = .int .i64 t
  | 6, _, v, _ => v = .int .i64 a
  | 7, _, v, _ => v = .tuple #[.agg #[.int .i64 z1, .int .i64 z2], .int .i64 0]
  | 8, _, v, _ => v = .tuple #[.agg #[.int .i64 z1, .int .i64 z2], .int .i64 0]
  | 9, _, v, _ => v = .agg #[.int .i64 z1, .int .i64 z2]
  | 10, _, v, _ => v = .int .i64 0
  | 11, b, v, W => ∃ g, B ≤ g ∧ v = .pointer (some ⟨g, 0, none⟩) ∧ Blk W g 23 (if b then #[.int .i64 z1, .int .i64 z2] else #[.int .i64 0, .int .i64 0])
  | _, _, _, _ => True
theorem shE_stab (B : Nat) (hv lv tv : Value) (j bT oT : Nat) (t a z1 z2 : Int) : ∀ i b v w w', Below w.heap.size w w' → shE B hv lv tv j bT oT t a z1 z2 i b v w → shE B hv lv tv j bT oT t a z1 z2 i b v w'
  | 0, _, _, _, _, _, h => h
  | 1, _, _, _, _, _, h => h
  | 2, _, _, _, _, _, h => h
  | 3, _, _, _, _, _, h => h
  | 4, _, _, _, _, _, h => h
  | 5, _, _, _, _, _, h => h
  | 6, _, _, _, _, _, h => h
  | 7, _, _, _, _, _, h => h
  | 8, _, _, _, _, _, h => h
  | 9, _, _, _, _, _, h => h
  | 10, _, _, _, _, _, h => h
  | 11, _, _, _, _, hb, ⟨g, h1, h2, h3⟩ => ⟨g, h1, h2, h3.bl hb⟩
  | _ + 12, _, _, _, _, _, _ => trivial

set_option maxRecDepth 100000 in
set_option maxHeartbeats 8000000 in
theorem shownLaw_any {A B C : Option Addr} {n ca m cb q cc : Nat} {h : Hall} {l : List Seen} {alo ahi most : Int} (d0 d1 : Nat) (hd0 : d0 < 256) (hd1 : d1 < 256) (w : World) (g : HallAt (fun _ => True) w A n B m h) (gs : Seens (fun _ => True) w C q l) (hca : n ≤ ca) (h1 : h.alo = alo) (h2 : h.ahi = ahi) (h3 : h.most = most) :
    Calls Try.prog 9 #[.agg #[.int .i64 alo, .int .i64 ahi, .int .i64 most, .slice A n ca, .slice B m cb], .slice C q cc, .agg #[.int .u8 d0, .int .u8 d1]] w fun e w' => e = .returned (.bool true) ∧ Below w.heap.size w w' := by
  have Hm := Lib.hid g.rs.len
  have Hn := Lib.hid g.ts.len
  obtain ⟨W, hW⟩ : ∃ W, (w.alloc (.cells #[.int .i64 alo, .int .i64 ahi, .int .i64 most, .slice A n ca, .slice B m cb] 27)).alloc (.cells #[.int .u8 d0, .int .u8 d1] 59) = W := ⟨_, rfl⟩
  obtain ⟨g0, hg0⟩ : ∃ g0, w.heap.size = g0 := ⟨_, rfl⟩
  have X : Blk W g0 27 #[.int .i64 alo, .int .i64 ahi, .int .i64 most, .slice A n ca, .slice B m cb] := by rw [← hW, ← hg0]; exact (Blk.new _ _ _ rfl).alloc _
  have Z : Blk W (g0 + 1) 59 #[.int .u8 d0, .int .u8 d1] := by rw [← hW, ← hg0]; exact Blk.new _ _ _ (by simp)
  have HBW : Hid (Below w.heap.size w W) := by rw [Hid, ← hW]; exact bl_alloc (bl_alloc (Below.refl _ _) _ (Nat.le_refl _)) _ (Nat.le_refl _)
  have HG := Lib.hid (g.keep (Keeps.below HBW.out))
  have HS := Lib.hid (gs.keep SeenR.good (Keeps.below HBW.out))
  have HX := Lib.hid X
  have kk : Hid (∀ V, Below W.heap.size W V → V.cell? ⟨g0, 0, none⟩ = some (.int .i64 alo) ∧ V.cell? ⟨g0, 1, none⟩ = some (.int .i64 ahi) ∧ V.cell? ⟨g0, 2, none⟩ = some (.int .i64 most) ∧ V.cell? ⟨g0, 3, none⟩ = some (.slice A n ca) ∧ V.cell? ⟨g0, 4, none⟩ = some (.slice B m cb) ∧ V.cell? ⟨g0 + 1, 0, none⟩ = some (.int .u8 d0) ∧ V.cell? ⟨g0 + 1, 1, none⟩ = some (.int .u8 d1)) :=
    fun V hb => ⟨(X.bl hb).cell 0, (X.bl hb).cell 1, (X.bl hb).cell 2, (X.bl hb).cell 3, (X.bl hb).cell 4, (Z.bl hb).cell 0, (Z.bl hb).cell 1⟩
  clear X Z g gs
  obtain ⟨x0, x1, x2, x3, x4, y0, y1⟩ := kk.out W (Below.refl _ _)
  go_enter Try.func9, Try.ntmps9
  go_wp2_with fail
  clear hW x0 x1 x2 x3 x4 y0 y1
  refine (good_any W HG.out HS.out h1 h2 h3).mono ?_
  rintro e V1 ⟨rfl, b1⟩
  obtain ⟨gb, hgb⟩ : ∃ gb, good8 h l = gb := ⟨_, rfl⟩
  rw [hgb]
  cases gb with
  | false =>
    clear hgb
    go_wp2_with fail
    refine (awake_any V1).mono ?_
    rintro e V2 ⟨rfl, c2⟩
    go_wp2
    go_ret
    exact ⟨by rfl, bl_call HBW.out (bl_call b1 c2 (Nat.le_refl _)) (Nat.le_refl _)⟩
  | true =>
    obtain ⟨e1, ea⟩ := good8_parts hgb
    obtain ⟨hk, hq6, hsn⟩ := seen_air e1
    have HE1 := Lib.hid e1
    have HEA := Lib.hid ea
    have HKK := Lib.hid hk
    have hm1 : 1 ≤ m ∧ m ≤ 3 := by have := hk.nr; rw [Hm.out] at this; exact this
    have hn1 : 1 ≤ n ∧ n ≤ 8 := by have := hk.nt; rw [Hn.out] at this; exact this
    obtain ⟨row, hrow⟩ : ∃ row, d0 % m = row := ⟨_, rfl⟩
    have hrm : row < m := by rw [← hrow]; exact Nat.mod_lt _ (by omega)
    have hmod : ((d0 : Int)).tmod (m : Int) = (row : Int) := by rw [Int.tmod_eq_emod_of_nonneg (by omega), ← hrow]; rfl
    have hcv : IntKind.i64.wrap (d0 : Int) = d0 := by rw [IntKind.wrap_i64]; omega
    have hmz : ¬ (m : Int) = 0 := by omega
    have hmz2 : ((m : Int) == 0) = false := by simp; omega
    have hri : (row : Int) < m := by omega
    have hml : m ≤ maxLen := HG.out.rs.le
    clear e1 ea hk hgb hq6 hsn hrow
    obtain ⟨x0, x1, x2, x3, x4, y0, y1⟩ := kk.out V1 b1
    go_wp2_with fail
    clear x0 x1 x2 x3 x4 y0 y1
    refine (chosen_any (v1 := .int .i64 alo) (v2 := .int .i64 ahi) (v3 := .int .i64 most) V1 (HG.out.keep (Keeps.below b1)) rfl rfl rfl HKK.out hrm hd1).mono ?_
    rintro e V2 ⟨⟨T, cT, rfl, hT, hcT⟩, c2⟩
    have b2 := bl_call b1 c2 (Nat.le_refl _)
    obtain ⟨TL, hTL⟩ : ∃ TL, choK n (rowP h row) d1 n = TL := ⟨_, rfl⟩
    have HTE : Hid (tilesE n (h.rows.getD row dRow).places TL = 0) := by
      have := cho_at HKK.out (row := row) (bits := d1) (by rw [Hm.out]; exact hrm) hd1
      rwa [Hn.out, hTL] at this
    rw [hTL] at hT hcT ⊢
    have HAS : Hid (asked8 h l row TL = 0) := asked_fine HE1.out (by rw [Hm.out]; exact hrm) (by rw [Hn.out]; exact HTE.out) HEA.out
    have HTM : Hid (∀ i ∈ TL, 0 ≤ i ∧ i < n) := (tilesE_zero HTE.out).2.1
    have hk8 : TL.length ≤ 8 := by rw [← hTL]; have := choK_len n (rowP h row) d1 n; omega
    clear hTL
    obtain ⟨k, hk⟩ : ∃ k, TL.length = k := ⟨_, rfl⟩
    rw [hk] at hT hcT hk8 ⊢
    have HKL := Lib.hid hk
    have HT := Lib.hid hT
    clear hk hT c2 b1
    obtain ⟨x0, x1, x2, x3, x4, y0, y1⟩ := kk.out V2 b2
    go_wp2_with fail
    clear x0 x1 x2 x3 x4 y0 y1
    refine (twhy_any row V2 (HG.out.keep (Keeps.below b2)) (HS.out.keep SeenR.good (Keeps.below b2)) HT.out hca h1 h2 h3).mono ?_
    rintro e V3 ⟨rfl, c3⟩
    have b3 := bl_call b2 c3 (Nat.le_refl _)
    have hair := HKK.out.air
    rcases why_parts HAS.out hair.2.1 with hw | ⟨r, a, hw, ha1, ha2, hcase⟩
    · rw [hw]
      clear hw hair
      go_wp2_with fail
      refine (awake_any V3).mono ?_
      rintro e V4 ⟨rfl, c4⟩
      go_wp2
      go_ret
      exact ⟨by rfl, bl_call HBW.out (bl_call b3 c4 (Nat.le_refl _)) (Nat.le_refl _)⟩
    · rw [hw]
      obtain ⟨an, rfl⟩ := Int.eq_ofNat_of_zero_le (show 0 ≤ a by omega)
      have han : an ≤ 40 := by omega
      have hia : inB (an : Int) alo ahi = true := by rw [← h1, ← h2]; simp [inB]; omega
      have HT3 := Lib.hid (HT.out.keep IntR.good (Keeps.below c3))
      clear hw hair ha1 ha2 HT c3 b2
      rcases hcase with ⟨rfl, hbad⟩ | ⟨rfl, hbad⟩
      · have HBAD := Lib.hid hbad
        clear hbad
        obtain ⟨x0, x1, x2, x3, x4, y0, y1⟩ := kk.out V3 b3
        go_wp2_with fail
        clear x0 x1 x2 x3 x4 y0 y1
        refine (in40_any an alo ahi V3).mono ?_
        rintro e V4 ⟨rfl, c4⟩
        rw [hia]
        have b4 := bl_call b3 c4 (Nat.le_refl _)
        have HT4 := Lib.hid (HT3.out.keep IntR.good (Keeps.below c4))
        obtain ⟨b, off, fr, sw, pl, rfl, hbb, r0, r1, r2, Hx⟩ := RowTs.get (HG.out.keep (Keeps.below b4)).rs hrm
        have hre := HKK.out.row (k := row) (by rw [Hm.out]; exact hrm)
        obtain ⟨f1, f2, f3, f4, f5, f6⟩ := rowE_zero Hx.out hre
        obtain ⟨x0, x1, x2, x3, x4, y0, y1⟩ := kk.out V4 b4
        have hmu1 : 0 ≤ sw * (an : Int) := Int.mul_nonneg f3 (by omega)
        have hmu2 : sw * (an : Int) ≤ 160 * 40 := Int.mul_le_mul f4 (by omega) (by omega) (by decide)
        have hx1 : IntKind.i64.wrap (sw * (an : Int)) = sw * (an : Int) := by rw [IntKind.wrap_i64]; omega
        obtain ⟨nn, hnn⟩ : ∃ nn : Int, fr + sw * (an : Int) = nn := ⟨_, rfl⟩
        have hx2 : IntKind.i64.wrap (fr + sw * (an : Int)) = nn := by rw [hnn, IntKind.wrap_i64]; omega
        have hnb : 0 ≤ nn ∧ nn ≤ 206400 := by omega
        have HN : Hid (atUpto h l row TL an 0 = (nn, nn)) := by
          unfold atUpto
          rw [Hid, getD_of Hx.out, ← hnn]; rfl
        clear hnn hre r2 hbb c4 HT3 b3
        go_wp2_with fail
        go_quiet (fail)
        clear r0 r1 hx1 hx2 hmu1 hmu2 x0 x1 x2 x3 x4 y0 y1
        obtain ⟨V5, hV5⟩ : ∃ V5, V4.drewN nq = V5 := ⟨_, rfl⟩
        have b5 : Below W.heap.size W V5 := by rw [← hV5]; exact bl_drewN b4 _
        have HT5 : Hid (Ints (fun b => V1.heap.size ≤ b) V5 T k TL) := by rw [Hid, ← hV5]; exact HT4.out.keep IntR.good (Keeps.drewN _ _)
        rw [hV5]
        clear hV5 HT4 b4
        go_wp2_with fail
        go_loopw [12, 13] (fun nv i wr => ∃ (j : Nat) (lo hi : Int), i = .int .i64 j ∧ nv = .int .i64 lo ∧ j ≤ k ∧ -(21300 * (j : Int)) ≤ lo ∧ lo ≤ hi ∧ hi ≤ 206400 ∧ Hid (atUpto h l row TL an j = (lo, hi)) ∧ Below V5.heap.size V5 wr) (fun _ i _ => k - (intOf i).toNat)
        case atStart => exact ⟨0, nn, nn, rfl, rfl, Nat.zero_le _, by omega, by omega, by omega, HN, Below.refl _ _⟩
        case round =>
          obtain ⟨j, lo, hi, rfl, rfl, hj, hl1, hl2, hl3, HA, hB⟩ := hrel
          have hBr := bl_call b5 hB (Nat.le_refl _)
          by_cases hlt : j < k
          · have hji : (j : Int) < k := by omega
            obtain ⟨bT, oT, x, rfl, hcell, Hxi⟩ := Ints.get (HT5.out.keep IntR.good (Keeps.below hB)) hlt
            obtain ⟨hx0, hxn⟩ := HTM.out x (List.mem_of_getElem? Hxi.out)
            obtain ⟨t, rfl⟩ := Int.eq_ofNat_of_zero_le hx0
            have htl : t < h.tiles.length := by rw [Hn.out]; omega
            obtain ⟨z1, z2, hv⟩ : ∃ z1 z2, wide8 h l t an = (z1, z2) := ⟨_, _, rfl⟩
            have hwb := wide8_bd HKK.out htl (agree_ne HEA.out htl) (a := (an : Int)) (by omega)
            rw [hv] at hwb
            dsimp only at hwb
            have HA1 : Hid (atUpto h l row TL an (j + 1) = (lo - z2, hi - z1)) := by rw [Hid, atUpto_succ Hxi.out, HA.out]; simp only [Int.toNat_natCast, hv]
            have HWD : Hid (∀ V, Below wr.heap.size wr V → Calls Try.prog 19 #[.agg #[.int .i64 alo, .int .i64 ahi, .int .i64 most, .slice A n ca, .slice (some ⟨b, off, none⟩) m cb], .slice C q cc, .int .i64 t, .int .i64 an] V fun e w' => e = .returned (.tuple #[.agg #[.int .i64 z1, .int .i64 z2], .int .i64 0]) ∧ Below V.heap.size V w') := fun V hb => by
              have hB2 := bl_call hBr hb (Nat.le_refl _)
              have := twidth_any (cb := cb) (cc := cc) (t : Int) (an : Int) V (HG.out.keep (Keeps.below hB2)) (HS.out.keep SeenR.good (Keeps.below hB2)) hca h1 h2 h3
              rw [width_ok HE1.out HEA.out htl (by omega) (by omega), hv] at this
              exact this
            have HCE := Lib.hid hcell
            have HBr := Lib.hid hBr
            have HHX := Lib.hid (HX.out.bl hBr)
            have HBB := Lib.hid hB
            clear hv hx0 hxn hcell hBr hB
            go_wp2_with fail
            have AS := Lib.hid (shE_stab wr.heap.size (.agg #[.int .i64 alo, .int .i64 ahi, .int .i64 most, .slice A n ca, .slice (some ⟨b, off, none⟩) m cb]) (.slice C q cc) (.slice (some ⟨bT, oT, none⟩) k cT) j bT oT t an z1 z2)
            refine wp_region_invs (fun ls vs ww => InvE wr.heap.size wr (shE wr.heap.size (.agg #[.int .i64 alo, .int .i64 ahi, .int .i64 most, .slice A n ca, .slice (some ⟨b, off, none⟩) m cb]) (.slice C q cc) (.slice (some ⟨bT, oT, none⟩) k cT) j bT oT t an z1 z2) 12 ls vs ww) 13 (by kernel_rfl) (by kernel_rfl) (by kernel_rfl) (by rfl) ⟨(Below.refl _ _).drew, fun i h => by cases h⟩ ?step (by rfl) (by rfl) ?fin
            case step =>
              refine StepsI.cons ?_ (StepsI.cons ?_ (StepsI.cons ?_ (StepsI.cons ?_ (StepsI.cons ?_ (StepsI.cons ?_ (StepsI.cons ?_ (StepsI.cons ?_ (StepsI.cons ?_ (StepsI.cons ?_ (StepsI.cons ?_ (StepsI.cons ?_ (StepsI.cons ?_ StepsI.nil))))))))))))
              all_goals
                refine StepI.of ?_
                intro ls vs W K hI hl hw hU hK
                simp only [fillA, Act.put, List.setIfInBounds_toArray, List.set_cons_zero, List.set_cons_succ, Nat.zero_add, Nat.reduceAdd] at hK ⊢
                simp [waits, Region.binds] at hw
                have hC := hI.1
              · have hR := HHX.out.bl hC
                have k0 := hR.cell 0
                have k1 := hR.cell 1
                have k2 := hR.cell 2
                have k3 := hR.cell 3
                have k4 := hR.cell 4
                go_simp
                exact hK _ _ (hI.step AS.out (Below.refl _ _) hC.size (by decide) rfl)
              · go_simp
                exact hK _ _ (hI.step AS.out (Below.refl _ _) hC.size (by decide) rfl)
              · go_simp
                exact hK _ _ (hI.step AS.out (Below.refl _ _) hC.size (by decide) rfl)
              · go_simp
                exact hK _ _ (hI.step AS.out (Below.refl _ _) hC.size (by decide) rfl)
              · have q2 : vs 2 = _ := hI.2 2 (by simp [hw])
                have q3 : vs 3 = _ := hI.2 3 (by simp [hw])
                simp only [q2, q3] at hK ⊢
                go_simp
                exact hK _ _ (hI.step AS.out (Below.refl _ _) hC.size (by decide) rfl)
              · have q4 : vs 4 = _ := hI.2 4 (by simp [hw])
                simp only [q4] at hK ⊢
                have k0 := getc hC HCE.out
                go_simp
                exact hK _ _ (hI.step AS.out (Below.refl _ _) hC.size (by decide) rfl)
              · go_simp
                exact hK _ _ (hI.step AS.out (Below.refl _ _) hC.size (by decide) rfl)
              · have q0 : vs 0 = _ := hI.2 0 (by simp [hw])
                have q1 : vs 1 = _ := hI.2 1 (by simp [hw])
                have q5 : vs 5 = _ := hI.2 5 (by simp [hw])
                have q6 : vs 6 = _ := hI.2 6 (by simp [hw])
                simp only [q0, q1, q5, q6] at hK ⊢
                go_simp
                refine (HWD.out W hC).mono ?_
                rintro e w' ⟨rfl, hb⟩
                exact hK _ _ (hI.step AS.out hb hC.size (by decide) rfl)
              · have q7 : vs 7 = _ := hI.2 7 (by simp [hw])
                simp only [q7] at hK ⊢
                go_simp
                exact hK _ _ (hI.step AS.out (Below.refl _ _) hC.size (by decide) rfl)
              · have q8 : vs 8 = _ := hI.2 8 (by simp [hw])
                simp only [q8] at hK ⊢
                go_simp
                exact hK _ _ (hI.step AS.out (Below.refl _ _) hC.size (by decide) rfl)
              · have q8 : vs 8 = _ := hI.2 8 (by simp [hw])
                simp only [q8] at hK ⊢
                go_simp
                exact hK _ _ (hI.step AS.out (Below.refl _ _) hC.size (by decide) rfl)
              · have h12 : ls 12 = false := (hU 12 _ rfl (by simp [waits, Region.binds])).1
                go_simp
                exact hK _ _ (hI.step AS.out (bl_alloc (Below.refl _ _) _ (Nat.le_refl _)) hC.size (by decide) ⟨_, hC.size, rfl, by rw [h12]; exact Blk.new _ _ _ rfl⟩)
              · have q9 : vs 9 = _ := hI.2 9 (by simp [hw])
                obtain ⟨g4, hg4, h4, hB4⟩ := hI.2 11 (by simp [hw])
                rw [hl] at hB4
                have z0 : W.cell? ⟨g4, 0, none⟩ = some (.int .i64 0) := hB4.cell 0
                have z1' : W.cell? ⟨g4, 1, none⟩ = some (.int .i64 0) := hB4.cell 1
                have fz0 := hB4.frozen 0
                have fz1 := hB4.frozen 1
                have hl4 := hB4.lt
                simp only [q9, h4] at hK ⊢
                go_simp
                refine hK undef _ ⟨bl_set (bl_set hC hg4 _) hg4 _, fun i hi => ?_⟩
                have hb12 : updB ls 12 12 = true := by unfold updB; rw [if_pos rfl]
                rw [hb12]
                match i, hi with
                | 0, hi => exact hI.2 0 hi
                | 1, hi => exact hI.2 1 hi
                | 2, hi => exact hI.2 2 hi
                | 3, hi => exact hI.2 3 hi
                | 4, hi => exact hI.2 4 hi
                | 5, hi => exact hI.2 5 hi
                | 6, hi => exact hI.2 6 hi
                | 7, hi => exact hI.2 7 hi
                | 8, hi => exact hI.2 8 hi
                | 9, hi => exact hI.2 9 hi
                | 10, hi => exact hI.2 10 hi
                | 11, _ => exact ⟨g4, hg4, h4, hB4.set2 _ _⟩
                | _ + 12, _ => trivial
            case fin =>
              intro ls vs W hI hl hU
              clear hU
              have hC := hI.1
              have e10 : vs 10 = .int .i64 0 := hI.2 10 (hl 10 (by decide))
              have e11 := hI.2 11 (hl 11 (by decide))
              have e12 := hl 12 (by decide)
              simp only [fillA, Act.put, List.setIfInBounds_toArray, List.set_cons_zero, List.set_cons_succ, Nat.zero_add, Nat.reduceAdd, e10]
              rw [e12] at e11
              obtain ⟨g4, hg4, h4, hB4⟩ := e11
              rw [h4]
              obtain ⟨u0, hu0⟩ : ∃ v0, vs 0 = v0 := ⟨_, rfl⟩
              obtain ⟨u1, hu1⟩ : ∃ v0, vs 1 = v0 := ⟨_, rfl⟩
              obtain ⟨u2, hu2⟩ : ∃ v0, vs 2 = v0 := ⟨_, rfl⟩
              obtain ⟨u3, hu3⟩ : ∃ v0, vs 3 = v0 := ⟨_, rfl⟩
              obtain ⟨u4, hu4⟩ : ∃ v0, vs 4 = v0 := ⟨_, rfl⟩
              obtain ⟨u5, hu5⟩ : ∃ v0, vs 5 = v0 := ⟨_, rfl⟩
              obtain ⟨u6, hu6⟩ : ∃ v0, vs 6 = v0 := ⟨_, rfl⟩
              obtain ⟨u7, hu7⟩ : ∃ v0, vs 7 = v0 := ⟨_, rfl⟩
              obtain ⟨u8, hu8⟩ : ∃ v0, vs 8 = v0 := ⟨_, rfl⟩
              obtain ⟨u9, hu9⟩ : ∃ v0, vs 9 = v0 := ⟨_, rfl⟩
              rw [hu0, hu1, hu2, hu3, hu4, hu5, hu6, hu7, hu8, hu9]
              clear hu0 hu1 hu2 hu3 hu4 hu5 hu6 hu7 hu8 hu9
              clear h4 hI hl AS e10 e12
              have hB5 : Blk W g4 23 #[.int .i64 z1, .int .i64 z2] := hB4
              have z0 := hB5.c0
              have z1' := hB5.c1
              have hws : IntKind.i64.wrap (lo - z2) = lo - z2 := by rw [IntKind.wrap_i64]; omega
              go_simp
              go_wp2_with fail
              go_roundw
              case rel => exact ⟨j + 1, lo - z2, hi - z1, by go_num, rfl, by omega, by omega, by omega, by omega, HA1, bl_call HBB.out hC (Nat.le_refl _)⟩
              case measure => simp [intOf]; omega
          · obtain rfl : j = k := by omega
            have HF : Hid (at8 h l row TL an = (lo, hi)) := by rw [Hid, at8, HKL.out, HA.out]
            have hneg : lo < 0 := by have := HBAD.out; rw [HF.out] at this; exact this
            obtain ⟨x0, x1, x2, x3, x4, y0, y1⟩ := kk.out wr hBr
            clear HBAD
            go_wp2_with fail
            refine (awake_any wr).mono ?_
            rintro e V9 ⟨rfl, c9⟩
            go_wp2
            go_ret
            exact ⟨by rfl, bl_call HBW.out (bl_call hBr c9 (Nat.le_refl _)) (Nat.le_refl _)⟩
      · have HBAD := Lib.hid hbad
        clear hbad
        obtain ⟨x0, x1, x2, x3, x4, y0, y1⟩ := kk.out V3 b3
        go_wp2_with fail
        clear x0 x1 x2 x3 x4 y0 y1
        refine (in40_any an alo ahi V3).mono ?_
        rintro e V4 ⟨rfl, c4⟩
        rw [hia]
        have b4 := bl_call b3 c4 (Nat.le_refl _)
        have HT4 := Lib.hid (HT3.out.keep IntR.good (Keeps.below c4))
        obtain ⟨b, off, fr, sw, pl, rfl, hbb, r0, r1, r2, Hx⟩ := RowTs.get (HG.out.keep (Keeps.below b4)).rs hrm
        have hre := HKK.out.row (k := row) (by rw [Hm.out]; exact hrm)
        obtain ⟨f1, f2, f3, f4, f5, f6⟩ := rowE_zero Hx.out hre
        obtain ⟨x0, x1, x2, x3, x4, y0, y1⟩ := kk.out V4 b4
        have hmu1 : 0 ≤ sw * (an : Int) := Int.mul_nonneg f3 (by omega)
        have hmu2 : sw * (an : Int) ≤ 160 * 40 := Int.mul_le_mul f4 (by omega) (by omega) (by decide)
        have hx1 : IntKind.i64.wrap (sw * (an : Int)) = sw * (an : Int) := by rw [IntKind.wrap_i64]; omega
        obtain ⟨nn, hnn⟩ : ∃ nn : Int, fr + sw * (an : Int) = nn := ⟨_, rfl⟩
        have hx2 : IntKind.i64.wrap (fr + sw * (an : Int)) = nn := by rw [hnn, IntKind.wrap_i64]; omega
        have hnb : 0 ≤ nn ∧ nn ≤ 206400 := by omega
        have HN : Hid (atUpto h l row TL an 0 = (nn, nn)) := by
          unfold atUpto
          rw [Hid, getD_of Hx.out, ← hnn]; rfl
        clear hnn hre r2 hbb c4 HT3 b3
        go_wp2_with fail
        go_quiet (fail)
        clear r0 r1 hx1 hx2 hmu1 hmu2 x0 x1 x2 x3 x4 y0 y1
        obtain ⟨V5, hV5⟩ : ∃ V5, V4.drewN nq = V5 := ⟨_, rfl⟩
        have b5 : Below W.heap.size W V5 := by rw [← hV5]; exact bl_drewN b4 _
        have HT5 : Hid (Ints (fun b => V1.heap.size ≤ b) V5 T k TL) := by rw [Hid, ← hV5]; exact HT4.out.keep IntR.good (Keeps.drewN _ _)
        rw [hV5]
        clear hV5 HT4 b4
        go_wp2_with fail
        go_loopw [12, 13] (fun nv i wr => ∃ (j : Nat) (lo hi : Int), i = .int .i64 j ∧ nv = .int .i64 hi ∧ j ≤ k ∧ -(21300 * (j : Int)) ≤ lo ∧ lo ≤ hi ∧ hi ≤ 206400 ∧ Hid (atUpto h l row TL an j = (lo, hi)) ∧ Below V5.heap.size V5 wr) (fun _ i _ => k - (intOf i).toNat)
        case atStart => exact ⟨0, nn, nn, rfl, rfl, Nat.zero_le _, by omega, by omega, by omega, HN, Below.refl _ _⟩
        case round =>
          obtain ⟨j, lo, hi, rfl, rfl, hj, hl1, hl2, hl3, HA, hB⟩ := hrel
          have hBr := bl_call b5 hB (Nat.le_refl _)
          by_cases hlt : j < k
          · have hji : (j : Int) < k := by omega
            obtain ⟨bT, oT, x, rfl, hcell, Hxi⟩ := Ints.get (HT5.out.keep IntR.good (Keeps.below hB)) hlt
            obtain ⟨hx0, hxn⟩ := HTM.out x (List.mem_of_getElem? Hxi.out)
            obtain ⟨t, rfl⟩ := Int.eq_ofNat_of_zero_le hx0
            have htl : t < h.tiles.length := by rw [Hn.out]; omega
            obtain ⟨z1, z2, hv⟩ : ∃ z1 z2, wide8 h l t an = (z1, z2) := ⟨_, _, rfl⟩
            have hwb := wide8_bd HKK.out htl (agree_ne HEA.out htl) (a := (an : Int)) (by omega)
            rw [hv] at hwb
            dsimp only at hwb
            have HA1 : Hid (atUpto h l row TL an (j + 1) = (lo - z2, hi - z1)) := by rw [Hid, atUpto_succ Hxi.out, HA.out]; simp only [Int.toNat_natCast, hv]
            have HWD : Hid (∀ V, Below wr.heap.size wr V → Calls Try.prog 19 #[.agg #[.int .i64 alo, .int .i64 ahi, .int .i64 most, .slice A n ca, .slice (some ⟨b, off, none⟩) m cb], .slice C q cc, .int .i64 t, .int .i64 an] V fun e w' => e = .returned (.tuple #[.agg #[.int .i64 z1, .int .i64 z2], .int .i64 0]) ∧ Below V.heap.size V w') := fun V hb => by
              have hB2 := bl_call hBr hb (Nat.le_refl _)
              have := twidth_any (cb := cb) (cc := cc) (t : Int) (an : Int) V (HG.out.keep (Keeps.below hB2)) (HS.out.keep SeenR.good (Keeps.below hB2)) hca h1 h2 h3
              rw [width_ok HE1.out HEA.out htl (by omega) (by omega), hv] at this
              exact this
            have HCE := Lib.hid hcell
            have HBr := Lib.hid hBr
            have HHX := Lib.hid (HX.out.bl hBr)
            have HBB := Lib.hid hB
            clear hv hx0 hxn hcell hBr hB
            go_wp2_with fail
            have AS := Lib.hid (shE_stab wr.heap.size (.agg #[.int .i64 alo, .int .i64 ahi, .int .i64 most, .slice A n ca, .slice (some ⟨b, off, none⟩) m cb]) (.slice C q cc) (.slice (some ⟨bT, oT, none⟩) k cT) j bT oT t an z1 z2)
            refine wp_region_invs (fun ls vs ww => InvE wr.heap.size wr (shE wr.heap.size (.agg #[.int .i64 alo, .int .i64 ahi, .int .i64 most, .slice A n ca, .slice (some ⟨b, off, none⟩) m cb]) (.slice C q cc) (.slice (some ⟨bT, oT, none⟩) k cT) j bT oT t an z1 z2) 12 ls vs ww) 13 (by kernel_rfl) (by kernel_rfl) (by kernel_rfl) (by rfl) ⟨(Below.refl _ _).drew, fun i h => by cases h⟩ ?step (by rfl) (by rfl) ?fin
            case step =>
              refine StepsI.cons ?_ (StepsI.cons ?_ (StepsI.cons ?_ (StepsI.cons ?_ (StepsI.cons ?_ (StepsI.cons ?_ (StepsI.cons ?_ (StepsI.cons ?_ (StepsI.cons ?_ (StepsI.cons ?_ (StepsI.cons ?_ (StepsI.cons ?_ (StepsI.cons ?_ StepsI.nil))))))))))))
              all_goals
                refine StepI.of ?_
                intro ls vs W K hI hl hw hU hK
                simp only [fillA, Act.put, List.setIfInBounds_toArray, List.set_cons_zero, List.set_cons_succ, Nat.zero_add, Nat.reduceAdd] at hK ⊢
                simp [waits, Region.binds] at hw
                have hC := hI.1
              · have hR := HHX.out.bl hC
                have k0 := hR.cell 0
                have k1 := hR.cell 1
                have k2 := hR.cell 2
                have k3 := hR.cell 3
                have k4 := hR.cell 4
                go_simp
                exact hK _ _ (hI.step AS.out (Below.refl _ _) hC.size (by decide) rfl)
              · go_simp
                exact hK _ _ (hI.step AS.out (Below.refl _ _) hC.size (by decide) rfl)
              · go_simp
                exact hK _ _ (hI.step AS.out (Below.refl _ _) hC.size (by decide) rfl)
              · go_simp
                exact hK _ _ (hI.step AS.out (Below.refl _ _) hC.size (by decide) rfl)
              · have q2 : vs 2 = _ := hI.2 2 (by simp [hw])
                have q3 : vs 3 = _ := hI.2 3 (by simp [hw])
                simp only [q2, q3] at hK ⊢
                go_simp
                exact hK _ _ (hI.step AS.out (Below.refl _ _) hC.size (by decide) rfl)
              · have q4 : vs 4 = _ := hI.2 4 (by simp [hw])
                simp only [q4] at hK ⊢
                have k0 := getc hC HCE.out
                go_simp
                exact hK _ _ (hI.step AS.out (Below.refl _ _) hC.size (by decide) rfl)
              · go_simp
                exact hK _ _ (hI.step AS.out (Below.refl _ _) hC.size (by decide) rfl)
              · have q0 : vs 0 = _ := hI.2 0 (by simp [hw])
                have q1 : vs 1 = _ := hI.2 1 (by simp [hw])
                have q5 : vs 5 = _ := hI.2 5 (by simp [hw])
                have q6 : vs 6 = _ := hI.2 6 (by simp [hw])
                simp only [q0, q1, q5, q6] at hK ⊢
                go_simp
                refine (HWD.out W hC).mono ?_
                rintro e w' ⟨rfl, hb⟩
                exact hK _ _ (hI.step AS.out hb hC.size (by decide) rfl)
              · have q7 : vs 7 = _ := hI.2 7 (by simp [hw])
                simp only [q7] at hK ⊢
                go_simp
                exact hK _ _ (hI.step AS.out (Below.refl _ _) hC.size (by decide) rfl)
              · have q8 : vs 8 = _ := hI.2 8 (by simp [hw])
                simp only [q8] at hK ⊢
                go_simp
                exact hK _ _ (hI.step AS.out (Below.refl _ _) hC.size (by decide) rfl)
              · have q8 : vs 8 = _ := hI.2 8 (by simp [hw])
                simp only [q8] at hK ⊢
                go_simp
                exact hK _ _ (hI.step AS.out (Below.refl _ _) hC.size (by decide) rfl)
              · have h12 : ls 12 = false := (hU 12 _ rfl (by simp [waits, Region.binds])).1
                go_simp
                exact hK _ _ (hI.step AS.out (bl_alloc (Below.refl _ _) _ (Nat.le_refl _)) hC.size (by decide) ⟨_, hC.size, rfl, by rw [h12]; exact Blk.new _ _ _ rfl⟩)
              · have q9 : vs 9 = _ := hI.2 9 (by simp [hw])
                obtain ⟨g4, hg4, h4, hB4⟩ := hI.2 11 (by simp [hw])
                rw [hl] at hB4
                have z0 : W.cell? ⟨g4, 0, none⟩ = some (.int .i64 0) := hB4.cell 0
                have z1' : W.cell? ⟨g4, 1, none⟩ = some (.int .i64 0) := hB4.cell 1
                have fz0 := hB4.frozen 0
                have fz1 := hB4.frozen 1
                have hl4 := hB4.lt
                simp only [q9, h4] at hK ⊢
                go_simp
                refine hK undef _ ⟨bl_set (bl_set hC hg4 _) hg4 _, fun i hi => ?_⟩
                have hb12 : updB ls 12 12 = true := by unfold updB; rw [if_pos rfl]
                rw [hb12]
                match i, hi with
                | 0, hi => exact hI.2 0 hi
                | 1, hi => exact hI.2 1 hi
                | 2, hi => exact hI.2 2 hi
                | 3, hi => exact hI.2 3 hi
                | 4, hi => exact hI.2 4 hi
                | 5, hi => exact hI.2 5 hi
                | 6, hi => exact hI.2 6 hi
                | 7, hi => exact hI.2 7 hi
                | 8, hi => exact hI.2 8 hi
                | 9, hi => exact hI.2 9 hi
                | 10, hi => exact hI.2 10 hi
                | 11, _ => exact ⟨g4, hg4, h4, hB4.set2 _ _⟩
                | _ + 12, _ => trivial
            case fin =>
              intro ls vs W hI hl hU
              clear hU
              have hC := hI.1
              have e10 : vs 10 = .int .i64 0 := hI.2 10 (hl 10 (by decide))
              have e11 := hI.2 11 (hl 11 (by decide))
              have e12 := hl 12 (by decide)
              simp only [fillA, Act.put, List.setIfInBounds_toArray, List.set_cons_zero, List.set_cons_succ, Nat.zero_add, Nat.reduceAdd, e10]
              rw [e12] at e11
              obtain ⟨g4, hg4, h4, hB4⟩ := e11
              rw [h4]
              obtain ⟨u0, hu0⟩ : ∃ v0, vs 0 = v0 := ⟨_, rfl⟩
              obtain ⟨u1, hu1⟩ : ∃ v0, vs 1 = v0 := ⟨_, rfl⟩
              obtain ⟨u2, hu2⟩ : ∃ v0, vs 2 = v0 := ⟨_, rfl⟩
              obtain ⟨u3, hu3⟩ : ∃ v0, vs 3 = v0 := ⟨_, rfl⟩
              obtain ⟨u4, hu4⟩ : ∃ v0, vs 4 = v0 := ⟨_, rfl⟩
              obtain ⟨u5, hu5⟩ : ∃ v0, vs 5 = v0 := ⟨_, rfl⟩
              obtain ⟨u6, hu6⟩ : ∃ v0, vs 6 = v0 := ⟨_, rfl⟩
              obtain ⟨u7, hu7⟩ : ∃ v0, vs 7 = v0 := ⟨_, rfl⟩
              obtain ⟨u8, hu8⟩ : ∃ v0, vs 8 = v0 := ⟨_, rfl⟩
              obtain ⟨u9, hu9⟩ : ∃ v0, vs 9 = v0 := ⟨_, rfl⟩
              rw [hu0, hu1, hu2, hu3, hu4, hu5, hu6, hu7, hu8, hu9]
              clear hu0 hu1 hu2 hu3 hu4 hu5 hu6 hu7 hu8 hu9
              clear h4 hI hl AS e10 e12
              have hB5 : Blk W g4 23 #[.int .i64 z1, .int .i64 z2] := hB4
              have z0 := hB5.c0
              have z1' := hB5.c1
              have hws : IntKind.i64.wrap (hi - z1) = hi - z1 := by rw [IntKind.wrap_i64]; omega
              go_simp
              go_wp2_with fail
              go_roundw
              case rel => exact ⟨j + 1, lo - z2, hi - z1, by go_num, rfl, by omega, by omega, by omega, by omega, HA1, bl_call HBB.out hC (Nat.le_refl _)⟩
              case measure => simp [intOf]; omega
          · obtain rfl : j = k := by omega
            have HF : Hid (at8 h l row TL an = (lo, hi)) := by rw [Hid, at8, HKL.out, HA.out]
            have hpos : hi > most := by have := HBAD.out; rw [HF.out, h3] at this; exact this
            obtain ⟨x0, x1, x2, x3, x4, y0, y1⟩ := kk.out wr hBr
            clear HBAD
            go_wp2_with fail
            refine (awake_any wr).mono ?_
            rintro e V9 ⟨rfl, c9⟩
            go_wp2
            go_ret
            exact ⟨by rfl, bl_call HBW.out (bl_call hBr c9 (Nat.le_refl _)) (Nat.le_refl _)⟩

end Go.Proofs.Ytpbimgafafkjgaa
