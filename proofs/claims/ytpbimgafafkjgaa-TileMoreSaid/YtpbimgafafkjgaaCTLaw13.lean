/- Walks: the law TileMore. -/
import Derived.Test.YtpbimgafafkjgaaCTDryPs
import Derived.Test.YtpbimgafafkjgaaCTLaw2
import Derived.Test.YtpbimgafafkjgaaCTOuts1
import Derived.Test.YtpbimgafafkjgaaCTRegs
import Derived.Test.YtpbimgafafkjgaaCTTrus
set_option linter.unusedVariables false
set_option linter.unusedSimpArgs false
set_option linter.all false
namespace Go.Proofs.Ytpbimgafafkjgaa
open Go.RowKit

theorem pre_seen {h : Hall} {s : List Seen} {y : Seen} (el : (seen8 h (s ++ [y])).2 = 0) : (seen8 h s).2 = 0 := by
  obtain ⟨s1, s2, s3⟩ := seen_zero el
  rw [List.length_append] at s2 s3
  simp only [List.length_cons, List.length_nil] at s2 s3
  unfold seen8
  rw [if_neg (show ¬ err8 h ≠ 0 by unfold err8; rw [s1]; decide), if_neg (show ¬ 6 < s.length by omega)]
  rw [firstErr_none (fun k hk => ?_)]
  have := s3 k (by omega)
  unfold seenE at this ⊢
  have hg : (s ++ [y]).getD k dSeen = s.getD k dSeen := by
    rw [List.getD_eq_getElem?_getD, List.getD_eq_getElem?_getD, List.getElem?_append_left hk]
  rw [hg] at this
  exact this
/-- what the law compares -/
theorem more_pack {h : Hall} {s : List Seen} {y : Seen} {row it an : Nat} {tl : List Int} (e : (seen8 h (s ++ [y])).2 = 0) (ha : agree8 h (s ++ [y]) = true) (hr : row < h.rows.length) (hit : it < h.tiles.length) (han : an ≤ 40) (hal : h.alo ≤ h.ahi) (hT : tilesE h.tiles.length (h.rows.getD row dRow).places tl = 0) :
    (∃ a1 a2 b1 b2 c1 c2 e1 e2 : Int, width8 h s it an = ((a1, a2), 0) ∧ width8 h (s ++ [y]) it an = ((b1, b2), 0) ∧ gapR h s row tl = ((c1, c2), 0) ∧ gapR h (s ++ [y]) row tl = ((e1, e2), 0) ∧ a1 ≤ b1 ∧ b2 ≤ a2 ∧ c1 ≤ e1 ∧ e2 ≤ c2) ∧
    ((whyR h s row tl).2.2 = 0 ∧ (whyR h (s ++ [y]) row tl).2.2 = 0 ∧ ((whyR h s row tl).1 = 0 → (whyR h (s ++ [y]) row tl).1 = 0)) ∧
    ((layR h s).2.2 = 8 ∨ ((layR h s).2.2 = 0 ∧ (layR h (s ++ [y])).2.2 = 0 ∧ (layR h (s ++ [y])).2.1 ≤ (layR h s).2.1)) := by
  have es := pre_seen e
  have ag := sub_agree ha
  have A1 := asked_fine es hr hT ag
  have A2 := asked_fine e hr hT ha
  have hTm : ∀ i ∈ tl, 0 ≤ i ∧ i < h.tiles.length := (tilesE_zero hT).2.1
  refine ⟨⟨_, _, _, _, _, _, _, _, width_ok es ag hit (by omega) (by omega), width_ok e ha hit (by omega) (by omega), gapR_ok A1, gapR_ok A2, (sub_wide ha hit an).1, (sub_wide ha hit an).2, (sub_gap hal ha hTm).1, (sub_gap hal ha hTm).2⟩, ⟨(why_iff A1 hal).1, (why_iff A2 hal).1, fun hw => (why_iff A2 hal).2.2 fun b hb1 hb2 => ?_⟩, ?_⟩
  · have h1 := (why_iff A1 hal).2.1 hw b hb1 hb2
    have h2 := sub_at (l := s) (row := row) ha hTm b
    unfold fits8 at h1 ⊢
    omega
  · have E1 : hallE h s = 0 := hallE_ok es ag
    have E2 : hallE h (s ++ [y]) = 0 := hallE_ok e ha
    unfold layR
    rw [if_neg (by rw [E1]; decide), if_neg (by rw [E2]; decide)]
    cases hb : bestR h s h.rows.length (numbersL h.tiles.length) 0 with
    | none => exact .inl rfl
    | some r =>
      obtain ⟨r', hr', hle⟩ := sub_best hal ha hb
      rw [hr']
      exact .inr ⟨rfl, rfl, hle⟩

/-- new widths and swells, and new tiles that are seen, as values -/
def NewTwosV (B : Nat) (T : List (Int × Int)) (v : Value) (W : World) : Prop := ∃ (A : Option Addr) (c : Nat), v = .slice A T.length c ∧ TwosAt (fun k => B ≤ k) W A T.length T
theorem NewTwosV.bl {B : Nat} {T : List (Int × Int)} {v : Value} {W V : World} (h : NewTwosV B T v W) (hb : Below W.heap.size W V) : NewTwosV B T v V := by
  obtain ⟨A, c, h1, h2⟩ := h
  exact ⟨A, c, h1, h2.keep TwoR.good (Keeps.below hb)⟩
def NewSeensV (B : Nat) (L : List Seen) (v : Value) (W : World) : Prop := ∃ (A : Option Addr) (c : Nat), v = .slice A L.length c ∧ Seens (fun k => B ≤ k) W A L.length L ∧ L.length ≤ c
theorem NewSeensV.bl {B : Nat} {L : List Seen} {v : Value} {W V : World} (h : NewSeensV B L v W) (hb : Below W.heap.size W V) : NewSeensV B L v V := by
  obtain ⟨A, c, h1, h2, h3⟩ := h
  exact ⟨A, c, h1, h2.keep SeenR.good (Keeps.below hb), h3⟩

set_option maxRecDepth 100000 in
set_option maxHeartbeats 8000000 in
theorem moreLaw_any {A B XA XB : Option Addr} {n ca m cb xn xc xm xd : Nat} {h : Hall} {xs ys : List Nat} {alo ahi most : Int} (d0 d1 d2 : Nat) (hd0 : d0 < 256) (hd1 : d1 < 256) (hd2 : d2 < 256) (w : World) (g : HallAt (fun _ => True) w A n B m h) (gx : Bytes (fun _ => True) w XA xn xs) (gy : Bytes (fun _ => True) w XB xm ys) (hca : n ≤ ca) (h1 : h.alo = alo) (h2 : h.ahi = ahi) (h3 : h.most = most) :
    Calls Try.prog 13 #[.agg #[.int .i64 alo, .int .i64 ahi, .int .i64 most, .slice A n ca, .slice B m cb], .agg #[.slice XA xn xc, .slice XB xm xd], .agg #[.int .u8 d0, .int .u8 d1, .int .u8 d2]] w fun e w' => e = .returned (.bool true) ∧ Below w.heap.size w w' := by
  have Hm := Lib.hid g.rs.len
  have Hn := Lib.hid g.ts.len
  obtain ⟨W0, hW⟩ : ∃ W, ((w.alloc (.cells #[.int .i64 alo, .int .i64 ahi, .int .i64 most, .slice A n ca, .slice B m cb] 27)).alloc (.cells #[.slice XA xn xc, .slice XB xm xd] 58)).alloc (.cells #[.int .u8 d0, .int .u8 d1, .int .u8 d2] 70) = W := ⟨_, rfl⟩
  obtain ⟨g0, hg0⟩ : ∃ g0, w.heap.size = g0 := ⟨_, rfl⟩
  have X : Blk W0 g0 27 #[.int .i64 alo, .int .i64 ahi, .int .i64 most, .slice A n ca, .slice B m cb] := by rw [← hW, ← hg0]; exact ((Blk.new _ _ _ rfl).alloc _).alloc _
  have Y : Blk W0 (g0 + 1) 58 #[.slice XA xn xc, .slice XB xm xd] := by rw [← hW, ← hg0]; exact (Blk.new _ _ _ (by simp)).alloc _
  have Z : Blk W0 (g0 + 1 + 1) 70 #[.int .u8 d0, .int .u8 d1, .int .u8 d2] := by rw [← hW, ← hg0]; exact Blk.new _ _ _ (by simp)
  have HBW : Hid (Below w.heap.size w W0) := by rw [Hid, ← hW]; exact bl_alloc (bl_alloc (bl_alloc (Below.refl _ _) _ (Nat.le_refl _)) _ (Nat.le_refl _)) _ (Nat.le_refl _)
  have HG := Lib.hid (g.keep (Keeps.below HBW.out))
  have HX := Lib.hid (gx.keep ByteR.good (Keeps.below HBW.out))
  have HY := Lib.hid (gy.keep ByteR.good (Keeps.below HBW.out))
  have kk : Hid (∀ V, Below W0.heap.size W0 V → V.cell? ⟨g0, 0, none⟩ = some (.int .i64 alo) ∧ V.cell? ⟨g0, 1, none⟩ = some (.int .i64 ahi) ∧ V.cell? ⟨g0, 2, none⟩ = some (.int .i64 most) ∧ V.cell? ⟨g0, 3, none⟩ = some (.slice A n ca) ∧ V.cell? ⟨g0, 4, none⟩ = some (.slice B m cb) ∧ V.cell? ⟨g0 + 1, 0, none⟩ = some (.slice XA xn xc) ∧ V.cell? ⟨g0 + 1, 1, none⟩ = some (.slice XB xm xd) ∧ V.cell? ⟨g0 + 1 + 1, 0, none⟩ = some (.int .u8 d0) ∧ V.cell? ⟨g0 + 1 + 1, 1, none⟩ = some (.int .u8 d1) ∧ V.cell? ⟨g0 + 1 + 1, 2, none⟩ = some (.int .u8 d2)) :=
    fun V hb => ⟨(X.bl hb).cell 0, (X.bl hb).cell 1, (X.bl hb).cell 2, (X.bl hb).cell 3, (X.bl hb).cell 4, (Y.bl hb).cell 0, (Y.bl hb).cell 1, (Z.bl hb).cell 0, (Z.bl hb).cell 1, (Z.bl hb).cell 2⟩
  clear X Y Z g gx gy
  obtain ⟨x0, x1, x2, x3, x4, p0, p1, y0, y1, y2⟩ := kk.out W0 (Below.refl _ _)
  go_enter Try.func13, Try.ntmps13
  go_wp2_with fail
  clear hW
  clear x0 x1 x2 x3 x4 p0 p1 y0 y1 y2
  refine (valid_any W0 HG.out h1 h2 h3).mono ?_
  rintro e V1 ⟨rfl, b1⟩
  obtain ⟨vb, hvb⟩ : ∃ vb, decide ((check8 h).2.2 = 0) = vb := ⟨_, rfl⟩
  rw [hvb]
  cases vb with
  | false =>
    clear hvb
    go_wp2_with fail
    refine (awake_any V1).mono ?_
    rintro e Vz ⟨rfl, cz⟩
    go_wp2
    go_ret
    exact ⟨by rfl, bl_call HBW.out (bl_call b1 cz (Nat.le_refl _)) (Nat.le_refl _)⟩
  | true =>
    have HCK : Hid ((check8 h).2.2 = 0) := by rw [Hid]; simpa using hvb
    have HKK : Hid (OkH h) := okH_of HCK.out
    clear hvb
    have hm1 : 1 ≤ m ∧ m ≤ 3 := by have := HKK.out.nr; rw [Hm.out] at this; exact this
    have hn1 : 1 ≤ n ∧ n ≤ 8 := by have := HKK.out.nt; rw [Hn.out] at this; exact this
    have HTL : Hid ((anyL h xs).length = n) := by rw [Hid, anyL_len, Hn.out]
    have HBD := Lib.hid (any_bd (xs := xs) HKK.out)
    have HSE : Hid ((seen8 h (toldL (anyL h xs) ys)).2 = 0) := told_seen HCK.out
    have HAG : Hid (agree8 h (toldL (anyL h xs) ys) = true) := told_agree HCK.out
    have HL6 := Lib.hid (told_len (anyL h xs) ys)
    go_wp2_with fail
    refine wp_region_list (fun W => Below V1.heap.size V1 W) (fun w w' => Below w.heap.size w w')
      [isV (.agg #[.int .i64 alo, .int .i64 ahi, .int .i64 most, .slice A n ca, .slice B m cb]), isV (.agg #[.int .i64 alo, .int .i64 ahi, .int .i64 most, .slice A n ca, .slice B m cb]), isV (.pointer (some ⟨g0 + 1, 0, none⟩)), isV (.slice XA xn xc), NewTwosV V1.heap.size (anyL h xs), isV (.pointer (some ⟨g0 + 1, 1, none⟩)), isV (.slice XB xm xd), NewSeensV V1.heap.size (toldL (anyL h xs) ys)]
      (by kernel_rfl) (by kernel_rfl) (by kernel_rfl) (by simp) (by simp) (Below.refl _ _).drew ?stab ?step ?fin
    case stab => exact (StabL.is (StabL.is (StabL.is (StabL.is (StabL.cons (fun v W V hC hX hq => NewTwosV.bl hq hX) (StabL.is (StabL.is (StabL.cons (fun v W V hC hX hq => NewSeensV.bl hq hX) StabL.nil))))))))
    case step =>
      refine StepsL.is ?_ (StepsL.is ?_ (StepsL.is ?_ (StepsL.is ?_ (StepsL.cons ?_ (StepsL.is ?_ (StepsL.is ?_ (StepsL.cons ?_ StepsL.nil)))))))
      all_goals
        intro vs W K hC hD hU hK
        simp only [fillA, Act.put, List.setIfInBounds_toArray, List.set_cons_zero, List.set_cons_succ, Nat.zero_add, Nat.reduceAdd] at hK ⊢
        simp [waits, Region.binds] at hD
        try simp only [envOf, List.getD_cons_succ, List.getD_cons_zero, isV] at hD
        try simp only [hD] at hK ⊢
      · obtain ⟨x0, x1, x2, x3, x4, p0, p1, y0, y1, y2⟩ := kk.out W (bl_call b1 hC (Nat.le_refl _))
        go_simp; exact hK _ hC (Below.refl _ _)
      · obtain ⟨x0, x1, x2, x3, x4, p0, p1, y0, y1, y2⟩ := kk.out W (bl_call b1 hC (Nat.le_refl _))
        go_simp; exact hK _ hC (Below.refl _ _)
      · go_simp; exact hK _ hC (Below.refl _ _)
      · obtain ⟨x0, x1, x2, x3, x4, p0, p1, y0, y1, y2⟩ := kk.out W (bl_call b1 hC (Nat.le_refl _))
        go_simp; exact hK _ hC (Below.refl _ _)
      · go_simp
        refine (any_any (cb := cb) W (HG.out.keep (Keeps.below (bl_call b1 hC (Nat.le_refl _)))) (HX.out.keep ByteR.good (Keeps.below (bl_call b1 hC (Nat.le_refl _)))) rfl rfl rfl rfl HKK.out).mono ?_
        rintro e w' ⟨⟨A', c', rfl, hT, _⟩, hb⟩
        exact hK _ _ (bl_call hC hb (Nat.le_refl _)) hb ⟨A', c', rfl, hT.mono TwoR.good fun k hk => Nat.le_trans hC.size hk⟩
      · go_simp; exact hK _ hC (Below.refl _ _)
      · obtain ⟨x0, x1, x2, x3, x4, p0, p1, y0, y1, y2⟩ := kk.out W (bl_call b1 hC (Nat.le_refl _))
        go_simp; exact hK _ hC (Below.refl _ _)
      · obtain ⟨q0, ⟨A4, c4, q4, hT4⟩, q6⟩ := hD
        simp only [q0, q4, q6] at hK ⊢
        go_simp
        refine (told_any W (HY.out.keep ByteR.good (Keeps.below (bl_call b1 hC (Nat.le_refl _)))) hT4 rfl rfl rfl rfl rfl (by rw [HTL.out]; omega) (by rw [HTL.out]; omega) HBD.out).mono ?_
        rintro e w' ⟨⟨A', c', rfl, hS, hc'⟩, hb⟩
        exact hK _ _ (bl_call hC hb (Nat.le_refl _)) hb ⟨A', c', rfl, hS.mono SeenR.good (fun k hk => Nat.le_trans hC.size hk), hc'⟩
    case fin =>
      intro vs W hC hE hU
      have e7 : NewSeensV V1.heap.size (toldL (anyL h xs) ys) (vs 7) W := hE 7 (by simp)
      simp only [fillA, Act.put, List.setIfInBounds_toArray, List.set_cons_zero, List.set_cons_succ, Nat.zero_add, Nat.reduceAdd]
      obtain ⟨LA, lc, e7, hS, hlc⟩ := e7
      rw [e7]
      obtain ⟨u0, hu0⟩ : ∃ v0, vs 0 = v0 := ⟨_, rfl⟩
      obtain ⟨u1, hu1⟩ : ∃ v0, vs 1 = v0 := ⟨_, rfl⟩
      obtain ⟨u2, hu2⟩ : ∃ v0, vs 2 = v0 := ⟨_, rfl⟩
      obtain ⟨u3, hu3⟩ : ∃ v0, vs 3 = v0 := ⟨_, rfl⟩
      obtain ⟨u4, hu4⟩ : ∃ v0, vs 4 = v0 := ⟨_, rfl⟩
      obtain ⟨u5, hu5⟩ : ∃ v0, vs 5 = v0 := ⟨_, rfl⟩
      obtain ⟨u6, hu6⟩ : ∃ v0, vs 6 = v0 := ⟨_, rfl⟩
      rw [hu0, hu1, hu2, hu3, hu4, hu5, hu6]
      clear hu0 hu1 hu2 hu3 hu4 hu5 hu6
      clear hE hU e7
      obtain ⟨U1, hU1⟩ : ∃ V, V = W := ⟨_, rfl⟩
      subst hU1
      have b2 := bl_call b1 hC (Nat.le_refl _)
      clear hC b1
      obtain ⟨L0, hL0⟩ : ∃ x, toldL (anyL h xs) ys = x := ⟨_, rfl⟩
      rw [hL0] at HSE HAG HL6 hS hlc ⊢
      clear hL0 HBD HTL
      obtain ⟨ln, hln⟩ : ∃ k, L0.length = k := ⟨_, rfl⟩
      have hl6 : ln ≤ 6 := by rw [← hln]; exact HL6.out
      rw [hln] at hS hlc ⊢
      have HLN := Lib.hid hln
      clear hln HL6
      rcases Nat.eq_zero_or_pos ln with hz | hz
      · subst hz
        go_simp
        go_wp2_with fail
        refine (awake_any U1).mono ?_
        rintro e Vz ⟨rfl, cz⟩
        go_wp2
        go_ret
        exact ⟨by rfl, bl_call HBW.out (bl_call b2 cz (Nat.le_refl _)) (Nat.le_refl _)⟩
      · obtain ⟨k, rfl⟩ : ∃ k, ln = k + 1 := ⟨ln - 1, by omega⟩
        obtain ⟨lb, lo, hA⟩ : ∃ lb lo, LA = some ⟨lb, lo, none⟩ := by
          obtain ⟨lb, lo, vs0, hA, _⟩ := hS.2.2 0 (L0[0]'(by rw [HLN.out]; omega)) (List.getElem?_eq_getElem _)
          exact ⟨lb, lo, hA⟩
        subst hA
        have hs9 := SliceOf.take hS (Nat.le_succ k)
        obtain ⟨s, y, hsy⟩ : ∃ s y, L0 = s ++ [y] ∧ L0.take k = s := ⟨L0.take k, L0[k]'(by rw [HLN.out]; omega), by rw [List.take_append_getElem]; rw [← HLN.out, List.take_length], rfl⟩
        obtain ⟨hsy, hst⟩ := hsy
        rw [hst] at hs9
        subst hsy
        clear hst HLN
        have HS := Lib.hid hS
        have HSs := Lib.hid hs9
        clear hS hs9
        obtain ⟨row, hrow⟩ : ∃ r, d0 % m = r := ⟨_, rfl⟩
        have hrm : row < m := by rw [← hrow]; exact Nat.mod_lt _ (by omega)
        have hmod : ((d0 : Int)).tmod (m : Int) = (row : Int) := by rw [Int.tmod_eq_emod_of_nonneg (by omega), ← hrow]; rfl
        obtain ⟨an, han⟩ : ∃ r, d2 % 41 = r := ⟨_, rfl⟩
        have han41 : an < 41 := by rw [← han]; exact Nat.mod_lt _ (by decide)
        have hmod2 : ((d2 : Int)).tmod 41 = (an : Int) := by rw [Int.tmod_eq_emod_of_nonneg (by omega), ← han]; rfl
        obtain ⟨it, hit⟩ : ∃ r, d2 % n = r := ⟨_, rfl⟩
        have hitn : it < n := by rw [← hit]; exact Nat.mod_lt _ (by omega)
        have hmod3 : ((d2 : Int)).tmod (n : Int) = (it : Int) := by rw [Int.tmod_eq_emod_of_nonneg (by omega), ← hit]; rfl
        have hcv0 : IntKind.i64.wrap (d0 : Int) = d0 := by rw [IntKind.wrap_i64]; omega
        have hcv2 : IntKind.i64.wrap (d2 : Int) = d2 := by rw [IntKind.wrap_i64]; omega
        have hmz : ¬ (m : Int) = 0 := by omega
        have hmz2 : ((m : Int) == 0) = false := by simp; omega
        have hnz : ¬ (n : Int) = 0 := by omega
        have hnz2 : ((n : Int) == 0) = false := by simp; omega
        clear hrow han hit
        have hrl : row < h.rows.length := by rw [Hm.out]; exact hrm
        have hitl : it < h.tiles.length := by rw [Hn.out]; exact hitn
        have hkw : IntKind.i64.wrap (((k + 1 : Nat) : Int) - 1) = (k : Int) := by rw [IntKind.wrap_i64]; omega
        have hkw2 : IntKind.i64.wrap ((k : Int) + 1 - 1) = (k : Int) := by rw [IntKind.wrap_i64]; omega
        have hkp : ((k + 1 : Nat) : Int) = (k : Int) + 1 := by omega
        have hkz : ((k : Int) + 1 == 0) = false := by simp; omega
        have hkn : ¬ (k : Int) < 0 := by omega
        have hkc : (k : Int) ≤ lc := by omega
        go_simp
        go_wp2_with fail
        obtain ⟨_, _, _, x3, x4, _, _, y0, _, y2⟩ := kk.out U1 b2
        go_quiet (fail)
        clear x3 x4 y0 y2
        obtain ⟨U2, hU2⟩ : ∃ V, U1.drewN nq = V := ⟨_, rfl⟩
        have b3 : Below W0.heap.size W0 U2 := by rw [← hU2]; exact bl_drewN b2 _
        have HSb : Hid (Seens (fun k => V1.heap.size ≤ k) U2 (some ⟨lb, lo, none⟩) (k + 1) (s ++ [y])) := by rw [Hid, ← hU2]; exact HS.out.keep SeenR.good (Keeps.drewN _ _)
        have HSsb : Hid (Seens (fun k => V1.heap.size ≤ k) U2 (some ⟨lb, lo, none⟩) k s) := by rw [Hid, ← hU2]; exact HSs.out.keep SeenR.good (Keeps.drewN _ _)
        rw [hU2]
        clear hU2 HS HSs b2
        obtain ⟨x0, x1, x2, x3, x4, _, _, _, y1, _⟩ := kk.out U2 b3
        go_wp2_with fail
        clear x0 x1 x2 x3 x4 y1
        refine (chosen_any (v1 := .int .i64 alo) (v2 := .int .i64 ahi) (v3 := .int .i64 most) U2 (HG.out.keep (Keeps.below b3)) rfl rfl rfl HKK.out hrm hd1).mono ?_
        rintro e U3 ⟨⟨T, cT, rfl, hT, hcT⟩, c3⟩
        obtain ⟨TL, hTL⟩ : ∃ TL, choK n (rowP h row) d1 n = TL := ⟨_, rfl⟩
        have HTE : Hid (tilesE h.tiles.length (h.rows.getD row dRow).places TL = 0) := by
          have := cho_at HKK.out (row := row) (bits := d1) (by rw [Hm.out]; exact hrm) hd1
          rwa [Hn.out, hTL, ← Hn.out] at this
        rw [hTL] at hT hcT ⊢
        clear hTL
        obtain ⟨tk, hk⟩ : ∃ k, TL.length = k := ⟨_, rfl⟩
        rw [hk] at hT hcT ⊢
        clear hk
        obtain ⟨⟨a1, a2, b1, b2, c1, c2, e1, e2, hp1, hp2, hp3, hp4, hq1, hq2, hq3, hq4⟩, ⟨hy1, hy2, hy3⟩, hly⟩ := more_pack (row := row) (it := it) (an := an) (tl := TL) HSE.out HAG.out hrl hitl (by omega) HKK.out.air.2.1 HTE.out
        have HP1 := Lib.hid hp1
        have HP2 := Lib.hid hp2
        have HP3 := Lib.hid hp3
        have HP4 := Lib.hid hp4
        have HY1 := Lib.hid hy1
        have HY2 := Lib.hid hy2
        have HY3 := Lib.hid hy3
        have HLY := Lib.hid hly
        clear hp1 hp2 hp3 hp4 hy1 hy2 hy3 hly
        have r1 : decide (b1 < a1) = false := decide_eq_false (by omega)
        have r2 : decide (a2 < b2) = false := decide_eq_false (by omega)
        have r3 : decide (e1 < c1) = false := decide_eq_false (by omega)
        have r4 : decide (c2 < e2) = false := decide_eq_false (by omega)
        clear hq1 hq2 hq3 hq4
        have b4 := bl_call b3 c3 (Nat.le_refl _)
        have HSc := Lib.hid (HSb.out.keep SeenR.good (Keeps.below c3))
        have HSsc := Lib.hid (HSsb.out.keep SeenR.good (Keeps.below c3))
        have HT := Lib.hid hT
        clear hT b3 HSb HSsb c3 hmod hmod2
        obtain ⟨x0, x1, x2, x3, x4, _, _, _, _, y2⟩ := kk.out U3 b4
        go_wp2_with fail
        clear x0 x1 x2 x3 x4 y2
        clear hmod3 hcv0 hcv2 hmz hmz2 hnz hnz2 hkw hkw2
        refine (twidth_any (cb := cb) (cc := lc) (it : Int) (an : Int) U3 (HG.out.keep (Keeps.below b4)) (HSsc.out.mono SeenR.good (fun _ _ => trivial)) hca h1 h2 h3).mono ?_
        rintro e X1 ⟨rfl, c1x⟩
        rw [HP1.out]
        dsimp only
        have HS_x1 := Lib.hid (HSc.out.keep SeenR.good (Keeps.below c1x))
        have HSs_x1 := Lib.hid (HSsc.out.keep SeenR.good (Keeps.below c1x))
        have HT_x1 := Lib.hid (HT.out.keep IntR.good (Keeps.below c1x))
        have b_x1 := bl_call b4 c1x (Nat.le_refl _)
        clear HSc HSsc HT b4
        obtain ⟨g13, hg13⟩ : ∃ g, X1.heap.size = g := ⟨_, rfl⟩
        obtain ⟨X2, hX2⟩ : ∃ U, X1.alloc (.cells #[.int .i64 a1, .int .i64 a2] 23) = U := ⟨_, rfl⟩
        have Sg13_n : Blk X2 g13 23 #[.int .i64 a1, .int .i64 a2] := by rw [← hX2]; exact Blk.new _ _ _ hg13.symm
        have HS_x2 := Lib.hid (HS_x1.out.keep SeenR.good (Keeps.alloc _ (.cells #[.int .i64 a1, .int .i64 a2] 23)))
        have HSs_x2 := Lib.hid (HSs_x1.out.keep SeenR.good (Keeps.alloc _ (.cells #[.int .i64 a1, .int .i64 a2] 23)))
        have HT_x2 := Lib.hid (HT_x1.out.keep IntR.good (Keeps.alloc _ (.cells #[.int .i64 a1, .int .i64 a2] 23)))
        have b_x2 := bl_alloc b_x1 (.cells #[.int .i64 a1, .int .i64 a2] 23) (Nat.le_refl _)
        clear HS_x1 HSs_x1 HT_x1 b_x1
        rw [hX2] at HS_x2 HSs_x2 HT_x2 b_x2
        obtain ⟨x0, x1, x2, x3, x4, _, _, _, _, _⟩ := kk.out X2 b_x2
        go_wp2_with fail
        clear x0 x1 x2 x3 x4
        clear hX2 hg13 c1x
        refine (twidth_any (cb := cb) (cc := lc) (it : Int) (an : Int) X2 (HG.out.keep (Keeps.below b_x2)) (HS_x2.out.mono SeenR.good (fun _ _ => trivial)) hca h1 h2 h3).mono ?_
        rintro e X3 ⟨rfl, c3x⟩
        rw [HP2.out]
        dsimp only
        have Sg13_x3 := Sg13_n.bl c3x
        have HS_x3 := Lib.hid (HS_x2.out.keep SeenR.good (Keeps.below c3x))
        have HSs_x3 := Lib.hid (HSs_x2.out.keep SeenR.good (Keeps.below c3x))
        have HT_x3 := Lib.hid (HT_x2.out.keep IntR.good (Keeps.below c3x))
        have b_x3 := bl_call b_x2 c3x (Nat.le_refl _)
        clear Sg13_n HS_x2 HSs_x2 HT_x2 b_x2
        obtain ⟨g15, hg15⟩ : ∃ g, X3.heap.size = g := ⟨_, rfl⟩
        obtain ⟨X4, hX4⟩ : ∃ U, X3.alloc (.cells #[.int .i64 b1, .int .i64 b2] 23) = U := ⟨_, rfl⟩
        have Sg15_n : Blk X4 g15 23 #[.int .i64 b1, .int .i64 b2] := by rw [← hX4]; exact Blk.new _ _ _ hg15.symm
        have Sg13_x4 := Sg13_x3.alloc (.cells #[.int .i64 b1, .int .i64 b2] 23)
        have HS_x4 := Lib.hid (HS_x3.out.keep SeenR.good (Keeps.alloc _ (.cells #[.int .i64 b1, .int .i64 b2] 23)))
        have HSs_x4 := Lib.hid (HSs_x3.out.keep SeenR.good (Keeps.alloc _ (.cells #[.int .i64 b1, .int .i64 b2] 23)))
        have HT_x4 := Lib.hid (HT_x3.out.keep IntR.good (Keeps.alloc _ (.cells #[.int .i64 b1, .int .i64 b2] 23)))
        have b_x4 := bl_alloc b_x3 (.cells #[.int .i64 b1, .int .i64 b2] 23) (Nat.le_refl _)
        clear Sg13_x3 HS_x3 HSs_x3 HT_x3 b_x3
        rw [hX4] at Sg13_x4 HS_x4 HSs_x4 HT_x4 b_x4
        obtain ⟨x0, x1, x2, x3, x4, _, _, _, _, _⟩ := kk.out X4 b_x4
        go_wp2_with fail
        clear x0 x1 x2 x3 x4
        clear hX4 hg15 c3x
        refine (tgap_any row X4 (HG.out.keep (Keeps.below b_x4)) (HSs_x4.out.mono SeenR.good (fun _ _ => trivial)) HT_x4.out hca h1 h2 h3).mono ?_
        rintro e X5 ⟨rfl, c5x⟩
        rw [HP3.out]
        dsimp only
        have Sg13_x5 := Sg13_x4.bl c5x
        have Sg15_x5 := Sg15_n.bl c5x
        have HS_x5 := Lib.hid (HS_x4.out.keep SeenR.good (Keeps.below c5x))
        have HSs_x5 := Lib.hid (HSs_x4.out.keep SeenR.good (Keeps.below c5x))
        have HT_x5 := Lib.hid (HT_x4.out.keep IntR.good (Keeps.below c5x))
        have b_x5 := bl_call b_x4 c5x (Nat.le_refl _)
        clear Sg13_x4 Sg15_n HS_x4 HSs_x4 HT_x4 b_x4
        obtain ⟨g17, hg17⟩ : ∃ g, X5.heap.size = g := ⟨_, rfl⟩
        obtain ⟨X6, hX6⟩ : ∃ U, X5.alloc (.cells #[.int .i64 c1, .int .i64 c2] 23) = U := ⟨_, rfl⟩
        have Sg17_n : Blk X6 g17 23 #[.int .i64 c1, .int .i64 c2] := by rw [← hX6]; exact Blk.new _ _ _ hg17.symm
        have Sg13_x6 := Sg13_x5.alloc (.cells #[.int .i64 c1, .int .i64 c2] 23)
        have Sg15_x6 := Sg15_x5.alloc (.cells #[.int .i64 c1, .int .i64 c2] 23)
        have HS_x6 := Lib.hid (HS_x5.out.keep SeenR.good (Keeps.alloc _ (.cells #[.int .i64 c1, .int .i64 c2] 23)))
        have HSs_x6 := Lib.hid (HSs_x5.out.keep SeenR.good (Keeps.alloc _ (.cells #[.int .i64 c1, .int .i64 c2] 23)))
        have HT_x6 := Lib.hid (HT_x5.out.keep IntR.good (Keeps.alloc _ (.cells #[.int .i64 c1, .int .i64 c2] 23)))
        have b_x6 := bl_alloc b_x5 (.cells #[.int .i64 c1, .int .i64 c2] 23) (Nat.le_refl _)
        clear Sg13_x5 Sg15_x5 HS_x5 HSs_x5 HT_x5 b_x5
        rw [hX6] at Sg13_x6 Sg15_x6 HS_x6 HSs_x6 HT_x6 b_x6
        obtain ⟨x0, x1, x2, x3, x4, _, _, _, _, _⟩ := kk.out X6 b_x6
        go_wp2_with fail
        clear x0 x1 x2 x3 x4
        clear hX6 hg17 c5x
        refine (tgap_any row X6 (HG.out.keep (Keeps.below b_x6)) (HS_x6.out.mono SeenR.good (fun _ _ => trivial)) HT_x6.out hca h1 h2 h3).mono ?_
        rintro e X7 ⟨rfl, c7x⟩
        rw [HP4.out]
        dsimp only
        have Sg13_x7 := Sg13_x6.bl c7x
        have Sg15_x7 := Sg15_x6.bl c7x
        have Sg17_x7 := Sg17_n.bl c7x
        have HS_x7 := Lib.hid (HS_x6.out.keep SeenR.good (Keeps.below c7x))
        have HSs_x7 := Lib.hid (HSs_x6.out.keep SeenR.good (Keeps.below c7x))
        have HT_x7 := Lib.hid (HT_x6.out.keep IntR.good (Keeps.below c7x))
        have b_x7 := bl_call b_x6 c7x (Nat.le_refl _)
        clear Sg13_x6 Sg15_x6 Sg17_n HS_x6 HSs_x6 HT_x6 b_x6
        obtain ⟨g19, hg19⟩ : ∃ g, X7.heap.size = g := ⟨_, rfl⟩
        obtain ⟨X8, hX8⟩ : ∃ U, X7.alloc (.cells #[.int .i64 e1, .int .i64 e2] 23) = U := ⟨_, rfl⟩
        have Sg19_n : Blk X8 g19 23 #[.int .i64 e1, .int .i64 e2] := by rw [← hX8]; exact Blk.new _ _ _ hg19.symm
        have Sg13_x8 := Sg13_x7.alloc (.cells #[.int .i64 e1, .int .i64 e2] 23)
        have Sg15_x8 := Sg15_x7.alloc (.cells #[.int .i64 e1, .int .i64 e2] 23)
        have Sg17_x8 := Sg17_x7.alloc (.cells #[.int .i64 e1, .int .i64 e2] 23)
        have HS_x8 := Lib.hid (HS_x7.out.keep SeenR.good (Keeps.alloc _ (.cells #[.int .i64 e1, .int .i64 e2] 23)))
        have HSs_x8 := Lib.hid (HSs_x7.out.keep SeenR.good (Keeps.alloc _ (.cells #[.int .i64 e1, .int .i64 e2] 23)))
        have HT_x8 := Lib.hid (HT_x7.out.keep IntR.good (Keeps.alloc _ (.cells #[.int .i64 e1, .int .i64 e2] 23)))
        have b_x8 := bl_alloc b_x7 (.cells #[.int .i64 e1, .int .i64 e2] 23) (Nat.le_refl _)
        clear Sg13_x7 Sg15_x7 Sg17_x7 HS_x7 HSs_x7 HT_x7 b_x7
        rw [hX8] at Sg13_x8 Sg15_x8 Sg17_x8 HS_x8 HSs_x8 HT_x8 b_x8
        obtain ⟨x0, x1, x2, x3, x4, _, _, _, _, _⟩ := kk.out X8 b_x8
        have g130 := Sg13_x8.c0
        have g150 := Sg15_x8.c0
        have g170 := Sg17_x8.c0
        have g190 := Sg19_n.c0
        have g131 := Sg13_x8.c1
        have g151 := Sg15_x8.c1
        have g171 := Sg17_x8.c1
        have g191 := Sg19_n.c1
        go_wp2_with fail
        clear x0 x1 x2 x3 x4
        clear hX8 hg19 c7x r1 r2 r3 r4 g130 g131 g150 g151 g170 g171 g190 g191 Sg13_x8 Sg15_x8 Sg17_x8 Sg19_n
        refine (twhy_any row X8 (HG.out.keep (Keeps.below b_x8)) (HSs_x8.out.mono SeenR.good (fun _ _ => trivial)) HT_x8.out hca h1 h2 h3).mono ?_
        rintro e X9 ⟨rfl, c9x⟩
        rw [HY1.out]
        obtain ⟨w1, hw1⟩ : ∃ x, (whyR h s row TL).1 = x := ⟨_, rfl⟩
        rw [hw1]
        generalize (whyR h s row TL).2.1 = w2
        have HW1 := Lib.hid hw1
        clear hw1
        have HS_x9 := Lib.hid (HS_x8.out.keep SeenR.good (Keeps.below c9x))
        have HSs_x9 := Lib.hid (HSs_x8.out.keep SeenR.good (Keeps.below c9x))
        have HT_x9 := Lib.hid (HT_x8.out.keep IntR.good (Keeps.below c9x))
        have b_x9 := bl_call b_x8 c9x (Nat.le_refl _)
        clear HS_x8 HSs_x8 HT_x8 b_x8
        obtain ⟨x0, x1, x2, x3, x4, _, _, _, _, _⟩ := kk.out X9 b_x9
        go_wp2_with fail
        clear x0 x1 x2 x3 x4
        clear c9x
        refine (twhy_any row X9 (HG.out.keep (Keeps.below b_x9)) (HS_x9.out.mono SeenR.good (fun _ _ => trivial)) HT_x9.out hca h1 h2 h3).mono ?_
        rintro e Xa ⟨rfl, cax⟩
        rw [HY2.out]
        obtain ⟨q1, hq1⟩ : ∃ x, (whyR h (s ++ [y]) row TL).1 = x := ⟨_, rfl⟩
        rw [hq1]
        generalize (whyR h (s ++ [y]) row TL).2.1 = q2
        have HQ1 := Lib.hid hq1
        clear hq1
        have HS_xa := Lib.hid (HS_x9.out.keep SeenR.good (Keeps.below cax))
        have HSs_xa := Lib.hid (HSs_x9.out.keep SeenR.good (Keeps.below cax))
        have HT_xa := Lib.hid (HT_x9.out.keep IntR.good (Keeps.below cax))
        have b_xa := bl_call b_x9 cax (Nat.le_refl _)
        clear HS_x9 HSs_x9 HT_x9 b_x9
        clear cax HTE
        by_cases hw0 : w1 = 0
        · subst hw0
          obtain rfl : q1 = 0 := by rw [← HQ1.out]; exact HY3.out HW1.out
          clear HW1 HQ1 HY3
          obtain ⟨x0, x1, x2, x3, x4, _, _, _, _, _⟩ := kk.out Xa b_xa
          go_wp2_with fail
          clear x0 x1 x2 x3 x4
          refine (tlay_any Xa (HG.out.keep (Keeps.below b_xa)) (HSs_xa.out.mono SeenR.good (fun _ _ => trivial)) hca h1 h2 h3).mono ?_
          rintro e Xb ⟨cbx, A20, n20, k20, rfl, _⟩
          obtain ⟨m1, hm1⟩ : ∃ x, (layR h s).2.1 = x := ⟨_, rfl⟩
          obtain ⟨f1, hf1⟩ : ∃ x, (layR h s).2.2 = x := ⟨_, rfl⟩
          rw [hm1, hf1]
          have hly := HLY.out
          rw [hm1, hf1] at hly
          clear hm1 hf1 HLY
          have HS_xbp := Lib.hid (HS_xa.out.keep SeenR.good (Keeps.below cbx))
          have HSs_xbp := Lib.hid (HSs_xa.out.keep SeenR.good (Keeps.below cbx))
          have HT_xbp := Lib.hid (HT_xa.out.keep IntR.good (Keeps.below cbx))
          have b_xbp := bl_call b_xa cbx (Nat.le_refl _)
          clear HS_xa HSs_xa HT_xa b_xa
          obtain ⟨x0, x1, x2, x3, x4, _, _, _, _, _⟩ := kk.out Xb b_xbp
          go_wp2_with fail
          clear x0 x1 x2 x3 x4
          clear cbx
          refine (tlay_any Xb (HG.out.keep (Keeps.below b_xbp)) (HS_xbp.out.mono SeenR.good (fun _ _ => trivial)) hca h1 h2 h3).mono ?_
          rintro e Xc ⟨ccx, A21, n21, k21, rfl, _⟩
          obtain ⟨m2, hm2⟩ : ∃ x, (layR h (s ++ [y])).2.1 = x := ⟨_, rfl⟩
          obtain ⟨f2, hf2⟩ : ∃ x, (layR h (s ++ [y])).2.2 = x := ⟨_, rfl⟩
          rw [hm2, hf2]
          rw [hm2, hf2] at hly
          clear hm2 hf2
          have bc := bl_call b_xbp ccx (Nat.le_refl _)
          clear ccx HS_xbp HSs_xbp HT_xbp b_xbp
          rcases hly with rfl | ⟨rfl, rfl, hle⟩
          · go_wp2_with fail
            refine (awake_any Xc).mono ?_
            rintro e Vz ⟨rfl, cz⟩
            go_wp2
            go_ret
            exact ⟨by rfl, bl_call HBW.out (bl_call bc cz (Nat.le_refl _)) (Nat.le_refl _)⟩
          · go_wp2_with fail
            refine (awake_any Xc).mono ?_
            rintro e Vz ⟨rfl, cz⟩
            go_wp2
            go_ret
            exact ⟨by rfl, bl_call HBW.out (bl_call bc cz (Nat.le_refl _)) (Nat.le_refl _)⟩
        · have hwb : (w1 == 0) = false := by simpa using hw0
          clear HW1 HQ1 HY3 hw0
          obtain ⟨x0, x1, x2, x3, x4, _, _, _, _, _⟩ := kk.out Xa b_xa
          go_wp2_with fail
          clear x0 x1 x2 x3 x4
          refine (tlay_any Xa (HG.out.keep (Keeps.below b_xa)) (HSs_xa.out.mono SeenR.good (fun _ _ => trivial)) hca h1 h2 h3).mono ?_
          rintro e Xb ⟨cbx, A20, n20, k20, rfl, _⟩
          obtain ⟨m1, hm1⟩ : ∃ x, (layR h s).2.1 = x := ⟨_, rfl⟩
          obtain ⟨f1, hf1⟩ : ∃ x, (layR h s).2.2 = x := ⟨_, rfl⟩
          rw [hm1, hf1]
          have hly := HLY.out
          rw [hm1, hf1] at hly
          clear hm1 hf1 HLY
          have HS_xbq := Lib.hid (HS_xa.out.keep SeenR.good (Keeps.below cbx))
          have HSs_xbq := Lib.hid (HSs_xa.out.keep SeenR.good (Keeps.below cbx))
          have HT_xbq := Lib.hid (HT_xa.out.keep IntR.good (Keeps.below cbx))
          have b_xbq := bl_call b_xa cbx (Nat.le_refl _)
          clear HS_xa HSs_xa HT_xa b_xa
          obtain ⟨x0, x1, x2, x3, x4, _, _, _, _, _⟩ := kk.out Xb b_xbq
          go_wp2_with fail
          clear x0 x1 x2 x3 x4
          clear cbx
          refine (tlay_any Xb (HG.out.keep (Keeps.below b_xbq)) (HS_xbq.out.mono SeenR.good (fun _ _ => trivial)) hca h1 h2 h3).mono ?_
          rintro e Xc ⟨ccx, A21, n21, k21, rfl, _⟩
          obtain ⟨m2, hm2⟩ : ∃ x, (layR h (s ++ [y])).2.1 = x := ⟨_, rfl⟩
          obtain ⟨f2, hf2⟩ : ∃ x, (layR h (s ++ [y])).2.2 = x := ⟨_, rfl⟩
          rw [hm2, hf2]
          rw [hm2, hf2] at hly
          clear hm2 hf2
          have bc := bl_call b_xbq ccx (Nat.le_refl _)
          clear ccx HS_xbq HSs_xbq HT_xbq b_xbq
          rcases hly with rfl | ⟨rfl, rfl, hle⟩
          · go_wp2_with fail
            refine (awake_any Xc).mono ?_
            rintro e Vz ⟨rfl, cz⟩
            go_wp2
            go_ret
            exact ⟨by rfl, bl_call HBW.out (bl_call bc cz (Nat.le_refl _)) (Nat.le_refl _)⟩
          · go_wp2_with fail
            refine (awake_any Xc).mono ?_
            rintro e Vz ⟨rfl, cz⟩
            go_wp2
            go_ret
            exact ⟨by rfl, bl_call HBW.out (bl_call bc cz (Nat.le_refl _)) (Nat.le_refl _)⟩

end Go.Proofs.Ytpbimgafafkjgaa
