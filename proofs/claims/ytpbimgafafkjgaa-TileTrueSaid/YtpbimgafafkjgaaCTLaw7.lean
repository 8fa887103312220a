/- Walks: the law TileTrue. -/
import Derived.Test.YtpbimgafafkjgaaCTLaw2
import Derived.Test.YtpbimgafafkjgaaCTOuts1
import Derived.Test.YtpbimgafafkjgaaCTRegs
import Derived.Test.YtpbimgafafkjgaaCTTrus
set_option linter.unusedVariables false
set_option linter.unusedSimpArgs false
set_option linter.all false
namespace Go.Proofs.Ytpbimgafafkjgaa
open Go.RowKit

theorem wp_frameT {c : Code} {P : Program} {Q : Exit → Act → World → Prop} {a : Act} {w : World} (h : ∀ a0 : Act, a0 = a → c.wp P Q a0 w) : c.wp P Q a w := h a rfl
/-- where tiles do not fit, they do in each lesser air -/
theorem why_first {h : Hall} {l : List Seen} {row : Nat} {tl : List Int} (e : asked8 h l row tl = 0) (hal : h.alo ≤ h.ahi) : whyR h l row tl = (0, 0, 0) ∧ (∀ b, h.alo ≤ b → b ≤ h.ahi → fits8 h l row tl b) ∨ ∃ (r a : Int), whyR h l row tl = (r, a, 0) ∧ r ≠ 0 ∧ h.alo ≤ a ∧ a ≤ h.ahi ∧ ∀ b, h.alo ≤ b → b < a → fits8 h l row tl b := by
  rcases firstErr_cases (fun n => wrong8 h.most (at8 h l row tl (h.alo + n))) (h.ahi - h.alo + 1).toNat with ⟨h1, h2⟩ | ⟨k, hk, h1, h2, h3⟩
  · left
    refine ⟨?_, fun b hb1 hb2 => ?_⟩
    · unfold whyR
      rw [if_neg (by rw [e]; decide)]
      unfold whyUpto
      rw [Int.toNat_natCast, h1]
    · have := h2 (b - h.alo).toNat (by omega)
      rw [show h.alo + ((b - h.alo).toNat : Int) = b by omega] at this
      exact wrong_zero.1 this
  · right
    refine ⟨wrong8 h.most (at8 h l row tl (h.alo + k)), h.alo + k, ?_, h2, by omega, by omega, fun b hb1 hb2 => ?_⟩
    · unfold whyR
      rw [if_neg (by rw [e]; decide)]
      unfold whyUpto
      rw [Int.toNat_natCast, h1]
    · have := h3 (b - h.alo).toNat (by omega)
      rw [show h.alo + ((b - h.alo).toNat : Int) = b by omega] at this
      exact wrong_zero.1 this

set_option maxRecDepth 100000 in
set_option maxHeartbeats 8000000 in
theorem trueLaw_any {A B XA XB : Option Addr} {n ca m cb xn xc xm xd : Nat} {h : Hall} {xs ys : List Nat} {alo ahi most : Int} (d0 d1 : Nat) (hd0 : d0 < 256) (hd1 : d1 < 256) (w : World) (g : HallAt (fun _ => True) w A n B m h) (gx : Bytes (fun _ => True) w XA xn xs) (gy : Bytes (fun _ => True) w XB xm ys) (hca : n ≤ ca) (h1 : h.alo = alo) (h2 : h.ahi = ahi) (h3 : h.most = most) :
    Calls Try.prog 7 #[.agg #[.int .i64 alo, .int .i64 ahi, .int .i64 most, .slice A n ca, .slice B m cb], .agg #[.slice XA xn xc, .slice XB xm xd], .agg #[.int .u8 d0, .int .u8 d1]] w fun e w' => e = .returned (.bool true) ∧ Below w.heap.size w w' := by
  have Hm := Lib.hid g.rs.len
  have Hn := Lib.hid g.ts.len
  obtain ⟨W0, hW⟩ : ∃ W, ((w.alloc (.cells #[.int .i64 alo, .int .i64 ahi, .int .i64 most, .slice A n ca, .slice B m cb] 27)).alloc (.cells #[.slice XA xn xc, .slice XB xm xd] 58)).alloc (.cells #[.int .u8 d0, .int .u8 d1] 59) = W := ⟨_, rfl⟩
  obtain ⟨g0, hg0⟩ : ∃ g0, w.heap.size = g0 := ⟨_, rfl⟩
  have X : Blk W0 g0 27 #[.int .i64 alo, .int .i64 ahi, .int .i64 most, .slice A n ca, .slice B m cb] := by rw [← hW, ← hg0]; exact ((Blk.new _ _ _ rfl).alloc _).alloc _
  have Y : Blk W0 (g0 + 1) 58 #[.slice XA xn xc, .slice XB xm xd] := by rw [← hW, ← hg0]; exact (Blk.new _ _ _ (by simp)).alloc _
  have Z : Blk W0 (g0 + 1 + 1) 59 #[.int .u8 d0, .int .u8 d1] := by rw [← hW, ← hg0]; exact Blk.new _ _ _ (by simp)
  have HBW : Hid (Below w.heap.size w W0) := by rw [Hid, ← hW]; exact bl_alloc (bl_alloc (bl_alloc (Below.refl _ _) _ (Nat.le_refl _)) _ (Nat.le_refl _)) _ (Nat.le_refl _)
  have HG := Lib.hid (g.keep (Keeps.below HBW.out))
  have HX := Lib.hid (gx.keep ByteR.good (Keeps.below HBW.out))
  have HY := Lib.hid (gy.keep ByteR.good (Keeps.below HBW.out))
  have kk : Hid (∀ V, Below W0.heap.size W0 V → V.cell? ⟨g0, 0, none⟩ = some (.int .i64 alo) ∧ V.cell? ⟨g0, 1, none⟩ = some (.int .i64 ahi) ∧ V.cell? ⟨g0, 2, none⟩ = some (.int .i64 most) ∧ V.cell? ⟨g0, 3, none⟩ = some (.slice A n ca) ∧ V.cell? ⟨g0, 4, none⟩ = some (.slice B m cb) ∧ V.cell? ⟨g0 + 1, 0, none⟩ = some (.slice XA xn xc) ∧ V.cell? ⟨g0 + 1, 1, none⟩ = some (.slice XB xm xd) ∧ V.cell? ⟨g0 + 1 + 1, 0, none⟩ = some (.int .u8 d0) ∧ V.cell? ⟨g0 + 1 + 1, 1, none⟩ = some (.int .u8 d1)) :=
    fun V hb => ⟨(X.bl hb).cell 0, (X.bl hb).cell 1, (X.bl hb).cell 2, (X.bl hb).cell 3, (X.bl hb).cell 4, (Y.bl hb).cell 0, (Y.bl hb).cell 1, (Z.bl hb).cell 0, (Z.bl hb).cell 1⟩
  clear X Y Z g gx gy
  obtain ⟨x0, x1, x2, x3, x4, p0, p1, y0, y1⟩ := kk.out W0 (Below.refl _ _)
  go_enter Try.func7, Try.ntmps7
  go_wp2_with fail
  clear hW
  clear x0 x1 x2 x3 x4 p0 p1 y0 y1
  refine (valid_any W0 HG.out h1 h2 h3).mono ?_
  rintro e V1 ⟨rfl, b1⟩
  obtain ⟨vb, hvb⟩ : ∃ vb, decide ((check8 h).2.2 = 0) = vb := ⟨_, rfl⟩
  rw [hvb]
  cases vb with
  | false =>
    have hne : (layR h []).2.2 ≠ 0 := by
      have hc : (check8 h).2.2 ≠ 0 := by simpa using hvb
      have hs : (seen8 h []).2 ≠ 0 := by rw [seen8_bad hc]; exact hc
      rw [layR_bad (by rw [hallE_bad hs]; exact hs), hallE_bad hs]; exact hs
    obtain ⟨m1, hm1⟩ : ∃ x, (layR h []).2.1 = x := ⟨_, rfl⟩
    obtain ⟨f1, hf1⟩ : ∃ x, (layR h []).2.2 = x := ⟨_, rfl⟩
    rw [hf1] at hne
    have hnb : (f1 != 0) = true := by simpa using hne
    have HM1 := Lib.hid hm1
    have HF1 := Lib.hid hf1
    clear hvb hne hm1 hf1
    obtain ⟨x0, x1, x2, x3, x4, _, _, _, _⟩ := kk.out V1 b1
    go_wp2_with fail
    clear x0 x1 x2 x3 x4
    refine (tlay_any (C := none) (q := 0) (cc := 0) (l := []) V1 (HG.out.keep (Keeps.below b1)) ⟨rfl, Nat.zero_le _, fun k x hx => by simp at hx⟩ hca h1 h2 h3).mono ?_
    rintro e V2 ⟨c2, A20, n20, k20, rfl, _⟩
    rw [HM1.out, HF1.out]
    have b2 := bl_call b1 c2 (Nat.le_refl _)
    go_wp2_with fail
    refine (awake_any V2).mono ?_
    rintro e Vz ⟨rfl, cz⟩
    go_wp2
    go_ret
    exact ⟨by rfl, bl_call HBW.out (bl_call b2 cz (Nat.le_refl _)) (Nat.le_refl _)⟩
  | true =>
    have HCK : Hid ((check8 h).2.2 = 0) := by rw [Hid]; simpa using hvb
    have HKK : Hid (OkH h) := okH_of HCK.out
    clear hvb
    have hm1 : 1 ≤ m ∧ m ≤ 3 := by have := HKK.out.nr; rw [Hm.out] at this; exact this
    have hn1 : 1 ≤ n ∧ n ≤ 8 := by have := HKK.out.nt; rw [Hn.out] at this; exact this
    have HTL : Hid ((anyL h xs).length = n) := by rw [Hid, anyL_len, Hn.out]
    have HBD := Lib.hid (any_bd (xs := xs) HKK.out)
    have HSE : Hid ((seen8 h (toldL (anyL h xs) ys)).2 = 0) := told_seen HCK.out
    have HAG : Hid (agree8 h (toldL (anyL h xs) ys) = true) := told_agree HCK.out
    have HWD : Hid (∀ (k : Nat) (a : Int), k < h.tiles.length → (wide8 h (toldL (anyL h xs) ys) k a).1 ≤ ((anyL h xs).getD k dTwo).1 + ((anyL h xs).getD k dTwo).2 * a ∧ ((anyL h xs).getD k dTwo).1 + ((anyL h xs).getD k dTwo).2 * a ≤ (wide8 h (toldL (anyL h xs) ys) k a).2) := fun k a hk => told_wide HCK.out hk a
    have HGP : Hid (∀ (row : Nat) (tl : List Int) (a : Int), (∀ i ∈ tl, 0 ≤ i ∧ i < h.tiles.length) → (at8 h (toldL (anyL h xs) ys) row tl a).1 ≤ gapT h (anyL h xs) row tl a ∧ gapT h (anyL h xs) row tl a ≤ (at8 h (toldL (anyL h xs) ys) row tl a).2) := fun row tl a hT => told_gap HCK.out hT a
    obtain ⟨x0, x1, x2, x3, x4, p0, _, _, _⟩ := kk.out V1 b1
    go_wp2_with fail
    clear x0 x1 x2 x3 x4 p0
    refine (any_any (cb := cb) V1 (HG.out.keep (Keeps.below b1)) (HX.out.keep ByteR.good (Keeps.below b1)) rfl rfl rfl rfl HKK.out).mono ?_
    rintro e V2 ⟨⟨TA, tc, rfl, hT2, _⟩, c2⟩
    rw [HTL.out] at hT2 ⊢
    have b2 := bl_call b1 c2 (Nat.le_refl _)
    obtain ⟨x0, x1, x2, x3, x4, _, p1, _, _⟩ := kk.out V2 b2
    go_wp2_with fail
    clear x0 x1 x2 x3 x4 p1
    refine (told_any V2 (HY.out.keep ByteR.good (Keeps.below b2)) hT2 rfl rfl rfl rfl rfl hn1.1 hn1.2 HBD.out).mono ?_
    rintro e V3 ⟨⟨LA, lc, rfl, hS, _⟩, c3⟩
    have b3 := bl_call b2 c3 (Nat.le_refl _)
    have hT3 := hT2.keep TwoR.good (Keeps.below c3)
    clear hT2 b1 b2 c2 c3 HX HY
    obtain ⟨TT, hTT⟩ : ∃ x, anyL h xs = x := ⟨_, rfl⟩
    rw [hTT] at HBD HSE HAG HWD HGP HTL hT3 hS ⊢
    obtain ⟨L0, hL0⟩ : ∃ x, toldL TT ys = x := ⟨_, rfl⟩
    rw [hL0] at HSE HAG HWD HGP hS ⊢
    obtain ⟨ln, hln⟩ : ∃ x, L0.length = x := ⟨_, rfl⟩
    rw [hln] at hS ⊢
    clear hTT hL0 hln
    obtain ⟨bt, ot, _, _, rfl, _⟩ := TwosAt.get hT3 (k := 0) (by omega)
    have HT3 := Lib.hid hT3
    have HS3 := Lib.hid hS
    clear hT3 hS
    have hair := HKK.out.air
    rw [h1, h2] at hair
    go_wp2_with fail
    go_loopw [12] (fun i wr => ∃ k : Nat, i = .int .i64 k ∧ k ≤ n ∧ Below V3.heap.size V3 wr) (fun i _ => n - (intOf i).toNat)
    case atStart => exact ⟨0, rfl, Nat.zero_le _, Below.refl _ _⟩
    case round =>
      obtain ⟨k, rfl, hk, hB⟩ := hrel
      by_cases hlt : k < n
      · have hki : (k : Int) < n := by omega
        have hkl : k < h.tiles.length := by rw [Hn.out]; exact hlt
        go_wp2_with fail
        go_loopw [13] (fun a wr2 => ∃ av : Nat, a = .int .i64 av ∧ av ≤ 45 ∧ Below V3.heap.size V3 wr2) (fun a _ => 45 - (intOf a).toNat)
        case atStart => exact ⟨0, rfl, by omega, hB⟩
        case round =>
          obtain ⟨av, rfl, ha, hB2⟩ := hrel
          clear hB
          have b4 := bl_call b3 hB2 (Nat.le_refl _)
          by_cases hla : av ≤ 40
          · have hli : (av : Int) ≤ 40 := by omega
            obtain ⟨b9, o9, p1, p2, hA9, _, k72, k77, Hx⟩ := TwosAt.get (HT3.out.keep TwoR.good (Keeps.below hB2)) hlt
            obtain ⟨rfl, rfl⟩ : b9 = bt ∧ o9 = ot := by simpa [eq_comm] using hA9
            obtain ⟨z1, z2, hw⟩ : ∃ z1 z2, wide8 h L0 k av = (z1, z2) := ⟨_, _, rfl⟩
            have hww := HWD.out k (av : Int) hkl
            rw [hw, getD_of Hx.out] at hww
            dsimp only at hww
            have hbd := HBD.out _ (List.mem_of_getElem? Hx.out)
            dsimp only at hbd
            have hmu1 : 0 ≤ p2 * (av : Int) := Int.mul_nonneg hbd.2.2.1 (by omega)
            have hmu2 : p2 * (av : Int) ≤ 20 * 40 := Int.mul_le_mul hbd.2.2.2 (by omega) (by omega) (by decide)
            obtain ⟨nv, hnv⟩ : ∃ x : Int, p1 + p2 * (av : Int) = x := ⟨_, rfl⟩
            have hw79 : IntKind.i64.wrap (p2 * (av : Int)) = p2 * (av : Int) := by rw [IntKind.wrap_i64]; omega
            have hw80 : IntKind.i64.wrap (p1 + p2 * (av : Int)) = nv := by rw [hnv, IntKind.wrap_i64]; omega
            rw [hnv] at hww
            have HIN : Hid (inB nv z1 z2 = true) := by rw [Hid]; simp [inB]; omega
            have HWQ : Hid (width8 h L0 k av = ((z1, z2), 0)) := by rw [Hid, width_ok HSE.out HAG.out hkl (by omega) (by omega), hw]
            have HK72 := Lib.hid k72
            have HK77 := Lib.hid k77
            clear hw hww hnv hbd hmu1 hmu2 k72 k77 hA9
            obtain ⟨x0, x1, x2, x3, x4, _, _, _, _⟩ := kk.out _ b4
            go_wp2_with fail
            clear x0 x1 x2 x3 x4
            refine (twidth_any (cb := cb) (cc := lc) (k : Int) (av : Int) _ (HG.out.keep (Keeps.below b4)) ((HS3.out.keep SeenR.good (Keeps.below hB2)).mono SeenR.good (fun _ _ => trivial)) hca h1 h2 h3).mono ?_
            rintro e X1 ⟨rfl, c1⟩
            rw [HWQ.out]
            dsimp only
            have c72 := getc c1 HK72.out
            have c77 := getc c1 HK77.out
            have hB3 := bl_call hB2 c1 (Nat.le_refl _)
            clear hB2 b4 c1 HK72 HK77
            obtain ⟨g14, hg14⟩ : ∃ g, X1.heap.size = g := ⟨_, rfl⟩
            obtain ⟨X2, hX2⟩ : ∃ U, X1.alloc (.cells #[.int .i64 z1, .int .i64 z2] 23) = U := ⟨_, rfl⟩
            have S14 : Blk X2 g14 23 #[.int .i64 z1, .int .i64 z2] := by rw [← hX2]; exact Blk.new _ _ _ hg14.symm
            have ba : Below X1.heap.size X1 X2 := by rw [← hX2]; exact bl_alloc (Below.refl _ _) _ (Nat.le_refl _)
            have kl : Hid (∀ V, Below X2.heap.size X2 V → V.cell? ⟨b9, o9 + k * 2, none⟩ = some (.int .i64 p1) ∧ V.cell? ⟨b9, o9 + k * 2 + 1, none⟩ = some (.int .i64 p2) ∧ V.cell? ⟨g14, 0, none⟩ = some (.int .i64 z1) ∧ V.cell? ⟨g14, 1, none⟩ = some (.int .i64 z2)) := fun V hb => ⟨getc hb (getc ba c72), getc hb (getc ba c77), (S14.bl hb).c0, (S14.bl hb).c1⟩
            have hB4 := bl_call hB3 ba (Nat.le_refl _)
            clear S14 ba c72 c77 hB3
            go_wp2_with fail
            clear hX2 hg14
            refine wp_frameT ?_
            intro a0 ha0
            have b10 : a0.tmps[10]? = some (.slice (some ⟨b9, o9, none⟩) n tc) := by rw [ha0]; kernel_rfl
            have b12 : a0.tmps[12]? = some (.int .i64 k) := by rw [ha0]; kernel_rfl
            have b13 : a0.tmps[13]? = some (.int .i64 av) := by rw [ha0]; kernel_rfl
            have b14 : a0.tmps[14]? = some (.pointer (some ⟨g14, 0, none⟩)) := by rw [ha0]; kernel_rfl
            have b15 : a0.tmps[15]? = some (.int .i64 0) := by rw [ha0]; kernel_rfl
            have hsz : a0.tmps.size = 174 := by rw [ha0]; kernel_rfl
            refine wp_region_list (fun W => Below X2.heap.size X2 W) (fun w w' => Below w.heap.size w w')
              [isV (.int .i64 0), isV (.bool false), isV (.bool false), isV (.slice (some ⟨b9, o9, none⟩) n tc), isV (.int .i64 k), isV (.pointer (some ⟨b9, o9 + k * 2, none⟩)), isV (.pointer (some ⟨b9, o9 + k * 2, none⟩)), isV (.int .i64 p1), isV (.slice (some ⟨b9, o9, none⟩) n tc), isV (.int .i64 k), isV (.pointer (some ⟨b9, o9 + k * 2, none⟩)), isV (.pointer (some ⟨b9, o9 + k * 2 + 1, none⟩)), isV (.int .i64 p2), isV (.int .i64 av), isV (.int .i64 (p2 * (av : Int))), isV (.int .i64 nv), isV (.agg #[.int .i64 z1, .int .i64 z2]), isV (.bool true), isV (.bool false), isV (.bool false)]
              (by kernel_rfl) (by kernel_rfl) (by kernel_rfl) (by simp) (by simp) (Below.refl _ _).drew ?stabA ?stepA ?finA
            case stabA => exact (StabL.is (StabL.is (StabL.is (StabL.is (StabL.is (StabL.is (StabL.is (StabL.is (StabL.is (StabL.is (StabL.is (StabL.is (StabL.is (StabL.is (StabL.is (StabL.is (StabL.is (StabL.is (StabL.is (StabL.is StabL.nil))))))))))))))))))))
            case stepA =>
              refine StepsL.isA ?_ (StepsL.isA ?_ (StepsL.isA ?_ (StepsL.isA ?_ (StepsL.isA ?_ (StepsL.isA ?_ (StepsL.isA ?_ (StepsL.isA ?_ (StepsL.isA ?_ (StepsL.isA ?_ (StepsL.isA ?_ (StepsL.isA ?_ (StepsL.isA ?_ (StepsL.isA ?_ (StepsL.isA ?_ (StepsL.isA ?_ (StepsL.isA ?_ (StepsL.isA ?_ (StepsL.isA ?_ (StepsL.isA ?_ StepsL.nil)))))))))))))))))))
              · -- 0
                intro vs a W K ha hC hD hU hK
                have r15 : a.tmps[15]? = some (.int .i64 0) := by rw [ha, fillA_base0 (by kernel_rfl)]; exact b15
                clear ha hU hD ha0
                rw [if_pos (by rfl)]
                go_simp
                exact hK _ hC (Below.refl _ _)
              · -- 1
                intro vs a W K ha hC hD hU hK
                have r65 : a.tmps[65]? = some (vs 0) := by rw [ha]; exact fillA_get0 (j := 0) (by kernel_rfl) (by rw [hsz]; decide)
                have q0 : vs 0 = .int .i64 0 := hD 0 (by simp [waits, Region.binds])
                rw [q0] at r65
                clear ha hU hD ha0
                rw [if_pos (by rfl)]
                go_simp
                exact hK _ hC (Below.refl _ _)
              · -- 2
                intro vs a W K ha hC hD hU hK
                have r66 : a.tmps[66]? = some (vs 1) := by rw [ha]; exact fillA_get0 (j := 1) (by kernel_rfl) (by rw [hsz]; decide)
                have q1 : vs 1 = .bool false := hD 1 (by simp [waits, Region.binds])
                rw [q1] at r66
                clear ha hU hD ha0
                rw [if_pos (by rfl)]
                go_simp
                exact hK _ hC (Below.refl _ _)
              · -- 3
                intro vs a W K ha hC hD hU hK
                have r67 : a.tmps[67]? = some (vs 2) := by rw [ha]; exact fillA_get0 (j := 2) (by kernel_rfl) (by rw [hsz]; decide)
                have q2 : vs 2 = .bool false := hD 2 (by simp [waits, Region.binds])
                rw [q2] at r67
                have r10 : a.tmps[10]? = some (.slice (some ⟨b9, o9, none⟩) n tc) := by rw [ha, fillA_base0 (by kernel_rfl)]; exact b10
                clear ha hU hD ha0
                rw [if_pos (by simp [Region.wanted, yielded, r67])]
                go_simp
                exact hK _ hC (Below.refl _ _)
              · -- 4
                intro vs a W K ha hC hD hU hK
                have r67 : a.tmps[67]? = some (vs 2) := by rw [ha]; exact fillA_get0 (j := 2) (by kernel_rfl) (by rw [hsz]; decide)
                have q2 : vs 2 = .bool false := hD 2 (by simp [waits, Region.binds])
                rw [q2] at r67
                have r12 : a.tmps[12]? = some (.int .i64 k) := by rw [ha, fillA_base0 (by kernel_rfl)]; exact b12
                clear ha hU hD ha0
                rw [if_pos (by simp [Region.wanted, yielded, r67])]
                go_simp
                exact hK _ hC (Below.refl _ _)
              · -- 5
                intro vs a W K ha hC hD hU hK
                have r67 : a.tmps[67]? = some (vs 2) := by rw [ha]; exact fillA_get0 (j := 2) (by kernel_rfl) (by rw [hsz]; decide)
                have q2 : vs 2 = .bool false := hD 2 (by simp [waits, Region.binds])
                rw [q2] at r67
                have r68 : a.tmps[68]? = some (vs 3) := by rw [ha]; exact fillA_get0 (j := 3) (by kernel_rfl) (by rw [hsz]; decide)
                have q3 : vs 3 = .slice (some ⟨b9, o9, none⟩) n tc := hD 3 (by simp [waits, Region.binds])
                rw [q3] at r68
                have r69 : a.tmps[69]? = some (vs 4) := by rw [ha]; exact fillA_get0 (j := 4) (by kernel_rfl) (by rw [hsz]; decide)
                have q4 : vs 4 = .int .i64 k := hD 4 (by simp [waits, Region.binds])
                rw [q4] at r69
                clear ha hU hD ha0
                rw [if_pos (by simp [Region.wanted, yielded, r67])]
                go_simp
                exact hK _ hC (Below.refl _ _)
              · -- 6
                intro vs a W K ha hC hD hU hK
                have r67 : a.tmps[67]? = some (vs 2) := by rw [ha]; exact fillA_get0 (j := 2) (by kernel_rfl) (by rw [hsz]; decide)
                have q2 : vs 2 = .bool false := hD 2 (by simp [waits, Region.binds])
                rw [q2] at r67
                have r70 : a.tmps[70]? = some (vs 5) := by rw [ha]; exact fillA_get0 (j := 5) (by kernel_rfl) (by rw [hsz]; decide)
                have q5 : vs 5 = .pointer (some ⟨b9, o9 + k * 2, none⟩) := hD 5 (by simp [waits, Region.binds])
                rw [q5] at r70
                clear ha hU hD ha0
                rw [if_pos (by simp [Region.wanted, yielded, r67])]
                go_simp
                exact hK _ hC (Below.refl _ _)
              · -- 7
                intro vs a W K ha hC hD hU hK
                have r67 : a.tmps[67]? = some (vs 2) := by rw [ha]; exact fillA_get0 (j := 2) (by kernel_rfl) (by rw [hsz]; decide)
                have q2 : vs 2 = .bool false := hD 2 (by simp [waits, Region.binds])
                rw [q2] at r67
                have r71 : a.tmps[71]? = some (vs 6) := by rw [ha]; exact fillA_get0 (j := 6) (by kernel_rfl) (by rw [hsz]; decide)
                have q6 : vs 6 = .pointer (some ⟨b9, o9 + k * 2, none⟩) := hD 6 (by simp [waits, Region.binds])
                rw [q6] at r71
                clear ha hU hD ha0
                rw [if_pos (by simp [Region.wanted, yielded, r67])]
                obtain ⟨k0, k1, k2, k3⟩ := kl.out W hC
                go_simp
                exact hK _ hC (Below.refl _ _)
              · -- 8
                intro vs a W K ha hC hD hU hK
                have r67 : a.tmps[67]? = some (vs 2) := by rw [ha]; exact fillA_get0 (j := 2) (by kernel_rfl) (by rw [hsz]; decide)
                have q2 : vs 2 = .bool false := hD 2 (by simp [waits, Region.binds])
                rw [q2] at r67
                have r10 : a.tmps[10]? = some (.slice (some ⟨b9, o9, none⟩) n tc) := by rw [ha, fillA_base0 (by kernel_rfl)]; exact b10
                clear ha hU hD ha0
                rw [if_pos (by simp [Region.wanted, yielded, r67])]
                go_simp
                exact hK _ hC (Below.refl _ _)
              · -- 9
                intro vs a W K ha hC hD hU hK
                have r67 : a.tmps[67]? = some (vs 2) := by rw [ha]; exact fillA_get0 (j := 2) (by kernel_rfl) (by rw [hsz]; decide)
                have q2 : vs 2 = .bool false := hD 2 (by simp [waits, Region.binds])
                rw [q2] at r67
                have r12 : a.tmps[12]? = some (.int .i64 k) := by rw [ha, fillA_base0 (by kernel_rfl)]; exact b12
                clear ha hU hD ha0
                rw [if_pos (by simp [Region.wanted, yielded, r67])]
                go_simp
                exact hK _ hC (Below.refl _ _)
              · -- 10
                intro vs a W K ha hC hD hU hK
                have r67 : a.tmps[67]? = some (vs 2) := by rw [ha]; exact fillA_get0 (j := 2) (by kernel_rfl) (by rw [hsz]; decide)
                have q2 : vs 2 = .bool false := hD 2 (by simp [waits, Region.binds])
                rw [q2] at r67
                have r73 : a.tmps[73]? = some (vs 8) := by rw [ha]; exact fillA_get0 (j := 8) (by kernel_rfl) (by rw [hsz]; decide)
                have q8 : vs 8 = .slice (some ⟨b9, o9, none⟩) n tc := hD 8 (by simp [waits, Region.binds])
                rw [q8] at r73
                have r74 : a.tmps[74]? = some (vs 9) := by rw [ha]; exact fillA_get0 (j := 9) (by kernel_rfl) (by rw [hsz]; decide)
                have q9 : vs 9 = .int .i64 k := hD 9 (by simp [waits, Region.binds])
                rw [q9] at r74
                clear ha hU hD ha0
                rw [if_pos (by simp [Region.wanted, yielded, r67])]
                go_simp
                exact hK _ hC (Below.refl _ _)
              · -- 11
                intro vs a W K ha hC hD hU hK
                have r67 : a.tmps[67]? = some (vs 2) := by rw [ha]; exact fillA_get0 (j := 2) (by kernel_rfl) (by rw [hsz]; decide)
                have q2 : vs 2 = .bool false := hD 2 (by simp [waits, Region.binds])
                rw [q2] at r67
                have r75 : a.tmps[75]? = some (vs 10) := by rw [ha]; exact fillA_get0 (j := 10) (by kernel_rfl) (by rw [hsz]; decide)
                have q10 : vs 10 = .pointer (some ⟨b9, o9 + k * 2, none⟩) := hD 10 (by simp [waits, Region.binds])
                rw [q10] at r75
                clear ha hU hD ha0
                rw [if_pos (by simp [Region.wanted, yielded, r67])]
                go_simp
                exact hK _ hC (Below.refl _ _)
              · -- 12
                intro vs a W K ha hC hD hU hK
                have r67 : a.tmps[67]? = some (vs 2) := by rw [ha]; exact fillA_get0 (j := 2) (by kernel_rfl) (by rw [hsz]; decide)
                have q2 : vs 2 = .bool false := hD 2 (by simp [waits, Region.binds])
                rw [q2] at r67
                have r76 : a.tmps[76]? = some (vs 11) := by rw [ha]; exact fillA_get0 (j := 11) (by kernel_rfl) (by rw [hsz]; decide)
                have q11 : vs 11 = .pointer (some ⟨b9, o9 + k * 2 + 1, none⟩) := hD 11 (by simp [waits, Region.binds])
                rw [q11] at r76
                clear ha hU hD ha0
                rw [if_pos (by simp [Region.wanted, yielded, r67])]
                obtain ⟨k0, k1, k2, k3⟩ := kl.out W hC
                go_simp
                exact hK _ hC (Below.refl _ _)
              · -- 13
                intro vs a W K ha hC hD hU hK
                have r67 : a.tmps[67]? = some (vs 2) := by rw [ha]; exact fillA_get0 (j := 2) (by kernel_rfl) (by rw [hsz]; decide)
                have q2 : vs 2 = .bool false := hD 2 (by simp [waits, Region.binds])
                rw [q2] at r67
                have r13 : a.tmps[13]? = some (.int .i64 av) := by rw [ha, fillA_base0 (by kernel_rfl)]; exact b13
                clear ha hU hD ha0
                rw [if_pos (by simp [Region.wanted, yielded, r67])]
                go_simp
                exact hK _ hC (Below.refl _ _)
              · -- 14
                intro vs a W K ha hC hD hU hK
                have r67 : a.tmps[67]? = some (vs 2) := by rw [ha]; exact fillA_get0 (j := 2) (by kernel_rfl) (by rw [hsz]; decide)
                have q2 : vs 2 = .bool false := hD 2 (by simp [waits, Region.binds])
                rw [q2] at r67
                have r77 : a.tmps[77]? = some (vs 12) := by rw [ha]; exact fillA_get0 (j := 12) (by kernel_rfl) (by rw [hsz]; decide)
                have q12 : vs 12 = .int .i64 p2 := hD 12 (by simp [waits, Region.binds])
                rw [q12] at r77
                have r78 : a.tmps[78]? = some (vs 13) := by rw [ha]; exact fillA_get0 (j := 13) (by kernel_rfl) (by rw [hsz]; decide)
                have q13 : vs 13 = .int .i64 av := hD 13 (by simp [waits, Region.binds])
                rw [q13] at r78
                clear ha hU hD ha0
                rw [if_pos (by simp [Region.wanted, yielded, r67])]
                go_simp
                exact hK _ hC (Below.refl _ _)
              · -- 15
                intro vs a W K ha hC hD hU hK
                have r67 : a.tmps[67]? = some (vs 2) := by rw [ha]; exact fillA_get0 (j := 2) (by kernel_rfl) (by rw [hsz]; decide)
                have q2 : vs 2 = .bool false := hD 2 (by simp [waits, Region.binds])
                rw [q2] at r67
                have r72 : a.tmps[72]? = some (vs 7) := by rw [ha]; exact fillA_get0 (j := 7) (by kernel_rfl) (by rw [hsz]; decide)
                have q7 : vs 7 = .int .i64 p1 := hD 7 (by simp [waits, Region.binds])
                rw [q7] at r72
                have r79 : a.tmps[79]? = some (vs 14) := by rw [ha]; exact fillA_get0 (j := 14) (by kernel_rfl) (by rw [hsz]; decide)
                have q14 : vs 14 = .int .i64 (p2 * (av : Int)) := hD 14 (by simp [waits, Region.binds])
                rw [q14] at r79
                clear ha hU hD ha0
                rw [if_pos (by simp [Region.wanted, yielded, r67])]
                go_simp
                exact hK _ hC (Below.refl _ _)
              · -- 16
                intro vs a W K ha hC hD hU hK
                have r67 : a.tmps[67]? = some (vs 2) := by rw [ha]; exact fillA_get0 (j := 2) (by kernel_rfl) (by rw [hsz]; decide)
                have q2 : vs 2 = .bool false := hD 2 (by simp [waits, Region.binds])
                rw [q2] at r67
                have r14 : a.tmps[14]? = some (.pointer (some ⟨g14, 0, none⟩)) := by rw [ha, fillA_base0 (by kernel_rfl)]; exact b14
                clear ha hU hD ha0
                rw [if_pos (by simp [Region.wanted, yielded, r67])]
                obtain ⟨k0, k1, k2, k3⟩ := kl.out W hC
                go_simp
                exact hK _ hC (Below.refl _ _)
              · -- 17
                intro vs a W K ha hC hD hU hK
                have r67 : a.tmps[67]? = some (vs 2) := by rw [ha]; exact fillA_get0 (j := 2) (by kernel_rfl) (by rw [hsz]; decide)
                have q2 : vs 2 = .bool false := hD 2 (by simp [waits, Region.binds])
                rw [q2] at r67
                have r80 : a.tmps[80]? = some (vs 15) := by rw [ha]; exact fillA_get0 (j := 15) (by kernel_rfl) (by rw [hsz]; decide)
                have q15 : vs 15 = .int .i64 nv := hD 15 (by simp [waits, Region.binds])
                rw [q15] at r80
                have r81 : a.tmps[81]? = some (vs 16) := by rw [ha]; exact fillA_get0 (j := 16) (by kernel_rfl) (by rw [hsz]; decide)
                have q16 : vs 16 = .agg #[.int .i64 z1, .int .i64 z2] := hD 16 (by simp [waits, Region.binds])
                rw [q16] at r81
                clear ha hU hD ha0
                rw [if_pos (by simp [Region.wanted, yielded, r67])]
                go_simp
                refine (in40_any nv z1 z2 W).mono ?_
                rw [HIN.out]
                rintro e w' ⟨rfl, hb⟩
                exact hK _ (bl_call hC hb (Nat.le_refl _)) hb
              · -- 18
                intro vs a W K ha hC hD hU hK
                have r67 : a.tmps[67]? = some (vs 2) := by rw [ha]; exact fillA_get0 (j := 2) (by kernel_rfl) (by rw [hsz]; decide)
                have q2 : vs 2 = .bool false := hD 2 (by simp [waits, Region.binds])
                rw [q2] at r67
                have r82 : a.tmps[82]? = some (vs 17) := by rw [ha]; exact fillA_get0 (j := 17) (by kernel_rfl) (by rw [hsz]; decide)
                have q17 : vs 17 = .bool true := hD 17 (by simp [waits, Region.binds])
                rw [q17] at r82
                clear ha hU hD ha0
                rw [if_pos (by simp [Region.wanted, yielded, r67])]
                go_simp
                exact hK _ hC (Below.refl _ _)
              · -- 19
                intro vs a W K ha hC hD hU hK
                have r67 : a.tmps[67]? = some (vs 2) := by rw [ha]; exact fillA_get0 (j := 2) (by kernel_rfl) (by rw [hsz]; decide)
                have q2 : vs 2 = .bool false := hD 2 (by simp [waits, Region.binds])
                rw [q2] at r67
                have r83 : a.tmps[83]? = some (vs 18) := by rw [ha]; exact fillA_get0 (j := 18) (by kernel_rfl) (by rw [hsz]; decide)
                have q18 : vs 18 = .bool false := hD 18 (by simp [waits, Region.binds])
                rw [q18] at r83
                clear ha hU hD ha0
                rw [if_pos (by rfl)]
                go_simp
                exact hK _ hC (Below.refl _ _)
            case finA =>
              refine Fin1.none (Nat.le_refl _) ?_
              intro vs W a1 hC hE ha
              have eL : vs 19 = .bool false := hE 19 (by simp)
              rw [ha, ha0]
              clear ha ha0 hsz b10 b12 b13 b14 b15
              simp only [fillA, Act.put, List.setIfInBounds_toArray, List.set_cons_zero, List.set_cons_succ, Nat.zero_add, Nat.reduceAdd, eL]
              obtain ⟨u0, hu0⟩ : ∃ v0, vs 0 = v0 := ⟨_, rfl⟩
              obtain ⟨u1, hu1⟩ : ∃ v0, vs 1 = v0 := ⟨_, rfl⟩
              obtain ⟨u2, hu2⟩ : ∃ v0, vs 2 = v0 := ⟨_, rfl⟩
              obtain ⟨u3, hu3⟩ : ∃ v0, vs 3 = v0 := ⟨_, rfl⟩
              obtain ⟨u4, hu4⟩ : ∃ v0, vs 4 = v0 := ⟨_, rfl⟩
              obtain ⟨u5, hu5⟩ : ∃ v0, vs 5 = v0 := ⟨_, rfl⟩
              obtain ⟨u6, hu6⟩ : ∃ v0, vs 6 = v0 := ⟨_, rfl⟩
              obtain ⟨u7, hu7⟩ : ∃ v0, vs 7 = v0 := ⟨_, rfl⟩
              obtain ⟨u8, hu8⟩ : ∃ v0, vs 8 = v0 := ⟨_, rfl⟩
              obtain ⟨u9, hu9⟩ : ∃ v0, vs 9 = v0 := ⟨_, rfl⟩
              obtain ⟨u10, hu10⟩ : ∃ v0, vs 10 = v0 := ⟨_, rfl⟩
              obtain ⟨u11, hu11⟩ : ∃ v0, vs 11 = v0 := ⟨_, rfl⟩
              obtain ⟨u12, hu12⟩ : ∃ v0, vs 12 = v0 := ⟨_, rfl⟩
              obtain ⟨u13, hu13⟩ : ∃ v0, vs 13 = v0 := ⟨_, rfl⟩
              obtain ⟨u14, hu14⟩ : ∃ v0, vs 14 = v0 := ⟨_, rfl⟩
              obtain ⟨u15, hu15⟩ : ∃ v0, vs 15 = v0 := ⟨_, rfl⟩
              obtain ⟨u16, hu16⟩ : ∃ v0, vs 16 = v0 := ⟨_, rfl⟩
              obtain ⟨u17, hu17⟩ : ∃ v0, vs 17 = v0 := ⟨_, rfl⟩
              obtain ⟨u18, hu18⟩ : ∃ v0, vs 18 = v0 := ⟨_, rfl⟩
              rw [hu0, hu1, hu2, hu3, hu4, hu5, hu6, hu7, hu8, hu9, hu10, hu11, hu12, hu13, hu14, hu15, hu16, hu17, hu18]
              clear hu0 hu1 hu2 hu3 hu4 hu5 hu6 hu7 hu8 hu9 hu10 hu11 hu12 hu13 hu14 hu15 hu16 hu17 hu18
              clear eL hE
              have hB5 := bl_call hB4 hC (Nat.le_refl _)
              clear hC kl hB4
              go_wp2_with fail
              go_roundw
              case rel => exact ⟨av + 5, by go_num, by omega, hB5⟩
              case measure => simp [intOf]; omega
          · have hli : ¬ (av : Int) ≤ 40 := by omega
            go_wp2_with fail
            go_roundw
            case rel => exact ⟨k + 1, by go_num, by omega, hB2⟩
            case measure => simp [intOf]; omega
      · have hnk : n = k := by omega
        subst hnk
        have hlti : ¬ (n : Int) < n := by omega
        clear hk hlt
        have b4 := bl_call b3 hB (Nat.le_refl _)
        obtain ⟨an, rfl⟩ := Int.eq_ofNat_of_zero_le (show 0 ≤ alo by omega)
        obtain ⟨zn, rfl⟩ := Int.eq_ofNat_of_zero_le (show 0 ≤ ahi by omega)
        obtain ⟨row, hrow⟩ : ∃ r, d0 % m = r := ⟨_, rfl⟩
        have hrm : row < m := by rw [← hrow]; exact Nat.mod_lt _ (by omega)
        have hmod : ((d0 : Int)).tmod (m : Int) = (row : Int) := by rw [Int.tmod_eq_emod_of_nonneg (by omega), ← hrow]; rfl
        have hcv0 : IntKind.i64.wrap (d0 : Int) = d0 := by rw [IntKind.wrap_i64]; omega
        have hmz : ¬ (m : Int) = 0 := by omega
        have hmz2 : ((m : Int) == 0) = false := by simp; omega
        clear hrow
        have hrl : row < h.rows.length := by rw [Hm.out]; exact hrm
        obtain ⟨g16, hg16⟩ : ∃ g, wr.heap.size = g := ⟨_, rfl⟩
        have bV1 : Below V3.heap.size V3 (wr.alloc (.cells #[.int .i64 row, .slice none 0 0] 41)) := bl_alloc hB _ (Nat.le_refl _)
        have D1 : Blk (wr.alloc (.cells #[.int .i64 row, .slice none 0 0] 41)) g16 41 #[.int .i64 row, .slice none 0 0] := Blk.new _ _ _ hg16.symm
        have hg3 : V3.heap.size ≤ g16 := by rw [← hg16]; exact hB.size
        have bW1 := bl_call b3 bV1 (Nat.le_refl _)
        have q0 := D1.cell 0
        obtain ⟨x0w, x1w, x2w, x3w, x4w, _, _, y0, y1w⟩ := kk.out wr b4
        obtain ⟨x0, x1, x2, x3, x4, _, _, _, y1⟩ := kk.out (wr.alloc (.cells #[.int .i64 row, .slice none 0 0] 41)) bW1
        go_wp2_with fail
        clear x0 x1 x2 x3 x4 y1 y0 x0w x1w x2w x3w x4w y1w
        obtain ⟨U1, hU1⟩ : ∃ U, wr.alloc (.cells #[.int .i64 row, .slice none 0 0] 41) = U := ⟨_, rfl⟩
        rw [hU1] at bV1 D1 bW1 ⊢
        clear q0 hU1 hg16 hB b4 hmod hcv0 hmz hmz2 hlti
        refine (chosen_any (v1 := .int .i64 an) (v2 := .int .i64 zn) (v3 := .int .i64 most) U1 (HG.out.keep (Keeps.below bW1)) rfl rfl rfl HKK.out hrm hd1).mono ?_
        rintro e U2 ⟨⟨T, cT, rfl, hT, hcT⟩, c2⟩
        obtain ⟨TL, hTL⟩ : ∃ TL, choK n (rowP h row) d1 n = TL := ⟨_, rfl⟩
        have HTE : Hid (tilesE h.tiles.length (h.rows.getD row dRow).places TL = 0) := by
          have := cho_at HKK.out (row := row) (bits := d1) (by rw [Hm.out]; exact hrm) hd1
          rwa [Hn.out, hTL, ← Hn.out] at this
        have hk8 : TL.length ≤ 8 := by rw [← hTL]; have := choK_len n (rowP h row) d1 n; omega
        rw [hTL] at hT hcT ⊢
        clear hTL
        have HTM : Hid (∀ i ∈ TL, 0 ≤ i ∧ i < h.tiles.length) := (tilesE_zero HTE.out).2.1
        have HTN : Hid (∀ i ∈ TL, 0 ≤ i ∧ i < n) := fun i hi => by have := HTM.out i hi; rw [Hn.out] at this; exact this
        obtain ⟨tk, hk⟩ : ∃ k, TL.length = k := ⟨_, rfl⟩
        rw [hk] at hT hcT hk8 ⊢
        clear hk
        have HAS : Hid (asked8 h L0 row TL = 0) := asked_fine HSE.out hrl HTE.out HAG.out
        obtain ⟨c1, c2x, hga⟩ : ∃ a b, gap8 h L0 row TL = (a, b) := ⟨_, _, rfl⟩
        have HGR : Hid (gapR h L0 row TL = ((c1, c2x), 0)) := by rw [Hid, gapR_ok HAS.out, hga]
        have hgb := (gap8_bd (l := L0) (row := row) (tl := TL) (h := h) (by omega)).1
        rw [hga, h1, h2] at hgb
        dsimp only at hgb
        have HNV : Hid (∀ j : Nat, an ≤ j → j ≤ zn → inB (gapT h TT row TL (j : Int)) c1 c2x = true) := fun j hj1 hj2 => by
          have q1 := hgb (j : Int) (by omega) (by omega)
          have q2 := HGP.out row TL (j : Int) HTM.out
          simp [inB]; omega
        clear hga hgb
        have D2 := D1.bl c2
        have bV2 := bl_call bV1 c2 (Nat.le_refl _)
        have hl16 := D1.lt
        have z1 := D2.cell 1
        have fz1 := D2.frozen 1
        have hlz := D2.lt
        obtain ⟨U3, hU3⟩ : ∃ U, U2.setCell ⟨g16, 1, none⟩ (.slice T tk cT) = U := ⟨_, rfl⟩
        have D3 : Blk U3 g16 41 #[.int .i64 row, .slice T tk cT] := by rw [← hU3]; exact D2.set_ 1 _
        have bV3 : Below V3.heap.size V3 U3 := by rw [← hU3]; exact bl_set bV2 hg3 _
        have HT : Hid (Ints (fun b => U1.heap.size ≤ b) U3 T tk TL) := by rw [Hid, ← hU3]; exact hT.keep IntR.good (Keeps.setCell _ ⟨g16, 1, none⟩ _ (fun hx => by have hy : U1.heap.size ≤ g16 := hx; omega))
        have bW3 := bl_call b3 bV3 (Nat.le_refl _)
        have q0 := D3.c0
        have q1 := D3.c1
        obtain ⟨x0, x1, x2, x3, x4, _, _, _, _⟩ := kk.out U3 bW3
        go_wp2_with fail
        clear x0 x1 x2 x3 x4
        clear q0 q1 z1 fz1 hlz hU3 D1 D2 bV1 bV2 bW1 c2 hT hl16 hg3
        have bVs : Hid (Below V3.heap.size V3 U3) := bV3
        refine (tgap_any row U3 (HG.out.keep (Keeps.below bW3)) ((HS3.out.keep SeenR.good (Keeps.below bV3)).mono SeenR.good (fun _ _ => trivial)) HT.out hca h1 h2 h3).mono ?_
        rintro e X1 ⟨rfl, c1x⟩
        rw [HGR.out]
        dsimp only
        have bV4 := bl_call bV3 c1x (Nat.le_refl _)
        have D4 := D3.bl c1x
        have HT4 := Lib.hid (HT.out.keep IntR.good (Keeps.below c1x))
        clear D3 HT bV3 bW3 bVs
        obtain ⟨g17, hg17⟩ : ∃ g, X1.heap.size = g := ⟨_, rfl⟩
        obtain ⟨X2, hX2⟩ : ∃ U, X1.alloc (.cells #[.int .i64 c1, .int .i64 c2x] 23) = U := ⟨_, rfl⟩
        have S17 : Blk X2 g17 23 #[.int .i64 c1, .int .i64 c2x] := by rw [← hX2]; exact Blk.new _ _ _ hg17.symm
        have ba : Below X1.heap.size X1 X2 := by rw [← hX2]; exact bl_alloc (Below.refl _ _) _ (Nat.le_refl _)
        have bV5 := bl_call bV4 ba (Nat.le_refl _)
        have D5 := D4.bl ba
        have HT5 := Lib.hid (HT4.out.keep IntR.good (Keeps.below ba))
        have bW5 := bl_call b3 bV5 (Nat.le_refl _)
        have q0 := D5.c0
        have q1 := D5.c1
        clear D4 HT4 bV4 ba c1x
        obtain ⟨x0, x1, x2, x3, x4, _, _, _, _⟩ := kk.out X2 bW5
        go_wp2_with fail
        clear x0 x1 x2 x3 x4
        clear q0 q1 hX2 hg17
        refine (twhy_any row X2 (HG.out.keep (Keeps.below bW5)) ((HS3.out.keep SeenR.good (Keeps.below bV5)).mono SeenR.good (fun _ _ => trivial)) HT5.out hca h1 h2 h3).mono ?_
        rintro e X3 ⟨rfl, c3x⟩
        have bV6 := bl_call bV5 c3x (Nat.le_refl _)
        have bW6 := bl_call b3 bV6 (Nat.le_refl _)
        have D6 := D5.bl c3x
        have S6 := S17.bl c3x
        have HT6 := Lib.hid (HT5.out.keep IntR.good (Keeps.below c3x))
        clear D5 S17 HT5 bV5 bW5 c3x HGR HTE
        have HLB : Hid (∀ a : Int, fits8 h L0 row TL a → 0 ≤ gapT h TT row TL a ∧ gapT h TT row TL a ≤ most) := fun a ha => by
          have q2 := HGP.out row TL a HTM.out
          unfold fits8 at ha
          rw [h3] at ha
          omega
        rcases why_first HAS.out (by omega) with ⟨hw, hfit⟩ | ⟨r, a, hw, hr0, ha1, ha2, hfit⟩
        · rw [hw]
          clear hw
          have HFT : Hid (∀ j : Nat, an ≤ j → j ≤ zn → 0 ≤ gapT h TT row TL (j : Int) ∧ gapT h TT row TL (j : Int) ≤ most) := fun j hj1 hj2 => HLB.out _ (hfit _ (by omega) (by omega))
          clear hfit HLB
          obtain ⟨x0, _, _, _, _, _, _, _, _⟩ := kk.out X3 bW6
          go_wp2_with fail
          clear x0
          go_loopw [22] (fun i wr4 => ∃ j : Nat, i = .int .i64 j ∧ an ≤ j ∧ j ≤ zn + 1 ∧ Below X3.heap.size X3 wr4) (fun i _ => (zn + 1) - (intOf i).toNat)
          case atStart => exact ⟨an, rfl, Nat.le_refl _, by omega, Below.refl _ _⟩
          case round =>
            obtain ⟨j, rfl, hj1, hj2, hB⟩ := hrel
            have bV7 := bl_call bV6 hB (Nat.le_refl _)
            have bW7 := bl_call b3 bV7 (Nat.le_refl _)
            have D7 := D6.bl hB
            have q0 := D7.c0
            have q1 := D7.c1
            by_cases hjz : j ≤ zn
            · have hji : (j : Int) ≤ zn := by omega
              obtain ⟨nv, hnv⟩ : ∃ x, gapT h TT row TL (j : Int) = x := ⟨_, rfl⟩
              have HIN : Hid (inB nv c1 c2x = true) := by rw [Hid, ← hnv]; exact HNV.out j hj1 hjz
              have hf := HFT.out j hj1 hjz
              rw [hnv] at hf
              have r1 : decide (nv < 0) = false := decide_eq_false (by omega)
              have r2 : decide (most < nv) = false := decide_eq_false (by omega)
              clear hf
              have HNQ := Lib.hid hnv
              clear hnv
              obtain ⟨x0, x1, x2, x3, x4, _, _, _, _⟩ := kk.out _ bW7
              go_wp2_with fail
              clear x0 x1 x2 x3 x4
              clear q0 q1 D7
              refine (gap42_any (dc := tc) (c := cT) (v1 := .int .i64 an) (v2 := .int .i64 zn) (v3 := .int .i64 most) _ (HG.out.keep (Keeps.below bW7)) (HT6.out.keep IntR.good (Keeps.below hB)) (HT3.out.keep TwoR.good (Keeps.below bV7)) rfl rfl rfl HKK.out hrm hk8 HTN.out HBD.out (by omega)).mono ?_
              rintro e X5 ⟨rfl, c5⟩
              rw [HNQ.out]
              have hB5 := bl_call hB c5 (Nat.le_refl _)
              have s0 := (S6.bl hB5).c0
              have s1 := (S6.bl hB5).c1
              clear hB c5 bV7 bW7
              go_wp2_with fail
              clear s0 s1
              refine (in40_any nv c1 c2x X5).mono ?_
              rintro e X6 ⟨rfl, c6⟩
              rw [HIN.out]
              have hB6 := bl_call hB5 c6 (Nat.le_refl _)
              clear hB5 c6
              have bW8 := bl_call b3 (bl_call bV6 hB6 (Nat.le_refl _)) (Nat.le_refl _)
              obtain ⟨_, _, x2, _, _, _, _, _, _⟩ := kk.out X6 bW8
              go_wp2_with fail
              go_roundw
              case rel => exact ⟨j + 1, by go_num, by omega, by omega, hB6⟩
              case measure => simp [intOf]; omega
            · have hji : ¬ (j : Int) ≤ zn := by omega
              obtain ⟨_, x1, _, _, _, _, _, _, _⟩ := kk.out _ bW7
              go_wp2_with fail
              refine (awake_any _).mono ?_
              rintro e Vz ⟨rfl, cz⟩
              go_wp2
              go_ret
              exact ⟨by rfl, bl_call HBW.out (bl_call bW7 cz (Nat.le_refl _)) (Nat.le_refl _)⟩
        · rw [hw]
          clear hw
          obtain ⟨at4, rfl⟩ := Int.eq_ofNat_of_zero_le (show 0 ≤ a by omega)
          have hrb : (r == 0) = false := by simpa using hr0
          have HFT : Hid (∀ j : Nat, an ≤ j → j < at4 → 0 ≤ gapT h TT row TL (j : Int) ∧ gapT h TT row TL (j : Int) ≤ most) := fun j hj1 hj2 => HLB.out _ (hfit _ (by omega) (by omega))
          clear hfit HLB
          obtain ⟨x0, _, _, _, _, _, _, _, _⟩ := kk.out X3 bW6
          go_wp2_with fail
          clear x0
          go_loopw [22] (fun i wr4 => ∃ j : Nat, i = .int .i64 j ∧ an ≤ j ∧ j ≤ zn + 1 ∧ Below X3.heap.size X3 wr4) (fun i _ => (zn + 1) - (intOf i).toNat)
          case atStart => exact ⟨an, rfl, Nat.le_refl _, by omega, Below.refl _ _⟩
          case round =>
            obtain ⟨j, rfl, hj1, hj2, hB⟩ := hrel
            have bV7 := bl_call bV6 hB (Nat.le_refl _)
            have bW7 := bl_call b3 bV7 (Nat.le_refl _)
            have D7 := D6.bl hB
            have q0 := D7.c0
            have q1 := D7.c1
            by_cases hjz : j ≤ zn
            · have hji : (j : Int) ≤ zn := by omega
              obtain ⟨nv, hnv⟩ : ∃ x, gapT h TT row TL (j : Int) = x := ⟨_, rfl⟩
              have HIN : Hid (inB nv c1 c2x = true) := by rw [Hid, ← hnv]; exact HNV.out j hj1 hjz
              have HNQ := Lib.hid hnv
              clear hnv
              obtain ⟨x0, x1, x2, x3, x4, _, _, _, _⟩ := kk.out _ bW7
              go_wp2_with fail
              clear x0 x1 x2 x3 x4
              clear q0 q1 D7
              refine (gap42_any (dc := tc) (c := cT) (v1 := .int .i64 an) (v2 := .int .i64 zn) (v3 := .int .i64 most) _ (HG.out.keep (Keeps.below bW7)) (HT6.out.keep IntR.good (Keeps.below hB)) (HT3.out.keep TwoR.good (Keeps.below bV7)) rfl rfl rfl HKK.out hrm hk8 HTN.out HBD.out (by omega)).mono ?_
              rintro e X5 ⟨rfl, c5⟩
              rw [HNQ.out]
              have hB5 := bl_call hB c5 (Nat.le_refl _)
              have s0 := (S6.bl hB5).c0
              have s1 := (S6.bl hB5).c1
              clear hB c5 bV7 bW7
              go_wp2_with fail
              clear s0 s1
              refine (in40_any nv c1 c2x X5).mono ?_
              rintro e X6 ⟨rfl, c6⟩
              rw [HIN.out]
              have hB6 := bl_call hB5 c6 (Nat.le_refl _)
              clear hB5 c6
              have bW8 := bl_call b3 (bl_call bV6 hB6 (Nat.le_refl _)) (Nat.le_refl _)
              obtain ⟨_, _, x2, _, _, _, _, _, _⟩ := kk.out X6 bW8
              by_cases hja : j < at4
              · have hjd : decide ((j : Int) < (at4 : Int)) = true := decide_eq_true (by omega)
                have hf := HFT.out j hj1 hja
                rw [HNQ.out] at hf
                have r1 : decide (nv < 0) = false := decide_eq_false (by omega)
                have r2 : decide (most < nv) = false := decide_eq_false (by omega)
                clear hf
                go_wp2_with fail
                go_roundw
                case rel => exact ⟨j + 1, by go_num, by omega, by omega, hB6⟩
                case measure => simp [intOf]; omega
              · have hjd : decide ((j : Int) < (at4 : Int)) = false := decide_eq_false (by omega)
                go_wp2_with fail
                go_roundw
                case rel => exact ⟨j + 1, by go_num, by omega, by omega, hB6⟩
                case measure => simp [intOf]; omega
            · have hji : ¬ (j : Int) ≤ zn := by omega
              obtain ⟨_, x1, _, _, _, _, _, _, _⟩ := kk.out _ bW7
              go_wp2_with fail
              refine (awake_any _).mono ?_
              rintro e Vz ⟨rfl, cz⟩
              go_wp2
              go_ret
              exact ⟨by rfl, bl_call HBW.out (bl_call bW7 cz (Nat.le_refl _)) (Nat.le_refl _)⟩

end Go.Proofs.Ytpbimgafafkjgaa
