/- Walks: a claim whose measures are made of a truth. -/
import Derived.Test.YtkbpmcpmcmnfgaaDoorCHelp1
import Derived.Test.YtkbpmcpmcmnfgaaDoorCLaw5
import Derived.Test.YtkbpmcpmcmnfgaaDoorCLaws
set_option linter.unusedVariables false
set_option linter.unusedSimpArgs false
set_option linter.all false
namespace Go.Proofs.YtkbpmcpmcmnfgaaDoor
open Go.RowKit

/-- what the measure number i shows -/
def shownAt (c : Claim) (t off : List Int) (x : Int) (i : Nat) (y : Meas) : Int :=
  if x / 2 ^ i % 2 = 1 then len c t y.feature.toNat + (c.feats.getD y.feature.toNat dFeat).err + 1 + turnR off i
  else len c t y.feature.toNat + turnR off i % (2 * (c.feats.getD y.feature.toNat dFeat).err + 1) - (c.feats.getD y.feature.toNat dFeat).err
def toldK (c : Claim) (t off : List Int) (x : Int) (k : Nat) : List Meas := ((List.range k).filter fun i => inB (shownAt c t off x i (c.meas.getD i dMeas)) 0 200000).map fun i => ⟨(c.meas.getD i dMeas).feature, shownAt c t off x i (c.meas.getD i dMeas)⟩
def toldC (c : Claim) (t off : List Int) (x : Int) : Claim := { c with meas := toldK c t off x c.meas.length }
theorem toldK_succ {c : Claim} {t off : List Int} {x : Int} {k : Nat} {y : Meas} (h : c.meas[k]? = some y) : toldK c t off x (k + 1) = toldK c t off x k ++ if inB (shownAt c t off x k y) 0 200000 = true then [⟨y.feature, shownAt c t off x k y⟩] else [] := by
  unfold toldK
  rw [List.range_succ, List.filter_append, List.map_append]
  congr 1
  by_cases hk : inB (shownAt c t off x k y) 0 200000 = true
  · simp [hk, h]
  · simp [hk, h]
theorem bits_two (x : Int) (i : Nat) (h : 0 ≤ x) : ∃ y r : Int, x / 2 ^ i = y ∧ 0 ≤ y ∧ y ≤ x ∧ y % 2 = r ∧ Int.tmod y 2 = r ∧ (r = 0 ∨ r = 1) := by
  have h2 : (0 : Int) < 2 ^ i := Int.pow_pos (by decide)
  have h1 : 0 ≤ x / 2 ^ i := Int.ediv_nonneg h (Int.le_of_lt h2)
  exact ⟨_, _, rfl, h1, Int.ediv_le_self _ h, rfl, Int.tmod_eq_emod_of_nonneg h1, by omega⟩
theorem meas_own {W : World} {base : Nat} {e : TypeId} {A : Option Addr} {n cap : Nat} {xs : List Meas} (h : OwnL MeasR 2 (fun _ => False) W base e (.slice A n cap) xs) (hn : n ≤ 8) : Meass (fun _ => True) W A n xs :=
  h.slice MeasR.good rfl (by simp only [maxLen]; omega) (fun _ _ => trivial) (fun _ _ _ => trivial)

set_option maxRecDepth 100000 in
set_option maxHeartbeats 1600000 in
theorem told_any {S S2 : Foot} {A B C T X : Option Addr} {n ca m cb q cc nt ct nx cx : Nat} {c : Claim} {t off : List Int} (x : Int) (w : World) (h : ClaimAt (fun _ => True) w A n B m C q c) (hok : OkC c) (hT : Ints S w T nt t) (htr : TruthOk c t) (hX : Bytes S2 w X nx off) (hx1 : 0 ≤ x) (hx2 : x < 256) :
    Calls Tryd.prog 39 #[.agg #[.slice A n ca, .slice B m cb, .slice C q cc], .slice T nt ct, .slice X nx cx, .int .u8 x] w fun e w' => ∃ C' q' cq', e = .returned (.agg #[.slice A n ca, .slice B m cb, .slice C' q' cq']) ∧ ClaimAt (fun _ => True) w' A n B m C' q' (toldC c t off x) ∧ Below w.heap.size w w' := by
  obtain ⟨i0, hi0, hz0, hz1, hz2⟩ := info_parts infoMeas
  have Hq := Lib.hid h.ms.len
  have hq8 : q ≤ 8 := by rw [← Hq.out]; exact hok.nm
  have hbn := claim_bnd h
  go_enter Tryd.func39, Tryd.ntmps39
  go_wp2
  obtain ⟨wa, hwa⟩ : ∃ wa : World, ((w.alloc (.cells #[.slice A n ca, .slice B m cb, .slice C q cc] 26)).alloc (.cells #[.slice none 0 0, .slice none 0 0, .slice none 0 0] 26)).alloc (.cells #[.slice A n ca, .slice B m cb, .slice none 0 0] 26) = wa := ⟨_, rfl⟩
  have hX0 : Blk wa w.heap.size 26 #[.slice A n ca, .slice B m cb, .slice C q cc] := by rw [← hwa]; exact ((Blk.new _ _ _ rfl).alloc _).alloc _
  have hR : Blk wa (w.heap.size + 1) 26 #[.slice none 0 0, .slice none 0 0, .slice none 0 0] := by rw [← hwa]; exact (Blk.new _ _ _ (by simp)).alloc _
  have hO : Blk wa (w.heap.size + 1 + 1) 26 #[.slice A n ca, .slice B m cb, .slice none 0 0] := by rw [← hwa]; exact Blk.new _ _ _ (by simp)
  have hBa : Below w.heap.size w wa := by rw [← hwa]; exact bl_alloc (bl_alloc (bl_alloc (Below.refl _ _) _ (Nat.le_refl _)) _ (Nat.le_refl _)) _ (Nat.le_refl _)
  have hsa : wa.heap.size = w.heap.size + 1 + 1 + 1 := by rw [← hwa]; simp
  rw [hwa]
  clear hwa
  have hsz : w.heap.size + 3 ≤ wa.heap.size := by omega
  clear hsa
  go_loopw [10] (fun i wr => ∃ (k kk cap : Nat) (Ad : Option Addr) (xs : List Meas), k ≤ q ∧ i = .int .i64 k ∧ kk ≤ k ∧ Hid (xs.length = kk) ∧ OwnL MeasR 2 (fun _ => False) wr (w.heap.size + 3) 62 (.slice Ad kk cap) xs ∧
    Blk wr w.heap.size 26 #[.slice A n ca, .slice B m cb, .slice C q cc] ∧ Blk wr (w.heap.size + 1) 26 #[.slice none 0 0, .slice none 0 0, .slice none 0 0] ∧ Blk wr (w.heap.size + 1 + 1) 26 #[.slice A n ca, .slice B m cb, .slice Ad kk cap] ∧
    Below w.heap.size w wr ∧ w.heap.size + 3 ≤ wr.heap.size ∧ Hid (xs = toldK c t off x k)) (fun i _ => q - (intOf i).toNat)
  case atStart => exact ⟨0, 0, 0, none, [], Nat.zero_le _, rfl, Nat.le_refl _, rfl, OwnL.nil _ _ _ _ _ _, hX0, hR, hO, hBa, hsz, rfl⟩
  case round =>
    obtain ⟨k, kk, cap, Ad, xs, hk, rfl, hkk, Hl, hOw, hXb, hRb, hOb, hBb, hsz, Hf⟩ := hrel
    have HX := Lib.hid hXb
    have HR := Lib.hid hRb
    have HO := Lib.hid hOb
    have HB := Lib.hid hBb
    by_cases hlt : k < q
    · have hki : (k : Int) < q := by omega
      have hcr := hbn.keep (Keeps.below hBb)
      have hTr := hT.keep IntR.good (Keeps.below hBb)
      have hXr := hX.keep U8R.good (Keeps.below hBb)
      obtain ⟨bm, om, fi, z, rfl, hbm, hcm0, hcm1, Hx⟩ := hcr.ms.get hlt
      obtain ⟨hf0, hf1, hz0', hz1'⟩ := hok.meas Hx.out
      dsimp only at hf0 hf1 hz0' hz1'
      obtain ⟨f, rfl⟩ := Int.eq_ofNat_of_zero_le hf0
      have hfl : f < c.feats.length := by omega
      have hfn : f < n := by rw [← h.fs.len]; exact hfl
      have hfi : (f : Int) < n := by omega
      have hfi0 : (0 : Int) ≤ f := by omega
      obtain ⟨bf, of_, sf, nom, er, rfl, hbf, hcf0, hcf1, hcf2, _, HF⟩ := hcr.fs.get hfn
      obtain ⟨_, _, he1, he2⟩ := hok.feat HF.out
      dsimp only at he1 he2
      have hLb := len_bd hok htr hfl
      obtain ⟨L, hL⟩ : ∃ L, len c t f = L := ⟨_, rfl⟩
      rw [hL] at hLb
      obtain ⟨hL1, hL2⟩ := hLb
      obtain ⟨y, hy, hy256⟩ := turnR_byte hX k
      have HL := Lib.hid hL
      have HY := Lib.hid hy
      have hk64 : (k : Int) < 9223372036854775808 := by omega
      obtain ⟨b2, r2, hb2, hb20, hb21, hr1, hr2, hr01⟩ := bits_two x k hx1
      have Hb2 := Lib.hid hb2
      have Hr2 := Lib.hid hr1
      have q0 : wr.cell? ⟨w.heap.size, 0, none⟩ = some (.slice (some ⟨bf, of_, none⟩) n ca) := hXb.cell 0
      have q1 : wr.cell? ⟨w.heap.size, 1, none⟩ = some (.slice B m cb) := hXb.cell 1
      have q2 : wr.cell? ⟨w.heap.size, 2, none⟩ = some (.slice (some ⟨bm, om, none⟩) q cc) := hXb.cell 2
      have Her : Hid ((c.feats.getD f dFeat).err = er) := by rw [Hid, getD_of HF.out]
      have hxl := hXb.lt
      obtain ⟨d, hd⟩ : ∃ d : Int, 2 * er + 1 = d := ⟨_, rfl⟩
      have hdb : 1 ≤ d ∧ d ≤ 201 := by omega
      have hd0' : (d == 0) = false := by simp; omega
      have hd1' : ¬ d = 0 := by omega
      have hw1 : IntKind.i64.wrap (2 * er) = 2 * er := by rw [IntKind.wrap_i64]; omega
      have hw2 : IntKind.i64.wrap (2 * er + 1) = d := by rw [hd]; rw [IntKind.wrap_i64]; omega
      obtain ⟨v, hv⟩ : ∃ v : Int, (y : Int) % d = v := ⟨_, rfl⟩
      have hvb : 0 ≤ v ∧ v < d := ⟨by rw [← hv]; exact Int.emod_nonneg _ hd1', by rw [← hv]; exact Int.emod_lt_of_pos _ (by omega)⟩
      have hw3 : Int.tmod (y : Int) d = v := by rw [← hv]; exact Int.tmod_eq_emod_of_nonneg (by omega)
      have hw4 : IntKind.i64.wrap v = v := by rw [IntKind.wrap_i64]; omega
      have hw5 : IntKind.i64.wrap (L + v) = L + v := by rw [IntKind.wrap_i64]; omega
      have hw6 : IntKind.i64.wrap (L + v - er) = L + v - er := by rw [IntKind.wrap_i64]; omega
      have hw7 : IntKind.i64.wrap (L + er) = L + er := by rw [IntKind.wrap_i64]; omega
      have hw8 : IntKind.i64.wrap (L + er + 1) = L + er + 1 := by rw [IntKind.wrap_i64]; omega
      have hw9 : IntKind.i64.wrap (L + er + 1 + y) = L + er + 1 + y := by rw [IntKind.wrap_i64]; omega
      have Hd := Lib.hid hd
      have Hv := Lib.hid hv
      clear hL hy hd hv hcf0 hcf1 hXb hRb hOb hBb
      go_wp2_with fail
      obtain ⟨w1, hw1'⟩ : ∃ w1, wr.alloc (.cells #[.int .i64 f, .int .i64 z] 62) = w1 := ⟨_, rfl⟩
      have hB1 : Below wr.heap.size wr w1 := by rw [← hw1']; exact bl_alloc (Below.refl _ _) _ (Nat.le_refl _)
      have G1 : Blk w1 wr.heap.size 62 #[.int .i64 f, .int .i64 z] := by rw [← hw1']; exact Blk.new _ _ _ rfl
      rw [hw1']
      clear hw1'
      refine (length_any f w1 (hcr.keep (Keeps.below hB1)) hok (hTr.keep IntR.good (Keeps.below hB1)) htr hfl).mono ?_
      rintro e w2 ⟨rfl, k2⟩
      rw [HL.out]
      have hB2 := bl_call hB1 k2 (Nat.le_refl _)
      have G2 := G1.bl k2
      clear k2 G1 hB1
      go_wp2_with fail
      refine (turn_any k w2 (hXr.keep U8R.good (Keeps.below hB2)) hk64).mono ?_
      rintro e w' ⟨rfl, rfl⟩
      rw [HY.out]
      have z0 : w2.cell? ⟨wr.heap.size, 0, none⟩ = some (.int .i64 f) := G2.c0
      have z1 : w2.cell? ⟨wr.heap.size, 1, none⟩ = some (.int .i64 z) := G2.c1
      have z2 := G2.frozen 1
      have z3 := G2.lt
      rcases hr01 with rfl | rfl
      · obtain ⟨s, hs⟩ : ∃ s, L + v - er = s := ⟨_, rfl⟩
        have Hsh : Hid (shownAt c t off x k ⟨(f : Int), z⟩ = s) := by
          rw [Hid, shownAt, Hb2.out, Hr2.out, if_neg (by decide)]
          show len c t f + turnR off k % (2 * (c.feats.getD f dFeat).err + 1) - (c.feats.getD f dFeat).err = s
          rw [HL.out, Her.out, HY.out, Hd.out, Hv.out, hs]
        have hw6' : IntKind.i64.wrap (L + v - er) = s := by rw [hw6, hs]
        clear hs hw6
        obtain ⟨wz, hwz⟩ : ∃ wz, w2.setCell ⟨wr.heap.size, 1, none⟩ (.int .i64 s) = wz := ⟨_, rfl⟩
        have Gz : Blk wz wr.heap.size 62 #[.int .i64 f, .int .i64 s] := by rw [← hwz]; exact G2.set_ 1 _
        have hBz : Below wr.heap.size wr wz := by rw [← hwz]; exact bl_set hB2 (Nat.le_refl _) _
        have Gz2 := Gz
        have g0 : wz.cell? ⟨wr.heap.size, 0, none⟩ = some (.int .i64 f) := Gz.c0
        have g1 : wz.cell? ⟨wr.heap.size, 1, none⟩ = some (.int .i64 s) := Gz.c1
        by_cases hs0 : 0 ≤ s
        · by_cases hs1 : s ≤ 200000
          · have Hs2 : Hid (xs ++ [⟨(f : Int), s⟩] = toldK c t off x (k + 1)) := by rw [Hid, toldK_succ Hx.out, ← Hf.out, Hsh.out, if_pos (by simp [inB]; omega)]
            have hd0 : decide (0 ≤ s) = true := decide_eq_true hs0
            have hd1 : decide (s ≤ 200000) = true := decide_eq_true hs1
            have Oz := HO.out.bl hBz
            have o2 : wz.cell? ⟨w.heap.size + 1 + 1, 2, none⟩ = some (.slice Ad kk cap) := Oz.cell 2
            have hOz := hOw.below MeasR.good hBz
            have hsz2 := hBz.size
            have hne2 : some (w.heap.size + 1 + 1) ≠ (Value.slice Ad kk cap).ownBlock := hOw.ne (.inl (by omega))
            go_wp2_with (at_builtin; refine wpList_append_n _ rfl _ _ _ rfl MeasR.good (w.heap.size + 3) 62 i0 _ 16 Tryd.underlying24 hi0 hz0 hz1 hz2 rfl (by omega) _ xs ⟨(f : Int), s⟩ kk Hl.out rfl (hOz.alloc MeasR.good _) ⟨_, 0, none⟩ 1 [.int .i64 f, .int .i64 s] rfl rfl (news_new rfl rfl) ?c1 ?c2 ?c3 (fun h => h) ?_)
            case c1 => simp only [maxLen]; omega
            case c2 => omega
            case c3 => simp; omega
            intro A2 cap2 w5 hO2 hg2 _
            have hB5 : Below w.heap.size w w5 := bl_grown (bl_alloc (bl_call HB.out hBz (by omega)) _ (Nat.le_refl _)) (hOz.alloc MeasR.good _) hg2 (by omega) (Nat.le_refl _)
            have hX5 : Blk w5 w.heap.size 26 #[.slice (some ⟨bf, of_, none⟩) n ca, .slice B m cb, .slice (some ⟨bm, om, none⟩) q cc] := ((HX.out.bl hBz).alloc _).grown hg2 (hOw.ne (.inl (by omega)))
            have hR5 : Blk w5 (w.heap.size + 1) 26 #[.slice none 0 0, .slice none 0 0, .slice none 0 0] := ((HR.out.bl hBz).alloc _).grown hg2 (hOw.ne (.inl (by omega)))
            have hO5 : Blk w5 (w.heap.size + 1 + 1) 26 #[.slice (some ⟨bf, of_, none⟩) n ca, .slice B m cb, .slice Ad kk cap] := (Oz.alloc _).grown hg2 hne2
            have hs5 : w.heap.size + 3 ≤ w5.heap.size := by have := hO5.lt; have := (OwnL.block hO2 A2 rfl).2; have := hB5.size; have := hg2.size; simp at this; omega
            have HX5 := Lib.hid hX5
            have HR5 := Lib.hid hR5
            have HO5 := Lib.hid hO5
            have HB5 := Lib.hid hB5
            have HO2 := Lib.hid hO2
            have y1 := hO5.frozen 2
            have y2 := hO5.lt
            have y0 : w5.cell? ⟨w.heap.size + 1 + 1, 2, none⟩ = some (.slice Ad kk cap) := hO5.cell 2
            clear hX5 hR5 hO5 hB5 hO2 hg2 hOz g0 g1 Gz Gz2 o2 Oz
            go_wp2
            go_roundw
            case rel => exact ⟨k + 1, kk + 1, cap2, _, _, by omega, by go_num, by omega, by rw [Hid, List.length_append, Hl.out]; rfl, own_far MeasR.good HO2.out (fun h => h) (by omega) _ _, HX5.out.far (by first | omega | (dsimp only; omega)) _, HR5.out.far (by first | omega | (dsimp only; omega)) _, HO5.out.set_ 2 _, bl_set HB5.out (by first | omega | (dsimp only; omega)) _, by simpa using hs5, Hs2⟩
            case measure => simp [intOf]; omega
          · have Hs2 : Hid (xs = toldK c t off x (k + 1)) := by rw [Hid, toldK_succ Hx.out, ← Hf.out, Hsh.out, if_neg (by simp [inB]; omega), List.append_nil]
            have hd0 : decide (0 ≤ s) = true := decide_eq_true hs0
            have hd1 : decide (s ≤ 200000) = false := decide_eq_false hs1
            go_wp2
            go_roundw
            case rel => exact ⟨k + 1, kk, cap, Ad, xs, by omega, by go_num, by omega, Hl, hOw.below MeasR.good hBz, HX.out.bl hBz, HR.out.bl hBz, HO.out.bl hBz, bl_call HB.out hBz (by omega), Nat.le_trans hsz hBz.size, Hs2⟩
            case measure => simp [intOf]; omega
        · have Hs2 : Hid (xs = toldK c t off x (k + 1)) := by rw [Hid, toldK_succ Hx.out, ← Hf.out, Hsh.out, if_neg (by simp [inB]; omega), List.append_nil]
          have hd0 : decide (0 ≤ s) = false := decide_eq_false hs0
          go_wp2
          go_roundw
          case rel => exact ⟨k + 1, kk, cap, Ad, xs, by omega, by go_num, by omega, Hl, hOw.below MeasR.good hBz, HX.out.bl hBz, HR.out.bl hBz, HO.out.bl hBz, bl_call HB.out hBz (by omega), Nat.le_trans hsz hBz.size, Hs2⟩
          case measure => simp [intOf]; omega
      · obtain ⟨s1, hs1⟩ : ∃ s1, L + v - er = s1 := ⟨_, rfl⟩
        have hw6' : IntKind.i64.wrap (L + v - er) = s1 := by rw [hw6, hs1]
        clear hs1 hw6
        obtain ⟨w3, hw3'⟩ : ∃ w3, w2.setCell ⟨wr.heap.size, 1, none⟩ (.int .i64 s1) = w3 := ⟨_, rfl⟩
        have G3 : Blk w3 wr.heap.size 62 #[.int .i64 f, .int .i64 s1] := by rw [← hw3']; exact G2.set_ 1 _
        have hB3 : Below wr.heap.size wr w3 := by rw [← hw3']; exact bl_set hB2 (Nat.le_refl _) _
        have r0 := getc hB3 q0
        have r1 := getc hB3 q1
        have r2 := getc hB3 q2
        have r3 : w3.cell? ⟨wr.heap.size, 0, none⟩ = some (.int .i64 f) := G3.c0
        go_wp2_with fail
        clear hw3' z0 z1 z2 z3
        refine (length_any f w3 (hcr.keep (Keeps.below hB3)) hok (hTr.keep IntR.good (Keeps.below hB3)) htr hfl).mono ?_
        rintro e w4 ⟨rfl, k4⟩
        rw [HL.out]
        have hB4 := bl_call hB3 k4 (Nat.le_refl _)
        have G4 := G3.bl k4
        clear k4 G3 hB3 r0 r1 r2 r3
        go_wp2_with fail
        refine (turn_any k w4 (hXr.keep U8R.good (Keeps.below hB4)) hk64).mono ?_
        rintro e w' ⟨rfl, rfl⟩
        rw [HY.out]
        have z0 : w4.cell? ⟨wr.heap.size, 0, none⟩ = some (.int .i64 f) := G4.c0
        have z1 : w4.cell? ⟨wr.heap.size, 1, none⟩ = some (.int .i64 s1) := G4.c1
        have z2 := G4.frozen 1
        have z3 := G4.lt
        obtain ⟨s, hs⟩ : ∃ s, L + er + 1 + y = s := ⟨_, rfl⟩
        have Hsh : Hid (shownAt c t off x k ⟨(f : Int), z⟩ = s) := by
          rw [Hid, shownAt, Hb2.out, Hr2.out, if_pos (by decide)]
          show len c t f + (c.feats.getD f dFeat).err + 1 + turnR off k = s
          rw [HL.out, Her.out, HY.out, hs]
        have hw9' : IntKind.i64.wrap (L + er + 1 + y) = s := by rw [hw9, hs]
        clear hs hw9
        obtain ⟨wz, hwz⟩ : ∃ wz, w4.setCell ⟨wr.heap.size, 1, none⟩ (.int .i64 s) = wz := ⟨_, rfl⟩
        have Gz : Blk wz wr.heap.size 62 #[.int .i64 f, .int .i64 s] := by rw [← hwz]; exact G4.set_ 1 _
        have hBz : Below wr.heap.size wr wz := by rw [← hwz]; exact bl_set hB4 (Nat.le_refl _) _
        have Gz2 := Gz
        have g0 : wz.cell? ⟨wr.heap.size, 0, none⟩ = some (.int .i64 f) := Gz.c0
        have g1 : wz.cell? ⟨wr.heap.size, 1, none⟩ = some (.int .i64 s) := Gz.c1
        by_cases hs0 : 0 ≤ s
        · by_cases hs1 : s ≤ 200000
          · have Hs2 : Hid (xs ++ [⟨(f : Int), s⟩] = toldK c t off x (k + 1)) := by rw [Hid, toldK_succ Hx.out, ← Hf.out, Hsh.out, if_pos (by simp [inB]; omega)]
            have hd0 : decide (0 ≤ s) = true := decide_eq_true hs0
            have hd1 : decide (s ≤ 200000) = true := decide_eq_true hs1
            have Oz := HO.out.bl hBz
            have o2 : wz.cell? ⟨w.heap.size + 1 + 1, 2, none⟩ = some (.slice Ad kk cap) := Oz.cell 2
            have hOz := hOw.below MeasR.good hBz
            have hsz2 := hBz.size
            have hne2 : some (w.heap.size + 1 + 1) ≠ (Value.slice Ad kk cap).ownBlock := hOw.ne (.inl (by omega))
            go_wp2_with (at_builtin; refine wpList_append_n _ rfl _ _ _ rfl MeasR.good (w.heap.size + 3) 62 i0 _ 16 Tryd.underlying24 hi0 hz0 hz1 hz2 rfl (by omega) _ xs ⟨(f : Int), s⟩ kk Hl.out rfl (hOz.alloc MeasR.good _) ⟨_, 0, none⟩ 1 [.int .i64 f, .int .i64 s] rfl rfl (news_new rfl rfl) ?c1 ?c2 ?c3 (fun h => h) ?_)
            case c1 => simp only [maxLen]; omega
            case c2 => omega
            case c3 => simp; omega
            intro A2 cap2 w5 hO2 hg2 _
            have hB5 : Below w.heap.size w w5 := bl_grown (bl_alloc (bl_call HB.out hBz (by omega)) _ (Nat.le_refl _)) (hOz.alloc MeasR.good _) hg2 (by omega) (Nat.le_refl _)
            have hX5 : Blk w5 w.heap.size 26 #[.slice (some ⟨bf, of_, none⟩) n ca, .slice B m cb, .slice (some ⟨bm, om, none⟩) q cc] := ((HX.out.bl hBz).alloc _).grown hg2 (hOw.ne (.inl (by omega)))
            have hR5 : Blk w5 (w.heap.size + 1) 26 #[.slice none 0 0, .slice none 0 0, .slice none 0 0] := ((HR.out.bl hBz).alloc _).grown hg2 (hOw.ne (.inl (by omega)))
            have hO5 : Blk w5 (w.heap.size + 1 + 1) 26 #[.slice (some ⟨bf, of_, none⟩) n ca, .slice B m cb, .slice Ad kk cap] := (Oz.alloc _).grown hg2 hne2
            have hs5 : w.heap.size + 3 ≤ w5.heap.size := by have := hO5.lt; have := (OwnL.block hO2 A2 rfl).2; have := hB5.size; have := hg2.size; simp at this; omega
            have HX5 := Lib.hid hX5
            have HR5 := Lib.hid hR5
            have HO5 := Lib.hid hO5
            have HB5 := Lib.hid hB5
            have HO2 := Lib.hid hO2
            have y1 := hO5.frozen 2
            have y2 := hO5.lt
            have y0 : w5.cell? ⟨w.heap.size + 1 + 1, 2, none⟩ = some (.slice Ad kk cap) := hO5.cell 2
            clear hX5 hR5 hO5 hB5 hO2 hg2 hOz g0 g1 Gz Gz2 o2 Oz
            go_wp2
            go_roundw
            case rel => exact ⟨k + 1, kk + 1, cap2, _, _, by omega, by go_num, by omega, by rw [Hid, List.length_append, Hl.out]; rfl, own_far MeasR.good HO2.out (fun h => h) (by omega) _ _, HX5.out.far (by first | omega | (dsimp only; omega)) _, HR5.out.far (by first | omega | (dsimp only; omega)) _, HO5.out.set_ 2 _, bl_set HB5.out (by first | omega | (dsimp only; omega)) _, by simpa using hs5, Hs2⟩
            case measure => simp [intOf]; omega
          · have Hs2 : Hid (xs = toldK c t off x (k + 1)) := by rw [Hid, toldK_succ Hx.out, ← Hf.out, Hsh.out, if_neg (by simp [inB]; omega), List.append_nil]
            have hd0 : decide (0 ≤ s) = true := decide_eq_true hs0
            have hd1 : decide (s ≤ 200000) = false := decide_eq_false hs1
            go_wp2
            go_roundw
            case rel => exact ⟨k + 1, kk, cap, Ad, xs, by omega, by go_num, by omega, Hl, hOw.below MeasR.good hBz, HX.out.bl hBz, HR.out.bl hBz, HO.out.bl hBz, bl_call HB.out hBz (by omega), Nat.le_trans hsz hBz.size, Hs2⟩
            case measure => simp [intOf]; omega
        · have Hs2 : Hid (xs = toldK c t off x (k + 1)) := by rw [Hid, toldK_succ Hx.out, ← Hf.out, Hsh.out, if_neg (by simp [inB]; omega), List.append_nil]
          have hd0 : decide (0 ≤ s) = false := decide_eq_false hs0
          go_wp2
          go_roundw
          case rel => exact ⟨k + 1, kk, cap, Ad, xs, by omega, by go_num, by omega, Hl, hOw.below MeasR.good hBz, HX.out.bl hBz, HR.out.bl hBz, HO.out.bl hBz, bl_call HB.out hBz (by omega), Nat.le_trans hsz hBz.size, Hs2⟩
          case measure => simp [intOf]; omega
    · obtain rfl : q = k := by omega
      have hki : ¬ (q : Int) < q := by omega
      have hr0 := hRb.frozen 0
      have hr1 := hRb.frozen 1
      have hr2 := hRb.frozen 2
      have hrl := hRb.lt
      have hx2' : wr.cell? ⟨w.heap.size, 2, none⟩ = some (.slice C q cc) := hXb.cell 2
      have hxl := hXb.lt
      have hq0 : wr.cell? ⟨w.heap.size + 1, 0, none⟩ = some (.slice none 0 0) := hRb.cell 0
      have hq1 : wr.cell? ⟨w.heap.size + 1, 1, none⟩ = some (.slice none 0 0) := hRb.cell 1
      have hq2 : wr.cell? ⟨w.heap.size + 1, 2, none⟩ = some (.slice none 0 0) := hRb.cell 2
      have hy0 : wr.cell? ⟨w.heap.size + 1 + 1, 0, none⟩ = some (.slice A n ca) := hOb.cell 0
      have hy1 : wr.cell? ⟨w.heap.size + 1 + 1, 1, none⟩ = some (.slice B m cb) := hOb.cell 1
      have hy2 : wr.cell? ⟨w.heap.size + 1 + 1, 2, none⟩ = some (.slice Ad kk cap) := hOb.cell 2
      have hol := hOb.lt
      have HOW := Lib.hid hOw
      have Hf2 : Hid (xs = toldK c t off x c.meas.length) := by rw [Hid, Hf.out, Hq.out]
      clear hXb hRb hOb hBb hOw
      go_wp2
      obtain ⟨WE, hWE⟩ : ∃ WE, (((wr.setCell ⟨w.heap.size + 1, 0, none⟩ (.slice A n ca)).setCell ⟨w.heap.size + 1, 1, none⟩ (.slice B m cb)).setCell ⟨w.heap.size + 1, 2, none⟩ (.slice Ad kk cap)) = WE := ⟨_, rfl⟩
      have hE : Blk WE (w.heap.size + 1) 26 #[.slice A n ca, .slice B m cb, .slice Ad kk cap] := by rw [← hWE]; exact ((HR.out.set_ 0 _).set_ 1 _).set_ 2 _
      have hBE : Below w.heap.size w WE := by rw [← hWE]; exact bl_set (bl_set (bl_set HB.out (by dsimp only; omega) _) (by dsimp only; omega) _) (by dsimp only; omega) _
      have hOE : OwnL MeasR 2 (fun _ => False) WE (w.heap.size + 3) 62 (.slice Ad kk cap) xs := by
        rw [← hWE]
        exact own_far MeasR.good (own_far MeasR.good (own_far MeasR.good HOW.out (fun h => h) (by omega) _ _) (fun h => h) (by omega) _ _) (fun h => h) (by omega) _ _
      rw [hWE]
      have hcE := hbn.keep (Keeps.below hBE)
      have hCC := meas_own hOE (by omega)
      rw [Hf2.out] at hCC
      refine bodyPost_ret (ret_claim1 rfl rfl (hE.cell 0) (hE.cell 1) (hE.cell 2)) rfl ?_
      exact ⟨_, _, ⟨_, rfl⟩, ⟨hcE.fs.mono FeatR.good (fun _ _ => trivial), hcE.cs.mono CauseR.good (fun _ _ => trivial), hCC⟩, hBE⟩
end Go.Proofs.YtkbpmcpmcmnfgaaDoor

namespace Go.Proofs.YtkbpmcpmcmnfgaaDoor
open Go.RowKit

/-- a slice of the call's own, grown to n; its block is the old one or a new one -/
def GrownW {α : Type} (R : Rd α) (m : Nat) (S : Foot) (base : Nat) (e : TypeId) (n : Nat) (xs : List α) (own0 : Option Nat) (B0 : Nat) (v : Value) (W : World) : Prop := ∃ A cap, v = .slice (some ⟨A, 0, none⟩) n cap ∧ OwnL R m S W base e v xs ∧ (own0 = some A ∨ B0 ≤ A)
theorem GrownW.keep {α : Type} {R : Rd α} {m : Nat} {S : Foot} {base : Nat} {e : TypeId} {n : Nat} {xs : List α} {own0 : Option Nat} {B0 : Nat} {v : Value} {W V : World} {bb : Bool} {row : Option Nat} (g : R.Good m) (h : GrownW R m S base e n xs own0 B0 v W) (hb : bb = true) (hk : Kept (fun j => bb = false ∧ row = some j) W V) : GrownW R m S base e n xs own0 B0 v V := by
  obtain ⟨A, cap, hv, hO, ha⟩ := h
  subst hb
  exact ⟨A, cap, hv, hO.keep g (hk.keeps (fun k _ h => by cases h.1)), ha⟩
theorem wp_append_elW {P : Program} {o : Oper} {a : Act} {K : Act → World → Prop} {Q : Exit → Act → World → Prop} (w : World) (hgd : o.guard = none) (s x : Operand) (t : TypeId)
    (ho : o.op = .call { callee := .builtin .append, args := #[s, x], argTypes := #[t, t] })
    {α : Type} {R : Rd α} {m : Nat} (g : R.Good m) {S : Foot} (base : Nat) (e : TypeId) (i : TypeInfo) (z : Value) (bytes : Nat) (ht : P.underlying t = some (.slice e)) (hi : P.info? e = some i) (hz : i.zero = some z)
    (hsize : i.size = m) (hby : i.bytes = bytes) (hzs : z.cells.size = m) (hsz : 0 < m)
    (v : Value) (xs : List α) (y : α) (n : Nat) (hn : xs.length = n) (hs : a.eval s = v) (hown : OwnL R m S w base e v xs)
    (gb c : Nat) (news : List Value) (hx : a.eval x = .slice (some ⟨gb, 0, none⟩) 1 c) (hR : R S w y news) (hB : Blk w gb e news.toArray)
    (h63 : n + 1 ≤ maxLen) (hbytes : (n + 1) * bytes ≤ 140737488355328) (hbase : base ≤ w.heap.size) (hS : ¬ S w.heap.size)
    (h : ∀ A' cap' w', OwnL R m S w' base e (.slice (some ⟨A', 0, none⟩) (n + 1) cap') (xs ++ [y]) → w.grownBy w' v.ownBlock → (v.ownBlock = some A' ∨ A' = w.heap.size) → K (a.put o.dst (.slice (some ⟨A', 0, none⟩) (n + 1) cap')) w') : o.wp P a w K Q := by
  have hw : Region.wanted o (yielded #[] a.tmps) = true := by simp [Region.wanted, hgd]
  have := step_append_n (P := P) (ops := #[]) (o := o) (a := a) (K := K) (Q := Q) (E := True) w hgd s x t ho g base e i z bytes ht hi hz hsize hby hzs hsz v xs y n hn hs hown ⟨gb, 0, none⟩ c news hx hR (fun j u hu => by
    have hadd : (⟨gb, 0, none⟩ : Addr).add j = ⟨gb, j, none⟩ := by unfold Addr.add; split <;> simp_all
    rw [hadd, hB.cell j]; simpa using hu) h63 hbytes hbase hS (fun A' cap' w' h1 h2 h3 => h A' cap' w' h1 h2 h3)
  rw [if_pos hw] at this
  exact this

end Go.Proofs.YtkbpmcpmcmnfgaaDoor
