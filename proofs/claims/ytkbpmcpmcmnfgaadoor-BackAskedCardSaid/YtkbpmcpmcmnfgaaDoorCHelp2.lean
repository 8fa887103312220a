/- Walks: a claim whose measures are made of a truth. -/
import Derived.Test.YtkbpmcpmcmnfgaaDoorCHelp1
import Derived.Test.YtkbpmcpmcmnfgaaDoorCLaw5
import Derived.Test.YtkbpmcpmcmnfgaaDoorCLaws
import Derived.Test.YtkbpmcpmcmnfgaaDoorCRange
set_option linter.unusedVariables false
set_option linter.unusedSimpArgs false
set_option linter.all false
namespace Go.Proofs.YtkbpmcpmcmnfgaaDoor
open Go.RowKit

/-- what the measure number i shows -/
def shownAt (c : Claim) (t off : List Int) (x : Int) (i : Nat) (y : Meas) : Int :=
  if x / 2 ^ i % 2 = 1 then len c t y.feature.toNat + (c.feats.getD y.feature.toNat dFeat).err + 1 + turnR off i
  else len c t y.feature.toNat + turnR off i % (2 * (c.feats.getD y.feature.toNat dFeat).err + 1) - (c.feats.getD y.feature.toNat dFeat).err
def toldK (c : Claim) (t off : List Int) (x : Int) (k : Nat) : List Meas := ((List.range k).filter fun i => inB (shownAt c t off x i (c.meas.getD i dMeas)) 0 200000).map fun i => ⟨(c.meas.getD i dMeas).feature, shownAt c t off x i (c.meas.getD i dMeas)⟩
def toldC (c : Claim) (t off : List Int) (x : Int) : Claim := { c with meas := toldK c t off x c.meas.length }
theorem toldK_succ {c : Claim} {t off : List Int} {x : Int} {k : Nat} {y : Meas} (h : c.meas[k]? = some y) : toldK c t off x (k + 1) = toldK c t off x k ++ if inB (shownAt c t off x k y) 0 200000 = true then [⟨y.feature, shownAt c t off x k y⟩] else [] := by
  unfold toldK
  rw [List.range_succ, List.filter_append, List.map_append]
  congr 1
  by_cases hk : inB (shownAt c t off x k y) 0 200000 = true
  · simp [hk, h]
  · simp [hk, h]
theorem bits_two (x : Int) (i : Nat) (h : 0 ≤ x) : ∃ y r : Int, x / 2 ^ i = y ∧ 0 ≤ y ∧ y ≤ x ∧ y % 2 = r ∧ Int.tmod y 2 = r ∧ (r = 0 ∨ r = 1) := by
  have h2 : (0 : Int) < 2 ^ i := Int.pow_pos (by decide)
  have h1 : 0 ≤ x / 2 ^ i := Int.ediv_nonneg h (Int.le_of_lt h2)
  exact ⟨_, _, rfl, h1, Int.ediv_le_self _ h, rfl, Int.tmod_eq_emod_of_nonneg h1, by omega⟩
theorem meas_own {W : World} {base : Nat} {e : TypeId} {A : Option Addr} {n cap : Nat} {xs : List Meas} (h : OwnL MeasR 2 (fun _ => False) W base e (.slice A n cap) xs) (hn : n ≤ 8) : Meass (fun _ => True) W A n xs :=
  h.slice MeasR.good rfl (by simp only [maxLen]; omega) (fun _ _ => trivial) (fun _ _ _ => trivial)

set_option maxRecDepth 100000 in
set_option maxHeartbeats 1600000 in
theorem told_any {S S2 : Foot} {A B C T X : Option Addr} {n ca m cb q cc nt ct nx cx : Nat} {c : Claim} {t off : List Int} (x : Int) (w : World) (h : ClaimAt (fun _ => True) w A n B m C q c) (hok : OkC c) (hT : Ints S w T nt t) (htr : TruthOk c t) (hX : Bytes S2 w X nx off) (hx1 : 0 ≤ x) (hx2 : x < 256) :
    Calls Tryd.prog 39 #[.agg #[.slice A n ca, .slice B m cb, .slice C q cc], .slice T nt ct, .slice X nx cx, .int .u8 x] w fun e w' => ∃ C' q' cq', e = .returned (.agg #[.slice A n ca, .slice B m cb, .slice C' q' cq']) ∧ ClaimAt (fun _ => True) w' A n B m C' q' (toldC c t off x) ∧ Below w.heap.size w w' := by
  obtain ⟨i0, hi0, hz0, hz1, hz2⟩ := info_parts infoMeas
  have Hq := Lib.hid h.ms.len
  have hq8 : q ≤ 8 := by rw [← Hq.out]; exact hok.nm
  have hbn := claim_bnd h
  go_enter Tryd.func39, Tryd.ntmps39
  go_wp2
  obtain ⟨wa, hwa⟩ : ∃ wa : World, ((w.alloc (.cells #[.slice A n ca, .slice B m cb, .slice C q cc] 26)).alloc (.cells #[.slice none 0 0, .slice none 0 0, .slice none 0 0] 26)).alloc (.cells #[.slice A n ca, .slice B m cb, .slice none 0 0] 26) = wa := ⟨_, rfl⟩
  have hX0 : Blk wa w.heap.size 26 #[.slice A n ca, .slice B m cb, .slice C q cc] := by rw [← hwa]; exact ((Blk.new _ _ _ rfl).alloc _).alloc _
  have hR : Blk wa (w.heap.size + 1) 26 #[.slice none 0 0, .slice none 0 0, .slice none 0 0] := by rw [← hwa]; exact (Blk.new _ _ _ (by simp)).alloc _
  have hO : Blk wa (w.heap.size + 1 + 1) 26 #[.slice A n ca, .slice B m cb, .slice none 0 0] := by rw [← hwa]; exact Blk.new _ _ _ (by simp)
  have hBa : Below w.heap.size w wa := by rw [← hwa]; exact bl_alloc (bl_alloc (bl_alloc (Below.refl _ _) _ (Nat.le_refl _)) _ (Nat.le_refl _)) _ (Nat.le_refl _)
  have hsa : wa.heap.size = w.heap.size + 1 + 1 + 1 := by rw [← hwa]; simp
  rw [hwa]
  clear hwa
  have hsz : w.heap.size + 3 ≤ wa.heap.size := by omega
  clear hsa
  go_loopw [10] (fun i wr => ∃ (k kk cap : Nat) (Ad : Option Addr) (xs : List Meas), k ≤ q ∧ i = .int .i64 k ∧ kk ≤ k ∧ Hid (xs.length = kk) ∧ OwnL MeasR 2 (fun _ => False) wr (w.heap.size + 3) 62 (.slice Ad kk cap) xs ∧
    Blk wr w.heap.size 26 #[.slice A n ca, .slice B m cb, .slice C q cc] ∧ Blk wr (w.heap.size + 1) 26 #[.slice none 0 0, .slice none 0 0, .slice none 0 0] ∧ Blk wr (w.heap.size + 1 + 1) 26 #[.slice A n ca, .slice B m cb, .slice Ad kk cap] ∧
    Below w.heap.size w wr ∧ w.heap.size + 3 ≤ wr.heap.size ∧ Hid (xs = toldK c t off x k)) (fun i _ => q - (intOf i).toNat)
  case atStart => exact ⟨0, 0, 0, none, [], Nat.zero_le _, rfl, Nat.le_refl _, rfl, OwnL.nil _ _ _ _ _ _, hX0, hR, hO, hBa, hsz, rfl⟩
  case round =>
    obtain ⟨k, kk, cap, Ad, xs, hk, rfl, hkk, Hl, hOw, hXb, hRb, hOb, hBb, hsz, Hf⟩ := hrel
    have HX := Lib.hid hXb
    have HR := Lib.hid hRb
    have HO := Lib.hid hOb
    have HB := Lib.hid hBb
    by_cases hlt : k < q
    · have hki : (k : Int) < q := by omega
      have hcr := hbn.keep (Keeps.below hBb)
      have hTr := hT.keep IntR.good (Keeps.below hBb)
      have hXr := hX.keep U8R.good (Keeps.below hBb)
      obtain ⟨bm, om, fi, z, rfl, hbm, hcm0, hcm1, Hx⟩ := hcr.ms.get hlt
      obtain ⟨hf0, hf1, hz0', hz1'⟩ := hok.meas Hx.out
      dsimp only at hf0 hf1 hz0' hz1'
      obtain ⟨f, rfl⟩ := Int.eq_ofNat_of_zero_le hf0
      have hfl : f < c.feats.length := by omega
      have hfn : f < n := by rw [← h.fs.len]; exact hfl
      have hfi : (f : Int) < n := by omega
      have hfi0 : (0 : Int) ≤ f := by omega
      obtain ⟨bf, of_, sf, nom, er, rfl, hbf, hcf0, hcf1, hcf2, _, HF⟩ := hcr.fs.get hfn
      obtain ⟨_, _, he1, he2⟩ := hok.feat HF.out
      dsimp only at he1 he2
      have hLb := len_bd hok htr hfl
      obtain ⟨L, hL⟩ : ∃ L, len c t f = L := ⟨_, rfl⟩
      rw [hL] at hLb
      obtain ⟨hL1, hL2⟩ := hLb
      obtain ⟨y, hy, hy256⟩ := turnR_byte hX k
      have HL := Lib.hid hL
      have HY := Lib.hid hy
      have hk64 : (k : Int) < 9223372036854775808 := by omega
      obtain ⟨b2, r2, hb2, hb20, hb21, hr1, hr2, hr01⟩ := bits_two x k hx1
      have Hb2 := Lib.hid hb2
      have Hr2 := Lib.hid hr1
      have q0 : wr.cell? ⟨w.heap.size, 0, none⟩ = some (.slice (some ⟨bf, of_, none⟩) n ca) := hXb.cell 0
      have q1 : wr.cell? ⟨w.heap.size, 1, none⟩ = some (.slice B m cb) := hXb.cell 1
      have q2 : wr.cell? ⟨w.heap.size, 2, none⟩ = some (.slice (some ⟨bm, om, none⟩) q cc) := hXb.cell 2
      have Her : Hid ((c.feats.getD f dFeat).err = er) := by rw [Hid, getD_of HF.out]
      have hxl := hXb.lt
      obtain ⟨d, hd⟩ : ∃ d : Int, 2 * er + 1 = d := ⟨_, rfl⟩
      have hdb : 1 ≤ d ∧ d ≤ 201 := by omega
      have hd0' : (d == 0) = false := by simp; omega
      have hd1' : ¬ d = 0 := by omega
      have hw1 : IntKind.i64.wrap (2 * er) = 2 * er := by rw [IntKind.wrap_i64]; omega
      have hw2 : IntKind.i64.wrap (2 * er + 1) = d := by rw [hd]; rw [IntKind.wrap_i64]; omega
      obtain ⟨v, hv⟩ : ∃ v : Int, (y : Int) % d = v := ⟨_, rfl⟩
      have hvb : 0 ≤ v ∧ v < d := ⟨by rw [← hv]; exact Int.emod_nonneg _ hd1', by rw [← hv]; exact Int.emod_lt_of_pos _ (by omega)⟩
      have hw3 : Int.tmod (y : Int) d = v := by rw [← hv]; exact Int.tmod_eq_emod_of_nonneg (by omega)
      have hw4 : IntKind.i64.wrap v = v := by rw [IntKind.wrap_i64]; omega
      have hw5 : IntKind.i64.wrap (L + v) = L + v := by rw [IntKind.wrap_i64]; omega
      have hw6 : IntKind.i64.wrap (L + v - er) = L + v - er := by rw [IntKind.wrap_i64]; omega
      have hw7 : IntKind.i64.wrap (L + er) = L + er := by rw [IntKind.wrap_i64]; omega
      have hw8 : IntKind.i64.wrap (L + er + 1) = L + er + 1 := by rw [IntKind.wrap_i64]; omega
      have hw9 : IntKind.i64.wrap (L + er + 1 + y) = L + er + 1 + y := by rw [IntKind.wrap_i64]; omega
      have Hd := Lib.hid hd
      have Hv := Lib.hid hv
      clear hL hy hd hv hcf0 hcf1 hXb hRb hOb hBb
      go_wp2_with fail
      obtain ⟨w1, hw1'⟩ : ∃ w1, wr.alloc (.cells #[.int .i64 f, .int .i64 z] 62) = w1 := ⟨_, rfl⟩
      have hB1 : Below wr.heap.size wr w1 := by rw [← hw1']; exact bl_alloc (Below.refl _ _) _ (Nat.le_refl _)
      have G1 : Blk w1 wr.heap.size 62 #[.int .i64 f, .int .i64 z] := by rw [← hw1']; exact Blk.new _ _ _ rfl
      rw [hw1']
      clear hw1'
      refine (length_any f w1 (hcr.keep (Keeps.below hB1)) hok (hTr.keep IntR.good (Keeps.below hB1)) htr hfl).mono ?_
      rintro e w2 ⟨rfl, k2⟩
      rw [HL.out]
      have hB2 := bl_call hB1 k2 (Nat.le_refl _)
      have G2 := G1.bl k2
      clear k2 G1 hB1
      go_wp2_with fail
      refine (turn_any k w2 (hXr.keep U8R.good (Keeps.below hB2)) hk64).mono ?_
      rintro e w' ⟨rfl, rfl⟩
      rw [HY.out]
      have z0 : w2.cell? ⟨wr.heap.size, 0, none⟩ = some (.int .i64 f) := G2.c0
      have z1 : w2.cell? ⟨wr.heap.size, 1, none⟩ = some (.int .i64 z) := G2.c1
      have z2 := G2.frozen 1
      have z3 := G2.lt
      rcases hr01 with rfl | rfl
      · obtain ⟨s, hs⟩ : ∃ s, L + v - er = s := ⟨_, rfl⟩
        have Hsh : Hid (shownAt c t off x k ⟨(f : Int), z⟩ = s) := by
          rw [Hid, shownAt, Hb2.out, Hr2.out, if_neg (by decide)]
          show len c t f + turnR off k % (2 * (c.feats.getD f dFeat).err + 1) - (c.feats.getD f dFeat).err = s
          rw [HL.out, Her.out, HY.out, Hd.out, Hv.out, hs]
        have hw6' : IntKind.i64.wrap (L + v - er) = s := by rw [hw6, hs]
        clear hs hw6
        obtain ⟨wz, hwz⟩ : ∃ wz, w2.setCell ⟨wr.heap.size, 1, none⟩ (.int .i64 s) = wz := ⟨_, rfl⟩
        have Gz : Blk wz wr.heap.size 62 #[.int .i64 f, .int .i64 s] := by rw [← hwz]; exact G2.set_ 1 _
        have hBz : Below wr.heap.size wr wz := by rw [← hwz]; exact bl_set hB2 (Nat.le_refl _) _
        have Gz2 := Gz
        have g0 : wz.cell? ⟨wr.heap.size, 0, none⟩ = some (.int .i64 f) := Gz.c0
        have g1 : wz.cell? ⟨wr.heap.size, 1, none⟩ = some (.int .i64 s) := Gz.c1
        by_cases hs0 : 0 ≤ s
        · by_cases hs1 : s ≤ 200000
          · have Hs2 : Hid (xs ++ [⟨(f : Int), s⟩] = toldK c t off x (k + 1)) := by rw [Hid, toldK_succ Hx.out, ← Hf.out, Hsh.out, if_pos (by simp [inB]; omega)]
            have hd0 : decide (0 ≤ s) = true := decide_eq_true hs0
            have hd1 : decide (s ≤ 200000) = true := decide_eq_true hs1
            have Oz := HO.out.bl hBz
            have o2 : wz.cell? ⟨w.heap.size + 1 + 1, 2, none⟩ = some (.slice Ad kk cap) := Oz.cell 2
            have hOz := hOw.below MeasR.good hBz
            have hsz2 := hBz.size
            have hne2 : some (w.heap.size + 1 + 1) ≠ (Value.slice Ad kk cap).ownBlock := hOw.ne (.inl (by omega))
            go_wp2_with (at_builtin; refine wpList_append_n _ rfl _ _ _ rfl MeasR.good (w.heap.size + 3) 62 i0 _ 16 Tryd.underlying24 hi0 hz0 hz1 hz2 rfl (by omega) _ xs ⟨(f : Int), s⟩ kk Hl.out rfl (hOz.alloc MeasR.good _) ⟨_, 0, none⟩ 1 [.int .i64 f, .int .i64 s] rfl rfl (news_new rfl rfl) ?c1 ?c2 ?c3 (fun h => h) ?_)
            case c1 => simp only [maxLen]; omega
            case c2 => omega
            case c3 => simp; omega
            intro A2 cap2 w5 hO2 hg2 _
            have hB5 : Below w.heap.size w w5 := bl_grown (bl_alloc (bl_call HB.out hBz (by omega)) _ (Nat.le_refl _)) (hOz.alloc MeasR.good _) hg2 (by omega) (Nat.le_refl _)
            have hX5 : Blk w5 w.heap.size 26 #[.slice (some ⟨bf, of_, none⟩) n ca, .slice B m cb, .slice (some ⟨bm, om, none⟩) q cc] := ((HX.out.bl hBz).alloc _).grown hg2 (hOw.ne (.inl (by omega)))
            have hR5 : Blk w5 (w.heap.size + 1) 26 #[.slice none 0 0, .slice none 0 0, .slice none 0 0] := ((HR.out.bl hBz).alloc _).grown hg2 (hOw.ne (.inl (by omega)))
            have hO5 : Blk w5 (w.heap.size + 1 + 1) 26 #[.slice (some ⟨bf, of_, none⟩) n ca, .slice B m cb, .slice Ad kk cap] := (Oz.alloc _).grown hg2 hne2
            have hs5 : w.heap.size + 3 ≤ w5.heap.size := by have := hO5.lt; have := (OwnL.block hO2 A2 rfl).2; have := hB5.size; have := hg2.size; simp at this; omega
            have HX5 := Lib.hid hX5
            have HR5 := Lib.hid hR5
            have HO5 := Lib.hid hO5
            have HB5 := Lib.hid hB5
            have HO2 := Lib.hid hO2
            have y1 := hO5.frozen 2
            have y2 := hO5.lt
            have y0 : w5.cell? ⟨w.heap.size + 1 + 1, 2, none⟩ = some (.slice Ad kk cap) := hO5.cell 2
            clear hX5 hR5 hO5 hB5 hO2 hg2 hOz g0 g1 Gz Gz2 o2 Oz
            go_wp2
            go_roundw
            case rel => exact ⟨k + 1, kk + 1, cap2, _, _, by omega, by go_num, by omega, by rw [Hid, List.length_append, Hl.out]; rfl, own_far MeasR.good HO2.out (fun h => h) (by omega) _ _, HX5.out.far (by first | omega | (dsimp only; omega)) _, HR5.out.far (by first | omega | (dsimp only; omega)) _, HO5.out.set_ 2 _, bl_set HB5.out (by first | omega | (dsimp only; omega)) _, by simpa using hs5, Hs2⟩
            case measure => simp [intOf]; omega
          · have Hs2 : Hid (xs = toldK c t off x (k + 1)) := by rw [Hid, toldK_succ Hx.out, ← Hf.out, Hsh.out, if_neg (by simp [inB]; omega), List.append_nil]
            have hd0 : decide (0 ≤ s) = true := decide_eq_true hs0
            have hd1 : decide (s ≤ 200000) = false := decide_eq_false hs1
            go_wp2
            go_roundw
            case rel => exact ⟨k + 1, kk, cap, Ad, xs, by omega, by go_num, by omega, Hl, hOw.below MeasR.good hBz, HX.out.bl hBz, HR.out.bl hBz, HO.out.bl hBz, bl_call HB.out hBz (by omega), Nat.le_trans hsz hBz.size, Hs2⟩
            case measure => simp [intOf]; omega
        · have Hs2 : Hid (xs = toldK c t off x (k + 1)) := by rw [Hid, toldK_succ Hx.out, ← Hf.out, Hsh.out, if_neg (by simp [inB]; omega), List.append_nil]
          have hd0 : decide (0 ≤ s) = false := decide_eq_false hs0
          go_wp2
          go_roundw
          case rel => exact ⟨k + 1, kk, cap, Ad, xs, by omega, by go_num, by omega, Hl, hOw.below MeasR.good hBz, HX.out.bl hBz, HR.out.bl hBz, HO.out.bl hBz, bl_call HB.out hBz (by omega), Nat.le_trans hsz hBz.size, Hs2⟩
          case measure => simp [intOf]; omega
      · obtain ⟨s1, hs1⟩ : ∃ s1, L + v - er = s1 := ⟨_, rfl⟩
        have hw6' : IntKind.i64.wrap (L + v - er) = s1 := by rw [hw6, hs1]
        clear hs1 hw6
        obtain ⟨w3, hw3'⟩ : ∃ w3, w2.setCell ⟨wr.heap.size, 1, none⟩ (.int .i64 s1) = w3 := ⟨_, rfl⟩
        have G3 : Blk w3 wr.heap.size 62 #[.int .i64 f, .int .i64 s1] := by rw [← hw3']; exact G2.set_ 1 _
        have hB3 : Below wr.heap.size wr w3 := by rw [← hw3']; exact bl_set hB2 (Nat.le_refl _) _
        have r0 := getc hB3 q0
        have r1 := getc hB3 q1
        have r2 := getc hB3 q2
        have r3 : w3.cell? ⟨wr.heap.size, 0, none⟩ = some (.int .i64 f) := G3.c0
        go_wp2_with fail
        clear hw3' z0 z1 z2 z3
        refine (length_any f w3 (hcr.keep (Keeps.below hB3)) hok (hTr.keep IntR.good (Keeps.below hB3)) htr hfl).mono ?_
        rintro e w4 ⟨rfl, k4⟩
        rw [HL.out]
        have hB4 := bl_call hB3 k4 (Nat.le_refl _)
        have G4 := G3.bl k4
        clear k4 G3 hB3 r0 r1 r2 r3
        go_wp2_with fail
        refine (turn_any k w4 (hXr.keep U8R.good (Keeps.below hB4)) hk64).mono ?_
        rintro e w' ⟨rfl, rfl⟩
        rw [HY.out]
        have z0 : w4.cell? ⟨wr.heap.size, 0, none⟩ = some (.int .i64 f) := G4.c0
        have z1 : w4.cell? ⟨wr.heap.size, 1, none⟩ = some (.int .i64 s1) := G4.c1
        have z2 := G4.frozen 1
        have z3 := G4.lt
        obtain ⟨s, hs⟩ : ∃ s, L + er + 1 + y = s := ⟨_, rfl⟩
        have Hsh : Hid (shownAt c t off x k ⟨(f : Int), z⟩ = s) := by
          rw [Hid, shownAt, Hb2.out, Hr2.out, if_pos (by decide)]
          show len c t f + (c.feats.getD f dFeat).err + 1 + turnR off k = s
          rw [HL.out, Her.out, HY.out, hs]
        have hw9' : IntKind.i64.wrap (L + er + 1 + y) = s := by rw [hw9, hs]
        clear hs hw9
        obtain ⟨wz, hwz⟩ : ∃ wz, w4.setCell ⟨wr.heap.size, 1, none⟩ (.int .i64 s) = wz := ⟨_, rfl⟩
        have Gz : Blk wz wr.heap.size 62 #[.int .i64 f, .int .i64 s] := by rw [← hwz]; exact G4.set_ 1 _
        have hBz : Below wr.heap.size wr wz := by rw [← hwz]; exact bl_set hB4 (Nat.le_refl _) _
        have Gz2 := Gz
        have g0 : wz.cell? ⟨wr.heap.size, 0, none⟩ = some (.int .i64 f) := Gz.c0
        have g1 : wz.cell? ⟨wr.heap.size, 1, none⟩ = some (.int .i64 s) := Gz.c1
        by_cases hs0 : 0 ≤ s
        · by_cases hs1 : s ≤ 200000
          · have Hs2 : Hid (xs ++ [⟨(f : Int), s⟩] = toldK c t off x (k + 1)) := by rw [Hid, toldK_succ Hx.out, ← Hf.out, Hsh.out, if_pos (by simp [inB]; omega)]
            have hd0 : decide (0 ≤ s) = true := decide_eq_true hs0
            have hd1 : decide (s ≤ 200000) = true := decide_eq_true hs1
            have Oz := HO.out.bl hBz
            have o2 : wz.cell? ⟨w.heap.size + 1 + 1, 2, none⟩ = some (.slice Ad kk cap) := Oz.cell 2
            have hOz := hOw.below MeasR.good hBz
            have hsz2 := hBz.size
            have hne2 : some (w.heap.size + 1 + 1) ≠ (Value.slice Ad kk cap).ownBlock := hOw.ne (.inl (by omega))
            go_wp2_with (at_builtin; refine wpList_append_n _ rfl _ _ _ rfl MeasR.good (w.heap.size + 3) 62 i0 _ 16 Tryd.underlying24 hi0 hz0 hz1 hz2 rfl (by omega) _ xs ⟨(f : Int), s⟩ kk Hl.out rfl (hOz.alloc MeasR.good _) ⟨_, 0, none⟩ 1 [.int .i64 f, .int .i64 s] rfl rfl (news_new rfl rfl) ?c1 ?c2 ?c3 (fun h => h) ?_)
            case c1 => simp only [maxLen]; omega
            case c2 => omega
            case c3 => simp; omega
            intro A2 cap2 w5 hO2 hg2 _
            have hB5 : Below w.heap.size w w5 := bl_grown (bl_alloc (bl_call HB.out hBz (by omega)) _ (Nat.le_refl _)) (hOz.alloc MeasR.good _) hg2 (by omega) (Nat.le_refl _)
            have hX5 : Blk w5 w.heap.size 26 #[.slice (some ⟨bf, of_, none⟩) n ca, .slice B m cb, .slice (some ⟨bm, om, none⟩) q cc] := ((HX.out.bl hBz).alloc _).grown hg2 (hOw.ne (.inl (by omega)))
            have hR5 : Blk w5 (w.heap.size + 1) 26 #[.slice none 0 0, .slice none 0 0, .slice none 0 0] := ((HR.out.bl hBz).alloc _).grown hg2 (hOw.ne (.inl (by omega)))
            have hO5 : Blk w5 (w.heap.size + 1 + 1) 26 #[.slice (some ⟨bf, of_, none⟩) n ca, .slice B m cb, .slice Ad kk cap] := (Oz.alloc _).grown hg2 hne2
            have hs5 : w.heap.size + 3 ≤ w5.heap.size := by have := hO5.lt; have := (OwnL.block hO2 A2 rfl).2; have := hB5.size; have := hg2.size; simp at this; omega
            have HX5 := Lib.hid hX5
            have HR5 := Lib.hid hR5
            have HO5 := Lib.hid hO5
            have HB5 := Lib.hid hB5
            have HO2 := Lib.hid hO2
            have y1 := hO5.frozen 2
            have y2 := hO5.lt
            have y0 : w5.cell? ⟨w.heap.size + 1 + 1, 2, none⟩ = some (.slice Ad kk cap) := hO5.cell 2
            clear hX5 hR5 hO5 hB5 hO2 hg2 hOz g0 g1 Gz Gz2 o2 Oz
            go_wp2
            go_roundw
            case rel => exact ⟨k + 1, kk + 1, cap2, _, _, by omega, by go_num, by omega, by rw [Hid, List.length_append, Hl.out]; rfl, own_far MeasR.good HO2.out (fun h => h) (by omega) _ _, HX5.out.far (by first | omega | (dsimp only; omega)) _, HR5.out.far (by first | omega | (dsimp only; omega)) _, HO5.out.set_ 2 _, bl_set HB5.out (by first | omega | (dsimp only; omega)) _, by simpa using hs5, Hs2⟩
            case measure => simp [intOf]; omega
          · have Hs2 : Hid (xs = toldK c t off x (k + 1)) := by rw [Hid, toldK_succ Hx.out, ← Hf.out, Hsh.out, if_neg (by simp [inB]; omega), List.append_nil]
            have hd0 : decide (0 ≤ s) = true := decide_eq_true hs0
            have hd1 : decide (s ≤ 200000) = false := decide_eq_false hs1
            go_wp2
            go_roundw
            case rel => exact ⟨k + 1, kk, cap, Ad, xs, by omega, by go_num, by omega, Hl, hOw.below MeasR.good hBz, HX.out.bl hBz, HR.out.bl hBz, HO.out.bl hBz, bl_call HB.out hBz (by omega), Nat.le_trans hsz hBz.size, Hs2⟩
            case measure => simp [intOf]; omega
        · have Hs2 : Hid (xs = toldK c t off x (k + 1)) := by rw [Hid, toldK_succ Hx.out, ← Hf.out, Hsh.out, if_neg (by simp [inB]; omega), List.append_nil]
          have hd0 : decide (0 ≤ s) = false := decide_eq_false hs0
          go_wp2
          go_roundw
          case rel => exact ⟨k + 1, kk, cap, Ad, xs, by omega, by go_num, by omega, Hl, hOw.below MeasR.good hBz, HX.out.bl hBz, HR.out.bl hBz, HO.out.bl hBz, bl_call HB.out hBz (by omega), Nat.le_trans hsz hBz.size, Hs2⟩
          case measure => simp [intOf]; omega
    · obtain rfl : q = k := by omega
      have hki : ¬ (q : Int) < q := by omega
      have hr0 := hRb.frozen 0
      have hr1 := hRb.frozen 1
      have hr2 := hRb.frozen 2
      have hrl := hRb.lt
      have hx2' : wr.cell? ⟨w.heap.size, 2, none⟩ = some (.slice C q cc) := hXb.cell 2
      have hxl := hXb.lt
      have hq0 : wr.cell? ⟨w.heap.size + 1, 0, none⟩ = some (.slice none 0 0) := hRb.cell 0
      have hq1 : wr.cell? ⟨w.heap.size + 1, 1, none⟩ = some (.slice none 0 0) := hRb.cell 1
      have hq2 : wr.cell? ⟨w.heap.size + 1, 2, none⟩ = some (.slice none 0 0) := hRb.cell 2
      have hy0 : wr.cell? ⟨w.heap.size + 1 + 1, 0, none⟩ = some (.slice A n ca) := hOb.cell 0
      have hy1 : wr.cell? ⟨w.heap.size + 1 + 1, 1, none⟩ = some (.slice B m cb) := hOb.cell 1
      have hy2 : wr.cell? ⟨w.heap.size + 1 + 1, 2, none⟩ = some (.slice Ad kk cap) := hOb.cell 2
      have hol := hOb.lt
      have HOW := Lib.hid hOw
      have Hf2 : Hid (xs = toldK c t off x c.meas.length) := by rw [Hid, Hf.out, Hq.out]
      clear hXb hRb hOb hBb hOw
      go_wp2
      obtain ⟨WE, hWE⟩ : ∃ WE, (((wr.setCell ⟨w.heap.size + 1, 0, none⟩ (.slice A n ca)).setCell ⟨w.heap.size + 1, 1, none⟩ (.slice B m cb)).setCell ⟨w.heap.size + 1, 2, none⟩ (.slice Ad kk cap)) = WE := ⟨_, rfl⟩
      have hE : Blk WE (w.heap.size + 1) 26 #[.slice A n ca, .slice B m cb, .slice Ad kk cap] := by rw [← hWE]; exact ((HR.out.set_ 0 _).set_ 1 _).set_ 2 _
      have hBE : Below w.heap.size w WE := by rw [← hWE]; exact bl_set (bl_set (bl_set HB.out (by dsimp only; omega) _) (by dsimp only; omega) _) (by dsimp only; omega) _
      have hOE : OwnL MeasR 2 (fun _ => False) WE (w.heap.size + 3) 62 (.slice Ad kk cap) xs := by
        rw [← hWE]
        exact own_far MeasR.good (own_far MeasR.good (own_far MeasR.good HOW.out (fun h => h) (by omega) _ _) (fun h => h) (by omega) _ _) (fun h => h) (by omega) _ _
      rw [hWE]
      have hcE := hbn.keep (Keeps.below hBE)
      have hCC := meas_own hOE (by omega)
      rw [Hf2.out] at hCC
      refine bodyPost_ret (ret_claim1 rfl rfl (hE.cell 0) (hE.cell 1) (hE.cell 2)) rfl ?_
      exact ⟨_, _, ⟨_, rfl⟩, ⟨hcE.fs.mono FeatR.good (fun _ _ => trivial), hcE.cs.mono CauseR.good (fun _ _ => trivial), hCC⟩, hBE⟩
end Go.Proofs.YtkbpmcpmcmnfgaaDoor

namespace Go.Proofs.YtkbpmcpmcmnfgaaDoor
open Go.RowKit

/-- a slice of the call's own, grown to n; its block is the old one or a new one -/
def GrownW {α : Type} (R : Rd α) (m : Nat) (S : Foot) (base : Nat) (e : TypeId) (n : Nat) (xs : List α) (own0 : Option Nat) (B0 : Nat) (v : Value) (W : World) : Prop := ∃ A cap, v = .slice (some ⟨A, 0, none⟩) n cap ∧ OwnL R m S W base e v xs ∧ (own0 = some A ∨ B0 ≤ A)
theorem GrownW.keep {α : Type} {R : Rd α} {m : Nat} {S : Foot} {base : Nat} {e : TypeId} {n : Nat} {xs : List α} {own0 : Option Nat} {B0 : Nat} {v : Value} {W V : World} {bb : Bool} {row : Option Nat} (g : R.Good m) (h : GrownW R m S base e n xs own0 B0 v W) (hb : bb = true) (hk : Kept (fun j => bb = false ∧ row = some j) W V) : GrownW R m S base e n xs own0 B0 v V := by
  obtain ⟨A, cap, hv, hO, ha⟩ := h
  subst hb
  exact ⟨A, cap, hv, hO.keep g (hk.keeps (fun k _ h => by cases h.1)), ha⟩
theorem wp_append_elW {P : Program} {o : Oper} {a : Act} {K : Act → World → Prop} {Q : Exit → Act → World → Prop} (w : World) (hgd : o.guard = none) (s x : Operand) (t : TypeId)
    (ho : o.op = .call { callee := .builtin .append, args := #[s, x], argTypes := #[t, t] })
    {α : Type} {R : Rd α} {m : Nat} (g : R.Good m) {S : Foot} (base : Nat) (e : TypeId) (i : TypeInfo) (z : Value) (bytes : Nat) (ht : P.underlying t = some (.slice e)) (hi : P.info? e = some i) (hz : i.zero = some z)
    (hsize : i.size = m) (hby : i.bytes = bytes) (hzs : z.cells.size = m) (hsz : 0 < m)
    (v : Value) (xs : List α) (y : α) (n : Nat) (hn : xs.length = n) (hs : a.eval s = v) (hown : OwnL R m S w base e v xs)
    (gb c : Nat) (news : List Value) (hx : a.eval x = .slice (some ⟨gb, 0, none⟩) 1 c) (hR : R S w y news) (hB : Blk w gb e news.toArray)
    (h63 : n + 1 ≤ maxLen) (hbytes : (n + 1) * bytes ≤ 140737488355328) (hbase : base ≤ w.heap.size) (hS : ¬ S w.heap.size)
    (h : ∀ A' cap' w', OwnL R m S w' base e (.slice (some ⟨A', 0, none⟩) (n + 1) cap') (xs ++ [y]) → w.grownBy w' v.ownBlock → (v.ownBlock = some A' ∨ A' = w.heap.size) → K (a.put o.dst (.slice (some ⟨A', 0, none⟩) (n + 1) cap')) w') : o.wp P a w K Q := by
  have hw : Region.wanted o (yielded #[] a.tmps) = true := by simp [Region.wanted, hgd]
  have := step_append_n (P := P) (ops := #[]) (o := o) (a := a) (K := K) (Q := Q) (E := True) w hgd s x t ho g base e i z bytes ht hi hz hsize hby hzs hsz v xs y n hn hs hown ⟨gb, 0, none⟩ c news hx hR (fun j u hu => by
    have hadd : (⟨gb, 0, none⟩ : Addr).add j = ⟨gb, j, none⟩ := by unfold Addr.add; split <;> simp_all
    rw [hadd, hB.cell j]; simpa using hu) h63 hbytes hbase hS (fun A' cap' w' h1 h2 h3 => h A' cap' w' h1 h2 h3)
  rw [if_pos hw] at this
  exact this

end Go.Proofs.YtkbpmcpmcmnfgaaDoor

namespace Go.Proofs.YtkbpmcpmcmnfgaaDoor
open Go.RowKit

/-- what is asked of one operation, ahead of number j0 and behind it -/
def StepE3 (P : Program) (ops : Array Oper) (C : Bool → World → Prop) (X : Nat → Bool → World → World → Prop) (E : Bool → Nat → Value → World → Prop) (Q : Exit → Act → World → Prop) (a0 : Act) (j0 j : Nat) (o : Oper) : Prop :=
  ∀ (b : Bool) (vs : Nat → Value) (w : World), (j = j0 → b = false) → (∀ o0, ops[j0]? = some o0 → j ∈ waits o0 → b = false) → C b w → (∀ i ∈ waits o, E b i (vs i) w) → (∀ (i : Nat) (o' : Oper), ops[i]? = some o' → j ∈ waits o' → vs i = slot0 ops a0 i) → vs j = slot0 ops a0 j →
    Region.wanted o (yielded ops (fillA ops.toList 0 vs a0).tmps) = true ∧
      o.wp P (fillA ops.toList 0 vs a0) w (fun a' w' => ∃ v, a' = (fillA ops.toList 0 vs a0).put o.dst v ∧ C (if j = j0 then true else b) w' ∧ X j b w w' ∧ E (if j = j0 then true else b) j v w') Q

theorem wpAnyIn_env3 {F : Fence} {r : Option Nat} (hF : F = { Fence.wide with round := r }) {n : Nat} {P : Program} {ops : Array Oper} {C : Bool → World → Prop} {X : Nat → Bool → World → World → Prop} {E : Bool → Nat → Value → World → Prop} {Q : Exit → Act → World → Prop} {a0 : Act} {m j0 : Nat} (hj0 : j0 < m)
    (hsem : ∀ (j : Nat) (o : Oper), ops[j]? = some o → ∀ ρ, o.semAt r ρ = execOp ρ o) (hgood : goodB ops m = true) (hm1 : m ≤ ops.size)
    (stab : ∀ b j i v w w', (i = j0 → b = true) → i ≠ j → (j = j0 → b = false) → C b w → X j b w w' → E b i v w → E (if j = j0 then true else b) i v w')
    (step : ∀ (j : Nat) (o : Oper), j < m → ops[j]? = some o → StepE3 P ops C X E Q a0 j0 j o) (fin : FinE F n P ops (C true) (E true) Q a0 m) :
    ∀ (fuel : Nat) (listed : Array Bool) (vs : Nat → Value) (w : World), listed.size = ops.size → listed.toList.count false = fuel →
      (∀ (j : Nat) (o : Oper), listed[j]? = some true → ops[j]? = some o → ∀ i, i ∈ waits o → listed[i]? = some true) →
      (∀ i : Nat, listed[i]? = some true → E (listed.getD j0 false) i (vs i) w) → (∀ i : Nat, listed[i]? ≠ some true → vs i = slot0 ops a0 i) → (∀ i : Nat, m ≤ i → listed[i]? ≠ some true) → C (listed.getD j0 false) w →
      wpAnyIn F n P .any ops Q fuel listed (fillA ops.toList 0 vs a0) w := by
  simp only [goodB, Bool.and_eq_true, List.all_eq_true, List.mem_range, decide_eq_true_eq, Bool.or_eq_true, List.any_eq_true] at hgood
  obtain ⟨⟨⟨hg1, hg2⟩, hg3⟩, hg4⟩ := hgood
  have hold : ∀ (j : Nat) (o : Oper), ops[j]? = some o → ∀ i, i ∈ waits o → i < j := fun j o ho i hi => by
    have hj : j < ops.size := (Array.getElem?_eq_some_iff.1 ho).1
    have := hg1 j hj
    rw [ho] at this
    simp only [Option.map_some, Option.getD_some, List.all_eq_true, decide_eq_true_eq] at this
    exact this i hi
  have hchain : ∀ (i : Nat) (o : Oper), m ≤ i → ops[i + 1]? = some o → i ∈ waits o := fun i o hmi ho => by
    have hi := (Array.getElem?_eq_some_iff.1 ho).1
    rcases hg4 i (by omega) with h | h
    · omega
    · rw [ho] at h; simpa using h
  have hdst := nodup_dst hg2
  intro fuel
  -- all ahead of m are listed: the chain
  have done : ∀ (fuel : Nat) (listed : Array Bool) (vs : Nat → Value) (w : World), listed.size = ops.size → listed.toList.count false = fuel → (∀ i : Nat, i < m → listed[i]? = some true) →
      (∀ i : Nat, listed[i]? = some true → E (listed.getD j0 false) i (vs i) w) → (∀ i : Nat, listed[i]? ≠ some true → vs i = slot0 ops a0 i) → (∀ i : Nat, m ≤ i → listed[i]? ≠ some true) → C (listed.getD j0 false) w →
      wpAnyIn F n P .any ops Q fuel listed (fillA ops.toList 0 vs a0) w := by
    intro fuel listed vs w hsz hc hl hE hU hm hC
    have hfuel : fuel = ops.size - m := by
      have h1 : listed.toList = List.replicate m true ++ List.replicate (ops.size - m) false := by
        apply List.ext_getElem?
        intro i
        rw [Array.getElem?_toList]
        by_cases him : i < m
        · rw [hl i him, List.getElem?_append_left (by simpa using him), List.getElem?_replicate, if_pos him]
        · rw [List.getElem?_append_right (by simp; omega), List.getElem?_replicate, List.length_replicate]
          by_cases his : i < ops.size
          · rw [if_pos (by omega)]
            have := hm i (by omega)
            have hl' : i < listed.size := by omega
            rw [Array.getElem?_eq_getElem hl'] at this ⊢
            cases hb : listed[i] with
            | true => rw [hb] at this; exact absurd rfl this
            | false => rfl
          · rw [if_neg (by omega), Array.getElem?_eq_none (by omega)]
      rw [h1, List.count_append, List.count_replicate, List.count_replicate] at hc
      simp at hc
      omega
    subst hfuel
    exact wpAnyIn_chain hold hchain (ops.size - m) m listed _ w (Nat.le_refl _) (by omega) hsz hl hm (fin vs w (by have h := getD_ft.2 (hl j0 hj0); rw [h] at hC; exact hC) (fun i hi => by have h := getD_ft.2 (hl j0 hj0); have := hE i (hl i hi); rw [h] at this; exact this) (fun i hi => hU i (hm i hi)))
  induction fuel with
  | zero =>
    intro listed vs w hsz hc hcl hE hU hm hC
    refine done 0 listed vs w hsz hc (fun i hi => ?_) hE hU hm hC
    have := count_zero hc (i := i) (by rw [Array.length_toList, hsz]; omega)
    simpa using this
  | succ fuel ih =>
    intro listed vs w hsz hc hcl hE hU hm hC
    by_cases hl : ∀ i : Nat, i < m → listed[i]? = some true
    · exact done _ listed vs w hsz hc hl hE hU hm hC
    -- one ahead of m is still to come
    obtain ⟨i0, hi0, hn0⟩ : ∃ i, i < m ∧ listed[i]? ≠ some true := Classical.byContradiction fun h => hl fun i hi => Classical.byContradiction fun h2 => h ⟨i, hi, h2⟩
    have hfalse : ∀ i : Nat, i < ops.size → listed[i]? ≠ some true → listed[i]? = some false := fun i hi h => by
      have hl' : i < listed.size := by omega
      rw [Array.getElem?_eq_getElem hl'] at h ⊢
      cases hb : listed[i] with
      | true => rw [hb] at h; exact absurd rfl h
      | false => rfl
    refine ⟨fun h0 => ?_, fun j hj => ?_⟩
    · exfalso
      have key : ∀ i : Nat, i < ops.size → listed[i]? = some true := by
        intro i
        induction i using Nat.strongRecOn with
        | _ i ihi =>
          intro hi
          refine Classical.byContradiction fun h => ?_
          have hmem : i ∈ Region.ready .any ops listed := mem_ready.2 ⟨getD_tf.2 (hfalse i hi h), ops[i], Array.getElem?_eq_getElem hi, fun e he hbind => getD_ft.2 (by
            have := hold i _ (Array.getElem?_eq_getElem hi) _ (mem_waits.2 ⟨e, he, hbind, rfl⟩)
            exact ihi _ this (by omega))⟩
          rw [h0] at hmem
          cases hmem
      exact hn0 (key i0 (by omega))
    · obtain ⟨hjf, o, ho, hw⟩ := mem_ready.1 hj
      rw [getD_tf] at hjf
      have hjs : j < ops.size := (Array.getElem?_eq_some_iff.1 ho).1
      have hwl : ∀ i, i ∈ waits o → listed[i]? = some true := fun i hi => by
        obtain ⟨e, he, hb, rfl⟩ := mem_waits.1 hi
        exact getD_ft.1 (hw e he hb)
      have hjm : j < m := by
        rcases Nat.lt_trichotomy j m with h1 | h1 | h1
        · exact h1
        · exfalso
          subst h1
          have hothers : ∀ (d i : Nat), i < j → i + d = j → listed[i]? = some true := by
            intro d
            induction d using Nat.strongRecOn with
            | _ d ihd =>
              intro i hi hid
              rcases hg3 i hi with h | ⟨k, hk, hk2⟩
              · omega
              · obtain ⟨hik, hkw⟩ := hk2
                have hks : k < ops.size := by omega
                rw [Array.getElem?_eq_getElem hks] at hkw
                simp only [Option.map_some, Option.getD_some, List.contains_iff_mem] at hkw
                rcases Nat.lt_or_ge k j with h2 | h2
                · have := ihd (j - k) (by omega) k h2 (by omega)
                  exact hcl k _ this (Array.getElem?_eq_getElem hks) i hkw
                · have hkj : k = j := by omega
                  subst hkj
                  rw [Array.getElem?_eq_getElem hks] at ho
                  cases ho
                  exact hwl i hkw
          exact hn0 (hothers (j - i0) i0 hi0 (by omega))
        · exfalso
          obtain ⟨i, rfl⟩ : ∃ i, j = i + 1 := ⟨j - 1, by omega⟩
          exact hm i (by omega) (hwl i (hchain i o (by omega) ho))
      have hcount : (listed.setIfInBounds j true).toList.count false = fuel := by
        have h1 : listed.toList[j]? = some false := by simpa using hjf
        have := count_set h1
        rw [Array.toList_setIfInBounds]
        omega
      have hsz' : (listed.setIfInBounds j true).size = ops.size := by simpa using hsz
      have hget' : ∀ i : Nat, (listed.setIfInBounds j true)[i]? = if i = j then some true else listed[i]? := fun i => by
        rw [Array.getElem?_setIfInBounds]
        by_cases h : j = i
        · subst h; rw [if_pos rfl, if_pos rfl, if_pos (by omega)]
        · rw [if_neg h, if_neg (fun e => h e.symm)]
      have hput : ∀ v, (fillA ops.toList 0 vs a0).put o.dst v = fillA ops.toList 0 (updV vs j v) a0 := fun v => by
        have := fillA_put ops.toList 0 vs a0 j o v (by simpa using ho) (fun i o' hij hi => hdst i j o o' hi (by simpa using ho) hij)
        simpa using this
      have hvj : vs j = slot0 ops a0 j := hU j (by rw [hjf]; simp)
      have hst := step j o hjm ho (listed.getD j0 false) vs w (fun e => by subst e; rw [Array.getD_eq_getD_getElem?, hjf]; rfl) (fun o0 ho0 hw0 => by
        cases hfl : listed.getD j0 false with
        | false => rfl
        | true =>
          have := hcl j0 o0 (getD_ft.1 hfl) ho0 j hw0
          rw [hjf] at this; cases this) hC (fun i hi => hE i (hwl i hi)) (fun i o' ho' hi => hU i (fun hl => by
        have := hcl i o' hl ho' j hi
        rw [hjf] at this; cases this)) hvj
      have hflag : (listed.setIfInBounds j true).getD j0 false = (if j = j0 then true else listed.getD j0 false) := by
        rw [Array.getD_eq_getD_getElem?, hget', Array.getD_eq_getD_getElem?]
        by_cases e : j0 = j
        · subst e; simp
        · rw [if_neg e, if_neg (fun h => e h.symm)]
      have hnext : ∀ v w', C (if j = j0 then true else listed.getD j0 false) w' → (∀ i : Nat, listed[i]? = some true → E (if j = j0 then true else listed.getD j0 false) i (vs i) w') → E (if j = j0 then true else listed.getD j0 false) j v w' → wpAnyIn F n P .any ops Q fuel (listed.setIfInBounds j true) ((fillA ops.toList 0 vs a0).put o.dst v) w' := fun v w' hC' hEs hv => by
        rw [hput]
        refine ih _ _ _ hsz' hcount ?_ ?_ ?_ ?_ (by rw [hflag]; exact hC')
        · intro i o' hi ho' k hk
          rw [hget'] at hi ⊢
          by_cases hkj : k = j
          · rw [if_pos hkj]
          · rw [if_neg hkj]
            by_cases hij : i = j
            · subst hij
              rw [ho] at ho'; cases ho'
              exact hwl k hk
            · rw [if_neg hij] at hi
              exact hcl i o' hi ho' k hk
        · intro i hi
          rw [hflag]
          rw [hget'] at hi
          by_cases hij : i = j
          · subst hij; rw [show updV vs i v i = v by simp [updV]]; exact hv
          · rw [if_neg hij] at hi
            rw [show updV vs j v i = vs i by simp [updV, hij]]
            exact hEs i hi
        · intro i hi
          rw [hget'] at hi
          by_cases hij : i = j
          · rw [if_pos hij] at hi; exact absurd rfl hi
          · rw [if_neg hij] at hi
            rw [show updV vs j v i = vs i by simp [updV, hij]]
            exact hU i hi
        · intro i hi
          rw [hget', if_neg (by omega)]; exact hm i hi
      unfold wpOpIn
      simp only [ho]
      obtain ⟨hwant, hst⟩ := hst
      rw [if_pos hwant]
      refine Oper.wpIn_mono ?_ (Oper.wpIn_of_wp hF (hsem j o ho) hst)
      rintro a' w' ⟨v, rfl, hC', hX, hv⟩
      exact hnext v w' hC' (fun i hi => stab _ j i _ _ _ (fun e => by subst e; exact getD_ft.2 hi) (fun e => by subst e; rw [hjf] at hi; cases hi) (fun e => by subst e; rw [Array.getD_eq_getD_getElem?, hjf]; rfl) hC hX (hE i hi)) hv


/-- the promises of a list, ahead and behind -/
def envB (l : List (Bool → Value → World → Prop)) : Bool → Nat → Value → World → Prop := fun b i v w => l.getD i (fun _ _ _ => True) b v w
def isB (x : Value) : Bool → Value → World → Prop := fun _ v _ => v = x
section
variable (P : Program) (ops : Array Oper) (C : Bool → World → Prop) (X : Nat → Bool → World → World → Prop) (full : List (Bool → Value → World → Prop)) (Q : Exit → Act → World → Prop) (a0 : Act) (j0 : Nat)
/-- one operation keeps its promise; its frame is a letter -/
def StepA3 (p : Bool → Value → World → Prop) (j : Nat) (o : Oper) : Prop :=
  ∀ (b : Bool) (vs : Nat → Value) (a : Act) (w : World) (K : Act → World → Prop), a = fillA ops.toList 0 vs a0 → (j = j0 → b = false) → (∀ o0, ops[j0]? = some o0 → j ∈ waits o0 → b = false) → C b w → (∀ i ∈ waits o, envB full b i (vs i) w) → (∀ (i : Nat) (o' : Oper), ops[i]? = some o' → j ∈ waits o' → vs i = slot0 ops a0 i) →
    (∀ v w', C (if j = j0 then true else b) w' → X j b w w' → p (if j = j0 then true else b) v w' → K (a.put o.dst v) w') → (Region.wanted o (yielded ops a.tmps) = true ∧ o.wp P a w K Q)
def StepsL3 : List Oper → List (Bool → Value → World → Prop) → Nat → Prop
  | [], _, _ => True
  | o :: l, p :: ps, k => StepA3 P ops C X full Q a0 j0 p k o ∧ StepsL3 l ps (k + 1)
  | _ :: _, [], _ => False
end
section
variable {P : Program} {ops : Array Oper} {C : Bool → World → Prop} {X : Nat → Bool → World → World → Prop} {full : List (Bool → Value → World → Prop)} {Q : Exit → Act → World → Prop} {a0 : Act} {j0 : Nat}
theorem StepsL3.nil {ps : List (Bool → Value → World → Prop)} {k : Nat} : StepsL3 P ops C X full Q a0 j0 [] ps k := by unfold StepsL3; trivial
theorem StepsL3.cons {p : Bool → Value → World → Prop} {ps : List (Bool → Value → World → Prop)} {o : Oper} {l : List Oper} {k : Nat} (h : StepA3 P ops C X full Q a0 j0 p k o) (hl : StepsL3 P ops C X full Q a0 j0 l ps (k + 1)) : StepsL3 P ops C X full Q a0 j0 (o :: l) (p :: ps) k := ⟨h, hl⟩
theorem StepsL3.get : ∀ {l : List Oper} {ps : List (Bool → Value → World → Prop)} {k : Nat}, StepsL3 P ops C X full Q a0 j0 l ps k → ps = full.drop k → ∀ {j : Nat} {o : Oper}, l[j]? = some o → StepE3 P ops C X (envB full) Q a0 j0 (k + j) o := by
  intro l
  induction l with
  | nil => intro ps k _ _ j o h; simp at h
  | cons x l ih =>
    intro ps k h hps j o hj
    cases ps with
    | nil => exact h.elim
    | cons p ps =>
      cases j with
      | zero =>
        simp at hj; subst hj
        have hp : ∀ b, envB full b k = p b := by
          intro b
          have h0 : full[k]? = some p := by
            have := congrArg (fun l : List (Bool → Value → World → Prop) => l[0]?) hps
            simpa using this.symm
          funext v w
          unfold envB
          rw [List.getD_eq_getElem?_getD, h0]; rfl
        intro b vs w hb hw0 hC hD hU hv
        rw [Nat.add_zero] at hb hw0 hU hv ⊢
        exact h.1 b vs _ w (fun a' w' => ∃ v, a' = (fillA ops.toList 0 vs a0).put x.dst v ∧ C (if k = j0 then true else b) w' ∧ X k b w w' ∧ envB full (if k = j0 then true else b) k v w') rfl hb hw0 hC hD hU (fun v w' hC' hX hpv => ⟨v, rfl, hC', hX, by rw [hp]; exact hpv⟩)
      | succ j =>
        have hps' : ps = full.drop (k + 1) := by
          have := congrArg List.tail hps
          simpa using this
        have := ih h.2 hps' (j := j) (o := o) (by simpa using hj)
        rw [show k + (j + 1) = k + 1 + j by omega]; exact this
end

/-- THE LAW, by a list of promises -/
theorem wp_region_three {id : Nat} {P : Program} {ops : Array Oper} {Q : Exit → Act → World → Prop} {a0 : Act} {w0 : World} (j0 : Nat) (C : Bool → World → Prop) (X : Nat → Bool → World → World → Prop) (full : List (Bool → Value → World → Prop))
    (hP : P.follows .mixedOrders = true) (hd : noDefB ops = true) (hgood : goodB ops full.length = true) (hm1 : full.length ≤ ops.size) (hm2 : ops.size ≤ full.length + 1) (hj0 : j0 < full.length) (hC : C false { w0 with drawn := w0.drawn + 1 })
    (stab : ∀ (b : Bool) (j i : Nat) (p : Bool → Value → World → Prop) (v : Value) (w w' : World), full[i]? = some p → (i = j0 → b = true) → i ≠ j → (j = j0 → b = false) → C b w → X j b w w' → p b v w → p (if j = j0 then true else b) v w')
    (step : StepsL3 P ops C X full Q a0 j0 (ops.toList.take full.length) full 0) (fin : Fin1 P ops (C true) (envB full true) Q a0 full.length) : (Code.region id ops true).wp P Q a0 w0 := by
  refine (wpIn_wide (n := 0)).1 (wpIn_region_any hP ?_)
  have h := wpAnyIn_env3 (F := Fence.wide) (r := none) rfl (n := 0) (P := P) (ops := ops) (C := C) (X := X) (E := envB full) (Q := Q) (a0 := a0) (m := full.length) (j0 := j0) hj0 (fun j o ho ρ => noDefB_sem hd ho ρ) hgood hm1
    (fun b j i v w w' hi hij hj hC hX hE => by
      unfold envB at hE ⊢
      rw [List.getD_eq_getElem?_getD] at hE ⊢
      cases hfi : full[i]? with
      | none => trivial
      | some p => rw [hfi] at hE; exact stab b j i p v w w' hfi hi hij hj hC hX hE)
    (fun j o hj ho => by have := step.get (ps := full) rfl (j := j) (o := o) (by rw [List.getElem?_take, if_pos hj]; simpa using ho); simpa using this) (Fin1.fin rfl hd hm1 hm2 fin)
    ops.size (Array.replicate ops.size false) (slot0 ops a0) { w0 with drawn := w0.drawn + 1 } (by simp) (by simp) ?_ ?_ (fun _ _ => rfl) ?_ (by
      have : (Array.replicate ops.size false).getD j0 false = false := by
        rw [Array.getD_eq_getD_getElem?, Array.getElem?_replicate]; split <;> rfl
      rw [this]; exact hC)
  · rw [fillA_slot0] at h; exact h
  · intro j o hj; rw [Array.getElem?_replicate] at hj; split at hj <;> cases hj
  · intro j hj; rw [Array.getElem?_replicate] at hj; split at hj <;> cases hj
  · intro i _ hj; rw [Array.getElem?_replicate] at hj; split at hj <;> cases hj

end Go.Proofs.YtkbpmcpmcmnfgaaDoor

namespace Go.Proofs.YtkbpmcpmcmnfgaaDoor
open Go.RowKit

/-- the cells of the rows of a slice -/
theorem rows_news {α : Type} {R : Rd α} {m : Nat} (g : R.Good m) {S : Foot} {w : World} {ad : Addr} {q : Nat} {ys : List α} (h : SliceOf R m S w (some ad) q ys) :
    ∃ news : List Value, news.length = q * m ∧ (∀ j u, news[j]? = some u → w.cell? (ad.add j) = some u) ∧ (∀ u ∈ news, u.oneCell' = true) ∧ ∀ (k : Nat) y, ys[k]? = some y → ∃ vs, R S w y vs ∧ ∀ (j : Nat) u, vs[j]? = some u → news[k * m + j]? = some u := by
  have hex : ∀ k : Nat, ∃ vs : List Value, ∀ y, ys[k]? = some y → R S w y vs ∧ ∀ (j : Nat) u, vs[j]? = some u → w.cell? (ad.add (k * m + j)) = some u := fun k => by
    cases hy : ys[k]? with
    | none => exact ⟨[], fun y h => by cases h⟩
    | some y =>
      obtain ⟨b, off, vs, hA, _, _, hR, hc⟩ := h.2.2 k y hy
      injection hA with hA
      subst hA
      refine ⟨vs, fun y' hy' => ?_⟩
      injection hy' with hy'
      subst hy'
      refine ⟨hR, fun j u hu => ?_⟩
      have hadd : (⟨b, off, none⟩ : Addr).add (k * m + j) = ⟨b, off + k * m + j, none⟩ := by
        have : ∀ n, (⟨b, off, none⟩ : Addr).add n = ⟨b, off + n, none⟩ := fun n => by unfold Addr.add; split <;> simp_all
        rw [this, Nat.add_assoc]
      rw [hadd]
      exact hc j u hu
  obtain ⟨F, hF⟩ := Classical.axiomOfChoice hex
  have hys := h.1
  have hk : ∀ k, k < q → ∃ y, ys[k]? = some y := fun k hk => ⟨ys[k]'(by omega), List.getElem?_eq_getElem (by omega)⟩
  have hlen : ∀ k ∈ List.range q, (F k).length = m := fun k hk' => by
    obtain ⟨y, hy⟩ := hk k (List.mem_range.1 hk')
    exact g.len (hF k y hy).1
  refine ⟨(List.range q).flatMap F, by rw [flat_len hlen, List.length_range], fun j u hu => ?_, fun u hu => ?_, fun k y hy => ?_⟩
  · have hj : j < q * m := by have := of_getq' hu; rw [flat_len hlen, List.length_range] at this; exact this
    have hm : 0 < m := Nat.pos_of_ne_zero (fun e => by subst e; simp at hj)
    have hkq : j / m < q := (Nat.div_lt_iff_lt_mul hm).2 hj
    obtain ⟨y, hy⟩ := hk _ hkq
    have hr : j % m < (F (j / m)).length := by rw [g.len (hF _ y hy).1]; exact Nat.mod_lt _ hm
    have h1 := flat_get hlen (List.getElem?_range hkq) (List.getElem?_eq_getElem hr)
    have hjm : j / m * m + j % m = j := by rw [Nat.mul_comm]; exact Nat.div_add_mod j m
    rw [hjm, hu] at h1
    injection h1 with h1
    have := (hF _ y hy).2 (j % m) _ (List.getElem?_eq_getElem hr)
    rw [hjm] at this
    rw [this, h1]
  · obtain ⟨k, hk', hu⟩ := List.mem_flatMap.1 hu
    obtain ⟨y, hy⟩ := hk k (List.mem_range.1 hk')
    exact g.one (hF k y hy).1 u hu
  · have hkq : k < q := by have := of_getq' hy; omega
    exact ⟨F k, (hF k y hy).1, fun j u hu => flat_get hlen (List.getElem?_range hkq) hu⟩

/-- append of the rows of a slice to a literal of none -/
theorem wp_append_lit {P : Program} {o : Oper} {a : Act} {K : Act → World → Prop} {Q : Exit → Act → World → Prop} (w : World) (s x : Operand) (t : TypeId)
    (ho : o.op = .call { callee := .builtin .append, args := #[s, x], argTypes := #[t, t] })
    {α : Type} {R : Rd α} {m : Nat} (g : R.Good m) {T S : Foot} (base : Nat) (e : TypeId) (i : TypeInfo) (z : Value) (bytes : Nat) (ht : P.underlying t = some (.slice e)) (hi : P.info? e = some i) (hz : i.zero = some z)
    (hsize : i.size = m) (hby : i.bytes = bytes) (hzs : z.cells.size = m) (hsz : 0 < m)
    (gl : Nat) (hs : a.eval s = .slice (some ⟨gl, 0, none⟩) 0 0) (hBl : Blk w gl e #[]) (hgl : base ≤ gl)
    (A : Option Addr) (q c : Nat) (ys : List α) (hx : a.eval x = .slice A q c) (hR : SliceOf R m T w A q ys) (hconv : ∀ y vs, R T w y vs → R S w y vs)
    (h63 : q ≤ maxLen) (hbytes : q * bytes ≤ 140737488355328) (hbase : base ≤ w.heap.size) (hS : ¬ S w.heap.size) (hSl : ¬ S gl)
    (h : ∀ A' cap' w', OwnL R m S w' base e (.slice A' q cap') ys → Below w.heap.size w w' → K (a.put o.dst (.slice A' q cap')) w') : o.wp P a w K Q := by
  have hown : w.ownsRow base e m (.slice (some ⟨gl, 0, none⟩) 0 0) 0 [] := ⟨by simp, .inr ⟨gl, 0, #[], rfl, hgl, hBl, Nat.le_refl _, Nat.zero_le _, by simp, by simp⟩⟩
  rcases Nat.eq_zero_or_pos q with hq | hq
  · subst hq
    obtain rfl : ys = [] := List.eq_nil_of_length_eq_zero hR.1
    have hrun : (Builtin.append_ #[t, t] o.type #[.slice (some ⟨gl, 0, none⟩) 0 0, .slice A 0 c]).run P w = .ok (.slice (some ⟨gl, 0, none⟩) 0 0) w := by
      cases A with
      | none => simp [Builtin.append_, run_underlying ht, sizeOf, typeInfo, hi, Builtin.lenOf, Builtin.firstCells, storeCells]
      | some ad => simp [Builtin.append_, run_underlying ht, sizeOf, typeInfo, hi, Builtin.lenOf, Builtin.firstCells, storeCells, loadCells, loadCellsFrom]
    unfold Oper.wp execOp
    simp only [ho, resolve, invoke, builtin, Sem.run_bind, Sem.run_pure, Result.andThen_ok, List.map_toArray, List.map_cons, List.map_nil, hs, hx, hrun]
    refine h _ _ w ⟨fun k hk => ?_, [], hown, fun k y hy => by simp at hy⟩ (Below.refl _ _)
    have : gl = k := by simpa [Value.ownBlock] using hk
    subst this
    exact hSl
  · obtain ⟨ad, rfl⟩ : ∃ ad, A = some ad := by
      obtain ⟨b, off, _, hA, _⟩ := hR.2.2 0 (ys[0]'(by rw [hR.1]; exact hq)) (List.getElem?_eq_getElem _)
      exact ⟨_, hA⟩
    obtain ⟨news, hl, hnews, h1, hrd⟩ := rows_news g hR
    have hsmall : q ≤ 9223372036854775807 := by simp only [maxLen] at h63; omega
    obtain ⟨v', w', hr, hown', _, _, hat⟩ := run_append_own_at (P := P) w base t o.type e i z m bytes ht hi hz hsize hby hzs hsz _ 0 [] hown ad q c news hl hnews h1 (by omega) (by rw [Nat.zero_add]; exact hbytes) hbase
    have hr2 := run_append_grow (P := P) (ty := o.type) w t e i z ht hi hz ⟨gl, 0, none⟩ 0 0 [] (by simp) (fun j v hv => by simp at hv) ad q c news (by rw [hsize]; exact hl) hnews (by omega) (by omega) (growslice_fits (by omega) (by rw [Nat.zero_add, hby]; exact hbytes))
    have hrr := hr.symm.trans hr2
    injection hrr with e1 e2
    have hb : Below w.heap.size w w' := by rw [e2]; exact bl_alloc (Below.refl _ _).drew _ (Nat.le_refl _)
    unfold Oper.wp execOp
    simp only [ho, resolve, invoke, builtin, Sem.run_bind, Sem.run_pure, Result.andThen_ok, List.map_toArray, List.map_cons, List.map_nil, hs, hx, hr]
    rw [Nat.zero_add] at e1
    rw [e1] at hown' ⊢
    refine h _ _ w' ⟨fun k hk => ?_, news, by rw [hR.1]; simpa using hown', fun k y hy => ?_⟩ hb
    · have : w.heap.size = k := by simpa [Value.ownBlock] using hk
      subst this
      exact hS
    · obtain ⟨vs, hv, hc⟩ := hrd k y hy
      exact ⟨vs, g.keep (hconv y vs hv) (Keeps.below hb), hc⟩

/-- a claim with a further measure -/
def withC (c : Claim) (y : Meas) : Claim := { c with meas := c.meas ++ [y] }

set_option maxRecDepth 100000 in
set_option maxHeartbeats 1600000 in
theorem with_any {A B C : Option Addr} {n ca m cb q cc : Nat} {c : Claim} (f z : Int) (w : World) (h : ClaimAt (fun _ => True) w A n B m C q c) (hqc : (q + 1) * 16 ≤ 140737488355328) :
    Calls Tryd.prog 47 #[.agg #[.slice A n ca, .slice B m cb, .slice C q cc], .agg #[.int .i64 f, .int .i64 z]] w fun e w' => ∃ C' cq', e = .returned (.agg #[.slice A n ca, .slice B m cb, .slice C' (q + 1) cq']) ∧ ClaimAt (fun _ => True) w' A n B m C' (q + 1) (withC c ⟨f, z⟩) ∧ Below w.heap.size w w' := by
  obtain ⟨i0, hi0, hz0, hz1, hz2⟩ := info_parts infoMeas
  have hq64 : q + 1 ≤ maxLen := by simp only [maxLen]; omega
  have hq63 : q ≤ maxLen := by omega
  have hqb : q * 16 ≤ 140737488355328 := by omega
  have hbn := claim_bnd h
  go_enter Tryd.func47, Tryd.ntmps47
  go_wp2
  obtain ⟨wa, hwa⟩ : ∃ wa : World, ((w.alloc (.cells #[.slice A n ca, .slice B m cb, .slice C q cc] 26)).alloc (.cells #[.int .i64 f, .int .i64 z] 62)).alloc (.cells #[.slice none 0 0, .slice none 0 0, .slice none 0 0] 26) = wa := ⟨_, rfl⟩
  have hX : Blk wa w.heap.size 26 #[.slice A n ca, .slice B m cb, .slice C q cc] := by rw [← hwa]; exact ((Blk.new _ _ _ rfl).alloc _).alloc _
  have hM : Blk wa (w.heap.size + 1) 62 #[.int .i64 f, .int .i64 z] := by rw [← hwa]; exact (Blk.new _ _ _ (by simp)).alloc _
  have hR : Blk wa (w.heap.size + 1 + 1) 26 #[.slice none 0 0, .slice none 0 0, .slice none 0 0] := by rw [← hwa]; exact Blk.new _ _ _ (by simp)
  have hBa : Below w.heap.size w wa := by rw [← hwa]; exact bl_alloc (bl_alloc (bl_alloc (Below.refl _ _) _ (Nat.le_refl _)) _ (Nat.le_refl _)) _ (Nat.le_refl _)
  have hsa : wa.heap.size = w.heap.size + 1 + 1 + 1 := by rw [← hwa]; simp
  rw [hwa]
  clear hwa
  have hsz : w.heap.size + 3 ≤ wa.heap.size := by omega
  clear hsa
  have hms := (h.keep (Keeps.below hBa)).ms
  have hx2 : wa.cell? ⟨w.heap.size, 2, none⟩ = some (.slice C q cc) := hX.cell 2
  have hm0 : wa.cell? ⟨w.heap.size + 1, 0, none⟩ = some (.int .i64 f) := hM.c0
  have hm1 : wa.cell? ⟨w.heap.size + 1, 1, none⟩ = some (.int .i64 z) := hM.c1
  refine wp_region_three 6 (fun _ W => Below wa.heap.size wa W) (fun j _ w1 w2 => j ≠ 6 → Below w1.heap.size w1 w2)
    [fun b v W => b = false → ∃ g, v = .slice (some ⟨g, 0, none⟩) 0 0 ∧ Blk W g 62 #[] ∧ wa.heap.size ≤ g, isB (.pointer (some ⟨w.heap.size, 2, none⟩)), isB (.slice C q cc), fun b v W => b = false → ∃ A3 cap3, v = .slice A3 q cap3 ∧ OwnL MeasR 2 (fun _ => False) W wa.heap.size 62 v c.meas, isB (.agg #[.int .i64 f, .int .i64 z]), fun b v W => b = false → ∃ g, v = .slice (some ⟨g, 0, none⟩) 1 1 ∧ Blk W g 62 #[.int .i64 f, .int .i64 z], fun b v W => b = true → ∃ A3 cap3, v = .slice (some ⟨A3, 0, none⟩) (q + 1) cap3 ∧ OwnL MeasR 2 (fun _ => False) W wa.heap.size 62 v (c.meas ++ [⟨f, z⟩]), isB (.pointer (some ⟨w.heap.size, 2, none⟩))]
    (by kernel_rfl) (by kernel_rfl) (by kernel_rfl) (by simp) (by simp) (by simp) (Below.refl _ _).drew ?stab1 ?step1 ?fin1
  case step1 =>
    refine StepsL3.cons ?_ (StepsL3.cons ?_ (StepsL3.cons ?_ (StepsL3.cons ?_ (StepsL3.cons ?_ (StepsL3.cons ?_ (StepsL3.cons ?_ (StepsL3.cons ?_ StepsL3.nil)))))))
    · -- 0
      intro b vs a W K ha hb hw hC hD hU hK
      clear ha hU hD
      refine ⟨by rfl, ?_⟩
      go_simp
      exact hK _ _ (bl_alloc hC _ (Nat.le_refl _)) (fun _ => bl_alloc (Below.refl _ _) _ (Nat.le_refl _)) (fun _ => ⟨_, rfl, Blk.new _ _ _ rfl, hC.size⟩)
    · -- 1
      intro b vs a W K ha hb hw hC hD hU hK
      have r2 : a.tmps[2]? = some (.pointer (some ⟨w.heap.size, 0, none⟩)) := by rw [ha]; kernel_rfl
      clear ha hU hD
      refine ⟨by rfl, ?_⟩
      go_simp
      exact hK _ _ hC (fun _ => Below.refl _ _) rfl
    · -- 2
      intro b vs a W K ha hb hw hC hD hU hK
      have r6 : a.tmps[6]? = some (vs 1) := by rw [ha]; kernel_rfl
      have q1 : vs 1 = (.pointer (some ⟨w.heap.size, 2, none⟩)) := hD 1 (by simp [waits, Region.binds])
      rw [q1] at r6
      clear ha hU hD
      refine ⟨by rfl, ?_⟩
      have k2 := getc hC hx2
      go_simp
      exact hK _ _ hC (fun _ => Below.refl _ _) rfl
    · -- 3
      intro b vs a W K ha hb hw hC hD hU hK
      have r5 : a.tmps[5]? = some (vs 0) := by rw [ha]; kernel_rfl
      have q0 : (fun b v W => b = false → ∃ g, v = .slice (some ⟨g, 0, none⟩) 0 0 ∧ Blk W g 62 #[] ∧ wa.heap.size ≤ g) b (vs 0) W := hD 0 (by simp [waits, Region.binds])
      have r7 : a.tmps[7]? = some (vs 2) := by rw [ha]; kernel_rfl
      have q2 : vs 2 = (.slice C q cc) := hD 2 (by simp [waits, Region.binds])
      rw [q2] at r7
      clear ha hU hD
      refine ⟨by rfl, ?_⟩
      obtain rfl : b = false := hw _ rfl (by simp [waits, Region.binds])
      obtain ⟨g5, q5, hg5, hl5⟩ := q0 rfl
      rw [q5] at r5
      refine wp_append_lit (S := fun _ => False) W _ _ _ rfl MeasR.good wa.heap.size 62 i0 _ 16 Tryd.underlying24 hi0 hz0 hz1 hz2 rfl (by omega) g5 (by simp [Act.eval, r5]) hg5 hl5 C q cc c.meas (by simp [Act.eval, r7]) (hms.keep MeasR.good (Keeps.below hC)) (fun _ _ h => h) hq63 hqb hC.size (fun h => h) (fun h => h) ?_
      intro A3 cap3 w3 hO3 hb3
      exact hK _ _ (bl_call hC hb3 (Nat.le_refl _)) (fun _ => hb3) (fun _ => ⟨_, _, rfl, hO3⟩)
    · -- 4
      intro b vs a W K ha hb hw hC hD hU hK
      have r3 : a.tmps[3]? = some (.pointer (some ⟨w.heap.size + 1, 0, none⟩)) := by rw [ha]; kernel_rfl
      clear ha hU hD
      refine ⟨by rfl, ?_⟩
      have k4 := getc hC hm0
      have k5 := getc hC hm1
      go_simp
      exact hK _ _ hC (fun _ => Below.refl _ _) rfl
    · -- 5
      intro b vs a W K ha hb hw hC hD hU hK
      have r9 : a.tmps[9]? = some (vs 4) := by rw [ha]; kernel_rfl
      have q4 : vs 4 = (.agg #[.int .i64 f, .int .i64 z]) := hD 4 (by simp [waits, Region.binds])
      rw [q4] at r9
      clear ha hU hD
      refine ⟨by rfl, ?_⟩
      go_simp
      exact hK _ _ (bl_alloc hC _ (Nat.le_refl _)) (fun _ => bl_alloc (Below.refl _ _) _ (Nat.le_refl _)) (fun _ => ⟨_, rfl, Blk.new _ _ _ rfl⟩)
    · -- 6
      intro b vs a W K ha hb hw hC hD hU hK
      have r8 : a.tmps[8]? = some (vs 3) := by rw [ha]; kernel_rfl
      have q3 : (fun b v W => b = false → ∃ A3 cap3, v = .slice A3 q cap3 ∧ OwnL MeasR 2 (fun _ => False) W wa.heap.size 62 v c.meas) b (vs 3) W := hD 3 (by simp [waits, Region.binds])
      have r10 : a.tmps[10]? = some (vs 5) := by rw [ha]; kernel_rfl
      have q5 : (fun b v W => b = false → ∃ g, v = .slice (some ⟨g, 0, none⟩) 1 1 ∧ Blk W g 62 #[.int .i64 f, .int .i64 z]) b (vs 5) W := hD 5 (by simp [waits, Region.binds])
      clear ha hU hD
      refine ⟨by rfl, ?_⟩
      obtain rfl : b = false := hb rfl
      obtain ⟨A8, cap8, q8, hO8⟩ := q3 rfl
      obtain ⟨g10, q10, hg10⟩ := q5 rfl
      rw [q8] at r8 hO8
      rw [q10] at r10
      refine wp_append_elW W rfl _ _ _ rfl MeasR.good wa.heap.size 62 i0 _ 16 Tryd.underlying24 hi0 hz0 hz1 hz2 rfl (by omega) (.slice A8 q cap8) c.meas ⟨f, z⟩ q hms.1 (by simp [Act.eval, r8]) hO8 g10 1 [.int .i64 f, .int .i64 z] (by simp [Act.eval, r10]) rfl hg10 hq64 hqc hC.size (fun h => h) ?_
      intro A2 cap2 w2 hO2 hg2 _
      exact hK _ _ (bl_grown hC hO8 hg2 (Nat.le_refl _) (Nat.le_refl _)) (fun h => absurd rfl h) (fun _ => ⟨_, _, rfl, hO2⟩)
    · -- 7
      intro b vs a W K ha hb hw hC hD hU hK
      have r2 : a.tmps[2]? = some (.pointer (some ⟨w.heap.size, 0, none⟩)) := by rw [ha]; kernel_rfl
      clear ha hU hD
      refine ⟨by rfl, ?_⟩
      go_simp
      exact hK _ _ hC (fun _ => Below.refl _ _) rfl
  case stab1 =>
    intro b j i p v w1 w2 hp hi hij hj hC hX h
    rcases i with _ | _ | _ | _ | _ | _ | _ | _ | i
    rotate_right
    · simp at hp
    all_goals obtain rfl := Option.some.inj hp
    · intro hf
      by_cases h6 : j = 6
      · rw [if_pos h6] at hf; cases hf
      · rw [if_neg h6] at hf
        obtain ⟨g, hv, hB, hg⟩ := h hf
        exact ⟨g, hv, hB.bl (hX h6), hg⟩
    · exact h
    · exact h
    · intro hf
      by_cases h6 : j = 6
      · rw [if_pos h6] at hf; cases hf
      · rw [if_neg h6] at hf
        obtain ⟨A3, cap3, hv, hO⟩ := h hf
        exact ⟨A3, cap3, hv, hO.below MeasR.good (hX h6)⟩
    · exact h
    · intro hf
      by_cases h6 : j = 6
      · rw [if_pos h6] at hf; cases hf
      · rw [if_neg h6] at hf
        obtain ⟨g, hv, hB⟩ := h hf
        exact ⟨g, hv, hB.bl (hX h6)⟩
    · intro _
      obtain ⟨A3, cap3, hv, hO⟩ := h (hi rfl)
      exact ⟨A3, cap3, hv, hO.below MeasR.good (hX (fun e => hij e.symm))⟩
    · exact h
  case fin1 =>
    intro vs W hC hE hU
    have e6 := hE 6 (by simp)
    have e7 := hE 7 (by simp)
    simp only [envB, List.getD_cons_succ, List.getD_cons_zero, isB] at e6 e7
    have H6 := Lib.hid (e6 trivial)
    clear e6 hE hU
    simp only [fillA, Act.put, List.setIfInBounds_toArray, List.set_cons_zero, List.set_cons_succ, Nat.zero_add, Nat.reduceAdd, e7]
    simp [Region.wanted, yielded]
    obtain ⟨A2, cap2, e6, hO2⟩ := H6.out
    rw [e6] at hO2 ⊢
    clear e6 e7 H6
    have J0 := hX.bl hC
    have J2 := hR.bl hC
    have hBW := bl_call hBa hC (by omega)
    obtain ⟨W2, hW2⟩ : ∃ W2, W.setCell ⟨w.heap.size, 2, none⟩ (.slice (some ⟨A2, 0, none⟩) (q + 1) cap2) = W2 := ⟨_, rfl⟩
    have K0 : Blk W2 w.heap.size 26 #[.slice A n ca, .slice B m cb, .slice (some ⟨A2, 0, none⟩) (q + 1) cap2] := by rw [← hW2]; exact J0.set_ 2 _
    have K2 : Blk W2 (w.heap.size + 1 + 1) 26 #[.slice none 0 0, .slice none 0 0, .slice none 0 0] := by rw [← hW2]; exact J2.far (by first | omega | (dsimp only; omega)) _
    have hB2 : Below w.heap.size w W2 := by rw [← hW2]; exact bl_set hBW (by first | omega | (dsimp only; omega)) _
    have hO3 : OwnL MeasR 2 (fun _ => False) W2 wa.heap.size 62 (.slice (some ⟨A2, 0, none⟩) (q + 1) cap2) (c.meas ++ [⟨f, z⟩]) := by rw [← hW2]; exact own_far MeasR.good hO2 (fun h => h) (by omega) _ _
    have HB2 := Lib.hid hB2
    have HK2 := Lib.hid K2
    have HO3 := Lib.hid hO3
    have y0 : W.cell? ⟨w.heap.size, 2, none⟩ = some (.slice C q cc) := J0.cell 2
    have y1 := J0.frozen 2
    have y2 := J0.lt
    have c0 : W2.cell? ⟨w.heap.size, 0, none⟩ = some (.slice A n ca) := K0.cell 0
    have c1 : W2.cell? ⟨w.heap.size, 1, none⟩ = some (.slice B m cb) := K0.cell 1
    have c2 : W2.cell? ⟨w.heap.size, 2, none⟩ = some (.slice (some ⟨A2, 0, none⟩) (q + 1) cap2) := K0.cell 2
    have f0 := K2.frozen 0
    have f1 := K2.frozen 1
    have f2 := K2.frozen 2
    have fl := K2.lt
    have s0 : W2.cell? ⟨w.heap.size + 1 + 1, 0, none⟩ = some (.slice none 0 0) := K2.cell 0
    have s1 : W2.cell? ⟨w.heap.size + 1 + 1, 1, none⟩ = some (.slice none 0 0) := K2.cell 1
    have s2 : W2.cell? ⟨w.heap.size + 1 + 1, 2, none⟩ = some (.slice none 0 0) := K2.cell 2
    clear J0 J2 hBW hO2 hC K0 K2 hB2 hO3
    go_simp
    go_wp2
    obtain ⟨WE, hWE⟩ : ∃ WE, (((W2.setCell ⟨w.heap.size + 1 + 1, 0, none⟩ (.slice A n ca)).setCell ⟨w.heap.size + 1 + 1, 1, none⟩ (.slice B m cb)).setCell ⟨w.heap.size + 1 + 1, 2, none⟩ (.slice (some ⟨A2, 0, none⟩) (q + 1) cap2)) = WE := ⟨_, rfl⟩
    have hE : Blk WE (w.heap.size + 1 + 1) 26 #[.slice A n ca, .slice B m cb, .slice (some ⟨A2, 0, none⟩) (q + 1) cap2] := by rw [← hWE]; exact ((HK2.out.set_ 0 _).set_ 1 _).set_ 2 _
    have hBE : Below w.heap.size w WE := by rw [← hWE]; exact bl_set (bl_set (bl_set HB2.out (by dsimp only; omega) _) (by dsimp only; omega) _) (by dsimp only; omega) _
    have hOE : OwnL MeasR 2 (fun _ => False) WE wa.heap.size 62 (.slice (some ⟨A2, 0, none⟩) (q + 1) cap2) (c.meas ++ [⟨f, z⟩]) := by
      rw [← hWE]
      exact own_far MeasR.good (own_far MeasR.good (own_far MeasR.good HO3.out (fun h => h) (by omega) _ _) (fun h => h) (by omega) _ _) (fun h => h) (by omega) _ _
    rw [hWE]
    have hcE := hbn.keep (Keeps.below hBE)
    have hCC : Meass (fun _ => True) WE (some ⟨A2, 0, none⟩) (q + 1) (c.meas ++ [⟨f, z⟩]) := hOE.slice MeasR.good rfl hq64 (fun _ _ => trivial) (fun _ _ _ => trivial)
    refine bodyPost_ret (ret_claim1 rfl rfl (hE.cell 0) (hE.cell 1) (hE.cell 2)) rfl ?_
    first
      | exact ⟨_, _, rfl, ⟨hcE.fs.mono FeatR.good (fun _ _ => trivial), hcE.cs.mono CauseR.good (fun _ _ => trivial), hCC⟩, hBE⟩
      | exact ⟨_, ⟨_, rfl⟩, ⟨hcE.fs.mono FeatR.good (fun _ _ => trivial), hcE.cs.mono CauseR.good (fun _ _ => trivial), hCC⟩, hBE⟩
  end Go.Proofs.YtkbpmcpmcmnfgaaDoor
