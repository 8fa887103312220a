/- Walks: the law of greater features. -/
import Derived.Test.YtkbpmcpmcmnfgaaDoorCBackPureG
import Derived.Test.YtkbpmcpmcmnfgaaDoorCHelp2
import Derived.Test.YtkbpmcpmcmnfgaaDoorCLaw6
import Derived.Test.YtkbpmcpmcmnfgaaDoorCProg24
set_option linter.unusedVariables false
set_option linter.unusedSimpArgs false
set_option linter.all false
namespace Go.Proofs.YtkbpmcpmcmnfgaaDoor
open Go.RowKit

theorem eq_span14 (a b : Int) (w : World) : (Op.equalIn 10000 44 (.agg #[.int .i64 a, .int .i64 b]) (.agg #[.int .i64 a, .int .i64 b])).run Tryd.prog w = .ok true w := by
  rw [show (10000 : Nat) = 9999 + 1 from rfl, Op.equalIn]
  simp only [Sem.run_bind, run_underlying Tryd.underlying44, Result.andThen_ok]
  go_simp
theorem infoFeat14 : (Tryd.prog.info? 69).map (fun i => (i.zero, i.size, i.bytes)) = some (some (.agg #[.string ⟨#[]⟩, .int .i64 0, .int .i64 0]), 3, 32) := by kernel_rfl
theorem map_take_succ {α β : Type} {l : List α} {k : Nat} {x : α} (h : l[k]? = some x) (f : α → β) : (l.take (k + 1)).map f = (l.take k).map f ++ [f x] := by rw [List.take_add_one, h]; simp

set_option maxRecDepth 100000 in
set_option maxHeartbeats 3000000 in
theorem largerLaw_any {A B C : Option Addr} {n ca m cb q cc : Nat} {c : Claim} (z x0 x1 : Int) (w : World) (htab : TabOk w) (h : ClaimAt (fun _ => True) w A n B m C q c) (hca : n ≤ ca) (hcb : m ≤ cb) (hz : 0 ≤ z ∧ z < 65536) (hx : (0 ≤ x0 ∧ x0 < 256) ∧ (0 ≤ x1 ∧ x1 < 256)) :
    Calls Tryd.prog 13 #[.agg #[.slice A n ca, .slice B m cb, .slice C q cc], .int .u16 z, .agg #[.int .u8 x0, .int .u8 x1]] w fun e w' => e = .returned (.bool true) ∧ Below w.heap.size w w' := by
  obtain ⟨iF, hF0, hF1, hF2, hF3⟩ := info_parts infoFeat14
  obtain ⟨iM, hM0, hM1, hM2, hM3⟩ := info_parts infoMeas
  obtain ⟨W0, hW0⟩ : ∃ W0, (w.alloc (.cells #[.slice A n ca, .slice B m cb, .slice C q cc] 26)).alloc (.cells #[.int .u8 x0, .int .u8 x1] 63) = W0 := ⟨_, rfl⟩
  have X1 : Blk W0 w.heap.size 26 #[.slice A n ca, .slice B m cb, .slice C q cc] := by rw [← hW0]; exact (Blk.new _ _ _ rfl).alloc _
  have X2 : Blk W0 (w.heap.size + 1) 63 #[.int .u8 x0, .int .u8 x1] := by rw [← hW0]; exact Blk.new _ _ _ (by simp)
  have hB0 : Below w.heap.size w W0 := by rw [← hW0]; exact bl_alloc (bl_alloc (Below.refl _ _) _ (Nat.le_refl _)) _ (Nat.le_refl _)
  have e1 := h.keep (Keeps.below hB0)
  have t0 := htab.bl hB0
  have HW0 := Lib.hid hW0
  have Hn := Lib.hid h.fs.len
  have Hq := Lib.hid h.ms.len
  clear hW0 h htab
  obtain ⟨hz0, hz1⟩ := hz
  obtain ⟨⟨hx0, hx0'⟩, hx1, hx1'⟩ := hx
  have q0 : W0.cell? ⟨w.heap.size, 0, none⟩ = some (.slice A n ca) := X1.cell 0
  have q1 : W0.cell? ⟨w.heap.size, 1, none⟩ = some (.slice B m cb) := X1.cell 1
  have q2 : W0.cell? ⟨w.heap.size, 2, none⟩ = some (.slice C q cc) := X1.cell 2
  by_cases he : err c = 0
  · have hv : ((check c).2.2 == 0) = true := by have he' : (check c).2.2 = 0 := he; simpa using he'
    have HE := Lib.hid he
    have hok := okC_of he
    have HOK := Lib.hid hok
    have hn5 : n ≤ 5 := by rw [← Hn.out]; exact hok.nf.2
    have hn1 : 1 ≤ n := by rw [← Hn.out]; exact hok.nf.1
    have hq8 : q ≤ 8 := by rw [← Hq.out]; exact hok.nm
    have hw0 : IntKind.i64.wrap z = z := by rw [IntKind.wrap_i64]; omega
    clear he
    go_enter Tryd.func13, Tryd.ntmps13
    go_wp2_with fail
    rw [HW0.out]
    refine (valid_any W0 e1).mono ?_
    rintro e u1 ⟨rfl, b1⟩
    rw [hv]
    have r0 := getc b1 q0
    have r1 := getc b1 q1
    have r2 := getc b1 q2
    obtain ⟨u2, hu2⟩ : ∃ u2, u1.alloc (.cells #[.slice none 0 0, .slice B m cb, .slice none 0 0] 26) = u2 := ⟨_, rfl⟩
    have D2 : Blk u2 u1.heap.size 26 #[.slice none 0 0, .slice B m cb, .slice none 0 0] := by rw [← hu2]; exact Blk.new _ _ _ rfl
    have k2 : Below u1.heap.size u1 u2 := by rw [← hu2]; exact bl_alloc (Below.refl _ _) _ (Nat.le_refl _)
    have hs2 : u1.heap.size + 1 ≤ u2.heap.size := by rw [← hu2]; simp
    have Hu2 := Lib.hid hu2
    clear hu2
    go_wp2
    rw [Hu2.out]
    clear r0 r1 r2
    go_loopw [8] (fun i wr => ∃ (k cap : Nat) (Ad : Option Addr) (xs : List Feat), k ≤ n ∧ i = .int .i64 k ∧ Hid (xs.length = k) ∧ OwnL FeatR 3 (fun _ => False) wr (u1.heap.size + 1) 69 (.slice Ad k cap) xs ∧ Blk wr u1.heap.size 26 #[.slice Ad k cap, .slice B m cb, .slice none 0 0] ∧ Below u1.heap.size u1 wr ∧ u1.heap.size + 1 ≤ wr.heap.size ∧ Hid (xs = (c.feats.take k).map (shiftF z))) (fun i _ => n - (intOf i).toNat)
    case atStart => exact ⟨0, 0, none, [], Nat.zero_le _, rfl, rfl, OwnL.nil _ _ _ _ _ _, D2, k2, hs2, rfl⟩
    case round =>
      obtain ⟨k, cap, Ad, xs, hk, rfl, Hl, hO, hD, hB, hsz, Hf⟩ := hrel
      have b2 := bl_call b1 hB (Nat.le_refl _)
      have r0 := getc b2 q0
      have HD := Lib.hid hD
      have HB := Lib.hid hB
      by_cases hlt : k < n
      · have hki : (k : Int) < n := by omega
        have hcr := e1.keep (Keeps.below b2)
        obtain ⟨b, off, s, nom, er, rfl, hb, hc0, hc1, hc2, hs, Hx⟩ := Feats.get hcr.fs hlt
        obtain ⟨hn1', hn2', _, _⟩ := HOK.out.feat Hx.out
        dsimp only at hn1' hn2'
        have hw1 : IntKind.i64.wrap (nom + z) = nom + z := by rw [IntKind.wrap_i64]; omega
        have Hs2 : Hid (xs ++ [⟨s.data.toList, nom + z, er⟩] = (c.feats.take (k + 1)).map (shiftF z)) := by rw [Hid, map_take_succ Hx.out, ← Hf.out]; rfl
        have d0 : wr.cell? ⟨u1.heap.size, 0, none⟩ = some (.slice Ad k cap) := hD.cell 0
        have dl := hD.lt
        have hne2 : some u1.heap.size ≠ (Value.slice Ad k cap).ownBlock := hO.ne (.inl (by omega))
        obtain ⟨wz, hwz⟩ : ∃ wz, wr.alloc (.cells #[.string s, .int .i64 (nom + z), .int .i64 er] 69) = wz := ⟨_, rfl⟩
        have Gz : Blk wz wr.heap.size 69 #[.string s, .int .i64 (nom + z), .int .i64 er] := by rw [← hwz]; exact Blk.new _ _ _ rfl
        have hBz : Below wr.heap.size wr wz := by rw [← hwz]; exact bl_alloc (Below.refl _ _) _ (Nat.le_refl _)
        have hOz := hO.below FeatR.good hBz
        have g0 : wz.cell? ⟨wr.heap.size, 0, none⟩ = some (.string s) := Gz.cell 0
        have g1 : wz.cell? ⟨wr.heap.size, 1, none⟩ = some (.int .i64 (nom + z)) := Gz.cell 1
        have g2 : wz.cell? ⟨wr.heap.size, 2, none⟩ = some (.int .i64 er) := Gz.cell 2
        have d0z := getc hBz d0
        have hsz2 := hBz.size
        clear hD hB
        go_wp2_with (at_builtin; refine wpList_append_n _ rfl _ _ _ rfl FeatR.good (u1.heap.size + 1) 69 iF _ 32 Tryd.underlying22 hF0 hF1 hF2 hF3 rfl (by omega) _ xs ⟨s.data.toList, nom + z, er⟩ k Hl.out rfl (hOz.alloc FeatR.good _) ⟨_, 0, none⟩ 1 [.string s, .int .i64 (nom + z), .int .i64 er] rfl ⟨s, rfl, rfl, hs⟩ (news_new rfl rfl) ?c1 ?c2 ?c3 (fun h => h) ?_)
        case c1 => simp only [maxLen]; omega
        case c2 => omega
        case c3 => first | omega | (simp; omega)
        intro A2 cap2 w5 hO2 hg2 _
        have hB5 : Below u1.heap.size u1 w5 := bl_grown (bl_alloc (bl_call HB.out hBz (by omega)) _ (Nat.le_refl _)) (hOz.alloc FeatR.good _) hg2 (by omega) (Nat.le_refl _)
        have hD5 : Blk w5 u1.heap.size 26 #[.slice Ad k cap, .slice B m cb, .slice none 0 0] := ((HD.out.bl hBz).alloc _).grown hg2 hne2
        have hs5 : u1.heap.size + 1 ≤ w5.heap.size := hD5.lt
        have HD5 := Lib.hid hD5
        have HB5 := Lib.hid hB5
        have HO2 := Lib.hid hO2
        have y0 : w5.cell? ⟨u1.heap.size, 0, none⟩ = some (.slice Ad k cap) := hD5.cell 0
        have y1 := hD5.frozen 0
        have y2 := hD5.lt
        clear hD5 hB5 hO2 hg2 hOz g0 g1 g2 d0z Gz
        go_wp2
        go_roundw
        case rel => exact ⟨k + 1, cap2, _, _, by omega, by go_num, by rw [Hid, List.length_append, Hl.out]; rfl, own_far FeatR.good HO2.out (fun h => h) (by omega) _ _, HD5.out.set_ 0 _, bl_set HB5.out (Nat.le_refl _) _, by simpa using hs5, Hs2⟩
        case measure => simp [intOf]; omega
      · obtain rfl : n = k := by omega
        have hki : ¬ (n : Int) < n := by omega
        obtain ⟨wo, rfl⟩ : ∃ wo : World, wo = wr := ⟨_, rfl⟩
        have hcapf := hO.cap
        have hFs : Feats (fun b => u1.heap.size < b ∧ b < wo.heap.size) wo Ad n ((c.feats).map (shiftF z)) := by
          have hS := hO.slice (T := fun b => u1.heap.size < b ∧ b < wo.heap.size) FeatR.good rfl (by simp only [maxLen]; omega) (fun _ h => h.elim) (fun _ h1 h2 => ⟨by omega, h2⟩)
          rw [Hf.out, List.take_of_length_le (by rw [Hn.out]; exact Nat.le_refl _)] at hS
          exact hS
        clear hO Hf Hl HD HB
        go_wp2
        go_loopw [10] (fun i wr => ∃ (k cap2 : Nat) (Am : Option Addr) (ys : List Meas), k ≤ q ∧ i = .int .i64 k ∧ Hid (ys.length = k) ∧ OwnL MeasR 2 (fun _ => False) wr wo.heap.size 62 (.slice Am k cap2) ys ∧ Blk wr u1.heap.size 26 #[.slice Ad n cap, .slice B m cb, .slice Am k cap2] ∧ Below u1.heap.size u1 wr ∧ wo.heap.size ≤ wr.heap.size ∧ Feats (fun b => u1.heap.size < b ∧ b < wo.heap.size) wr Ad n ((c.feats).map (shiftF z)) ∧ Hid (ys = (c.meas.take k).map (shiftM z))) (fun i _ => q - (intOf i).toNat)
        case atStart => exact ⟨0, 0, none, [], Nat.zero_le _, rfl, rfl, OwnL.nil _ _ _ _ _ _, hD, hB, Nat.le_refl _, hFs, rfl⟩
        case round =>
          clear b2 r0 hD hB hFs
          obtain ⟨k, cap2, Am, ys, hk, rfl, Hl, hO, hD, hB, hsw, hFs, Hf⟩ := hrel
          have b2 := bl_call b1 hB (Nat.le_refl _)
          have r2 := getc b2 q2
          have HD := Lib.hid hD
          have HB := Lib.hid hB
          by_cases hlt2 : k < q
          · have hki2 : (k : Int) < q := by omega
            have hcr := e1.keep (Keeps.below b2)
            obtain ⟨b, off, fe, sh, rfl, hb, hc0, hc1, Hx⟩ := hcr.ms.get hlt2
            obtain ⟨_, _, hs1, hs2'⟩ := HOK.out.meas Hx.out
            dsimp only at hs1 hs2'
            have hw1 : IntKind.i64.wrap (sh + z) = sh + z := by rw [IntKind.wrap_i64]; omega
            have Hs2 : Hid (ys ++ [⟨fe, sh + z⟩] = (c.meas.take (k + 1)).map (shiftM z)) := by rw [Hid, map_take_succ Hx.out, ← Hf.out]; rfl
            have d0 : wr.cell? ⟨u1.heap.size, 2, none⟩ = some (.slice Am k cap2) := hD.cell 2
            have dl := hD.lt
            have hne2 : some u1.heap.size ≠ (Value.slice Am k cap2).ownBlock := hO.ne (.inl (by omega))
            have HOB := Lib.hid (OwnL.block hO)
            have HFs := Lib.hid hFs
            obtain ⟨wz, hwz⟩ : ∃ wz, wr.alloc (.cells #[.int .i64 fe, .int .i64 (sh + z)] 62) = wz := ⟨_, rfl⟩
            have Gz : Blk wz wr.heap.size 62 #[.int .i64 fe, .int .i64 (sh + z)] := by rw [← hwz]; exact Blk.new _ _ _ rfl
            have hBz : Below wr.heap.size wr wz := by rw [← hwz]; exact bl_alloc (Below.refl _ _) _ (Nat.le_refl _)
            have hOz := hO.below MeasR.good hBz
            have g0 : wz.cell? ⟨wr.heap.size, 0, none⟩ = some (.int .i64 fe) := Gz.c0
            have g1 : wz.cell? ⟨wr.heap.size, 1, none⟩ = some (.int .i64 (sh + z)) := Gz.c1
            have d0z := getc hBz d0
            have hsz2 := hBz.size
            clear hD hB hFs
            go_wp2_with (at_builtin; refine wpList_append_n _ rfl _ _ _ rfl MeasR.good wo.heap.size 62 iM _ 16 Tryd.underlying24 hM0 hM1 hM2 hM3 rfl (by omega) _ ys ⟨fe, sh + z⟩ k Hl.out rfl (hOz.alloc MeasR.good _) ⟨_, 0, none⟩ 1 [.int .i64 fe, .int .i64 (sh + z)] rfl rfl (news_new rfl rfl) ?c1 ?c2 ?c3 (fun h => h) ?_)
            case c1 => simp only [maxLen]; omega
            case c2 => omega
            case c3 => first | omega | (simp; omega)
            intro A2 cap3 w5 hO2 hg2 _
            have hB5 : Below u1.heap.size u1 w5 := bl_grown (bl_alloc (bl_call HB.out hBz (by omega)) _ (Nat.le_refl _)) (hOz.alloc MeasR.good _) hg2 (by omega) (Nat.le_refl _)
            have hD5 : Blk w5 u1.heap.size 26 #[.slice Ad n cap, .slice B m cb, .slice Am k cap2] := ((HD.out.bl hBz).alloc _).grown hg2 hne2
            have hF5 : Feats (fun b => u1.heap.size < b ∧ b < wo.heap.size) w5 Ad n ((c.feats).map (shiftF z)) := ((HFs.out.keep FeatR.good (Keeps.below hBz)).keep FeatR.good (Keeps.alloc _ _)).keep FeatR.good (Keeps.grown hg2 (fun k hk he => by first | (have := (HOB.out k hk).1; have := he.2; omega) | (have := (HOB.out k he).1; have := hk.2; omega)))
            have hs5 : wo.heap.size ≤ w5.heap.size := by have := (OwnL.block hO2 A2 rfl); omega
            have HD5 := Lib.hid hD5
            have HB5 := Lib.hid hB5
            have HO2 := Lib.hid hO2
            have HF5 := Lib.hid hF5
            have y0 : w5.cell? ⟨u1.heap.size, 2, none⟩ = some (.slice Am k cap2) := hD5.cell 2
            have y1 := hD5.frozen 2
            have y2 := hD5.lt
            clear hD5 hB5 hO2 hg2 hOz hF5 g0 g1 d0z Gz
            go_wp2
            go_roundw
            case rel => exact ⟨k + 1, cap3, _, _, by omega, by go_num, by rw [Hid, List.length_append, Hl.out]; rfl, own_far MeasR.good HO2.out (fun h => h) (by omega) _ _, HD5.out.set_ 2 _, bl_set HB5.out (Nat.le_refl _) _, by simpa using hs5, HF5.out.keep FeatR.good (Keeps.setCell _ _ _ (by simp)), Hs2⟩
            case measure => simp [intOf]; omega
          · obtain rfl : q = k := by omega
            have hki2 : ¬ (q : Int) < q := by omega
            have hdm : Meass (fun _ => True) wr Am q (c.meas.map (shiftM z)) := by
              have hS := meas_own hO (by omega)
              rw [Hf.out, List.take_of_length_le (by rw [Hq.out]; exact Nat.le_refl _)] at hS
              exact hS
            have hd : ClaimAt (fun _ => True) wr Ad n B m Am q (largerC c z) := ⟨hFs.mono FeatR.good (fun _ _ => trivial), (e1.keep (Keeps.below b2)).cs, hdm⟩
            have d0 : wr.cell? ⟨u1.heap.size, 0, none⟩ = some (.slice Ad n cap) := hD.cell 0
            have d1 : wr.cell? ⟨u1.heap.size, 1, none⟩ = some (.slice B m cb) := hD.cell 1
            have d2 : wr.cell? ⟨u1.heap.size, 2, none⟩ = some (.slice Am q cap2) := hD.cell 2
            clear hO Hf Hl HD HB hFs hdm hB
            go_wp2_with fail
            clear d0 d1 d2 r2
            refine (valid_any wr hd).mono ?_
            rintro e v0 ⟨rfl, k0⟩
            by_cases hed : err (largerC c z) = 0
            · have hvd : ((check (largerC c z)).2.2 == 0) = true := by have he' : (check (largerC c z)).2.2 = 0 := hed; simpa using he'
              rw [hvd]
              have s0 := bl_call b2 k0 (Nat.le_refl _)
              have D0 := hD.bl k0
              have hd := hd.keep (Keeps.below k0)
              have C0 := X1.bl s0
              have E0 := X2.bl s0
              obtain ⟨ls, es, hsr⟩ : ∃ ls es, setsR c = (ls, es) := ⟨_, _, rfl⟩
              obtain ⟨lm, ly, em, hmr⟩ : ∃ lm ly em, mustR c = (lm, ly, em) := ⟨_, _, _, rfl⟩
              obtain ⟨lp, ep, hpr⟩ : ∃ lp ep, plainR c = (lp, ep) := ⟨_, _, rfl⟩
              obtain ⟨aa, ab, ae, har⟩ : ∃ aa ab ae, askR c = (aa, ab, ae) := ⟨_, _, _, rfl⟩
              have Hsc := Lib.hid hsr
              have Hsd := Lib.hid ((sets_larger HE.out hed).trans hsr)
              have Hmc := Lib.hid hmr
              have Hmd := Lib.hid ((must_larger HE.out hed).trans hmr)
              have Hpc := Lib.hid hpr
              have Hpd := Lib.hid ((plain_larger HE.out hed).trans hpr)
              have Hac := Lib.hid har
              have Had := Lib.hid ((ask_larger HE.out hed).trans har)
              have HED := Lib.hid hed
              have m1 : (es != es) = false := by simp
              have m2 : (em != em) = false := by simp
              have m3 : (ep != ep) = false := by simp
              have m4 : (aa != aa) = false := by simp
              have m5 : (ab != ab) = false := by simp
              have m6 : (ae != ae) = false := by simp
              clear hsr hmr hpr har hed hD k0 b2
              have r0 : v0.cell? ⟨w.heap.size, 0, none⟩ = some (.slice A n ca) := (C0).cell 0
              have r1 : v0.cell? ⟨w.heap.size, 1, none⟩ = some (.slice B m cb) := (C0).cell 1
              have r2 : v0.cell? ⟨w.heap.size, 2, none⟩ = some (.slice C q cc) := (C0).cell 2
              go_wp2_with fail
              clear r0 r1 r2
              refine (bsets_any v0 (t0.bl s0) (e1.keep (Keeps.below s0)) hca hcb).mono ?_
              rintro e v1 ⟨A1, n1, c1, rfl, h0, k1⟩
              rw [Hsc.out] at h0 ⊢
              have j1 := k1
              have r0 : v1.cell? ⟨u1.heap.size, 0, none⟩ = some (.slice Ad n cap) := (D0.bl j1).cell 0
              have r1 : v1.cell? ⟨u1.heap.size, 1, none⟩ = some (.slice B m cb) := (D0.bl j1).cell 1
              have r2 : v1.cell? ⟨u1.heap.size, 2, none⟩ = some (.slice Am q cap2) := (D0.bl j1).cell 2
              go_wp2_with fail
              clear r0 r1 r2
              refine (bsets_any v1 (t0.bl (bl_call s0 j1 (Nat.le_refl _))) (hd.keep (Keeps.below j1)) hcapf hcb).mono ?_
              rintro e v2 ⟨A2, n2, c2, rfl, h1, k2⟩
              rw [Hsd.out] at h1 ⊢
              have h0 := h0.keep (SlR.good IntR.good) (Keeps.below k2)
              have j2 := bl_call j1 k2 (Nat.le_refl _)
              clear k2
              have r0 : v2.cell? ⟨w.heap.size, 0, none⟩ = some (.slice A n ca) := (C0.bl j2).cell 0
              have r1 : v2.cell? ⟨w.heap.size, 1, none⟩ = some (.slice B m cb) := (C0.bl j2).cell 1
              have r2 : v2.cell? ⟨w.heap.size, 2, none⟩ = some (.slice C q cc) := (C0.bl j2).cell 2
              go_wp2_with fail
              clear r0 r1 r2
              refine (bmust_any v2 (t0.bl (bl_call s0 j2 (Nat.le_refl _))) (e1.keep (Keeps.below (bl_call s0 j2 (Nat.le_refl _)))) hca hcb).mono ?_
              rintro e v3 ⟨A3, n3, c3, A4, n4, c4, rfl, h2, h2', k3⟩
              rw [Hmc.out] at h2 h2' ⊢
              have h0 := h0.keep (SlR.good IntR.good) (Keeps.below k3)
              have h1 := h1.keep (SlR.good IntR.good) (Keeps.below k3)
              have j3 := bl_call j2 k3 (Nat.le_refl _)
              clear k3
              have r0 : v3.cell? ⟨u1.heap.size, 0, none⟩ = some (.slice Ad n cap) := (D0.bl j3).cell 0
              have r1 : v3.cell? ⟨u1.heap.size, 1, none⟩ = some (.slice B m cb) := (D0.bl j3).cell 1
              have r2 : v3.cell? ⟨u1.heap.size, 2, none⟩ = some (.slice Am q cap2) := (D0.bl j3).cell 2
              go_wp2_with fail
              clear r0 r1 r2
              refine (bmust_any v3 (t0.bl (bl_call s0 j3 (Nat.le_refl _))) (hd.keep (Keeps.below j3)) hcapf hcb).mono ?_
              rintro e v4 ⟨A5, n5, c5, A6, n6, c6, rfl, h3, h3', k4⟩
              rw [Hmd.out] at h3 h3' ⊢
              have h0 := h0.keep (SlR.good IntR.good) (Keeps.below k4)
              have h1 := h1.keep (SlR.good IntR.good) (Keeps.below k4)
              have h2 := h2.keep IntR.good (Keeps.below k4)
              have h2' := h2'.keep IntR.good (Keeps.below k4)
              have j4 := bl_call j3 k4 (Nat.le_refl _)
              clear k4
              have r0 : v4.cell? ⟨w.heap.size, 0, none⟩ = some (.slice A n ca) := (C0.bl j4).cell 0
              have r1 : v4.cell? ⟨w.heap.size, 1, none⟩ = some (.slice B m cb) := (C0.bl j4).cell 1
              have r2 : v4.cell? ⟨w.heap.size, 2, none⟩ = some (.slice C q cc) := (C0.bl j4).cell 2
              go_wp2_with fail
              clear r0 r1 r2
              refine (bplainest_any v4 (t0.bl (bl_call s0 j4 (Nat.le_refl _))) (e1.keep (Keeps.below (bl_call s0 j4 (Nat.le_refl _)))) hca hcb).mono ?_
              rintro e v5 ⟨A7, n7, c7, rfl, h4, k5⟩
              rw [Hpc.out] at h4 ⊢
              have h0 := h0.keep (SlR.good IntR.good) (Keeps.below k5)
              have h1 := h1.keep (SlR.good IntR.good) (Keeps.below k5)
              have h2 := h2.keep IntR.good (Keeps.below k5)
              have h2' := h2'.keep IntR.good (Keeps.below k5)
              have h3 := h3.keep IntR.good (Keeps.below k5)
              have h3' := h3'.keep IntR.good (Keeps.below k5)
              have j5 := bl_call j4 k5 (Nat.le_refl _)
              clear k5
              have r0 : v5.cell? ⟨u1.heap.size, 0, none⟩ = some (.slice Ad n cap) := (D0.bl j5).cell 0
              have r1 : v5.cell? ⟨u1.heap.size, 1, none⟩ = some (.slice B m cb) := (D0.bl j5).cell 1
              have r2 : v5.cell? ⟨u1.heap.size, 2, none⟩ = some (.slice Am q cap2) := (D0.bl j5).cell 2
              go_wp2_with fail
              clear r0 r1 r2
              refine (bplainest_any v5 (t0.bl (bl_call s0 j5 (Nat.le_refl _))) (hd.keep (Keeps.below j5)) hcapf hcb).mono ?_
              rintro e v6 ⟨A8, n8, c8, rfl, h5, k6⟩
              rw [Hpd.out] at h5 ⊢
              have h0 := h0.keep (SlR.good IntR.good) (Keeps.below k6)
              have h1 := h1.keep (SlR.good IntR.good) (Keeps.below k6)
              have h2 := h2.keep IntR.good (Keeps.below k6)
              have h2' := h2'.keep IntR.good (Keeps.below k6)
              have h3 := h3.keep IntR.good (Keeps.below k6)
              have h3' := h3'.keep IntR.good (Keeps.below k6)
              have h4 := h4.keep IntR.good (Keeps.below k6)
              have j6 := bl_call j5 k6 (Nat.le_refl _)
              clear k6
              have r0 : v6.cell? ⟨w.heap.size, 0, none⟩ = some (.slice A n ca) := (C0.bl j6).cell 0
              have r1 : v6.cell? ⟨w.heap.size, 1, none⟩ = some (.slice B m cb) := (C0.bl j6).cell 1
              have r2 : v6.cell? ⟨w.heap.size, 2, none⟩ = some (.slice C q cc) := (C0.bl j6).cell 2
              go_wp2_with fail
              clear r0 r1 r2
              refine (bask_any v6 (e1.keep (Keeps.below (bl_call s0 j6 (Nat.le_refl _)))) hca hcb).mono ?_
              rintro e v7 ⟨rfl, k7⟩
              rw [Hac.out]
              have h0 := h0.keep (SlR.good IntR.good) (Keeps.below k7)
              have h1 := h1.keep (SlR.good IntR.good) (Keeps.below k7)
              have h2 := h2.keep IntR.good (Keeps.below k7)
              have h2' := h2'.keep IntR.good (Keeps.below k7)
              have h3 := h3.keep IntR.good (Keeps.below k7)
              have h3' := h3'.keep IntR.good (Keeps.below k7)
              have h4 := h4.keep IntR.good (Keeps.below k7)
              have h5 := h5.keep IntR.good (Keeps.below k7)
              have j7 := bl_call j6 k7 (Nat.le_refl _)
              clear k7
              have r0 : v7.cell? ⟨u1.heap.size, 0, none⟩ = some (.slice Ad n cap) := (D0.bl j7).cell 0
              have r1 : v7.cell? ⟨u1.heap.size, 1, none⟩ = some (.slice B m cb) := (D0.bl j7).cell 1
              have r2 : v7.cell? ⟨u1.heap.size, 2, none⟩ = some (.slice Am q cap2) := (D0.bl j7).cell 2
              go_wp2_with fail
              clear r0 r1 r2
              refine (bask_any v7 (hd.keep (Keeps.below j7)) hcapf hcb).mono ?_
              rintro e v8 ⟨rfl, k8⟩
              rw [Had.out]
              have h0 := h0.keep (SlR.good IntR.good) (Keeps.below k8)
              have h1 := h1.keep (SlR.good IntR.good) (Keeps.below k8)
              have h2 := h2.keep IntR.good (Keeps.below k8)
              have h2' := h2'.keep IntR.good (Keeps.below k8)
              have h3 := h3.keep IntR.good (Keeps.below k8)
              have h3' := h3'.keep IntR.good (Keeps.below k8)
              have h4 := h4.keep IntR.good (Keeps.below k8)
              have h5 := h5.keep IntR.good (Keeps.below k8)
              have j8 := bl_call j7 k8 (Nat.le_refl _)
              clear k8
              go_wp2_with fail
              refine (same_any _ h0 h1).mono ?_
              rintro e w1 ⟨rfl, z1, hw1⟩
              rw [decide_eq_true rfl]
              have i1 : Below v8.heap.size v8 w1 := by rw [hw1]; exact bl_drewN (Below.refl _ _) _
              clear hw1
              go_wp2_with fail
              refine (ints_any _ (h2.keep IntR.good (Keeps.below i1)) (h3.keep IntR.good (Keeps.below i1))).mono ?_
              rintro e w2 ⟨rfl, z2, hw2⟩
              rw [decide_eq_true rfl]
              have i2 : Below v8.heap.size v8 w2 := by rw [hw2]; exact bl_drewN i1 _
              clear hw2
              go_wp2_with fail
              refine (ints_any _ (h2'.keep IntR.good (Keeps.below i2)) (h3'.keep IntR.good (Keeps.below i2))).mono ?_
              rintro e w3 ⟨rfl, z3, hw3⟩
              rw [decide_eq_true rfl]
              have i3 : Below v8.heap.size v8 w3 := by rw [hw3]; exact bl_drewN i2 _
              clear hw3
              go_wp2_with fail
              refine (ints_any _ (h4.keep IntR.good (Keeps.below i3)) (h5.keep IntR.good (Keeps.below i3))).mono ?_
              rintro e w4 ⟨rfl, z4, hw4⟩
              rw [decide_eq_true rfl]
              have i4 : Below v8.heap.size v8 w4 := by rw [hw4]; exact bl_drewN i3 _
              clear hw4
              obtain ⟨v9, rfl⟩ : ∃ v9 : World, v9 = w4 := ⟨_, rfl⟩
              have j9 := bl_call j8 i4 (Nat.le_refl _)
              have s9 := bl_call s0 j9 (Nat.le_refl _)
              have C9 := C0.bl j9
              have D9 := D0.bl j9
              have E9 := E0.bl j9
              have ec := e1.keep (Keeps.below s9)
              have ed := hd.keep (Keeps.below j9)
              clear h0 h1 h2 h2' h3 h3' h4 h5 i1 i2 i3 i4 j1 j2 j3 j4 j5 j6 j7 j8 C0 D0 E0 hd e1
              obtain ⟨xN, rfl⟩ := Int.eq_ofNat_of_zero_le hx1
              have hkn : xN % n < n := Nat.mod_lt _ (by omega)
              have htm := turn_rem xN n
              have hnz : ((n : Int) == 0) = false := by simp; omega
              obtain ⟨lo, hi, lo', hi', ev, hvc, hvd, hev⟩ := value_larger HE.out HED.out (f := xN % n) (by rw [Hn.out]; exact hkn)
              generalize hj : xN % n = kN at *
              have hkni : (kN : Int) < n := by omega
              have hkn0 : (0 : Int) ≤ kN := by omega
              have hni5 : (n : Int) ≤ 5 := by omega
              have hw10 : IntKind.i64.wrap (kN : Int) = kN := by rw [IntKind.wrap_i64]; omega
              have hw11 : IntKind.i64.wrap (xN : Int) = xN := by rw [IntKind.wrap_i64]; omega
              have hn0' : ¬ (n : Int) = 0 := by omega
              have hn0'' : ¬ n = 0 := by omega
              have Hvc := Lib.hid hvc
              have Hvd := Lib.hid hvd
              have Hev := Lib.hid hev
              clear hvc hvd hev
              have c0 : v9.cell? ⟨w.heap.size, 0, none⟩ = some (.slice A n ca) := C9.cell 0
              have c1 : v9.cell? ⟨w.heap.size, 1, none⟩ = some (.slice B m cb) := C9.cell 1
              have c2 : v9.cell? ⟨w.heap.size, 2, none⟩ = some (.slice C q cc) := C9.cell 2
              have c3 : v9.cell? ⟨w.heap.size + 1, 1, none⟩ = some (.int .u8 xN) := E9.c1
              have kk : Hid (∀ W', Below v9.heap.size v9 W' → W'.cell? ⟨w.heap.size, 0, none⟩ = some (.slice A n ca) ∧ W'.cell? ⟨w.heap.size, 1, none⟩ = some (.slice B m cb) ∧ W'.cell? ⟨w.heap.size, 2, none⟩ = some (.slice C q cc) ∧ W'.cell? ⟨w.heap.size + 1, 1, none⟩ = some (.int .u8 xN) ∧ Below v9.heap.size v9 W') := fun W' hb => ⟨getc hb c0, getc hb c1, getc hb c2, getc hb c3, hb⟩
              have hnew : Blk (v9.drew.alloc (.cells #[.int .i64 0, .int .i64 0] 44)) v9.heap.size 44 #[.int .i64 0, .int .i64 0] := Blk.new _ _ _ rfl
              have hnew2 : Blk (v9.alloc (.cells #[.int .i64 0, .int .i64 0] 44)).drew v9.heap.size 44 #[.int .i64 0, .int .i64 0] := (Blk.new _ _ _ rfl).drew
              go_wp2
              go_region_held3 (fun w' => w'.cell? ⟨w.heap.size, 0, none⟩ = some (.slice A n ca) ∧ w'.cell? ⟨w.heap.size, 1, none⟩ = some (.slice B m cb) ∧ w'.cell? ⟨w.heap.size, 2, none⟩ = some (.slice C q cc) ∧ w'.cell? ⟨w.heap.size + 1, 1, none⟩ = some (.int .u8 xN) ∧ Below v9.heap.size v9 w')
                (first | exact kk.out _ (Below.refl _ _).drew | exact kk.out _ (Below.refl _ _) | exact kk.out _ p1 | exact kk.out _ (bl_alloc (Below.refl _ _).drew _ (Nat.le_refl _)) | exact kk.out _ (bl_alloc (Below.refl _ _) _ (Nat.le_refl _)) | exact kk.out _ (bl_alloc (Below.refl _ _) _ (Nat.le_refl _)).drew | exact kk.out _ (bl_alloc p1 _ (Nat.le_refl _)) | exact kk.out _ (bl_set p1 (Nat.le_refl _) _) | exact kk.out _ (bl_set (bl_set p1 (Nat.le_refl _) _) (Nat.le_refl _) _))
                (first | (go_at_call 30; have hh := ‹_ ∧ _ ∧ _ ∧ _ ∧ Below v9.heap.size v9 _›; have hp := hh.2.2.2.2; clear hh; refine (bvalue_any (kN : Int) _ (ec.keep (Keeps.below hp)) hca hcb).mono ?_; rintro e y1 ⟨rfl, k1⟩; rw [Hvc.out]; have G1 : Blk y1 v9.heap.size 44 #[.int .i64 0, .int .i64 0] := (by first | (with_reducible exact Blk.bl hnew k1) | (with_reducible exact Blk.bl hnew2 k1)); have f0 := G1.frozen 0; have f1 := G1.frozen 1; have g0 := G1.c0; have g1 := G1.c1; have gl := G1.lt; have p1 := bl_call hp k1 (Nat.le_refl _)) | (go_at_call 30; have hh := ‹_ ∧ _ ∧ _ ∧ _ ∧ Below v9.heap.size v9 _›; have hp := hh.2.2.2.2; clear hh; refine (bvalue_any (kN : Int) _ (ec.keep (Keeps.below hp)) hca hcb).mono ?_; rintro e y1 ⟨rfl, k1⟩; rw [Hvc.out]; have p1 := bl_call hp k1 (Nat.le_refl _)))
              all_goals
                rename_i hHeld
                clear hHeld
                first
                  | (obtain ⟨va, ga, GA, PA, hg, hw⟩ : ∃ vq gq, Blk vq gq 44 #[.int .i64 lo, .int .i64 hi] ∧ Below v9.heap.size v9 vq ∧ gq = y1.heap.size ∧ y1.alloc (.cells #[.int .i64 lo, .int .i64 hi] 44) = vq := ⟨_, _, Blk.new _ _ _ rfl, bl_alloc p1 _ (Nat.le_refl _), rfl, rfl⟩; rw [hw, ← hg]; clear hg hw)
                  | (obtain ⟨va, ga, GA, PA, hg, hw⟩ : ∃ vq gq, Blk vq gq 44 #[.int .i64 lo, .int .i64 hi] ∧ Below v9.heap.size v9 vq ∧ gq = v9.heap.size ∧ (y1.setCell ⟨v9.heap.size, 0, none⟩ (.int .i64 lo)).setCell ⟨v9.heap.size, 1, none⟩ (.int .i64 hi) = vq := ⟨_, _, G1.set2 _ _, bl_set (bl_set p1 (Nat.le_refl _) _) (Nat.le_refl _) _, rfl, rfl⟩; rw [hw, ← hg]; clear hg hw)
                clear kk c0 c1 c2 c3 hnew hnew2
                have j10 := bl_call s9 PA (Nat.le_refl _)
                have Ca := C9.bl PA
                have Da := D9.bl PA
                have Ea := E9.bl PA
                have ec := ec.keep (Keeps.below PA)
                have ed := ed.keep (Keeps.below PA)
                have c0 : va.cell? ⟨w.heap.size, 0, none⟩ = some (.slice A n ca) := Ca.cell 0
                have c1 : va.cell? ⟨u1.heap.size, 0, none⟩ = some (.slice Ad n cap) := Da.cell 0
                have c2 : va.cell? ⟨u1.heap.size, 1, none⟩ = some (.slice B m cb) := Da.cell 1
                have c3 : va.cell? ⟨u1.heap.size, 2, none⟩ = some (.slice Am q cap2) := Da.cell 2
                have c4 : va.cell? ⟨w.heap.size + 1, 1, none⟩ = some (.int .u8 xN) := Ea.c1
                have kk : Hid (∀ W', Below va.heap.size va W' → W'.cell? ⟨w.heap.size, 0, none⟩ = some (.slice A n ca) ∧ W'.cell? ⟨u1.heap.size, 0, none⟩ = some (.slice Ad n cap) ∧ W'.cell? ⟨u1.heap.size, 1, none⟩ = some (.slice B m cb) ∧ W'.cell? ⟨u1.heap.size, 2, none⟩ = some (.slice Am q cap2) ∧ W'.cell? ⟨w.heap.size + 1, 1, none⟩ = some (.int .u8 xN) ∧ Below va.heap.size va W') := fun W' hb => ⟨getc hb c0, getc hb c1, getc hb c2, getc hb c3, getc hb c4, hb⟩
                have hnew : Blk (va.drew.alloc (.cells #[.int .i64 0, .int .i64 0] 44)) va.heap.size 44 #[.int .i64 0, .int .i64 0] := Blk.new _ _ _ rfl
                have hnew2 : Blk (va.alloc (.cells #[.int .i64 0, .int .i64 0] 44)).drew va.heap.size 44 #[.int .i64 0, .int .i64 0] := (Blk.new _ _ _ rfl).drew
                go_wp2
                go_region_held3 (fun w' => w'.cell? ⟨w.heap.size, 0, none⟩ = some (.slice A n ca) ∧ w'.cell? ⟨u1.heap.size, 0, none⟩ = some (.slice Ad n cap) ∧ w'.cell? ⟨u1.heap.size, 1, none⟩ = some (.slice B m cb) ∧ w'.cell? ⟨u1.heap.size, 2, none⟩ = some (.slice Am q cap2) ∧ w'.cell? ⟨w.heap.size + 1, 1, none⟩ = some (.int .u8 xN) ∧ Below va.heap.size va w')
                  (first | exact kk.out _ (Below.refl _ _).drew | exact kk.out _ (Below.refl _ _) | exact kk.out _ p2 | exact kk.out _ (bl_alloc (Below.refl _ _).drew _ (Nat.le_refl _)) | exact kk.out _ (bl_alloc (Below.refl _ _) _ (Nat.le_refl _)) | exact kk.out _ (bl_alloc (Below.refl _ _) _ (Nat.le_refl _)).drew | exact kk.out _ (bl_alloc p2 _ (Nat.le_refl _)) | exact kk.out _ (bl_set p2 (Nat.le_refl _) _) | exact kk.out _ (bl_set (bl_set p2 (Nat.le_refl _) _) (Nat.le_refl _) _))
                  (first | (go_at_call 30; have hh := ‹_ ∧ _ ∧ _ ∧ _ ∧ _ ∧ Below va.heap.size va _›; have hp := hh.2.2.2.2.2; clear hh; refine (bvalue_any (kN : Int) _ (ed.keep (Keeps.below hp)) hcapf hcb).mono ?_; rintro e y2 ⟨rfl, k2⟩; rw [Hvd.out]; have G2 : Blk y2 va.heap.size 44 #[.int .i64 0, .int .i64 0] := (by first | (with_reducible exact Blk.bl hnew k2) | (with_reducible exact Blk.bl hnew2 k2)); have f0 := G2.frozen 0; have f1 := G2.frozen 1; have g0 := G2.c0; have g1 := G2.c1; have gl := G2.lt; have p2 := bl_call hp k2 (Nat.le_refl _)) | (go_at_call 30; have hh := ‹_ ∧ _ ∧ _ ∧ _ ∧ _ ∧ Below va.heap.size va _›; have hp := hh.2.2.2.2.2; clear hh; refine (bvalue_any (kN : Int) _ (ed.keep (Keeps.below hp)) hcapf hcb).mono ?_; rintro e y2 ⟨rfl, k2⟩; rw [Hvd.out]; have p2 := bl_call hp k2 (Nat.le_refl _)))
                all_goals
                  rename_i hHeld
                  clear hHeld
                  first
                    | (obtain ⟨vb, gb, GB, PB, hg, hw⟩ : ∃ vq gq, Blk vq gq 44 #[.int .i64 lo', .int .i64 hi'] ∧ Below va.heap.size va vq ∧ gq = y2.heap.size ∧ y2.alloc (.cells #[.int .i64 lo', .int .i64 hi'] 44) = vq := ⟨_, _, Blk.new _ _ _ rfl, bl_alloc p2 _ (Nat.le_refl _), rfl, rfl⟩; rw [hw, ← hg]; clear hg hw)
                    | (obtain ⟨vb, gb, GB, PB, hg, hw⟩ : ∃ vq gq, Blk vq gq 44 #[.int .i64 lo', .int .i64 hi'] ∧ Below va.heap.size va vq ∧ gq = va.heap.size ∧ (y2.setCell ⟨va.heap.size, 0, none⟩ (.int .i64 lo')).setCell ⟨va.heap.size, 1, none⟩ (.int .i64 hi') = vq := ⟨_, _, G2.set2 _ _, bl_set (bl_set p2 (Nat.le_refl _) _) (Nat.le_refl _) _, rfl, rfl⟩; rw [hw, ← hg]; clear hg hw)
                  clear kk c0 c1 c2 c3 c4 hnew hnew2
                  have j11 := bl_call j10 PB (Nat.le_refl _)
                  have GA2 := GA.bl PB
                  have Cb := Ca.bl PB
                  have Db := Da.bl PB
                  have Eb := Ea.bl PB
                  have ec := ec.keep (Keeps.below PB)
                  have ed := ed.keep (Keeps.below PB)
                  obtain ⟨a0, a1, ax, ham⟩ : ∃ a0 a1 ax, amountR c x0 = ((a0, a1), ax) := ⟨_, _, _, rfl⟩
                  have Hamc := Lib.hid ham
                  have Hamd := Lib.hid ((amount_larger HE.out HED.out x0).trans ham)
                  have hax : (ax == ax) = true := by simp
                  have hw12 : IntKind.i64.wrap x0 = x0 := by rw [IntKind.wrap_i64]; omega
                  have hspa := eq_span14 a0 a1
                  clear ham
                  have g0 := GA2.c0
                  have g1 := GA2.c1
                  have g2 := GB.c0
                  have g3 := GB.c1
                  rcases Hev.out with rfl | ⟨rfl, hlo, hhi, hb1, hb2, hb3, hb4⟩
                  · go_wp2
                    go_quiet (fail)
                    obtain ⟨vc, hvc⟩ : ∃ vc, vb.drewN nq = vc := ⟨_, rfl⟩
                    have PC : Below vb.heap.size vb vc := by rw [← hvc]; exact bl_drewN (Below.refl _ _) _
                    rw [hvc]
                    clear hvc g0 g1 g2 g3
                    have c0 : vc.cell? ⟨w.heap.size, 0, none⟩ = some (.slice A n ca) := (Cb.bl PC).cell 0
                    have c1 : vc.cell? ⟨w.heap.size, 1, none⟩ = some (.slice B m cb) := (Cb.bl PC).cell 1
                    have c2 : vc.cell? ⟨w.heap.size, 2, none⟩ = some (.slice C q cc) := (Cb.bl PC).cell 2
                    have c3 : vc.cell? ⟨w.heap.size + 1, 0, none⟩ = some (.int .u8 x0) := (Eb.bl PC).c0
                    go_wp2_with fail
                    clear c0 c1 c2 c3
                    refine (bamount_any x0 vc (ec.keep (Keeps.below PC)) hca hcb).mono ?_
                    rintro e y4 ⟨rfl, k4⟩
                    rw [Hamc.out]
                    obtain ⟨vd, hvd⟩ : ∃ vd, y4.alloc (.cells #[.int .i64 a0, .int .i64 a1] 44) = vd := ⟨_, rfl⟩
                    have GD : Blk vd y4.heap.size 44 #[.int .i64 a0, .int .i64 a1] := by rw [← hvd]; exact Blk.new _ _ _ rfl
                    have PD : Below vb.heap.size vb vd := by rw [← hvd]; exact bl_alloc (bl_call PC k4 (Nat.le_refl _)) _ (Nat.le_refl _)
                    have c0 : vd.cell? ⟨u1.heap.size, 0, none⟩ = some (.slice Ad n cap) := (Db.bl PD).cell 0
                    have c1 : vd.cell? ⟨u1.heap.size, 1, none⟩ = some (.slice B m cb) := (Db.bl PD).cell 1
                    have c2 : vd.cell? ⟨u1.heap.size, 2, none⟩ = some (.slice Am q cap2) := (Db.bl PD).cell 2
                    have c3 : vd.cell? ⟨w.heap.size + 1, 0, none⟩ = some (.int .u8 x0) := (Eb.bl PD).c0
                    go_wp2_with fail
                    clear c0 c1 c2 c3 hvd
                    refine (bamount_any x0 vd (ed.keep (Keeps.below PD)) hcapf hcb).mono ?_
                    rintro e y5 ⟨rfl, k5⟩
                    rw [Hamd.out]
                    have P5 := bl_call PD k5 (Nat.le_refl _)
                    obtain ⟨ve, hve⟩ : ∃ ve, y5.alloc (.cells #[.int .i64 a0, .int .i64 a1] 44) = ve := ⟨_, rfl⟩
                    have GE : Blk ve y5.heap.size 44 #[.int .i64 a0, .int .i64 a1] := by rw [← hve]; exact Blk.new _ _ _ rfl
                    have GD2 : Blk ve y4.heap.size 44 #[.int .i64 a0, .int .i64 a1] := by rw [← hve]; exact (GD.bl k5).alloc _
                    have PE : Below vb.heap.size vb ve := by rw [← hve]; exact bl_alloc P5 _ (Nat.le_refl _)
                    have c0 := GD2.c0
                    have c1 := GD2.c1
                    have c2 := GE.c0
                    have c3 := GE.c1
                    have b12 := bl_call j11 PE (Nat.le_refl _)
                    go_wp2_with fail
                    refine (awake_any _ (t0.bl b12)).mono ?_
                    rintro e y6 ⟨rfl, k6⟩
                    go_wp2
                    go_ret
                    exact ⟨rfl, bl_call (bl_call hB0 b12 (Nat.le_refl _)) k6 (Nat.le_refl _)⟩
                  · subst hlo hhi
                    have hwl : IntKind.i64.wrap (lo + z) = lo + z := by rw [IntKind.wrap_i64]; omega
                    have hwh : IntKind.i64.wrap (hi + z) = hi + z := by rw [IntKind.wrap_i64]; omega
                    have hsp := eq_span14 (lo + z) (hi + z)
                    have kk : Hid (∀ W', Below vb.heap.size vb W' → W'.cell? ⟨ga, 0, none⟩ = some (.int .i64 lo) ∧ W'.cell? ⟨ga, 1, none⟩ = some (.int .i64 hi) ∧ W'.cell? ⟨gb, 0, none⟩ = some (.int .i64 (lo + z)) ∧ W'.cell? ⟨gb, 1, none⟩ = some (.int .i64 (hi + z)) ∧ Below vb.heap.size vb W') := fun W' hb => ⟨getc hb g0, getc hb g1, getc hb g2, getc hb g3, hb⟩
                    go_wp2
                    go_region_held3 (fun w' => w'.cell? ⟨ga, 0, none⟩ = some (.int .i64 lo) ∧ w'.cell? ⟨ga, 1, none⟩ = some (.int .i64 hi) ∧ w'.cell? ⟨gb, 0, none⟩ = some (.int .i64 (lo + z)) ∧ w'.cell? ⟨gb, 1, none⟩ = some (.int .i64 (hi + z)) ∧ Below vb.heap.size vb w')
                      (first | exact kk.out _ (Below.refl _ _).drew | exact kk.out _ (Below.refl _ _) | exact kk.out _ p3)
                      (first | (go_at_call 36; have hh := ‹_ ∧ _ ∧ _ ∧ _ ∧ Below vb.heap.size vb _›; have hp := hh.2.2.2.2; clear hh; refine (span_any _ _ _).mono ?_; rintro e y3 ⟨rfl, k3⟩; have p3 := bl_call hp k3 (Nat.le_refl _)))
                    rename_i hHeld
                    clear hHeld
                    obtain ⟨vc, rfl⟩ : ∃ vc : World, vc = y3 := ⟨_, rfl⟩
                    have PC := p3
                    clear kk g0 g1 g2 g3
                    have c0 : vc.cell? ⟨w.heap.size, 0, none⟩ = some (.slice A n ca) := (Cb.bl PC).cell 0
                    have c1 : vc.cell? ⟨w.heap.size, 1, none⟩ = some (.slice B m cb) := (Cb.bl PC).cell 1
                    have c2 : vc.cell? ⟨w.heap.size, 2, none⟩ = some (.slice C q cc) := (Cb.bl PC).cell 2
                    have c3 : vc.cell? ⟨w.heap.size + 1, 0, none⟩ = some (.int .u8 x0) := (Eb.bl PC).c0
                    go_wp2_with fail
                    clear c0 c1 c2 c3
                    refine (bamount_any x0 vc (ec.keep (Keeps.below PC)) hca hcb).mono ?_
                    rintro e y4 ⟨rfl, k4⟩
                    rw [Hamc.out]
                    obtain ⟨vd, hvd⟩ : ∃ vd, y4.alloc (.cells #[.int .i64 a0, .int .i64 a1] 44) = vd := ⟨_, rfl⟩
                    have GD : Blk vd y4.heap.size 44 #[.int .i64 a0, .int .i64 a1] := by rw [← hvd]; exact Blk.new _ _ _ rfl
                    have PD : Below vb.heap.size vb vd := by rw [← hvd]; exact bl_alloc (bl_call PC k4 (Nat.le_refl _)) _ (Nat.le_refl _)
                    have c0 : vd.cell? ⟨u1.heap.size, 0, none⟩ = some (.slice Ad n cap) := (Db.bl PD).cell 0
                    have c1 : vd.cell? ⟨u1.heap.size, 1, none⟩ = some (.slice B m cb) := (Db.bl PD).cell 1
                    have c2 : vd.cell? ⟨u1.heap.size, 2, none⟩ = some (.slice Am q cap2) := (Db.bl PD).cell 2
                    have c3 : vd.cell? ⟨w.heap.size + 1, 0, none⟩ = some (.int .u8 x0) := (Eb.bl PD).c0
                    go_wp2_with fail
                    clear c0 c1 c2 c3 hvd
                    refine (bamount_any x0 vd (ed.keep (Keeps.below PD)) hcapf hcb).mono ?_
                    rintro e y5 ⟨rfl, k5⟩
                    rw [Hamd.out]
                    have P5 := bl_call PD k5 (Nat.le_refl _)
                    obtain ⟨ve, hve⟩ : ∃ ve, y5.alloc (.cells #[.int .i64 a0, .int .i64 a1] 44) = ve := ⟨_, rfl⟩
                    have GE : Blk ve y5.heap.size 44 #[.int .i64 a0, .int .i64 a1] := by rw [← hve]; exact Blk.new _ _ _ rfl
                    have GD2 : Blk ve y4.heap.size 44 #[.int .i64 a0, .int .i64 a1] := by rw [← hve]; exact (GD.bl k5).alloc _
                    have PE : Below vb.heap.size vb ve := by rw [← hve]; exact bl_alloc P5 _ (Nat.le_refl _)
                    have c0 := GD2.c0
                    have c1 := GD2.c1
                    have c2 := GE.c0
                    have c3 := GE.c1
                    have b12 := bl_call j11 PE (Nat.le_refl _)
                    go_wp2_with fail
                    refine (awake_any _ (t0.bl b12)).mono ?_
                    rintro e y6 ⟨rfl, k6⟩
                    go_wp2
                    go_ret
                    exact ⟨rfl, bl_call (bl_call hB0 b12 (Nat.le_refl _)) k6 (Nat.le_refl _)⟩
            · have hvd : ((check (largerC c z)).2.2 == 0) = false := by have he' : (check (largerC c z)).2.2 ≠ 0 := hed; simpa using he'
              rw [hvd]
              have s0 := bl_call b2 k0 (Nat.le_refl _)
              go_wp2_with fail
              refine (awake_any _ (t0.bl s0)).mono ?_
              rintro e u4 ⟨rfl, b4⟩
              go_wp2
              go_ret
              exact ⟨rfl, bl_call (bl_call hB0 s0 (Nat.le_refl _)) b4 (Nat.le_refl _)⟩
  · have hv : ((check c).2.2 == 0) = false := by have he' : (check c).2.2 ≠ 0 := he; simpa using he'
    go_enter Tryd.func13, Tryd.ntmps13
    go_wp2_with fail
    rw [HW0.out]
    refine (valid_any W0 e1).mono ?_
    rintro e u1 ⟨rfl, b1⟩
    rw [hv]
    go_wp2_with fail
    refine (awake_any _ (t0.bl b1)).mono ?_
    rintro e u4 ⟨rfl, b4⟩
    go_wp2
    go_ret
    exact ⟨rfl, bl_call (bl_call hB0 b1 (Nat.le_refl _)) b4 (Nat.le_refl _)⟩

end Go.Proofs.YtkbpmcpmcmnfgaaDoor
