/- Walks: the law of wrong measures. -/
import Derived.Test.YtkbpmcpmcmnfgaaDoorCHelp2
import Derived.Test.YtkbpmcpmcmnfgaaDoorCLaw6
import Derived.Test.YtkbpmcpmcmnfgaaDoorCTold
set_option linter.unusedVariables false
set_option linter.unusedSimpArgs false
set_option linter.all false
namespace Go.Proofs.YtkbpmcpmcmnfgaaDoor
open Go.RowKit

theorem wrong_bad {c : Claim} (h : err c ≠ 0) : wrongR c = ([], err c) := by unfold wrongR; rw [if_pos h]

set_option maxRecDepth 100000 in
set_option maxHeartbeats 1600000 in
theorem wrongLaw_any {A B C X Y : Option Addr} {n ca m cb q cc nx cx ny cy : Nat} {c : Claim} {xs ys : List Int} (x : Int) (w : World) (htab : TabOk w) (h : ClaimAt (fun _ => True) w A n B m C q c) (hca : n ≤ ca) (hcb : m ≤ cb) (hX : Bytes (fun _ => True) w X nx xs) (hY : Bytes (fun _ => True) w Y ny ys) (hx : 0 ≤ x ∧ x < 256) :
    Calls Tryd.prog 12 #[.agg #[.slice A n ca, .slice B m cb, .slice C q cc], .agg #[.slice X nx cx, .slice Y ny cy], .int .u8 x] w fun e w' => e = .returned (.bool true) ∧ Below w.heap.size w w' := by
  obtain ⟨i0, hi0, hz0, hz1, hz2⟩ := info_parts infoMeas
  obtain ⟨W0, hW0⟩ : ∃ W0, (w.alloc (.cells #[.slice A n ca, .slice B m cb, .slice C q cc] 26)).alloc (.cells #[.slice X nx cx, .slice Y ny cy] 71) = W0 := ⟨_, rfl⟩
  have X1 : Blk W0 w.heap.size 26 #[.slice A n ca, .slice B m cb, .slice C q cc] := by rw [← hW0]; exact (Blk.new _ _ _ rfl).alloc _
  have X2 : Blk W0 (w.heap.size + 1) 71 #[.slice X nx cx, .slice Y ny cy] := by rw [← hW0]; exact Blk.new _ _ _ (by simp)
  have hB0 : Below w.heap.size w W0 := by rw [← hW0]; exact bl_alloc (bl_alloc (Below.refl _ _) _ (Nat.le_refl _)) _ (Nat.le_refl _)
  have e1 := h.keep (Keeps.below hB0)
  have x1 := hX.keep U8R.good (Keeps.below hB0)
  have y1 := hY.keep U8R.good (Keeps.below hB0)
  have hbn := claim_bnd e1
  have hwlt := X1.lt
  have t0 := htab.bl hB0
  have HW0 := Lib.hid hW0
  have Hq := Lib.hid h.ms.len
  clear hW0 h htab hX hY
  obtain ⟨hx0, hx9⟩ := hx
  have q0 : W0.cell? ⟨w.heap.size, 0, none⟩ = some (.slice A n ca) := X1.cell 0
  have q1 : W0.cell? ⟨w.heap.size, 1, none⟩ = some (.slice B m cb) := X1.cell 1
  have q2 : W0.cell? ⟨w.heap.size, 2, none⟩ = some (.slice C q cc) := X1.cell 2
  by_cases he : err c = 0
  · have hv : ((check c).2.2 == 0) = true := by have he' : (check c).2.2 = 0 := he; simpa using he'
    have hok := okC_of he
    have HOK := Lib.hid hok
    have hq8 : q ≤ 8 := by rw [← Hq.out]; exact hok.nm
    have htr := truth_ok hok xs
    have hex := truth_exts hok xs
    obtain ⟨l, hl⟩ : ∃ l, fewOf ((allT c.causes).map (untrueL c)) = l := ⟨_, rfl⟩
    have HWR : Hid (wrongR c = (l, 0)) := by rw [Hid, wrong_ok he, hl]
    have Hasc : Hid (ascL l q = true) := by
      obtain ⟨t, _, e⟩ := wrong_at hok
      rw [Hid, ← hl, e, ← Hq.out]; exact asc_untrue c t
    have Hfew : Hid ((mustR (pickC c fun i => !decide ((i : Int) ∈ l))).2.2 = 0) := by
      have h1 := few_agree hok
      rw [hl] at h1
      rw [Hid, must_ok (pick_err he _) h1]
    have Hrest : Hid ((mustR (pickC c fun i => !bitB x i)).2.2 = 8 ∨ ((mustR (pickC c fun i => !bitB x i)).2.2 = 0 ∧ l.length ≤ manyK x q)) := by
      by_cases ha : agreeL (pickC c fun i => !bitB x i) = []
      · left; rw [must_none (pick_err he _) ha]
      · right
        have h1 := rest_agree x ha
        rw [hl, Hq.out] at h1
        rw [must_ok (pick_err he _) ha]
        exact ⟨rfl, h1⟩
    have Htold : Hid (∃ lw, wrongR (toldC c (truthR c xs) ys x) = (lw, 0) ∧ lw.length ≤ manyK x q) := by
      have h1 := told_wrong hok hex ys x
      rw [Hq.out] at h1
      exact ⟨_, wrong_ok (told_err he _ _ _), h1⟩
    clear he hl hok hex
    go_enter Tryd.func12, Tryd.ntmps12
    go_wp2_with fail
    rw [HW0.out]
    refine (bwrong_any W0 e1 hca hcb).mono ?_
    rintro e u1 ⟨A1, n1, c1, rfl, hI1, b1⟩
    rw [HWR.out] at hI1 ⊢
    have r0 := getc b1 q0
    have r1 := getc b1 q1
    have r2 := getc b1 q2
    go_wp2_with fail
    clear r0 r1 r2
    refine (valid_any u1 (e1.keep (Keeps.below b1))).mono ?_
    rintro e u2 ⟨rfl, k2⟩
    rw [hv]
    have hI1 := hI1.keep IntR.good (Keeps.below k2)
    have b2 := bl_call b1 k2 (Nat.le_refl _)
    have r0 := getc b2 q0
    have r1 := getc b2 q1
    have r2 := getc b2 q2
    clear b1 k2
    have kk : Hid (∀ W', Below u2.heap.size u2 W' → W'.cell? ⟨w.heap.size, 0, none⟩ = some (.slice A n ca) ∧ W'.cell? ⟨w.heap.size, 1, none⟩ = some (.slice B m cb) ∧ W'.cell? ⟨w.heap.size, 2, none⟩ = some (.slice C q cc) ∧ Below u2.heap.size u2 W') := fun W' hb => ⟨getc hb r0, getc hb r1, getc hb r2, hb⟩
    go_wp2
    go_region_held3 (fun w' => w'.cell? ⟨w.heap.size, 0, none⟩ = some (.slice A n ca) ∧ w'.cell? ⟨w.heap.size, 1, none⟩ = some (.slice B m cb) ∧ w'.cell? ⟨w.heap.size, 2, none⟩ = some (.slice C q cc) ∧ Below u2.heap.size u2 w')
      (first | exact kk.out _ (Below.refl _ _).drew | exact kk.out _ (Below.refl _ _) | exact kk.out _ (bl_alloc (Below.refl _ _) _ (Nat.le_refl _)).drew | exact kk.out _ (bl_alloc (bl_alloc (Below.refl _ _) _ (Nat.le_refl _)) _ (Nat.le_refl _)).drew | exact kk.out _ (bl_alloc (bl_alloc (Below.refl _ _) _ (Nat.le_refl _)).drew _ (Nat.le_refl _)) | exact kk.out _ (bl_alloc (Below.refl _ _).drew _ (Nat.le_refl _)) | exact kk.out _ (bl_alloc (bl_alloc (Below.refl _ _).drew _ (Nat.le_refl _)) _ (Nat.le_refl _)))
      (fail)
    · rename_i hHeld
      clear hHeld
      obtain ⟨v3, hv3⟩ : ∃ v3, ((u2.alloc (.cells #[.slice A n ca, .slice B m cb, .slice C q cc] 26)).alloc (.cells #[.slice A n ca, .slice B m cb, .slice C q cc] 26)).drew = v3 := ⟨_, rfl⟩
      have KA : Blk v3 u2.heap.size 26 #[.slice A n ca, .slice B m cb, .slice C q cc] := by rw [← hv3]; exact ((Blk.new _ _ _ rfl).alloc _).drew
      have KB : Blk v3 (u2.heap.size + 1) 26 #[.slice A n ca, .slice B m cb, .slice C q cc] := by rw [← hv3]; exact (Blk.new _ _ _ (by simp)).drew
      have B3 : Below u2.heap.size u2 v3 := by rw [← hv3]; exact (bl_alloc (bl_alloc (Below.refl _ _) _ (Nat.le_refl _)) _ (Nat.le_refl _)).drew
      rw [hv3]
      clear hv3
      obtain ⟨g10, hg10⟩ : ∃ g, g = u2.heap.size + 1 := ⟨_, rfl⟩
      rw [← hg10] at KB ⊢
      obtain ⟨g9, hg9⟩ : ∃ g, g = u2.heap.size := ⟨_, rfl⟩
      rw [← hg9] at KA ⊢
      have hga : u2.heap.size ≤ g9 := by omega
      have hgb : u2.heap.size ≤ g10 := by omega
      have hgn : g9 ≠ g10 := by omega
      clear hg9 hg10
      have K9 := KA
      have K10 := KB
      clear KA KB
      obtain ⟨v3', hv3'⟩ : ∃ v, v3.setCell ⟨g9, 2, none⟩ (.slice none 0 0) = v := ⟨_, rfl⟩
      have L9 : Blk v3' g9 26 #[.slice A n ca, .slice B m cb, .slice none 0 0] := by rw [← hv3']; exact K9.set_ 2 _
      have L10 : Blk v3' g10 26 #[.slice A n ca, .slice B m cb, .slice C q cc] := by rw [← hv3']; exact K10.far (by first | omega | (dsimp only; omega)) _
      have B3' : Below u2.heap.size u2 v3' := by rw [← hv3']; exact bl_set B3 (by first | omega | (dsimp only; omega)) _
      obtain ⟨v4, hv4⟩ : ∃ v, v3'.setCell ⟨g10, 2, none⟩ (.slice none 0 0) = v := ⟨_, rfl⟩
      have G9 : Blk v4 g9 26 #[.slice A n ca, .slice B m cb, .slice none 0 0] := by rw [← hv4]; exact L9.far (by first | omega | (dsimp only; omega)) _
      have G10 : Blk v4 g10 26 #[.slice A n ca, .slice B m cb, .slice none 0 0] := by rw [← hv4]; exact L10.set_ 2 _
      have B4 : Below u2.heap.size u2 v4 := by rw [← hv4]; exact bl_set B3' (by first | omega | (dsimp only; omega)) _
      have f9 := K9.frozen 2
      have l9 := K9.lt
      have m9 : v3.cell? ⟨g9, 2, none⟩ = some (.slice C q cc) := K9.cell 2
      have f10 := L10.frozen 2
      have l10 := L10.lt
      have m10 : v3'.cell? ⟨g10, 2, none⟩ = some (.slice C q cc) := L10.cell 2
      obtain ⟨base, hbs⟩ : ∃ base, base = v4.heap.size := ⟨_, rfl⟩
      have hbase : base ≤ v4.heap.size := by omega
      have hg9b : g9 < base := by rw [hbs]; exact G9.lt
      have hg10b : g10 < base := by rw [hbs]; exact G10.lt
      have hu2b : u2.heap.size ≤ base := by rw [hbs]; exact B4.size
      have hW0u : W0.heap.size ≤ u2.heap.size := b2.size
      have Hbs := Lib.hid hbs
      clear hbs L9 L10 B3' K9 K10 B3 r0 r1 kk
      go_wp2
      clear hv3' hv4 f9 l9 m9 f10 l10 m10
      go_loopw [11, 12] (fun mv i wr => ∃ (k k1 c1 k2 c2 : Nat) (A1 A2 : Option Addr) (l1 l2 : List Meas), k ≤ q ∧ i = .int .i64 k ∧ mv = .int .i64 (manyK x k : Nat) ∧ k1 ≤ k ∧ k2 ≤ k ∧ Hid (l1.length = k1) ∧ Hid (l2.length = k2) ∧ OwnL MeasR 2 (fun _ => False) wr base 62 (.slice A1 k1 c1) l1 ∧ OwnL MeasR 2 (fun _ => False) wr base 62 (.slice A2 k2 c2) l2 ∧ Hid (∀ j, (Value.slice A1 k1 c1).ownBlock = some j → (Value.slice A2 k2 c2).ownBlock ≠ some j) ∧ Blk wr g9 26 #[.slice A n ca, .slice B m cb, .slice A1 k1 c1] ∧ Blk wr g10 26 #[.slice A n ca, .slice B m cb, .slice A2 k2 c2] ∧ Below u2.heap.size u2 wr ∧ base ≤ wr.heap.size ∧ Hid (l1 = pickM c (fun i => !decide ((i : Int) ∈ l)) k) ∧ Hid (l2 = pickM c (fun i => !bitB x i) k)) (fun _ i _ => q - (intOf i).toNat)
      case atStart => exact ⟨0, 0, 0, 0, 0, none, none, [], [], Nat.zero_le _, rfl, rfl, Nat.le_refl _, Nat.le_refl _, rfl, rfl, OwnL.nil _ _ _ _ _ _, OwnL.nil _ _ _ _ _ _, (fun j hj => by simp [Value.ownBlock] at hj), G9, G10, B4, hbase, rfl, rfl⟩
      case round =>
        obtain ⟨k, k1, c1', k2, c2, Af, A2, l1, l2, hk, rfl, rfl, hk1, hk2, Hl1, Hl2, hO1, hO2, HDJ2, hG9, hG10, hB, hszq, Hf1, Hf2⟩ := hrel
        have HO1 := Lib.hid hO1
        have HO2 := Lib.hid hO2
        have HG9 := Lib.hid hG9
        have HG10 := Lib.hid hG10
        have HBq := Lib.hid hB
        obtain ⟨mk, hmk⟩ : ∃ mk, manyK x k = mk := ⟨_, rfl⟩
        have Hmk := Lib.hid hmk
        have hmkb : mk ≤ k := by rw [← hmk]; exact manyK_le x k
        rw [hmk]
        clear hmk hO1 hO2 hG9 hG10 hB
        have r2q := getc HBq.out r2
        by_cases hlt : k < q
        · have hki : (k : Int) < q := by omega
          have hk0 : (0 : Int) ≤ k := by omega
          have hcr := hbn.keep (Keeps.below b2)
          obtain ⟨bm, om, fe, sh, rfl, hbm0, hcm0, hcm1, Hx⟩ := hcr.ms.get hlt
          have hcq0 := getc HBq.out hcm0
          have hcq1 := getc HBq.out hcm1
          have hbm : bm < W0.heap.size := by
            obtain ⟨b', off', vs, hA', hS', _⟩ := hcr.ms.2.2 k _ Hx.out
            injection hA' with hA'; injection hA' with e1 _; rw [e1]; exact hS'.2
          obtain ⟨yb, rb, hy, hy0, hy1, hr1, hr2, hr01⟩ := bits_two x k hx0
          have Hy := Lib.hid hy
          have Hr := Lib.hid hr1
          have hIr := hI1.keep IntR.good (Keeps.below HBq.out)
          obtain ⟨wq, rfl⟩ : ∃ wq : World, wq = wr := ⟨_, rfl⟩
          cases hd : decide ((k : Int) ∈ l)
          · -- it is not named: the few get it
            have hs1 : Hid (l1 ++ [⟨fe, sh⟩] = pickM c (fun i => !decide ((i : Int) ∈ l)) (k + 1)) := by rw [Hid, pickM_succ Hx.out, ← Hf1.out, hd]; rfl
            have t2 : wq.cell? ⟨g9, 2, none⟩ = some (.slice Af k1 c1') := HG9.out.cell 2
            go_wp2_with fail
            refine (has_any (c := c1) (k : Int) wq hIr).mono ?_
            rintro e w' ⟨rfl, rfl⟩
            rw [hd]
            clear hd
            go_wp2
            have hneb : some bm ≠ (Value.slice Af k1 c1').ownBlock := HO1.out.ne (.inl (by omega))
            have hnew : some w.heap.size ≠ (Value.slice Af k1 c1').ownBlock := HO1.out.ne (.inl (by omega))
            have hng9 : some g9 ≠ (Value.slice Af k1 c1').ownBlock := HO1.out.ne (.inl (by omega))
            have hng10 : some g10 ≠ (Value.slice Af k1 c1').ownBlock := HO1.out.ne (.inl (by omega))
            have HOB1 := Lib.hid (OwnL.block HO1.out)
            have hA1 : Around MeasR 2 (fun _ => False) base 62 (.slice Af k1 c1') l1 wq false wq.drew := ⟨Kept.drew _ _, fun _ => HO1.out.keep MeasR.good (Keeps.drew _)⟩
            have kk11 : Hid (∀ bb W, Around MeasR 2 (fun _ => False) base 62 (.slice Af k1 c1') l1 wq bb W → W.cell? ⟨g9, 2, none⟩ = some (.slice Af k1 c1') ∧ W.cell? ⟨w.heap.size, 2, none⟩ = some (.slice (some ⟨bm, om, none⟩) q cc) ∧ W.cell? ⟨bm, om + k * 2, none⟩ = some (.int .i64 fe) ∧ W.cell? ⟨bm, om + k * 2 + 1, none⟩ = some (.int .i64 sh)) := fun bb W h =>
              ⟨h.1.cell t2 (fun e => hng9 e.symm), h.1.cell r2q (fun e => hnew e.symm), h.1.cell hcq0 (fun e => hneb e.symm), h.1.cell hcq1 (fun e => hneb e.symm)⟩
            clear t2 r2q
            refine wp_region_two 8 (fun bb W => Around MeasR 2 (fun _ => False) base 62 (.slice Af k1 c1') l1 wq bb W) (fun bb w w' => Kept (fun j => bb = false ∧ (Value.slice Af k1 c1').ownBlock = some j) w w')
              [isV (.pointer (some ⟨g9, 2, none⟩)), isV (.slice Af k1 c1'), isV (.pointer (some ⟨w.heap.size, 2, none⟩)), isV (.slice (some ⟨bm, om, none⟩) q cc), isV (.int .i64 k), isV (.pointer (some ⟨bm, om + k * 2, none⟩)), isV (.agg #[.int .i64 fe, .int .i64 sh]), NewEl (Value.slice Af k1 c1').ownBlock 62 (#[.int .i64 fe, .int .i64 sh]), GrownW MeasR 2 (fun _ => False) base 62 (k1 + 1) (l1 ++ [⟨fe, sh⟩]) (Value.slice Af k1 c1').ownBlock wq.heap.size, isV (.pointer (some ⟨g9, 2, none⟩))]
              (by kernel_rfl) (by kernel_rfl) (by kernel_rfl) (by simp) (by simp) (by simp) hA1 ?stab11 ?step11 ?fin11
            case step11 =>
              refine StepsL2.cons ?_ (StepsL2.cons ?_ (StepsL2.cons ?_ (StepsL2.cons ?_ (StepsL2.cons ?_ (StepsL2.cons ?_ (StepsL2.cons ?_ (StepsL2.cons ?_ (StepsL2.cons ?_ (StepsL2.cons ?_ StepsL2.nil)))))))))
              · -- 0 fa
                intro bb vs a W K ha hb hC hD hU hK
                have r9 : a.tmps[9]? = some (.pointer (some ⟨g9, 0, none⟩)) := by rw [ha]; kernel_rfl
                clear ha hU hD
                refine ⟨by rfl, ?_⟩
                go_simp
                exact hK _ _ hC (Kept.refl _ _) rfl
              · -- 1 load
                intro bb vs a W K ha hb hC hD hU hK
                have r54 : a.tmps[54]? = some (vs 0) := by rw [ha]; kernel_rfl
                have q0 : vs 0 = .pointer (some ⟨g9, 2, none⟩) := hD 0 (by simp [waits, Region.binds])
                rw [q0] at r54
                clear ha hU hD
                refine ⟨by rfl, ?_⟩
                obtain ⟨k0, k1, k2, k3⟩ := kk11.out bb W hC
                go_simp
                exact hK _ _ hC (Kept.refl _ _) rfl
              · -- 2 fa
                intro bb vs a W K ha hb hC hD hU hK
                have r3 : a.tmps[3]? = some (.pointer (some ⟨w.heap.size, 0, none⟩)) := by rw [ha]; kernel_rfl
                clear ha hU hD
                refine ⟨by rfl, ?_⟩
                go_simp
                exact hK _ _ hC (Kept.refl _ _) rfl
              · -- 3 load
                intro bb vs a W K ha hb hC hD hU hK
                have r56 : a.tmps[56]? = some (vs 2) := by rw [ha]; kernel_rfl
                have q2 : vs 2 = .pointer (some ⟨w.heap.size, 2, none⟩) := hD 2 (by simp [waits, Region.binds])
                rw [q2] at r56
                clear ha hU hD
                refine ⟨by rfl, ?_⟩
                obtain ⟨k0, k1, k2, k3⟩ := kk11.out bb W hC
                go_simp
                exact hK _ _ hC (Kept.refl _ _) rfl
              · -- 4 move
                intro bb vs a W K ha hb hC hD hU hK
                have r12 : a.tmps[12]? = some (.int .i64 k) := by rw [ha]; kernel_rfl
                clear ha hU hD
                refine ⟨by rfl, ?_⟩
                go_simp
                exact hK _ _ hC (Kept.refl _ _) rfl
              · -- 5 idx
                intro bb vs a W K ha hb hC hD hU hK
                have r57 : a.tmps[57]? = some (vs 3) := by rw [ha]; kernel_rfl
                have q3 : vs 3 = .slice (some ⟨bm, om, none⟩) q cc := hD 3 (by simp [waits, Region.binds])
                rw [q3] at r57
                have r58 : a.tmps[58]? = some (vs 4) := by rw [ha]; kernel_rfl
                have q4 : vs 4 = .int .i64 k := hD 4 (by simp [waits, Region.binds])
                rw [q4] at r58
                clear ha hU hD
                refine ⟨by rfl, ?_⟩
                go_simp
                exact hK _ _ hC (Kept.refl _ _) rfl
              · -- 6 load
                intro bb vs a W K ha hb hC hD hU hK
                have r59 : a.tmps[59]? = some (vs 5) := by rw [ha]; kernel_rfl
                have q5 : vs 5 = .pointer (some ⟨bm, om + k * 2, none⟩) := hD 5 (by simp [waits, Region.binds])
                rw [q5] at r59
                clear ha hU hD
                refine ⟨by rfl, ?_⟩
                obtain ⟨k0, k1, k2, k3⟩ := kk11.out bb W hC
                go_simp
                exact hK _ _ hC (Kept.refl _ _) rfl
              · -- 7 buildSlice
                intro bb vs a W K ha hb hC hD hU hK
                have r60 : a.tmps[60]? = some (vs 6) := by rw [ha]; kernel_rfl
                have q6 : vs 6 = .agg #[.int .i64 fe, .int .i64 sh] := hD 6 (by simp [waits, Region.binds])
                rw [q6] at r60
                clear ha hU hD
                refine ⟨by rfl, ?_⟩
                go_simp
                exact hK _ _ (hC.quiet MeasR.good (bl_alloc (Below.refl _ _) _ (Nat.le_refl _))) (Kept.alloc _ _ _) ⟨_, rfl, Blk.new _ _ _ rfl, fun e => by have := (HOB1.out _ e).2; have := hC.1.size; omega⟩
              · -- 8 append
                intro bb vs a W K ha hb hC hD hU hK
                have r55 : a.tmps[55]? = some (vs 1) := by rw [ha]; kernel_rfl
                have q1 : vs 1 = .slice Af k1 c1' := hD 1 (by simp [waits, Region.binds])
                rw [q1] at r55
                have r61 : a.tmps[61]? = some (vs 7) := by rw [ha]; kernel_rfl
                have q7 : (NewEl (Value.slice Af k1 c1').ownBlock 62 (#[.int .i64 fe, .int .i64 sh])) (vs 7) W := hD 7 (by simp [waits, Region.binds])
                obtain ⟨g7, q7, hg7, _⟩ := q7
                rw [q7] at r61
                clear ha hU hD
                refine ⟨by rfl, ?_⟩
                obtain rfl : bb = false := hb rfl
                have hsW : wq.heap.size ≤ W.heap.size := hC.1.size
                refine wp_append_elW W rfl _ _ _ rfl MeasR.good base 62 i0 _ 16 Tryd.underlying24 hi0 hz0 hz1 hz2 rfl (by omega) (.slice Af k1 c1') l1 ⟨fe, sh⟩ k1 Hl1.out (by simp [Act.eval, r55]) (hC.2 rfl) g7 1 [.int .i64 fe, .int .i64 sh] (by simp [Act.eval, r61]) rfl hg7 (by simp only [maxLen]; omega) (by omega) (by omega) (fun h => h) ?_
                intro A2 cap2 w2 hO2 hg2 hat2
                exact hK _ _ ⟨hC.1.trans (Kept.grown hg2 (fun _ h => h)), fun h => by cases h⟩ (Kept.grown hg2 (fun _ h => ⟨rfl, h⟩)) ⟨A2, cap2, rfl, hO2, by rcases hat2 with h | h; exact .inl h; exact .inr (by omega)⟩
              · -- 9 fa
                intro bb vs a W K ha hb hC hD hU hK
                have r9 : a.tmps[9]? = some (.pointer (some ⟨g9, 0, none⟩)) := by rw [ha]; kernel_rfl
                clear ha hU hD
                refine ⟨by rfl, ?_⟩
                go_simp
                exact hK _ _ hC (Kept.refl _ _) rfl
            case stab11 =>
              intro bb i p v w1 w2 hp hi hC hX h
              rcases i with _ | _ | _ | _ | _ | _ | _ | _ | _ | _ | i
              all_goals simp at hp
              all_goals subst hp
              · exact h
              · exact h
              · exact h
              · exact h
              · exact h
              · exact h
              · exact h
              · exact NewEl.keep h hX
              · exact GrownW.keep MeasR.good h (hi rfl) hX
              · exact h
            case fin11 =>
              intro vs W hC hE hU
              have e8 := hE 8 (by simp)
              have e9 := hE 9 (by simp)
              simp only [envOf, List.getD_cons_succ, List.getD_cons_zero, isV] at e8 e9
              have H8 := Lib.hid e8
              clear e8 hE hU
              simp only [fillA, Act.put, List.setIfInBounds_toArray, List.set_cons_zero, List.set_cons_succ, Nat.zero_add, Nat.reduceAdd, e9]
              simp [Region.wanted, yielded]
              obtain ⟨Aq, capq, e8, hOq, hat⟩ := H8.out
              rw [e8] at hOq ⊢
              clear e8 e9 H8
              have hKW := hC.1
              have J9 : Blk W g9 26 #[.slice A n ca, .slice B m cb, .slice Af k1 c1'] := (hKW.block _ HG9.out.lt (fun e => hng9 e.symm)).trans HG9.out
              have J10 : Blk W g10 26 #[.slice A n ca, .slice B m cb, .slice A2 k2 c2] := (hKW.block _ HG10.out.lt (fun e => hng10 e.symm)).trans HG10.out
              have hBW : Below u2.heap.size u2 W := HBq.out.trans (hKW.below HBq.out.size (fun j hj => by have := (HOB1.out j hj).1; omega))
              have hsW : base ≤ W.heap.size := Nat.le_trans hszq hKW.size
              have Q2 : OwnL MeasR 2 (fun _ => False) W base 62 (.slice A2 k2 c2) l2 := HO2.out.keep MeasR.good (hKW.keeps (fun j hj e => by
                rcases hj with h | h
                · exact h
                · exact HDJ2.out j e h))
              have DJ : Hid (∀ j, (Value.slice (some ⟨Aq, 0, none⟩) (k1 + 1) capq).ownBlock = some j → (Value.slice A2 k2 c2).ownBlock ≠ some j) := fun j hj e => by
                have he : Aq = j := by simpa [Value.ownBlock] using hj
                subst he
                rcases hat with h | h
                · exact HDJ2.out _ h e
                · have := (OwnL.block HO2.out _ e).2; omega
              have y0 : W.cell? ⟨g9, 2, none⟩ = some (.slice Af k1 c1') := J9.cell 2
              have y1 := J9.frozen 2
              have y2 := J9.lt
              obtain ⟨w5, hw5⟩ : ∃ w5, W.setCell ⟨g9, 2, none⟩ (.slice (some ⟨Aq, 0, none⟩) (k1 + 1) capq) = w5 := ⟨_, rfl⟩
              have HG9' : Hid (Blk w5 g9 26 #[.slice A n ca, .slice B m cb, .slice (some ⟨Aq, 0, none⟩) (k1 + 1) capq]) := by rw [← hw5]; exact J9.set_ 2 _
              have HG10' : Hid (Blk w5 g10 26 #[.slice A n ca, .slice B m cb, .slice A2 k2 c2]) := by rw [← hw5]; exact J10.far (by first | omega | (dsimp only; omega)) _
              have HBq' : Hid (Below u2.heap.size u2 w5) := by rw [← hw5]; exact bl_set hBW (by first | omega | (dsimp only; omega)) _
              have HO1' : Hid (OwnL MeasR 2 (fun _ => False) w5 base 62 (.slice (some ⟨Aq, 0, none⟩) (k1 + 1) capq) (l1 ++ [⟨fe, sh⟩])) := by rw [← hw5]; exact own_far MeasR.good hOq (fun h => h) (by omega) _ _
              have HO2' : Hid (OwnL MeasR 2 (fun _ => False) w5 base 62 (.slice A2 k2 c2) l2) := by rw [← hw5]; exact own_far MeasR.good Q2 (fun h => h) (by omega) _ _
              have hszq' : base ≤ w5.heap.size := by rw [← hw5]; simpa using hsW
              have hcq0' := getc HBq'.out hcm0
              have hcq1' := getc HBq'.out hcm1
              clear HG9 HG10 HBq HO1 HO2 hszq hcq0 hcq1 J9 J10 hBW hsW Q2 hC hKW kk11 hOq hat HDJ2 hcr hIr
              have HG9 := HG9'
              have HG10 := HG10'
              have HBq := HBq'
              have HO1 := HO1'
              have HO2 := HO2'
              have hszq := hszq'
              have hcq0 := hcq0'
              have hcq1 := hcq1'
              have HDJ2 := DJ
              have Hlx : Hid ((l1 ++ [(⟨fe, sh⟩ : Meas)]).length = k1 + 1) := by rw [Hid, List.length_append, Hl1.out]; rfl
              have Hfx := hs1
              clear HG9' HG10' HBq' HO1' HO2' hszq' hcq0' hcq1' DJ
              obtain ⟨wq, rfl⟩ : ∃ wq : World, wq = w5 := ⟨_, rfl⟩
              rcases hr01 with rfl | rfl
              · -- the bit is not set: the rest gets it
                have hbk : bitB x k = false := decide_eq_false (by rw [Hy.out, Hr.out]; decide)
                have Hmk2 : Hid (manyK x (k + 1) = mk) := by rw [Hid, manyK_succ, hbk, Hmk.out]; simp
                have c0 := hcq0
                have c1 := hcq1
                have t2 : wq.cell? ⟨g10, 2, none⟩ = some (.slice A2 k2 c2) := HG10.out.cell 2
                have t3 : wq.cell? ⟨w.heap.size, 2, none⟩ = some (.slice (some ⟨bm, om, none⟩) q cc) := getc HBq.out r2
                go_simp
                go_wp2
                have hneb2 : some bm ≠ (Value.slice A2 k2 c2).ownBlock := HO2.out.ne (.inl (by omega))
                have hnew2 : some w.heap.size ≠ (Value.slice A2 k2 c2).ownBlock := HO2.out.ne (.inl (by omega))
                have hneg9 : some g9 ≠ (Value.slice A2 k2 c2).ownBlock := HO2.out.ne (.inl (by omega))
                have hneg10 : some g10 ≠ (Value.slice A2 k2 c2).ownBlock := HO2.out.ne (.inl (by omega))
                have HOB2 := Lib.hid (OwnL.block HO2.out)
                have hA2 : Around MeasR 2 (fun _ => False) base 62 (.slice A2 k2 c2) l2 wq false wq.drew := ⟨Kept.drew _ _, fun _ => HO2.out.keep MeasR.good (Keeps.drew _)⟩
                have kk14 : Hid (∀ bb W, Around MeasR 2 (fun _ => False) base 62 (.slice A2 k2 c2) l2 wq bb W → W.cell? ⟨g10, 2, none⟩ = some (.slice A2 k2 c2) ∧ W.cell? ⟨w.heap.size, 2, none⟩ = some (.slice (some ⟨bm, om, none⟩) q cc) ∧ W.cell? ⟨bm, om + k * 2, none⟩ = some (.int .i64 fe) ∧ W.cell? ⟨bm, om + k * 2 + 1, none⟩ = some (.int .i64 sh)) := fun bb W h =>
                  ⟨h.1.cell t2 (fun e => hneg10 e.symm), h.1.cell t3 (fun e => hnew2 e.symm), h.1.cell c0 (fun e => hneb2 e.symm), h.1.cell c1 (fun e => hneb2 e.symm)⟩
                clear c0 c1 t2 t3
                refine wp_region_two 8 (fun bb W => Around MeasR 2 (fun _ => False) base 62 (.slice A2 k2 c2) l2 wq bb W) (fun bb w w' => Kept (fun j => bb = false ∧ (Value.slice A2 k2 c2).ownBlock = some j) w w')
                  [isV (.pointer (some ⟨g10, 2, none⟩)), isV (.slice A2 k2 c2), isV (.pointer (some ⟨w.heap.size, 2, none⟩)), isV (.slice (some ⟨bm, om, none⟩) q cc), isV (.int .i64 k), isV (.pointer (some ⟨bm, om + k * 2, none⟩)), isV (.agg #[.int .i64 fe, .int .i64 sh]), NewEl (Value.slice A2 k2 c2).ownBlock 62 (#[.int .i64 fe, .int .i64 sh]), GrownW MeasR 2 (fun _ => False) base 62 (k2 + 1) (l2 ++ [⟨fe, sh⟩]) (Value.slice A2 k2 c2).ownBlock wq.heap.size, isV (.pointer (some ⟨g10, 2, none⟩))]
                  (by kernel_rfl) (by kernel_rfl) (by kernel_rfl) (by simp) (by simp) (by simp) hA2 ?stab14a ?step14a ?fin14a
                case step14a =>
                  refine StepsL2.cons ?_ (StepsL2.cons ?_ (StepsL2.cons ?_ (StepsL2.cons ?_ (StepsL2.cons ?_ (StepsL2.cons ?_ (StepsL2.cons ?_ (StepsL2.cons ?_ (StepsL2.cons ?_ (StepsL2.cons ?_ StepsL2.nil)))))))))
                  · -- 0 fa
                    intro bb vs a W K ha hb hC hD hU hK
                    have r10 : a.tmps[10]? = some (.pointer (some ⟨g10, 0, none⟩)) := by rw [ha]; kernel_rfl
                    clear ha hU hD
                    refine ⟨by rfl, ?_⟩
                    go_simp
                    exact hK _ _ hC (Kept.refl _ _) rfl
                  · -- 1 load
                    intro bb vs a W K ha hb hC hD hU hK
                    have r71 : a.tmps[71]? = some (vs 0) := by rw [ha]; kernel_rfl
                    have q0 : vs 0 = .pointer (some ⟨g10, 2, none⟩) := hD 0 (by simp [waits, Region.binds])
                    rw [q0] at r71
                    clear ha hU hD
                    refine ⟨by rfl, ?_⟩
                    obtain ⟨k0, k1, k2, k3⟩ := kk14.out bb W hC
                    go_simp
                    exact hK _ _ hC (Kept.refl _ _) rfl
                  · -- 2 fa
                    intro bb vs a W K ha hb hC hD hU hK
                    have r3 : a.tmps[3]? = some (.pointer (some ⟨w.heap.size, 0, none⟩)) := by rw [ha]; kernel_rfl
                    clear ha hU hD
                    refine ⟨by rfl, ?_⟩
                    go_simp
                    exact hK _ _ hC (Kept.refl _ _) rfl
                  · -- 3 load
                    intro bb vs a W K ha hb hC hD hU hK
                    have r73 : a.tmps[73]? = some (vs 2) := by rw [ha]; kernel_rfl
                    have q2 : vs 2 = .pointer (some ⟨w.heap.size, 2, none⟩) := hD 2 (by simp [waits, Region.binds])
                    rw [q2] at r73
                    clear ha hU hD
                    refine ⟨by rfl, ?_⟩
                    obtain ⟨k0, k1, k2, k3⟩ := kk14.out bb W hC
                    go_simp
                    exact hK _ _ hC (Kept.refl _ _) rfl
                  · -- 4 move
                    intro bb vs a W K ha hb hC hD hU hK
                    have r12 : a.tmps[12]? = some (.int .i64 k) := by rw [ha]; kernel_rfl
                    clear ha hU hD
                    refine ⟨by rfl, ?_⟩
                    go_simp
                    exact hK _ _ hC (Kept.refl _ _) rfl
                  · -- 5 idx
                    intro bb vs a W K ha hb hC hD hU hK
                    have r74 : a.tmps[74]? = some (vs 3) := by rw [ha]; kernel_rfl
                    have q3 : vs 3 = .slice (some ⟨bm, om, none⟩) q cc := hD 3 (by simp [waits, Region.binds])
                    rw [q3] at r74
                    have r75 : a.tmps[75]? = some (vs 4) := by rw [ha]; kernel_rfl
                    have q4 : vs 4 = .int .i64 k := hD 4 (by simp [waits, Region.binds])
                    rw [q4] at r75
                    clear ha hU hD
                    refine ⟨by rfl, ?_⟩
                    go_simp
                    exact hK _ _ hC (Kept.refl _ _) rfl
                  · -- 6 load
                    intro bb vs a W K ha hb hC hD hU hK
                    have r76 : a.tmps[76]? = some (vs 5) := by rw [ha]; kernel_rfl
                    have q5 : vs 5 = .pointer (some ⟨bm, om + k * 2, none⟩) := hD 5 (by simp [waits, Region.binds])
                    rw [q5] at r76
                    clear ha hU hD
                    refine ⟨by rfl, ?_⟩
                    obtain ⟨k0, k1, k2, k3⟩ := kk14.out bb W hC
                    go_simp
                    exact hK _ _ hC (Kept.refl _ _) rfl
                  · -- 7 buildSlice
                    intro bb vs a W K ha hb hC hD hU hK
                    have r77 : a.tmps[77]? = some (vs 6) := by rw [ha]; kernel_rfl
                    have q6 : vs 6 = .agg #[.int .i64 fe, .int .i64 sh] := hD 6 (by simp [waits, Region.binds])
                    rw [q6] at r77
                    clear ha hU hD
                    refine ⟨by rfl, ?_⟩
                    go_simp
                    exact hK _ _ (hC.quiet MeasR.good (bl_alloc (Below.refl _ _) _ (Nat.le_refl _))) (Kept.alloc _ _ _) ⟨_, rfl, Blk.new _ _ _ rfl, fun e => by have := (HOB2.out _ e).2; have := hC.1.size; omega⟩
                  · -- 8 append
                    intro bb vs a W K ha hb hC hD hU hK
                    have r72 : a.tmps[72]? = some (vs 1) := by rw [ha]; kernel_rfl
                    have q1 : vs 1 = .slice A2 k2 c2 := hD 1 (by simp [waits, Region.binds])
                    rw [q1] at r72
                    have r78 : a.tmps[78]? = some (vs 7) := by rw [ha]; kernel_rfl
                    have q7 : (NewEl (Value.slice A2 k2 c2).ownBlock 62 (#[.int .i64 fe, .int .i64 sh])) (vs 7) W := hD 7 (by simp [waits, Region.binds])
                    obtain ⟨g7, q7, hg7, _⟩ := q7
                    rw [q7] at r78
                    clear ha hU hD
                    refine ⟨by rfl, ?_⟩
                    obtain rfl : bb = false := hb rfl
                    have hsW : wq.heap.size ≤ W.heap.size := hC.1.size
                    refine wp_append_elW W rfl _ _ _ rfl MeasR.good base 62 i0 _ 16 Tryd.underlying24 hi0 hz0 hz1 hz2 rfl (by omega) (.slice A2 k2 c2) l2 ⟨fe, sh⟩ k2 Hl2.out (by simp [Act.eval, r72]) (hC.2 rfl) g7 1 [.int .i64 fe, .int .i64 sh] (by simp [Act.eval, r78]) rfl hg7 (by simp only [maxLen]; omega) (by omega) (by omega) (fun h => h) ?_
                    intro A2 cap2 w2 hO2 hg2 hat2
                    exact hK _ _ ⟨hC.1.trans (Kept.grown hg2 (fun _ h => h)), fun h => by cases h⟩ (Kept.grown hg2 (fun _ h => ⟨rfl, h⟩)) ⟨A2, cap2, rfl, hO2, by rcases hat2 with h | h; exact .inl h; exact .inr (by omega)⟩
                  · -- 9 fa
                    intro bb vs a W K ha hb hC hD hU hK
                    have r10 : a.tmps[10]? = some (.pointer (some ⟨g10, 0, none⟩)) := by rw [ha]; kernel_rfl
                    clear ha hU hD
                    refine ⟨by rfl, ?_⟩
                    go_simp
                    exact hK _ _ hC (Kept.refl _ _) rfl
                case stab14a =>
                  intro bb i p v w1 w2 hp hi hC hX h
                  rcases i with _ | _ | _ | _ | _ | _ | _ | _ | _ | _ | i
                  all_goals simp at hp
                  all_goals subst hp
                  · exact h
                  · exact h
                  · exact h
                  · exact h
                  · exact h
                  · exact h
                  · exact h
                  · exact NewEl.keep h hX
                  · exact GrownW.keep MeasR.good h (hi rfl) hX
                  · exact h
                case fin14a =>
                  intro vs W hC hE hU
                  have e8 := hE 8 (by simp)
                  have e9 := hE 9 (by simp)
                  simp only [envOf, List.getD_cons_succ, List.getD_cons_zero, isV] at e8 e9
                  have H8 := Lib.hid e8
                  clear e8 hE hU
                  simp only [fillA, Act.put, List.setIfInBounds_toArray, List.set_cons_zero, List.set_cons_succ, Nat.zero_add, Nat.reduceAdd, e9]
                  simp [Region.wanted, yielded]
                  obtain ⟨Ar, capr, e8, hOq, hat⟩ := H8.out
                  rw [e8] at hOq ⊢
                  clear e8 e9 H8
                  have hKW := hC.1
                  have J9 : Blk W g9 26 #[.slice A n ca, .slice B m cb, .slice (some ⟨Aq, 0, none⟩) (k1 + 1) capq] := (hKW.block _ HG9.out.lt (fun e => hneg9 e.symm)).trans HG9.out
                  have J10 : Blk W g10 26 #[.slice A n ca, .slice B m cb, .slice A2 k2 c2] := (hKW.block _ HG10.out.lt (fun e => hneg10 e.symm)).trans HG10.out
                  have hBW : Below u2.heap.size u2 W := HBq.out.trans (hKW.below HBq.out.size (fun j hj => by have := (HOB2.out j hj).1; omega))
                  have hsW : base ≤ W.heap.size := Nat.le_trans hszq hKW.size
                  have P1 : OwnL MeasR 2 (fun _ => False) W base 62 (.slice (some ⟨Aq, 0, none⟩) (k1 + 1) capq) (l1 ++ [⟨fe, sh⟩]) := HO1.out.keep MeasR.good (hKW.keeps (fun j hj e => by
                    rcases hj with h | h
                    · exact h
                    · exact HDJ2.out j h e))
                  have DJ : Hid (∀ j, (Value.slice (some ⟨Aq, 0, none⟩) (k1 + 1) capq).ownBlock = some j → (Value.slice (some ⟨Ar, 0, none⟩) (k2 + 1) capr).ownBlock ≠ some j) := fun j hj e => by
                    have he : Ar = j := by simpa [Value.ownBlock] using e
                    subst he
                    rcases hat with h | h
                    · exact HDJ2.out _ hj h
                    · have := (OwnL.block HO1.out _ hj).2; omega
                  have HJ9 := Lib.hid J9
                  have HJ10 := Lib.hid J10
                  have HBW := Lib.hid hBW
                  have HP1 := Lib.hid P1
                  have HOq := Lib.hid hOq
                  have y0 : W.cell? ⟨g10, 2, none⟩ = some (.slice A2 k2 c2) := J10.cell 2
                  have y1 := J10.frozen 2
                  have y2 := J10.lt
                  have Hs2 : Hid (l2 ++ [⟨fe, sh⟩] = pickM c (fun i => !bitB x i) (k + 1)) := by rw [Hid, pickM_succ Hx.out, ← Hf2.out, hbk]; rfl
                  clear J9 J10 hBW hOq hKW hC kk14 P1 hat
                  go_simp
                  go_wp2
                  go_roundw
                  case rel => exact ⟨k + 1, (k1 + 1), capq, k2 + 1, capr, (some ⟨Aq, 0, none⟩), _, (l1 ++ [⟨fe, sh⟩]), _, by omega, by go_num, by rw [Hmk2.out], by omega, by omega, Hlx, by rw [Hid, List.length_append, Hl2.out]; rfl, own_far MeasR.good HP1.out (fun h => h) (by omega) _ _, own_far MeasR.good HOq.out (fun h => h) (by omega) _ _, DJ, HJ9.out.far (by first | omega | (dsimp only; omega)) _, HJ10.out.set_ 2 _, bl_set HBW.out (by first | omega | (dsimp only; omega)) _, by simpa using hsW, Hfx, Hs2⟩
                  case measure => simp [intOf]; omega
              · -- the bit is set: one more
                have hbk : bitB x k = true := decide_eq_true (by rw [Hy.out, Hr.out])
                have Hmk2 : Hid (manyK x (k + 1) = mk + 1) := by rw [Hid, manyK_succ, hbk, Hmk.out]; simp
                have Hs2 : Hid (l2 = pickM c (fun i => !bitB x i) (k + 1)) := by rw [Hid, pickM_succ Hx.out, ← Hf2.out, hbk]; simp
                go_simp
                go_wp2
                go_roundw
                case rel => exact ⟨k + 1, (k1 + 1), capq, k2, c2, (some ⟨Aq, 0, none⟩), A2, (l1 ++ [⟨fe, sh⟩]), l2, by omega, by go_num, by rw [Hmk2.out]; simp, by omega, by omega, Hlx, Hl2, HO1.out, HO2.out, HDJ2, HG9.out, HG10.out, HBq.out, hszq, Hfx, Hs2⟩
                case measure => simp [intOf]; omega
          · -- it is named: left out
            have hs1 : Hid (l1 = pickM c (fun i => !decide ((i : Int) ∈ l)) (k + 1)) := by rw [Hid, pickM_succ Hx.out, ← Hf1.out, hd]; simp
            have hHas := has_any (c := c1) (k : Int) wq hIr
            have Hlx := Hl1
            have Hfx := hs1
            have q0' : wq.cell? ⟨w.heap.size, 2, none⟩ = some (.slice (some ⟨bm, om, none⟩) q cc) := r2q
            go_wp2_with fail
            refine hHas.mono ?_
            rintro e w' ⟨rfl, rfl⟩
            rw [hd]
            clear hd hHas
            rcases hr01 with rfl | rfl
            · -- the bit is not set: the rest gets it
              have hbk : bitB x k = false := decide_eq_false (by rw [Hy.out, Hr.out]; decide)
              have Hmk2 : Hid (manyK x (k + 1) = mk) := by rw [Hid, manyK_succ, hbk, Hmk.out]; simp
              have c0 := hcq0
              have c1 := hcq1
              have t2 : wq.cell? ⟨g10, 2, none⟩ = some (.slice A2 k2 c2) := HG10.out.cell 2
              have t3 : wq.cell? ⟨w.heap.size, 2, none⟩ = some (.slice (some ⟨bm, om, none⟩) q cc) := getc HBq.out r2
              go_wp2
              have hneb2 : some bm ≠ (Value.slice A2 k2 c2).ownBlock := HO2.out.ne (.inl (by omega))
              have hnew2 : some w.heap.size ≠ (Value.slice A2 k2 c2).ownBlock := HO2.out.ne (.inl (by omega))
              have hneg9 : some g9 ≠ (Value.slice A2 k2 c2).ownBlock := HO2.out.ne (.inl (by omega))
              have hneg10 : some g10 ≠ (Value.slice A2 k2 c2).ownBlock := HO2.out.ne (.inl (by omega))
              have HOB2 := Lib.hid (OwnL.block HO2.out)
              have hA2 : Around MeasR 2 (fun _ => False) base 62 (.slice A2 k2 c2) l2 wq false wq.drew := ⟨Kept.drew _ _, fun _ => HO2.out.keep MeasR.good (Keeps.drew _)⟩
              have kk14 : Hid (∀ bb W, Around MeasR 2 (fun _ => False) base 62 (.slice A2 k2 c2) l2 wq bb W → W.cell? ⟨g10, 2, none⟩ = some (.slice A2 k2 c2) ∧ W.cell? ⟨w.heap.size, 2, none⟩ = some (.slice (some ⟨bm, om, none⟩) q cc) ∧ W.cell? ⟨bm, om + k * 2, none⟩ = some (.int .i64 fe) ∧ W.cell? ⟨bm, om + k * 2 + 1, none⟩ = some (.int .i64 sh)) := fun bb W h =>
                ⟨h.1.cell t2 (fun e => hneg10 e.symm), h.1.cell t3 (fun e => hnew2 e.symm), h.1.cell c0 (fun e => hneb2 e.symm), h.1.cell c1 (fun e => hneb2 e.symm)⟩
              clear c0 c1 t2 t3
              refine wp_region_two 8 (fun bb W => Around MeasR 2 (fun _ => False) base 62 (.slice A2 k2 c2) l2 wq bb W) (fun bb w w' => Kept (fun j => bb = false ∧ (Value.slice A2 k2 c2).ownBlock = some j) w w')
                [isV (.pointer (some ⟨g10, 2, none⟩)), isV (.slice A2 k2 c2), isV (.pointer (some ⟨w.heap.size, 2, none⟩)), isV (.slice (some ⟨bm, om, none⟩) q cc), isV (.int .i64 k), isV (.pointer (some ⟨bm, om + k * 2, none⟩)), isV (.agg #[.int .i64 fe, .int .i64 sh]), NewEl (Value.slice A2 k2 c2).ownBlock 62 (#[.int .i64 fe, .int .i64 sh]), GrownW MeasR 2 (fun _ => False) base 62 (k2 + 1) (l2 ++ [⟨fe, sh⟩]) (Value.slice A2 k2 c2).ownBlock wq.heap.size, isV (.pointer (some ⟨g10, 2, none⟩))]
                (by kernel_rfl) (by kernel_rfl) (by kernel_rfl) (by simp) (by simp) (by simp) hA2 ?stab14b ?step14b ?fin14b
              case step14b =>
                refine StepsL2.cons ?_ (StepsL2.cons ?_ (StepsL2.cons ?_ (StepsL2.cons ?_ (StepsL2.cons ?_ (StepsL2.cons ?_ (StepsL2.cons ?_ (StepsL2.cons ?_ (StepsL2.cons ?_ (StepsL2.cons ?_ StepsL2.nil)))))))))
                · -- 0 fa
                  intro bb vs a W K ha hb hC hD hU hK
                  have r10 : a.tmps[10]? = some (.pointer (some ⟨g10, 0, none⟩)) := by rw [ha]; kernel_rfl
                  clear ha hU hD
                  refine ⟨by rfl, ?_⟩
                  go_simp
                  exact hK _ _ hC (Kept.refl _ _) rfl
                · -- 1 load
                  intro bb vs a W K ha hb hC hD hU hK
                  have r71 : a.tmps[71]? = some (vs 0) := by rw [ha]; kernel_rfl
                  have q0 : vs 0 = .pointer (some ⟨g10, 2, none⟩) := hD 0 (by simp [waits, Region.binds])
                  rw [q0] at r71
                  clear ha hU hD
                  refine ⟨by rfl, ?_⟩
                  obtain ⟨k0, k1, k2, k3⟩ := kk14.out bb W hC
                  go_simp
                  exact hK _ _ hC (Kept.refl _ _) rfl
                · -- 2 fa
                  intro bb vs a W K ha hb hC hD hU hK
                  have r3 : a.tmps[3]? = some (.pointer (some ⟨w.heap.size, 0, none⟩)) := by rw [ha]; kernel_rfl
                  clear ha hU hD
                  refine ⟨by rfl, ?_⟩
                  go_simp
                  exact hK _ _ hC (Kept.refl _ _) rfl
                · -- 3 load
                  intro bb vs a W K ha hb hC hD hU hK
                  have r73 : a.tmps[73]? = some (vs 2) := by rw [ha]; kernel_rfl
                  have q2 : vs 2 = .pointer (some ⟨w.heap.size, 2, none⟩) := hD 2 (by simp [waits, Region.binds])
                  rw [q2] at r73
                  clear ha hU hD
                  refine ⟨by rfl, ?_⟩
                  obtain ⟨k0, k1, k2, k3⟩ := kk14.out bb W hC
                  go_simp
                  exact hK _ _ hC (Kept.refl _ _) rfl
                · -- 4 move
                  intro bb vs a W K ha hb hC hD hU hK
                  have r12 : a.tmps[12]? = some (.int .i64 k) := by rw [ha]; kernel_rfl
                  clear ha hU hD
                  refine ⟨by rfl, ?_⟩
                  go_simp
                  exact hK _ _ hC (Kept.refl _ _) rfl
                · -- 5 idx
                  intro bb vs a W K ha hb hC hD hU hK
                  have r74 : a.tmps[74]? = some (vs 3) := by rw [ha]; kernel_rfl
                  have q3 : vs 3 = .slice (some ⟨bm, om, none⟩) q cc := hD 3 (by simp [waits, Region.binds])
                  rw [q3] at r74
                  have r75 : a.tmps[75]? = some (vs 4) := by rw [ha]; kernel_rfl
                  have q4 : vs 4 = .int .i64 k := hD 4 (by simp [waits, Region.binds])
                  rw [q4] at r75
                  clear ha hU hD
                  refine ⟨by rfl, ?_⟩
                  go_simp
                  exact hK _ _ hC (Kept.refl _ _) rfl
                · -- 6 load
                  intro bb vs a W K ha hb hC hD hU hK
                  have r76 : a.tmps[76]? = some (vs 5) := by rw [ha]; kernel_rfl
                  have q5 : vs 5 = .pointer (some ⟨bm, om + k * 2, none⟩) := hD 5 (by simp [waits, Region.binds])
                  rw [q5] at r76
                  clear ha hU hD
                  refine ⟨by rfl, ?_⟩
                  obtain ⟨k0, k1, k2, k3⟩ := kk14.out bb W hC
                  go_simp
                  exact hK _ _ hC (Kept.refl _ _) rfl
                · -- 7 buildSlice
                  intro bb vs a W K ha hb hC hD hU hK
                  have r77 : a.tmps[77]? = some (vs 6) := by rw [ha]; kernel_rfl
                  have q6 : vs 6 = .agg #[.int .i64 fe, .int .i64 sh] := hD 6 (by simp [waits, Region.binds])
                  rw [q6] at r77
                  clear ha hU hD
                  refine ⟨by rfl, ?_⟩
                  go_simp
                  exact hK _ _ (hC.quiet MeasR.good (bl_alloc (Below.refl _ _) _ (Nat.le_refl _))) (Kept.alloc _ _ _) ⟨_, rfl, Blk.new _ _ _ rfl, fun e => by have := (HOB2.out _ e).2; have := hC.1.size; omega⟩
                · -- 8 append
                  intro bb vs a W K ha hb hC hD hU hK
                  have r72 : a.tmps[72]? = some (vs 1) := by rw [ha]; kernel_rfl
                  have q1 : vs 1 = .slice A2 k2 c2 := hD 1 (by simp [waits, Region.binds])
                  rw [q1] at r72
                  have r78 : a.tmps[78]? = some (vs 7) := by rw [ha]; kernel_rfl
                  have q7 : (NewEl (Value.slice A2 k2 c2).ownBlock 62 (#[.int .i64 fe, .int .i64 sh])) (vs 7) W := hD 7 (by simp [waits, Region.binds])
                  obtain ⟨g7, q7, hg7, _⟩ := q7
                  rw [q7] at r78
                  clear ha hU hD
                  refine ⟨by rfl, ?_⟩
                  obtain rfl : bb = false := hb rfl
                  have hsW : wq.heap.size ≤ W.heap.size := hC.1.size
                  refine wp_append_elW W rfl _ _ _ rfl MeasR.good base 62 i0 _ 16 Tryd.underlying24 hi0 hz0 hz1 hz2 rfl (by omega) (.slice A2 k2 c2) l2 ⟨fe, sh⟩ k2 Hl2.out (by simp [Act.eval, r72]) (hC.2 rfl) g7 1 [.int .i64 fe, .int .i64 sh] (by simp [Act.eval, r78]) rfl hg7 (by simp only [maxLen]; omega) (by omega) (by omega) (fun h => h) ?_
                  intro A2 cap2 w2 hO2 hg2 hat2
                  exact hK _ _ ⟨hC.1.trans (Kept.grown hg2 (fun _ h => h)), fun h => by cases h⟩ (Kept.grown hg2 (fun _ h => ⟨rfl, h⟩)) ⟨A2, cap2, rfl, hO2, by rcases hat2 with h | h; exact .inl h; exact .inr (by omega)⟩
                · -- 9 fa
                  intro bb vs a W K ha hb hC hD hU hK
                  have r10 : a.tmps[10]? = some (.pointer (some ⟨g10, 0, none⟩)) := by rw [ha]; kernel_rfl
                  clear ha hU hD
                  refine ⟨by rfl, ?_⟩
                  go_simp
                  exact hK _ _ hC (Kept.refl _ _) rfl
              case stab14b =>
                intro bb i p v w1 w2 hp hi hC hX h
                rcases i with _ | _ | _ | _ | _ | _ | _ | _ | _ | _ | i
                all_goals simp at hp
                all_goals subst hp
                · exact h
                · exact h
                · exact h
                · exact h
                · exact h
                · exact h
                · exact h
                · exact NewEl.keep h hX
                · exact GrownW.keep MeasR.good h (hi rfl) hX
                · exact h
              case fin14b =>
                intro vs W hC hE hU
                have e8 := hE 8 (by simp)
                have e9 := hE 9 (by simp)
                simp only [envOf, List.getD_cons_succ, List.getD_cons_zero, isV] at e8 e9
                have H8 := Lib.hid e8
                clear e8 hE hU
                simp only [fillA, Act.put, List.setIfInBounds_toArray, List.set_cons_zero, List.set_cons_succ, Nat.zero_add, Nat.reduceAdd, e9]
                simp [Region.wanted, yielded]
                obtain ⟨Aq, capq, e8, hOq, hat⟩ := H8.out
                rw [e8] at hOq ⊢
                clear e8 e9 H8
                have hKW := hC.1
                have J9 : Blk W g9 26 #[.slice A n ca, .slice B m cb, .slice Af k1 c1'] := (hKW.block _ HG9.out.lt (fun e => hneg9 e.symm)).trans HG9.out
                have J10 : Blk W g10 26 #[.slice A n ca, .slice B m cb, .slice A2 k2 c2] := (hKW.block _ HG10.out.lt (fun e => hneg10 e.symm)).trans HG10.out
                have hBW : Below u2.heap.size u2 W := HBq.out.trans (hKW.below HBq.out.size (fun j hj => by have := (HOB2.out j hj).1; omega))
                have hsW : base ≤ W.heap.size := Nat.le_trans hszq hKW.size
                have P1 : OwnL MeasR 2 (fun _ => False) W base 62 (.slice Af k1 c1') l1 := HO1.out.keep MeasR.good (hKW.keeps (fun j hj e => by
                  rcases hj with h | h
                  · exact h
                  · exact HDJ2.out j h e))
                have DJ : Hid (∀ j, (Value.slice Af k1 c1').ownBlock = some j → (Value.slice (some ⟨Aq, 0, none⟩) (k2 + 1) capq).ownBlock ≠ some j) := fun j hj e => by
                  have he : Aq = j := by simpa [Value.ownBlock] using e
                  subst he
                  rcases hat with h | h
                  · exact HDJ2.out _ hj h
                  · have := (OwnL.block HO1.out _ hj).2; omega
                have HJ9 := Lib.hid J9
                have HJ10 := Lib.hid J10
                have HBW := Lib.hid hBW
                have HP1 := Lib.hid P1
                have HOq := Lib.hid hOq
                have y0 : W.cell? ⟨g10, 2, none⟩ = some (.slice A2 k2 c2) := J10.cell 2
                have y1 := J10.frozen 2
                have y2 := J10.lt
                have Hs2 : Hid (l2 ++ [⟨fe, sh⟩] = pickM c (fun i => !bitB x i) (k + 1)) := by rw [Hid, pickM_succ Hx.out, ← Hf2.out, hbk]; rfl
                clear J9 J10 hBW hOq hKW hC kk14 P1 hat
                go_simp
                go_wp2
                go_roundw
                case rel => exact ⟨k + 1, k1, c1', k2 + 1, capq, Af, _, l1, _, by omega, by go_num, by rw [Hmk2.out], by omega, by omega, Hlx, by rw [Hid, List.length_append, Hl2.out]; rfl, own_far MeasR.good HP1.out (fun h => h) (by omega) _ _, own_far MeasR.good HOq.out (fun h => h) (by omega) _ _, DJ, HJ9.out.far (by first | omega | (dsimp only; omega)) _, HJ10.out.set_ 2 _, bl_set HBW.out (by first | omega | (dsimp only; omega)) _, by simpa using hsW, Hfx, Hs2⟩
                case measure => simp [intOf]; omega
            · -- the bit is set: one more
              have hbk : bitB x k = true := decide_eq_true (by rw [Hy.out, Hr.out])
              have Hmk2 : Hid (manyK x (k + 1) = mk + 1) := by rw [Hid, manyK_succ, hbk, Hmk.out]; simp
              have Hs2 : Hid (l2 = pickM c (fun i => !bitB x i) (k + 1)) := by rw [Hid, pickM_succ Hx.out, ← Hf2.out, hbk]; simp
              go_wp2
              go_roundw
              case rel => exact ⟨k + 1, k1, c1', k2, c2, Af, A2, l1, l2, by omega, by go_num, by rw [Hmk2.out]; simp, by omega, by omega, Hlx, Hl2, HO1.out, HO2.out, HDJ2, HG9.out, HG10.out, HBq.out, hszq, Hfx, Hs2⟩
              case measure => simp [intOf]; omega
        · obtain rfl : q = k := by omega
          have hki : ¬ (q : Int) < q := by omega
          have b4 := bl_call b2 HBq.out (Nat.le_refl _)
          have ecr := e1.keep (Keeps.below b4)
          have d9 := meas_own HO1.out (by omega)
          have d10 := meas_own HO2.out (by omega)
          rw [Hf1.out] at d9
          rw [Hf2.out] at d10
          have hF : ClaimAt (fun _ => True) wr A n B m Af k1 (pickC c (fun i => !decide ((i : Int) ∈ l))) := ⟨ecr.fs, ecr.cs, by unfold pickC; simp only; rw [Hq.out]; exact d9⟩
          have hG : ClaimAt (fun _ => True) wr A n B m A2 k2 (pickC c fun i => !bitB x i) := ⟨ecr.fs, ecr.cs, by unfold pickC; simp only; rw [Hq.out]; exact d10⟩
          have a0 : wr.cell? ⟨g9, 0, none⟩ = some (.slice A n ca) := HG9.out.cell 0
          have a1 : wr.cell? ⟨g9, 1, none⟩ = some (.slice B m cb) := HG9.out.cell 1
          have a2 : wr.cell? ⟨g9, 2, none⟩ = some (.slice Af k1 c1') := HG9.out.cell 2
          have hIr := hI1.keep IntR.good (Keeps.below HBq.out)
          clear d9 d10
          go_wp2_with fail
          clear a0 a1 a2
          refine (bmust_any wr (t0.bl b4) hF hca hcb).mono ?_
          rintro e v1 ⟨A3, n3, c3, A4, n4, c4, rfl, _, _, j1⟩
          rw [Hfew.out]
          have a0 : v1.cell? ⟨g10, 0, none⟩ = some (.slice A n ca) := (HG10.out.bl j1).cell 0
          have a1 : v1.cell? ⟨g10, 1, none⟩ = some (.slice B m cb) := (HG10.out.bl j1).cell 1
          have a2 : v1.cell? ⟨g10, 2, none⟩ = some (.slice A2 k2 c2) := (HG10.out.bl j1).cell 2
          go_wp2_with fail
          clear a0 a1 a2
          refine (bmust_any v1 (t0.bl (bl_call b4 j1 (Nat.le_refl _))) (hG.keep (Keeps.below j1)) hca hcb).mono ?_
          rintro e v2 ⟨A5, n5, c5, A6, n6, c6, rfl, _, _, k2'⟩
          obtain ⟨g, hg⟩ : ∃ g, (mustR (pickC c fun i => !bitB x i)).2.2 = g := ⟨_, rfl⟩
          have Hg := Hrest.out
          rw [hg] at Hg ⊢
          have Hg := Lib.hid Hg
          have j2 := bl_call j1 k2' (Nat.le_refl _)
          have b5 := bl_call b4 j2 (Nat.le_refl _)
          have hIr := hIr.keep IntR.good (Keeps.below j2)
          obtain ⟨lw, hlw, hlwl⟩ := Htold.out
          have Hlw := Lib.hid hlw
          have Hlwl := Lib.hid hlwl
          have a0 : v2.cell? ⟨w.heap.size, 0, none⟩ = some (.slice A n ca) := (X1.bl b5).cell 0
          have a1 : v2.cell? ⟨w.heap.size, 1, none⟩ = some (.slice B m cb) := (X1.bl b5).cell 1
          have a2 : v2.cell? ⟨w.heap.size, 2, none⟩ = some (.slice C q cc) := (X1.bl b5).cell 2
          have a3 : v2.cell? ⟨w.heap.size + 1, 0, none⟩ = some (.slice X nx cx) := (X2.bl b5).cell 0
          have a4 : v2.cell? ⟨w.heap.size + 1, 1, none⟩ = some (.slice Y ny cy) := (X2.bl b5).cell 1
          have kk17 : Hid (∀ W', Below v2.heap.size v2 W' → W'.cell? ⟨w.heap.size, 0, none⟩ = some (.slice A n ca) ∧ W'.cell? ⟨w.heap.size, 1, none⟩ = some (.slice B m cb) ∧ W'.cell? ⟨w.heap.size, 2, none⟩ = some (.slice C q cc) ∧ W'.cell? ⟨w.heap.size + 1, 0, none⟩ = some (.slice X nx cx) ∧ W'.cell? ⟨w.heap.size + 1, 1, none⟩ = some (.slice Y ny cy) ∧ Below v2.heap.size v2 W') := fun W' hb => ⟨getc hb a0, getc hb a1, getc hb a2, getc hb a3, getc hb a4, hb⟩
          clear hg hlw hlwl hF hG k2' j1 j2 ecr r2q
          go_wp2
          go_region_held3 (fun w' => w'.cell? ⟨w.heap.size, 0, none⟩ = some (.slice A n ca) ∧ w'.cell? ⟨w.heap.size, 1, none⟩ = some (.slice B m cb) ∧ w'.cell? ⟨w.heap.size, 2, none⟩ = some (.slice C q cc) ∧ w'.cell? ⟨w.heap.size + 1, 0, none⟩ = some (.slice X nx cx) ∧ w'.cell? ⟨w.heap.size + 1, 1, none⟩ = some (.slice Y ny cy) ∧ Below v2.heap.size v2 w')
            (first | exact kk17.out _ (Below.refl _ _).drew | exact kk17.out _ (Below.refl _ _) | exact kk17.out _ p3 | exact kk17.out _ p4 | exact kk17.out _ p5)
            (first | (go_at_call 38; have hh := ‹_ ∧ _ ∧ _ ∧ _ ∧ _ ∧ Below v2.heap.size v2 _›; have hp := hh.2.2.2.2.2; clear hh; refine (truth_any _ (e1.keep (Keeps.below (bl_call b5 hp (Nat.le_refl _)))) HOK.out (x1.keep U8R.good (Keeps.below (bl_call b5 hp (Nat.le_refl _))))).mono ?_; rintro e v3 ⟨T, nt, ct, rfl, hT, k3⟩; have p3 := bl_call hp k3 (Nat.le_refl _)) | (go_at_call 39; refine (told_any x _ (e1.keep (Keeps.below (bl_call b5 p3 (Nat.le_refl _)))) HOK.out hT htr (y1.keep U8R.good (Keeps.below (bl_call b5 p3 (Nat.le_refl _)))) hx0 hx9).mono ?_; rintro e v4 ⟨C', q', cq', rfl, hD, k4⟩; have p4 := bl_call p3 k4 (Nat.le_refl _)) | (go_at_call 23; refine (bwrong_any _ hD hca hcb).mono ?_; rintro e v5 ⟨A7, n7, c7, rfl, hI7, k5⟩; rw [Hlw.out] at hI7 ⊢; have p5 := bl_call p4 k5 (Nat.le_refl _)))
          rename_i hHeld
          clear hHeld
          have hn7 : (n7 : Int) ≤ mk := by have := hI7.len; have := Hlwl.out; have := Hmk.out; omega
          have hIs := hIr.keep IntR.good (Keeps.below p5)
          have hn1 := hIr.len
          have b6 := bl_call b5 p5 (Nat.le_refl _)
          have a2 : v5.cell? ⟨w.heap.size, 2, none⟩ = some (.slice C q cc) := getc p5 a2
          clear a0 a1 a3 a4 kk17
          rcases Hg.out with rfl | ⟨rfl, hgm⟩
          all_goals
            first | (have hm1 : (n1 : Int) ≤ mk := by have := Hmk.out; omega) | skip
            clear hn1
            go_wp2_with fail
            refine (ascending_any (q : Int) _ hIs).mono ?_
            rintro e v6 ⟨rfl, z6, hz6⟩
            rw [Hasc.out]
            have p6 : Below v2.heap.size v2 v6 := by rw [hz6]; exact bl_drewN p5 _
            clear hz6
            go_wp2_with fail
            refine (awake_any _ (t0.bl (bl_call b5 p6 (Nat.le_refl _)))).mono ?_
            rintro e v7 ⟨rfl, k7⟩
            go_wp2
            go_ret
            exact ⟨rfl, bl_call (bl_call hB0 (bl_call b5 p6 (Nat.le_refl _)) (Nat.le_refl _)) k7 (Nat.le_refl _)⟩
    · rename_i hHeld
      clear hHeld
      obtain ⟨v3, hv3⟩ : ∃ v3, ((u2.alloc (.cells #[.slice A n ca, .slice B m cb, .slice C q cc] 26)).alloc (.cells #[.slice A n ca, .slice B m cb, .slice C q cc] 26)).drew = v3 := ⟨_, rfl⟩
      have KA : Blk v3 u2.heap.size 26 #[.slice A n ca, .slice B m cb, .slice C q cc] := by rw [← hv3]; exact ((Blk.new _ _ _ rfl).alloc _).drew
      have KB : Blk v3 (u2.heap.size + 1) 26 #[.slice A n ca, .slice B m cb, .slice C q cc] := by rw [← hv3]; exact (Blk.new _ _ _ (by simp)).drew
      have B3 : Below u2.heap.size u2 v3 := by rw [← hv3]; exact (bl_alloc (bl_alloc (Below.refl _ _) _ (Nat.le_refl _)) _ (Nat.le_refl _)).drew
      rw [hv3]
      clear hv3
      obtain ⟨g9, hg9⟩ : ∃ g, g = u2.heap.size + 1 := ⟨_, rfl⟩
      rw [← hg9] at KB ⊢
      obtain ⟨g10, hg10⟩ : ∃ g, g = u2.heap.size := ⟨_, rfl⟩
      rw [← hg10] at KA ⊢
      have hga : u2.heap.size ≤ g10 := by omega
      have hgb : u2.heap.size ≤ g9 := by omega
      have hgn : g10 ≠ g9 := by omega
      clear hg10 hg9
      have K10 := KA
      have K9 := KB
      clear KA KB
      obtain ⟨v3', hv3'⟩ : ∃ v, v3.setCell ⟨g9, 2, none⟩ (.slice none 0 0) = v := ⟨_, rfl⟩
      have L9 : Blk v3' g9 26 #[.slice A n ca, .slice B m cb, .slice none 0 0] := by rw [← hv3']; exact K9.set_ 2 _
      have L10 : Blk v3' g10 26 #[.slice A n ca, .slice B m cb, .slice C q cc] := by rw [← hv3']; exact K10.far (by first | omega | (dsimp only; omega)) _
      have B3' : Below u2.heap.size u2 v3' := by rw [← hv3']; exact bl_set B3 (by first | omega | (dsimp only; omega)) _
      obtain ⟨v4, hv4⟩ : ∃ v, v3'.setCell ⟨g10, 2, none⟩ (.slice none 0 0) = v := ⟨_, rfl⟩
      have G9 : Blk v4 g9 26 #[.slice A n ca, .slice B m cb, .slice none 0 0] := by rw [← hv4]; exact L9.far (by first | omega | (dsimp only; omega)) _
      have G10 : Blk v4 g10 26 #[.slice A n ca, .slice B m cb, .slice none 0 0] := by rw [← hv4]; exact L10.set_ 2 _
      have B4 : Below u2.heap.size u2 v4 := by rw [← hv4]; exact bl_set B3' (by first | omega | (dsimp only; omega)) _
      have f9 := K9.frozen 2
      have l9 := K9.lt
      have m9 : v3.cell? ⟨g9, 2, none⟩ = some (.slice C q cc) := K9.cell 2
      have f10 := L10.frozen 2
      have l10 := L10.lt
      have m10 : v3'.cell? ⟨g10, 2, none⟩ = some (.slice C q cc) := L10.cell 2
      obtain ⟨base, hbs⟩ : ∃ base, base = v4.heap.size := ⟨_, rfl⟩
      have hbase : base ≤ v4.heap.size := by omega
      have hg9b : g9 < base := by rw [hbs]; exact G9.lt
      have hg10b : g10 < base := by rw [hbs]; exact G10.lt
      have hu2b : u2.heap.size ≤ base := by rw [hbs]; exact B4.size
      have hW0u : W0.heap.size ≤ u2.heap.size := b2.size
      have Hbs := Lib.hid hbs
      clear hbs L9 L10 B3' K9 K10 B3 r0 r1 kk
      go_wp2
      clear hv3' hv4 f9 l9 m9 f10 l10 m10
      go_loopw [11, 12] (fun mv i wr => ∃ (k k1 c1 k2 c2 : Nat) (A1 A2 : Option Addr) (l1 l2 : List Meas), k ≤ q ∧ i = .int .i64 k ∧ mv = .int .i64 (manyK x k : Nat) ∧ k1 ≤ k ∧ k2 ≤ k ∧ Hid (l1.length = k1) ∧ Hid (l2.length = k2) ∧ OwnL MeasR 2 (fun _ => False) wr base 62 (.slice A1 k1 c1) l1 ∧ OwnL MeasR 2 (fun _ => False) wr base 62 (.slice A2 k2 c2) l2 ∧ Hid (∀ j, (Value.slice A1 k1 c1).ownBlock = some j → (Value.slice A2 k2 c2).ownBlock ≠ some j) ∧ Blk wr g9 26 #[.slice A n ca, .slice B m cb, .slice A1 k1 c1] ∧ Blk wr g10 26 #[.slice A n ca, .slice B m cb, .slice A2 k2 c2] ∧ Below u2.heap.size u2 wr ∧ base ≤ wr.heap.size ∧ Hid (l1 = pickM c (fun i => !decide ((i : Int) ∈ l)) k) ∧ Hid (l2 = pickM c (fun i => !bitB x i) k)) (fun _ i _ => q - (intOf i).toNat)
      case atStart => exact ⟨0, 0, 0, 0, 0, none, none, [], [], Nat.zero_le _, rfl, rfl, Nat.le_refl _, Nat.le_refl _, rfl, rfl, OwnL.nil _ _ _ _ _ _, OwnL.nil _ _ _ _ _ _, (fun j hj => by simp [Value.ownBlock] at hj), G9, G10, B4, hbase, rfl, rfl⟩
      case round =>
        obtain ⟨k, k1, c1', k2, c2, Af, A2, l1, l2, hk, rfl, rfl, hk1, hk2, Hl1, Hl2, hO1, hO2, HDJ2, hG9, hG10, hB, hszq, Hf1, Hf2⟩ := hrel
        have HO1 := Lib.hid hO1
        have HO2 := Lib.hid hO2
        have HG9 := Lib.hid hG9
        have HG10 := Lib.hid hG10
        have HBq := Lib.hid hB
        obtain ⟨mk, hmk⟩ : ∃ mk, manyK x k = mk := ⟨_, rfl⟩
        have Hmk := Lib.hid hmk
        have hmkb : mk ≤ k := by rw [← hmk]; exact manyK_le x k
        rw [hmk]
        clear hmk hO1 hO2 hG9 hG10 hB
        have r2q := getc HBq.out r2
        by_cases hlt : k < q
        · have hki : (k : Int) < q := by omega
          have hk0 : (0 : Int) ≤ k := by omega
          have hcr := hbn.keep (Keeps.below b2)
          obtain ⟨bm, om, fe, sh, rfl, hbm0, hcm0, hcm1, Hx⟩ := hcr.ms.get hlt
          have hcq0 := getc HBq.out hcm0
          have hcq1 := getc HBq.out hcm1
          have hbm : bm < W0.heap.size := by
            obtain ⟨b', off', vs, hA', hS', _⟩ := hcr.ms.2.2 k _ Hx.out
            injection hA' with hA'; injection hA' with e1 _; rw [e1]; exact hS'.2
          obtain ⟨yb, rb, hy, hy0, hy1, hr1, hr2, hr01⟩ := bits_two x k hx0
          have Hy := Lib.hid hy
          have Hr := Lib.hid hr1
          have hIr := hI1.keep IntR.good (Keeps.below HBq.out)
          obtain ⟨wq, rfl⟩ : ∃ wq : World, wq = wr := ⟨_, rfl⟩
          cases hd : decide ((k : Int) ∈ l)
          · -- it is not named: the few get it
            have hs1 : Hid (l1 ++ [⟨fe, sh⟩] = pickM c (fun i => !decide ((i : Int) ∈ l)) (k + 1)) := by rw [Hid, pickM_succ Hx.out, ← Hf1.out, hd]; rfl
            have t2 : wq.cell? ⟨g9, 2, none⟩ = some (.slice Af k1 c1') := HG9.out.cell 2
            go_wp2_with fail
            refine (has_any (c := c1) (k : Int) wq hIr).mono ?_
            rintro e w' ⟨rfl, rfl⟩
            rw [hd]
            clear hd
            go_wp2
            have hneb : some bm ≠ (Value.slice Af k1 c1').ownBlock := HO1.out.ne (.inl (by omega))
            have hnew : some w.heap.size ≠ (Value.slice Af k1 c1').ownBlock := HO1.out.ne (.inl (by omega))
            have hng9 : some g9 ≠ (Value.slice Af k1 c1').ownBlock := HO1.out.ne (.inl (by omega))
            have hng10 : some g10 ≠ (Value.slice Af k1 c1').ownBlock := HO1.out.ne (.inl (by omega))
            have HOB1 := Lib.hid (OwnL.block HO1.out)
            have hA1 : Around MeasR 2 (fun _ => False) base 62 (.slice Af k1 c1') l1 wq false wq.drew := ⟨Kept.drew _ _, fun _ => HO1.out.keep MeasR.good (Keeps.drew _)⟩
            have kk11 : Hid (∀ bb W, Around MeasR 2 (fun _ => False) base 62 (.slice Af k1 c1') l1 wq bb W → W.cell? ⟨g9, 2, none⟩ = some (.slice Af k1 c1') ∧ W.cell? ⟨w.heap.size, 2, none⟩ = some (.slice (some ⟨bm, om, none⟩) q cc) ∧ W.cell? ⟨bm, om + k * 2, none⟩ = some (.int .i64 fe) ∧ W.cell? ⟨bm, om + k * 2 + 1, none⟩ = some (.int .i64 sh)) := fun bb W h =>
              ⟨h.1.cell t2 (fun e => hng9 e.symm), h.1.cell r2q (fun e => hnew e.symm), h.1.cell hcq0 (fun e => hneb e.symm), h.1.cell hcq1 (fun e => hneb e.symm)⟩
            clear t2 r2q
            refine wp_region_two 8 (fun bb W => Around MeasR 2 (fun _ => False) base 62 (.slice Af k1 c1') l1 wq bb W) (fun bb w w' => Kept (fun j => bb = false ∧ (Value.slice Af k1 c1').ownBlock = some j) w w')
              [isV (.pointer (some ⟨g9, 2, none⟩)), isV (.slice Af k1 c1'), isV (.pointer (some ⟨w.heap.size, 2, none⟩)), isV (.slice (some ⟨bm, om, none⟩) q cc), isV (.int .i64 k), isV (.pointer (some ⟨bm, om + k * 2, none⟩)), isV (.agg #[.int .i64 fe, .int .i64 sh]), NewEl (Value.slice Af k1 c1').ownBlock 62 (#[.int .i64 fe, .int .i64 sh]), GrownW MeasR 2 (fun _ => False) base 62 (k1 + 1) (l1 ++ [⟨fe, sh⟩]) (Value.slice Af k1 c1').ownBlock wq.heap.size, isV (.pointer (some ⟨g9, 2, none⟩))]
              (by kernel_rfl) (by kernel_rfl) (by kernel_rfl) (by simp) (by simp) (by simp) hA1 ?stab11 ?step11 ?fin11
            case step11 =>
              refine StepsL2.cons ?_ (StepsL2.cons ?_ (StepsL2.cons ?_ (StepsL2.cons ?_ (StepsL2.cons ?_ (StepsL2.cons ?_ (StepsL2.cons ?_ (StepsL2.cons ?_ (StepsL2.cons ?_ (StepsL2.cons ?_ StepsL2.nil)))))))))
              · -- 0 fa
                intro bb vs a W K ha hb hC hD hU hK
                have r9 : a.tmps[9]? = some (.pointer (some ⟨g9, 0, none⟩)) := by rw [ha]; kernel_rfl
                clear ha hU hD
                refine ⟨by rfl, ?_⟩
                go_simp
                exact hK _ _ hC (Kept.refl _ _) rfl
              · -- 1 load
                intro bb vs a W K ha hb hC hD hU hK
                have r54 : a.tmps[54]? = some (vs 0) := by rw [ha]; kernel_rfl
                have q0 : vs 0 = .pointer (some ⟨g9, 2, none⟩) := hD 0 (by simp [waits, Region.binds])
                rw [q0] at r54
                clear ha hU hD
                refine ⟨by rfl, ?_⟩
                obtain ⟨k0, k1, k2, k3⟩ := kk11.out bb W hC
                go_simp
                exact hK _ _ hC (Kept.refl _ _) rfl
              · -- 2 fa
                intro bb vs a W K ha hb hC hD hU hK
                have r3 : a.tmps[3]? = some (.pointer (some ⟨w.heap.size, 0, none⟩)) := by rw [ha]; kernel_rfl
                clear ha hU hD
                refine ⟨by rfl, ?_⟩
                go_simp
                exact hK _ _ hC (Kept.refl _ _) rfl
              · -- 3 load
                intro bb vs a W K ha hb hC hD hU hK
                have r56 : a.tmps[56]? = some (vs 2) := by rw [ha]; kernel_rfl
                have q2 : vs 2 = .pointer (some ⟨w.heap.size, 2, none⟩) := hD 2 (by simp [waits, Region.binds])
                rw [q2] at r56
                clear ha hU hD
                refine ⟨by rfl, ?_⟩
                obtain ⟨k0, k1, k2, k3⟩ := kk11.out bb W hC
                go_simp
                exact hK _ _ hC (Kept.refl _ _) rfl
              · -- 4 move
                intro bb vs a W K ha hb hC hD hU hK
                have r12 : a.tmps[12]? = some (.int .i64 k) := by rw [ha]; kernel_rfl
                clear ha hU hD
                refine ⟨by rfl, ?_⟩
                go_simp
                exact hK _ _ hC (Kept.refl _ _) rfl
              · -- 5 idx
                intro bb vs a W K ha hb hC hD hU hK
                have r57 : a.tmps[57]? = some (vs 3) := by rw [ha]; kernel_rfl
                have q3 : vs 3 = .slice (some ⟨bm, om, none⟩) q cc := hD 3 (by simp [waits, Region.binds])
                rw [q3] at r57
                have r58 : a.tmps[58]? = some (vs 4) := by rw [ha]; kernel_rfl
                have q4 : vs 4 = .int .i64 k := hD 4 (by simp [waits, Region.binds])
                rw [q4] at r58
                clear ha hU hD
                refine ⟨by rfl, ?_⟩
                go_simp
                exact hK _ _ hC (Kept.refl _ _) rfl
              · -- 6 load
                intro bb vs a W K ha hb hC hD hU hK
                have r59 : a.tmps[59]? = some (vs 5) := by rw [ha]; kernel_rfl
                have q5 : vs 5 = .pointer (some ⟨bm, om + k * 2, none⟩) := hD 5 (by simp [waits, Region.binds])
                rw [q5] at r59
                clear ha hU hD
                refine ⟨by rfl, ?_⟩
                obtain ⟨k0, k1, k2, k3⟩ := kk11.out bb W hC
                go_simp
                exact hK _ _ hC (Kept.refl _ _) rfl
              · -- 7 buildSlice
                intro bb vs a W K ha hb hC hD hU hK
                have r60 : a.tmps[60]? = some (vs 6) := by rw [ha]; kernel_rfl
                have q6 : vs 6 = .agg #[.int .i64 fe, .int .i64 sh] := hD 6 (by simp [waits, Region.binds])
                rw [q6] at r60
                clear ha hU hD
                refine ⟨by rfl, ?_⟩
                go_simp
                exact hK _ _ (hC.quiet MeasR.good (bl_alloc (Below.refl _ _) _ (Nat.le_refl _))) (Kept.alloc _ _ _) ⟨_, rfl, Blk.new _ _ _ rfl, fun e => by have := (HOB1.out _ e).2; have := hC.1.size; omega⟩
              · -- 8 append
                intro bb vs a W K ha hb hC hD hU hK
                have r55 : a.tmps[55]? = some (vs 1) := by rw [ha]; kernel_rfl
                have q1 : vs 1 = .slice Af k1 c1' := hD 1 (by simp [waits, Region.binds])
                rw [q1] at r55
                have r61 : a.tmps[61]? = some (vs 7) := by rw [ha]; kernel_rfl
                have q7 : (NewEl (Value.slice Af k1 c1').ownBlock 62 (#[.int .i64 fe, .int .i64 sh])) (vs 7) W := hD 7 (by simp [waits, Region.binds])
                obtain ⟨g7, q7, hg7, _⟩ := q7
                rw [q7] at r61
                clear ha hU hD
                refine ⟨by rfl, ?_⟩
                obtain rfl : bb = false := hb rfl
                have hsW : wq.heap.size ≤ W.heap.size := hC.1.size
                refine wp_append_elW W rfl _ _ _ rfl MeasR.good base 62 i0 _ 16 Tryd.underlying24 hi0 hz0 hz1 hz2 rfl (by omega) (.slice Af k1 c1') l1 ⟨fe, sh⟩ k1 Hl1.out (by simp [Act.eval, r55]) (hC.2 rfl) g7 1 [.int .i64 fe, .int .i64 sh] (by simp [Act.eval, r61]) rfl hg7 (by simp only [maxLen]; omega) (by omega) (by omega) (fun h => h) ?_
                intro A2 cap2 w2 hO2 hg2 hat2
                exact hK _ _ ⟨hC.1.trans (Kept.grown hg2 (fun _ h => h)), fun h => by cases h⟩ (Kept.grown hg2 (fun _ h => ⟨rfl, h⟩)) ⟨A2, cap2, rfl, hO2, by rcases hat2 with h | h; exact .inl h; exact .inr (by omega)⟩
              · -- 9 fa
                intro bb vs a W K ha hb hC hD hU hK
                have r9 : a.tmps[9]? = some (.pointer (some ⟨g9, 0, none⟩)) := by rw [ha]; kernel_rfl
                clear ha hU hD
                refine ⟨by rfl, ?_⟩
                go_simp
                exact hK _ _ hC (Kept.refl _ _) rfl
            case stab11 =>
              intro bb i p v w1 w2 hp hi hC hX h
              rcases i with _ | _ | _ | _ | _ | _ | _ | _ | _ | _ | i
              all_goals simp at hp
              all_goals subst hp
              · exact h
              · exact h
              · exact h
              · exact h
              · exact h
              · exact h
              · exact h
              · exact NewEl.keep h hX
              · exact GrownW.keep MeasR.good h (hi rfl) hX
              · exact h
            case fin11 =>
              intro vs W hC hE hU
              have e8 := hE 8 (by simp)
              have e9 := hE 9 (by simp)
              simp only [envOf, List.getD_cons_succ, List.getD_cons_zero, isV] at e8 e9
              have H8 := Lib.hid e8
              clear e8 hE hU
              simp only [fillA, Act.put, List.setIfInBounds_toArray, List.set_cons_zero, List.set_cons_succ, Nat.zero_add, Nat.reduceAdd, e9]
              simp [Region.wanted, yielded]
              obtain ⟨Aq, capq, e8, hOq, hat⟩ := H8.out
              rw [e8] at hOq ⊢
              clear e8 e9 H8
              have hKW := hC.1
              have J9 : Blk W g9 26 #[.slice A n ca, .slice B m cb, .slice Af k1 c1'] := (hKW.block _ HG9.out.lt (fun e => hng9 e.symm)).trans HG9.out
              have J10 : Blk W g10 26 #[.slice A n ca, .slice B m cb, .slice A2 k2 c2] := (hKW.block _ HG10.out.lt (fun e => hng10 e.symm)).trans HG10.out
              have hBW : Below u2.heap.size u2 W := HBq.out.trans (hKW.below HBq.out.size (fun j hj => by have := (HOB1.out j hj).1; omega))
              have hsW : base ≤ W.heap.size := Nat.le_trans hszq hKW.size
              have Q2 : OwnL MeasR 2 (fun _ => False) W base 62 (.slice A2 k2 c2) l2 := HO2.out.keep MeasR.good (hKW.keeps (fun j hj e => by
                rcases hj with h | h
                · exact h
                · exact HDJ2.out j e h))
              have DJ : Hid (∀ j, (Value.slice (some ⟨Aq, 0, none⟩) (k1 + 1) capq).ownBlock = some j → (Value.slice A2 k2 c2).ownBlock ≠ some j) := fun j hj e => by
                have he : Aq = j := by simpa [Value.ownBlock] using hj
                subst he
                rcases hat with h | h
                · exact HDJ2.out _ h e
                · have := (OwnL.block HO2.out _ e).2; omega
              have y0 : W.cell? ⟨g9, 2, none⟩ = some (.slice Af k1 c1') := J9.cell 2
              have y1 := J9.frozen 2
              have y2 := J9.lt
              obtain ⟨w5, hw5⟩ : ∃ w5, W.setCell ⟨g9, 2, none⟩ (.slice (some ⟨Aq, 0, none⟩) (k1 + 1) capq) = w5 := ⟨_, rfl⟩
              have HG9' : Hid (Blk w5 g9 26 #[.slice A n ca, .slice B m cb, .slice (some ⟨Aq, 0, none⟩) (k1 + 1) capq]) := by rw [← hw5]; exact J9.set_ 2 _
              have HG10' : Hid (Blk w5 g10 26 #[.slice A n ca, .slice B m cb, .slice A2 k2 c2]) := by rw [← hw5]; exact J10.far (by first | omega | (dsimp only; omega)) _
              have HBq' : Hid (Below u2.heap.size u2 w5) := by rw [← hw5]; exact bl_set hBW (by first | omega | (dsimp only; omega)) _
              have HO1' : Hid (OwnL MeasR 2 (fun _ => False) w5 base 62 (.slice (some ⟨Aq, 0, none⟩) (k1 + 1) capq) (l1 ++ [⟨fe, sh⟩])) := by rw [← hw5]; exact own_far MeasR.good hOq (fun h => h) (by omega) _ _
              have HO2' : Hid (OwnL MeasR 2 (fun _ => False) w5 base 62 (.slice A2 k2 c2) l2) := by rw [← hw5]; exact own_far MeasR.good Q2 (fun h => h) (by omega) _ _
              have hszq' : base ≤ w5.heap.size := by rw [← hw5]; simpa using hsW
              have hcq0' := getc HBq'.out hcm0
              have hcq1' := getc HBq'.out hcm1
              clear HG9 HG10 HBq HO1 HO2 hszq hcq0 hcq1 J9 J10 hBW hsW Q2 hC hKW kk11 hOq hat HDJ2 hcr hIr
              have HG9 := HG9'
              have HG10 := HG10'
              have HBq := HBq'
              have HO1 := HO1'
              have HO2 := HO2'
              have hszq := hszq'
              have hcq0 := hcq0'
              have hcq1 := hcq1'
              have HDJ2 := DJ
              have Hlx : Hid ((l1 ++ [(⟨fe, sh⟩ : Meas)]).length = k1 + 1) := by rw [Hid, List.length_append, Hl1.out]; rfl
              have Hfx := hs1
              clear HG9' HG10' HBq' HO1' HO2' hszq' hcq0' hcq1' DJ
              obtain ⟨wq, rfl⟩ : ∃ wq : World, wq = w5 := ⟨_, rfl⟩
              rcases hr01 with rfl | rfl
              · -- the bit is not set: the rest gets it
                have hbk : bitB x k = false := decide_eq_false (by rw [Hy.out, Hr.out]; decide)
                have Hmk2 : Hid (manyK x (k + 1) = mk) := by rw [Hid, manyK_succ, hbk, Hmk.out]; simp
                have c0 := hcq0
                have c1 := hcq1
                have t2 : wq.cell? ⟨g10, 2, none⟩ = some (.slice A2 k2 c2) := HG10.out.cell 2
                have t3 : wq.cell? ⟨w.heap.size, 2, none⟩ = some (.slice (some ⟨bm, om, none⟩) q cc) := getc HBq.out r2
                go_simp
                go_wp2
                have hneb2 : some bm ≠ (Value.slice A2 k2 c2).ownBlock := HO2.out.ne (.inl (by omega))
                have hnew2 : some w.heap.size ≠ (Value.slice A2 k2 c2).ownBlock := HO2.out.ne (.inl (by omega))
                have hneg9 : some g9 ≠ (Value.slice A2 k2 c2).ownBlock := HO2.out.ne (.inl (by omega))
                have hneg10 : some g10 ≠ (Value.slice A2 k2 c2).ownBlock := HO2.out.ne (.inl (by omega))
                have HOB2 := Lib.hid (OwnL.block HO2.out)
                have hA2 : Around MeasR 2 (fun _ => False) base 62 (.slice A2 k2 c2) l2 wq false wq.drew := ⟨Kept.drew _ _, fun _ => HO2.out.keep MeasR.good (Keeps.drew _)⟩
                have kk14 : Hid (∀ bb W, Around MeasR 2 (fun _ => False) base 62 (.slice A2 k2 c2) l2 wq bb W → W.cell? ⟨g10, 2, none⟩ = some (.slice A2 k2 c2) ∧ W.cell? ⟨w.heap.size, 2, none⟩ = some (.slice (some ⟨bm, om, none⟩) q cc) ∧ W.cell? ⟨bm, om + k * 2, none⟩ = some (.int .i64 fe) ∧ W.cell? ⟨bm, om + k * 2 + 1, none⟩ = some (.int .i64 sh)) := fun bb W h =>
                  ⟨h.1.cell t2 (fun e => hneg10 e.symm), h.1.cell t3 (fun e => hnew2 e.symm), h.1.cell c0 (fun e => hneb2 e.symm), h.1.cell c1 (fun e => hneb2 e.symm)⟩
                clear c0 c1 t2 t3
                refine wp_region_two 8 (fun bb W => Around MeasR 2 (fun _ => False) base 62 (.slice A2 k2 c2) l2 wq bb W) (fun bb w w' => Kept (fun j => bb = false ∧ (Value.slice A2 k2 c2).ownBlock = some j) w w')
                  [isV (.pointer (some ⟨g10, 2, none⟩)), isV (.slice A2 k2 c2), isV (.pointer (some ⟨w.heap.size, 2, none⟩)), isV (.slice (some ⟨bm, om, none⟩) q cc), isV (.int .i64 k), isV (.pointer (some ⟨bm, om + k * 2, none⟩)), isV (.agg #[.int .i64 fe, .int .i64 sh]), NewEl (Value.slice A2 k2 c2).ownBlock 62 (#[.int .i64 fe, .int .i64 sh]), GrownW MeasR 2 (fun _ => False) base 62 (k2 + 1) (l2 ++ [⟨fe, sh⟩]) (Value.slice A2 k2 c2).ownBlock wq.heap.size, isV (.pointer (some ⟨g10, 2, none⟩))]
                  (by kernel_rfl) (by kernel_rfl) (by kernel_rfl) (by simp) (by simp) (by simp) hA2 ?stab14a ?step14a ?fin14a
                case step14a =>
                  refine StepsL2.cons ?_ (StepsL2.cons ?_ (StepsL2.cons ?_ (StepsL2.cons ?_ (StepsL2.cons ?_ (StepsL2.cons ?_ (StepsL2.cons ?_ (StepsL2.cons ?_ (StepsL2.cons ?_ (StepsL2.cons ?_ StepsL2.nil)))))))))
                  · -- 0 fa
                    intro bb vs a W K ha hb hC hD hU hK
                    have r10 : a.tmps[10]? = some (.pointer (some ⟨g10, 0, none⟩)) := by rw [ha]; kernel_rfl
                    clear ha hU hD
                    refine ⟨by rfl, ?_⟩
                    go_simp
                    exact hK _ _ hC (Kept.refl _ _) rfl
                  · -- 1 load
                    intro bb vs a W K ha hb hC hD hU hK
                    have r71 : a.tmps[71]? = some (vs 0) := by rw [ha]; kernel_rfl
                    have q0 : vs 0 = .pointer (some ⟨g10, 2, none⟩) := hD 0 (by simp [waits, Region.binds])
                    rw [q0] at r71
                    clear ha hU hD
                    refine ⟨by rfl, ?_⟩
                    obtain ⟨k0, k1, k2, k3⟩ := kk14.out bb W hC
                    go_simp
                    exact hK _ _ hC (Kept.refl _ _) rfl
                  · -- 2 fa
                    intro bb vs a W K ha hb hC hD hU hK
                    have r3 : a.tmps[3]? = some (.pointer (some ⟨w.heap.size, 0, none⟩)) := by rw [ha]; kernel_rfl
                    clear ha hU hD
                    refine ⟨by rfl, ?_⟩
                    go_simp
                    exact hK _ _ hC (Kept.refl _ _) rfl
                  · -- 3 load
                    intro bb vs a W K ha hb hC hD hU hK
                    have r73 : a.tmps[73]? = some (vs 2) := by rw [ha]; kernel_rfl
                    have q2 : vs 2 = .pointer (some ⟨w.heap.size, 2, none⟩) := hD 2 (by simp [waits, Region.binds])
                    rw [q2] at r73
                    clear ha hU hD
                    refine ⟨by rfl, ?_⟩
                    obtain ⟨k0, k1, k2, k3⟩ := kk14.out bb W hC
                    go_simp
                    exact hK _ _ hC (Kept.refl _ _) rfl
                  · -- 4 move
                    intro bb vs a W K ha hb hC hD hU hK
                    have r12 : a.tmps[12]? = some (.int .i64 k) := by rw [ha]; kernel_rfl
                    clear ha hU hD
                    refine ⟨by rfl, ?_⟩
                    go_simp
                    exact hK _ _ hC (Kept.refl _ _) rfl
                  · -- 5 idx
                    intro bb vs a W K ha hb hC hD hU hK
                    have r74 : a.tmps[74]? = some (vs 3) := by rw [ha]; kernel_rfl
                    have q3 : vs 3 = .slice (some ⟨bm, om, none⟩) q cc := hD 3 (by simp [waits, Region.binds])
                    rw [q3] at r74
                    have r75 : a.tmps[75]? = some (vs 4) := by rw [ha]; kernel_rfl
                    have q4 : vs 4 = .int .i64 k := hD 4 (by simp [waits, Region.binds])
                    rw [q4] at r75
                    clear ha hU hD
                    refine ⟨by rfl, ?_⟩
                    go_simp
                    exact hK _ _ hC (Kept.refl _ _) rfl
                  · -- 6 load
                    intro bb vs a W K ha hb hC hD hU hK
                    have r76 : a.tmps[76]? = some (vs 5) := by rw [ha]; kernel_rfl
                    have q5 : vs 5 = .pointer (some ⟨bm, om + k * 2, none⟩) := hD 5 (by simp [waits, Region.binds])
                    rw [q5] at r76
                    clear ha hU hD
                    refine ⟨by rfl, ?_⟩
                    obtain ⟨k0, k1, k2, k3⟩ := kk14.out bb W hC
                    go_simp
                    exact hK _ _ hC (Kept.refl _ _) rfl
                  · -- 7 buildSlice
                    intro bb vs a W K ha hb hC hD hU hK
                    have r77 : a.tmps[77]? = some (vs 6) := by rw [ha]; kernel_rfl
                    have q6 : vs 6 = .agg #[.int .i64 fe, .int .i64 sh] := hD 6 (by simp [waits, Region.binds])
                    rw [q6] at r77
                    clear ha hU hD
                    refine ⟨by rfl, ?_⟩
                    go_simp
                    exact hK _ _ (hC.quiet MeasR.good (bl_alloc (Below.refl _ _) _ (Nat.le_refl _))) (Kept.alloc _ _ _) ⟨_, rfl, Blk.new _ _ _ rfl, fun e => by have := (HOB2.out _ e).2; have := hC.1.size; omega⟩
                  · -- 8 append
                    intro bb vs a W K ha hb hC hD hU hK
                    have r72 : a.tmps[72]? = some (vs 1) := by rw [ha]; kernel_rfl
                    have q1 : vs 1 = .slice A2 k2 c2 := hD 1 (by simp [waits, Region.binds])
                    rw [q1] at r72
                    have r78 : a.tmps[78]? = some (vs 7) := by rw [ha]; kernel_rfl
                    have q7 : (NewEl (Value.slice A2 k2 c2).ownBlock 62 (#[.int .i64 fe, .int .i64 sh])) (vs 7) W := hD 7 (by simp [waits, Region.binds])
                    obtain ⟨g7, q7, hg7, _⟩ := q7
                    rw [q7] at r78
                    clear ha hU hD
                    refine ⟨by rfl, ?_⟩
                    obtain rfl : bb = false := hb rfl
                    have hsW : wq.heap.size ≤ W.heap.size := hC.1.size
                    refine wp_append_elW W rfl _ _ _ rfl MeasR.good base 62 i0 _ 16 Tryd.underlying24 hi0 hz0 hz1 hz2 rfl (by omega) (.slice A2 k2 c2) l2 ⟨fe, sh⟩ k2 Hl2.out (by simp [Act.eval, r72]) (hC.2 rfl) g7 1 [.int .i64 fe, .int .i64 sh] (by simp [Act.eval, r78]) rfl hg7 (by simp only [maxLen]; omega) (by omega) (by omega) (fun h => h) ?_
                    intro A2 cap2 w2 hO2 hg2 hat2
                    exact hK _ _ ⟨hC.1.trans (Kept.grown hg2 (fun _ h => h)), fun h => by cases h⟩ (Kept.grown hg2 (fun _ h => ⟨rfl, h⟩)) ⟨A2, cap2, rfl, hO2, by rcases hat2 with h | h; exact .inl h; exact .inr (by omega)⟩
                  · -- 9 fa
                    intro bb vs a W K ha hb hC hD hU hK
                    have r10 : a.tmps[10]? = some (.pointer (some ⟨g10, 0, none⟩)) := by rw [ha]; kernel_rfl
                    clear ha hU hD
                    refine ⟨by rfl, ?_⟩
                    go_simp
                    exact hK _ _ hC (Kept.refl _ _) rfl
                case stab14a =>
                  intro bb i p v w1 w2 hp hi hC hX h
                  rcases i with _ | _ | _ | _ | _ | _ | _ | _ | _ | _ | i
                  all_goals simp at hp
                  all_goals subst hp
                  · exact h
                  · exact h
                  · exact h
                  · exact h
                  · exact h
                  · exact h
                  · exact h
                  · exact NewEl.keep h hX
                  · exact GrownW.keep MeasR.good h (hi rfl) hX
                  · exact h
                case fin14a =>
                  intro vs W hC hE hU
                  have e8 := hE 8 (by simp)
                  have e9 := hE 9 (by simp)
                  simp only [envOf, List.getD_cons_succ, List.getD_cons_zero, isV] at e8 e9
                  have H8 := Lib.hid e8
                  clear e8 hE hU
                  simp only [fillA, Act.put, List.setIfInBounds_toArray, List.set_cons_zero, List.set_cons_succ, Nat.zero_add, Nat.reduceAdd, e9]
                  simp [Region.wanted, yielded]
                  obtain ⟨Ar, capr, e8, hOq, hat⟩ := H8.out
                  rw [e8] at hOq ⊢
                  clear e8 e9 H8
                  have hKW := hC.1
                  have J9 : Blk W g9 26 #[.slice A n ca, .slice B m cb, .slice (some ⟨Aq, 0, none⟩) (k1 + 1) capq] := (hKW.block _ HG9.out.lt (fun e => hneg9 e.symm)).trans HG9.out
                  have J10 : Blk W g10 26 #[.slice A n ca, .slice B m cb, .slice A2 k2 c2] := (hKW.block _ HG10.out.lt (fun e => hneg10 e.symm)).trans HG10.out
                  have hBW : Below u2.heap.size u2 W := HBq.out.trans (hKW.below HBq.out.size (fun j hj => by have := (HOB2.out j hj).1; omega))
                  have hsW : base ≤ W.heap.size := Nat.le_trans hszq hKW.size
                  have P1 : OwnL MeasR 2 (fun _ => False) W base 62 (.slice (some ⟨Aq, 0, none⟩) (k1 + 1) capq) (l1 ++ [⟨fe, sh⟩]) := HO1.out.keep MeasR.good (hKW.keeps (fun j hj e => by
                    rcases hj with h | h
                    · exact h
                    · exact HDJ2.out j h e))
                  have DJ : Hid (∀ j, (Value.slice (some ⟨Aq, 0, none⟩) (k1 + 1) capq).ownBlock = some j → (Value.slice (some ⟨Ar, 0, none⟩) (k2 + 1) capr).ownBlock ≠ some j) := fun j hj e => by
                    have he : Ar = j := by simpa [Value.ownBlock] using e
                    subst he
                    rcases hat with h | h
                    · exact HDJ2.out _ hj h
                    · have := (OwnL.block HO1.out _ hj).2; omega
                  have HJ9 := Lib.hid J9
                  have HJ10 := Lib.hid J10
                  have HBW := Lib.hid hBW
                  have HP1 := Lib.hid P1
                  have HOq := Lib.hid hOq
                  have y0 : W.cell? ⟨g10, 2, none⟩ = some (.slice A2 k2 c2) := J10.cell 2
                  have y1 := J10.frozen 2
                  have y2 := J10.lt
                  have Hs2 : Hid (l2 ++ [⟨fe, sh⟩] = pickM c (fun i => !bitB x i) (k + 1)) := by rw [Hid, pickM_succ Hx.out, ← Hf2.out, hbk]; rfl
                  clear J9 J10 hBW hOq hKW hC kk14 P1 hat
                  go_simp
                  go_wp2
                  go_roundw
                  case rel => exact ⟨k + 1, (k1 + 1), capq, k2 + 1, capr, (some ⟨Aq, 0, none⟩), _, (l1 ++ [⟨fe, sh⟩]), _, by omega, by go_num, by rw [Hmk2.out], by omega, by omega, Hlx, by rw [Hid, List.length_append, Hl2.out]; rfl, own_far MeasR.good HP1.out (fun h => h) (by omega) _ _, own_far MeasR.good HOq.out (fun h => h) (by omega) _ _, DJ, HJ9.out.far (by first | omega | (dsimp only; omega)) _, HJ10.out.set_ 2 _, bl_set HBW.out (by first | omega | (dsimp only; omega)) _, by simpa using hsW, Hfx, Hs2⟩
                  case measure => simp [intOf]; omega
              · -- the bit is set: one more
                have hbk : bitB x k = true := decide_eq_true (by rw [Hy.out, Hr.out])
                have Hmk2 : Hid (manyK x (k + 1) = mk + 1) := by rw [Hid, manyK_succ, hbk, Hmk.out]; simp
                have Hs2 : Hid (l2 = pickM c (fun i => !bitB x i) (k + 1)) := by rw [Hid, pickM_succ Hx.out, ← Hf2.out, hbk]; simp
                go_simp
                go_wp2
                go_roundw
                case rel => exact ⟨k + 1, (k1 + 1), capq, k2, c2, (some ⟨Aq, 0, none⟩), A2, (l1 ++ [⟨fe, sh⟩]), l2, by omega, by go_num, by rw [Hmk2.out]; simp, by omega, by omega, Hlx, Hl2, HO1.out, HO2.out, HDJ2, HG9.out, HG10.out, HBq.out, hszq, Hfx, Hs2⟩
                case measure => simp [intOf]; omega
          · -- it is named: left out
            have hs1 : Hid (l1 = pickM c (fun i => !decide ((i : Int) ∈ l)) (k + 1)) := by rw [Hid, pickM_succ Hx.out, ← Hf1.out, hd]; simp
            have hHas := has_any (c := c1) (k : Int) wq hIr
            have Hlx := Hl1
            have Hfx := hs1
            have q0' : wq.cell? ⟨w.heap.size, 2, none⟩ = some (.slice (some ⟨bm, om, none⟩) q cc) := r2q
            go_wp2_with fail
            refine hHas.mono ?_
            rintro e w' ⟨rfl, rfl⟩
            rw [hd]
            clear hd hHas
            rcases hr01 with rfl | rfl
            · -- the bit is not set: the rest gets it
              have hbk : bitB x k = false := decide_eq_false (by rw [Hy.out, Hr.out]; decide)
              have Hmk2 : Hid (manyK x (k + 1) = mk) := by rw [Hid, manyK_succ, hbk, Hmk.out]; simp
              have c0 := hcq0
              have c1 := hcq1
              have t2 : wq.cell? ⟨g10, 2, none⟩ = some (.slice A2 k2 c2) := HG10.out.cell 2
              have t3 : wq.cell? ⟨w.heap.size, 2, none⟩ = some (.slice (some ⟨bm, om, none⟩) q cc) := getc HBq.out r2
              go_wp2
              have hneb2 : some bm ≠ (Value.slice A2 k2 c2).ownBlock := HO2.out.ne (.inl (by omega))
              have hnew2 : some w.heap.size ≠ (Value.slice A2 k2 c2).ownBlock := HO2.out.ne (.inl (by omega))
              have hneg9 : some g9 ≠ (Value.slice A2 k2 c2).ownBlock := HO2.out.ne (.inl (by omega))
              have hneg10 : some g10 ≠ (Value.slice A2 k2 c2).ownBlock := HO2.out.ne (.inl (by omega))
              have HOB2 := Lib.hid (OwnL.block HO2.out)
              have hA2 : Around MeasR 2 (fun _ => False) base 62 (.slice A2 k2 c2) l2 wq false wq.drew := ⟨Kept.drew _ _, fun _ => HO2.out.keep MeasR.good (Keeps.drew _)⟩
              have kk14 : Hid (∀ bb W, Around MeasR 2 (fun _ => False) base 62 (.slice A2 k2 c2) l2 wq bb W → W.cell? ⟨g10, 2, none⟩ = some (.slice A2 k2 c2) ∧ W.cell? ⟨w.heap.size, 2, none⟩ = some (.slice (some ⟨bm, om, none⟩) q cc) ∧ W.cell? ⟨bm, om + k * 2, none⟩ = some (.int .i64 fe) ∧ W.cell? ⟨bm, om + k * 2 + 1, none⟩ = some (.int .i64 sh)) := fun bb W h =>
                ⟨h.1.cell t2 (fun e => hneg10 e.symm), h.1.cell t3 (fun e => hnew2 e.symm), h.1.cell c0 (fun e => hneb2 e.symm), h.1.cell c1 (fun e => hneb2 e.symm)⟩
              clear c0 c1 t2 t3
              refine wp_region_two 8 (fun bb W => Around MeasR 2 (fun _ => False) base 62 (.slice A2 k2 c2) l2 wq bb W) (fun bb w w' => Kept (fun j => bb = false ∧ (Value.slice A2 k2 c2).ownBlock = some j) w w')
                [isV (.pointer (some ⟨g10, 2, none⟩)), isV (.slice A2 k2 c2), isV (.pointer (some ⟨w.heap.size, 2, none⟩)), isV (.slice (some ⟨bm, om, none⟩) q cc), isV (.int .i64 k), isV (.pointer (some ⟨bm, om + k * 2, none⟩)), isV (.agg #[.int .i64 fe, .int .i64 sh]), NewEl (Value.slice A2 k2 c2).ownBlock 62 (#[.int .i64 fe, .int .i64 sh]), GrownW MeasR 2 (fun _ => False) base 62 (k2 + 1) (l2 ++ [⟨fe, sh⟩]) (Value.slice A2 k2 c2).ownBlock wq.heap.size, isV (.pointer (some ⟨g10, 2, none⟩))]
                (by kernel_rfl) (by kernel_rfl) (by kernel_rfl) (by simp) (by simp) (by simp) hA2 ?stab14b ?step14b ?fin14b
              case step14b =>
                refine StepsL2.cons ?_ (StepsL2.cons ?_ (StepsL2.cons ?_ (StepsL2.cons ?_ (StepsL2.cons ?_ (StepsL2.cons ?_ (StepsL2.cons ?_ (StepsL2.cons ?_ (StepsL2.cons ?_ (StepsL2.cons ?_ StepsL2.nil)))))))))
                · -- 0 fa
                  intro bb vs a W K ha hb hC hD hU hK
                  have r10 : a.tmps[10]? = some (.pointer (some ⟨g10, 0, none⟩)) := by rw [ha]; kernel_rfl
                  clear ha hU hD
                  refine ⟨by rfl, ?_⟩
                  go_simp
                  exact hK _ _ hC (Kept.refl _ _) rfl
                · -- 1 load
                  intro bb vs a W K ha hb hC hD hU hK
                  have r71 : a.tmps[71]? = some (vs 0) := by rw [ha]; kernel_rfl
                  have q0 : vs 0 = .pointer (some ⟨g10, 2, none⟩) := hD 0 (by simp [waits, Region.binds])
                  rw [q0] at r71
                  clear ha hU hD
                  refine ⟨by rfl, ?_⟩
                  obtain ⟨k0, k1, k2, k3⟩ := kk14.out bb W hC
                  go_simp
                  exact hK _ _ hC (Kept.refl _ _) rfl
                · -- 2 fa
                  intro bb vs a W K ha hb hC hD hU hK
                  have r3 : a.tmps[3]? = some (.pointer (some ⟨w.heap.size, 0, none⟩)) := by rw [ha]; kernel_rfl
                  clear ha hU hD
                  refine ⟨by rfl, ?_⟩
                  go_simp
                  exact hK _ _ hC (Kept.refl _ _) rfl
                · -- 3 load
                  intro bb vs a W K ha hb hC hD hU hK
                  have r73 : a.tmps[73]? = some (vs 2) := by rw [ha]; kernel_rfl
                  have q2 : vs 2 = .pointer (some ⟨w.heap.size, 2, none⟩) := hD 2 (by simp [waits, Region.binds])
                  rw [q2] at r73
                  clear ha hU hD
                  refine ⟨by rfl, ?_⟩
                  obtain ⟨k0, k1, k2, k3⟩ := kk14.out bb W hC
                  go_simp
                  exact hK _ _ hC (Kept.refl _ _) rfl
                · -- 4 move
                  intro bb vs a W K ha hb hC hD hU hK
                  have r12 : a.tmps[12]? = some (.int .i64 k) := by rw [ha]; kernel_rfl
                  clear ha hU hD
                  refine ⟨by rfl, ?_⟩
                  go_simp
                  exact hK _ _ hC (Kept.refl _ _) rfl
                · -- 5 idx
                  intro bb vs a W K ha hb hC hD hU hK
                  have r74 : a.tmps[74]? = some (vs 3) := by rw [ha]; kernel_rfl
                  have q3 : vs 3 = .slice (some ⟨bm, om, none⟩) q cc := hD 3 (by simp [waits, Region.binds])
                  rw [q3] at r74
                  have r75 : a.tmps[75]? = some (vs 4) := by rw [ha]; kernel_rfl
                  have q4 : vs 4 = .int .i64 k := hD 4 (by simp [waits, Region.binds])
                  rw [q4] at r75
                  clear ha hU hD
                  refine ⟨by rfl, ?_⟩
                  go_simp
                  exact hK _ _ hC (Kept.refl _ _) rfl
                · -- 6 load
                  intro bb vs a W K ha hb hC hD hU hK
                  have r76 : a.tmps[76]? = some (vs 5) := by rw [ha]; kernel_rfl
                  have q5 : vs 5 = .pointer (some ⟨bm, om + k * 2, none⟩) := hD 5 (by simp [waits, Region.binds])
                  rw [q5] at r76
                  clear ha hU hD
                  refine ⟨by rfl, ?_⟩
                  obtain ⟨k0, k1, k2, k3⟩ := kk14.out bb W hC
                  go_simp
                  exact hK _ _ hC (Kept.refl _ _) rfl
                · -- 7 buildSlice
                  intro bb vs a W K ha hb hC hD hU hK
                  have r77 : a.tmps[77]? = some (vs 6) := by rw [ha]; kernel_rfl
                  have q6 : vs 6 = .agg #[.int .i64 fe, .int .i64 sh] := hD 6 (by simp [waits, Region.binds])
                  rw [q6] at r77
                  clear ha hU hD
                  refine ⟨by rfl, ?_⟩
                  go_simp
                  exact hK _ _ (hC.quiet MeasR.good (bl_alloc (Below.refl _ _) _ (Nat.le_refl _))) (Kept.alloc _ _ _) ⟨_, rfl, Blk.new _ _ _ rfl, fun e => by have := (HOB2.out _ e).2; have := hC.1.size; omega⟩
                · -- 8 append
                  intro bb vs a W K ha hb hC hD hU hK
                  have r72 : a.tmps[72]? = some (vs 1) := by rw [ha]; kernel_rfl
                  have q1 : vs 1 = .slice A2 k2 c2 := hD 1 (by simp [waits, Region.binds])
                  rw [q1] at r72
                  have r78 : a.tmps[78]? = some (vs 7) := by rw [ha]; kernel_rfl
                  have q7 : (NewEl (Value.slice A2 k2 c2).ownBlock 62 (#[.int .i64 fe, .int .i64 sh])) (vs 7) W := hD 7 (by simp [waits, Region.binds])
                  obtain ⟨g7, q7, hg7, _⟩ := q7
                  rw [q7] at r78
                  clear ha hU hD
                  refine ⟨by rfl, ?_⟩
                  obtain rfl : bb = false := hb rfl
                  have hsW : wq.heap.size ≤ W.heap.size := hC.1.size
                  refine wp_append_elW W rfl _ _ _ rfl MeasR.good base 62 i0 _ 16 Tryd.underlying24 hi0 hz0 hz1 hz2 rfl (by omega) (.slice A2 k2 c2) l2 ⟨fe, sh⟩ k2 Hl2.out (by simp [Act.eval, r72]) (hC.2 rfl) g7 1 [.int .i64 fe, .int .i64 sh] (by simp [Act.eval, r78]) rfl hg7 (by simp only [maxLen]; omega) (by omega) (by omega) (fun h => h) ?_
                  intro A2 cap2 w2 hO2 hg2 hat2
                  exact hK _ _ ⟨hC.1.trans (Kept.grown hg2 (fun _ h => h)), fun h => by cases h⟩ (Kept.grown hg2 (fun _ h => ⟨rfl, h⟩)) ⟨A2, cap2, rfl, hO2, by rcases hat2 with h | h; exact .inl h; exact .inr (by omega)⟩
                · -- 9 fa
                  intro bb vs a W K ha hb hC hD hU hK
                  have r10 : a.tmps[10]? = some (.pointer (some ⟨g10, 0, none⟩)) := by rw [ha]; kernel_rfl
                  clear ha hU hD
                  refine ⟨by rfl, ?_⟩
                  go_simp
                  exact hK _ _ hC (Kept.refl _ _) rfl
              case stab14b =>
                intro bb i p v w1 w2 hp hi hC hX h
                rcases i with _ | _ | _ | _ | _ | _ | _ | _ | _ | _ | i
                all_goals simp at hp
                all_goals subst hp
                · exact h
                · exact h
                · exact h
                · exact h
                · exact h
                · exact h
                · exact h
                · exact NewEl.keep h hX
                · exact GrownW.keep MeasR.good h (hi rfl) hX
                · exact h
              case fin14b =>
                intro vs W hC hE hU
                have e8 := hE 8 (by simp)
                have e9 := hE 9 (by simp)
                simp only [envOf, List.getD_cons_succ, List.getD_cons_zero, isV] at e8 e9
                have H8 := Lib.hid e8
                clear e8 hE hU
                simp only [fillA, Act.put, List.setIfInBounds_toArray, List.set_cons_zero, List.set_cons_succ, Nat.zero_add, Nat.reduceAdd, e9]
                simp [Region.wanted, yielded]
                obtain ⟨Aq, capq, e8, hOq, hat⟩ := H8.out
                rw [e8] at hOq ⊢
                clear e8 e9 H8
                have hKW := hC.1
                have J9 : Blk W g9 26 #[.slice A n ca, .slice B m cb, .slice Af k1 c1'] := (hKW.block _ HG9.out.lt (fun e => hneg9 e.symm)).trans HG9.out
                have J10 : Blk W g10 26 #[.slice A n ca, .slice B m cb, .slice A2 k2 c2] := (hKW.block _ HG10.out.lt (fun e => hneg10 e.symm)).trans HG10.out
                have hBW : Below u2.heap.size u2 W := HBq.out.trans (hKW.below HBq.out.size (fun j hj => by have := (HOB2.out j hj).1; omega))
                have hsW : base ≤ W.heap.size := Nat.le_trans hszq hKW.size
                have P1 : OwnL MeasR 2 (fun _ => False) W base 62 (.slice Af k1 c1') l1 := HO1.out.keep MeasR.good (hKW.keeps (fun j hj e => by
                  rcases hj with h | h
                  · exact h
                  · exact HDJ2.out j h e))
                have DJ : Hid (∀ j, (Value.slice Af k1 c1').ownBlock = some j → (Value.slice (some ⟨Aq, 0, none⟩) (k2 + 1) capq).ownBlock ≠ some j) := fun j hj e => by
                  have he : Aq = j := by simpa [Value.ownBlock] using e
                  subst he
                  rcases hat with h | h
                  · exact HDJ2.out _ hj h
                  · have := (OwnL.block HO1.out _ hj).2; omega
                have HJ9 := Lib.hid J9
                have HJ10 := Lib.hid J10
                have HBW := Lib.hid hBW
                have HP1 := Lib.hid P1
                have HOq := Lib.hid hOq
                have y0 : W.cell? ⟨g10, 2, none⟩ = some (.slice A2 k2 c2) := J10.cell 2
                have y1 := J10.frozen 2
                have y2 := J10.lt
                have Hs2 : Hid (l2 ++ [⟨fe, sh⟩] = pickM c (fun i => !bitB x i) (k + 1)) := by rw [Hid, pickM_succ Hx.out, ← Hf2.out, hbk]; rfl
                clear J9 J10 hBW hOq hKW hC kk14 P1 hat
                go_simp
                go_wp2
                go_roundw
                case rel => exact ⟨k + 1, k1, c1', k2 + 1, capq, Af, _, l1, _, by omega, by go_num, by rw [Hmk2.out], by omega, by omega, Hlx, by rw [Hid, List.length_append, Hl2.out]; rfl, own_far MeasR.good HP1.out (fun h => h) (by omega) _ _, own_far MeasR.good HOq.out (fun h => h) (by omega) _ _, DJ, HJ9.out.far (by first | omega | (dsimp only; omega)) _, HJ10.out.set_ 2 _, bl_set HBW.out (by first | omega | (dsimp only; omega)) _, by simpa using hsW, Hfx, Hs2⟩
                case measure => simp [intOf]; omega
            · -- the bit is set: one more
              have hbk : bitB x k = true := decide_eq_true (by rw [Hy.out, Hr.out])
              have Hmk2 : Hid (manyK x (k + 1) = mk + 1) := by rw [Hid, manyK_succ, hbk, Hmk.out]; simp
              have Hs2 : Hid (l2 = pickM c (fun i => !bitB x i) (k + 1)) := by rw [Hid, pickM_succ Hx.out, ← Hf2.out, hbk]; simp
              go_wp2
              go_roundw
              case rel => exact ⟨k + 1, k1, c1', k2, c2, Af, A2, l1, l2, by omega, by go_num, by rw [Hmk2.out]; simp, by omega, by omega, Hlx, Hl2, HO1.out, HO2.out, HDJ2, HG9.out, HG10.out, HBq.out, hszq, Hfx, Hs2⟩
              case measure => simp [intOf]; omega
        · obtain rfl : q = k := by omega
          have hki : ¬ (q : Int) < q := by omega
          have b4 := bl_call b2 HBq.out (Nat.le_refl _)
          have ecr := e1.keep (Keeps.below b4)
          have d9 := meas_own HO1.out (by omega)
          have d10 := meas_own HO2.out (by omega)
          rw [Hf1.out] at d9
          rw [Hf2.out] at d10
          have hF : ClaimAt (fun _ => True) wr A n B m Af k1 (pickC c (fun i => !decide ((i : Int) ∈ l))) := ⟨ecr.fs, ecr.cs, by unfold pickC; simp only; rw [Hq.out]; exact d9⟩
          have hG : ClaimAt (fun _ => True) wr A n B m A2 k2 (pickC c fun i => !bitB x i) := ⟨ecr.fs, ecr.cs, by unfold pickC; simp only; rw [Hq.out]; exact d10⟩
          have a0 : wr.cell? ⟨g9, 0, none⟩ = some (.slice A n ca) := HG9.out.cell 0
          have a1 : wr.cell? ⟨g9, 1, none⟩ = some (.slice B m cb) := HG9.out.cell 1
          have a2 : wr.cell? ⟨g9, 2, none⟩ = some (.slice Af k1 c1') := HG9.out.cell 2
          have hIr := hI1.keep IntR.good (Keeps.below HBq.out)
          clear d9 d10
          go_wp2_with fail
          clear a0 a1 a2
          refine (bmust_any wr (t0.bl b4) hF hca hcb).mono ?_
          rintro e v1 ⟨A3, n3, c3, A4, n4, c4, rfl, _, _, j1⟩
          rw [Hfew.out]
          have a0 : v1.cell? ⟨g10, 0, none⟩ = some (.slice A n ca) := (HG10.out.bl j1).cell 0
          have a1 : v1.cell? ⟨g10, 1, none⟩ = some (.slice B m cb) := (HG10.out.bl j1).cell 1
          have a2 : v1.cell? ⟨g10, 2, none⟩ = some (.slice A2 k2 c2) := (HG10.out.bl j1).cell 2
          go_wp2_with fail
          clear a0 a1 a2
          refine (bmust_any v1 (t0.bl (bl_call b4 j1 (Nat.le_refl _))) (hG.keep (Keeps.below j1)) hca hcb).mono ?_
          rintro e v2 ⟨A5, n5, c5, A6, n6, c6, rfl, _, _, k2'⟩
          obtain ⟨g, hg⟩ : ∃ g, (mustR (pickC c fun i => !bitB x i)).2.2 = g := ⟨_, rfl⟩
          have Hg := Hrest.out
          rw [hg] at Hg ⊢
          have Hg := Lib.hid Hg
          have j2 := bl_call j1 k2' (Nat.le_refl _)
          have b5 := bl_call b4 j2 (Nat.le_refl _)
          have hIr := hIr.keep IntR.good (Keeps.below j2)
          obtain ⟨lw, hlw, hlwl⟩ := Htold.out
          have Hlw := Lib.hid hlw
          have Hlwl := Lib.hid hlwl
          have a0 : v2.cell? ⟨w.heap.size, 0, none⟩ = some (.slice A n ca) := (X1.bl b5).cell 0
          have a1 : v2.cell? ⟨w.heap.size, 1, none⟩ = some (.slice B m cb) := (X1.bl b5).cell 1
          have a2 : v2.cell? ⟨w.heap.size, 2, none⟩ = some (.slice C q cc) := (X1.bl b5).cell 2
          have a3 : v2.cell? ⟨w.heap.size + 1, 0, none⟩ = some (.slice X nx cx) := (X2.bl b5).cell 0
          have a4 : v2.cell? ⟨w.heap.size + 1, 1, none⟩ = some (.slice Y ny cy) := (X2.bl b5).cell 1
          have kk17 : Hid (∀ W', Below v2.heap.size v2 W' → W'.cell? ⟨w.heap.size, 0, none⟩ = some (.slice A n ca) ∧ W'.cell? ⟨w.heap.size, 1, none⟩ = some (.slice B m cb) ∧ W'.cell? ⟨w.heap.size, 2, none⟩ = some (.slice C q cc) ∧ W'.cell? ⟨w.heap.size + 1, 0, none⟩ = some (.slice X nx cx) ∧ W'.cell? ⟨w.heap.size + 1, 1, none⟩ = some (.slice Y ny cy) ∧ Below v2.heap.size v2 W') := fun W' hb => ⟨getc hb a0, getc hb a1, getc hb a2, getc hb a3, getc hb a4, hb⟩
          clear hg hlw hlwl hF hG k2' j1 j2 ecr r2q
          go_wp2
          go_region_held3 (fun w' => w'.cell? ⟨w.heap.size, 0, none⟩ = some (.slice A n ca) ∧ w'.cell? ⟨w.heap.size, 1, none⟩ = some (.slice B m cb) ∧ w'.cell? ⟨w.heap.size, 2, none⟩ = some (.slice C q cc) ∧ w'.cell? ⟨w.heap.size + 1, 0, none⟩ = some (.slice X nx cx) ∧ w'.cell? ⟨w.heap.size + 1, 1, none⟩ = some (.slice Y ny cy) ∧ Below v2.heap.size v2 w')
            (first | exact kk17.out _ (Below.refl _ _).drew | exact kk17.out _ (Below.refl _ _) | exact kk17.out _ p3 | exact kk17.out _ p4 | exact kk17.out _ p5)
            (first | (go_at_call 38; have hh := ‹_ ∧ _ ∧ _ ∧ _ ∧ _ ∧ Below v2.heap.size v2 _›; have hp := hh.2.2.2.2.2; clear hh; refine (truth_any _ (e1.keep (Keeps.below (bl_call b5 hp (Nat.le_refl _)))) HOK.out (x1.keep U8R.good (Keeps.below (bl_call b5 hp (Nat.le_refl _))))).mono ?_; rintro e v3 ⟨T, nt, ct, rfl, hT, k3⟩; have p3 := bl_call hp k3 (Nat.le_refl _)) | (go_at_call 39; refine (told_any x _ (e1.keep (Keeps.below (bl_call b5 p3 (Nat.le_refl _)))) HOK.out hT htr (y1.keep U8R.good (Keeps.below (bl_call b5 p3 (Nat.le_refl _)))) hx0 hx9).mono ?_; rintro e v4 ⟨C', q', cq', rfl, hD, k4⟩; have p4 := bl_call p3 k4 (Nat.le_refl _)) | (go_at_call 23; refine (bwrong_any _ hD hca hcb).mono ?_; rintro e v5 ⟨A7, n7, c7, rfl, hI7, k5⟩; rw [Hlw.out] at hI7 ⊢; have p5 := bl_call p4 k5 (Nat.le_refl _)))
          rename_i hHeld
          clear hHeld
          have hn7 : (n7 : Int) ≤ mk := by have := hI7.len; have := Hlwl.out; have := Hmk.out; omega
          have hIs := hIr.keep IntR.good (Keeps.below p5)
          have hn1 := hIr.len
          have b6 := bl_call b5 p5 (Nat.le_refl _)
          have a2 : v5.cell? ⟨w.heap.size, 2, none⟩ = some (.slice C q cc) := getc p5 a2
          clear a0 a1 a3 a4 kk17
          rcases Hg.out with rfl | ⟨rfl, hgm⟩
          all_goals
            first | (have hm1 : (n1 : Int) ≤ mk := by have := Hmk.out; omega) | skip
            clear hn1
            go_wp2_with fail
            refine (ascending_any (q : Int) _ hIs).mono ?_
            rintro e v6 ⟨rfl, z6, hz6⟩
            rw [Hasc.out]
            have p6 : Below v2.heap.size v2 v6 := by rw [hz6]; exact bl_drewN p5 _
            clear hz6
            go_wp2_with fail
            refine (awake_any _ (t0.bl (bl_call b5 p6 (Nat.le_refl _)))).mono ?_
            rintro e v7 ⟨rfl, k7⟩
            go_wp2
            go_ret
            exact ⟨rfl, bl_call (bl_call hB0 (bl_call b5 p6 (Nat.le_refl _)) (Nat.le_refl _)) k7 (Nat.le_refl _)⟩
  · have hv : ((check c).2.2 == 0) = false := by have he' : (check c).2.2 ≠ 0 := he; simpa using he'
    have HM := Lib.hid (wrong_bad he)
    obtain ⟨e0, hee⟩ : ∃ e0, err c = e0 := ⟨_, rfl⟩
    rw [hee] at he HM
    have h1 : (e0 != 0) = true := by simpa using he
    clear he hee
    go_enter Tryd.func12, Tryd.ntmps12
    go_wp2_with fail
    rw [HW0.out]
    refine (bwrong_any W0 e1 hca hcb).mono ?_
    rintro e u1 ⟨A1, n1, c1, rfl, hI1, b1⟩
    rw [HM.out] at hI1 ⊢
    obtain rfl : 0 = n1 := hI1.len
    have r0 := getc b1 q0
    have r1 := getc b1 q1
    have r2 := getc b1 q2
    go_wp2_with fail
    refine (valid_any u1 (e1.keep (Keeps.below b1))).mono ?_
    rintro e u2 ⟨rfl, k2⟩
    rw [hv]
    have b2 := bl_call b1 k2 (Nat.le_refl _)
    go_wp2_with fail
    refine (awake_any _ (t0.bl b2)).mono ?_
    rintro e u4 ⟨rfl, b4⟩
    go_wp2
    go_ret
    exact ⟨rfl, bl_call (bl_call hB0 b2 (Nat.le_refl _)) b4 (Nat.le_refl _)⟩

end Go.Proofs.YtkbpmcpmcmnfgaaDoor
