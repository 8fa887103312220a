/- Walks, layer 7: the law CastTrue. -/
import Derived.Test.YtnaadjhiahjlfaaCKLaw4
import Derived.Test.YtnaadjhiahjlfaaCKOuts
import Derived.Test.YtnaadjhiahjlfaaCKStE
set_option linter.unusedVariables false
set_option linter.unusedSimpArgs false
set_option linter.all false
namespace Go.Proofs.Ytnaadjhiahjlfaa
open Go.RowKit Go.Shelf

set_option maxRecDepth 100000 in
set_option maxHeartbeats 8000000 in
theorem trueLaw7_any {A XA XB : Option Addr} {n ca xn xc xm xd : Nat} {s : Shop} {klo khi : Int} {xs ys : List Nat} (w : World) (g : Moulds (fun _ => True) w A n s.moulds) (hX : Bytes (fun _ => True) w XA xn xs) (hY : Bytes (fun _ => True) w XB xm ys) (hca : n ≤ ca) (h1 : s.klo = klo) (h2 : s.khi = khi) :
    Calls Try.prog 7 #[.agg #[.int .i64 klo, .int .i64 khi, .slice A n ca], .agg #[.slice XA xn xc, .slice XB xm xd]] w fun e w' => e = .returned (.bool true) ∧ Below w.heap.size w w' := by
  obtain ⟨W, hW⟩ : ∃ W, (w.alloc (.cells #[.int .i64 klo, .int .i64 khi, .slice A n ca] 46)).alloc (.cells #[.slice XA xn xc, .slice XB xm xd] 75) = W := ⟨_, rfl⟩
  have X : Blk W w.heap.size 46 #[.int .i64 klo, .int .i64 khi, .slice A n ca] := by rw [← hW]; exact (Blk.new _ _ _ rfl).alloc _
  have Z : Blk W (w.heap.size + 1) 75 #[.slice XA xn xc, .slice XB xm xd] := by rw [← hW]; exact Blk.new _ _ _ (by simp)
  have hBW : Below w.heap.size w W := by rw [← hW]; exact bl_alloc (bl_alloc (Below.refl _ _) _ (Nat.le_refl _)) _ (Nat.le_refl _)
  have HG : Hid (∀ V, Below W.heap.size W V → Moulds (fun _ => True) V A n s.moulds) := fun V hb => (g.keep MouldR.good (Keeps.below hBW)).keep MouldR.good (Keeps.below hb)
  have HXS : Hid (∀ V, Below W.heap.size W V → Bytes (fun _ => True) V XA xn xs) := fun V hb => (hX.keep ByteR.good (Keeps.below hBW)).keep ByteR.good (Keeps.below hb)
  have HYS : Hid (∀ V, Below W.heap.size W V → Bytes (fun _ => True) V XB xm ys) := fun V hb => (hY.keep ByteR.good (Keeps.below hBW)).keep ByteR.good (Keeps.below hb)
  have kk : Hid (∀ V, Below W.heap.size W V → V.cell? ⟨w.heap.size, 0, none⟩ = some (.int .i64 klo) ∧ V.cell? ⟨w.heap.size, 1, none⟩ = some (.int .i64 khi) ∧ V.cell? ⟨w.heap.size, 2, none⟩ = some (.slice A n ca) ∧ V.cell? ⟨w.heap.size + 1, 0, none⟩ = some (.slice XA xn xc) ∧ V.cell? ⟨w.heap.size + 1, 1, none⟩ = some (.slice XB xm xd)) :=
    fun V hb => ⟨(X.bl hb).cell 0, (X.bl hb).cell 1, (X.bl hb).cell 2, (Z.bl hb).cell 0, (Z.bl hb).cell 1⟩
  have Hn := Lib.hid g.len
  have hnl := g.le
  clear X Z g hX hY
  obtain ⟨x0, x1, x2, y0, y1⟩ := kk.out W (Below.refl _ _)
  go_enter Try.func7, Try.ntmps7
  go_wp2_with fail
  clear hW x0 x1 x2 y0 y1
  refine (valid7_any W (HG.out W (Below.refl _ _)) h1 h2).mono ?_
  rintro e V1 ⟨rfl, b1⟩
  obtain ⟨x0, x1, x2, y0, y1⟩ := kk.out V1 b1
  by_cases he : err7 s = 0
  · have heb : (err7 s == 0) = true := by rw [he]; rfl
    rw [heb]
    have HE : Hid ((check7 s).2.2 = 0) := he
    have hok := okS_of HE.out
    have HOK := Lib.hid hok
    have HTR := Lib.hid (any_truth hok xs)
    clear he heb
    go_wp2_with fail
    clear x0 x1 x2 y0 y1
    refine (any7_any V1 (HG.out V1 b1) (HXS.out V1 b1) h1 h2 hok).mono ?_
    rintro e V2 ⟨⟨T, tc, rfl, hT⟩, c2⟩
    have b2 := bl_call b1 c2 (Nat.le_refl _)
    obtain ⟨k0, hk0⟩ : ∃ x, anyS7 s xs = x := ⟨_, rfl⟩
    obtain ⟨tw, htw⟩ : ∃ x, anyT7 s xs = x := ⟨_, rfl⟩
    rw [hk0, htw] at HTR
    rw [htw] at hT
    rw [hk0, htw]
    have Htn : Hid (tw.length = n) := HTR.out.len.trans Hn.out
    rw [Htn.out] at hT
    rw [Htn.out]
    obtain ⟨gT, hgT⟩ : ∃ x, V2.heap.size = x := ⟨_, rfl⟩
    obtain ⟨V3, hV3⟩ : ∃ V, V2.alloc (.cells #[.int .i64 k0, .slice T n tc] 79) = V := ⟨_, rfl⟩
    have S3 : Blk V3 gT 79 #[.int .i64 k0, .slice T n tc] := by rw [← hV3]; exact Blk.new _ _ _ hgT.symm
    have b3 : Below W.heap.size W V3 := by rw [← hV3]; exact bl_alloc b2 _ (Nat.le_refl _)
    have hT3 : Pairs (fun _ => True) V3 T n tw := by rw [← hV3]; exact (hT.keep PairR.good (Keeps.alloc _ _)).mono PairR.good (fun _ _ => trivial)
    obtain ⟨x0, x1, x2, y0, y1⟩ := kk.out V3 b3
    have s0 := S3.cell 0
    have s1 := S3.cell 1
    clear hk0 htw hT c2
    go_wp2_with fail
    clear x0 x1 x2 y0 y1 s0 s1 hV3 hgT
    have HBD := Lib.hid (truth_bd hok HTR.out)
    have HKB := Lib.hid (truth_k hok HTR.out)
    refine (told7_any V3 (HG.out V3 b3) (HYS.out V3 b3) hT3 hok Hn.out.symm HBD.out HKB.out).mono ?_
    rintro e V4 ⟨⟨C, cc, rfl, hS⟩, c4⟩
    have b4 := bl_call b3 c4 (Nat.le_refl _)
    obtain ⟨l, hl⟩ : ∃ x, toldL7 s k0 tw ys = x := ⟨_, rfl⟩
    have HSI : Hid (∀ y ∈ l, SeenIn s k0 tw y) := by rw [← hl]; exact toldL_seen hok HTR.out ys
    have HL6 : Hid (l.length ≤ 6) := by rw [← hl]; exact toldL_len _ _ _ _
    rw [hl] at hS
    rw [hl]
    obtain ⟨q, hq⟩ : ∃ x, l.length = x := ⟨_, rfl⟩
    rw [hq] at hS
    rw [hq]
    have HSN : Hid (seen7 s l = (0, 0)) := seen_ok HE.out HL6.out HSI.out
    have hs0 : (seen7 s l).2 = 0 := by rw [HSN.out]
    have hkn := truth_known hok HTR.out HSI.out
    have hne := List.ne_nil_of_mem hkn
    have HS : Hid (∀ V, Below V4.heap.size V4 V → SeenCs (fun _ => True) V C q l) := fun V hb => (hS.keep SeenCR.good (Keeps.below hb)).mono SeenCR.good (fun _ _ => trivial)
    have HTV : Hid (∀ V, Below V4.heap.size V4 V → Pairs (fun _ => True) V T n tw) := fun V hb => hT3.keep PairR.good (Keeps.below (bl_call c4 hb (Nat.le_refl _)))
    have S4 := Lib.hid (S3.bl c4)
    have HKN := Lib.hid hkn
    have HB4 := Lib.hid b4
    have HSH := Lib.hid (shrinksR_n hs0 hne)
    have HSZ : Hid (∀ m c : Nat, m < n → c < castsN s m → sizesR s l m c = (size7 s l m c, 0) ∧ (size7 s l m c).1 ≤ madeT k0 tw m c ∧ madeT k0 tw m c ≤ (size7 s l m c).2) := fun m c hm hc => by
      rw [← Hn.out] at hm
      exact ⟨sizesR_in hs0 hok hm hc hne, truth_size hok HTR.out HSI.out hm c⟩
    clear hl hq hS hT3 S3 c4 hs0 hkn hne b3 b4 b2 b1
    obtain ⟨x0, x1, x2, y0, y1⟩ := kk.out V4 HB4.out
    go_wp2_with fail
    clear x0 x1 x2 y0 y1
    refine (kshrinks_any V4 (HG.out V4 HB4.out) (HS.out V4 (Below.refl _ _)) hca h1 h2).mono ?_
    rw [HSH.out]
    rintro e V5 ⟨⟨D, dm, dk, rfl, hD⟩, c5⟩
    have s0 := (S4.out.bl c5).cell 0
    go_wp2_with fail
    refine (has_any k0 V5 hD).mono ?_
    rintro e V5' ⟨rfl, rfl⟩
    rw [decide_eq_true HKN.out]
    have b5 := bl_call HB4.out c5 (Nat.le_refl _)
    have H45 : Hid (Below V4.heap.size V4 V5) := c5
    have HB5 := Lib.hid b5
    obtain ⟨x0, x1, x2, y0, y1⟩ := kk.out V5 b5
    clear hD s0 c5 b5 x0 x1 x2 y0 y1
    go_wp2_with fail
    go_loopw [11] (fun i wr => ∃ m : Nat, m ≤ n ∧ i = .int .i64 m ∧ Hid (Below V5.heap.size V5 wr)) (fun i _ => n - (intOf i).toNat)
    case atStart => exact ⟨0, Nat.zero_le _, rfl, Below.refl _ _⟩
    case round =>
      obtain ⟨m, hmn, rfl, HBm⟩ := hrel
      have b6 := bl_call HB5.out HBm.out (Nat.le_refl _)
      obtain ⟨x0, x1, x2, y0, y1⟩ := kk.out wr b6
      by_cases hlt : m < n
      · have hmi : (m : Int) < n := by omega
        go_wp2_with fail
        clear x0 x1 x2 y0 y1
        obtain ⟨Wm, hWm⟩ : ∃ Wm : World, Wm = wr := ⟨_, rfl⟩
        subst hWm
        go_loopw [12] (fun i wr => ∃ c : Nat, c ≤ castsN s m ∧ i = .int .i64 c ∧ Hid (Below Wm.heap.size Wm wr)) (fun i _ => castsN s m - (intOf i).toNat)
        case atStart => exact ⟨0, Nat.zero_le _, rfl, Below.refl _ _⟩
        case round =>
          obtain ⟨c, hcn, rfl, HBc⟩ := hrel
          have b7 := bl_call b6 HBc.out (Nat.le_refl _)
          obtain ⟨x0, x1, x2, y0, y1⟩ := kk.out wr b7
          obtain ⟨bM, oM, sn, ma, mz, my, mu, ct, hAe, hbM, e0, e1, e2, e3, e4, e5, hss, HxM⟩ := Moulds.get (HG.out wr b7) hlt
          subst hAe
          have hcs := castsN_bd HOK.out (m := m) (by rw [Hn.out]; exact hlt)
          rw [getD_of HxM.out] at hcs
          dsimp only at hcs
          obtain ⟨hcs1, hcs8, hcsE⟩ := hcs
          clear hss hbM e0 e1 e2 e3 e4
          by_cases hlt2 : c < castsN s m
          · have hci : (c : Int) < ct := by omega
            have hc8 : c ≤ 8 := by omega
            obtain ⟨hsz1, hsz2, hsz3⟩ := HSZ.out m c hlt hlt2
            obtain ⟨lo, hi, hlh⟩ : ∃ lo hi, size7 s l m (c : Int) = (lo, hi) := ⟨_, _, rfl⟩
            rw [hlh] at hsz1 hsz2 hsz3
            obtain ⟨nn, hnn⟩ : ∃ x, madeT k0 tw m c = x := ⟨_, rfl⟩
            rw [hnn] at hsz2 hsz3
            dsimp only at hsz2 hsz3
            have HSR := Lib.hid hsz1
            have b54 : Below V4.heap.size V4 wr := bl_call H45.out (bl_call HBm.out HBc.out (Nat.le_refl _)) (Nat.le_refl _)
            have HCM : Hid (∀ V, Below wr.heap.size wr V → Calls Try.prog 40 #[.agg #[.int .i64 k0, .slice T n tc], .agg #[.int .i64 m, .int .i64 c]] V fun e w' => e = .returned (.int .i64 nn) ∧ Below V.heap.size V w') := fun V hb => by
              have hmt : m < tw.length := by rw [Htn.out]; exact hlt
              have hx : tw[m]? = some (tw[m]) := List.getElem?_eq_getElem hmt
              obtain ⟨p1, p2⟩ := HBD.out _ (List.getElem_mem hmt)
              have := lmade7_any (tc := tc) (c := c) V (HTV.out V (bl_call b54 hb (Nat.le_refl _))) (a := (tw[m]).1) (v := (tw[m]).2) hx p1 p2 hc8 HKB.out
              rw [show made7 (tw[m]).1 (tw[m]).2 (c : Int) k0 = nn by rw [← hnn, madeT, getD_of hx]] at this
              exact this
            have HCZ : Hid (∀ V, Below wr.heap.size wr V → Calls Try.prog 21 #[.agg #[.int .i64 klo, .int .i64 khi, .slice (some ⟨bM, oM, none⟩) n ca], .slice C q cc, .agg #[.int .i64 m, .int .i64 c]] V fun e w' => e = .returned (.tuple #[.agg #[.int .i64 lo, .int .i64 hi], .int .i64 0]) ∧ Below V.heap.size V w') := fun V hb => by
              have := ksizes_any (cc := cc) (m : Int) (c : Int) V (HG.out V (bl_call b7 hb (Nat.le_refl _))) (HS.out V (bl_call b54 hb (Nat.le_refl _))) hca h1 h2
              rw [HSR.out] at this
              exact this
            have ks : Hid (∀ V, Below wr.heap.size wr V → V.cell? ⟨gT, 0, none⟩ = some (.int .i64 k0) ∧ V.cell? ⟨gT, 1, none⟩ = some (.slice T n tc)) := fun V hb => ⟨(S4.out.bl (bl_call b54 hb (Nat.le_refl _))).cell 0, (S4.out.bl (bl_call b54 hb (Nat.le_refl _))).cell 1⟩
            have HB7 := Lib.hid b7
            have H54 := Lib.hid b54
            clear hlh hnn b54 b7 b6 hsz1
            go_wp2_with fail
            clear x0 x1 x2 y0 y1 e5
            have hle1 : ¬ nn < lo := by omega
            have hle2 : ¬ hi < nn := by omega
            obtain ⟨Wc, hWc⟩ : ∃ V, V = wr := ⟨_, rfl⟩
            subst hWc
            have AS := Lib.hid (stE_stab Wc.heap.size 23 (#[.int .i64 0, .int .i64 0]) (#[.int .i64 lo, .int .i64 hi]) [.agg #[.int .i64 klo, .int .i64 khi, .slice (some ⟨bM, oM, none⟩) n ca], .slice C q cc, .int .i64 (m : Int), .int .i64 (c : Int), .agg #[.int .i64 (m : Int), .int .i64 (c : Int)], .tuple #[.agg #[.int .i64 lo, .int .i64 hi], .int .i64 0], .tuple #[.agg #[.int .i64 lo, .int .i64 hi], .int .i64 0], .agg #[.int .i64 lo, .int .i64 hi], .int .i64 0] 9)
            refine wp_region_invs (InvE Wc.heap.size Wc (stE Wc.heap.size 23 (#[.int .i64 0, .int .i64 0]) (#[.int .i64 lo, .int .i64 hi]) [.agg #[.int .i64 klo, .int .i64 khi, .slice (some ⟨bM, oM, none⟩) n ca], .slice C q cc, .int .i64 (m : Int), .int .i64 (c : Int), .agg #[.int .i64 (m : Int), .int .i64 (c : Int)], .tuple #[.agg #[.int .i64 lo, .int .i64 hi], .int .i64 0], .tuple #[.agg #[.int .i64 lo, .int .i64 hi], .int .i64 0], .agg #[.int .i64 lo, .int .i64 hi], .int .i64 0] 9) 10) 11 (by kernel_rfl) (by kernel_rfl) (by kernel_rfl) (by rfl) ⟨(Below.refl _ _).drew, fun i h => by cases h⟩ ?stepA (by rfl) (by rfl) ?finA
            case stepA =>
              refine StepsI.cons ?_ (StepsI.cons ?_ (StepsI.cons ?_ (StepsI.cons ?_ (StepsI.cons ?_ (StepsI.cons ?_ (StepsI.cons ?_ (StepsI.cons ?_ (StepsI.cons ?_ (StepsI.cons ?_ (StepsI.cons ?_ StepsI.nil))))))))))
              all_goals
                refine StepI.of ?_
                intro ls vs W K hI hl hw hU hK
                simp only [fillA, Act.put, List.setIfInBounds_toArray, List.set_cons_zero, List.set_cons_succ, Nat.zero_add, Nat.reduceAdd] at hK ⊢
                simp [waits, Region.binds] at hw
                have hC := hI.1
              · -- 0
                obtain ⟨k0c, k1c, k2c, k3c, k4c⟩ := kk.out W (bl_call HB7.out hC (Nat.le_refl _))
                go_simp
                exact hK _ _ (hI.step AS.out (Below.refl _ _) hC.size (by decide) (stE_put (by decide) rfl))
              · -- 1
                go_simp
                exact hK _ _ (hI.step AS.out (Below.refl _ _) hC.size (by decide) (stE_put (by decide) rfl))
              · -- 2
                go_simp
                exact hK _ _ (hI.step AS.out (Below.refl _ _) hC.size (by decide) (stE_put (by decide) rfl))
              · -- 3
                go_simp
                exact hK _ _ (hI.step AS.out (Below.refl _ _) hC.size (by decide) (stE_put (by decide) rfl))
              · -- 4
                have q2 : vs 2 = .int .i64 (m : Int) := stE_get (hI.2 2 (by simp [hw])) (by decide) rfl
                have q3 : vs 3 = .int .i64 (c : Int) := stE_get (hI.2 3 (by simp [hw])) (by decide) rfl
                simp only [q2, q3] at hK ⊢
                go_simp
                refine (at7_any (m : Int) (c : Int) W).mono ?_
                rintro e w' ⟨rfl, hb⟩
                exact hK _ _ (hI.step AS.out hb hC.size (by decide) (stE_put (by decide) rfl))
              · -- 5
                have q0 : vs 0 = .agg #[.int .i64 klo, .int .i64 khi, .slice (some ⟨bM, oM, none⟩) n ca] := stE_get (hI.2 0 (by simp [hw])) (by decide) rfl
                have q1 : vs 1 = .slice C q cc := stE_get (hI.2 1 (by simp [hw])) (by decide) rfl
                have q4 : vs 4 = .agg #[.int .i64 (m : Int), .int .i64 (c : Int)] := stE_get (hI.2 4 (by simp [hw])) (by decide) rfl
                simp only [q0, q1, q4] at hK ⊢
                go_simp
                refine (HCZ.out W hC).mono ?_
                rintro e w' ⟨rfl, hb⟩
                exact hK _ _ (hI.step AS.out hb hC.size (by decide) (stE_put (by decide) rfl))
              · -- 6
                have q5 : vs 5 = .tuple #[.agg #[.int .i64 lo, .int .i64 hi], .int .i64 0] := stE_get (hI.2 5 (by simp [hw])) (by decide) rfl
                simp only [q5] at hK ⊢
                go_simp
                exact hK _ _ (hI.step AS.out (Below.refl _ _) hC.size (by decide) (stE_put (by decide) rfl))
              · -- 7
                have q6 : vs 6 = .tuple #[.agg #[.int .i64 lo, .int .i64 hi], .int .i64 0] := stE_get (hI.2 6 (by simp [hw])) (by decide) rfl
                simp only [q6] at hK ⊢
                go_simp
                exact hK _ _ (hI.step AS.out (Below.refl _ _) hC.size (by decide) (stE_put (by decide) rfl))
              · -- 8
                have q6 : vs 6 = .tuple #[.agg #[.int .i64 lo, .int .i64 hi], .int .i64 0] := stE_get (hI.2 6 (by simp [hw])) (by decide) rfl
                simp only [q6] at hK ⊢
                go_simp
                exact hK _ _ (hI.step AS.out (Below.refl _ _) hC.size (by decide) (stE_put (by decide) rfl))
              · -- 9
                have h8 : ls 10 = false := (hU 10 _ rfl (by simp [waits, Region.binds])).1
                go_simp
                exact hK _ _ (hI.step AS.out (bl_alloc (Below.refl _ _) _ (Nat.le_refl _)) hC.size (by decide) (stE_new hC.size h8))
              · -- 10
                have q : vs 7 = .agg #[.int .i64 lo, .int .i64 hi] := stE_get (hI.2 7 (by simp [hw])) (by decide) rfl
                obtain ⟨g4, hg4, h4, hB4⟩ := stE_at (hI.2 9 (by simp [hw]))
                rw [hl] at hB4
                replace hB4 : Blk W g4 23 (#[.int .i64 0, .int .i64 0]) := hB4
                have z0 := hB4.cell 0
                have z1 := hB4.cell 1
                have fz0 := hB4.frozen 0
                have fz1 := hB4.frozen 1
                have hl4 := hB4.lt
                simp only [q, h4] at hK ⊢
                go_simp
                exact hK undef _ (stE_store hI (bl_set (bl_set (Below.refl _ _) hg4 _) hg4 _) h4 hg4 (hB4.set2 _ _))
            case finA =>
              intro ls vs W hI hl hU
              have e6 : vs 8 = .int .i64 0 := stE_get (hI.2 8 (hl 8 (by decide))) (by decide) rfl
              have h4 := stE_at (hI.2 9 (hl 9 (by decide)))
              rw [hl 10 (by decide)] at h4
              have b4 := hI.1
              simp only [fillA, Act.put, List.setIfInBounds_toArray, List.set_cons_zero, List.set_cons_succ, Nat.zero_add, Nat.reduceAdd, e6]
              obtain ⟨gZ, hg4, h4, hB4⟩ := h4
              rw [h4]
              have SgZ : Hid (Blk W gZ 23 (#[.int .i64 lo, .int .i64 hi])) := hB4
              obtain ⟨u0, hu0⟩ : ∃ v0, vs 0 = v0 := ⟨_, rfl⟩
              obtain ⟨u1, hu1⟩ : ∃ v0, vs 1 = v0 := ⟨_, rfl⟩
              obtain ⟨u2, hu2⟩ : ∃ v0, vs 2 = v0 := ⟨_, rfl⟩
              obtain ⟨u3, hu3⟩ : ∃ v0, vs 3 = v0 := ⟨_, rfl⟩
              obtain ⟨u4, hu4⟩ : ∃ v0, vs 4 = v0 := ⟨_, rfl⟩
              obtain ⟨u5, hu5⟩ : ∃ v0, vs 5 = v0 := ⟨_, rfl⟩
              obtain ⟨u6, hu6⟩ : ∃ v0, vs 6 = v0 := ⟨_, rfl⟩
              obtain ⟨u7, hu7⟩ : ∃ v0, vs 7 = v0 := ⟨_, rfl⟩
              rw [hu0, hu1, hu2, hu3, hu4, hu5, hu6, hu7]
              clear hu0 hu1 hu2 hu3 hu4 hu5 hu6 hu7
              clear hI hl hU e6 h4 hB4 AS
              have HD2 : Hid (Below Wc.heap.size Wc W) := b4
              clear b4 hg4
              obtain ⟨Wd, hWd⟩ : ∃ V, V = W := ⟨_, rfl⟩
              subst hWd
              go_simp
              go_wp2_with fail
              refine wp_frameT ?_
              intro a0 ha0
              have tb7 : a0.tmps[7]? = some (.pointer (some ⟨gT, 0, none⟩)) := by rw [ha0]; kernel_rfl
              have tb11 : a0.tmps[11]? = some (.int .i64 (m : Int)) := by rw [ha0]; kernel_rfl
              have tb12 : a0.tmps[12]? = some (.int .i64 (c : Int)) := by rw [ha0]; kernel_rfl
              have hsz : a0.tmps.size = 99 := by rw [ha0]; kernel_rfl
              refine wp_region_list (fun W => Below Wd.heap.size Wd W) (fun w w' => Below w.heap.size w w')
                [isV (.agg #[.int .i64 k0, .slice T n tc]), isV (.int .i64 (m : Int)), isV (.int .i64 (c : Int)), isV (.agg #[.int .i64 (m : Int), .int .i64 (c : Int)]), isV (.int .i64 nn)]
                (by kernel_rfl) (by kernel_rfl) (by kernel_rfl) (by simp) (by simp) (Below.refl _ _).drew ?stabB ?stepB ?finB
              case stabB => exact (StabL.is (StabL.is (StabL.is (StabL.is (StabL.is StabL.nil)))))
              case stepB =>
                refine StepsL.isA ?_ (StepsL.isA ?_ (StepsL.isA ?_ (StepsL.isA ?_ (StepsL.isA ?_ StepsL.nil))))
                · -- 0
                  intro vs a W K ha hC hD hU hK
                  have r7 : a.tmps[7]? = some (.pointer (some ⟨gT, 0, none⟩)) := by rw [ha, fillA_base0 (by kernel_rfl)]; exact tb7
                  clear ha hU hD ha0
                  rw [if_pos (by rfl)]
                  obtain ⟨kt0, kt1⟩ := ks.out W (bl_call HD2.out hC (Nat.le_refl _))
                  go_simp
                  exact hK _ hC (Below.refl _ _)
                · -- 1
                  intro vs a W K ha hC hD hU hK
                  have r11 : a.tmps[11]? = some (.int .i64 (m : Int)) := by rw [ha, fillA_base0 (by kernel_rfl)]; exact tb11
                  clear ha hU hD ha0
                  rw [if_pos (by rfl)]
                  go_simp
                  exact hK _ hC (Below.refl _ _)
                · -- 2
                  intro vs a W K ha hC hD hU hK
                  have r12 : a.tmps[12]? = some (.int .i64 (c : Int)) := by rw [ha, fillA_base0 (by kernel_rfl)]; exact tb12
                  clear ha hU hD ha0
                  rw [if_pos (by rfl)]
                  go_simp
                  exact hK _ hC (Below.refl _ _)
                · -- 3
                  intro vs a W K ha hC hD hU hK
                  have r80 : a.tmps[80]? = some (vs 1) := by rw [ha]; exact fillA_get0 (j := 1) (by kernel_rfl) (by rw [hsz]; decide)
                  have q1 : vs 1 = .int .i64 (m : Int) := hD 1 (by simp [waits, Region.binds])
                  rw [q1] at r80
                  have r81 : a.tmps[81]? = some (vs 2) := by rw [ha]; exact fillA_get0 (j := 2) (by kernel_rfl) (by rw [hsz]; decide)
                  have q2 : vs 2 = .int .i64 (c : Int) := hD 2 (by simp [waits, Region.binds])
                  rw [q2] at r81
                  clear ha hU hD ha0
                  rw [if_pos (by rfl)]
                  go_simp
                  refine (at7_any (m : Int) (c : Int) W).mono ?_
                  rintro e w' ⟨rfl, hb⟩
                  exact hK _ (bl_call hC hb (Nat.le_refl _)) hb
                · -- 4
                  intro vs a W K ha hC hD hU hK
                  have r79 : a.tmps[79]? = some (vs 0) := by rw [ha]; exact fillA_get0 (j := 0) (by kernel_rfl) (by rw [hsz]; decide)
                  have q0 : vs 0 = .agg #[.int .i64 k0, .slice T n tc] := hD 0 (by simp [waits, Region.binds])
                  rw [q0] at r79
                  have r82 : a.tmps[82]? = some (vs 3) := by rw [ha]; exact fillA_get0 (j := 3) (by kernel_rfl) (by rw [hsz]; decide)
                  have q3 : vs 3 = .agg #[.int .i64 (m : Int), .int .i64 (c : Int)] := hD 3 (by simp [waits, Region.binds])
                  rw [q3] at r82
                  clear ha hU hD ha0
                  rw [if_pos (by rfl)]
                  go_simp
                  refine (HCM.out W (bl_call HD2.out hC (Nat.le_refl _))).mono ?_
                  rintro e w' ⟨rfl, hb⟩
                  exact hK _ (bl_call hC hb (Nat.le_refl _)) hb
              case finB =>
                intro vs W hC hE hU
                rw [ha0]
                clear hU hsz tb7 tb11 tb12
                have e4 : vs 4 = .int .i64 nn := hE 4 (by simp)
                simp only [fillA, Act.put, List.setIfInBounds_toArray, List.set_cons_zero, List.set_cons_succ, Nat.zero_add, Nat.reduceAdd, e4]
                obtain ⟨u0, hu0⟩ : ∃ v0, vs 0 = v0 := ⟨_, rfl⟩
                obtain ⟨u1, hu1⟩ : ∃ v0, vs 1 = v0 := ⟨_, rfl⟩
                obtain ⟨u2, hu2⟩ : ∃ v0, vs 2 = v0 := ⟨_, rfl⟩
                obtain ⟨u3, hu3⟩ : ∃ v0, vs 3 = v0 := ⟨_, rfl⟩
                rw [hu0, hu1, hu2, hu3]
                clear hu0 hu1 hu2 hu3
                clear hE e4
                have HSZ2 := SgZ.out.bl hC
                have z0 := HSZ2.cell 0
                have z1 := HSZ2.cell 1
                have HDE : Hid (Below Wm.heap.size Wm W) := bl_call HBc.out (bl_call HD2.out hC (Nat.le_refl _)) (Nat.le_refl _)
                clear hC HSZ2
                go_simp
                go_wp2_with fail
                go_roundw
                case rel => exact ⟨c + 1, by omega, by go_num, HDE.out⟩
                case measure => simp [intOf]; omega
          · obtain rfl : c = castsN s m := by omega
            have hci : ¬ ((castsN s m : Nat) : Int) < ct := by omega
            go_wp2_with fail
            go_roundw
            case rel => exact ⟨m + 1, by omega, by go_num, bl_call HBm.out HBc.out (Nat.le_refl _)⟩
            case measure => simp [intOf]; omega
      · obtain rfl : m = n := by omega
        have hmi : ¬ (m : Int) < m := by omega
        go_wp2_with fail
        clear x0 x1 x2 y0 y1
        refine (awake7_any wr).mono ?_
        rintro e V9 ⟨rfl, c9⟩
        have b9 := bl_call hBW (bl_call b6 c9 (Nat.le_refl _)) (Nat.le_refl _)
        clear b6 c9
        go_wp2
        go_ret
        exact ⟨by rfl, b9⟩
  · have heb : (err7 s == 0) = false := by simpa using he
    rw [heb]
    have HR := Lib.hid (shrinksR_bad (s := s) (l := []) (by rw [seen7_bad he]; exact he))
    have HR2 : Hid ((seen7 s []).2 ≠ 0) := by rw [Hid, seen7_bad he]; exact he
    clear he heb
    go_wp2_with fail
    clear x0 x1 x2 y0 y1
    refine (kshrinks_any (l := []) V1 (HG.out V1 b1) (SliceOf.nil _ _ _ _ _) hca h1 h2).mono ?_
    rw [HR.out]
    rintro e V2 ⟨⟨D, dm, dk, rfl, hD⟩, c2⟩
    obtain ⟨ev, hev⟩ : ∃ x, (seen7 s []).2 = x := ⟨_, rfl⟩
    have hvb : (ev != 0) = true := by rw [← hev]; simpa using HR2.out
    rw [hev]
    have b2 := bl_call b1 c2 (Nat.le_refl _)
    clear hev hD c2 b1
    go_wp2_with fail
    refine (awake7_any V2).mono ?_
    rintro e V3 ⟨rfl, c3⟩
    have b3 := bl_call hBW (bl_call b2 c3 (Nat.le_refl _)) (Nat.le_refl _)
    go_wp2
    go_ret
    exact ⟨by rfl, b3⟩
end Go.Proofs.Ytnaadjhiahjlfaa
