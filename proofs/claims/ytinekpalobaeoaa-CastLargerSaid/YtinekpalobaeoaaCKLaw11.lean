/- Walks, layer 7: the law CastLarger. -/
import Derived.Test.YtinekpalobaeoaaCKLarP
import Derived.Test.YtinekpalobaeoaaCKLaw4
import Derived.Test.YtinekpalobaeoaaCKRefs2
import Derived.Test.YtinekpalobaeoaaCKStE
set_option linter.unusedVariables false
set_option linter.unusedSimpArgs false
set_option linter.all false
namespace Go.Proofs.Ytinekpalobaeoaa
open Go.RowKit Go.Shelf

set_option maxRecDepth 100000 in
set_option maxHeartbeats 8000000 in
theorem largerLaw_any {A C : Option Addr} {n ca q cc j0 j1 j2 : Nat} {s : Shop} {l : List SeenC} {klo khi : Int} (pa pz : Int) (w : World) (g : Moulds (fun _ => True) w A n s.moulds) (gs : SeenCs (fun _ => True) w C q l) (hj0 : j0 < 256) (hj1 : j1 < 256) (hj2 : j2 < 256) (hca : n ≤ ca) (h1 : s.klo = klo) (h2 : s.khi = khi) :
    Calls Try.prog 4 #[.agg #[.int .i64 klo, .int .i64 khi, .slice A n ca], .slice C q cc, .agg #[.int .i64 pa, .int .i64 pz, .int .u8 j0, .int .u8 j1, .int .u8 j2]] w fun e w' => e = .returned (.bool true) ∧ Below w.heap.size w w' := by
  obtain ⟨WW, hW⟩ : ∃ W, (w.alloc (.cells #[.int .i64 klo, .int .i64 khi, .slice A n ca] 26)).alloc (.cells #[.int .i64 pa, .int .i64 pz, .int .u8 j0, .int .u8 j1, .int .u8 j2] 61) = W := ⟨_, rfl⟩
  have X : Blk WW w.heap.size 26 #[.int .i64 klo, .int .i64 khi, .slice A n ca] := by rw [← hW]; exact (Blk.new _ _ _ rfl).alloc _
  have Z : Blk WW (w.heap.size + 1) 61 #[.int .i64 pa, .int .i64 pz, .int .u8 j0, .int .u8 j1, .int .u8 j2] := by rw [← hW]; exact Blk.new _ _ _ (by simp)
  have hBW : Below w.heap.size w WW := by rw [← hW]; exact bl_alloc (bl_alloc (Below.refl _ _) _ (Nat.le_refl _)) _ (Nat.le_refl _)
  have HG : Hid (∀ V, Below WW.heap.size WW V → Moulds (fun _ => True) V A n s.moulds) := fun V hb => (g.keep MouldR.good (Keeps.below hBW)).keep MouldR.good (Keeps.below hb)
  have HS : Hid (∀ V, Below WW.heap.size WW V → SeenCs (fun _ => True) V C q l) := fun V hb => (gs.keep SeenCR.good (Keeps.below hBW)).keep SeenCR.good (Keeps.below hb)
  have kk : Hid (∀ V, Below WW.heap.size WW V → V.cell? ⟨w.heap.size, 0, none⟩ = some (.int .i64 klo) ∧ V.cell? ⟨w.heap.size, 1, none⟩ = some (.int .i64 khi) ∧ V.cell? ⟨w.heap.size, 2, none⟩ = some (.slice A n ca) ∧ V.cell? ⟨w.heap.size + 1, 0, none⟩ = some (.int .i64 pa) ∧ V.cell? ⟨w.heap.size + 1, 1, none⟩ = some (.int .i64 pz) ∧ V.cell? ⟨w.heap.size + 1, 2, none⟩ = some (.int .u8 j0) ∧ V.cell? ⟨w.heap.size + 1, 3, none⟩ = some (.int .u8 j1) ∧ V.cell? ⟨w.heap.size + 1, 4, none⟩ = some (.int .u8 j2)) :=
    fun V hb => ⟨(X.bl hb).cell 0, (X.bl hb).cell 1, (X.bl hb).cell 2, (Z.bl hb).cell 0, (Z.bl hb).cell 1, (Z.bl hb).cell 2, (Z.bl hb).cell 3, (Z.bl hb).cell 4⟩
  have Hn := Lib.hid g.len
  have hnl := g.le
  clear X Z g gs
  obtain ⟨x0, x1, x2, y0, y1, y2, y3, y4⟩ := kk.out WW (Below.refl _ _)
  go_enter Try.func4, Try.ntmps4
  go_wp2_with fail
  clear hW x0 x1 x2 y0 y1 y2 y3 y4
  refine (good7_any WW (HG.out WW (Below.refl _ _)) (HS.out WW (Below.refl _ _)) h1 h2).mono ?_
  rintro e V1 ⟨rfl, b1⟩
  obtain ⟨x0, x1, x2, y0, y1, y2, y3, y4⟩ := kk.out V1 b1
  by_cases he : (seen7 s l).2 = 0
  · have heb : ((seen7 s l).2 == 0) = true := by rw [he]; rfl
    rw [heb]
    have HE := Lib.hid he
    have hall := seen7_all he
    have HOK := Lib.hid hall.1
    have hn4 : n ≤ 4 := by have := hall.1.nm; rw [Hn.out] at this; exact this.2
    have hn1 : 1 ≤ n := by have := hall.1.nm; rw [Hn.out] at this; exact this.1
    clear he heb hall
    go_wp2_with fail
    clear x0 x1 x2 y0 y1 y2 y3 y4
    refine (range_any pa pz 0 20000 V1).mono ?_
    rintro e V2 ⟨rfl, c2⟩
    have b2 := bl_call b1 c2 (Nat.le_refl _)
    obtain ⟨x0, x1, x2, y0, y1, y2, y3, y4⟩ := kk.out V2 b2
    obtain ⟨er, her⟩ : ∃ x, rangeE ⟨pa, pz⟩ 0 20000 = x := ⟨_, rfl⟩
    rw [her]
    clear b1 c2
    by_cases hr : er = 0
    · have HR : Hid (rangeE ⟨pa, pz⟩ 0 20000 = 0) := her.trans hr
      subst hr
      have hrb := rangeE_ok HR.out
      clear her
      obtain ⟨m, hm⟩ : ∃ m, j0 % n = m := ⟨_, rfl⟩
      have hmn : m < n := by rw [← hm]; exact Nat.mod_lt _ (by omega)
      have ht0 : ((j0 : Int)).tmod (n : Int) = (m : Int) := by rw [Int.tmod_eq_emod_of_nonneg (by omega), ← hm]; rfl
      have cv0 : IntKind.i64.wrap (j0 : Int) = j0 := by rw [IntKind.wrap_i64]; omega
      have cv1 : IntKind.i64.wrap (j1 : Int) = j1 := by rw [IntKind.wrap_i64]; omega
      have cv2 : IntKind.i64.wrap (j2 : Int) = j2 := by rw [IntKind.wrap_i64]; omega
      have cm0 : IntKind.i64.wrap (m : Int) = m := by rw [IntKind.wrap_i64]; omega
      have hdz : ¬ (n : Int) = 0 := by omega
      have hdn : ¬ n = 0 := by omega
      have hdz2 : ((n : Int) == 0) = false := by simp; omega
      have HB2 := Lib.hid b2
      clear hm b2
      go_wp2_with fail
      clear x0 x1 x2 y0 y1 y2 y3 y4 ht0 cv0 cm0 hdz hdz2 hdn
      go_loopw [8] (fun i wr => ∃ c : Nat, c + 1 ≤ castsN s m ∧ i = .int .i64 ((c + 1 : Nat) : Int) ∧ Hid (Below V2.heap.size V2 wr)) (fun i _ => castsN s m - (intOf i).toNat)
      case atStart => exact ⟨0, by have := castsN_bd HOK.out (m := m) (by rw [Hn.out]; exact hmn); omega, rfl, Below.refl _ _⟩
      case round =>
        obtain ⟨c, hcn, rfl, HBc⟩ := hrel
        have b7 := bl_call HB2.out HBc.out (Nat.le_refl _)
        obtain ⟨bM, oM, sn, ma, mz, my, mu, ct, hAe, hbM, e0, e1, e2, e3, e4, e5, hss, HxM⟩ := Moulds.get (HG.out wr b7) hmn
        subst hAe
        have hcs := castsN_bd HOK.out (m := m) (by rw [Hn.out]; exact hmn)
        rw [getD_of HxM.out] at hcs
        dsimp only at hcs
        obtain ⟨hcs1, hcs8, hcsE⟩ := hcs
        obtain ⟨x0, x1, x2, y0, y1, y2, y3, y4⟩ := kk.out wr b7
        have hmi : (m : Int) < n := by omega
        obtain ⟨c1, hc1⟩ : ∃ c1 : Nat, c + 1 = c1 := ⟨_, rfl⟩
        have HC1 := Lib.hid hc1
        rw [hc1] at hcn ⊢
        have HB7 := Lib.hid b7
        clear hss hbM e0 e1 e2 e3 e4
        by_cases hlt : c1 < castsN s m
        · have hci : (c1 : Int) < ct := by omega
          obtain ⟨sa, sb, ta, tb, ev, hs1, hs2, hab, hbb⟩ := larger_sizes HE.out HOK.out (m := m) (c := c) (by rw [Hn.out]; exact hmn) (by omega)
          rw [hc1] at hs2
          have HS1 := Lib.hid hs1
          have HS2 := Lib.hid hs2
          have hwc : IntKind.i64.wrap ((c1 : Int) - 1) = (c : Int) := by rw [IntKind.wrap_i64]; omega
          have hl1 : ¬ ta < sa := by omega
          have hl2 : ¬ tb < sb := by omega
          have HZ1 : Hid (∀ V, Below wr.heap.size wr V → Calls Try.prog 12 #[.agg #[.int .i64 klo, .int .i64 khi, .slice (some ⟨bM, oM, none⟩) n ca], .slice C q cc, .agg #[.int .i64 m, .int .i64 c]] V fun e w' => e = .returned (.tuple #[.agg #[.int .i64 sa, .int .i64 sb], .int .i64 ev]) ∧ Below V.heap.size V w') := fun V hb => by
            have := ksizes_any (cc := cc) (m : Int) (c : Int) V (HG.out V (bl_call HB7.out hb (Nat.le_refl _))) (HS.out V (bl_call HB7.out hb (Nat.le_refl _))) hca h1 h2
            rw [HS1.out] at this
            exact this
          have HZ2 : Hid (∀ V, Below wr.heap.size wr V → Calls Try.prog 12 #[.agg #[.int .i64 klo, .int .i64 khi, .slice (some ⟨bM, oM, none⟩) n ca], .slice C q cc, .agg #[.int .i64 m, .int .i64 c1]] V fun e w' => e = .returned (.tuple #[.agg #[.int .i64 ta, .int .i64 tb], .int .i64 ev]) ∧ Below V.heap.size V w') := fun V hb => by
            have := ksizes_any (cc := cc) (m : Int) (c1 : Int) V (HG.out V (bl_call HB7.out hb (Nat.le_refl _))) (HS.out V (bl_call HB7.out hb (Nat.le_refl _))) hca h1 h2
            rw [HS2.out] at this
            exact this
          clear hc1 hs1 hs2 b7
          go_wp2_with fail
          clear x0 x1 x2 y0 y1 y2 y3 y4 e5
          obtain ⟨Wc, hWc⟩ : ∃ V, V = wr := ⟨_, rfl⟩
          subst hWc
          have AS := Lib.hid (stE_stab Wc.heap.size 23 (#[.int .i64 0, .int .i64 0]) (#[.int .i64 sa, .int .i64 sb]) [.agg #[.int .i64 klo, .int .i64 khi, .slice (some ⟨bM, oM, none⟩) n ca], .slice C q cc, .int .i64 (m : Int), .int .i64 (c1 : Int), .int .i64 (c : Int), .agg #[.int .i64 (m : Int), .int .i64 (c : Int)], .tuple #[.agg #[.int .i64 sa, .int .i64 sb], .int .i64 ev], .tuple #[.agg #[.int .i64 sa, .int .i64 sb], .int .i64 ev], .agg #[.int .i64 sa, .int .i64 sb], .int .i64 ev] 10)
          refine wp_region_invs (InvE Wc.heap.size Wc (stE Wc.heap.size 23 (#[.int .i64 0, .int .i64 0]) (#[.int .i64 sa, .int .i64 sb]) [.agg #[.int .i64 klo, .int .i64 khi, .slice (some ⟨bM, oM, none⟩) n ca], .slice C q cc, .int .i64 (m : Int), .int .i64 (c1 : Int), .int .i64 (c : Int), .agg #[.int .i64 (m : Int), .int .i64 (c : Int)], .tuple #[.agg #[.int .i64 sa, .int .i64 sb], .int .i64 ev], .tuple #[.agg #[.int .i64 sa, .int .i64 sb], .int .i64 ev], .agg #[.int .i64 sa, .int .i64 sb], .int .i64 ev] 10) 11) 12 (by kernel_rfl) (by kernel_rfl) (by kernel_rfl) (by rfl) ⟨(Below.refl _ _).drew, fun i h => by cases h⟩ ?stepA (by rfl) (by rfl) ?finA
          case stepA =>
            refine StepsI.cons ?_ (StepsI.cons ?_ (StepsI.cons ?_ (StepsI.cons ?_ (StepsI.cons ?_ (StepsI.cons ?_ (StepsI.cons ?_ (StepsI.cons ?_ (StepsI.cons ?_ (StepsI.cons ?_ (StepsI.cons ?_ (StepsI.cons ?_ StepsI.nil)))))))))))
            all_goals
              refine StepI.of ?_
              intro ls vs W K hI hl hw hU hK
              simp only [fillA, Act.put, List.setIfInBounds_toArray, List.set_cons_zero, List.set_cons_succ, Nat.zero_add, Nat.reduceAdd] at hK ⊢
              simp [waits, Region.binds] at hw
              have hC := hI.1
            · -- 0
              obtain ⟨k0c, k1c, k2c, k3c, k4c, k5c, k6c, k7c⟩ := kk.out W (bl_call HB7.out hC (Nat.le_refl _))
              go_simp
              exact hK _ _ (hI.step AS.out (Below.refl _ _) hC.size (by decide) (stE_put (by decide) rfl))
            · -- 1
              go_simp
              exact hK _ _ (hI.step AS.out (Below.refl _ _) hC.size (by decide) (stE_put (by decide) rfl))
            · -- 2
              go_simp
              exact hK _ _ (hI.step AS.out (Below.refl _ _) hC.size (by decide) (stE_put (by decide) rfl))
            · -- 3
              go_simp
              exact hK _ _ (hI.step AS.out (Below.refl _ _) hC.size (by decide) (stE_put (by decide) rfl))
            · -- 4
              have q3 : vs 3 = .int .i64 (c1 : Int) := stE_get (hI.2 3 (by simp [hw])) (by decide) rfl
              simp only [q3] at hK ⊢
              go_simp
              exact hK _ _ (hI.step AS.out (Below.refl _ _) hC.size (by decide) (stE_put (by decide) rfl))
            · -- 5
              have q2 : vs 2 = .int .i64 (m : Int) := stE_get (hI.2 2 (by simp [hw])) (by decide) rfl
              have q4 : vs 4 = .int .i64 (c : Int) := stE_get (hI.2 4 (by simp [hw])) (by decide) rfl
              simp only [q2, q4] at hK ⊢
              go_simp
              refine (at7_any (m : Int) (c : Int) W).mono ?_
              rintro e w' ⟨rfl, hb⟩
              exact hK _ _ (hI.step AS.out hb hC.size (by decide) (stE_put (by decide) rfl))
            · -- 6
              have q0 : vs 0 = .agg #[.int .i64 klo, .int .i64 khi, .slice (some ⟨bM, oM, none⟩) n ca] := stE_get (hI.2 0 (by simp [hw])) (by decide) rfl
              have q1 : vs 1 = .slice C q cc := stE_get (hI.2 1 (by simp [hw])) (by decide) rfl
              have q5 : vs 5 = .agg #[.int .i64 (m : Int), .int .i64 (c : Int)] := stE_get (hI.2 5 (by simp [hw])) (by decide) rfl
              simp only [q0, q1, q5] at hK ⊢
              go_simp
              refine (HZ1.out W hC).mono ?_
              rintro e w' ⟨rfl, hb⟩
              exact hK _ _ (hI.step AS.out hb hC.size (by decide) (stE_put (by decide) rfl))
            · -- 7
              have q6 : vs 6 = .tuple #[.agg #[.int .i64 sa, .int .i64 sb], .int .i64 ev] := stE_get (hI.2 6 (by simp [hw])) (by decide) rfl
              simp only [q6] at hK ⊢
              go_simp
              exact hK _ _ (hI.step AS.out (Below.refl _ _) hC.size (by decide) (stE_put (by decide) rfl))
            · -- 8
              have q7 : vs 7 = .tuple #[.agg #[.int .i64 sa, .int .i64 sb], .int .i64 ev] := stE_get (hI.2 7 (by simp [hw])) (by decide) rfl
              simp only [q7] at hK ⊢
              go_simp
              exact hK _ _ (hI.step AS.out (Below.refl _ _) hC.size (by decide) (stE_put (by decide) rfl))
            · -- 9
              have q7 : vs 7 = .tuple #[.agg #[.int .i64 sa, .int .i64 sb], .int .i64 ev] := stE_get (hI.2 7 (by simp [hw])) (by decide) rfl
              simp only [q7] at hK ⊢
              go_simp
              exact hK _ _ (hI.step AS.out (Below.refl _ _) hC.size (by decide) (stE_put (by decide) rfl))
            · -- 10
              have h8 : ls 11 = false := (hU 11 _ rfl (by simp [waits, Region.binds])).1
              go_simp
              exact hK _ _ (hI.step AS.out (bl_alloc (Below.refl _ _) _ (Nat.le_refl _)) hC.size (by decide) (stE_new hC.size h8))
            · -- 11
              have q : vs 8 = .agg #[.int .i64 sa, .int .i64 sb] := stE_get (hI.2 8 (by simp [hw])) (by decide) rfl
              obtain ⟨g4, hg4, h4, hB4⟩ := stE_at (hI.2 10 (by simp [hw]))
              rw [hl] at hB4
              replace hB4 : Blk W g4 23 (#[.int .i64 0, .int .i64 0]) := hB4
              have z0 := hB4.cell 0
              have z1 := hB4.cell 1
              have fz0 := hB4.frozen 0
              have fz1 := hB4.frozen 1
              have hl4 := hB4.lt
              simp only [q, h4] at hK ⊢
              go_simp
              exact hK undef _ (stE_store hI (bl_set (bl_set (Below.refl _ _) hg4 _) hg4 _) h4 hg4 (hB4.set2 _ _))
          case finA =>
            intro ls vs W hI hl hU
            have e6 : vs 9 = .int .i64 ev := stE_get (hI.2 9 (hl 9 (by decide))) (by decide) rfl
            have h4 := stE_at (hI.2 10 (hl 10 (by decide)))
            rw [hl 11 (by decide)] at h4
            have b4 := hI.1
            simp only [fillA, Act.put, List.setIfInBounds_toArray, List.set_cons_zero, List.set_cons_succ, Nat.zero_add, Nat.reduceAdd, e6]
            obtain ⟨gP, hg4, h4, hB4⟩ := h4
            rw [h4]
            have SgP : Hid (Blk W gP 23 (#[.int .i64 sa, .int .i64 sb])) := hB4
            obtain ⟨u0, hu0⟩ : ∃ v0, vs 0 = v0 := ⟨_, rfl⟩
            obtain ⟨u1, hu1⟩ : ∃ v0, vs 1 = v0 := ⟨_, rfl⟩
            obtain ⟨u2, hu2⟩ : ∃ v0, vs 2 = v0 := ⟨_, rfl⟩
            obtain ⟨u3, hu3⟩ : ∃ v0, vs 3 = v0 := ⟨_, rfl⟩
            obtain ⟨u4, hu4⟩ : ∃ v0, vs 4 = v0 := ⟨_, rfl⟩
            obtain ⟨u5, hu5⟩ : ∃ v0, vs 5 = v0 := ⟨_, rfl⟩
            obtain ⟨u6, hu6⟩ : ∃ v0, vs 6 = v0 := ⟨_, rfl⟩
            obtain ⟨u7, hu7⟩ : ∃ v0, vs 7 = v0 := ⟨_, rfl⟩
            obtain ⟨u8, hu8⟩ : ∃ v0, vs 8 = v0 := ⟨_, rfl⟩
            rw [hu0, hu1, hu2, hu3, hu4, hu5, hu6, hu7, hu8]
            clear hu0 hu1 hu2 hu3 hu4 hu5 hu6 hu7 hu8
            clear hI hl hU e6 h4 hB4 AS
            have HD2 : Hid (Below Wc.heap.size Wc W) := b4
            clear b4 hg4
            obtain ⟨Wd, hWd⟩ : ∃ V, V = W := ⟨_, rfl⟩
            subst hWd
            go_simp
            go_wp2_with fail
            have AS := Lib.hid (stE_stab Wd.heap.size 23 (#[.int .i64 0, .int .i64 0]) (#[.int .i64 ta, .int .i64 tb]) [.agg #[.int .i64 klo, .int .i64 khi, .slice (some ⟨bM, oM, none⟩) n ca], .slice C q cc, .int .i64 (m : Int), .int .i64 (c1 : Int), .agg #[.int .i64 (m : Int), .int .i64 (c1 : Int)], .tuple #[.agg #[.int .i64 ta, .int .i64 tb], .int .i64 ev], .tuple #[.agg #[.int .i64 ta, .int .i64 tb], .int .i64 ev], .agg #[.int .i64 ta, .int .i64 tb], .int .i64 ev] 9)
            refine wp_region_invs (InvE Wd.heap.size Wd (stE Wd.heap.size 23 (#[.int .i64 0, .int .i64 0]) (#[.int .i64 ta, .int .i64 tb]) [.agg #[.int .i64 klo, .int .i64 khi, .slice (some ⟨bM, oM, none⟩) n ca], .slice C q cc, .int .i64 (m : Int), .int .i64 (c1 : Int), .agg #[.int .i64 (m : Int), .int .i64 (c1 : Int)], .tuple #[.agg #[.int .i64 ta, .int .i64 tb], .int .i64 ev], .tuple #[.agg #[.int .i64 ta, .int .i64 tb], .int .i64 ev], .agg #[.int .i64 ta, .int .i64 tb], .int .i64 ev] 9) 10) 11 (by kernel_rfl) (by kernel_rfl) (by kernel_rfl) (by rfl) ⟨(Below.refl _ _).drew, fun i h => by cases h⟩ ?stepB (by rfl) (by rfl) ?finB
            case stepB =>
              refine StepsI.cons ?_ (StepsI.cons ?_ (StepsI.cons ?_ (StepsI.cons ?_ (StepsI.cons ?_ (StepsI.cons ?_ (StepsI.cons ?_ (StepsI.cons ?_ (StepsI.cons ?_ (StepsI.cons ?_ (StepsI.cons ?_ StepsI.nil))))))))))
              all_goals
                refine StepI.of ?_
                intro ls vs W K hI hl hw hU hK
                simp only [fillA, Act.put, List.setIfInBounds_toArray, List.set_cons_zero, List.set_cons_succ, Nat.zero_add, Nat.reduceAdd] at hK ⊢
                simp [waits, Region.binds] at hw
                have hC := hI.1
              · -- 0
                obtain ⟨k0c, k1c, k2c, k3c, k4c, k5c, k6c, k7c⟩ := kk.out W (bl_call HB7.out (bl_call HD2.out hC (Nat.le_refl _)) (Nat.le_refl _))
                go_simp
                exact hK _ _ (hI.step AS.out (Below.refl _ _) hC.size (by decide) (stE_put (by decide) rfl))
              · -- 1
                go_simp
                exact hK _ _ (hI.step AS.out (Below.refl _ _) hC.size (by decide) (stE_put (by decide) rfl))
              · -- 2
                go_simp
                exact hK _ _ (hI.step AS.out (Below.refl _ _) hC.size (by decide) (stE_put (by decide) rfl))
              · -- 3
                go_simp
                exact hK _ _ (hI.step AS.out (Below.refl _ _) hC.size (by decide) (stE_put (by decide) rfl))
              · -- 4
                have q2 : vs 2 = .int .i64 (m : Int) := stE_get (hI.2 2 (by simp [hw])) (by decide) rfl
                have q3 : vs 3 = .int .i64 (c1 : Int) := stE_get (hI.2 3 (by simp [hw])) (by decide) rfl
                simp only [q2, q3] at hK ⊢
                go_simp
                refine (at7_any (m : Int) (c1 : Int) W).mono ?_
                rintro e w' ⟨rfl, hb⟩
                exact hK _ _ (hI.step AS.out hb hC.size (by decide) (stE_put (by decide) rfl))
              · -- 5
                have q0 : vs 0 = .agg #[.int .i64 klo, .int .i64 khi, .slice (some ⟨bM, oM, none⟩) n ca] := stE_get (hI.2 0 (by simp [hw])) (by decide) rfl
                have q1 : vs 1 = .slice C q cc := stE_get (hI.2 1 (by simp [hw])) (by decide) rfl
                have q4 : vs 4 = .agg #[.int .i64 (m : Int), .int .i64 (c1 : Int)] := stE_get (hI.2 4 (by simp [hw])) (by decide) rfl
                simp only [q0, q1, q4] at hK ⊢
                go_simp
                refine (HZ2.out W (bl_call HD2.out hC (Nat.le_refl _))).mono ?_
                rintro e w' ⟨rfl, hb⟩
                exact hK _ _ (hI.step AS.out hb hC.size (by decide) (stE_put (by decide) rfl))
              · -- 6
                have q5 : vs 5 = .tuple #[.agg #[.int .i64 ta, .int .i64 tb], .int .i64 ev] := stE_get (hI.2 5 (by simp [hw])) (by decide) rfl
                simp only [q5] at hK ⊢
                go_simp
                exact hK _ _ (hI.step AS.out (Below.refl _ _) hC.size (by decide) (stE_put (by decide) rfl))
              · -- 7
                have q6 : vs 6 = .tuple #[.agg #[.int .i64 ta, .int .i64 tb], .int .i64 ev] := stE_get (hI.2 6 (by simp [hw])) (by decide) rfl
                simp only [q6] at hK ⊢
                go_simp
                exact hK _ _ (hI.step AS.out (Below.refl _ _) hC.size (by decide) (stE_put (by decide) rfl))
              · -- 8
                have q6 : vs 6 = .tuple #[.agg #[.int .i64 ta, .int .i64 tb], .int .i64 ev] := stE_get (hI.2 6 (by simp [hw])) (by decide) rfl
                simp only [q6] at hK ⊢
                go_simp
                exact hK _ _ (hI.step AS.out (Below.refl _ _) hC.size (by decide) (stE_put (by decide) rfl))
              · -- 9
                have h8 : ls 10 = false := (hU 10 _ rfl (by simp [waits, Region.binds])).1
                go_simp
                exact hK _ _ (hI.step AS.out (bl_alloc (Below.refl _ _) _ (Nat.le_refl _)) hC.size (by decide) (stE_new hC.size h8))
              · -- 10
                have q : vs 7 = .agg #[.int .i64 ta, .int .i64 tb] := stE_get (hI.2 7 (by simp [hw])) (by decide) rfl
                obtain ⟨g4, hg4, h4, hB4⟩ := stE_at (hI.2 9 (by simp [hw]))
                rw [hl] at hB4
                replace hB4 : Blk W g4 23 (#[.int .i64 0, .int .i64 0]) := hB4
                have z0 := hB4.cell 0
                have z1 := hB4.cell 1
                have fz0 := hB4.frozen 0
                have fz1 := hB4.frozen 1
                have hl4 := hB4.lt
                simp only [q, h4] at hK ⊢
                go_simp
                exact hK undef _ (stE_store hI (bl_set (bl_set (Below.refl _ _) hg4 _) hg4 _) h4 hg4 (hB4.set2 _ _))
            case finB =>
              intro ls vs W hI hl hU
              have e6 : vs 8 = .int .i64 ev := stE_get (hI.2 8 (hl 8 (by decide))) (by decide) rfl
              have h4 := stE_at (hI.2 9 (hl 9 (by decide)))
              rw [hl 10 (by decide)] at h4
              have b4 := hI.1
              simp only [fillA, Act.put, List.setIfInBounds_toArray, List.set_cons_zero, List.set_cons_succ, Nat.zero_add, Nat.reduceAdd, e6]
              obtain ⟨gQ, hg4, h4, hB4⟩ := h4
              rw [h4]
              have SgQ : Hid (Blk W gQ 23 (#[.int .i64 ta, .int .i64 tb])) := hB4
              obtain ⟨u0, hu0⟩ : ∃ v0, vs 0 = v0 := ⟨_, rfl⟩
              obtain ⟨u1, hu1⟩ : ∃ v0, vs 1 = v0 := ⟨_, rfl⟩
              obtain ⟨u2, hu2⟩ : ∃ v0, vs 2 = v0 := ⟨_, rfl⟩
              obtain ⟨u3, hu3⟩ : ∃ v0, vs 3 = v0 := ⟨_, rfl⟩
              obtain ⟨u4, hu4⟩ : ∃ v0, vs 4 = v0 := ⟨_, rfl⟩
              obtain ⟨u5, hu5⟩ : ∃ v0, vs 5 = v0 := ⟨_, rfl⟩
              obtain ⟨u6, hu6⟩ : ∃ v0, vs 6 = v0 := ⟨_, rfl⟩
              obtain ⟨u7, hu7⟩ : ∃ v0, vs 7 = v0 := ⟨_, rfl⟩
              rw [hu0, hu1, hu2, hu3, hu4, hu5, hu6, hu7]
              clear hu0 hu1 hu2 hu3 hu4 hu5 hu6 hu7
              clear hI hl hU e6 h4 hB4 AS
              have HDE : Hid (Below V2.heap.size V2 W) := bl_call HBc.out (bl_call HD2.out b4 (Nat.le_refl _)) (Nat.le_refl _)
              have hP2 := SgP.out.bl b4
              have z0 := hP2.cell 0
              have z1 := hP2.cell 1
              have z2 := SgQ.out.cell 0
              have z3 := SgQ.out.cell 1
              clear b4 hg4 hP2
              go_simp
              go_wp2_with fail
              go_roundw
              case rel => exact ⟨c1, by omega, by go_num, HDE.out⟩
              case measure => simp [intOf]; omega
        · obtain rfl : c1 = castsN s m := by omega
          have hci : ¬ ((castsN s m : Nat) : Int) < ct := by omega
          obtain ⟨wa, hwa⟩ : ∃ x : Int, pa - (j1 : Int) = x := ⟨_, rfl⟩
          obtain ⟨wz, hwz⟩ : ∃ x : Int, pz + (j2 : Int) = x := ⟨_, rfl⟩
          have ww1 : IntKind.i64.wrap (pa - (j1 : Int)) = wa := by rw [hwa, IntKind.wrap_i64]; omega
          have ww2 : IntKind.i64.wrap (pz + (j2 : Int)) = wz := by rw [hwz, IntKind.wrap_i64]; omega
          have hmx := max_if 0 wa
          have hmn2 := min_if 20000 wz
          obtain ⟨va, hva⟩ : ∃ x : Int, max 0 wa = x := ⟨_, rfl⟩
          obtain ⟨vz, hvz⟩ : ∃ x : Int, min 20000 wz = x := ⟨_, rfl⟩
          have HVR : Hid (rangeE ⟨va, vz⟩ 0 20000 = 0) := rangeE_of (by omega)
          have hlf := larger_fits (l := l) HE.out HR.out HVR.out (show va ≤ pa by omega) (show pz ≤ vz by omega)
          have HLF := Lib.hid hlf
          have HVA := Lib.hid hva
          have HVZ := Lib.hid hvz
          clear hlf hwa hwz b7 hci
          have hci : ¬ ((castsN s m : Nat) : Int) < ct := by omega
          clear hva hvz
          go_wp2_with fail
          clear x0 x1 x2 y0 y1 y2 y3 y4 e5 ww1 ww2 hmx hmn2
          rw [HVA.out, HVZ.out]
          refine (span7_any va vz wr).mono ?_
          rintro e V4 ⟨rfl, c4⟩
          have b4 := bl_call HB7.out c4 (Nat.le_refl _)
          obtain ⟨gV, hgV⟩ : ∃ x, V4.heap.size = x := ⟨_, rfl⟩
          obtain ⟨V5, hV5⟩ : ∃ V, V4.alloc (.cells #[.int .i64 va, .int .i64 vz] 23) = V := ⟨_, rfl⟩
          have SV : Blk V5 gV 23 #[.int .i64 va, .int .i64 vz] := by rw [← hV5]; exact Blk.new _ _ _ hgV.symm
          have b5 : Below WW.heap.size WW V5 := by rw [← hV5]; exact bl_alloc b4 _ (Nat.le_refl _)
          obtain ⟨x0, x1, x2, y0, y1, _, _, _⟩ := kk.out V5 b5
          clear c4 b4
          go_wp2_with fail
          clear x0 x1 x2 y0 y1 hV5 hgV
          refine (kFits_any pa pz V5 (HG.out V5 b5) (HS.out V5 b5) hca h1 h2).mono ?_
          rintro e V6 ⟨⟨D, kc, rfl, hD⟩, c6⟩
          have b6 := bl_call b5 c6 (Nat.le_refl _)
          obtain ⟨fL, hfL⟩ : ∃ x, (fitsR s l pa pz).1 = x := ⟨_, rfl⟩
          obtain ⟨fE, hfE⟩ : ∃ x, (fitsR s l pa pz).2 = x := ⟨_, rfl⟩
          obtain ⟨fn, hfn⟩ : ∃ x, fL.length = x := ⟨_, rfl⟩
          rw [hfL, hfn] at hD
          rw [hfL, hfE, hfn]
          have HD := Lib.hid hD
          have hsv := SV.bl c6
          have v0 := hsv.cell 0
          have v1 := hsv.cell 1
          obtain ⟨x0, x1, x2, _, _, _, _, _⟩ := kk.out V6 b6
          clear hD hsv
          go_wp2_with fail
          clear x0 x1 x2 v0 v1
          refine (kFits_any va vz V6 (HG.out V6 b6) (HS.out V6 b6) hca h1 h2).mono ?_
          rintro e V7 ⟨⟨D2, kc2, rfl, hD2⟩, c7⟩
          have b7 := bl_call b6 c7 (Nat.le_refl _)
          obtain ⟨gL, hgL⟩ : ∃ x, (fitsR s l va vz).1 = x := ⟨_, rfl⟩
          obtain ⟨gn, hgn⟩ : ∃ x, gL.length = x := ⟨_, rfl⟩
          rw [hgL, hgn] at hD2
          rw [hgL, hgn, ← HLF.out.1, hfE]
          have HSUB : Hid (∀ p ∈ fL, p ∈ gL) := by have := HLF.out.2; rw [hfL, hgL] at this; exact this
          have HDA : Hid (∀ V, Below V7.heap.size V7 V → Pls (fun _ => True) V D fn fL) := fun V hb => (HD.out.keep PlR.good (Keeps.below (bl_call c7 hb (Nat.le_refl _)))).mono PlR.good (fun _ _ => trivial)
          have HDB : Hid (∀ V, Below V7.heap.size V7 V → Pls (fun _ => True) V D2 gn gL) := fun V hb => (hD2.keep PlR.good (Keeps.below hb)).mono PlR.good (fun _ _ => trivial)
          have hfl := hD2.le
          have hfl2 := HD.out.le
          have HB7b := Lib.hid b7
          clear hD2 HD c7 c6 b6 b5 b7 hfL hgL hfE hfn hgn SV HLF
          go_wp2_with fail
          go_loopw [18] (fun i wr => ∃ k : Nat, k ≤ fn ∧ i = .int .i64 k ∧ Hid (Below V7.heap.size V7 wr)) (fun i _ => fn - (intOf i).toNat)
          case atStart => exact ⟨0, Nat.zero_le _, rfl, Below.refl _ _⟩
          case round =>
            obtain ⟨k, hk, rfl, HBk⟩ := hrel
            by_cases hlt3 : k < fn
            · have hki : (k : Int) < fn := by omega
              obtain ⟨bF, oF, p1, p2, rfl, _, d0, d1, HxF⟩ := Pls.get (HDA.out wr HBk.out) hlt3
              have HIN : Hid ((p1, p2) ∈ gL) := HSUB.out _ (List.mem_of_getElem? HxF.out)
              go_wp2_with fail
              refine (has7_any (p1, p2) wr (HDB.out wr HBk.out)).mono ?_
              rintro e V8 ⟨rfl, c8⟩
              rw [decide_eq_true HIN.out]
              have HB8 : Hid (Below V7.heap.size V7 V8) := bl_call HBk.out c8 (Nat.le_refl _)
              clear c8 d0 d1
              go_wp2_with fail
              go_roundw
              case rel => exact ⟨k + 1, by omega, by go_num, HB8.out⟩
              case measure => simp [intOf]; omega
            · obtain rfl : k = fn := by omega
              have hki : ¬ (k : Int) < k := by omega
              go_wp2_with fail
              refine (awake7_any wr).mono ?_
              rintro e V9 ⟨rfl, c9⟩
              have b9 := bl_call hBW (bl_call HB7b.out (bl_call HBk.out c9 (Nat.le_refl _)) (Nat.le_refl _)) (Nat.le_refl _)
              clear c9
              go_wp2
              go_ret
              exact ⟨by rfl, b9⟩
    · have hrb : (er != 0) = true := by simpa using hr
      clear her hr
      go_wp2_with fail
      clear x0 x1 x2 y0 y1 y2 y3 y4
      refine (awake7_any V2).mono ?_
      rintro e V3 ⟨rfl, c3⟩
      have b3 := bl_call hBW (bl_call b2 c3 (Nat.le_refl _)) (Nat.le_refl _)
      clear c3
      go_wp2
      go_ret
      exact ⟨by rfl, b3⟩
  · have heb : ((seen7 s l).2 == 0) = false := by simpa using he
    rw [heb]
    clear he heb
    go_wp2_with fail
    clear x0 x1 x2 y0 y1 y2 y3 y4
    refine (awake7_any V1).mono ?_
    rintro e V3 ⟨rfl, c3⟩
    have b3 := bl_call hBW (bl_call b1 c3 (Nat.le_refl _)) (Nat.le_refl _)
    clear c3
    go_wp2
    go_ret
    exact ⟨by rfl, b3⟩
end Go.Proofs.Ytinekpalobaeoaa
