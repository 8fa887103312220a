/- Walks, layer 7: the law CastReached. -/
import Derived.Test.YtnaadjhiahjlfaaCKAppL
import Derived.Test.YtnaadjhiahjlfaaCKLaw4
import Derived.Test.YtnaadjhiahjlfaaCKReaP
import Derived.Test.YtnaadjhiahjlfaaCKRefs2
import Derived.Test.YtnaadjhiahjlfaaCKStE
set_option linter.unusedVariables false
set_option linter.unusedSimpArgs false
set_option linter.all false
namespace Go.Proofs.Ytnaadjhiahjlfaa
open Go.RowKit Go.Shelf

/-- what the operations of a round promise; 13: the append to the copied casts that are seen, 20: the store of the answer -/
def re7 (B : Nat) (hv lv p0 p1 : Value) (q : Nat) (l : List SeenC) (it an : Nat) (nv : Int) (z1 z2 z3 : Int) : Nat → Bool → Bool → Value → World → Prop
  | 0, _, _, v, _ => v = hv
  | 1, p, _, v, W => p = true ∨ ∃ g, B ≤ g ∧ v = .slice (some ⟨g, 0, none⟩) 0 0 ∧ Blk W g 90 #[]
  | 2, _, _, v, _ => v = lv
  | 3, p, _, v, W => p = true ∨ ∃ A c, v = .slice A q c ∧ OwnL SeenCR 4 (fun _ => False) W B 90 v l
  | 4, _, _, v, _ => v = p0
  | 5, _, _, v, _ => v = .int .i64 it
  | 6, _, _, v, _ => v = p1
  | 7, _, _, v, _ => v = .int .i64 an
  | 8, _, _, v, _ => v = .int .i64 nv
  | 9, _, _, v, _ => v = .int .i64 nv
  | 10, _, _, v, _ => v = .agg #[.int .i64 nv, .int .i64 nv]
  | 11, _, _, v, _ => v = .agg #[.int .i64 it, .int .i64 an, .int .i64 nv, .int .i64 nv]
  | 12, p, _, v, W => p = true ∨ ∃ g, v = .slice (some ⟨g, 0, none⟩) 1 1 ∧ Blk W g 90 #[.int .i64 it, .int .i64 an, .int .i64 nv, .int .i64 nv]
  | 13, _, s, v, W => s = true ∨ ∃ A c, v = .slice A (q + 1) c ∧ SeenCs (fun k => B ≤ k) W A (q + 1) (l ++ [oneC it an nv])
  | 14, _, _, v, _ => v = .agg #[.int .i64 it, .int .i64 an]
  | 15, _, _, v, _ => v = .tuple #[.agg #[.int .i64 z1, .int .i64 z2], .int .i64 z3]
  | 16, _, _, v, _ => v = .tuple #[.agg #[.int .i64 z1, .int .i64 z2], .int .i64 z3]
  | 17, _, _, v, _ => v = .agg #[.int .i64 z1, .int .i64 z2]
  | 18, _, _, v, _ => v = .int .i64 z3
  | 19, _, s, v, W => ∃ g, B ≤ g ∧ v = .pointer (some ⟨g, 0, none⟩) ∧ Blk W g 23 (if s then #[.int .i64 z1, .int .i64 z2] else #[.int .i64 0, .int .i64 0])
  | _, _, _, _, _ => True
theorem re7_stab (B : Nat) (hv lv p0 p1 : Value) (q : Nat) (l : List SeenC) (it an : Nat) (nv : Int) (z1 z2 z3 : Int) : ∀ i p s v w w', Below w.heap.size w w' → re7 B hv lv p0 p1 q l it an nv z1 z2 z3 i p s v w → re7 B hv lv p0 p1 q l it an nv z1 z2 z3 i p s v w'
  | 0, _, _, _, _, _, _, h => h
  | 1, _, _, _, _, _, hb, h => h.imp id fun ⟨g, h1, h2, h3⟩ => ⟨g, h1, h2, h3.bl hb⟩
  | 2, _, _, _, _, _, _, h => h
  | 3, _, _, _, _, _, hb, h => h.imp id fun ⟨A, c, h1, h2⟩ => ⟨A, c, h1, h2.below SeenCR.good hb⟩
  | 4, _, _, _, _, _, _, h => h
  | 5, _, _, _, _, _, _, h => h
  | 6, _, _, _, _, _, _, h => h
  | 7, _, _, _, _, _, _, h => h
  | 8, _, _, _, _, _, _, h => h
  | 9, _, _, _, _, _, _, h => h
  | 10, _, _, _, _, _, _, h => h
  | 11, _, _, _, _, _, _, h => h
  | 12, _, _, _, _, _, hb, h => h.imp id fun ⟨g, h1, h2⟩ => ⟨g, h1, h2.bl hb⟩
  | 13, _, _, _, _, _, hb, h => h.imp id fun ⟨A, c, h1, h2⟩ => ⟨A, c, h1, h2.keep SeenCR.good (Keeps.below hb)⟩
  | 14, _, _, _, _, _, _, h => h
  | 15, _, _, _, _, _, _, h => h
  | 16, _, _, _, _, _, _, h => h
  | 17, _, _, _, _, _, _, h => h
  | 18, _, _, _, _, _, _, h => h
  | 19, _, _, _, _, _, hb, ⟨g, h1, h2, h3⟩ => ⟨g, h1, h2, h3.bl hb⟩
  | _ + 20, _, _, _, _, _, _, _ => trivial

set_option maxRecDepth 100000 in
set_option maxHeartbeats 16000000 in
theorem reachLaw_any {A C : Option Addr} {n ca q cc d0 d1 d2 : Nat} {s : Shop} {l : List SeenC} {klo khi : Int} (w : World) (g : Moulds (fun _ => True) w A n s.moulds) (gs : SeenCs (fun _ => True) w C q l) (hd0 : d0 < 256) (hd1 : d1 < 256) (hd2 : d2 < 256) (hca : n ≤ ca) (h1 : s.klo = klo) (h2 : s.khi = khi) :
    Calls Try.prog 8 #[.agg #[.int .i64 klo, .int .i64 khi, .slice A n ca], .slice C q cc, .agg #[.int .u8 d0, .int .u8 d1, .int .u8 d2]] w fun e w' => e = .returned (.bool true) ∧ Below w.heap.size w w' := by
  obtain ⟨iS, hiS, hzS0, hzS1, hzS2⟩ := info_parts infoSeenC
  obtain ⟨WW, hW⟩ : ∃ W, (w.alloc (.cells #[.int .i64 klo, .int .i64 khi, .slice A n ca] 46)).alloc (.cells #[.int .u8 d0, .int .u8 d1, .int .u8 d2] 87) = W := ⟨_, rfl⟩
  have X : Blk WW w.heap.size 46 #[.int .i64 klo, .int .i64 khi, .slice A n ca] := by rw [← hW]; exact (Blk.new _ _ _ rfl).alloc _
  have Z : Blk WW (w.heap.size + 1) 87 #[.int .u8 d0, .int .u8 d1, .int .u8 d2] := by rw [← hW]; exact Blk.new _ _ _ (by simp)
  have hBW : Below w.heap.size w WW := by rw [← hW]; exact bl_alloc (bl_alloc (Below.refl _ _) _ (Nat.le_refl _)) _ (Nat.le_refl _)
  have HG : Hid (∀ V, Below WW.heap.size WW V → Moulds (fun _ => True) V A n s.moulds) := fun V hb => (g.keep MouldR.good (Keeps.below hBW)).keep MouldR.good (Keeps.below hb)
  have HS : Hid (∀ V, Below WW.heap.size WW V → SeenCs (fun _ => True) V C q l) := fun V hb => (gs.keep SeenCR.good (Keeps.below hBW)).keep SeenCR.good (Keeps.below hb)
  have kk : Hid (∀ V, Below WW.heap.size WW V → V.cell? ⟨w.heap.size, 0, none⟩ = some (.int .i64 klo) ∧ V.cell? ⟨w.heap.size, 1, none⟩ = some (.int .i64 khi) ∧ V.cell? ⟨w.heap.size, 2, none⟩ = some (.slice A n ca) ∧ V.cell? ⟨w.heap.size + 1, 0, none⟩ = some (.int .u8 d0) ∧ V.cell? ⟨w.heap.size + 1, 1, none⟩ = some (.int .u8 d1) ∧ V.cell? ⟨w.heap.size + 1, 2, none⟩ = some (.int .u8 d2)) :=
    fun V hb => ⟨(X.bl hb).cell 0, (X.bl hb).cell 1, (X.bl hb).cell 2, (Z.bl hb).cell 0, (Z.bl hb).cell 1, (Z.bl hb).cell 2⟩
  have Hn := Lib.hid g.len
  have Hq := Lib.hid gs.len
  have hnl := g.le
  have hH1 := Lib.hid h1
  have hH2 := Lib.hid h2
  clear X Z g gs
  obtain ⟨x0, x1, x2, y0, y1, y2⟩ := kk.out WW (Below.refl _ _)
  go_enter Try.func8, Try.ntmps8
  go_wp2_with fail
  clear hW x0 x1 x2 y0 y1 y2
  refine (good7_any WW (HG.out WW (Below.refl _ _)) (HS.out WW (Below.refl _ _)) h1 h2).mono ?_
  rintro e V1 ⟨rfl, b1⟩
  by_cases he : (seen7 s l).2 = 0
  · have heb : ((seen7 s l).2 == 0) = true := by rw [he]; rfl
    rw [heb]
    have HE := Lib.hid he
    have hall := seen7_all he
    have HOK := Lib.hid hall.1
    have hq6 : q ≤ 6 := by rw [← Hq.out]; exact hall.2.1
    have hn4 : n ≤ 4 := by rw [← Hn.out]; exact hall.1.nm.2
    have hn1 : 1 ≤ n := by rw [← Hn.out]; exact hall.1.nm.1
    clear he heb hall
    by_cases hq : q = 6
    · subst hq
      go_wp2_with fail
      refine (awake7_any V1).mono ?_
      rintro e V99 ⟨rfl, c99⟩
      have b99 := bl_call hBW (bl_call b1 c99 (Nat.le_refl _)) (Nat.le_refl _)
      clear c99
      go_wp2
      go_ret
      exact ⟨by rfl, b99⟩
    · have hqi : ((q : Int) == 6) = false := by simp; omega
      have HB1 := Lib.hid b1
      have hq5 : q ≤ 5 := by omega
      have hqii : ¬ (q : Int) = 6 := by omega
      obtain ⟨mm, hmm⟩ : ∃ m, d0 % n = m := ⟨_, rfl⟩
      have hmn : mm < n := by rw [← hmm]; exact Nat.mod_lt _ (by omega)
      have ht0 : ((d0 : Int)).tmod (n : Int) = (mm : Int) := by rw [Int.tmod_eq_emod_of_nonneg (by omega), ← hmm]; rfl
      obtain ⟨bM, oM, sn, ma, mz, my, mu, ct, hAe, hbM, e0, e1, e2, e3, e4, e5, hss, HxM⟩ := Moulds.get (HG.out V1 b1) hmn
      subst hAe
      have hcs := castsN_bd HOK.out (m := mm) (by rw [Hn.out]; exact hmn)
      rw [getD_of HxM.out] at hcs
      dsimp only at hcs
      obtain ⟨hcs1, hcs8, hcsE⟩ := hcs
      subst hcsE
      obtain ⟨cn, hcn⟩ : ∃ x, castsN s mm = x := ⟨_, rfl⟩
      rw [hcn] at hcs1 hcs8 e5
      have HCN := Lib.hid hcn
      obtain ⟨m1, hm1⟩ : ∃ m1, d1 % cn = m1 := ⟨_, rfl⟩
      have hmc : m1 < cn := by rw [← hm1]; exact Nat.mod_lt _ (by omega)
      have ht1 : ((d1 : Int)).tmod (cn : Int) = (m1 : Int) := by rw [Int.tmod_eq_emod_of_nonneg (by omega), ← hm1]; rfl
      have cv0 : IntKind.i64.wrap (d0 : Int) = d0 := by rw [IntKind.wrap_i64]; omega
      have cv1 : IntKind.i64.wrap (d1 : Int) = d1 := by rw [IntKind.wrap_i64]; omega
      have cm0 : IntKind.i64.wrap (mm : Int) = mm := by rw [IntKind.wrap_i64]; omega
      have cm1 : IntKind.i64.wrap (m1 : Int) = m1 := by rw [IntKind.wrap_i64]; omega
      have hdz : ¬ (n : Int) = 0 := by omega
      have hdn : ¬ n = 0 := by omega
      have hdz2 : ((n : Int) == 0) = false := by simp; omega
      have hdc : ¬ (cn : Int) = 0 := by omega
      have hdcn : ¬ cn = 0 := by omega
      have hdc2 : ((cn : Int) == 0) = false := by simp; omega
      have E5 := Lib.hid e5
      have hmi : (mm : Int) < n := by omega
      obtain ⟨x0, x1, x2, y0, y1, y2⟩ := kk.out V1 HB1.out
      clear b1 hmm hm1 hcn hss hbM e0 e1 e2 e3 e4 e5
      go_wp2_with fail
      clear x0 x1 x2 y0 y1 y2
      refine wp_frameT ?_
      intro a0 ha0
      have tb3 : a0.tmps[3]? = some (.pointer (some ⟨w.heap.size, 0, none⟩)) := by rw [ha0]; kernel_rfl
      have tb5 : a0.tmps[5]? = some (.pointer (some ⟨w.heap.size + 1, 0, none⟩)) := by rw [ha0]; kernel_rfl
      have tb7 : a0.tmps[7]? = some (.int .i64 (mm : Int)) := by rw [ha0]; kernel_rfl
      have hsz : a0.tmps.size = 228 := by rw [ha0]; kernel_rfl
      refine wp_region_list (fun W => Below V1.heap.size V1 W) (fun w w' => Below w.heap.size w w')
        [isV (.int .i64 (mm : Int)), isV (.pointer (some ⟨w.heap.size + 1, 1, none⟩)), isV (.int .u8 (d1 : Int)), isV (.int .i64 (d1 : Int)), isV (.pointer (some ⟨w.heap.size, 2, none⟩)), isV (.slice (some ⟨bM, oM, none⟩) n ca), isV (.int .i64 (mm : Int)), isV (.pointer (some ⟨bM, oM + mm * 6, none⟩)), isV (.pointer (some ⟨bM, oM + mm * 6 + 5, none⟩)), isV (.int .i64 (cn : Int)), isV (.int .i64 (m1 : Int)), isV (.agg #[.int .i64 (mm : Int), .int .i64 (m1 : Int)]), NewPlB V1.heap.size]
        (by kernel_rfl) (by kernel_rfl) (by kernel_rfl) (by simp) (by simp) (Below.refl _ _).drew ?stabP ?stepP ?finP
      case stabP => exact (StabL.is (StabL.is (StabL.is (StabL.is (StabL.is (StabL.is (StabL.is (StabL.is (StabL.is (StabL.is (StabL.is (StabL.is (StabL.cons (fun v w V hC hX h => h.bl hX) StabL.nil)))))))))))))
      case stepP =>
        refine StepsL.isA ?_ (StepsL.isA ?_ (StepsL.isA ?_ (StepsL.isA ?_ (StepsL.isA ?_ (StepsL.isA ?_ (StepsL.isA ?_ (StepsL.isA ?_ (StepsL.isA ?_ (StepsL.isA ?_ (StepsL.isA ?_ (StepsL.isA ?_ (StepsL.consA ?_ StepsL.nil))))))))))))
        · -- 0
          intro vs a W K ha hC hD hU hK
          have r7 : a.tmps[7]? = some (.int .i64 (mm : Int)) := by rw [ha, fillA_base0 (by kernel_rfl)]; exact tb7
          clear ha hU hD ha0
          rw [if_pos (by rfl)]
          go_simp
          exact hK _ hC (Below.refl _ _)
        · -- 1
          intro vs a W K ha hC hD hU hK
          have r5 : a.tmps[5]? = some (.pointer (some ⟨w.heap.size + 1, 0, none⟩)) := by rw [ha, fillA_base0 (by kernel_rfl)]; exact tb5
          clear ha hU hD ha0
          rw [if_pos (by rfl)]
          go_simp
          exact hK _ hC (Below.refl _ _)
        · -- 2
          intro vs a W K ha hC hD hU hK
          have r40 : a.tmps[40]? = some (vs 1) := by rw [ha]; exact fillA_get0 (j := 1) (by kernel_rfl) (by rw [hsz]; decide)
          have q1 : vs 1 = .pointer (some ⟨w.heap.size + 1, 1, none⟩) := hD 1 (by simp [waits, Region.binds])
          rw [q1] at r40
          clear ha hU hD ha0
          rw [if_pos (by rfl)]
          obtain ⟨k1, k2, k3, k4, k5, k6⟩ := kk.out W (bl_call HB1.out hC (Nat.le_refl _))
          have ke5 := getc hC E5.out
          go_simp
          exact hK _ hC (Below.refl _ _)
        · -- 3
          intro vs a W K ha hC hD hU hK
          have r41 : a.tmps[41]? = some (vs 2) := by rw [ha]; exact fillA_get0 (j := 2) (by kernel_rfl) (by rw [hsz]; decide)
          have q2 : vs 2 = .int .u8 (d1 : Int) := hD 2 (by simp [waits, Region.binds])
          rw [q2] at r41
          clear ha hU hD ha0
          rw [if_pos (by rfl)]
          go_simp
          exact hK _ hC (Below.refl _ _)
        · -- 4
          intro vs a W K ha hC hD hU hK
          have r3 : a.tmps[3]? = some (.pointer (some ⟨w.heap.size, 0, none⟩)) := by rw [ha, fillA_base0 (by kernel_rfl)]; exact tb3
          clear ha hU hD ha0
          rw [if_pos (by rfl)]
          go_simp
          exact hK _ hC (Below.refl _ _)
        · -- 5
          intro vs a W K ha hC hD hU hK
          have r43 : a.tmps[43]? = some (vs 4) := by rw [ha]; exact fillA_get0 (j := 4) (by kernel_rfl) (by rw [hsz]; decide)
          have q4 : vs 4 = .pointer (some ⟨w.heap.size, 2, none⟩) := hD 4 (by simp [waits, Region.binds])
          rw [q4] at r43
          clear ha hU hD ha0
          rw [if_pos (by rfl)]
          obtain ⟨k1, k2, k3, k4, k5, k6⟩ := kk.out W (bl_call HB1.out hC (Nat.le_refl _))
          have ke5 := getc hC E5.out
          go_simp
          exact hK _ hC (Below.refl _ _)
        · -- 6
          intro vs a W K ha hC hD hU hK
          have r7 : a.tmps[7]? = some (.int .i64 (mm : Int)) := by rw [ha, fillA_base0 (by kernel_rfl)]; exact tb7
          clear ha hU hD ha0
          rw [if_pos (by rfl)]
          go_simp
          exact hK _ hC (Below.refl _ _)
        · -- 7
          intro vs a W K ha hC hD hU hK
          have r44 : a.tmps[44]? = some (vs 5) := by rw [ha]; exact fillA_get0 (j := 5) (by kernel_rfl) (by rw [hsz]; decide)
          have q5 : vs 5 = .slice (some ⟨bM, oM, none⟩) n ca := hD 5 (by simp [waits, Region.binds])
          rw [q5] at r44
          have r45 : a.tmps[45]? = some (vs 6) := by rw [ha]; exact fillA_get0 (j := 6) (by kernel_rfl) (by rw [hsz]; decide)
          have q6 : vs 6 = .int .i64 (mm : Int) := hD 6 (by simp [waits, Region.binds])
          rw [q6] at r45
          clear ha hU hD ha0
          rw [if_pos (by rfl)]
          go_simp
          exact hK _ hC (Below.refl _ _)
        · -- 8
          intro vs a W K ha hC hD hU hK
          have r46 : a.tmps[46]? = some (vs 7) := by rw [ha]; exact fillA_get0 (j := 7) (by kernel_rfl) (by rw [hsz]; decide)
          have q7 : vs 7 = .pointer (some ⟨bM, oM + mm * 6, none⟩) := hD 7 (by simp [waits, Region.binds])
          rw [q7] at r46
          clear ha hU hD ha0
          rw [if_pos (by rfl)]
          go_simp
          exact hK _ hC (Below.refl _ _)
        · -- 9
          intro vs a W K ha hC hD hU hK
          have r47 : a.tmps[47]? = some (vs 8) := by rw [ha]; exact fillA_get0 (j := 8) (by kernel_rfl) (by rw [hsz]; decide)
          have q8 : vs 8 = .pointer (some ⟨bM, oM + mm * 6 + 5, none⟩) := hD 8 (by simp [waits, Region.binds])
          rw [q8] at r47
          clear ha hU hD ha0
          rw [if_pos (by rfl)]
          obtain ⟨k1, k2, k3, k4, k5, k6⟩ := kk.out W (bl_call HB1.out hC (Nat.le_refl _))
          have ke5 := getc hC E5.out
          go_simp
          exact hK _ hC (Below.refl _ _)
        · -- 10
          intro vs a W K ha hC hD hU hK
          have r42 : a.tmps[42]? = some (vs 3) := by rw [ha]; exact fillA_get0 (j := 3) (by kernel_rfl) (by rw [hsz]; decide)
          have q3 : vs 3 = .int .i64 (d1 : Int) := hD 3 (by simp [waits, Region.binds])
          rw [q3] at r42
          have r48 : a.tmps[48]? = some (vs 9) := by rw [ha]; exact fillA_get0 (j := 9) (by kernel_rfl) (by rw [hsz]; decide)
          have q9 : vs 9 = .int .i64 (cn : Int) := hD 9 (by simp [waits, Region.binds])
          rw [q9] at r48
          clear ha hU hD ha0
          rw [if_pos (by rfl)]
          go_simp
          exact hK _ hC (Below.refl _ _)
        · -- 11
          intro vs a W K ha hC hD hU hK
          have r39 : a.tmps[39]? = some (vs 0) := by rw [ha]; exact fillA_get0 (j := 0) (by kernel_rfl) (by rw [hsz]; decide)
          have q0 : vs 0 = .int .i64 (mm : Int) := hD 0 (by simp [waits, Region.binds])
          rw [q0] at r39
          have r49 : a.tmps[49]? = some (vs 10) := by rw [ha]; exact fillA_get0 (j := 10) (by kernel_rfl) (by rw [hsz]; decide)
          have q10 : vs 10 = .int .i64 (m1 : Int) := hD 10 (by simp [waits, Region.binds])
          rw [q10] at r49
          clear ha hU hD ha0
          rw [if_pos (by rfl)]
          go_simp
          refine (at7_any (mm : Int) (m1 : Int) W).mono ?_
          rintro e w' ⟨rfl, hb⟩
          exact hK _ (bl_call hC hb (Nat.le_refl _)) hb
        · -- 12
          intro vs a W K ha hC hD hU hK
          clear ha hU hD ha0
          rw [if_pos (by rfl)]
          go_simp
          exact hK _ _ (bl_alloc hC _ (Nat.le_refl _)) (bl_alloc (Below.refl _ _) _ (Nat.le_refl _)) ⟨_, hC.size, rfl, Blk.new _ _ _ rfl⟩
      case finP =>
        intro vs W hC hE hU
        rw [ha0]
        clear hU hsz tb3 tb5 tb7
        have e11 : vs 11 = .agg #[.int .i64 (mm : Int), .int .i64 (m1 : Int)] := hE 11 (by simp)
        have E12 : NewPlB V1.heap.size (vs 12) W := hE 12 (by simp)
        simp only [fillA, Act.put, List.setIfInBounds_toArray, List.set_cons_zero, List.set_cons_succ, Nat.zero_add, Nat.reduceAdd, e11]
        obtain ⟨gP, hgP, e12, hP⟩ := E12
        rw [e12]
        obtain ⟨u0, hu0⟩ : ∃ v0, vs 0 = v0 := ⟨_, rfl⟩
        obtain ⟨u1, hu1⟩ : ∃ v0, vs 1 = v0 := ⟨_, rfl⟩
        obtain ⟨u2, hu2⟩ : ∃ v0, vs 2 = v0 := ⟨_, rfl⟩
        obtain ⟨u3, hu3⟩ : ∃ v0, vs 3 = v0 := ⟨_, rfl⟩
        obtain ⟨u4, hu4⟩ : ∃ v0, vs 4 = v0 := ⟨_, rfl⟩
        obtain ⟨u5, hu5⟩ : ∃ v0, vs 5 = v0 := ⟨_, rfl⟩
        obtain ⟨u6, hu6⟩ : ∃ v0, vs 6 = v0 := ⟨_, rfl⟩
        obtain ⟨u7, hu7⟩ : ∃ v0, vs 7 = v0 := ⟨_, rfl⟩
        obtain ⟨u8, hu8⟩ : ∃ v0, vs 8 = v0 := ⟨_, rfl⟩
        obtain ⟨u9, hu9⟩ : ∃ v0, vs 9 = v0 := ⟨_, rfl⟩
        obtain ⟨u10, hu10⟩ : ∃ v0, vs 10 = v0 := ⟨_, rfl⟩
        rw [hu0, hu1, hu2, hu3, hu4, hu5, hu6, hu7, hu8, hu9, hu10]
        clear hu0 hu1 hu2 hu3 hu4 hu5 hu6 hu7 hu8 hu9 hu10
        clear hE e11 e12
        have z0c := hP.cell 0
        have z1c := hP.cell 1
        have fz0 := hP.frozen 0
        have fz1 := hP.frozen 1
        have zl := hP.lt
        go_simp
        obtain ⟨Vb, hVb⟩ : ∃ V, (W.setCell ⟨gP, 0, none⟩ (.int .i64 (mm : Int))).setCell ⟨gP, 1, none⟩ (.int .i64 (m1 : Int)) = V := ⟨_, rfl⟩
        have HP : Hid (∀ V, Below Vb.heap.size Vb V → V.cell? ⟨gP, 0, none⟩ = some (.int .i64 (mm : Int)) ∧ V.cell? ⟨gP, 1, none⟩ = some (.int .i64 (m1 : Int))) := by
          intro V hb
          have hh : Blk Vb gP 49 #[.int .i64 (mm : Int), .int .i64 (m1 : Int)] := by rw [← hVb]; exact hP.set2 _ _
          exact ⟨(hh.bl hb).cell 0, (hh.bl hb).cell 1⟩
        have hbb : Below WW.heap.size WW Vb := by rw [← hVb]; exact bl_call HB1.out (bl_set (bl_set hC hgP _) hgP _) (Nat.le_refl _)
        have HBb := Lib.hid hbb
        try rw [hVb]
        clear hVb hP hC z0c z1c fz0 fz1 zl hgP hbb ht0 ht1 cv0 cv1 cm0 hdz hdn hdz2 hdc hdcn hdc2
        obtain ⟨x0, x1, x2, y0, y1, y2⟩ := kk.out Vb HBb.out
        obtain ⟨pc0, pc1⟩ := HP.out Vb (Below.refl _ _)
        have hmS : mm < s.moulds.length := by rw [Hn.out]; exact hmn
        have hcS : m1 < castsN s mm := by rw [HCN.out]; exact hmc
        have HMS := Lib.hid hmS
        have HCS := Lib.hid hcS
        obtain ⟨sa, sb, f0, hsz⟩ : ∃ sa sb f0, sizesR s l mm m1 = ((sa, sb), f0) := ⟨_, _, _, rfl⟩
        have HSZ := Lib.hid hsz
        clear hsz hmS hcS
        go_wp2_with fail
        clear x0 x1 x2 y0 y1 y2 pc0 pc1
        refine (ksizes_any (cc := cc) (mm : Int) (m1 : Int) Vb (HG.out Vb HBb.out) (HS.out Vb HBb.out) hca h1 h2).mono ?_
        rw [HSZ.out]
        rintro e V10 ⟨rfl, c10⟩
        obtain ⟨gA, hgA⟩ : ∃ x, V10.heap.size = x := ⟨_, rfl⟩
        obtain ⟨V11, hV11⟩ : ∃ V, V10.alloc (.cells #[.int .i64 sa, .int .i64 sb] 23) = V := ⟨_, rfl⟩
        have SA : Blk V11 gA 23 #[.int .i64 sa, .int .i64 sb] := by rw [← hV11]; exact Blk.new _ _ _ hgA.symm
        have hb11 : Below Vb.heap.size Vb V11 := by rw [← hV11]; exact bl_alloc c10 _ (Nat.le_refl _)
        have HB11 : Hid (Below WW.heap.size WW V11) := bl_call HBb.out hb11 (Nat.le_refl _)
        have HP11 : Hid (∀ V, Below V11.heap.size V11 V → V.cell? ⟨gP, 0, none⟩ = some (.int .i64 (mm : Int)) ∧ V.cell? ⟨gP, 1, none⟩ = some (.int .i64 (m1 : Int))) := fun V hb => HP.out V (bl_call hb11 hb (Nat.le_refl _))
        have kl : Hid (∀ V, Below V11.heap.size V11 V → V.cell? ⟨gA, 0, none⟩ = some (.int .i64 sa) ∧ V.cell? ⟨gA, 1, none⟩ = some (.int .i64 sb)) := fun V hb => ⟨(SA.bl hb).c0, (SA.bl hb).c1⟩
        obtain ⟨x0, x1, x2, y0, y1, y2⟩ := kk.out V11 HB11.out
        clear c10 hb11 SA HP
        go_wp2_with fail
        clear x0 x1 x2 y0 y1 y2 hV11 hgA
        have hcall := kshrinks_any (cc := cc) V11 (HG.out V11 HB11.out) (HS.out V11 HB11.out) hca h1 h2
        by_cases hne : known7 s l = []
        · rw [shrinksR_no HE.out hne] at hcall
          have hz := HSZ.out
          rw [sizesR_none HE.out HMS.out HCS.out hne] at hz
          injection hz with e1 e3
          injection e1 with e1 e2
          subst e1; subst e2; subst e3
          clear HSZ hne
          refine hcall.mono ?_
          rintro e V12 ⟨⟨D, kn, kc, rfl, hD⟩, c12⟩
          have hkn := hD.len
          simp only [List.length_nil] at hkn
          subst hkn
          clear hD hcall
          have HBF : Hid (Below WW.heap.size WW V12) := bl_call HB11.out c12 (Nat.le_refl _)
          have klf : Hid (∀ V, Below V12.heap.size V12 V → V.cell? ⟨gA, 0, none⟩ = some (.int .i64 0) ∧ V.cell? ⟨gA, 1, none⟩ = some (.int .i64 0)) := fun V hb => kl.out V (bl_call c12 hb (Nat.le_refl _))
          clear c12 kl
          go_wp2_with fail
          refine wp_frameT ?_
          intro a0 ha0
          have tb9 : a0.tmps[9]? = some (.pointer (some ⟨gA, 0, none⟩)) := by rw [ha0]; kernel_rfl
          have tb10 : a0.tmps[10]? = some (.int .i64 9) := by rw [ha0]; kernel_rfl
          have tb11 : a0.tmps[11]? = some (.slice D 0 kc) := by rw [ha0]; kernel_rfl
          have tb12 : a0.tmps[12]? = some (.int .i64 9) := by rw [ha0]; kernel_rfl
          have hsz : a0.tmps.size = 228 := by rw [ha0]; kernel_rfl
          refine wp_region_list (fun W => Below V12.heap.size V12 W) (fun w w' => Below w.heap.size w w')
            [isV (.int .i64 9), isV (.int .i64 9), isV (.bool true), isV (.bool true), isV (.int .i64 9), isV (.bool true), isV (.bool true), isV (.bool true), isV (.agg #[.int .i64 0, .int .i64 0]), isV (.agg #[.int .i64 0, .int .i64 0]), isV (.bool true), isV (.bool true), isV (.bool true), isV (.slice D 0 kc), isV (.int .i64 0), isV (.bool true), isV (.bool true), isV (.bool true), isV (.bool true), isV (.bool true), isV (.bool true)]
            (by kernel_rfl) (by kernel_rfl) (by kernel_rfl) (by simp) (by simp) (Below.refl _ _).drew ?stabU ?stepU ?finU
          case stabU => exact (StabL.is (StabL.is (StabL.is (StabL.is (StabL.is (StabL.is (StabL.is (StabL.is (StabL.is (StabL.is (StabL.is (StabL.is (StabL.is (StabL.is (StabL.is (StabL.is (StabL.is (StabL.is (StabL.is (StabL.is (StabL.is StabL.nil)))))))))))))))))))))
          case stepU =>
            refine StepsL.isA ?_ (StepsL.isA ?_ (StepsL.isA ?_ (StepsL.isA ?_ (StepsL.isA ?_ (StepsL.isA ?_ (StepsL.isA ?_ (StepsL.isA ?_ (StepsL.isA ?_ (StepsL.isA ?_ (StepsL.isA ?_ (StepsL.isA ?_ (StepsL.isA ?_ (StepsL.isA ?_ (StepsL.isA ?_ (StepsL.isA ?_ (StepsL.isA ?_ (StepsL.isA ?_ (StepsL.isA ?_ (StepsL.isA ?_ (StepsL.isA ?_ StepsL.nil))))))))))))))))))))
            · -- 0
              intro vs a W K ha hC hD hU hK
              have r10 : a.tmps[10]? = some (.int .i64 9) := by rw [ha, fillA_base0 (by kernel_rfl)]; exact tb10
              clear ha hU hD ha0
              rw [if_pos (by rfl)]
              go_simp
              exact hK _ hC (Below.refl _ _)
            · -- 1
              intro vs a W K ha hC hD hU hK
              have r12 : a.tmps[12]? = some (.int .i64 9) := by rw [ha, fillA_base0 (by kernel_rfl)]; exact tb12
              clear ha hU hD ha0
              rw [if_pos (by rfl)]
              go_simp
              exact hK _ hC (Below.refl _ _)
            · -- 2
              intro vs a W K ha hC hD hU hK
              have r71 : a.tmps[71]? = some (vs 0) := by rw [ha]; exact fillA_get0 (j := 0) (by kernel_rfl) (by rw [hsz]; decide)
              have q0 : vs 0 = .int .i64 9 := hD 0 (by simp [waits, Region.binds])
              rw [q0] at r71
              have r72 : a.tmps[72]? = some (vs 1) := by rw [ha]; exact fillA_get0 (j := 1) (by kernel_rfl) (by rw [hsz]; decide)
              have q1 : vs 1 = .int .i64 9 := hD 1 (by simp [waits, Region.binds])
              rw [q1] at r72
              clear ha hU hD ha0
              rw [if_pos (by rfl)]
              go_simp
              exact hK _ hC (Below.refl _ _)
            · -- 3
              intro vs a W K ha hC hD hU hK
              have r73 : a.tmps[73]? = some (vs 2) := by rw [ha]; exact fillA_get0 (j := 2) (by kernel_rfl) (by rw [hsz]; decide)
              have q2 : vs 2 = .bool true := hD 2 (by simp [waits, Region.binds])
              rw [q2] at r73
              clear ha hU hD ha0
              rw [if_pos (by rfl)]
              go_simp
              exact hK _ hC (Below.refl _ _)
            · -- 4
              intro vs a W K ha hC hD hU hK
              have r74 : a.tmps[74]? = some (vs 3) := by rw [ha]; exact fillA_get0 (j := 3) (by kernel_rfl) (by rw [hsz]; decide)
              have q3 : vs 3 = .bool true := hD 3 (by simp [waits, Region.binds])
              rw [q3] at r74
              have r10 : a.tmps[10]? = some (.int .i64 9) := by rw [ha, fillA_base0 (by kernel_rfl)]; exact tb10
              clear ha hU hD ha0
              rw [if_pos (by simp [Region.wanted, yielded, r74])]
              go_simp
              exact hK _ hC (Below.refl _ _)
            · -- 5
              intro vs a W K ha hC hD hU hK
              have r74 : a.tmps[74]? = some (vs 3) := by rw [ha]; exact fillA_get0 (j := 3) (by kernel_rfl) (by rw [hsz]; decide)
              have q3 : vs 3 = .bool true := hD 3 (by simp [waits, Region.binds])
              rw [q3] at r74
              have r75 : a.tmps[75]? = some (vs 4) := by rw [ha]; exact fillA_get0 (j := 4) (by kernel_rfl) (by rw [hsz]; decide)
              have q4 : vs 4 = .int .i64 9 := hD 4 (by simp [waits, Region.binds])
              rw [q4] at r75
              clear ha hU hD ha0
              rw [if_pos (by simp [Region.wanted, yielded, r74])]
              go_simp
              exact hK _ hC (Below.refl _ _)
            · -- 6
              intro vs a W K ha hC hD hU hK
              have r74 : a.tmps[74]? = some (vs 3) := by rw [ha]; exact fillA_get0 (j := 3) (by kernel_rfl) (by rw [hsz]; decide)
              have q3 : vs 3 = .bool true := hD 3 (by simp [waits, Region.binds])
              rw [q3] at r74
              have r76 : a.tmps[76]? = some (vs 5) := by rw [ha]; exact fillA_get0 (j := 5) (by kernel_rfl) (by rw [hsz]; decide)
              have q5 : vs 5 = .bool true := hD 5 (by simp [waits, Region.binds])
              rw [q5] at r76
              clear ha hU hD ha0
              rw [if_pos (by rfl)]
              go_simp
              exact hK _ hC (Below.refl _ _)
            · -- 7
              intro vs a W K ha hC hD hU hK
              have r77 : a.tmps[77]? = some (vs 6) := by rw [ha]; exact fillA_get0 (j := 6) (by kernel_rfl) (by rw [hsz]; decide)
              have q6 : vs 6 = .bool true := hD 6 (by simp [waits, Region.binds])
              rw [q6] at r77
              clear ha hU hD ha0
              rw [if_pos (by rfl)]
              go_simp
              exact hK _ hC (Below.refl _ _)
            · -- 8
              intro vs a W K ha hC hD hU hK
              have r78 : a.tmps[78]? = some (vs 7) := by rw [ha]; exact fillA_get0 (j := 7) (by kernel_rfl) (by rw [hsz]; decide)
              have q7 : vs 7 = .bool true := hD 7 (by simp [waits, Region.binds])
              rw [q7] at r78
              have r9 : a.tmps[9]? = some (.pointer (some ⟨gA, 0, none⟩)) := by rw [ha, fillA_base0 (by kernel_rfl)]; exact tb9
              clear ha hU hD ha0
              rw [if_pos (by simp [Region.wanted, yielded, r78])]
              obtain ⟨kf0, kf1⟩ := klf.out W hC
              go_simp
              exact hK _ hC (Below.refl _ _)
            · -- 9
              intro vs a W K ha hC hD hU hK
              have r78 : a.tmps[78]? = some (vs 7) := by rw [ha]; exact fillA_get0 (j := 7) (by kernel_rfl) (by rw [hsz]; decide)
              have q7 : vs 7 = .bool true := hD 7 (by simp [waits, Region.binds])
              rw [q7] at r78
              clear ha hU hD ha0
              rw [if_pos (by simp [Region.wanted, yielded, r78])]
              go_simp
              refine (span7_any 0 0 W).mono ?_
              rintro e w' ⟨rfl, hb⟩
              exact hK _ (bl_call hC hb (Nat.le_refl _)) hb
            · -- 10
              intro vs a W K ha hC hD hU hK
              have r78 : a.tmps[78]? = some (vs 7) := by rw [ha]; exact fillA_get0 (j := 7) (by kernel_rfl) (by rw [hsz]; decide)
              have q7 : vs 7 = .bool true := hD 7 (by simp [waits, Region.binds])
              rw [q7] at r78
              have r79 : a.tmps[79]? = some (vs 8) := by rw [ha]; exact fillA_get0 (j := 8) (by kernel_rfl) (by rw [hsz]; decide)
              have q8 : vs 8 = .agg #[.int .i64 0, .int .i64 0] := hD 8 (by simp [waits, Region.binds])
              rw [q8] at r79
              have r80 : a.tmps[80]? = some (vs 9) := by rw [ha]; exact fillA_get0 (j := 9) (by kernel_rfl) (by rw [hsz]; decide)
              have q9 : vs 9 = .agg #[.int .i64 0, .int .i64 0] := hD 9 (by simp [waits, Region.binds])
              rw [q9] at r80
              clear ha hU hD ha0
              rw [if_pos (by simp [Region.wanted, yielded, r78])]
              go_simp
              exact hK _ hC (Below.refl _ _)
            · -- 11
              intro vs a W K ha hC hD hU hK
              have r78 : a.tmps[78]? = some (vs 7) := by rw [ha]; exact fillA_get0 (j := 7) (by kernel_rfl) (by rw [hsz]; decide)
              have q7 : vs 7 = .bool true := hD 7 (by simp [waits, Region.binds])
              rw [q7] at r78
              have r81 : a.tmps[81]? = some (vs 10) := by rw [ha]; exact fillA_get0 (j := 10) (by kernel_rfl) (by rw [hsz]; decide)
              have q10 : vs 10 = .bool true := hD 10 (by simp [waits, Region.binds])
              rw [q10] at r81
              clear ha hU hD ha0
              rw [if_pos (by rfl)]
              go_simp
              exact hK _ hC (Below.refl _ _)
            · -- 12
              intro vs a W K ha hC hD hU hK
              have r82 : a.tmps[82]? = some (vs 11) := by rw [ha]; exact fillA_get0 (j := 11) (by kernel_rfl) (by rw [hsz]; decide)
              have q11 : vs 11 = .bool true := hD 11 (by simp [waits, Region.binds])
              rw [q11] at r82
              clear ha hU hD ha0
              rw [if_pos (by rfl)]
              go_simp
              exact hK _ hC (Below.refl _ _)
            · -- 13
              intro vs a W K ha hC hD hU hK
              have r83 : a.tmps[83]? = some (vs 12) := by rw [ha]; exact fillA_get0 (j := 12) (by kernel_rfl) (by rw [hsz]; decide)
              have q12 : vs 12 = .bool true := hD 12 (by simp [waits, Region.binds])
              rw [q12] at r83
              have r11 : a.tmps[11]? = some (.slice D 0 kc) := by rw [ha, fillA_base0 (by kernel_rfl)]; exact tb11
              clear ha hU hD ha0
              rw [if_pos (by simp [Region.wanted, yielded, r83])]
              go_simp
              exact hK _ hC (Below.refl _ _)
            · -- 14
              intro vs a W K ha hC hD hU hK
              have r83 : a.tmps[83]? = some (vs 12) := by rw [ha]; exact fillA_get0 (j := 12) (by kernel_rfl) (by rw [hsz]; decide)
              have q12 : vs 12 = .bool true := hD 12 (by simp [waits, Region.binds])
              rw [q12] at r83
              have r84 : a.tmps[84]? = some (vs 13) := by rw [ha]; exact fillA_get0 (j := 13) (by kernel_rfl) (by rw [hsz]; decide)
              have q13 : vs 13 = .slice D 0 kc := hD 13 (by simp [waits, Region.binds])
              rw [q13] at r84
              clear ha hU hD ha0
              rw [if_pos (by simp [Region.wanted, yielded, r83])]
              go_simp
              exact hK _ hC (Below.refl _ _)
            · -- 15
              intro vs a W K ha hC hD hU hK
              have r83 : a.tmps[83]? = some (vs 12) := by rw [ha]; exact fillA_get0 (j := 12) (by kernel_rfl) (by rw [hsz]; decide)
              have q12 : vs 12 = .bool true := hD 12 (by simp [waits, Region.binds])
              rw [q12] at r83
              have r85 : a.tmps[85]? = some (vs 14) := by rw [ha]; exact fillA_get0 (j := 14) (by kernel_rfl) (by rw [hsz]; decide)
              have q14 : vs 14 = .int .i64 0 := hD 14 (by simp [waits, Region.binds])
              rw [q14] at r85
              clear ha hU hD ha0
              rw [if_pos (by simp [Region.wanted, yielded, r83])]
              go_simp
              exact hK _ hC (Below.refl _ _)
            · -- 16
              intro vs a W K ha hC hD hU hK
              have r83 : a.tmps[83]? = some (vs 12) := by rw [ha]; exact fillA_get0 (j := 12) (by kernel_rfl) (by rw [hsz]; decide)
              have q12 : vs 12 = .bool true := hD 12 (by simp [waits, Region.binds])
              rw [q12] at r83
              have r86 : a.tmps[86]? = some (vs 15) := by rw [ha]; exact fillA_get0 (j := 15) (by kernel_rfl) (by rw [hsz]; decide)
              have q15 : vs 15 = .bool true := hD 15 (by simp [waits, Region.binds])
              rw [q15] at r86
              clear ha hU hD ha0
              rw [if_pos (by rfl)]
              go_simp
              exact hK _ hC (Below.refl _ _)
            · -- 17
              intro vs a W K ha hC hD hU hK
              have r87 : a.tmps[87]? = some (vs 16) := by rw [ha]; exact fillA_get0 (j := 16) (by kernel_rfl) (by rw [hsz]; decide)
              have q16 : vs 16 = .bool true := hD 16 (by simp [waits, Region.binds])
              rw [q16] at r87
              clear ha hU hD ha0
              rw [if_pos (by rfl)]
              go_simp
              exact hK _ hC (Below.refl _ _)
            · -- 18
              intro vs a W K ha hC hD hU hK
              have r88 : a.tmps[88]? = some (vs 17) := by rw [ha]; exact fillA_get0 (j := 17) (by kernel_rfl) (by rw [hsz]; decide)
              have q17 : vs 17 = .bool true := hD 17 (by simp [waits, Region.binds])
              rw [q17] at r88
              clear ha hU hD ha0
              rw [if_pos (by simp [Region.wanted, yielded, r88])]
              go_simp
              refine (awake7_any W).mono ?_
              rintro e w' ⟨rfl, hb⟩
              exact hK _ (bl_call hC hb (Nat.le_refl _)) hb
            · -- 19
              intro vs a W K ha hC hD hU hK
              have r88 : a.tmps[88]? = some (vs 17) := by rw [ha]; exact fillA_get0 (j := 17) (by kernel_rfl) (by rw [hsz]; decide)
              have q17 : vs 17 = .bool true := hD 17 (by simp [waits, Region.binds])
              rw [q17] at r88
              have r89 : a.tmps[89]? = some (vs 18) := by rw [ha]; exact fillA_get0 (j := 18) (by kernel_rfl) (by rw [hsz]; decide)
              have q18 : vs 18 = .bool true := hD 18 (by simp [waits, Region.binds])
              rw [q18] at r89
              clear ha hU hD ha0
              rw [if_pos (by rfl)]
              go_simp
              exact hK _ hC (Below.refl _ _)
            · -- 20
              intro vs a W K ha hC hD hU hK
              have r90 : a.tmps[90]? = some (vs 19) := by rw [ha]; exact fillA_get0 (j := 19) (by kernel_rfl) (by rw [hsz]; decide)
              have q19 : vs 19 = .bool true := hD 19 (by simp [waits, Region.binds])
              rw [q19] at r90
              clear ha hU hD ha0
              rw [if_pos (by rfl)]
              go_simp
              exact hK _ hC (Below.refl _ _)
          case finU =>
            refine Fin1.none (Nat.le_refl _) ?_
            intro vs W a1 hC hE ha
            have eL : vs 20 = .bool true := hE 20 (by simp)
            rw [ha, ha0]
            clear ha ha0 hsz tb9 tb10 tb11 tb12
            simp only [fillA, Act.put, List.setIfInBounds_toArray, List.set_cons_zero, List.set_cons_succ, Nat.zero_add, Nat.reduceAdd, eL]
            obtain ⟨u0, hu0⟩ : ∃ v0, vs 0 = v0 := ⟨_, rfl⟩
            obtain ⟨u1, hu1⟩ : ∃ v0, vs 1 = v0 := ⟨_, rfl⟩
            obtain ⟨u2, hu2⟩ : ∃ v0, vs 2 = v0 := ⟨_, rfl⟩
            obtain ⟨u3, hu3⟩ : ∃ v0, vs 3 = v0 := ⟨_, rfl⟩
            obtain ⟨u4, hu4⟩ : ∃ v0, vs 4 = v0 := ⟨_, rfl⟩
            obtain ⟨u5, hu5⟩ : ∃ v0, vs 5 = v0 := ⟨_, rfl⟩
            obtain ⟨u6, hu6⟩ : ∃ v0, vs 6 = v0 := ⟨_, rfl⟩
            obtain ⟨u7, hu7⟩ : ∃ v0, vs 7 = v0 := ⟨_, rfl⟩
            obtain ⟨u8, hu8⟩ : ∃ v0, vs 8 = v0 := ⟨_, rfl⟩
            obtain ⟨u9, hu9⟩ : ∃ v0, vs 9 = v0 := ⟨_, rfl⟩
            obtain ⟨u10, hu10⟩ : ∃ v0, vs 10 = v0 := ⟨_, rfl⟩
            obtain ⟨u11, hu11⟩ : ∃ v0, vs 11 = v0 := ⟨_, rfl⟩
            obtain ⟨u12, hu12⟩ : ∃ v0, vs 12 = v0 := ⟨_, rfl⟩
            obtain ⟨u13, hu13⟩ : ∃ v0, vs 13 = v0 := ⟨_, rfl⟩
            obtain ⟨u14, hu14⟩ : ∃ v0, vs 14 = v0 := ⟨_, rfl⟩
            obtain ⟨u15, hu15⟩ : ∃ v0, vs 15 = v0 := ⟨_, rfl⟩
            obtain ⟨u16, hu16⟩ : ∃ v0, vs 16 = v0 := ⟨_, rfl⟩
            obtain ⟨u17, hu17⟩ : ∃ v0, vs 17 = v0 := ⟨_, rfl⟩
            obtain ⟨u18, hu18⟩ : ∃ v0, vs 18 = v0 := ⟨_, rfl⟩
            obtain ⟨u19, hu19⟩ : ∃ v0, vs 19 = v0 := ⟨_, rfl⟩
            rw [hu0, hu1, hu2, hu3, hu4, hu5, hu6, hu7, hu8, hu9, hu10, hu11, hu12, hu13, hu14, hu15, hu16, hu17, hu18, hu19]
            clear hu0 hu1 hu2 hu3 hu4 hu5 hu6 hu7 hu8 hu9 hu10 hu11 hu12 hu13 hu14 hu15 hu16 hu17 hu18 hu19
            have b99 := bl_call hBW (bl_call HBF.out hC (Nat.le_refl _)) (Nat.le_refl _)
            clear hE eL hC
            go_wp2
            go_ret
            exact ⟨by rfl, b99⟩
        · rw [shrinksR_n HE.out hne] at hcall
          have hz := HSZ.out
          rw [sizesR_in HE.out HOK.out HMS.out HCS.out hne] at hz
          injection hz with e1 e3
          subst e3
          have HNE := Lib.hid hne
          have HZE := Lib.hid e1
          have hsm := size_small HOK.out HMS.out HCS.out hne
          rw [e1] at hsm
          dsimp only at hsm
          clear HSZ hne e1
          obtain ⟨K, hKe⟩ : ∃ K, known7 s l = K := ⟨_, rfl⟩
          have HK0 := Lib.hid hKe
          rw [hKe] at hcall
          have hKne := HNE.out
          rw [hKe] at hKne
          clear hKe
          refine hcall.mono ?_
          rintro e V12 ⟨⟨D, kn, kc, rfl, hD⟩, c12⟩
          have Hkn := Lib.hid hD.len
          have hkl := hD.le
          have hknp : 0 < kn := by rw [← Hkn.out]; exact List.length_pos_iff.2 hKne
          have HD : Hid (∀ V, Below V12.heap.size V12 V → Ints (fun _ => True) V D kn K) := fun V hb => (hD.keep IntR.good (Keeps.below hb)).mono IntR.good (fun _ _ => trivial)
          have HB12 : Hid (Below WW.heap.size WW V12) := bl_call HB11.out c12 (Nat.le_refl _)
          have kl2 : Hid (∀ V, Below V12.heap.size V12 V → V.cell? ⟨gA, 0, none⟩ = some (.int .i64 sa) ∧ V.cell? ⟨gA, 1, none⟩ = some (.int .i64 sb)) := fun V hb => kl.out V (bl_call c12 hb (Nat.le_refl _))
          have HP12 : Hid (∀ V, Below V12.heap.size V12 V → V.cell? ⟨gP, 0, none⟩ = some (.int .i64 (mm : Int)) ∧ V.cell? ⟨gP, 1, none⟩ = some (.int .i64 (m1 : Int))) := fun V hb => HP11.out V (bl_call c12 hb (Nat.le_refl _))
          clear hD hcall hKne kl HP11 c12
          obtain ⟨bd, hbd⟩ : ∃ x : Int, 1 + (d2 : Int) = x := ⟨_, rfl⟩
          have cv2 : IntKind.i64.wrap (d2 : Int) = d2 := by rw [IntKind.wrap_i64]; omega
          have hwb : IntKind.i64.wrap (1 + (d2 : Int)) = bd := by rw [hbd, IntKind.wrap_i64]; omega
          have hbd1 : 1 ≤ bd ∧ bd ≤ 256 := by omega
          have hws1 : IntKind.i64.wrap (sa - bd) = sa - bd := by rw [IntKind.wrap_i64]; omega
          have hws2 : IntKind.i64.wrap (sb + bd) = sb + bd := by rw [IntKind.wrap_i64]; omega
          clear hbd
          obtain ⟨x0, x1, x2, y0, y1, y2⟩ := kk.out V12 HB12.out
          go_wp2_with fail
          clear x0 x1 x2 y0 y1 y2 cv2 hwb
          go_loopw [14] (fun i wr => ∃ j : Nat, i = .int .i64 j ∧ j ≤ 4 ∧ Hid (Below V12.heap.size V12 wr)) (fun i _ => 4 - (intOf i).toNat)
          case atStart => exact ⟨0, rfl, by decide, Below.refl _ _⟩
          case round =>
            obtain ⟨j, rfl, hj, HBj⟩ := hrel
            by_cases hlt : j < 4
            · have hji : (j : Int) < 4 := by omega
              have hji5 : (j : Int) < 5 := by omega
              obtain ⟨t0, t1⟩ := kl2.out wr HBj.out
              obtain ⟨nv, hnv, hN⟩ : ∃ nv : Int, (#[.int .i64 sa, .int .i64 sb, .int .i64 (sa - bd), .int .i64 (sb + bd)] : Array Value)[j]? = some (.int .i64 nv) ∧ fourN (size7 s l mm m1) bd j = nv := by
                rw [HZE.out]
                rcases (by omega : j = 0 ∨ j = 1 ∨ j = 2 ∨ j = 3) with rfl | rfl | rfl | rfl
                · exact ⟨sa, rfl, rfl⟩
                · exact ⟨sb, rfl, rfl⟩
                · exact ⟨sa - bd, rfl, rfl⟩
                · exact ⟨sb + bd, rfl, rfl⟩
              have HNV := Lib.hid hN
              clear hN
              obtain ⟨g8, hg8⟩ : ∃ g, wr.heap.size = g := ⟨_, rfl⟩
              obtain ⟨Va, hVa⟩ : ∃ V, wr.alloc (.cells #[.int .i64 sa, .int .i64 sb, .int .i64 (sa - bd), .int .i64 (sb + bd)] 3) = V := ⟨_, rfl⟩
              have hcl : Va.cell? ⟨g8, j, none⟩ = some (.int .i64 nv) := by rw [← hVa, ← hnv]; exact (Blk.new _ _ _ hg8.symm).cell j
              have HBa : Hid (Below V12.heap.size V12 Va) := by rw [Hid, ← hVa]; exact bl_alloc HBj.out _ (Nat.le_refl _)
              clear hnv
              by_cases hn0 : nv < 0
              · go_wp2_with fail
                go_roundw
                case rel => exact ⟨j + 1, by go_num, by omega, HBa.out⟩
                case measure => simp [intOf]; omega
              · by_cases hn4 : 20000 < nv
                · go_wp2_with fail
                  go_roundw
                  case rel => exact ⟨j + 1, by go_num, by omega, HBa.out⟩
                  case measure => simp [intOf]; omega
                · have hb5 : Below WW.heap.size WW Va := bl_call HB12.out HBa.out (Nat.le_refl _)
                  have HB5 := Lib.hid hb5
                  go_wp2_with fail
                  clear hcl hVa hg8 t0 t1 hws1 hws2
                  have hz := reach_four (d := bd) (i := j) HE.out (by rw [Hq.out]; omega) HMS.out HCS.out HNE.out (by omega) (by rw [HNV.out]; omega) (by rw [HNV.out]; omega)
                  rw [HNV.out] at hz
                  obtain ⟨z1, z2, z3, hzz⟩ : ∃ z1 z2 z3, sizesR s (l ++ [oneC mm m1 nv]) mm m1 = ((z1, z2), z3) := ⟨_, _, _, rfl⟩
                  rw [hzz] at hz
                  have HZZ := Lib.hid hzz
                  clear hzz
                  have HZA : Hid (j < 2 → z1 = nv ∧ z2 = nv ∧ z3 = 0) := fun hj2 => by
                    rw [if_pos hj2] at hz
                    injection hz with e1 e2
                    injection e1 with e1 e3
                    exact ⟨e1, e3, e2⟩
                  have HZB : Hid (¬ j < 2 → z3 = 9) := fun hj2 => by
                    rw [if_neg hj2] at hz
                    injection hz
                  clear hz
                  have kp : Hid (∀ V, Below Va.heap.size Va V → V.cell? ⟨gP, 0, none⟩ = some (.int .i64 (mm : Int)) ∧ V.cell? ⟨gP, 1, none⟩ = some (.int .i64 (m1 : Int))) := fun V hb => HP12.out V (bl_call HBa.out hb (Nat.le_refl _))
                  have AS := Lib.hid (re7_stab Va.heap.size (.agg #[.int .i64 klo, .int .i64 khi, .slice (some ⟨bM, oM, none⟩) n ca]) (.slice C q cc) (.pointer (some ⟨gP, 0, none⟩)) (.pointer (some ⟨gP, 1, none⟩)) q l mm m1 nv z1 z2 z3)
                  refine wp_region_invs (fun ls vs ww => InvG Va.heap.size Va (re7 Va.heap.size (.agg #[.int .i64 klo, .int .i64 khi, .slice (some ⟨bM, oM, none⟩) n ca]) (.slice C q cc) (.pointer (some ⟨gP, 0, none⟩)) (.pointer (some ⟨gP, 1, none⟩)) q l mm m1 nv z1 z2 z3) 13 20 ls vs ww) 21 (by kernel_rfl) (by kernel_rfl) (by kernel_rfl) (by rfl) ⟨(Below.refl _ _).drew, fun i h => by cases h⟩ ?step (by rfl) (by rfl) ?fin
                  case step =>
                    refine StepsI.cons ?_ (StepsI.cons ?_ (StepsI.cons ?_ (StepsI.cons ?_ (StepsI.cons ?_ (StepsI.cons ?_ (StepsI.cons ?_ (StepsI.cons ?_ (StepsI.cons ?_ (StepsI.cons ?_ (StepsI.cons ?_ (StepsI.cons ?_ (StepsI.cons ?_ (StepsI.cons ?_ (StepsI.cons ?_ (StepsI.cons ?_ (StepsI.cons ?_ (StepsI.cons ?_ (StepsI.cons ?_ (StepsI.cons ?_ (StepsI.cons ?_ StepsI.nil))))))))))))))))))))
                    all_goals
                      refine StepI.of ?_
                      intro ls vs W K hI hl hw hU hK
                      simp only [fillA, Act.put, List.setIfInBounds_toArray, List.set_cons_zero, List.set_cons_succ, Nat.zero_add, Nat.reduceAdd] at hK ⊢
                      simp [waits, Region.binds] at hw
                      have hC := hI.1
                    · obtain ⟨x0, x1, x2, y0, y1, y2⟩ := kk.out W (bl_call HB5.out hC (Nat.le_refl _))
                      go_simp
                      exact hK _ _ (hI.step AS.out (Below.refl _ _) hC.size (by decide) (by decide) rfl)
                    · go_simp
                      exact hK _ _ (hI.step AS.out (bl_alloc (Below.refl _ _) _ (Nat.le_refl _)) hC.size (by decide) (by decide) (.inr ⟨_, hC.size, rfl, Blk.new _ _ _ rfl⟩))
                    · go_simp
                      exact hK _ _ (hI.step AS.out (Below.refl _ _) hC.size (by decide) (by decide) rfl)
                    · have h13 : ls 13 = false := (hU 13 _ rfl (by simp [waits, Region.binds])).1
                      obtain ⟨gl, hgl, hv1, hBl⟩ := (hI.2 1 (by simp [hw])).resolve_left (by rw [h13]; decide)
                      have q2 : vs 2 = _ := hI.2 2 (by simp [hw])
                      simp only [hv1, q2] at hK ⊢
                      rw [if_pos (by rfl)]
                      refine wp_append_lit W (.tmp 123) (.tmp 124) _ rfl SeenCR.good (T := fun _ => True) (S := fun _ => False) Va.heap.size 90 iS _ 32 Try.underlying47 hiS hzS0 hzS1 hzS2 rfl (by decide) gl rfl hBl hgl C q cc l rfl (HS.out W (bl_call HB5.out hC (Nat.le_refl _))) (fun y vs hr => hr) (by simp only [maxLen]; omega) (by omega) hC.size (fun h => h) (fun h => h) ?_
                      intro A2 c2 w' hO hb
                      exact hK _ _ (hI.step AS.out hb hC.size (by decide) (by decide) (.inr ⟨A2, c2, rfl, hO⟩))
                    · go_simp
                      exact hK _ _ (hI.step AS.out (Below.refl _ _) hC.size (by decide) (by decide) rfl)
                    · have q4 : vs 4 = _ := hI.2 4 (by simp [hw])
                      simp only [q4] at hK ⊢
                      obtain ⟨kp0, kp1⟩ := kp.out W hC
                      go_simp
                      exact hK _ _ (hI.step AS.out (Below.refl _ _) hC.size (by decide) (by decide) rfl)
                    · go_simp
                      exact hK _ _ (hI.step AS.out (Below.refl _ _) hC.size (by decide) (by decide) rfl)
                    · have q6 : vs 6 = _ := hI.2 6 (by simp [hw])
                      simp only [q6] at hK ⊢
                      obtain ⟨kp0, kp1⟩ := kp.out W hC
                      go_simp
                      exact hK _ _ (hI.step AS.out (Below.refl _ _) hC.size (by decide) (by decide) rfl)
                    · go_simp
                      exact hK _ _ (hI.step AS.out (Below.refl _ _) hC.size (by decide) (by decide) rfl)
                    · go_simp
                      exact hK _ _ (hI.step AS.out (Below.refl _ _) hC.size (by decide) (by decide) rfl)
                    · have q8 : vs 8 = _ := hI.2 8 (by simp [hw])
                      have q9 : vs 9 = _ := hI.2 9 (by simp [hw])
                      simp only [q8, q9] at hK ⊢
                      go_simp
                      refine (span7_any nv nv W).mono ?_
                      rintro e w' ⟨rfl, hb⟩
                      exact hK _ _ (hI.step AS.out hb hC.size (by decide) (by decide) rfl)
                    · have q5 : vs 5 = _ := hI.2 5 (by simp [hw])
                      have q7 : vs 7 = _ := hI.2 7 (by simp [hw])
                      have q10 : vs 10 = _ := hI.2 10 (by simp [hw])
                      simp only [q5, q7, q10] at hK ⊢
                      go_simp
                      exact hK _ _ (hI.step AS.out (Below.refl _ _) hC.size (by decide) (by decide) rfl)
                    · have q11 : vs 11 = _ := hI.2 11 (by simp [hw])
                      simp only [q11] at hK ⊢
                      go_simp
                      exact hK _ _ (hI.step AS.out (bl_alloc (Below.refl _ _) _ (Nat.le_refl _)) hC.size (by decide) (by decide) (.inr ⟨_, rfl, Blk.new _ _ _ rfl⟩))
                    · obtain ⟨A3, c3, hv3, hO3⟩ := (hI.2 3 (by simp [hw])).resolve_left (by rw [hl]; decide)
                      rw [hv3] at hO3
                      obtain ⟨g9, hv12, hB12⟩ := (hI.2 12 (by simp [hw])).resolve_left (by rw [hl]; decide)
                      simp only [hv3, hv12] at hK ⊢
                      rw [if_pos (by rfl)]
                      obtain ⟨A4, c4, w', hrun, hO4, hg4, _⟩ := run_append_one W 47 47 SeenCR.good Va.heap.size 90 iS _ 32 Try.underlying47 hiS hzS0 hzS1 hzS2 rfl (by omega) (.slice A3 q c3) l (oneC mm m1 nv) hO3 ⟨g9, 0, none⟩ 1 [.int .i64 mm, .int .i64 m1, .int .i64 nv, .int .i64 nv] rfl (fun j v hv => blk_news4 hB12 hv) (by rw [Hq.out]; simp only [maxLen]; omega) (by rw [Hq.out]; omega) hC.size (fun h => h)
                      rw [Hq.out] at hrun hO4
                      refine wp_append_of_run rfl rfl rfl hrun ?_
                      have hB2 : Below Va.heap.size Va w' := bl_grown hC hO3 hg4 (Nat.le_refl _) (Nat.le_refl _)
                      refine hK _ _ ⟨hB2, fun i hi => ?_⟩
                      have hb13 : updB ls 13 13 = true := by unfold updB; rw [if_pos rfl]
                      have hb20 : updB ls 13 20 = ls 20 := by unfold updB; rw [if_neg (by decide)]
                      rw [hb13, hb20]
                      match i, hi with
                      | 0, hi => exact hI.2 0 hi
                      | 2, hi => exact hI.2 2 hi
                      | 4, hi => exact hI.2 4 hi
                      | 5, hi => exact hI.2 5 hi
                      | 6, hi => exact hI.2 6 hi
                      | 7, hi => exact hI.2 7 hi
                      | 8, hi => exact hI.2 8 hi
                      | 9, hi => exact hI.2 9 hi
                      | 10, hi => exact hI.2 10 hi
                      | 11, hi => exact hI.2 11 hi
                      | 14, hi => exact hI.2 14 hi
                      | 15, hi => exact hI.2 15 hi
                      | 16, hi => exact hI.2 16 hi
                      | 17, hi => exact hI.2 17 hi
                      | 18, hi => exact hI.2 18 hi
                      | 1, _ => exact .inl rfl
                      | 3, _ => exact .inl rfl
                      | 12, _ => exact .inl rfl
                      | 13, _ => exact .inr ⟨some ⟨A4, 0, none⟩, c4, rfl, hO4.slice SeenCR.good rfl (by simp only [maxLen]; omega) (fun _ h => h.elim) (fun k hk1 hk2 => hk1)⟩
                      | 19, hi =>
                        obtain ⟨g5, z1a, z2a, z3a⟩ := hI.2 19 hi
                        exact ⟨g5, z1a, z2a, z3a.grown hg4 (fun e => by
                          obtain ⟨cur, hcur⟩ := hO3.blk e.symm
                          exact absurd (Blk.ty hcur z3a) (by decide))⟩
                      | _ + 20, _ => trivial
                    · obtain ⟨kp0, kp1⟩ := kp.out W hC
                      go_simp
                      exact hK _ _ (hI.step AS.out (Below.refl _ _) hC.size (by decide) (by decide) rfl)
                    · have h20 : ls 20 = false := (hU 20 _ rfl (by simp [waits, Region.binds])).1
                      obtain ⟨A5, c5, hv13, hS5⟩ := (hI.2 13 (by simp [hw])).resolve_left (by rw [h20]; decide)
                      have q0 : vs 0 = _ := hI.2 0 (by simp [hw])
                      have q14 : vs 14 = _ := hI.2 14 (by simp [hw])
                      simp only [q0, hv13, q14] at hK ⊢
                      go_simp
                      refine (ksizes_any (cc := c5) (mm : Int) (m1 : Int) W (HG.out W (bl_call HB5.out hC (Nat.le_refl _))) (hS5.mono SeenCR.good (fun _ _ => trivial)) hca h1 h2).mono ?_
                      rintro e w' ⟨rfl, hb⟩
                      rw [HZZ.out]
                      exact hK _ _ (hI.step AS.out hb hC.size (by decide) (by decide) rfl)
                    · have q15 : vs 15 = _ := hI.2 15 (by simp [hw])
                      simp only [q15] at hK ⊢
                      go_simp
                      exact hK _ _ (hI.step AS.out (Below.refl _ _) hC.size (by decide) (by decide) rfl)
                    · have q16 : vs 16 = _ := hI.2 16 (by simp [hw])
                      simp only [q16] at hK ⊢
                      go_simp
                      exact hK _ _ (hI.step AS.out (Below.refl _ _) hC.size (by decide) (by decide) rfl)
                    · have q16 : vs 16 = _ := hI.2 16 (by simp [hw])
                      simp only [q16] at hK ⊢
                      go_simp
                      exact hK _ _ (hI.step AS.out (Below.refl _ _) hC.size (by decide) (by decide) rfl)
                    · have h20 : ls 20 = false := (hU 20 _ rfl (by simp [waits, Region.binds])).1
                      go_simp
                      exact hK _ _ (hI.step AS.out (bl_alloc (Below.refl _ _) _ (Nat.le_refl _)) hC.size (by decide) (by decide) ⟨_, hC.size, rfl, by rw [h20]; exact Blk.new _ _ _ rfl⟩)
                    · have q17 : vs 17 = _ := hI.2 17 (by simp [hw])
                      have h13 : ls 13 = true := by simp [hw]
                      obtain ⟨g4, hg4, h4, hB4⟩ := hI.2 19 (by simp [hw])
                      rw [hl] at hB4
                      have z0 : W.cell? ⟨g4, 0, none⟩ = some (.int .i64 0) := hB4.cell 0
                      have z1' : W.cell? ⟨g4, 1, none⟩ = some (.int .i64 0) := hB4.cell 1
                      have fz0 := hB4.frozen 0
                      have fz1 := hB4.frozen 1
                      have hl4 := hB4.lt
                      simp only [q17, h4] at hK ⊢
                      go_simp
                      refine hK undef _ ⟨bl_set (bl_set hC hg4 _) hg4 _, fun i hi => ?_⟩
                      have hb20 : updB ls 20 20 = true := by unfold updB; rw [if_pos rfl]
                      have hb13 : updB ls 20 13 = true := by unfold updB; rw [if_neg (by decide)]; exact h13
                      rw [hb20, hb13]
                      match i, hi with
                      | 0, hi => exact hI.2 0 hi
                      | 2, hi => exact hI.2 2 hi
                      | 4, hi => exact hI.2 4 hi
                      | 5, hi => exact hI.2 5 hi
                      | 6, hi => exact hI.2 6 hi
                      | 7, hi => exact hI.2 7 hi
                      | 8, hi => exact hI.2 8 hi
                      | 9, hi => exact hI.2 9 hi
                      | 10, hi => exact hI.2 10 hi
                      | 11, hi => exact hI.2 11 hi
                      | 14, hi => exact hI.2 14 hi
                      | 15, hi => exact hI.2 15 hi
                      | 16, hi => exact hI.2 16 hi
                      | 17, hi => exact hI.2 17 hi
                      | 18, hi => exact hI.2 18 hi
                      | 1, _ => exact .inl rfl
                      | 3, _ => exact .inl rfl
                      | 12, _ => exact .inl rfl
                      | 13, _ => exact .inl rfl
                      | 19, _ => exact ⟨g4, hg4, h4, hB4.set2 _ _⟩
                      | _ + 20, _ => trivial
                  case fin =>
                    intro ls vs W hI hl hU
                    clear hU
                    have hC := hI.1
                    have e18 : vs 18 = .int .i64 z3 := hI.2 18 (hl 18 (by decide))
                    have e19 := hI.2 19 (hl 19 (by decide))
                    have e20 := hl 20 (by decide)
                    simp only [fillA, Act.put, List.setIfInBounds_toArray, List.set_cons_zero, List.set_cons_succ, Nat.zero_add, Nat.reduceAdd, e18]
                    rw [e20] at e19
                    obtain ⟨g14, hg14, h14, hB14⟩ := e19
                    rw [h14]
                    obtain ⟨u0, hu0⟩ : ∃ v0, vs 0 = v0 := ⟨_, rfl⟩
                    obtain ⟨u1, hu1⟩ : ∃ v0, vs 1 = v0 := ⟨_, rfl⟩
                    obtain ⟨u2, hu2⟩ : ∃ v0, vs 2 = v0 := ⟨_, rfl⟩
                    obtain ⟨u3, hu3⟩ : ∃ v0, vs 3 = v0 := ⟨_, rfl⟩
                    obtain ⟨u4, hu4⟩ : ∃ v0, vs 4 = v0 := ⟨_, rfl⟩
                    obtain ⟨u5, hu5⟩ : ∃ v0, vs 5 = v0 := ⟨_, rfl⟩
                    obtain ⟨u6, hu6⟩ : ∃ v0, vs 6 = v0 := ⟨_, rfl⟩
                    obtain ⟨u7, hu7⟩ : ∃ v0, vs 7 = v0 := ⟨_, rfl⟩
                    obtain ⟨u8, hu8⟩ : ∃ v0, vs 8 = v0 := ⟨_, rfl⟩
                    obtain ⟨u9, hu9⟩ : ∃ v0, vs 9 = v0 := ⟨_, rfl⟩
                    obtain ⟨u10, hu10⟩ : ∃ v0, vs 10 = v0 := ⟨_, rfl⟩
                    obtain ⟨u11, hu11⟩ : ∃ v0, vs 11 = v0 := ⟨_, rfl⟩
                    obtain ⟨u12, hu12⟩ : ∃ v0, vs 12 = v0 := ⟨_, rfl⟩
                    obtain ⟨u13, hu13⟩ : ∃ v0, vs 13 = v0 := ⟨_, rfl⟩
                    obtain ⟨u14, hu14⟩ : ∃ v0, vs 14 = v0 := ⟨_, rfl⟩
                    obtain ⟨u15, hu15⟩ : ∃ v0, vs 15 = v0 := ⟨_, rfl⟩
                    obtain ⟨u16, hu16⟩ : ∃ v0, vs 16 = v0 := ⟨_, rfl⟩
                    obtain ⟨u17, hu17⟩ : ∃ v0, vs 17 = v0 := ⟨_, rfl⟩
                    rw [hu0, hu1, hu2, hu3, hu4, hu5, hu6, hu7, hu8, hu9, hu10, hu11, hu12, hu13, hu14, hu15, hu16, hu17]
                    clear hu0 hu1 hu2 hu3 hu4 hu5 hu6 hu7 hu8 hu9 hu10 hu11 hu12 hu13 hu14 hu15 hu16 hu17
                    replace hB14 : Blk W g14 23 #[.int .i64 z1, .int .i64 z2] := hB14
                    clear h14 hI hl AS e18 e20
                    have kz : Hid (∀ V, Below W.heap.size W V → V.cell? ⟨g14, 0, none⟩ = some (.int .i64 z1) ∧ V.cell? ⟨g14, 1, none⟩ = some (.int .i64 z2)) := fun V hb => ⟨(hB14.bl hb).c0, (hB14.bl hb).c1⟩
                    have HBW4 : Hid (Below V12.heap.size V12 W) := bl_call HBa.out hC (Nat.le_refl _)
                    clear hB14 hC hg14 hb5
                    obtain ⟨Wc, hWc⟩ : ∃ V, V = W := ⟨_, rfl⟩
                    subst hWc
                    go_simp
                    by_cases hj2 : j < 2
                    · obtain ⟨e1, e2, e3⟩ := HZA.out hj2
                      rw [e1, e2] at kz
                      rw [e3]
                      clear e1 e2 e3
                      have hj2i : decide ((j : Int) < 2) = true := decide_eq_true (by omega)
                      have hj2g : decide ((2 : Int) ≤ (j : Int)) = false := decide_eq_false (by omega)
                      clear HZA HZB HZZ
                      go_wp2_with fail
                      refine wp_frameT ?_
                      intro a0 ha0
                      have tb14 : a0.tmps[14]? = some (.int .i64 (j : Int)) := by rw [ha0]; kernel_rfl
                      have tb15 : a0.tmps[15]? = some (.int .i64 nv) := by rw [ha0]; kernel_rfl
                      have tb16 : a0.tmps[16]? = some (.pointer (some ⟨g14, 0, none⟩)) := by rw [ha0]; kernel_rfl
                      have tb17 : a0.tmps[17]? = some (.int .i64 0) := by rw [ha0]; kernel_rfl
                      have hsz : a0.tmps.size = 228 := by rw [ha0]; kernel_rfl
                      refine wp_region_list (fun W => Below Wc.heap.size Wc W) (fun w w' => Below w.heap.size w w')
                        [isV (.int .i64 (j : Int)), isV (.bool true), isV (.bool true), isV (.int .i64 0), isV (.bool false), isV (.bool false), isV (.agg #[.int .i64 nv, .int .i64 nv]), isV (.int .i64 nv), isV (.int .i64 nv), isV (.agg #[.int .i64 nv, .int .i64 nv]), isV (.bool false), isV (.bool false), isV (.bool false), isV (.bool false), isV (.int .i64 (j : Int)), isV (.bool false), isV (.bool false), isV (undef), isV (undef), isV (.bool false), isV (.bool false)]
                        (by kernel_rfl) (by kernel_rfl) (by kernel_rfl) (by simp) (by simp) (Below.refl _ _).drew ?stabR ?stepR ?finR
                      case stabR => exact (StabL.is (StabL.is (StabL.is (StabL.is (StabL.is (StabL.is (StabL.is (StabL.is (StabL.is (StabL.is (StabL.is (StabL.is (StabL.is (StabL.is (StabL.is (StabL.is (StabL.is (StabL.is (StabL.is (StabL.is (StabL.is StabL.nil)))))))))))))))))))))
                      case stepR =>
                        refine StepsL.isA ?_ (StepsL.isA ?_ (StepsL.isA ?_ (StepsL.isA ?_ (StepsL.isA ?_ (StepsL.isA ?_ (StepsL.isA ?_ (StepsL.isA ?_ (StepsL.isA ?_ (StepsL.isA ?_ (StepsL.isA ?_ (StepsL.isA ?_ (StepsL.isA ?_ (StepsL.isA ?_ (StepsL.isA ?_ (StepsL.isA ?_ (StepsL.isA ?_ (StepsL.isA ?_ (StepsL.isA ?_ (StepsL.isA ?_ (StepsL.isA ?_ StepsL.nil))))))))))))))))))))
                        · -- 0
                          intro vs a W K ha hC hD hU hK
                          have r14 : a.tmps[14]? = some (.int .i64 (j : Int)) := by rw [ha, fillA_base0 (by kernel_rfl)]; exact tb14
                          clear ha hU hD ha0
                          rw [if_pos (by rfl)]
                          go_simp
                          exact hK _ hC (Below.refl _ _)
                        · -- 1
                          intro vs a W K ha hC hD hU hK
                          have r140 : a.tmps[140]? = some (vs 0) := by rw [ha]; exact fillA_get0 (j := 0) (by kernel_rfl) (by rw [hsz]; decide)
                          have q0 : vs 0 = .int .i64 (j : Int) := hD 0 (by simp [waits, Region.binds])
                          rw [q0] at r140
                          clear ha hU hD ha0
                          rw [if_pos (by rfl)]
                          go_simp
                          exact hK _ hC (Below.refl _ _)
                        · -- 2
                          intro vs a W K ha hC hD hU hK
                          have r141 : a.tmps[141]? = some (vs 1) := by rw [ha]; exact fillA_get0 (j := 1) (by kernel_rfl) (by rw [hsz]; decide)
                          have q1 : vs 1 = .bool true := hD 1 (by simp [waits, Region.binds])
                          rw [q1] at r141
                          clear ha hU hD ha0
                          rw [if_pos (by rfl)]
                          go_simp
                          exact hK _ hC (Below.refl _ _)
                        · -- 3
                          intro vs a W K ha hC hD hU hK
                          have r142 : a.tmps[142]? = some (vs 2) := by rw [ha]; exact fillA_get0 (j := 2) (by kernel_rfl) (by rw [hsz]; decide)
                          have q2 : vs 2 = .bool true := hD 2 (by simp [waits, Region.binds])
                          rw [q2] at r142
                          have r17 : a.tmps[17]? = some (.int .i64 0) := by rw [ha, fillA_base0 (by kernel_rfl)]; exact tb17
                          clear ha hU hD ha0
                          rw [if_pos (by simp [Region.wanted, yielded, r142])]
                          go_simp
                          exact hK _ hC (Below.refl _ _)
                        · -- 4
                          intro vs a W K ha hC hD hU hK
                          have r142 : a.tmps[142]? = some (vs 2) := by rw [ha]; exact fillA_get0 (j := 2) (by kernel_rfl) (by rw [hsz]; decide)
                          have q2 : vs 2 = .bool true := hD 2 (by simp [waits, Region.binds])
                          rw [q2] at r142
                          have r143 : a.tmps[143]? = some (vs 3) := by rw [ha]; exact fillA_get0 (j := 3) (by kernel_rfl) (by rw [hsz]; decide)
                          have q3 : vs 3 = .int .i64 0 := hD 3 (by simp [waits, Region.binds])
                          rw [q3] at r143
                          clear ha hU hD ha0
                          rw [if_pos (by simp [Region.wanted, yielded, r142])]
                          go_simp
                          exact hK _ hC (Below.refl _ _)
                        · -- 5
                          intro vs a W K ha hC hD hU hK
                          have r142 : a.tmps[142]? = some (vs 2) := by rw [ha]; exact fillA_get0 (j := 2) (by kernel_rfl) (by rw [hsz]; decide)
                          have q2 : vs 2 = .bool true := hD 2 (by simp [waits, Region.binds])
                          rw [q2] at r142
                          have r144 : a.tmps[144]? = some (vs 4) := by rw [ha]; exact fillA_get0 (j := 4) (by kernel_rfl) (by rw [hsz]; decide)
                          have q4 : vs 4 = .bool false := hD 4 (by simp [waits, Region.binds])
                          rw [q4] at r144
                          clear ha hU hD ha0
                          rw [if_pos (by simp [Region.wanted, yielded, r142])]
                          go_simp
                          exact hK _ hC (Below.refl _ _)
                        · -- 6
                          intro vs a W K ha hC hD hU hK
                          have r145 : a.tmps[145]? = some (vs 5) := by rw [ha]; exact fillA_get0 (j := 5) (by kernel_rfl) (by rw [hsz]; decide)
                          have q5 : vs 5 = .bool false := hD 5 (by simp [waits, Region.binds])
                          rw [q5] at r145
                          have r16 : a.tmps[16]? = some (.pointer (some ⟨g14, 0, none⟩)) := by rw [ha, fillA_base0 (by kernel_rfl)]; exact tb16
                          clear ha hU hD ha0
                          rw [if_pos (by simp [Region.wanted, yielded, r145])]
                          obtain ⟨kz0, kz1⟩ := kz.out W hC
                          go_simp
                          exact hK _ hC (Below.refl _ _)
                        · -- 7
                          intro vs a W K ha hC hD hU hK
                          have r145 : a.tmps[145]? = some (vs 5) := by rw [ha]; exact fillA_get0 (j := 5) (by kernel_rfl) (by rw [hsz]; decide)
                          have q5 : vs 5 = .bool false := hD 5 (by simp [waits, Region.binds])
                          rw [q5] at r145
                          have r15 : a.tmps[15]? = some (.int .i64 nv) := by rw [ha, fillA_base0 (by kernel_rfl)]; exact tb15
                          clear ha hU hD ha0
                          rw [if_pos (by simp [Region.wanted, yielded, r145])]
                          go_simp
                          exact hK _ hC (Below.refl _ _)
                        · -- 8
                          intro vs a W K ha hC hD hU hK
                          have r145 : a.tmps[145]? = some (vs 5) := by rw [ha]; exact fillA_get0 (j := 5) (by kernel_rfl) (by rw [hsz]; decide)
                          have q5 : vs 5 = .bool false := hD 5 (by simp [waits, Region.binds])
                          rw [q5] at r145
                          have r15 : a.tmps[15]? = some (.int .i64 nv) := by rw [ha, fillA_base0 (by kernel_rfl)]; exact tb15
                          clear ha hU hD ha0
                          rw [if_pos (by simp [Region.wanted, yielded, r145])]
                          go_simp
                          exact hK _ hC (Below.refl _ _)
                        · -- 9
                          intro vs a W K ha hC hD hU hK
                          have r145 : a.tmps[145]? = some (vs 5) := by rw [ha]; exact fillA_get0 (j := 5) (by kernel_rfl) (by rw [hsz]; decide)
                          have q5 : vs 5 = .bool false := hD 5 (by simp [waits, Region.binds])
                          rw [q5] at r145
                          have r147 : a.tmps[147]? = some (vs 7) := by rw [ha]; exact fillA_get0 (j := 7) (by kernel_rfl) (by rw [hsz]; decide)
                          have q7 : vs 7 = .int .i64 nv := hD 7 (by simp [waits, Region.binds])
                          rw [q7] at r147
                          have r148 : a.tmps[148]? = some (vs 8) := by rw [ha]; exact fillA_get0 (j := 8) (by kernel_rfl) (by rw [hsz]; decide)
                          have q8 : vs 8 = .int .i64 nv := hD 8 (by simp [waits, Region.binds])
                          rw [q8] at r148
                          clear ha hU hD ha0
                          rw [if_pos (by simp [Region.wanted, yielded, r145])]
                          go_simp
                          refine (span7_any nv nv W).mono ?_
                          rintro e w' ⟨rfl, hb⟩
                          exact hK _ (bl_call hC hb (Nat.le_refl _)) hb
                        · -- 10
                          intro vs a W K ha hC hD hU hK
                          have r145 : a.tmps[145]? = some (vs 5) := by rw [ha]; exact fillA_get0 (j := 5) (by kernel_rfl) (by rw [hsz]; decide)
                          have q5 : vs 5 = .bool false := hD 5 (by simp [waits, Region.binds])
                          rw [q5] at r145
                          have r146 : a.tmps[146]? = some (vs 6) := by rw [ha]; exact fillA_get0 (j := 6) (by kernel_rfl) (by rw [hsz]; decide)
                          have q6 : vs 6 = .agg #[.int .i64 nv, .int .i64 nv] := hD 6 (by simp [waits, Region.binds])
                          rw [q6] at r146
                          have r149 : a.tmps[149]? = some (vs 9) := by rw [ha]; exact fillA_get0 (j := 9) (by kernel_rfl) (by rw [hsz]; decide)
                          have q9 : vs 9 = .agg #[.int .i64 nv, .int .i64 nv] := hD 9 (by simp [waits, Region.binds])
                          rw [q9] at r149
                          clear ha hU hD ha0
                          rw [if_pos (by simp [Region.wanted, yielded, r145])]
                          go_simp
                          exact hK _ hC (Below.refl _ _)
                        · -- 11
                          intro vs a W K ha hC hD hU hK
                          have r142 : a.tmps[142]? = some (vs 2) := by rw [ha]; exact fillA_get0 (j := 2) (by kernel_rfl) (by rw [hsz]; decide)
                          have q2 : vs 2 = .bool true := hD 2 (by simp [waits, Region.binds])
                          rw [q2] at r142
                          have r145 : a.tmps[145]? = some (vs 5) := by rw [ha]; exact fillA_get0 (j := 5) (by kernel_rfl) (by rw [hsz]; decide)
                          have q5 : vs 5 = .bool false := hD 5 (by simp [waits, Region.binds])
                          rw [q5] at r145
                          have r150 : a.tmps[150]? = some (vs 10) := by rw [ha]; exact fillA_get0 (j := 10) (by kernel_rfl) (by rw [hsz]; decide)
                          have q10 : vs 10 = .bool false := hD 10 (by simp [waits, Region.binds])
                          rw [q10] at r150
                          clear ha hU hD ha0
                          rw [if_pos (by simp [Region.wanted, yielded, r142])]
                          go_simp
                          exact hK _ hC (Below.refl _ _)
                        · -- 12
                          intro vs a W K ha hC hD hU hK
                          have r142 : a.tmps[142]? = some (vs 2) := by rw [ha]; exact fillA_get0 (j := 2) (by kernel_rfl) (by rw [hsz]; decide)
                          have q2 : vs 2 = .bool true := hD 2 (by simp [waits, Region.binds])
                          rw [q2] at r142
                          have r151 : a.tmps[151]? = some (vs 11) := by rw [ha]; exact fillA_get0 (j := 11) (by kernel_rfl) (by rw [hsz]; decide)
                          have q11 : vs 11 = .bool false := hD 11 (by simp [waits, Region.binds])
                          rw [q11] at r151
                          clear ha hU hD ha0
                          rw [if_pos (by rfl)]
                          go_simp
                          exact hK _ hC (Below.refl _ _)
                        · -- 13
                          intro vs a W K ha hC hD hU hK
                          have r152 : a.tmps[152]? = some (vs 12) := by rw [ha]; exact fillA_get0 (j := 12) (by kernel_rfl) (by rw [hsz]; decide)
                          have q12 : vs 12 = .bool false := hD 12 (by simp [waits, Region.binds])
                          rw [q12] at r152
                          clear ha hU hD ha0
                          rw [if_pos (by rfl)]
                          go_simp
                          exact hK _ hC (Below.refl _ _)
                        · -- 14
                          intro vs a W K ha hC hD hU hK
                          have r153 : a.tmps[153]? = some (vs 13) := by rw [ha]; exact fillA_get0 (j := 13) (by kernel_rfl) (by rw [hsz]; decide)
                          have q13 : vs 13 = .bool false := hD 13 (by simp [waits, Region.binds])
                          rw [q13] at r153
                          have r14 : a.tmps[14]? = some (.int .i64 (j : Int)) := by rw [ha, fillA_base0 (by kernel_rfl)]; exact tb14
                          clear ha hU hD ha0
                          rw [if_pos (by simp [Region.wanted, yielded, r153])]
                          go_simp
                          exact hK _ hC (Below.refl _ _)
                        · -- 15
                          intro vs a W K ha hC hD hU hK
                          have r153 : a.tmps[153]? = some (vs 13) := by rw [ha]; exact fillA_get0 (j := 13) (by kernel_rfl) (by rw [hsz]; decide)
                          have q13 : vs 13 = .bool false := hD 13 (by simp [waits, Region.binds])
                          rw [q13] at r153
                          have r154 : a.tmps[154]? = some (vs 14) := by rw [ha]; exact fillA_get0 (j := 14) (by kernel_rfl) (by rw [hsz]; decide)
                          have q14 : vs 14 = .int .i64 (j : Int) := hD 14 (by simp [waits, Region.binds])
                          rw [q14] at r154
                          clear ha hU hD ha0
                          rw [if_pos (by simp [Region.wanted, yielded, r153])]
                          go_simp
                          exact hK _ hC (Below.refl _ _)
                        · -- 16
                          intro vs a W K ha hC hD hU hK
                          have r153 : a.tmps[153]? = some (vs 13) := by rw [ha]; exact fillA_get0 (j := 13) (by kernel_rfl) (by rw [hsz]; decide)
                          have q13 : vs 13 = .bool false := hD 13 (by simp [waits, Region.binds])
                          rw [q13] at r153
                          have r155 : a.tmps[155]? = some (vs 15) := by rw [ha]; exact fillA_get0 (j := 15) (by kernel_rfl) (by rw [hsz]; decide)
                          have q15 : vs 15 = .bool false := hD 15 (by simp [waits, Region.binds])
                          rw [q15] at r155
                          clear ha hU hD ha0
                          rw [if_pos (by simp [Region.wanted, yielded, r153])]
                          go_simp
                          exact hK _ hC (Below.refl _ _)
                        · -- 17
                          intro vs a W K ha hC hD hU hK
                          have r156 : a.tmps[156]? = some (vs 16) := by rw [ha]; exact fillA_get0 (j := 16) (by kernel_rfl) (by rw [hsz]; decide)
                          have q16 : vs 16 = .bool false := hD 16 (by simp [waits, Region.binds])
                          rw [q16] at r156
                          clear ha hU hD ha0
                          rw [if_neg (by simp [Region.wanted, yielded, r156, undef])]
                        · -- 18
                          intro vs a W K ha hC hD hU hK
                          have r156 : a.tmps[156]? = some (vs 16) := by rw [ha]; exact fillA_get0 (j := 16) (by kernel_rfl) (by rw [hsz]; decide)
                          have q16 : vs 16 = .bool false := hD 16 (by simp [waits, Region.binds])
                          rw [q16] at r156
                          clear ha hU hD ha0
                          rw [if_neg (by simp [Region.wanted, yielded, r156, undef])]
                        · -- 19
                          intro vs a W K ha hC hD hU hK
                          have r153 : a.tmps[153]? = some (vs 13) := by rw [ha]; exact fillA_get0 (j := 13) (by kernel_rfl) (by rw [hsz]; decide)
                          have q13 : vs 13 = .bool false := hD 13 (by simp [waits, Region.binds])
                          rw [q13] at r153
                          have r156 : a.tmps[156]? = some (vs 16) := by rw [ha]; exact fillA_get0 (j := 16) (by kernel_rfl) (by rw [hsz]; decide)
                          have q16 : vs 16 = .bool false := hD 16 (by simp [waits, Region.binds])
                          rw [q16] at r156
                          have r158 : a.tmps[158]? = some (vs 18) := by rw [ha]; exact fillA_get0 (j := 18) (by kernel_rfl) (by rw [hsz]; decide)
                          have q18 : vs 18 = undef := hD 18 (by simp [waits, Region.binds])
                          rw [q18] at r158
                          clear ha hU hD ha0
                          rw [if_pos (by simp [Region.wanted, yielded, r153])]
                          go_simp
                          exact hK _ hC (Below.refl _ _)
                        · -- 20
                          intro vs a W K ha hC hD hU hK
                          have r153 : a.tmps[153]? = some (vs 13) := by rw [ha]; exact fillA_get0 (j := 13) (by kernel_rfl) (by rw [hsz]; decide)
                          have q13 : vs 13 = .bool false := hD 13 (by simp [waits, Region.binds])
                          rw [q13] at r153
                          have r159 : a.tmps[159]? = some (vs 19) := by rw [ha]; exact fillA_get0 (j := 19) (by kernel_rfl) (by rw [hsz]; decide)
                          have q19 : vs 19 = .bool false := hD 19 (by simp [waits, Region.binds])
                          rw [q19] at r159
                          clear ha hU hD ha0
                          rw [if_pos (by rfl)]
                          go_simp
                          exact hK _ hC (Below.refl _ _)
                      case finR =>
                        refine Fin1.none (Nat.le_refl _) ?_
                        intro vs W a1 hC hE ha
                        have eL : vs 20 = .bool false := hE 20 (by simp)
                        rw [ha, ha0]
                        clear ha ha0 hsz tb14 tb15 tb16 tb17
                        simp only [fillA, Act.put, List.setIfInBounds_toArray, List.set_cons_zero, List.set_cons_succ, Nat.zero_add, Nat.reduceAdd, eL]
                        obtain ⟨u0, hu0⟩ : ∃ v0, vs 0 = v0 := ⟨_, rfl⟩
                        obtain ⟨u1, hu1⟩ : ∃ v0, vs 1 = v0 := ⟨_, rfl⟩
                        obtain ⟨u2, hu2⟩ : ∃ v0, vs 2 = v0 := ⟨_, rfl⟩
                        obtain ⟨u3, hu3⟩ : ∃ v0, vs 3 = v0 := ⟨_, rfl⟩
                        obtain ⟨u4, hu4⟩ : ∃ v0, vs 4 = v0 := ⟨_, rfl⟩
                        obtain ⟨u5, hu5⟩ : ∃ v0, vs 5 = v0 := ⟨_, rfl⟩
                        obtain ⟨u6, hu6⟩ : ∃ v0, vs 6 = v0 := ⟨_, rfl⟩
                        obtain ⟨u7, hu7⟩ : ∃ v0, vs 7 = v0 := ⟨_, rfl⟩
                        obtain ⟨u8, hu8⟩ : ∃ v0, vs 8 = v0 := ⟨_, rfl⟩
                        obtain ⟨u9, hu9⟩ : ∃ v0, vs 9 = v0 := ⟨_, rfl⟩
                        obtain ⟨u10, hu10⟩ : ∃ v0, vs 10 = v0 := ⟨_, rfl⟩
                        obtain ⟨u11, hu11⟩ : ∃ v0, vs 11 = v0 := ⟨_, rfl⟩
                        obtain ⟨u12, hu12⟩ : ∃ v0, vs 12 = v0 := ⟨_, rfl⟩
                        obtain ⟨u13, hu13⟩ : ∃ v0, vs 13 = v0 := ⟨_, rfl⟩
                        obtain ⟨u14, hu14⟩ : ∃ v0, vs 14 = v0 := ⟨_, rfl⟩
                        obtain ⟨u15, hu15⟩ : ∃ v0, vs 15 = v0 := ⟨_, rfl⟩
                        obtain ⟨u16, hu16⟩ : ∃ v0, vs 16 = v0 := ⟨_, rfl⟩
                        obtain ⟨u17, hu17⟩ : ∃ v0, vs 17 = v0 := ⟨_, rfl⟩
                        obtain ⟨u18, hu18⟩ : ∃ v0, vs 18 = v0 := ⟨_, rfl⟩
                        obtain ⟨u19, hu19⟩ : ∃ v0, vs 19 = v0 := ⟨_, rfl⟩
                        rw [hu0, hu1, hu2, hu3, hu4, hu5, hu6, hu7, hu8, hu9, hu10, hu11, hu12, hu13, hu14, hu15, hu16, hu17, hu18, hu19]
                        clear hu0 hu1 hu2 hu3 hu4 hu5 hu6 hu7 hu8 hu9 hu10 hu11 hu12 hu13 hu14 hu15 hu16 hu17 hu18 hu19
                        have HBR : Hid (Below V12.heap.size V12 W) := bl_call HBW4.out hC (Nat.le_refl _)
                        clear hE eL hC kz
                        go_wp2_with fail
                        go_roundw
                        case rel => exact ⟨j + 1, by go_num, by omega, HBR.out⟩
                        case measure => simp [intOf]; omega
                    · rw [HZB.out hj2]
                      have hj2i : decide ((j : Int) < 2) = false := decide_eq_false (by omega)
                      have hj2g : decide ((2 : Int) ≤ (j : Int)) = true := decide_eq_true (by omega)
                      clear HZA HZB HZZ
                      go_wp2_with fail
                      refine wp_frameT ?_
                      intro a0 ha0
                      have tb14 : a0.tmps[14]? = some (.int .i64 (j : Int)) := by rw [ha0]; kernel_rfl
                      have tb17 : a0.tmps[17]? = some (.int .i64 9) := by rw [ha0]; kernel_rfl
                      have hsz : a0.tmps.size = 228 := by rw [ha0]; kernel_rfl
                      refine wp_region_list (fun W => Below Wc.heap.size Wc W) (fun w w' => Below w.heap.size w w')
                        [isV (.int .i64 (j : Int)), isV (.bool false), isV (.bool false), isV (undef), isV (undef), isV (undef), isV (undef), isV (undef), isV (undef), isV (undef), isV (undef), isV (undef), isV (.bool false), isV (.bool false), isV (.int .i64 (j : Int)), isV (.bool true), isV (.bool true), isV (.int .i64 9), isV (.bool false), isV (.bool false), isV (.bool false)]
                        (by kernel_rfl) (by kernel_rfl) (by kernel_rfl) (by simp) (by simp) (Below.refl _ _).drew ?stabS ?stepS ?finS
                      case stabS => exact (StabL.is (StabL.is (StabL.is (StabL.is (StabL.is (StabL.is (StabL.is (StabL.is (StabL.is (StabL.is (StabL.is (StabL.is (StabL.is (StabL.is (StabL.is (StabL.is (StabL.is (StabL.is (StabL.is (StabL.is (StabL.is StabL.nil)))))))))))))))))))))
                      case stepS =>
                        refine StepsL.isA ?_ (StepsL.isA ?_ (StepsL.isA ?_ (StepsL.isA ?_ (StepsL.isA ?_ (StepsL.isA ?_ (StepsL.isA ?_ (StepsL.isA ?_ (StepsL.isA ?_ (StepsL.isA ?_ (StepsL.isA ?_ (StepsL.isA ?_ (StepsL.isA ?_ (StepsL.isA ?_ (StepsL.isA ?_ (StepsL.isA ?_ (StepsL.isA ?_ (StepsL.isA ?_ (StepsL.isA ?_ (StepsL.isA ?_ (StepsL.isA ?_ StepsL.nil))))))))))))))))))))
                        · -- 0
                          intro vs a W K ha hC hD hU hK
                          have r14 : a.tmps[14]? = some (.int .i64 (j : Int)) := by rw [ha, fillA_base0 (by kernel_rfl)]; exact tb14
                          clear ha hU hD ha0
                          rw [if_pos (by rfl)]
                          go_simp
                          exact hK _ hC (Below.refl _ _)
                        · -- 1
                          intro vs a W K ha hC hD hU hK
                          have r140 : a.tmps[140]? = some (vs 0) := by rw [ha]; exact fillA_get0 (j := 0) (by kernel_rfl) (by rw [hsz]; decide)
                          have q0 : vs 0 = .int .i64 (j : Int) := hD 0 (by simp [waits, Region.binds])
                          rw [q0] at r140
                          clear ha hU hD ha0
                          rw [if_pos (by rfl)]
                          go_simp
                          exact hK _ hC (Below.refl _ _)
                        · -- 2
                          intro vs a W K ha hC hD hU hK
                          have r141 : a.tmps[141]? = some (vs 1) := by rw [ha]; exact fillA_get0 (j := 1) (by kernel_rfl) (by rw [hsz]; decide)
                          have q1 : vs 1 = .bool false := hD 1 (by simp [waits, Region.binds])
                          rw [q1] at r141
                          clear ha hU hD ha0
                          rw [if_pos (by rfl)]
                          go_simp
                          exact hK _ hC (Below.refl _ _)
                        · -- 3
                          intro vs a W K ha hC hD hU hK
                          have r142 : a.tmps[142]? = some (vs 2) := by rw [ha]; exact fillA_get0 (j := 2) (by kernel_rfl) (by rw [hsz]; decide)
                          have q2 : vs 2 = .bool false := hD 2 (by simp [waits, Region.binds])
                          rw [q2] at r142
                          clear ha hU hD ha0
                          rw [if_neg (by simp [Region.wanted, yielded, r142, undef])]
                        · -- 4
                          intro vs a W K ha hC hD hU hK
                          have r142 : a.tmps[142]? = some (vs 2) := by rw [ha]; exact fillA_get0 (j := 2) (by kernel_rfl) (by rw [hsz]; decide)
                          have q2 : vs 2 = .bool false := hD 2 (by simp [waits, Region.binds])
                          rw [q2] at r142
                          clear ha hU hD ha0
                          rw [if_neg (by simp [Region.wanted, yielded, r142, undef])]
                        · -- 5
                          intro vs a W K ha hC hD hU hK
                          have r142 : a.tmps[142]? = some (vs 2) := by rw [ha]; exact fillA_get0 (j := 2) (by kernel_rfl) (by rw [hsz]; decide)
                          have q2 : vs 2 = .bool false := hD 2 (by simp [waits, Region.binds])
                          rw [q2] at r142
                          clear ha hU hD ha0
                          rw [if_neg (by simp [Region.wanted, yielded, r142, undef])]
                        · -- 6
                          intro vs a W K ha hC hD hU hK
                          have r145 : a.tmps[145]? = some (vs 5) := by rw [ha]; exact fillA_get0 (j := 5) (by kernel_rfl) (by rw [hsz]; decide)
                          have q5 : vs 5 = undef := hD 5 (by simp [waits, Region.binds])
                          rw [q5] at r145
                          clear ha hU hD ha0
                          rw [if_neg (by simp [Region.wanted, yielded, r145, undef])]
                        · -- 7
                          intro vs a W K ha hC hD hU hK
                          have r145 : a.tmps[145]? = some (vs 5) := by rw [ha]; exact fillA_get0 (j := 5) (by kernel_rfl) (by rw [hsz]; decide)
                          have q5 : vs 5 = undef := hD 5 (by simp [waits, Region.binds])
                          rw [q5] at r145
                          clear ha hU hD ha0
                          rw [if_neg (by simp [Region.wanted, yielded, r145, undef])]
                        · -- 8
                          intro vs a W K ha hC hD hU hK
                          have r145 : a.tmps[145]? = some (vs 5) := by rw [ha]; exact fillA_get0 (j := 5) (by kernel_rfl) (by rw [hsz]; decide)
                          have q5 : vs 5 = undef := hD 5 (by simp [waits, Region.binds])
                          rw [q5] at r145
                          clear ha hU hD ha0
                          rw [if_neg (by simp [Region.wanted, yielded, r145, undef])]
                        · -- 9
                          intro vs a W K ha hC hD hU hK
                          have r145 : a.tmps[145]? = some (vs 5) := by rw [ha]; exact fillA_get0 (j := 5) (by kernel_rfl) (by rw [hsz]; decide)
                          have q5 : vs 5 = undef := hD 5 (by simp [waits, Region.binds])
                          rw [q5] at r145
                          clear ha hU hD ha0
                          rw [if_neg (by simp [Region.wanted, yielded, r145, undef])]
                        · -- 10
                          intro vs a W K ha hC hD hU hK
                          have r145 : a.tmps[145]? = some (vs 5) := by rw [ha]; exact fillA_get0 (j := 5) (by kernel_rfl) (by rw [hsz]; decide)
                          have q5 : vs 5 = undef := hD 5 (by simp [waits, Region.binds])
                          rw [q5] at r145
                          clear ha hU hD ha0
                          rw [if_neg (by simp [Region.wanted, yielded, r145, undef])]
                        · -- 11
                          intro vs a W K ha hC hD hU hK
                          have r142 : a.tmps[142]? = some (vs 2) := by rw [ha]; exact fillA_get0 (j := 2) (by kernel_rfl) (by rw [hsz]; decide)
                          have q2 : vs 2 = .bool false := hD 2 (by simp [waits, Region.binds])
                          rw [q2] at r142
                          clear ha hU hD ha0
                          rw [if_neg (by simp [Region.wanted, yielded, r142, undef])]
                        · -- 12
                          intro vs a W K ha hC hD hU hK
                          have r142 : a.tmps[142]? = some (vs 2) := by rw [ha]; exact fillA_get0 (j := 2) (by kernel_rfl) (by rw [hsz]; decide)
                          have q2 : vs 2 = .bool false := hD 2 (by simp [waits, Region.binds])
                          rw [q2] at r142
                          have r151 : a.tmps[151]? = some (vs 11) := by rw [ha]; exact fillA_get0 (j := 11) (by kernel_rfl) (by rw [hsz]; decide)
                          have q11 : vs 11 = undef := hD 11 (by simp [waits, Region.binds])
                          rw [q11] at r151
                          clear ha hU hD ha0
                          rw [if_pos (by rfl)]
                          go_simp
                          exact hK _ hC (Below.refl _ _)
                        · -- 13
                          intro vs a W K ha hC hD hU hK
                          have r152 : a.tmps[152]? = some (vs 12) := by rw [ha]; exact fillA_get0 (j := 12) (by kernel_rfl) (by rw [hsz]; decide)
                          have q12 : vs 12 = .bool false := hD 12 (by simp [waits, Region.binds])
                          rw [q12] at r152
                          clear ha hU hD ha0
                          rw [if_pos (by rfl)]
                          go_simp
                          exact hK _ hC (Below.refl _ _)
                        · -- 14
                          intro vs a W K ha hC hD hU hK
                          have r153 : a.tmps[153]? = some (vs 13) := by rw [ha]; exact fillA_get0 (j := 13) (by kernel_rfl) (by rw [hsz]; decide)
                          have q13 : vs 13 = .bool false := hD 13 (by simp [waits, Region.binds])
                          rw [q13] at r153
                          have r14 : a.tmps[14]? = some (.int .i64 (j : Int)) := by rw [ha, fillA_base0 (by kernel_rfl)]; exact tb14
                          clear ha hU hD ha0
                          rw [if_pos (by simp [Region.wanted, yielded, r153])]
                          go_simp
                          exact hK _ hC (Below.refl _ _)
                        · -- 15
                          intro vs a W K ha hC hD hU hK
                          have r153 : a.tmps[153]? = some (vs 13) := by rw [ha]; exact fillA_get0 (j := 13) (by kernel_rfl) (by rw [hsz]; decide)
                          have q13 : vs 13 = .bool false := hD 13 (by simp [waits, Region.binds])
                          rw [q13] at r153
                          have r154 : a.tmps[154]? = some (vs 14) := by rw [ha]; exact fillA_get0 (j := 14) (by kernel_rfl) (by rw [hsz]; decide)
                          have q14 : vs 14 = .int .i64 (j : Int) := hD 14 (by simp [waits, Region.binds])
                          rw [q14] at r154
                          clear ha hU hD ha0
                          rw [if_pos (by simp [Region.wanted, yielded, r153])]
                          go_simp
                          exact hK _ hC (Below.refl _ _)
                        · -- 16
                          intro vs a W K ha hC hD hU hK
                          have r153 : a.tmps[153]? = some (vs 13) := by rw [ha]; exact fillA_get0 (j := 13) (by kernel_rfl) (by rw [hsz]; decide)
                          have q13 : vs 13 = .bool false := hD 13 (by simp [waits, Region.binds])
                          rw [q13] at r153
                          have r155 : a.tmps[155]? = some (vs 15) := by rw [ha]; exact fillA_get0 (j := 15) (by kernel_rfl) (by rw [hsz]; decide)
                          have q15 : vs 15 = .bool true := hD 15 (by simp [waits, Region.binds])
                          rw [q15] at r155
                          clear ha hU hD ha0
                          rw [if_pos (by simp [Region.wanted, yielded, r153])]
                          go_simp
                          exact hK _ hC (Below.refl _ _)
                        · -- 17
                          intro vs a W K ha hC hD hU hK
                          have r156 : a.tmps[156]? = some (vs 16) := by rw [ha]; exact fillA_get0 (j := 16) (by kernel_rfl) (by rw [hsz]; decide)
                          have q16 : vs 16 = .bool true := hD 16 (by simp [waits, Region.binds])
                          rw [q16] at r156
                          have r17 : a.tmps[17]? = some (.int .i64 9) := by rw [ha, fillA_base0 (by kernel_rfl)]; exact tb17
                          clear ha hU hD ha0
                          rw [if_pos (by simp [Region.wanted, yielded, r156])]
                          go_simp
                          exact hK _ hC (Below.refl _ _)
                        · -- 18
                          intro vs a W K ha hC hD hU hK
                          have r156 : a.tmps[156]? = some (vs 16) := by rw [ha]; exact fillA_get0 (j := 16) (by kernel_rfl) (by rw [hsz]; decide)
                          have q16 : vs 16 = .bool true := hD 16 (by simp [waits, Region.binds])
                          rw [q16] at r156
                          have r157 : a.tmps[157]? = some (vs 17) := by rw [ha]; exact fillA_get0 (j := 17) (by kernel_rfl) (by rw [hsz]; decide)
                          have q17 : vs 17 = .int .i64 9 := hD 17 (by simp [waits, Region.binds])
                          rw [q17] at r157
                          clear ha hU hD ha0
                          rw [if_pos (by simp [Region.wanted, yielded, r156])]
                          go_simp
                          exact hK _ hC (Below.refl _ _)
                        · -- 19
                          intro vs a W K ha hC hD hU hK
                          have r153 : a.tmps[153]? = some (vs 13) := by rw [ha]; exact fillA_get0 (j := 13) (by kernel_rfl) (by rw [hsz]; decide)
                          have q13 : vs 13 = .bool false := hD 13 (by simp [waits, Region.binds])
                          rw [q13] at r153
                          have r156 : a.tmps[156]? = some (vs 16) := by rw [ha]; exact fillA_get0 (j := 16) (by kernel_rfl) (by rw [hsz]; decide)
                          have q16 : vs 16 = .bool true := hD 16 (by simp [waits, Region.binds])
                          rw [q16] at r156
                          have r158 : a.tmps[158]? = some (vs 18) := by rw [ha]; exact fillA_get0 (j := 18) (by kernel_rfl) (by rw [hsz]; decide)
                          have q18 : vs 18 = .bool false := hD 18 (by simp [waits, Region.binds])
                          rw [q18] at r158
                          clear ha hU hD ha0
                          rw [if_pos (by simp [Region.wanted, yielded, r153])]
                          go_simp
                          exact hK _ hC (Below.refl _ _)
                        · -- 20
                          intro vs a W K ha hC hD hU hK
                          have r153 : a.tmps[153]? = some (vs 13) := by rw [ha]; exact fillA_get0 (j := 13) (by kernel_rfl) (by rw [hsz]; decide)
                          have q13 : vs 13 = .bool false := hD 13 (by simp [waits, Region.binds])
                          rw [q13] at r153
                          have r159 : a.tmps[159]? = some (vs 19) := by rw [ha]; exact fillA_get0 (j := 19) (by kernel_rfl) (by rw [hsz]; decide)
                          have q19 : vs 19 = .bool false := hD 19 (by simp [waits, Region.binds])
                          rw [q19] at r159
                          clear ha hU hD ha0
                          rw [if_pos (by rfl)]
                          go_simp
                          exact hK _ hC (Below.refl _ _)
                      case finS =>
                        refine Fin1.none (Nat.le_refl _) ?_
                        intro vs W a1 hC hE ha
                        have eL : vs 20 = .bool false := hE 20 (by simp)
                        rw [ha, ha0]
                        clear ha ha0 hsz tb14 tb17
                        simp only [fillA, Act.put, List.setIfInBounds_toArray, List.set_cons_zero, List.set_cons_succ, Nat.zero_add, Nat.reduceAdd, eL]
                        obtain ⟨u0, hu0⟩ : ∃ v0, vs 0 = v0 := ⟨_, rfl⟩
                        obtain ⟨u1, hu1⟩ : ∃ v0, vs 1 = v0 := ⟨_, rfl⟩
                        obtain ⟨u2, hu2⟩ : ∃ v0, vs 2 = v0 := ⟨_, rfl⟩
                        obtain ⟨u3, hu3⟩ : ∃ v0, vs 3 = v0 := ⟨_, rfl⟩
                        obtain ⟨u4, hu4⟩ : ∃ v0, vs 4 = v0 := ⟨_, rfl⟩
                        obtain ⟨u5, hu5⟩ : ∃ v0, vs 5 = v0 := ⟨_, rfl⟩
                        obtain ⟨u6, hu6⟩ : ∃ v0, vs 6 = v0 := ⟨_, rfl⟩
                        obtain ⟨u7, hu7⟩ : ∃ v0, vs 7 = v0 := ⟨_, rfl⟩
                        obtain ⟨u8, hu8⟩ : ∃ v0, vs 8 = v0 := ⟨_, rfl⟩
                        obtain ⟨u9, hu9⟩ : ∃ v0, vs 9 = v0 := ⟨_, rfl⟩
                        obtain ⟨u10, hu10⟩ : ∃ v0, vs 10 = v0 := ⟨_, rfl⟩
                        obtain ⟨u11, hu11⟩ : ∃ v0, vs 11 = v0 := ⟨_, rfl⟩
                        obtain ⟨u12, hu12⟩ : ∃ v0, vs 12 = v0 := ⟨_, rfl⟩
                        obtain ⟨u13, hu13⟩ : ∃ v0, vs 13 = v0 := ⟨_, rfl⟩
                        obtain ⟨u14, hu14⟩ : ∃ v0, vs 14 = v0 := ⟨_, rfl⟩
                        obtain ⟨u15, hu15⟩ : ∃ v0, vs 15 = v0 := ⟨_, rfl⟩
                        obtain ⟨u16, hu16⟩ : ∃ v0, vs 16 = v0 := ⟨_, rfl⟩
                        obtain ⟨u17, hu17⟩ : ∃ v0, vs 17 = v0 := ⟨_, rfl⟩
                        obtain ⟨u18, hu18⟩ : ∃ v0, vs 18 = v0 := ⟨_, rfl⟩
                        obtain ⟨u19, hu19⟩ : ∃ v0, vs 19 = v0 := ⟨_, rfl⟩
                        rw [hu0, hu1, hu2, hu3, hu4, hu5, hu6, hu7, hu8, hu9, hu10, hu11, hu12, hu13, hu14, hu15, hu16, hu17, hu18, hu19]
                        clear hu0 hu1 hu2 hu3 hu4 hu5 hu6 hu7 hu8 hu9 hu10 hu11 hu12 hu13 hu14 hu15 hu16 hu17 hu18 hu19
                        have HBR : Hid (Below V12.heap.size V12 W) := bl_call HBW4.out hC (Nat.le_refl _)
                        clear hE eL hC kz
                        go_wp2_with fail
                        go_roundw
                        case rel => exact ⟨j + 1, by go_num, by omega, HBR.out⟩
                        case measure => simp [intOf]; omega
            · have hji : ¬ (j : Int) < 4 := by omega
              clear hws1 hws2
              go_wp2_with fail
              have HB0 : Hid (Below V12.heap.size V12 wr) := HBj
              obtain ⟨W0, hW0⟩ : ∃ V, V = wr := ⟨_, rfl⟩
              subst hW0
              go_loopw [18] (fun i wr => ∃ k : Nat, i = .int .i64 k ∧ k ≤ kn ∧ Hid (Below V12.heap.size V12 wr)) (fun i _ => kn - (intOf i).toNat)
              case atStart => exact ⟨0, rfl, Nat.zero_le _, HB0.out⟩
              case round =>
                obtain ⟨k, rfl, hk, HBk⟩ := hrel
                have HBw : Hid (Below WW.heap.size WW wr) := bl_call HB12.out HBk.out (Nat.le_refl _)
                by_cases hlt2 : k < kn
                · have hki : (k : Int) < kn := by omega
                  obtain ⟨bS, oS, x, rfl, hcS, HxS⟩ := Ints.get (HD.out wr HBk.out) hlt2
                  have hxk : x ∈ known7 s l := by rw [HK0.out]; exact List.mem_of_getElem? HxS.out
                  have hxb := (known_iff.1 hxk).1
                  rw [hH1.out, hH2.out] at hxb
                  have hx1 : ¬ x < klo := by omega
                  have hx2 : ¬ khi < x := by omega
                  have HRK := Lib.hid (reach_k HE.out hxk)
                  have hx1d : decide (x < klo) = false := decide_eq_false hx1
                  have hx2d : decide (khi < x) = false := decide_eq_false hx2
                  clear hxk hxb
                  obtain ⟨gJ, hgJ⟩ : ∃ g, wr.heap.size = g := ⟨_, rfl⟩
                  obtain ⟨VJ, hVJ⟩ : ∃ V, wr.alloc (.cells #[.int .i64 klo, .int .i64 khi, .slice (some ⟨bM, oM, none⟩) n ca] 46) = V := ⟨_, rfl⟩
                  have SJ : Blk VJ gJ 46 #[.int .i64 klo, .int .i64 khi, .slice (some ⟨bM, oM, none⟩) n ca] := by rw [← hVJ]; exact Blk.new _ _ _ hgJ.symm
                  have hbJ : Below wr.heap.size wr VJ := by rw [← hVJ]; exact bl_alloc (Below.refl _ _) _ (Nat.le_refl _)
                  have hgJ2 : wr.heap.size ≤ gJ := by omega
                  have HSJ := Lib.hid SJ
                  have HBJ := Lib.hid hbJ
                  have kq : Hid (∀ V, Below wr.heap.size wr V → V.cell? ⟨bS, oS + k, none⟩ = some (.int .i64 x)) := fun V hb => getc hb hcS
                  obtain ⟨x0, x1, x2, y0, y1, y2⟩ := kk.out wr HBw.out
                  clear SJ hbJ
                  go_wp2_with fail
                  clear x0 x1 x2 y0 y1 y2 hVJ hgJ
                  refine wp_frameT ?_
                  intro a0 ha0
                  have tb11 : a0.tmps[11]? = some (.slice (some ⟨bS, oS, none⟩) kn kc) := by rw [ha0]; kernel_rfl
                  have tb18 : a0.tmps[18]? = some (.int .i64 (k : Int)) := by rw [ha0]; kernel_rfl
                  have tb19 : a0.tmps[19]? = some (.pointer (some ⟨gJ, 0, none⟩)) := by rw [ha0]; kernel_rfl
                  have hsz : a0.tmps.size = 228 := by rw [ha0]; kernel_rfl
                  refine wp_region_list (fun W => Below VJ.heap.size VJ W) (fun w w' => Below w.heap.size w w')
                    [isV (.slice (some ⟨bS, oS, none⟩) kn kc), isV (.int .i64 (k : Int)), isV (.pointer (some ⟨bS, oS + k, none⟩)), isV (.int .i64 x), isV (.slice (some ⟨bS, oS, none⟩) kn kc), isV (.int .i64 (k : Int)), isV (.pointer (some ⟨bS, oS + k, none⟩)), isV (.int .i64 x), isV (.agg #[.int .i64 x, .int .i64 x]), isV (.pointer (some ⟨gJ, 0, none⟩))]
                    (by kernel_rfl) (by kernel_rfl) (by kernel_rfl) (by simp) (by simp) (Below.refl _ _).drew ?stabY ?stepY ?finY
                  case stabY => exact (StabL.is (StabL.is (StabL.is (StabL.is (StabL.is (StabL.is (StabL.is (StabL.is (StabL.is (StabL.is StabL.nil))))))))))
                  case stepY =>
                    refine StepsL.isA ?_ (StepsL.isA ?_ (StepsL.isA ?_ (StepsL.isA ?_ (StepsL.isA ?_ (StepsL.isA ?_ (StepsL.isA ?_ (StepsL.isA ?_ (StepsL.isA ?_ (StepsL.isA ?_ StepsL.nil)))))))))
                    · -- 0
                      intro vs a W K ha hC hD hU hK
                      have r11 : a.tmps[11]? = some (.slice (some ⟨bS, oS, none⟩) kn kc) := by rw [ha, fillA_base0 (by kernel_rfl)]; exact tb11
                      clear ha hU hD ha0
                      rw [if_pos (by rfl)]
                      go_simp
                      exact hK _ hC (Below.refl _ _)
                    · -- 1
                      intro vs a W K ha hC hD hU hK
                      have r18 : a.tmps[18]? = some (.int .i64 (k : Int)) := by rw [ha, fillA_base0 (by kernel_rfl)]; exact tb18
                      clear ha hU hD ha0
                      rw [if_pos (by rfl)]
                      go_simp
                      exact hK _ hC (Below.refl _ _)
                    · -- 2
                      intro vs a W K ha hC hD hU hK
                      have r168 : a.tmps[168]? = some (vs 0) := by rw [ha]; exact fillA_get0 (j := 0) (by kernel_rfl) (by rw [hsz]; decide)
                      have q0 : vs 0 = .slice (some ⟨bS, oS, none⟩) kn kc := hD 0 (by simp [waits, Region.binds])
                      rw [q0] at r168
                      have r169 : a.tmps[169]? = some (vs 1) := by rw [ha]; exact fillA_get0 (j := 1) (by kernel_rfl) (by rw [hsz]; decide)
                      have q1 : vs 1 = .int .i64 (k : Int) := hD 1 (by simp [waits, Region.binds])
                      rw [q1] at r169
                      clear ha hU hD ha0
                      rw [if_pos (by rfl)]
                      go_simp
                      exact hK _ hC (Below.refl _ _)
                    · -- 3
                      intro vs a W K ha hC hD hU hK
                      have r170 : a.tmps[170]? = some (vs 2) := by rw [ha]; exact fillA_get0 (j := 2) (by kernel_rfl) (by rw [hsz]; decide)
                      have q2 : vs 2 = .pointer (some ⟨bS, oS + k, none⟩) := hD 2 (by simp [waits, Region.binds])
                      rw [q2] at r170
                      clear ha hU hD ha0
                      rw [if_pos (by rfl)]
                      have kqx := kq.out W (bl_call HBJ.out hC (Nat.le_refl _))
                      go_simp
                      exact hK _ hC (Below.refl _ _)
                    · -- 4
                      intro vs a W K ha hC hD hU hK
                      have r11 : a.tmps[11]? = some (.slice (some ⟨bS, oS, none⟩) kn kc) := by rw [ha, fillA_base0 (by kernel_rfl)]; exact tb11
                      clear ha hU hD ha0
                      rw [if_pos (by rfl)]
                      go_simp
                      exact hK _ hC (Below.refl _ _)
                    · -- 5
                      intro vs a W K ha hC hD hU hK
                      have r18 : a.tmps[18]? = some (.int .i64 (k : Int)) := by rw [ha, fillA_base0 (by kernel_rfl)]; exact tb18
                      clear ha hU hD ha0
                      rw [if_pos (by rfl)]
                      go_simp
                      exact hK _ hC (Below.refl _ _)
                    · -- 6
                      intro vs a W K ha hC hD hU hK
                      have r172 : a.tmps[172]? = some (vs 4) := by rw [ha]; exact fillA_get0 (j := 4) (by kernel_rfl) (by rw [hsz]; decide)
                      have q4 : vs 4 = .slice (some ⟨bS, oS, none⟩) kn kc := hD 4 (by simp [waits, Region.binds])
                      rw [q4] at r172
                      have r173 : a.tmps[173]? = some (vs 5) := by rw [ha]; exact fillA_get0 (j := 5) (by kernel_rfl) (by rw [hsz]; decide)
                      have q5 : vs 5 = .int .i64 (k : Int) := hD 5 (by simp [waits, Region.binds])
                      rw [q5] at r173
                      clear ha hU hD ha0
                      rw [if_pos (by rfl)]
                      go_simp
                      exact hK _ hC (Below.refl _ _)
                    · -- 7
                      intro vs a W K ha hC hD hU hK
                      have r174 : a.tmps[174]? = some (vs 6) := by rw [ha]; exact fillA_get0 (j := 6) (by kernel_rfl) (by rw [hsz]; decide)
                      have q6 : vs 6 = .pointer (some ⟨bS, oS + k, none⟩) := hD 6 (by simp [waits, Region.binds])
                      rw [q6] at r174
                      clear ha hU hD ha0
                      rw [if_pos (by rfl)]
                      have kqx := kq.out W (bl_call HBJ.out hC (Nat.le_refl _))
                      go_simp
                      exact hK _ hC (Below.refl _ _)
                    · -- 8
                      intro vs a W K ha hC hD hU hK
                      have r171 : a.tmps[171]? = some (vs 3) := by rw [ha]; exact fillA_get0 (j := 3) (by kernel_rfl) (by rw [hsz]; decide)
                      have q3 : vs 3 = .int .i64 x := hD 3 (by simp [waits, Region.binds])
                      rw [q3] at r171
                      have r175 : a.tmps[175]? = some (vs 7) := by rw [ha]; exact fillA_get0 (j := 7) (by kernel_rfl) (by rw [hsz]; decide)
                      have q7 : vs 7 = .int .i64 x := hD 7 (by simp [waits, Region.binds])
                      rw [q7] at r175
                      clear ha hU hD ha0
                      rw [if_pos (by rfl)]
                      go_simp
                      refine (span7_any x x W).mono ?_
                      rintro e w' ⟨rfl, hb⟩
                      exact hK _ (bl_call hC hb (Nat.le_refl _)) hb
                    · -- 9
                      intro vs a W K ha hC hD hU hK
                      have r19 : a.tmps[19]? = some (.pointer (some ⟨gJ, 0, none⟩)) := by rw [ha, fillA_base0 (by kernel_rfl)]; exact tb19
                      clear ha hU hD ha0
                      rw [if_pos (by rfl)]
                      go_simp
                      exact hK _ hC (Below.refl _ _)
                  case finY =>
                    intro vs W hC hE hU
                    rw [ha0]
                    clear hU hsz tb11 tb18 tb19
                    have eS : vs 8 = .agg #[.int .i64 x, .int .i64 x] := hE 8 (by simp)
                    have eP : vs 9 = .pointer (some ⟨gJ, 0, none⟩) := hE 9 (by simp)
                    simp only [fillA, Act.put, List.setIfInBounds_toArray, List.set_cons_zero, List.set_cons_succ, Nat.zero_add, Nat.reduceAdd, eS, eP]
                    obtain ⟨u0, hu0⟩ : ∃ v0, vs 0 = v0 := ⟨_, rfl⟩
                    obtain ⟨u1, hu1⟩ : ∃ v0, vs 1 = v0 := ⟨_, rfl⟩
                    obtain ⟨u2, hu2⟩ : ∃ v0, vs 2 = v0 := ⟨_, rfl⟩
                    obtain ⟨u3, hu3⟩ : ∃ v0, vs 3 = v0 := ⟨_, rfl⟩
                    obtain ⟨u4, hu4⟩ : ∃ v0, vs 4 = v0 := ⟨_, rfl⟩
                    obtain ⟨u5, hu5⟩ : ∃ v0, vs 5 = v0 := ⟨_, rfl⟩
                    obtain ⟨u6, hu6⟩ : ∃ v0, vs 6 = v0 := ⟨_, rfl⟩
                    obtain ⟨u7, hu7⟩ : ∃ v0, vs 7 = v0 := ⟨_, rfl⟩
                    rw [hu0, hu1, hu2, hu3, hu4, hu5, hu6, hu7]
                    clear hu0 hu1 hu2 hu3 hu4 hu5 hu6 hu7
                    clear hE eS eP
                    have SW := HSJ.out.bl hC
                    have z0c := SW.cell 0
                    have z1c := SW.cell 1
                    have fz0 := SW.frozen 0
                    have fz1 := SW.frozen 1
                    have zl := SW.lt
                    go_simp
                    obtain ⟨VK, hVK⟩ : ∃ V, (W.setCell ⟨gJ, 0, none⟩ (.int .i64 x)).setCell ⟨gJ, 1, none⟩ (.int .i64 x) = V := ⟨_, rfl⟩
                    have SK : Blk VK gJ 46 #[.int .i64 x, .int .i64 x, .slice (some ⟨bM, oM, none⟩) n ca] := by rw [← hVK]; exact (SW.set_ 0 _).set_ 1 _
                    have HBK : Hid (Below wr.heap.size wr VK) := by rw [Hid, ← hVK]; exact bl_set (bl_set (bl_call HBJ.out hC (Nat.le_refl _)) hgJ2 _) hgJ2 _
                    have HBWK : Hid (Below WW.heap.size WW VK) := bl_call HBw.out HBK.out (Nat.le_refl _)
                    try rw [hVK]
                    have s0 := SK.cell 0
                    have s1 := SK.cell 1
                    have s2 := SK.cell 2
                    clear hVK hC z0c z1c fz0 fz1 zl SW SK
                    go_wp2_with fail
                    clear s0 s1 s2
                    have hcall := kshrinks_any (s := just7 s x) (klo := x) (khi := x) (cc := cc) VK (HG.out VK HBWK.out) (HS.out VK HBWK.out) hca rfl rfl
                    rw [HRK.out] at hcall
                    refine hcall.mono ?_
                    rintro e VL ⟨⟨D2, kn2, kc2, rfl, hD2⟩, cL⟩
                    have hl2 := hD2.le
                    clear hcall hD2
                    have HBL : Hid (Below wr.heap.size wr VL) := bl_call HBK.out cL (Nat.le_refl _)
                    clear cL
                    rcases Nat.eq_zero_or_pos k with hk0 | hkp
                    · subst hk0
                      go_wp2_with fail
                      refine wp_frameT ?_
                      intro a0 ha0
                      have tb3 : a0.tmps[3]? = some (.pointer (some ⟨w.heap.size, 0, none⟩)) := by rw [ha0]; kernel_rfl
                      have tb11 : a0.tmps[11]? = some (.slice (some ⟨bS, oS, none⟩) kn kc) := by rw [ha0]; kernel_rfl
                      have tb18 : a0.tmps[18]? = some (.int .i64 ((0 : Nat) : Int)) := by rw [ha0]; kernel_rfl
                      have tb21 : a0.tmps[21]? = some (.int .i64 0) := by rw [ha0]; kernel_rfl
                      have hsz : a0.tmps.size = 228 := by rw [ha0]; kernel_rfl
                      refine wp_region_list (fun W => Below VL.heap.size VL W) (fun w w' => Below w.heap.size w w')
                        [isV (.slice (some ⟨bS, oS, none⟩) kn kc), isV (.int .i64 ((0 : Nat) : Int)), isV (.pointer (some ⟨bS, oS + 0, none⟩)), isV (.int .i64 x), isV (.pointer (some ⟨w.heap.size, 0, none⟩)), isV (.pointer (some ⟨w.heap.size, 0, none⟩)), isV (.int .i64 klo), isV (.bool false), isV (.bool false), isV (.slice (some ⟨bS, oS, none⟩) kn kc), isV (.int .i64 ((0 : Nat) : Int)), isV (.pointer (some ⟨bS, oS + 0, none⟩)), isV (.int .i64 x), isV (.pointer (some ⟨w.heap.size, 0, none⟩)), isV (.pointer (some ⟨w.heap.size, 1, none⟩)), isV (.int .i64 khi), isV (.bool false), isV (.bool false), isV (.bool false), isV (.int .i64 ((0 : Nat) : Int)), isV (.bool false), isV (.bool false), isV (undef), isV (undef), isV (undef), isV (undef), isV (undef), isV (undef), isV (undef), isV (undef), isV (undef), isV (undef), isV (.bool false), isV (.bool false), isV (.bool false), isV (.int .i64 0), isV (.bool false), isV (.bool false)]
                        (by kernel_rfl) (by kernel_rfl) (by kernel_rfl) (by simp) (by simp) (Below.refl _ _).drew ?stabV ?stepV ?finV
                      case stabV => exact (StabL.is (StabL.is (StabL.is (StabL.is (StabL.is (StabL.is (StabL.is (StabL.is (StabL.is (StabL.is (StabL.is (StabL.is (StabL.is (StabL.is (StabL.is (StabL.is (StabL.is (StabL.is (StabL.is (StabL.is (StabL.is (StabL.is (StabL.is (StabL.is (StabL.is (StabL.is (StabL.is (StabL.is (StabL.is (StabL.is (StabL.is (StabL.is (StabL.is (StabL.is (StabL.is (StabL.is (StabL.is (StabL.is StabL.nil))))))))))))))))))))))))))))))))))))))
                      case stepV =>
                        refine StepsL.isA ?_ (StepsL.isA ?_ (StepsL.isA ?_ (StepsL.isA ?_ (StepsL.isA ?_ (StepsL.isA ?_ (StepsL.isA ?_ (StepsL.isA ?_ (StepsL.isA ?_ (StepsL.isA ?_ (StepsL.isA ?_ (StepsL.isA ?_ (StepsL.isA ?_ (StepsL.isA ?_ (StepsL.isA ?_ (StepsL.isA ?_ (StepsL.isA ?_ (StepsL.isA ?_ (StepsL.isA ?_ (StepsL.isA ?_ (StepsL.isA ?_ (StepsL.isA ?_ (StepsL.isA ?_ (StepsL.isA ?_ (StepsL.isA ?_ (StepsL.isA ?_ (StepsL.isA ?_ (StepsL.isA ?_ (StepsL.isA ?_ (StepsL.isA ?_ (StepsL.isA ?_ (StepsL.isA ?_ (StepsL.isA ?_ (StepsL.isA ?_ (StepsL.isA ?_ (StepsL.isA ?_ (StepsL.isA ?_ (StepsL.isA ?_ StepsL.nil)))))))))))))))))))))))))))))))))))))
                        · -- 0
                          intro vs a W K ha hC hD hU hK
                          have r11 : a.tmps[11]? = some (.slice (some ⟨bS, oS, none⟩) kn kc) := by rw [ha, fillA_base0 (by kernel_rfl)]; exact tb11
                          clear ha hU hD ha0
                          rw [if_pos (by rfl)]
                          go_simp
                          exact hK _ hC (Below.refl _ _)
                        · -- 1
                          intro vs a W K ha hC hD hU hK
                          have r18 : a.tmps[18]? = some (.int .i64 ((0 : Nat) : Int)) := by rw [ha, fillA_base0 (by kernel_rfl)]; exact tb18
                          clear ha hU hD ha0
                          rw [if_pos (by rfl)]
                          go_simp
                          exact hK _ hC (Below.refl _ _)
                        · -- 2
                          intro vs a W K ha hC hD hU hK
                          have r184 : a.tmps[184]? = some (vs 0) := by rw [ha]; exact fillA_get0 (j := 0) (by kernel_rfl) (by rw [hsz]; decide)
                          have q0 : vs 0 = .slice (some ⟨bS, oS, none⟩) kn kc := hD 0 (by simp [waits, Region.binds])
                          rw [q0] at r184
                          have r185 : a.tmps[185]? = some (vs 1) := by rw [ha]; exact fillA_get0 (j := 1) (by kernel_rfl) (by rw [hsz]; decide)
                          have q1 : vs 1 = .int .i64 ((0 : Nat) : Int) := hD 1 (by simp [waits, Region.binds])
                          rw [q1] at r185
                          clear ha hU hD ha0
                          rw [if_pos (by rfl)]
                          go_simp
                          exact hK _ hC (Below.refl _ _)
                        · -- 3
                          intro vs a W K ha hC hD hU hK
                          have r186 : a.tmps[186]? = some (vs 2) := by rw [ha]; exact fillA_get0 (j := 2) (by kernel_rfl) (by rw [hsz]; decide)
                          have q2 : vs 2 = .pointer (some ⟨bS, oS + 0, none⟩) := hD 2 (by simp [waits, Region.binds])
                          rw [q2] at r186
                          clear ha hU hD ha0
                          rw [if_pos (by rfl)]
                          obtain ⟨k1x, k2x, k3x, k4x, k5x, k6x⟩ := kk.out W (bl_call HBw.out (bl_call HBL.out hC (Nat.le_refl _)) (Nat.le_refl _))
                          have kqx : W.cell? ⟨bS, oS, none⟩ = some (.int .i64 x) := by simpa using kq.out W (bl_call HBL.out hC (Nat.le_refl _))
                          go_simp
                          exact hK _ hC (Below.refl _ _)
                        · -- 4
                          intro vs a W K ha hC hD hU hK
                          have r3 : a.tmps[3]? = some (.pointer (some ⟨w.heap.size, 0, none⟩)) := by rw [ha, fillA_base0 (by kernel_rfl)]; exact tb3
                          clear ha hU hD ha0
                          rw [if_pos (by rfl)]
                          go_simp
                          exact hK _ hC (Below.refl _ _)
                        · -- 5
                          intro vs a W K ha hC hD hU hK
                          have r188 : a.tmps[188]? = some (vs 4) := by rw [ha]; exact fillA_get0 (j := 4) (by kernel_rfl) (by rw [hsz]; decide)
                          have q4 : vs 4 = .pointer (some ⟨w.heap.size, 0, none⟩) := hD 4 (by simp [waits, Region.binds])
                          rw [q4] at r188
                          clear ha hU hD ha0
                          rw [if_pos (by rfl)]
                          go_simp
                          exact hK _ hC (Below.refl _ _)
                        · -- 6
                          intro vs a W K ha hC hD hU hK
                          have r189 : a.tmps[189]? = some (vs 5) := by rw [ha]; exact fillA_get0 (j := 5) (by kernel_rfl) (by rw [hsz]; decide)
                          have q5 : vs 5 = .pointer (some ⟨w.heap.size, 0, none⟩) := hD 5 (by simp [waits, Region.binds])
                          rw [q5] at r189
                          clear ha hU hD ha0
                          rw [if_pos (by rfl)]
                          obtain ⟨k1x, k2x, k3x, k4x, k5x, k6x⟩ := kk.out W (bl_call HBw.out (bl_call HBL.out hC (Nat.le_refl _)) (Nat.le_refl _))
                          have kqx : W.cell? ⟨bS, oS, none⟩ = some (.int .i64 x) := by simpa using kq.out W (bl_call HBL.out hC (Nat.le_refl _))
                          go_simp
                          exact hK _ hC (Below.refl _ _)
                        · -- 7
                          intro vs a W K ha hC hD hU hK
                          have r187 : a.tmps[187]? = some (vs 3) := by rw [ha]; exact fillA_get0 (j := 3) (by kernel_rfl) (by rw [hsz]; decide)
                          have q3 : vs 3 = .int .i64 x := hD 3 (by simp [waits, Region.binds])
                          rw [q3] at r187
                          have r190 : a.tmps[190]? = some (vs 6) := by rw [ha]; exact fillA_get0 (j := 6) (by kernel_rfl) (by rw [hsz]; decide)
                          have q6 : vs 6 = .int .i64 klo := hD 6 (by simp [waits, Region.binds])
                          rw [q6] at r190
                          clear ha hU hD ha0
                          rw [if_pos (by rfl)]
                          go_simp
                          exact hK _ hC (Below.refl _ _)
                        · -- 8
                          intro vs a W K ha hC hD hU hK
                          have r191 : a.tmps[191]? = some (vs 7) := by rw [ha]; exact fillA_get0 (j := 7) (by kernel_rfl) (by rw [hsz]; decide)
                          have q7 : vs 7 = .bool false := hD 7 (by simp [waits, Region.binds])
                          rw [q7] at r191
                          clear ha hU hD ha0
                          rw [if_pos (by rfl)]
                          go_simp
                          exact hK _ hC (Below.refl _ _)
                        · -- 9
                          intro vs a W K ha hC hD hU hK
                          have r192 : a.tmps[192]? = some (vs 8) := by rw [ha]; exact fillA_get0 (j := 8) (by kernel_rfl) (by rw [hsz]; decide)
                          have q8 : vs 8 = .bool false := hD 8 (by simp [waits, Region.binds])
                          rw [q8] at r192
                          have r11 : a.tmps[11]? = some (.slice (some ⟨bS, oS, none⟩) kn kc) := by rw [ha, fillA_base0 (by kernel_rfl)]; exact tb11
                          clear ha hU hD ha0
                          rw [if_pos (by simp [Region.wanted, yielded, r192])]
                          go_simp
                          exact hK _ hC (Below.refl _ _)
                        · -- 10
                          intro vs a W K ha hC hD hU hK
                          have r192 : a.tmps[192]? = some (vs 8) := by rw [ha]; exact fillA_get0 (j := 8) (by kernel_rfl) (by rw [hsz]; decide)
                          have q8 : vs 8 = .bool false := hD 8 (by simp [waits, Region.binds])
                          rw [q8] at r192
                          have r18 : a.tmps[18]? = some (.int .i64 ((0 : Nat) : Int)) := by rw [ha, fillA_base0 (by kernel_rfl)]; exact tb18
                          clear ha hU hD ha0
                          rw [if_pos (by simp [Region.wanted, yielded, r192])]
                          go_simp
                          exact hK _ hC (Below.refl _ _)
                        · -- 11
                          intro vs a W K ha hC hD hU hK
                          have r192 : a.tmps[192]? = some (vs 8) := by rw [ha]; exact fillA_get0 (j := 8) (by kernel_rfl) (by rw [hsz]; decide)
                          have q8 : vs 8 = .bool false := hD 8 (by simp [waits, Region.binds])
                          rw [q8] at r192
                          have r193 : a.tmps[193]? = some (vs 9) := by rw [ha]; exact fillA_get0 (j := 9) (by kernel_rfl) (by rw [hsz]; decide)
                          have q9 : vs 9 = .slice (some ⟨bS, oS, none⟩) kn kc := hD 9 (by simp [waits, Region.binds])
                          rw [q9] at r193
                          have r194 : a.tmps[194]? = some (vs 10) := by rw [ha]; exact fillA_get0 (j := 10) (by kernel_rfl) (by rw [hsz]; decide)
                          have q10 : vs 10 = .int .i64 ((0 : Nat) : Int) := hD 10 (by simp [waits, Region.binds])
                          rw [q10] at r194
                          clear ha hU hD ha0
                          rw [if_pos (by simp [Region.wanted, yielded, r192])]
                          go_simp
                          exact hK _ hC (Below.refl _ _)
                        · -- 12
                          intro vs a W K ha hC hD hU hK
                          have r192 : a.tmps[192]? = some (vs 8) := by rw [ha]; exact fillA_get0 (j := 8) (by kernel_rfl) (by rw [hsz]; decide)
                          have q8 : vs 8 = .bool false := hD 8 (by simp [waits, Region.binds])
                          rw [q8] at r192
                          have r195 : a.tmps[195]? = some (vs 11) := by rw [ha]; exact fillA_get0 (j := 11) (by kernel_rfl) (by rw [hsz]; decide)
                          have q11 : vs 11 = .pointer (some ⟨bS, oS + 0, none⟩) := hD 11 (by simp [waits, Region.binds])
                          rw [q11] at r195
                          clear ha hU hD ha0
                          rw [if_pos (by simp [Region.wanted, yielded, r192])]
                          obtain ⟨k1x, k2x, k3x, k4x, k5x, k6x⟩ := kk.out W (bl_call HBw.out (bl_call HBL.out hC (Nat.le_refl _)) (Nat.le_refl _))
                          have kqx : W.cell? ⟨bS, oS, none⟩ = some (.int .i64 x) := by simpa using kq.out W (bl_call HBL.out hC (Nat.le_refl _))
                          go_simp
                          exact hK _ hC (Below.refl _ _)
                        · -- 13
                          intro vs a W K ha hC hD hU hK
                          have r192 : a.tmps[192]? = some (vs 8) := by rw [ha]; exact fillA_get0 (j := 8) (by kernel_rfl) (by rw [hsz]; decide)
                          have q8 : vs 8 = .bool false := hD 8 (by simp [waits, Region.binds])
                          rw [q8] at r192
                          have r3 : a.tmps[3]? = some (.pointer (some ⟨w.heap.size, 0, none⟩)) := by rw [ha, fillA_base0 (by kernel_rfl)]; exact tb3
                          clear ha hU hD ha0
                          rw [if_pos (by simp [Region.wanted, yielded, r192])]
                          go_simp
                          exact hK _ hC (Below.refl _ _)
                        · -- 14
                          intro vs a W K ha hC hD hU hK
                          have r192 : a.tmps[192]? = some (vs 8) := by rw [ha]; exact fillA_get0 (j := 8) (by kernel_rfl) (by rw [hsz]; decide)
                          have q8 : vs 8 = .bool false := hD 8 (by simp [waits, Region.binds])
                          rw [q8] at r192
                          have r197 : a.tmps[197]? = some (vs 13) := by rw [ha]; exact fillA_get0 (j := 13) (by kernel_rfl) (by rw [hsz]; decide)
                          have q13 : vs 13 = .pointer (some ⟨w.heap.size, 0, none⟩) := hD 13 (by simp [waits, Region.binds])
                          rw [q13] at r197
                          clear ha hU hD ha0
                          rw [if_pos (by simp [Region.wanted, yielded, r192])]
                          go_simp
                          exact hK _ hC (Below.refl _ _)
                        · -- 15
                          intro vs a W K ha hC hD hU hK
                          have r192 : a.tmps[192]? = some (vs 8) := by rw [ha]; exact fillA_get0 (j := 8) (by kernel_rfl) (by rw [hsz]; decide)
                          have q8 : vs 8 = .bool false := hD 8 (by simp [waits, Region.binds])
                          rw [q8] at r192
                          have r198 : a.tmps[198]? = some (vs 14) := by rw [ha]; exact fillA_get0 (j := 14) (by kernel_rfl) (by rw [hsz]; decide)
                          have q14 : vs 14 = .pointer (some ⟨w.heap.size, 1, none⟩) := hD 14 (by simp [waits, Region.binds])
                          rw [q14] at r198
                          clear ha hU hD ha0
                          rw [if_pos (by simp [Region.wanted, yielded, r192])]
                          obtain ⟨k1x, k2x, k3x, k4x, k5x, k6x⟩ := kk.out W (bl_call HBw.out (bl_call HBL.out hC (Nat.le_refl _)) (Nat.le_refl _))
                          have kqx : W.cell? ⟨bS, oS, none⟩ = some (.int .i64 x) := by simpa using kq.out W (bl_call HBL.out hC (Nat.le_refl _))
                          go_simp
                          exact hK _ hC (Below.refl _ _)
                        · -- 16
                          intro vs a W K ha hC hD hU hK
                          have r192 : a.tmps[192]? = some (vs 8) := by rw [ha]; exact fillA_get0 (j := 8) (by kernel_rfl) (by rw [hsz]; decide)
                          have q8 : vs 8 = .bool false := hD 8 (by simp [waits, Region.binds])
                          rw [q8] at r192
                          have r196 : a.tmps[196]? = some (vs 12) := by rw [ha]; exact fillA_get0 (j := 12) (by kernel_rfl) (by rw [hsz]; decide)
                          have q12 : vs 12 = .int .i64 x := hD 12 (by simp [waits, Region.binds])
                          rw [q12] at r196
                          have r199 : a.tmps[199]? = some (vs 15) := by rw [ha]; exact fillA_get0 (j := 15) (by kernel_rfl) (by rw [hsz]; decide)
                          have q15 : vs 15 = .int .i64 khi := hD 15 (by simp [waits, Region.binds])
                          rw [q15] at r199
                          clear ha hU hD ha0
                          rw [if_pos (by simp [Region.wanted, yielded, r192])]
                          go_simp
                          exact hK _ hC (Below.refl _ _)
                        · -- 17
                          intro vs a W K ha hC hD hU hK
                          have r192 : a.tmps[192]? = some (vs 8) := by rw [ha]; exact fillA_get0 (j := 8) (by kernel_rfl) (by rw [hsz]; decide)
                          have q8 : vs 8 = .bool false := hD 8 (by simp [waits, Region.binds])
                          rw [q8] at r192
                          have r200 : a.tmps[200]? = some (vs 16) := by rw [ha]; exact fillA_get0 (j := 16) (by kernel_rfl) (by rw [hsz]; decide)
                          have q16 : vs 16 = .bool false := hD 16 (by simp [waits, Region.binds])
                          rw [q16] at r200
                          clear ha hU hD ha0
                          rw [if_pos (by rfl)]
                          go_simp
                          exact hK _ hC (Below.refl _ _)
                        · -- 18
                          intro vs a W K ha hC hD hU hK
                          have r201 : a.tmps[201]? = some (vs 17) := by rw [ha]; exact fillA_get0 (j := 17) (by kernel_rfl) (by rw [hsz]; decide)
                          have q17 : vs 17 = .bool false := hD 17 (by simp [waits, Region.binds])
                          rw [q17] at r201
                          clear ha hU hD ha0
                          rw [if_pos (by rfl)]
                          go_simp
                          exact hK _ hC (Below.refl _ _)
                        · -- 19
                          intro vs a W K ha hC hD hU hK
                          have r202 : a.tmps[202]? = some (vs 18) := by rw [ha]; exact fillA_get0 (j := 18) (by kernel_rfl) (by rw [hsz]; decide)
                          have q18 : vs 18 = .bool false := hD 18 (by simp [waits, Region.binds])
                          rw [q18] at r202
                          have r18 : a.tmps[18]? = some (.int .i64 ((0 : Nat) : Int)) := by rw [ha, fillA_base0 (by kernel_rfl)]; exact tb18
                          clear ha hU hD ha0
                          rw [if_pos (by simp [Region.wanted, yielded, r202])]
                          go_simp
                          exact hK _ hC (Below.refl _ _)
                        · -- 20
                          intro vs a W K ha hC hD hU hK
                          have r202 : a.tmps[202]? = some (vs 18) := by rw [ha]; exact fillA_get0 (j := 18) (by kernel_rfl) (by rw [hsz]; decide)
                          have q18 : vs 18 = .bool false := hD 18 (by simp [waits, Region.binds])
                          rw [q18] at r202
                          have r203 : a.tmps[203]? = some (vs 19) := by rw [ha]; exact fillA_get0 (j := 19) (by kernel_rfl) (by rw [hsz]; decide)
                          have q19 : vs 19 = .int .i64 ((0 : Nat) : Int) := hD 19 (by simp [waits, Region.binds])
                          rw [q19] at r203
                          clear ha hU hD ha0
                          rw [if_pos (by simp [Region.wanted, yielded, r202])]
                          go_simp
                          exact hK _ hC (Below.refl _ _)
                        · -- 21
                          intro vs a W K ha hC hD hU hK
                          have r202 : a.tmps[202]? = some (vs 18) := by rw [ha]; exact fillA_get0 (j := 18) (by kernel_rfl) (by rw [hsz]; decide)
                          have q18 : vs 18 = .bool false := hD 18 (by simp [waits, Region.binds])
                          rw [q18] at r202
                          have r204 : a.tmps[204]? = some (vs 20) := by rw [ha]; exact fillA_get0 (j := 20) (by kernel_rfl) (by rw [hsz]; decide)
                          have q20 : vs 20 = .bool false := hD 20 (by simp [waits, Region.binds])
                          rw [q20] at r204
                          clear ha hU hD ha0
                          rw [if_pos (by simp [Region.wanted, yielded, r202])]
                          go_simp
                          exact hK _ hC (Below.refl _ _)
                        · -- 22
                          intro vs a W K ha hC hD hU hK
                          have r205 : a.tmps[205]? = some (vs 21) := by rw [ha]; exact fillA_get0 (j := 21) (by kernel_rfl) (by rw [hsz]; decide)
                          have q21 : vs 21 = .bool false := hD 21 (by simp [waits, Region.binds])
                          rw [q21] at r205
                          clear ha hU hD ha0
                          rw [if_neg (by simp [Region.wanted, yielded, r205, undef])]
                        · -- 23
                          intro vs a W K ha hC hD hU hK
                          have r205 : a.tmps[205]? = some (vs 21) := by rw [ha]; exact fillA_get0 (j := 21) (by kernel_rfl) (by rw [hsz]; decide)
                          have q21 : vs 21 = .bool false := hD 21 (by simp [waits, Region.binds])
                          rw [q21] at r205
                          clear ha hU hD ha0
                          rw [if_neg (by simp [Region.wanted, yielded, r205, undef])]
                        · -- 24
                          intro vs a W K ha hC hD hU hK
                          have r205 : a.tmps[205]? = some (vs 21) := by rw [ha]; exact fillA_get0 (j := 21) (by kernel_rfl) (by rw [hsz]; decide)
                          have q21 : vs 21 = .bool false := hD 21 (by simp [waits, Region.binds])
                          rw [q21] at r205
                          clear ha hU hD ha0
                          rw [if_neg (by simp [Region.wanted, yielded, r205, undef])]
                        · -- 25
                          intro vs a W K ha hC hD hU hK
                          have r205 : a.tmps[205]? = some (vs 21) := by rw [ha]; exact fillA_get0 (j := 21) (by kernel_rfl) (by rw [hsz]; decide)
                          have q21 : vs 21 = .bool false := hD 21 (by simp [waits, Region.binds])
                          rw [q21] at r205
                          clear ha hU hD ha0
                          rw [if_neg (by simp [Region.wanted, yielded, r205, undef])]
                        · -- 26
                          intro vs a W K ha hC hD hU hK
                          have r205 : a.tmps[205]? = some (vs 21) := by rw [ha]; exact fillA_get0 (j := 21) (by kernel_rfl) (by rw [hsz]; decide)
                          have q21 : vs 21 = .bool false := hD 21 (by simp [waits, Region.binds])
                          rw [q21] at r205
                          clear ha hU hD ha0
                          rw [if_neg (by simp [Region.wanted, yielded, r205, undef])]
                        · -- 27
                          intro vs a W K ha hC hD hU hK
                          have r205 : a.tmps[205]? = some (vs 21) := by rw [ha]; exact fillA_get0 (j := 21) (by kernel_rfl) (by rw [hsz]; decide)
                          have q21 : vs 21 = .bool false := hD 21 (by simp [waits, Region.binds])
                          rw [q21] at r205
                          clear ha hU hD ha0
                          rw [if_neg (by simp [Region.wanted, yielded, r205, undef])]
                        · -- 28
                          intro vs a W K ha hC hD hU hK
                          have r205 : a.tmps[205]? = some (vs 21) := by rw [ha]; exact fillA_get0 (j := 21) (by kernel_rfl) (by rw [hsz]; decide)
                          have q21 : vs 21 = .bool false := hD 21 (by simp [waits, Region.binds])
                          rw [q21] at r205
                          clear ha hU hD ha0
                          rw [if_neg (by simp [Region.wanted, yielded, r205, undef])]
                        · -- 29
                          intro vs a W K ha hC hD hU hK
                          have r205 : a.tmps[205]? = some (vs 21) := by rw [ha]; exact fillA_get0 (j := 21) (by kernel_rfl) (by rw [hsz]; decide)
                          have q21 : vs 21 = .bool false := hD 21 (by simp [waits, Region.binds])
                          rw [q21] at r205
                          clear ha hU hD ha0
                          rw [if_neg (by simp [Region.wanted, yielded, r205, undef])]
                        · -- 30
                          intro vs a W K ha hC hD hU hK
                          have r205 : a.tmps[205]? = some (vs 21) := by rw [ha]; exact fillA_get0 (j := 21) (by kernel_rfl) (by rw [hsz]; decide)
                          have q21 : vs 21 = .bool false := hD 21 (by simp [waits, Region.binds])
                          rw [q21] at r205
                          clear ha hU hD ha0
                          rw [if_neg (by simp [Region.wanted, yielded, r205, undef])]
                        · -- 31
                          intro vs a W K ha hC hD hU hK
                          have r205 : a.tmps[205]? = some (vs 21) := by rw [ha]; exact fillA_get0 (j := 21) (by kernel_rfl) (by rw [hsz]; decide)
                          have q21 : vs 21 = .bool false := hD 21 (by simp [waits, Region.binds])
                          rw [q21] at r205
                          clear ha hU hD ha0
                          rw [if_neg (by simp [Region.wanted, yielded, r205, undef])]
                        · -- 32
                          intro vs a W K ha hC hD hU hK
                          have r202 : a.tmps[202]? = some (vs 18) := by rw [ha]; exact fillA_get0 (j := 18) (by kernel_rfl) (by rw [hsz]; decide)
                          have q18 : vs 18 = .bool false := hD 18 (by simp [waits, Region.binds])
                          rw [q18] at r202
                          have r205 : a.tmps[205]? = some (vs 21) := by rw [ha]; exact fillA_get0 (j := 21) (by kernel_rfl) (by rw [hsz]; decide)
                          have q21 : vs 21 = .bool false := hD 21 (by simp [waits, Region.binds])
                          rw [q21] at r205
                          have r215 : a.tmps[215]? = some (vs 31) := by rw [ha]; exact fillA_get0 (j := 31) (by kernel_rfl) (by rw [hsz]; decide)
                          have q31 : vs 31 = undef := hD 31 (by simp [waits, Region.binds])
                          rw [q31] at r215
                          clear ha hU hD ha0
                          rw [if_pos (by simp [Region.wanted, yielded, r202])]
                          go_simp
                          exact hK _ hC (Below.refl _ _)
                        · -- 33
                          intro vs a W K ha hC hD hU hK
                          have r202 : a.tmps[202]? = some (vs 18) := by rw [ha]; exact fillA_get0 (j := 18) (by kernel_rfl) (by rw [hsz]; decide)
                          have q18 : vs 18 = .bool false := hD 18 (by simp [waits, Region.binds])
                          rw [q18] at r202
                          have r216 : a.tmps[216]? = some (vs 32) := by rw [ha]; exact fillA_get0 (j := 32) (by kernel_rfl) (by rw [hsz]; decide)
                          have q32 : vs 32 = .bool false := hD 32 (by simp [waits, Region.binds])
                          rw [q32] at r216
                          clear ha hU hD ha0
                          rw [if_pos (by rfl)]
                          go_simp
                          exact hK _ hC (Below.refl _ _)
                        · -- 34
                          intro vs a W K ha hC hD hU hK
                          have r217 : a.tmps[217]? = some (vs 33) := by rw [ha]; exact fillA_get0 (j := 33) (by kernel_rfl) (by rw [hsz]; decide)
                          have q33 : vs 33 = .bool false := hD 33 (by simp [waits, Region.binds])
                          rw [q33] at r217
                          clear ha hU hD ha0
                          rw [if_pos (by rfl)]
                          go_simp
                          exact hK _ hC (Below.refl _ _)
                        · -- 35
                          intro vs a W K ha hC hD hU hK
                          have r218 : a.tmps[218]? = some (vs 34) := by rw [ha]; exact fillA_get0 (j := 34) (by kernel_rfl) (by rw [hsz]; decide)
                          have q34 : vs 34 = .bool false := hD 34 (by simp [waits, Region.binds])
                          rw [q34] at r218
                          have r21 : a.tmps[21]? = some (.int .i64 0) := by rw [ha, fillA_base0 (by kernel_rfl)]; exact tb21
                          clear ha hU hD ha0
                          rw [if_pos (by simp [Region.wanted, yielded, r218])]
                          go_simp
                          exact hK _ hC (Below.refl _ _)
                        · -- 36
                          intro vs a W K ha hC hD hU hK
                          have r218 : a.tmps[218]? = some (vs 34) := by rw [ha]; exact fillA_get0 (j := 34) (by kernel_rfl) (by rw [hsz]; decide)
                          have q34 : vs 34 = .bool false := hD 34 (by simp [waits, Region.binds])
                          rw [q34] at r218
                          have r219 : a.tmps[219]? = some (vs 35) := by rw [ha]; exact fillA_get0 (j := 35) (by kernel_rfl) (by rw [hsz]; decide)
                          have q35 : vs 35 = .int .i64 0 := hD 35 (by simp [waits, Region.binds])
                          rw [q35] at r219
                          clear ha hU hD ha0
                          rw [if_pos (by simp [Region.wanted, yielded, r218])]
                          go_simp
                          exact hK _ hC (Below.refl _ _)
                        · -- 37
                          intro vs a W K ha hC hD hU hK
                          have r218 : a.tmps[218]? = some (vs 34) := by rw [ha]; exact fillA_get0 (j := 34) (by kernel_rfl) (by rw [hsz]; decide)
                          have q34 : vs 34 = .bool false := hD 34 (by simp [waits, Region.binds])
                          rw [q34] at r218
                          have r220 : a.tmps[220]? = some (vs 36) := by rw [ha]; exact fillA_get0 (j := 36) (by kernel_rfl) (by rw [hsz]; decide)
                          have q36 : vs 36 = .bool false := hD 36 (by simp [waits, Region.binds])
                          rw [q36] at r220
                          clear ha hU hD ha0
                          rw [if_pos (by rfl)]
                          go_simp
                          exact hK _ hC (Below.refl _ _)
                      case finV =>
                        refine Fin1.none (Nat.le_refl _) ?_
                        intro vs W a1 hC hE ha
                        have eL : vs 37 = .bool false := hE 37 (by simp)
                        rw [ha, ha0]
                        clear ha ha0 hsz tb3 tb11 tb18 tb21
                        simp only [fillA, Act.put, List.setIfInBounds_toArray, List.set_cons_zero, List.set_cons_succ, Nat.zero_add, Nat.reduceAdd, eL]
                        obtain ⟨u0, hu0⟩ : ∃ v0, vs 0 = v0 := ⟨_, rfl⟩
                        obtain ⟨u1, hu1⟩ : ∃ v0, vs 1 = v0 := ⟨_, rfl⟩
                        obtain ⟨u2, hu2⟩ : ∃ v0, vs 2 = v0 := ⟨_, rfl⟩
                        obtain ⟨u3, hu3⟩ : ∃ v0, vs 3 = v0 := ⟨_, rfl⟩
                        obtain ⟨u4, hu4⟩ : ∃ v0, vs 4 = v0 := ⟨_, rfl⟩
                        obtain ⟨u5, hu5⟩ : ∃ v0, vs 5 = v0 := ⟨_, rfl⟩
                        obtain ⟨u6, hu6⟩ : ∃ v0, vs 6 = v0 := ⟨_, rfl⟩
                        obtain ⟨u7, hu7⟩ : ∃ v0, vs 7 = v0 := ⟨_, rfl⟩
                        obtain ⟨u8, hu8⟩ : ∃ v0, vs 8 = v0 := ⟨_, rfl⟩
                        obtain ⟨u9, hu9⟩ : ∃ v0, vs 9 = v0 := ⟨_, rfl⟩
                        obtain ⟨u10, hu10⟩ : ∃ v0, vs 10 = v0 := ⟨_, rfl⟩
                        obtain ⟨u11, hu11⟩ : ∃ v0, vs 11 = v0 := ⟨_, rfl⟩
                        obtain ⟨u12, hu12⟩ : ∃ v0, vs 12 = v0 := ⟨_, rfl⟩
                        obtain ⟨u13, hu13⟩ : ∃ v0, vs 13 = v0 := ⟨_, rfl⟩
                        obtain ⟨u14, hu14⟩ : ∃ v0, vs 14 = v0 := ⟨_, rfl⟩
                        obtain ⟨u15, hu15⟩ : ∃ v0, vs 15 = v0 := ⟨_, rfl⟩
                        obtain ⟨u16, hu16⟩ : ∃ v0, vs 16 = v0 := ⟨_, rfl⟩
                        obtain ⟨u17, hu17⟩ : ∃ v0, vs 17 = v0 := ⟨_, rfl⟩
                        obtain ⟨u18, hu18⟩ : ∃ v0, vs 18 = v0 := ⟨_, rfl⟩
                        obtain ⟨u19, hu19⟩ : ∃ v0, vs 19 = v0 := ⟨_, rfl⟩
                        obtain ⟨u20, hu20⟩ : ∃ v0, vs 20 = v0 := ⟨_, rfl⟩
                        obtain ⟨u21, hu21⟩ : ∃ v0, vs 21 = v0 := ⟨_, rfl⟩
                        obtain ⟨u22, hu22⟩ : ∃ v0, vs 22 = v0 := ⟨_, rfl⟩
                        obtain ⟨u23, hu23⟩ : ∃ v0, vs 23 = v0 := ⟨_, rfl⟩
                        obtain ⟨u24, hu24⟩ : ∃ v0, vs 24 = v0 := ⟨_, rfl⟩
                        obtain ⟨u25, hu25⟩ : ∃ v0, vs 25 = v0 := ⟨_, rfl⟩
                        obtain ⟨u26, hu26⟩ : ∃ v0, vs 26 = v0 := ⟨_, rfl⟩
                        obtain ⟨u27, hu27⟩ : ∃ v0, vs 27 = v0 := ⟨_, rfl⟩
                        obtain ⟨u28, hu28⟩ : ∃ v0, vs 28 = v0 := ⟨_, rfl⟩
                        obtain ⟨u29, hu29⟩ : ∃ v0, vs 29 = v0 := ⟨_, rfl⟩
                        obtain ⟨u30, hu30⟩ : ∃ v0, vs 30 = v0 := ⟨_, rfl⟩
                        obtain ⟨u31, hu31⟩ : ∃ v0, vs 31 = v0 := ⟨_, rfl⟩
                        obtain ⟨u32, hu32⟩ : ∃ v0, vs 32 = v0 := ⟨_, rfl⟩
                        obtain ⟨u33, hu33⟩ : ∃ v0, vs 33 = v0 := ⟨_, rfl⟩
                        obtain ⟨u34, hu34⟩ : ∃ v0, vs 34 = v0 := ⟨_, rfl⟩
                        obtain ⟨u35, hu35⟩ : ∃ v0, vs 35 = v0 := ⟨_, rfl⟩
                        obtain ⟨u36, hu36⟩ : ∃ v0, vs 36 = v0 := ⟨_, rfl⟩
                        rw [hu0, hu1, hu2, hu3, hu4, hu5, hu6, hu7, hu8, hu9, hu10, hu11, hu12, hu13, hu14, hu15, hu16, hu17, hu18, hu19, hu20, hu21, hu22, hu23, hu24, hu25, hu26, hu27, hu28, hu29, hu30, hu31, hu32, hu33, hu34, hu35, hu36]
                        clear hu0 hu1 hu2 hu3 hu4 hu5 hu6 hu7 hu8 hu9 hu10 hu11 hu12 hu13 hu14 hu15 hu16 hu17 hu18 hu19 hu20 hu21 hu22 hu23 hu24 hu25 hu26 hu27 hu28 hu29 hu30 hu31 hu32 hu33 hu34 hu35 hu36
                        have HBR : Hid (Below V12.heap.size V12 W) := bl_call HBk.out (bl_call HBL.out hC (Nat.le_refl _)) (Nat.le_refl _)
                        clear hE eL hC
                        go_wp2_with fail
                        go_roundw
                        case rel => exact ⟨0 + 1, by go_num, by omega, HBR.out⟩
                        case measure => simp [intOf]; omega
                    · obtain ⟨k1, rfl⟩ : ∃ k1, k = k1 + 1 := ⟨k - 1, by omega⟩
                      obtain ⟨bS2, oS2, x2, hAe, hcS2, HxS2⟩ := Ints.get (HD.out wr HBk.out) (k := k1) (by omega)
                      obtain ⟨rfl, rfl⟩ : bS = bS2 ∧ oS = oS2 := by injection hAe with hAe; injection hAe with e1 e2; exact ⟨e1, e2⟩
                      have hlt3 := known_pair HK0.out HxS.out HxS2.out
                      have hle3 : ¬ x ≤ x2 := by omega
                      have hle3d : decide (x ≤ x2) = false := decide_eq_false hle3
                      have hwk : IntKind.i64.wrap (((k1 + 1 : Nat) : Int) - 1) = (k1 : Int) := by rw [IntKind.wrap_i64]; omega
                      have hk1n : k1 < kn := by omega
                      have hk1i : (k1 : Int) < kn := by omega
                      have hkpi : (0 : Int) < ((k1 + 1 : Nat) : Int) := by omega
                      have hkpn : 0 < k1 + 1 := by omega
                      have kq1 : Hid (∀ V, Below wr.heap.size wr V → V.cell? ⟨bS, oS + k1, none⟩ = some (.int .i64 x2)) := fun V hb => getc hb hcS2
                      obtain ⟨kz1, hkz1⟩ : ∃ z : Nat, k1 + 1 = z := ⟨_, rfl⟩
                      rw [hkz1] at kq hwk hkpi hkpn hlt2 hki ⊢
                      have HKZ := Lib.hid hkz1
                      clear hAe hcS2 hlt3 hcS hkz1
                      go_wp2_with fail
                      refine wp_frameT ?_
                      intro a0 ha0
                      have tb3 : a0.tmps[3]? = some (.pointer (some ⟨w.heap.size, 0, none⟩)) := by rw [ha0]; kernel_rfl
                      have tb11 : a0.tmps[11]? = some (.slice (some ⟨bS, oS, none⟩) kn kc) := by rw [ha0]; kernel_rfl
                      have tb18 : a0.tmps[18]? = some (.int .i64 (kz1 : Int)) := by rw [ha0]; kernel_rfl
                      have tb21 : a0.tmps[21]? = some (.int .i64 0) := by rw [ha0]; kernel_rfl
                      have hsz : a0.tmps.size = 228 := by rw [ha0]; kernel_rfl
                      refine wp_region_list (fun W => Below VL.heap.size VL W) (fun w w' => Below w.heap.size w w')
                        [isV (.slice (some ⟨bS, oS, none⟩) kn kc), isV (.int .i64 (kz1 : Int)), isV (.pointer (some ⟨bS, oS + kz1, none⟩)), isV (.int .i64 x), isV (.pointer (some ⟨w.heap.size, 0, none⟩)), isV (.pointer (some ⟨w.heap.size, 0, none⟩)), isV (.int .i64 klo), isV (.bool false), isV (.bool false), isV (.slice (some ⟨bS, oS, none⟩) kn kc), isV (.int .i64 (kz1 : Int)), isV (.pointer (some ⟨bS, oS + kz1, none⟩)), isV (.int .i64 x), isV (.pointer (some ⟨w.heap.size, 0, none⟩)), isV (.pointer (some ⟨w.heap.size, 1, none⟩)), isV (.int .i64 khi), isV (.bool false), isV (.bool false), isV (.bool false), isV (.int .i64 (kz1 : Int)), isV (.bool true), isV (.bool true), isV (.slice (some ⟨bS, oS, none⟩) kn kc), isV (.int .i64 (kz1 : Int)), isV (.pointer (some ⟨bS, oS + kz1, none⟩)), isV (.int .i64 x), isV (.slice (some ⟨bS, oS, none⟩) kn kc), isV (.int .i64 (kz1 : Int)), isV (.int .i64 (k1 : Int)), isV (.pointer (some ⟨bS, oS + k1, none⟩)), isV (.int .i64 x2), isV (.bool false), isV (.bool false), isV (.bool false), isV (.bool false), isV (.int .i64 0), isV (.bool false), isV (.bool false)]
                        (by kernel_rfl) (by kernel_rfl) (by kernel_rfl) (by simp) (by simp) (Below.refl _ _).drew ?stabX ?stepX ?finX
                      case stabX => exact (StabL.is (StabL.is (StabL.is (StabL.is (StabL.is (StabL.is (StabL.is (StabL.is (StabL.is (StabL.is (StabL.is (StabL.is (StabL.is (StabL.is (StabL.is (StabL.is (StabL.is (StabL.is (StabL.is (StabL.is (StabL.is (StabL.is (StabL.is (StabL.is (StabL.is (StabL.is (StabL.is (StabL.is (StabL.is (StabL.is (StabL.is (StabL.is (StabL.is (StabL.is (StabL.is (StabL.is (StabL.is (StabL.is StabL.nil))))))))))))))))))))))))))))))))))))))
                      case stepX =>
                        refine StepsL.isA ?_ (StepsL.isA ?_ (StepsL.isA ?_ (StepsL.isA ?_ (StepsL.isA ?_ (StepsL.isA ?_ (StepsL.isA ?_ (StepsL.isA ?_ (StepsL.isA ?_ (StepsL.isA ?_ (StepsL.isA ?_ (StepsL.isA ?_ (StepsL.isA ?_ (StepsL.isA ?_ (StepsL.isA ?_ (StepsL.isA ?_ (StepsL.isA ?_ (StepsL.isA ?_ (StepsL.isA ?_ (StepsL.isA ?_ (StepsL.isA ?_ (StepsL.isA ?_ (StepsL.isA ?_ (StepsL.isA ?_ (StepsL.isA ?_ (StepsL.isA ?_ (StepsL.isA ?_ (StepsL.isA ?_ (StepsL.isA ?_ (StepsL.isA ?_ (StepsL.isA ?_ (StepsL.isA ?_ (StepsL.isA ?_ (StepsL.isA ?_ (StepsL.isA ?_ (StepsL.isA ?_ (StepsL.isA ?_ (StepsL.isA ?_ StepsL.nil)))))))))))))))))))))))))))))))))))))
                        · -- 0
                          intro vs a W K ha hC hD hU hK
                          have r11 : a.tmps[11]? = some (.slice (some ⟨bS, oS, none⟩) kn kc) := by rw [ha, fillA_base0 (by kernel_rfl)]; exact tb11
                          clear ha hU hD ha0
                          rw [if_pos (by rfl)]
                          go_simp
                          exact hK _ hC (Below.refl _ _)
                        · -- 1
                          intro vs a W K ha hC hD hU hK
                          have r18 : a.tmps[18]? = some (.int .i64 (kz1 : Int)) := by rw [ha, fillA_base0 (by kernel_rfl)]; exact tb18
                          clear ha hU hD ha0
                          rw [if_pos (by rfl)]
                          go_simp
                          exact hK _ hC (Below.refl _ _)
                        · -- 2
                          intro vs a W K ha hC hD hU hK
                          have r184 : a.tmps[184]? = some (vs 0) := by rw [ha]; exact fillA_get0 (j := 0) (by kernel_rfl) (by rw [hsz]; decide)
                          have q0 : vs 0 = .slice (some ⟨bS, oS, none⟩) kn kc := hD 0 (by simp [waits, Region.binds])
                          rw [q0] at r184
                          have r185 : a.tmps[185]? = some (vs 1) := by rw [ha]; exact fillA_get0 (j := 1) (by kernel_rfl) (by rw [hsz]; decide)
                          have q1 : vs 1 = .int .i64 (kz1 : Int) := hD 1 (by simp [waits, Region.binds])
                          rw [q1] at r185
                          clear ha hU hD ha0
                          rw [if_pos (by rfl)]
                          go_simp
                          exact hK _ hC (Below.refl _ _)
                        · -- 3
                          intro vs a W K ha hC hD hU hK
                          have r186 : a.tmps[186]? = some (vs 2) := by rw [ha]; exact fillA_get0 (j := 2) (by kernel_rfl) (by rw [hsz]; decide)
                          have q2 : vs 2 = .pointer (some ⟨bS, oS + kz1, none⟩) := hD 2 (by simp [waits, Region.binds])
                          rw [q2] at r186
                          clear ha hU hD ha0
                          rw [if_pos (by rfl)]
                          obtain ⟨k1x, k2x, k3x, k4x, k5x, k6x⟩ := kk.out W (bl_call HBw.out (bl_call HBL.out hC (Nat.le_refl _)) (Nat.le_refl _))
                          have kqx := kq.out W (bl_call HBL.out hC (Nat.le_refl _))
                          have kqy := kq1.out W (bl_call HBL.out hC (Nat.le_refl _))
                          go_simp
                          exact hK _ hC (Below.refl _ _)
                        · -- 4
                          intro vs a W K ha hC hD hU hK
                          have r3 : a.tmps[3]? = some (.pointer (some ⟨w.heap.size, 0, none⟩)) := by rw [ha, fillA_base0 (by kernel_rfl)]; exact tb3
                          clear ha hU hD ha0
                          rw [if_pos (by rfl)]
                          go_simp
                          exact hK _ hC (Below.refl _ _)
                        · -- 5
                          intro vs a W K ha hC hD hU hK
                          have r188 : a.tmps[188]? = some (vs 4) := by rw [ha]; exact fillA_get0 (j := 4) (by kernel_rfl) (by rw [hsz]; decide)
                          have q4 : vs 4 = .pointer (some ⟨w.heap.size, 0, none⟩) := hD 4 (by simp [waits, Region.binds])
                          rw [q4] at r188
                          clear ha hU hD ha0
                          rw [if_pos (by rfl)]
                          go_simp
                          exact hK _ hC (Below.refl _ _)
                        · -- 6
                          intro vs a W K ha hC hD hU hK
                          have r189 : a.tmps[189]? = some (vs 5) := by rw [ha]; exact fillA_get0 (j := 5) (by kernel_rfl) (by rw [hsz]; decide)
                          have q5 : vs 5 = .pointer (some ⟨w.heap.size, 0, none⟩) := hD 5 (by simp [waits, Region.binds])
                          rw [q5] at r189
                          clear ha hU hD ha0
                          rw [if_pos (by rfl)]
                          obtain ⟨k1x, k2x, k3x, k4x, k5x, k6x⟩ := kk.out W (bl_call HBw.out (bl_call HBL.out hC (Nat.le_refl _)) (Nat.le_refl _))
                          have kqx := kq.out W (bl_call HBL.out hC (Nat.le_refl _))
                          have kqy := kq1.out W (bl_call HBL.out hC (Nat.le_refl _))
                          go_simp
                          exact hK _ hC (Below.refl _ _)
                        · -- 7
                          intro vs a W K ha hC hD hU hK
                          have r187 : a.tmps[187]? = some (vs 3) := by rw [ha]; exact fillA_get0 (j := 3) (by kernel_rfl) (by rw [hsz]; decide)
                          have q3 : vs 3 = .int .i64 x := hD 3 (by simp [waits, Region.binds])
                          rw [q3] at r187
                          have r190 : a.tmps[190]? = some (vs 6) := by rw [ha]; exact fillA_get0 (j := 6) (by kernel_rfl) (by rw [hsz]; decide)
                          have q6 : vs 6 = .int .i64 klo := hD 6 (by simp [waits, Region.binds])
                          rw [q6] at r190
                          clear ha hU hD ha0
                          rw [if_pos (by rfl)]
                          go_simp
                          exact hK _ hC (Below.refl _ _)
                        · -- 8
                          intro vs a W K ha hC hD hU hK
                          have r191 : a.tmps[191]? = some (vs 7) := by rw [ha]; exact fillA_get0 (j := 7) (by kernel_rfl) (by rw [hsz]; decide)
                          have q7 : vs 7 = .bool false := hD 7 (by simp [waits, Region.binds])
                          rw [q7] at r191
                          clear ha hU hD ha0
                          rw [if_pos (by rfl)]
                          go_simp
                          exact hK _ hC (Below.refl _ _)
                        · -- 9
                          intro vs a W K ha hC hD hU hK
                          have r192 : a.tmps[192]? = some (vs 8) := by rw [ha]; exact fillA_get0 (j := 8) (by kernel_rfl) (by rw [hsz]; decide)
                          have q8 : vs 8 = .bool false := hD 8 (by simp [waits, Region.binds])
                          rw [q8] at r192
                          have r11 : a.tmps[11]? = some (.slice (some ⟨bS, oS, none⟩) kn kc) := by rw [ha, fillA_base0 (by kernel_rfl)]; exact tb11
                          clear ha hU hD ha0
                          rw [if_pos (by simp [Region.wanted, yielded, r192])]
                          go_simp
                          exact hK _ hC (Below.refl _ _)
                        · -- 10
                          intro vs a W K ha hC hD hU hK
                          have r192 : a.tmps[192]? = some (vs 8) := by rw [ha]; exact fillA_get0 (j := 8) (by kernel_rfl) (by rw [hsz]; decide)
                          have q8 : vs 8 = .bool false := hD 8 (by simp [waits, Region.binds])
                          rw [q8] at r192
                          have r18 : a.tmps[18]? = some (.int .i64 (kz1 : Int)) := by rw [ha, fillA_base0 (by kernel_rfl)]; exact tb18
                          clear ha hU hD ha0
                          rw [if_pos (by simp [Region.wanted, yielded, r192])]
                          go_simp
                          exact hK _ hC (Below.refl _ _)
                        · -- 11
                          intro vs a W K ha hC hD hU hK
                          have r192 : a.tmps[192]? = some (vs 8) := by rw [ha]; exact fillA_get0 (j := 8) (by kernel_rfl) (by rw [hsz]; decide)
                          have q8 : vs 8 = .bool false := hD 8 (by simp [waits, Region.binds])
                          rw [q8] at r192
                          have r193 : a.tmps[193]? = some (vs 9) := by rw [ha]; exact fillA_get0 (j := 9) (by kernel_rfl) (by rw [hsz]; decide)
                          have q9 : vs 9 = .slice (some ⟨bS, oS, none⟩) kn kc := hD 9 (by simp [waits, Region.binds])
                          rw [q9] at r193
                          have r194 : a.tmps[194]? = some (vs 10) := by rw [ha]; exact fillA_get0 (j := 10) (by kernel_rfl) (by rw [hsz]; decide)
                          have q10 : vs 10 = .int .i64 (kz1 : Int) := hD 10 (by simp [waits, Region.binds])
                          rw [q10] at r194
                          clear ha hU hD ha0
                          rw [if_pos (by simp [Region.wanted, yielded, r192])]
                          go_simp
                          exact hK _ hC (Below.refl _ _)
                        · -- 12
                          intro vs a W K ha hC hD hU hK
                          have r192 : a.tmps[192]? = some (vs 8) := by rw [ha]; exact fillA_get0 (j := 8) (by kernel_rfl) (by rw [hsz]; decide)
                          have q8 : vs 8 = .bool false := hD 8 (by simp [waits, Region.binds])
                          rw [q8] at r192
                          have r195 : a.tmps[195]? = some (vs 11) := by rw [ha]; exact fillA_get0 (j := 11) (by kernel_rfl) (by rw [hsz]; decide)
                          have q11 : vs 11 = .pointer (some ⟨bS, oS + kz1, none⟩) := hD 11 (by simp [waits, Region.binds])
                          rw [q11] at r195
                          clear ha hU hD ha0
                          rw [if_pos (by simp [Region.wanted, yielded, r192])]
                          obtain ⟨k1x, k2x, k3x, k4x, k5x, k6x⟩ := kk.out W (bl_call HBw.out (bl_call HBL.out hC (Nat.le_refl _)) (Nat.le_refl _))
                          have kqx := kq.out W (bl_call HBL.out hC (Nat.le_refl _))
                          have kqy := kq1.out W (bl_call HBL.out hC (Nat.le_refl _))
                          go_simp
                          exact hK _ hC (Below.refl _ _)
                        · -- 13
                          intro vs a W K ha hC hD hU hK
                          have r192 : a.tmps[192]? = some (vs 8) := by rw [ha]; exact fillA_get0 (j := 8) (by kernel_rfl) (by rw [hsz]; decide)
                          have q8 : vs 8 = .bool false := hD 8 (by simp [waits, Region.binds])
                          rw [q8] at r192
                          have r3 : a.tmps[3]? = some (.pointer (some ⟨w.heap.size, 0, none⟩)) := by rw [ha, fillA_base0 (by kernel_rfl)]; exact tb3
                          clear ha hU hD ha0
                          rw [if_pos (by simp [Region.wanted, yielded, r192])]
                          go_simp
                          exact hK _ hC (Below.refl _ _)
                        · -- 14
                          intro vs a W K ha hC hD hU hK
                          have r192 : a.tmps[192]? = some (vs 8) := by rw [ha]; exact fillA_get0 (j := 8) (by kernel_rfl) (by rw [hsz]; decide)
                          have q8 : vs 8 = .bool false := hD 8 (by simp [waits, Region.binds])
                          rw [q8] at r192
                          have r197 : a.tmps[197]? = some (vs 13) := by rw [ha]; exact fillA_get0 (j := 13) (by kernel_rfl) (by rw [hsz]; decide)
                          have q13 : vs 13 = .pointer (some ⟨w.heap.size, 0, none⟩) := hD 13 (by simp [waits, Region.binds])
                          rw [q13] at r197
                          clear ha hU hD ha0
                          rw [if_pos (by simp [Region.wanted, yielded, r192])]
                          go_simp
                          exact hK _ hC (Below.refl _ _)
                        · -- 15
                          intro vs a W K ha hC hD hU hK
                          have r192 : a.tmps[192]? = some (vs 8) := by rw [ha]; exact fillA_get0 (j := 8) (by kernel_rfl) (by rw [hsz]; decide)
                          have q8 : vs 8 = .bool false := hD 8 (by simp [waits, Region.binds])
                          rw [q8] at r192
                          have r198 : a.tmps[198]? = some (vs 14) := by rw [ha]; exact fillA_get0 (j := 14) (by kernel_rfl) (by rw [hsz]; decide)
                          have q14 : vs 14 = .pointer (some ⟨w.heap.size, 1, none⟩) := hD 14 (by simp [waits, Region.binds])
                          rw [q14] at r198
                          clear ha hU hD ha0
                          rw [if_pos (by simp [Region.wanted, yielded, r192])]
                          obtain ⟨k1x, k2x, k3x, k4x, k5x, k6x⟩ := kk.out W (bl_call HBw.out (bl_call HBL.out hC (Nat.le_refl _)) (Nat.le_refl _))
                          have kqx := kq.out W (bl_call HBL.out hC (Nat.le_refl _))
                          have kqy := kq1.out W (bl_call HBL.out hC (Nat.le_refl _))
                          go_simp
                          exact hK _ hC (Below.refl _ _)
                        · -- 16
                          intro vs a W K ha hC hD hU hK
                          have r192 : a.tmps[192]? = some (vs 8) := by rw [ha]; exact fillA_get0 (j := 8) (by kernel_rfl) (by rw [hsz]; decide)
                          have q8 : vs 8 = .bool false := hD 8 (by simp [waits, Region.binds])
                          rw [q8] at r192
                          have r196 : a.tmps[196]? = some (vs 12) := by rw [ha]; exact fillA_get0 (j := 12) (by kernel_rfl) (by rw [hsz]; decide)
                          have q12 : vs 12 = .int .i64 x := hD 12 (by simp [waits, Region.binds])
                          rw [q12] at r196
                          have r199 : a.tmps[199]? = some (vs 15) := by rw [ha]; exact fillA_get0 (j := 15) (by kernel_rfl) (by rw [hsz]; decide)
                          have q15 : vs 15 = .int .i64 khi := hD 15 (by simp [waits, Region.binds])
                          rw [q15] at r199
                          clear ha hU hD ha0
                          rw [if_pos (by simp [Region.wanted, yielded, r192])]
                          go_simp
                          exact hK _ hC (Below.refl _ _)
                        · -- 17
                          intro vs a W K ha hC hD hU hK
                          have r192 : a.tmps[192]? = some (vs 8) := by rw [ha]; exact fillA_get0 (j := 8) (by kernel_rfl) (by rw [hsz]; decide)
                          have q8 : vs 8 = .bool false := hD 8 (by simp [waits, Region.binds])
                          rw [q8] at r192
                          have r200 : a.tmps[200]? = some (vs 16) := by rw [ha]; exact fillA_get0 (j := 16) (by kernel_rfl) (by rw [hsz]; decide)
                          have q16 : vs 16 = .bool false := hD 16 (by simp [waits, Region.binds])
                          rw [q16] at r200
                          clear ha hU hD ha0
                          rw [if_pos (by rfl)]
                          go_simp
                          exact hK _ hC (Below.refl _ _)
                        · -- 18
                          intro vs a W K ha hC hD hU hK
                          have r201 : a.tmps[201]? = some (vs 17) := by rw [ha]; exact fillA_get0 (j := 17) (by kernel_rfl) (by rw [hsz]; decide)
                          have q17 : vs 17 = .bool false := hD 17 (by simp [waits, Region.binds])
                          rw [q17] at r201
                          clear ha hU hD ha0
                          rw [if_pos (by rfl)]
                          go_simp
                          exact hK _ hC (Below.refl _ _)
                        · -- 19
                          intro vs a W K ha hC hD hU hK
                          have r202 : a.tmps[202]? = some (vs 18) := by rw [ha]; exact fillA_get0 (j := 18) (by kernel_rfl) (by rw [hsz]; decide)
                          have q18 : vs 18 = .bool false := hD 18 (by simp [waits, Region.binds])
                          rw [q18] at r202
                          have r18 : a.tmps[18]? = some (.int .i64 (kz1 : Int)) := by rw [ha, fillA_base0 (by kernel_rfl)]; exact tb18
                          clear ha hU hD ha0
                          rw [if_pos (by simp [Region.wanted, yielded, r202])]
                          go_simp
                          exact hK _ hC (Below.refl _ _)
                        · -- 20
                          intro vs a W K ha hC hD hU hK
                          have r202 : a.tmps[202]? = some (vs 18) := by rw [ha]; exact fillA_get0 (j := 18) (by kernel_rfl) (by rw [hsz]; decide)
                          have q18 : vs 18 = .bool false := hD 18 (by simp [waits, Region.binds])
                          rw [q18] at r202
                          have r203 : a.tmps[203]? = some (vs 19) := by rw [ha]; exact fillA_get0 (j := 19) (by kernel_rfl) (by rw [hsz]; decide)
                          have q19 : vs 19 = .int .i64 (kz1 : Int) := hD 19 (by simp [waits, Region.binds])
                          rw [q19] at r203
                          clear ha hU hD ha0
                          rw [if_pos (by simp [Region.wanted, yielded, r202])]
                          go_simp
                          exact hK _ hC (Below.refl _ _)
                        · -- 21
                          intro vs a W K ha hC hD hU hK
                          have r202 : a.tmps[202]? = some (vs 18) := by rw [ha]; exact fillA_get0 (j := 18) (by kernel_rfl) (by rw [hsz]; decide)
                          have q18 : vs 18 = .bool false := hD 18 (by simp [waits, Region.binds])
                          rw [q18] at r202
                          have r204 : a.tmps[204]? = some (vs 20) := by rw [ha]; exact fillA_get0 (j := 20) (by kernel_rfl) (by rw [hsz]; decide)
                          have q20 : vs 20 = .bool true := hD 20 (by simp [waits, Region.binds])
                          rw [q20] at r204
                          clear ha hU hD ha0
                          rw [if_pos (by simp [Region.wanted, yielded, r202])]
                          go_simp
                          exact hK _ hC (Below.refl _ _)
                        · -- 22
                          intro vs a W K ha hC hD hU hK
                          have r205 : a.tmps[205]? = some (vs 21) := by rw [ha]; exact fillA_get0 (j := 21) (by kernel_rfl) (by rw [hsz]; decide)
                          have q21 : vs 21 = .bool true := hD 21 (by simp [waits, Region.binds])
                          rw [q21] at r205
                          have r11 : a.tmps[11]? = some (.slice (some ⟨bS, oS, none⟩) kn kc) := by rw [ha, fillA_base0 (by kernel_rfl)]; exact tb11
                          clear ha hU hD ha0
                          rw [if_pos (by simp [Region.wanted, yielded, r205])]
                          go_simp
                          exact hK _ hC (Below.refl _ _)
                        · -- 23
                          intro vs a W K ha hC hD hU hK
                          have r205 : a.tmps[205]? = some (vs 21) := by rw [ha]; exact fillA_get0 (j := 21) (by kernel_rfl) (by rw [hsz]; decide)
                          have q21 : vs 21 = .bool true := hD 21 (by simp [waits, Region.binds])
                          rw [q21] at r205
                          have r18 : a.tmps[18]? = some (.int .i64 (kz1 : Int)) := by rw [ha, fillA_base0 (by kernel_rfl)]; exact tb18
                          clear ha hU hD ha0
                          rw [if_pos (by simp [Region.wanted, yielded, r205])]
                          go_simp
                          exact hK _ hC (Below.refl _ _)
                        · -- 24
                          intro vs a W K ha hC hD hU hK
                          have r205 : a.tmps[205]? = some (vs 21) := by rw [ha]; exact fillA_get0 (j := 21) (by kernel_rfl) (by rw [hsz]; decide)
                          have q21 : vs 21 = .bool true := hD 21 (by simp [waits, Region.binds])
                          rw [q21] at r205
                          have r206 : a.tmps[206]? = some (vs 22) := by rw [ha]; exact fillA_get0 (j := 22) (by kernel_rfl) (by rw [hsz]; decide)
                          have q22 : vs 22 = .slice (some ⟨bS, oS, none⟩) kn kc := hD 22 (by simp [waits, Region.binds])
                          rw [q22] at r206
                          have r207 : a.tmps[207]? = some (vs 23) := by rw [ha]; exact fillA_get0 (j := 23) (by kernel_rfl) (by rw [hsz]; decide)
                          have q23 : vs 23 = .int .i64 (kz1 : Int) := hD 23 (by simp [waits, Region.binds])
                          rw [q23] at r207
                          clear ha hU hD ha0
                          rw [if_pos (by simp [Region.wanted, yielded, r205])]
                          go_simp
                          exact hK _ hC (Below.refl _ _)
                        · -- 25
                          intro vs a W K ha hC hD hU hK
                          have r205 : a.tmps[205]? = some (vs 21) := by rw [ha]; exact fillA_get0 (j := 21) (by kernel_rfl) (by rw [hsz]; decide)
                          have q21 : vs 21 = .bool true := hD 21 (by simp [waits, Region.binds])
                          rw [q21] at r205
                          have r208 : a.tmps[208]? = some (vs 24) := by rw [ha]; exact fillA_get0 (j := 24) (by kernel_rfl) (by rw [hsz]; decide)
                          have q24 : vs 24 = .pointer (some ⟨bS, oS + kz1, none⟩) := hD 24 (by simp [waits, Region.binds])
                          rw [q24] at r208
                          clear ha hU hD ha0
                          rw [if_pos (by simp [Region.wanted, yielded, r205])]
                          obtain ⟨k1x, k2x, k3x, k4x, k5x, k6x⟩ := kk.out W (bl_call HBw.out (bl_call HBL.out hC (Nat.le_refl _)) (Nat.le_refl _))
                          have kqx := kq.out W (bl_call HBL.out hC (Nat.le_refl _))
                          have kqy := kq1.out W (bl_call HBL.out hC (Nat.le_refl _))
                          go_simp
                          exact hK _ hC (Below.refl _ _)
                        · -- 26
                          intro vs a W K ha hC hD hU hK
                          have r205 : a.tmps[205]? = some (vs 21) := by rw [ha]; exact fillA_get0 (j := 21) (by kernel_rfl) (by rw [hsz]; decide)
                          have q21 : vs 21 = .bool true := hD 21 (by simp [waits, Region.binds])
                          rw [q21] at r205
                          have r11 : a.tmps[11]? = some (.slice (some ⟨bS, oS, none⟩) kn kc) := by rw [ha, fillA_base0 (by kernel_rfl)]; exact tb11
                          clear ha hU hD ha0
                          rw [if_pos (by simp [Region.wanted, yielded, r205])]
                          go_simp
                          exact hK _ hC (Below.refl _ _)
                        · -- 27
                          intro vs a W K ha hC hD hU hK
                          have r205 : a.tmps[205]? = some (vs 21) := by rw [ha]; exact fillA_get0 (j := 21) (by kernel_rfl) (by rw [hsz]; decide)
                          have q21 : vs 21 = .bool true := hD 21 (by simp [waits, Region.binds])
                          rw [q21] at r205
                          have r18 : a.tmps[18]? = some (.int .i64 (kz1 : Int)) := by rw [ha, fillA_base0 (by kernel_rfl)]; exact tb18
                          clear ha hU hD ha0
                          rw [if_pos (by simp [Region.wanted, yielded, r205])]
                          go_simp
                          exact hK _ hC (Below.refl _ _)
                        · -- 28
                          intro vs a W K ha hC hD hU hK
                          have r205 : a.tmps[205]? = some (vs 21) := by rw [ha]; exact fillA_get0 (j := 21) (by kernel_rfl) (by rw [hsz]; decide)
                          have q21 : vs 21 = .bool true := hD 21 (by simp [waits, Region.binds])
                          rw [q21] at r205
                          have r211 : a.tmps[211]? = some (vs 27) := by rw [ha]; exact fillA_get0 (j := 27) (by kernel_rfl) (by rw [hsz]; decide)
                          have q27 : vs 27 = .int .i64 (kz1 : Int) := hD 27 (by simp [waits, Region.binds])
                          rw [q27] at r211
                          clear ha hU hD ha0
                          rw [if_pos (by simp [Region.wanted, yielded, r205])]
                          go_simp
                          exact hK _ hC (Below.refl _ _)
                        · -- 29
                          intro vs a W K ha hC hD hU hK
                          have r205 : a.tmps[205]? = some (vs 21) := by rw [ha]; exact fillA_get0 (j := 21) (by kernel_rfl) (by rw [hsz]; decide)
                          have q21 : vs 21 = .bool true := hD 21 (by simp [waits, Region.binds])
                          rw [q21] at r205
                          have r210 : a.tmps[210]? = some (vs 26) := by rw [ha]; exact fillA_get0 (j := 26) (by kernel_rfl) (by rw [hsz]; decide)
                          have q26 : vs 26 = .slice (some ⟨bS, oS, none⟩) kn kc := hD 26 (by simp [waits, Region.binds])
                          rw [q26] at r210
                          have r212 : a.tmps[212]? = some (vs 28) := by rw [ha]; exact fillA_get0 (j := 28) (by kernel_rfl) (by rw [hsz]; decide)
                          have q28 : vs 28 = .int .i64 (k1 : Int) := hD 28 (by simp [waits, Region.binds])
                          rw [q28] at r212
                          clear ha hU hD ha0
                          rw [if_pos (by simp [Region.wanted, yielded, r205])]
                          go_simp
                          exact hK _ hC (Below.refl _ _)
                        · -- 30
                          intro vs a W K ha hC hD hU hK
                          have r205 : a.tmps[205]? = some (vs 21) := by rw [ha]; exact fillA_get0 (j := 21) (by kernel_rfl) (by rw [hsz]; decide)
                          have q21 : vs 21 = .bool true := hD 21 (by simp [waits, Region.binds])
                          rw [q21] at r205
                          have r213 : a.tmps[213]? = some (vs 29) := by rw [ha]; exact fillA_get0 (j := 29) (by kernel_rfl) (by rw [hsz]; decide)
                          have q29 : vs 29 = .pointer (some ⟨bS, oS + k1, none⟩) := hD 29 (by simp [waits, Region.binds])
                          rw [q29] at r213
                          clear ha hU hD ha0
                          rw [if_pos (by simp [Region.wanted, yielded, r205])]
                          obtain ⟨k1x, k2x, k3x, k4x, k5x, k6x⟩ := kk.out W (bl_call HBw.out (bl_call HBL.out hC (Nat.le_refl _)) (Nat.le_refl _))
                          have kqx := kq.out W (bl_call HBL.out hC (Nat.le_refl _))
                          have kqy := kq1.out W (bl_call HBL.out hC (Nat.le_refl _))
                          go_simp
                          exact hK _ hC (Below.refl _ _)
                        · -- 31
                          intro vs a W K ha hC hD hU hK
                          have r205 : a.tmps[205]? = some (vs 21) := by rw [ha]; exact fillA_get0 (j := 21) (by kernel_rfl) (by rw [hsz]; decide)
                          have q21 : vs 21 = .bool true := hD 21 (by simp [waits, Region.binds])
                          rw [q21] at r205
                          have r209 : a.tmps[209]? = some (vs 25) := by rw [ha]; exact fillA_get0 (j := 25) (by kernel_rfl) (by rw [hsz]; decide)
                          have q25 : vs 25 = .int .i64 x := hD 25 (by simp [waits, Region.binds])
                          rw [q25] at r209
                          have r214 : a.tmps[214]? = some (vs 30) := by rw [ha]; exact fillA_get0 (j := 30) (by kernel_rfl) (by rw [hsz]; decide)
                          have q30 : vs 30 = .int .i64 x2 := hD 30 (by simp [waits, Region.binds])
                          rw [q30] at r214
                          clear ha hU hD ha0
                          rw [if_pos (by simp [Region.wanted, yielded, r205])]
                          go_simp
                          exact hK _ hC (Below.refl _ _)
                        · -- 32
                          intro vs a W K ha hC hD hU hK
                          have r202 : a.tmps[202]? = some (vs 18) := by rw [ha]; exact fillA_get0 (j := 18) (by kernel_rfl) (by rw [hsz]; decide)
                          have q18 : vs 18 = .bool false := hD 18 (by simp [waits, Region.binds])
                          rw [q18] at r202
                          have r205 : a.tmps[205]? = some (vs 21) := by rw [ha]; exact fillA_get0 (j := 21) (by kernel_rfl) (by rw [hsz]; decide)
                          have q21 : vs 21 = .bool true := hD 21 (by simp [waits, Region.binds])
                          rw [q21] at r205
                          have r215 : a.tmps[215]? = some (vs 31) := by rw [ha]; exact fillA_get0 (j := 31) (by kernel_rfl) (by rw [hsz]; decide)
                          have q31 : vs 31 = .bool false := hD 31 (by simp [waits, Region.binds])
                          rw [q31] at r215
                          clear ha hU hD ha0
                          rw [if_pos (by simp [Region.wanted, yielded, r202])]
                          go_simp
                          exact hK _ hC (Below.refl _ _)
                        · -- 33
                          intro vs a W K ha hC hD hU hK
                          have r202 : a.tmps[202]? = some (vs 18) := by rw [ha]; exact fillA_get0 (j := 18) (by kernel_rfl) (by rw [hsz]; decide)
                          have q18 : vs 18 = .bool false := hD 18 (by simp [waits, Region.binds])
                          rw [q18] at r202
                          have r216 : a.tmps[216]? = some (vs 32) := by rw [ha]; exact fillA_get0 (j := 32) (by kernel_rfl) (by rw [hsz]; decide)
                          have q32 : vs 32 = .bool false := hD 32 (by simp [waits, Region.binds])
                          rw [q32] at r216
                          clear ha hU hD ha0
                          rw [if_pos (by rfl)]
                          go_simp
                          exact hK _ hC (Below.refl _ _)
                        · -- 34
                          intro vs a W K ha hC hD hU hK
                          have r217 : a.tmps[217]? = some (vs 33) := by rw [ha]; exact fillA_get0 (j := 33) (by kernel_rfl) (by rw [hsz]; decide)
                          have q33 : vs 33 = .bool false := hD 33 (by simp [waits, Region.binds])
                          rw [q33] at r217
                          clear ha hU hD ha0
                          rw [if_pos (by rfl)]
                          go_simp
                          exact hK _ hC (Below.refl _ _)
                        · -- 35
                          intro vs a W K ha hC hD hU hK
                          have r218 : a.tmps[218]? = some (vs 34) := by rw [ha]; exact fillA_get0 (j := 34) (by kernel_rfl) (by rw [hsz]; decide)
                          have q34 : vs 34 = .bool false := hD 34 (by simp [waits, Region.binds])
                          rw [q34] at r218
                          have r21 : a.tmps[21]? = some (.int .i64 0) := by rw [ha, fillA_base0 (by kernel_rfl)]; exact tb21
                          clear ha hU hD ha0
                          rw [if_pos (by simp [Region.wanted, yielded, r218])]
                          go_simp
                          exact hK _ hC (Below.refl _ _)
                        · -- 36
                          intro vs a W K ha hC hD hU hK
                          have r218 : a.tmps[218]? = some (vs 34) := by rw [ha]; exact fillA_get0 (j := 34) (by kernel_rfl) (by rw [hsz]; decide)
                          have q34 : vs 34 = .bool false := hD 34 (by simp [waits, Region.binds])
                          rw [q34] at r218
                          have r219 : a.tmps[219]? = some (vs 35) := by rw [ha]; exact fillA_get0 (j := 35) (by kernel_rfl) (by rw [hsz]; decide)
                          have q35 : vs 35 = .int .i64 0 := hD 35 (by simp [waits, Region.binds])
                          rw [q35] at r219
                          clear ha hU hD ha0
                          rw [if_pos (by simp [Region.wanted, yielded, r218])]
                          go_simp
                          exact hK _ hC (Below.refl _ _)
                        · -- 37
                          intro vs a W K ha hC hD hU hK
                          have r218 : a.tmps[218]? = some (vs 34) := by rw [ha]; exact fillA_get0 (j := 34) (by kernel_rfl) (by rw [hsz]; decide)
                          have q34 : vs 34 = .bool false := hD 34 (by simp [waits, Region.binds])
                          rw [q34] at r218
                          have r220 : a.tmps[220]? = some (vs 36) := by rw [ha]; exact fillA_get0 (j := 36) (by kernel_rfl) (by rw [hsz]; decide)
                          have q36 : vs 36 = .bool false := hD 36 (by simp [waits, Region.binds])
                          rw [q36] at r220
                          clear ha hU hD ha0
                          rw [if_pos (by rfl)]
                          go_simp
                          exact hK _ hC (Below.refl _ _)
                      case finX =>
                        refine Fin1.none (Nat.le_refl _) ?_
                        intro vs W a1 hC hE ha
                        have eL : vs 37 = .bool false := hE 37 (by simp)
                        rw [ha, ha0]
                        clear ha ha0 hsz tb3 tb11 tb18 tb21
                        simp only [fillA, Act.put, List.setIfInBounds_toArray, List.set_cons_zero, List.set_cons_succ, Nat.zero_add, Nat.reduceAdd, eL]
                        obtain ⟨u0, hu0⟩ : ∃ v0, vs 0 = v0 := ⟨_, rfl⟩
                        obtain ⟨u1, hu1⟩ : ∃ v0, vs 1 = v0 := ⟨_, rfl⟩
                        obtain ⟨u2, hu2⟩ : ∃ v0, vs 2 = v0 := ⟨_, rfl⟩
                        obtain ⟨u3, hu3⟩ : ∃ v0, vs 3 = v0 := ⟨_, rfl⟩
                        obtain ⟨u4, hu4⟩ : ∃ v0, vs 4 = v0 := ⟨_, rfl⟩
                        obtain ⟨u5, hu5⟩ : ∃ v0, vs 5 = v0 := ⟨_, rfl⟩
                        obtain ⟨u6, hu6⟩ : ∃ v0, vs 6 = v0 := ⟨_, rfl⟩
                        obtain ⟨u7, hu7⟩ : ∃ v0, vs 7 = v0 := ⟨_, rfl⟩
                        obtain ⟨u8, hu8⟩ : ∃ v0, vs 8 = v0 := ⟨_, rfl⟩
                        obtain ⟨u9, hu9⟩ : ∃ v0, vs 9 = v0 := ⟨_, rfl⟩
                        obtain ⟨u10, hu10⟩ : ∃ v0, vs 10 = v0 := ⟨_, rfl⟩
                        obtain ⟨u11, hu11⟩ : ∃ v0, vs 11 = v0 := ⟨_, rfl⟩
                        obtain ⟨u12, hu12⟩ : ∃ v0, vs 12 = v0 := ⟨_, rfl⟩
                        obtain ⟨u13, hu13⟩ : ∃ v0, vs 13 = v0 := ⟨_, rfl⟩
                        obtain ⟨u14, hu14⟩ : ∃ v0, vs 14 = v0 := ⟨_, rfl⟩
                        obtain ⟨u15, hu15⟩ : ∃ v0, vs 15 = v0 := ⟨_, rfl⟩
                        obtain ⟨u16, hu16⟩ : ∃ v0, vs 16 = v0 := ⟨_, rfl⟩
                        obtain ⟨u17, hu17⟩ : ∃ v0, vs 17 = v0 := ⟨_, rfl⟩
                        obtain ⟨u18, hu18⟩ : ∃ v0, vs 18 = v0 := ⟨_, rfl⟩
                        obtain ⟨u19, hu19⟩ : ∃ v0, vs 19 = v0 := ⟨_, rfl⟩
                        obtain ⟨u20, hu20⟩ : ∃ v0, vs 20 = v0 := ⟨_, rfl⟩
                        obtain ⟨u21, hu21⟩ : ∃ v0, vs 21 = v0 := ⟨_, rfl⟩
                        obtain ⟨u22, hu22⟩ : ∃ v0, vs 22 = v0 := ⟨_, rfl⟩
                        obtain ⟨u23, hu23⟩ : ∃ v0, vs 23 = v0 := ⟨_, rfl⟩
                        obtain ⟨u24, hu24⟩ : ∃ v0, vs 24 = v0 := ⟨_, rfl⟩
                        obtain ⟨u25, hu25⟩ : ∃ v0, vs 25 = v0 := ⟨_, rfl⟩
                        obtain ⟨u26, hu26⟩ : ∃ v0, vs 26 = v0 := ⟨_, rfl⟩
                        obtain ⟨u27, hu27⟩ : ∃ v0, vs 27 = v0 := ⟨_, rfl⟩
                        obtain ⟨u28, hu28⟩ : ∃ v0, vs 28 = v0 := ⟨_, rfl⟩
                        obtain ⟨u29, hu29⟩ : ∃ v0, vs 29 = v0 := ⟨_, rfl⟩
                        obtain ⟨u30, hu30⟩ : ∃ v0, vs 30 = v0 := ⟨_, rfl⟩
                        obtain ⟨u31, hu31⟩ : ∃ v0, vs 31 = v0 := ⟨_, rfl⟩
                        obtain ⟨u32, hu32⟩ : ∃ v0, vs 32 = v0 := ⟨_, rfl⟩
                        obtain ⟨u33, hu33⟩ : ∃ v0, vs 33 = v0 := ⟨_, rfl⟩
                        obtain ⟨u34, hu34⟩ : ∃ v0, vs 34 = v0 := ⟨_, rfl⟩
                        obtain ⟨u35, hu35⟩ : ∃ v0, vs 35 = v0 := ⟨_, rfl⟩
                        obtain ⟨u36, hu36⟩ : ∃ v0, vs 36 = v0 := ⟨_, rfl⟩
                        rw [hu0, hu1, hu2, hu3, hu4, hu5, hu6, hu7, hu8, hu9, hu10, hu11, hu12, hu13, hu14, hu15, hu16, hu17, hu18, hu19, hu20, hu21, hu22, hu23, hu24, hu25, hu26, hu27, hu28, hu29, hu30, hu31, hu32, hu33, hu34, hu35, hu36]
                        clear hu0 hu1 hu2 hu3 hu4 hu5 hu6 hu7 hu8 hu9 hu10 hu11 hu12 hu13 hu14 hu15 hu16 hu17 hu18 hu19 hu20 hu21 hu22 hu23 hu24 hu25 hu26 hu27 hu28 hu29 hu30 hu31 hu32 hu33 hu34 hu35 hu36
                        have HBR : Hid (Below V12.heap.size V12 W) := bl_call HBk.out (bl_call HBL.out hC (Nat.le_refl _)) (Nat.le_refl _)
                        clear hE eL hC
                        go_wp2_with fail
                        go_roundw
                        case rel => exact ⟨kz1 + 1, by go_num, by omega, HBR.out⟩
                        case measure => have hz : k1 + 1 = kz1 := HKZ.out; simp [intOf]; omega
                · obtain rfl : k = kn := by omega
                  have hki : ¬ (k : Int) < k := by omega
                  have hkp : (0 : Int) < (k : Int) := by omega
                  go_wp2_with fail
                  refine (awake7_any wr).mono ?_
                  rintro e V99 ⟨rfl, c99⟩
                  have b99 := bl_call hBW (bl_call HBw.out c99 (Nat.le_refl _)) (Nat.le_refl _)
                  clear c99
                  go_wp2
                  go_ret
                  exact ⟨by rfl, b99⟩
  · have heb : ((seen7 s l).2 == 0) = false := by simpa using he
    rw [heb]
    clear he heb
    go_wp2_with fail
    refine (awake7_any V1).mono ?_
    rintro e V99 ⟨rfl, c99⟩
    have b99 := bl_call hBW (bl_call b1 c99 (Nat.le_refl _)) (Nat.le_refl _)
    clear c99
    go_wp2
    go_ret
    exact ⟨by rfl, b99⟩
end Go.Proofs.Ytnaadjhiahjlfaa
