/- Walks: the law of one more cause. -/
import Derived.Test.YtkbpmcpmcmnfgaaDoorCBackPureJ
import Derived.Test.YtkbpmcpmcmnfgaaDoorCHelp2
import Derived.Test.YtkbpmcpmcmnfgaaDoorCLaw6
set_option linter.unusedVariables false
set_option linter.unusedSimpArgs false
set_option linter.all false
namespace Go.Proofs.YtkbpmcpmcmnfgaaDoor
open Go.RowKit

theorem infoCause17 : (Tryd.prog.info? 76).map (fun i => (i.zero, i.size, i.bytes)) = some (some (.agg #[.string ⟨#[]⟩, .int .i64 0, .int .i64 0, .slice none 0 0]), 4, 56) := by kernel_rfl

set_option maxRecDepth 100000 in
set_option maxHeartbeats 1600000 in
theorem furtherLaw_any {A B C P : Option Addr} {n ca m cb q cc np cp : Nat} {c : Claim} {s : ByteArray} {lo hi : Int} {per : List Int} (w : World) (htab : TabOk w) (h : ClaimAt (fun _ => True) w A n B m C q c) (hca : n ≤ ca) (hcb : m ≤ cb) (hmc : (m + 1) * 56 ≤ 140737488355328) (hx : s.size ≤ 9223372036854775807 ∧ Ints (fun _ => True) w P np per) :
    Calls Tryd.prog 14 #[.agg #[.slice A n ca, .slice B m cb, .slice C q cc], .agg #[.string s, .int .i64 lo, .int .i64 hi, .slice P np cp]] w fun e w' => e = .returned (.bool true) ∧ Below w.heap.size w w' := by
  obtain ⟨i0, hi0, hz0, hz1, hz2⟩ := info_parts infoCause17
  have hm64 : m + 1 ≤ maxLen := by simp only [maxLen]; omega
  have hm63 : m ≤ maxLen := by omega
  have hmb : m * 56 ≤ 140737488355328 := by omega
  have hbn := claim_bnd h
  have hcl := h.cs.len
  obtain ⟨hs, hper⟩ := hx
  have hper := hper.bound IntR.good
  obtain ⟨d, hd⟩ : ∃ d, moreC c (⟨s.data.toList, lo, hi, per⟩ : Cause) = d := ⟨_, rfl⟩
  have HD := Lib.hid hd
  obtain ⟨wa, hwa⟩ : ∃ wa : World, ((w.alloc (.cells #[.slice A n ca, .slice B m cb, .slice C q cc] 26)).alloc (.cells #[.string s, .int .i64 lo, .int .i64 hi, .slice P np cp] 76)).alloc (.cells #[.slice A n ca, .slice B m cb, .slice C q cc] 26) = wa := ⟨_, rfl⟩
  have hX : Blk wa w.heap.size 26 #[.slice A n ca, .slice B m cb, .slice C q cc] := by rw [← hwa]; exact ((Blk.new _ _ _ rfl).alloc _).alloc _
  have hM : Blk wa (w.heap.size + 1) 76 #[.string s, .int .i64 lo, .int .i64 hi, .slice P np cp] := by rw [← hwa]; exact (Blk.new _ _ _ (by simp)).alloc _
  have hD5 : Blk wa (w.heap.size + 1 + 1) 26 #[.slice A n ca, .slice B m cb, .slice C q cc] := by rw [← hwa]; exact Blk.new _ _ _ (by simp)
  have hBa : Below w.heap.size w wa := by rw [← hwa]; exact bl_alloc (bl_alloc (bl_alloc (Below.refl _ _) _ (Nat.le_refl _)) _ (Nat.le_refl _)) _ (Nat.le_refl _)
  have hsa : wa.heap.size = w.heap.size + 1 + 1 + 1 := by rw [← hwa]; simp
  have Hwa := Lib.hid hwa
  clear hwa
  have hsz : w.heap.size + 3 ≤ wa.heap.size := by omega
  clear hsa
  have hx1 : wa.cell? ⟨w.heap.size, 1, none⟩ = some (.slice B m cb) := hX.cell 1
  have hm0 : wa.cell? ⟨w.heap.size + 1, 0, none⟩ = some (.string s) := hM.cell 0
  have hm1 : wa.cell? ⟨w.heap.size + 1, 1, none⟩ = some (.int .i64 lo) := hM.cell 1
  have hm2 : wa.cell? ⟨w.heap.size + 1, 2, none⟩ = some (.int .i64 hi) := hM.cell 2
  have hm3 : wa.cell? ⟨w.heap.size + 1, 3, none⟩ = some (.slice P np cp) := hM.cell 3
  by_cases he : err d = 0
  · have hv : ((check d).2.2 == 0) = true := by have he' : (check d).2.2 = 0 := he; simpa using he'
    have he2 : err (moreC c (⟨s.data.toList, lo, hi, per⟩ : Cause)) = 0 := by rw [hd]; exact he
    have hec := more_err he2
    have HSc := Lib.hid (sets_ok hec)
    have HSd := Lib.hid (sets_ok he)
    have Hsub : Hid (∀ sk, sk ∈ setsL c → ∃ u ∈ setsL d, partL u sk = true) := fun sk hsk => by rw [← hd]; exact more_sets he2 hsk
    obtain ⟨l1, l2, f1, hmC⟩ : ∃ l1 l2 f1, mustR c = (l1, l2, f1) := ⟨_, _, _, rfl⟩
    obtain ⟨l3, l4, f2, hmD⟩ : ∃ l3 l4 f2, mustR d = (l3, l4, f2) := ⟨_, _, _, rfl⟩
    have HMc := Lib.hid hmC
    have HMd := Lib.hid hmD
    have Hfin : Hid ((f1 = 8 ∧ (f2 = 8 ∨ (f2 = 0 ∧ (m : Int) ∈ l3))) ∨ (f1 = 0 ∧ f2 = 0 ∧ partL l3 l1 = true ∧ partL l2 l4 = true)) := by
      by_cases ha : agreeL c = []
      · left
        rw [must_none hec ha] at hmC
        have e1 : (8 : Int) = f1 := congrArg (fun p => p.2.2) hmC
        refine ⟨e1.symm, ?_⟩
        by_cases hb : agreeL d = []
        · left
          rw [must_none he hb] at hmD
          exact (congrArg (fun p => p.2.2) hmD).symm
        · right
          rw [must_ok he hb] at hmD
          have e2 : mustL d = l3 := congrArg (fun p => p.1) hmD
          refine ⟨(congrArg (fun p => p.2.2) hmD).symm, ?_⟩
          rw [← e2, ← hd, ← hcl]
          exact more_new he2 ha
      · right
        have hb : agreeL d ≠ [] := by rw [← hd]; exact more_some he2 ha
        rw [must_ok hec ha] at hmC
        rw [must_ok he hb] at hmD
        have e1 : mustL c = l1 := congrArg (fun p => p.1) hmC
        have e2 : mayL c = l2 := congrArg (fun p => p.2.1) hmC
        have e3 : mustL d = l3 := congrArg (fun p => p.1) hmD
        have e4 : mayL d = l4 := congrArg (fun p => p.2.1) hmD
        refine ⟨(congrArg (fun p => p.2.2) hmC).symm, (congrArg (fun p => p.2.2) hmD).symm, ?_, ?_⟩
        · rw [← e3, ← e1, ← hd]; exact more_must he2 ha
        · rw [← e2, ← e4, ← hd]; exact more_may he2
    clear he he2 hec hmC hmD hd
    go_enter Tryd.func14, Tryd.ntmps14
    go_wp2
    rw [Hwa.out]
    refine wp_region_three 6 (fun _ W => Below wa.heap.size wa W) (fun j _ w1 w2 => j ≠ 6 → Below w1.heap.size w1 w2)
      [fun b v W => b = false → ∃ g, v = .slice (some ⟨g, 0, none⟩) 0 0 ∧ Blk W g 76 #[] ∧ wa.heap.size ≤ g, isB (.pointer (some ⟨w.heap.size, 1, none⟩)), isB (.slice B m cb), fun b v W => b = false → ∃ A3 cap3, v = .slice A3 m cap3 ∧ OwnL CauseR 4 (fun k => True ∧ k < w.heap.size) W wa.heap.size 76 v c.causes, isB (.agg #[.string s, .int .i64 lo, .int .i64 hi, .slice P np cp]), fun b v W => b = false → ∃ g, v = .slice (some ⟨g, 0, none⟩) 1 1 ∧ Blk W g 76 #[.string s, .int .i64 lo, .int .i64 hi, .slice P np cp], fun b v W => b = true → ∃ A3 cap3, v = .slice (some ⟨A3, 0, none⟩) (m + 1) cap3 ∧ OwnL CauseR 4 (fun k => True ∧ k < w.heap.size) W wa.heap.size 76 v (c.causes ++ [⟨s.data.toList, lo, hi, per⟩]), isB (.pointer (some ⟨w.heap.size + 1 + 1, 1, none⟩))]
      (by kernel_rfl) (by kernel_rfl) (by kernel_rfl) (by simp) (by simp) (by simp) (Below.refl _ _).drew ?stab1 ?step1 ?fin1
    case step1 =>
      refine StepsL3.cons ?_ (StepsL3.cons ?_ (StepsL3.cons ?_ (StepsL3.cons ?_ (StepsL3.cons ?_ (StepsL3.cons ?_ (StepsL3.cons ?_ (StepsL3.cons ?_ StepsL3.nil)))))))
      · -- 0
        intro b vs a W K ha hb hw hC hD hU hK
        clear ha hU hD
        refine ⟨by rfl, ?_⟩
        go_simp
        exact hK _ _ (bl_alloc hC _ (Nat.le_refl _)) (fun _ => bl_alloc (Below.refl _ _) _ (Nat.le_refl _)) (fun _ => ⟨_, rfl, Blk.new _ _ _ rfl, hC.size⟩)
      · -- 1
        intro b vs a W K ha hb hw hC hD hU hK
        have r2 : a.tmps[2]? = some (.pointer (some ⟨w.heap.size, 0, none⟩)) := by rw [ha]; kernel_rfl
        clear ha hU hD
        refine ⟨by rfl, ?_⟩
        go_simp
        exact hK _ _ hC (fun _ => Below.refl _ _) rfl
      · -- 2
        intro b vs a W K ha hb hw hC hD hU hK
        have r21 : a.tmps[21]? = some (vs 1) := by rw [ha]; kernel_rfl
        have q1 : vs 1 = (.pointer (some ⟨w.heap.size, 1, none⟩)) := hD 1 (by simp [waits, Region.binds])
        rw [q1] at r21
        clear ha hU hD
        refine ⟨by rfl, ?_⟩
        have k2 := getc hC hx1
        go_simp
        exact hK _ _ hC (fun _ => Below.refl _ _) rfl
      · -- 3
        intro b vs a W K ha hb hw hC hD hU hK
        have r20 : a.tmps[20]? = some (vs 0) := by rw [ha]; kernel_rfl
        have q0 : (fun b v W => b = false → ∃ g, v = .slice (some ⟨g, 0, none⟩) 0 0 ∧ Blk W g 76 #[] ∧ wa.heap.size ≤ g) b (vs 0) W := hD 0 (by simp [waits, Region.binds])
        have r22 : a.tmps[22]? = some (vs 2) := by rw [ha]; kernel_rfl
        have q2 : vs 2 = (.slice B m cb) := hD 2 (by simp [waits, Region.binds])
        rw [q2] at r22
        clear ha hU hD
        refine ⟨by rfl, ?_⟩
        obtain rfl : b = false := hw _ rfl (by simp [waits, Region.binds])
        obtain ⟨g5, q5, hg5, hl5⟩ := q0 rfl
        rw [q5] at r20
        have hsW := hC.size
        refine wp_append_lit (S := (fun k => True ∧ k < w.heap.size)) W _ _ _ rfl CauseR.good wa.heap.size 76 i0 _ 56 Tryd.underlying23 hi0 hz0 hz1 hz2 rfl (by omega) g5 (by simp [Act.eval, r20]) hg5 hl5 B m cb c.causes (by simp [Act.eval, r22]) ((hbn.keep (Keeps.below (bl_call hBa hC (by omega)))).cs) (fun _ _ h => h) hm63 hmb hC.size (fun h => by have := h.2; omega) (fun h => by have := h.2; omega) ?_
        intro A3 cap3 w3 hO3 hb3
        exact hK _ _ (bl_call hC hb3 (Nat.le_refl _)) (fun _ => hb3) (fun _ => ⟨_, _, rfl, hO3⟩)
      · -- 4
        intro b vs a W K ha hb hw hC hD hU hK
        have r3 : a.tmps[3]? = some (.pointer (some ⟨w.heap.size + 1, 0, none⟩)) := by rw [ha]; kernel_rfl
        clear ha hU hD
        refine ⟨by rfl, ?_⟩
        have k4 := getc hC hm0
        have k5 := getc hC hm1
        have k6 := getc hC hm2
        have k7 := getc hC hm3
        go_simp
        exact hK _ _ hC (fun _ => Below.refl _ _) rfl
      · -- 5
        intro b vs a W K ha hb hw hC hD hU hK
        have r24 : a.tmps[24]? = some (vs 4) := by rw [ha]; kernel_rfl
        have q4 : vs 4 = (.agg #[.string s, .int .i64 lo, .int .i64 hi, .slice P np cp]) := hD 4 (by simp [waits, Region.binds])
        rw [q4] at r24
        clear ha hU hD
        refine ⟨by rfl, ?_⟩
        go_simp
        exact hK _ _ (bl_alloc hC _ (Nat.le_refl _)) (fun _ => bl_alloc (Below.refl _ _) _ (Nat.le_refl _)) (fun _ => ⟨_, rfl, Blk.new _ _ _ rfl⟩)
      · -- 6
        intro b vs a W K ha hb hw hC hD hU hK
        have r23 : a.tmps[23]? = some (vs 3) := by rw [ha]; kernel_rfl
        have q3 : (fun b v W => b = false → ∃ A3 cap3, v = .slice A3 m cap3 ∧ OwnL CauseR 4 (fun k => True ∧ k < w.heap.size) W wa.heap.size 76 v c.causes) b (vs 3) W := hD 3 (by simp [waits, Region.binds])
        have r25 : a.tmps[25]? = some (vs 5) := by rw [ha]; kernel_rfl
        have q5 : (fun b v W => b = false → ∃ g, v = .slice (some ⟨g, 0, none⟩) 1 1 ∧ Blk W g 76 #[.string s, .int .i64 lo, .int .i64 hi, .slice P np cp]) b (vs 5) W := hD 5 (by simp [waits, Region.binds])
        clear ha hU hD
        refine ⟨by rfl, ?_⟩
        obtain rfl : b = false := hb rfl
        obtain ⟨A8, cap8, q8, hO8⟩ := q3 rfl
        obtain ⟨g10, q10, hg10⟩ := q5 rfl
        rw [q8] at r23 hO8
        rw [q10] at r25
        have hsW := hC.size
        refine wp_append_elW W rfl _ _ _ rfl CauseR.good wa.heap.size 76 i0 _ 56 Tryd.underlying23 hi0 hz0 hz1 hz2 rfl (by omega) (.slice A8 m cap8) c.causes ⟨s.data.toList, lo, hi, per⟩ m hcl (by simp [Act.eval, r23]) hO8 g10 1 [.string s, .int .i64 lo, .int .i64 hi, .slice P np cp] (by simp [Act.eval, r25]) ⟨s, P, np, cp, rfl, rfl, hs, hper.keep IntR.good (Keeps.below (bl_call hBa hC (by omega)))⟩ hg10 hm64 hmc hC.size (fun h => by have := h.2; omega) ?_
        intro A2 cap2 w2 hO2 hg2 _
        exact hK _ _ (bl_grown hC hO8 hg2 (Nat.le_refl _) (Nat.le_refl _)) (fun h => absurd rfl h) (fun _ => ⟨_, _, rfl, hO2⟩)
      · -- 7
        intro b vs a W K ha hb hw hC hD hU hK
        have r5 : a.tmps[5]? = some (.pointer (some ⟨w.heap.size + 1 + 1, 0, none⟩)) := by rw [ha]; kernel_rfl
        clear ha hU hD
        refine ⟨by rfl, ?_⟩
        go_simp
        exact hK _ _ hC (fun _ => Below.refl _ _) rfl
    case stab1 =>
      intro b j i p v w1 w2 hp hi hij hj hC hX h
      rcases i with _ | _ | _ | _ | _ | _ | _ | _ | i
      rotate_right
      · simp at hp
      all_goals obtain rfl := Option.some.inj hp
      · intro hf
        by_cases h6 : j = 6
        · rw [if_pos h6] at hf; cases hf
        · rw [if_neg h6] at hf
          obtain ⟨g, hv, hB, hg⟩ := h hf
          exact ⟨g, hv, hB.bl (hX h6), hg⟩
      · exact h
      · exact h
      · intro hf
        by_cases h6 : j = 6
        · rw [if_pos h6] at hf; cases hf
        · rw [if_neg h6] at hf
          obtain ⟨A3, cap3, hv, hO⟩ := h hf
          exact ⟨A3, cap3, hv, hO.below CauseR.good (hX h6)⟩
      · exact h
      · intro hf
        by_cases h6 : j = 6
        · rw [if_pos h6] at hf; cases hf
        · rw [if_neg h6] at hf
          obtain ⟨g, hv, hB⟩ := h hf
          exact ⟨g, hv, hB.bl (hX h6)⟩
      · intro _
        obtain ⟨A3, cap3, hv, hO⟩ := h (hi rfl)
        exact ⟨A3, cap3, hv, hO.below CauseR.good (hX (fun e => hij e.symm))⟩
      · exact h
    case fin1 =>
      intro vs W hC hE hU
      have e6 := hE 6 (by simp)
      have e7 := hE 7 (by simp)
      simp only [envB, List.getD_cons_succ, List.getD_cons_zero, isB] at e6 e7
      have H6 := Lib.hid (e6 trivial)
      clear e6 hE hU
      simp only [fillA, Act.put, List.setIfInBounds_toArray, List.set_cons_zero, List.set_cons_succ, Nat.zero_add, Nat.reduceAdd, e7]
      simp [Region.wanted, yielded]
      obtain ⟨A2, cap2, e6, hO2⟩ := H6.out
      rw [e6] at hO2 ⊢
      clear e6 e7 H6
      have hcap2 := hO2.cap
      have J0 := hX.bl hC
      have J5 := hD5.bl hC
      have hBW := bl_call hBa hC (by omega)
      have hsW := hC.size
      obtain ⟨W2, hW2⟩ : ∃ W2, W.setCell ⟨w.heap.size + 1 + 1, 1, none⟩ (.slice (some ⟨A2, 0, none⟩) (m + 1) cap2) = W2 := ⟨_, rfl⟩
      have K5 : Blk W2 (w.heap.size + 1 + 1) 26 #[.slice A n ca, .slice (some ⟨A2, 0, none⟩) (m + 1) cap2, .slice C q cc] := by rw [← hW2]; exact J5.set_ 1 _
      have K0 : Blk W2 w.heap.size 26 #[.slice A n ca, .slice B m cb, .slice C q cc] := by rw [← hW2]; exact J0.far (by first | omega | (dsimp only; omega)) _
      have hB2 : Below w.heap.size w W2 := by rw [← hW2]; exact bl_set hBW (by first | omega | (dsimp only; omega)) _
      have hO3 : OwnL CauseR 4 (fun k => True ∧ k < w.heap.size) W2 wa.heap.size 76 (.slice (some ⟨A2, 0, none⟩) (m + 1) cap2) (c.causes ++ [(⟨s.data.toList, lo, hi, per⟩ : Cause)]) := by rw [← hW2]; exact own_far CauseR.good hO2 (by rintro ⟨_, h⟩; omega) (by omega) _ _
      have hDD : ClaimAt (fun _ => True) W2 A n (some ⟨A2, 0, none⟩) (m + 1) C q (moreC c (⟨s.data.toList, lo, hi, per⟩ : Cause)) := by
        have hcE := hbn.keep (Keeps.below hB2)
        exact ⟨hcE.fs.mono FeatR.good (fun _ _ => trivial), hO3.slice CauseR.good rfl hm64 (fun _ _ => trivial) (fun _ _ _ => trivial), hcE.ms.mono MeasR.good (fun _ _ => trivial)⟩
      rw [HD.out] at hDD
      have hcc : ClaimAt (fun _ => True) W2 A n B m C q c := by
        have hcE := hbn.keep (Keeps.below hB2)
        exact ⟨hcE.fs.mono FeatR.good (fun _ _ => trivial), hcE.cs.mono CauseR.good (fun _ _ => trivial), hcE.ms.mono MeasR.good (fun _ _ => trivial)⟩
      have tab2 := htab.bl hB2
      have y0 : W.cell? ⟨w.heap.size + 1 + 1, 1, none⟩ = some (.slice B m cb) := J5.cell 1
      have y1 := J5.frozen 1
      have y2 := J5.lt
      have c0 : W2.cell? ⟨w.heap.size + 1 + 1, 0, none⟩ = some (.slice A n ca) := K5.cell 0
      have c1 : W2.cell? ⟨w.heap.size + 1 + 1, 1, none⟩ = some (.slice (some ⟨A2, 0, none⟩) (m + 1) cap2) := K5.cell 1
      have c2 : W2.cell? ⟨w.heap.size + 1 + 1, 2, none⟩ = some (.slice C q cc) := K5.cell 2
      have HB2 := Lib.hid hB2
      clear J0 J5 hBW hO2 hO3 hB2
      go_simp
      go_wp2_with fail
      clear y0 y1 y2 c0 c1 c2 hW2
      refine (valid_any W2 hDD).mono ?_
      rintro e u1 ⟨rfl, b1⟩
      rw [hv]
      have c0 : u1.cell? ⟨w.heap.size, 0, none⟩ = some (.slice A n ca) := (K0.bl b1).cell 0
      have c1 : u1.cell? ⟨w.heap.size, 1, none⟩ = some (.slice B m cb) := (K0.bl b1).cell 1
      have c2 : u1.cell? ⟨w.heap.size, 2, none⟩ = some (.slice C q cc) := (K0.bl b1).cell 2
      go_wp2_with fail
      clear c0 c1 c2
      refine (bsets_any u1 (tab2.bl b1) (hcc.keep (Keeps.below b1)) hca hcb).mono ?_
      rintro e u2 ⟨A6, n6, c6, rfl, h6, k2⟩
      rw [HSc.out] at h6 ⊢
      have b2 := bl_call b1 k2 (Nat.le_refl _)
      have c0 : u2.cell? ⟨w.heap.size + 1 + 1, 0, none⟩ = some (.slice A n ca) := (K5.bl b2).cell 0
      have c1 : u2.cell? ⟨w.heap.size + 1 + 1, 1, none⟩ = some (.slice (some ⟨A2, 0, none⟩) (m + 1) cap2) := (K5.bl b2).cell 1
      have c2 : u2.cell? ⟨w.heap.size + 1 + 1, 2, none⟩ = some (.slice C q cc) := (K5.bl b2).cell 2
      go_wp2_with fail
      clear c0 c1 c2
      refine (bsets_any u2 (tab2.bl b2) (hDD.keep (Keeps.below b2)) hca hcap2).mono ?_
      rintro e u3 ⟨A8, n8, c8, rfl, h8, k3⟩
      rw [HSd.out] at h8 ⊢
      have b3 := bl_call b2 k3 (Nat.le_refl _)
      have h6 := h6.keep (SlR.good IntR.good) (Keeps.below k3)
      have c0 : u3.cell? ⟨w.heap.size, 0, none⟩ = some (.slice A n ca) := (K0.bl b3).cell 0
      have c1 : u3.cell? ⟨w.heap.size, 1, none⟩ = some (.slice B m cb) := (K0.bl b3).cell 1
      have c2 : u3.cell? ⟨w.heap.size, 2, none⟩ = some (.slice C q cc) := (K0.bl b3).cell 2
      go_wp2_with fail
      clear c0 c1 c2
      refine (bmust_any u3 (tab2.bl b3) (hcc.keep (Keeps.below b3)) hca hcb).mono ?_
      rintro e u4 ⟨A10, n10, c10, A11, n11, c11, rfl, h10, h11, k4⟩
      rw [HMc.out] at h10 h11 ⊢
      have b4 := bl_call b3 k4 (Nat.le_refl _)
      have h6 := h6.keep (SlR.good IntR.good) (Keeps.below k4)
      have h8 := h8.keep (SlR.good IntR.good) (Keeps.below k4)
      have c0 : u4.cell? ⟨w.heap.size + 1 + 1, 0, none⟩ = some (.slice A n ca) := (K5.bl b4).cell 0
      have c1 : u4.cell? ⟨w.heap.size + 1 + 1, 1, none⟩ = some (.slice (some ⟨A2, 0, none⟩) (m + 1) cap2) := (K5.bl b4).cell 1
      have c2 : u4.cell? ⟨w.heap.size + 1 + 1, 2, none⟩ = some (.slice C q cc) := (K5.bl b4).cell 2
      go_wp2_with fail
      clear c0 c1 c2
      refine (bmust_any u4 (tab2.bl b4) (hDD.keep (Keeps.below b4)) hca hcap2).mono ?_
      rintro e u5 ⟨A13, n13, c13, A14, n14, c14, rfl, h13, h14, k5⟩
      rw [HMd.out] at h13 h14 ⊢
      have b5 := bl_call b4 k5 (Nat.le_refl _)
      have h6 := h6.keep (SlR.good IntR.good) (Keeps.below k5)
      have h8 := h8.keep (SlR.good IntR.good) (Keeps.below k5)
      have h10 := h10.keep IntR.good (Keeps.below k5)
      have h11 := h11.keep IntR.good (Keeps.below k5)
      clear b1 b2 b3 b4 k2 k3 k4 k5
      have hle6 := h6.le
      have hle8 := h8.le
      have H8 := Lib.hid h8.len
      go_wp2
      go_loopw [16] (fun i wr => ∃ k : Nat, k ≤ n6 ∧ i = .int .i64 k ∧ Below u5.heap.size u5 wr) (fun i _ => n6 - (intOf i).toNat)
      case atStart => exact ⟨0, Nat.zero_le _, rfl, Below.refl _ _⟩
      case round =>
        obtain ⟨k, hk, rfl, hB⟩ := hrel
        have b6 := bl_call b5 hB (Nat.le_refl _)
        by_cases hlt : k < n6
        · have hki : (k : Int) < n6 := by omega
          have r8 := h8.keep (SlR.good IntR.good) (Keeps.below hB)
          obtain ⟨bt, ot, sk, As, ns, cs, rfl, hct, hV, Hs⟩ := Rows.get (h6.keep (SlR.good IntR.good) (Keeps.below hB)) hlt
          have Hany : Hid ((setsL d).any (fun u => partL u sk) = true) := List.any_eq_true.2 (Hsub.out sk (List.mem_of_getElem? Hs.out))
          obtain ⟨wo, rfl⟩ : ∃ wo : World, wo = wr := ⟨_, rfl⟩
          go_wp2
          go_loopw [17, 18] (fun fb j wr => ∃ (i : Nat) (fl : Bool), i ≤ n8 ∧ j = .int .i64 i ∧ fb = .bool fl ∧ Hid (fl = ((setsL d).take i).any fun u => partL u sk) ∧ Below wo.heap.size wo wr) (fun _ j _ => n8 - (intOf j).toNat)
          case atStart => exact ⟨0, false, Nat.zero_le _, rfl, rfl, rfl, Below.refl _ _⟩
          case round =>
            obtain ⟨i, fl, hi, rfl, rfl, Hfl, hBi⟩ := hrel
            by_cases hlt2 : i < n8
            · have hii : (i : Int) < n8 := by omega
              have hct2 := getc hBi hct
              have hV2 := hV.keep IntR.good (Keeps.below hBi)
              obtain ⟨bt2, ot2, s2, A9, n9, c9, rfl, hct3, hV3, Hs3⟩ := Rows.get (r8.keep (SlR.good IntR.good) (Keeps.below hBi)) hlt2
              obtain ⟨pb, hpb⟩ : ∃ pb, partL s2 sk = pb := ⟨_, rfl⟩
              have HPa : Hid (∀ zz, Calls Tryd.prog 41 #[.slice A9 n9 c9, .slice As ns cs] (wr.drewN zz) (fun e w' => e = .returned (.bool pb) ∧ w' = wr.drewN zz)) := fun zz => (lawpart_any (c := c9) (d := cs) _ (hV3.keep IntR.good (Keeps.drewN _ _)) (hV2.keep IntR.good (Keeps.drewN _ _))).mono fun e w' hh => ⟨by rw [hh.1, hpb], hh.2.symm⟩
              have Hst : Hid (((setsL d).take (i + 1)).any (fun u => partL u sk) = (fl || pb)) := by
                rw [Hid, take_snoc_get Hs3.out, List.any_append, ← Hfl.out]; simp [hpb]
              clear hpb hV2 hV3
              cases fl with
              | false =>
                go_wp2
                go_quiet ((go_at_call 41; with_reducible refine Calls.quiet_of_same (n := _) (HPa.out _)))
                go_wp2
                go_roundw
                case rel => exact ⟨i + 1, pb, by omega, by go_num, rfl, by rw [Hid, Hst.out]; rfl, bl_drewN hBi _⟩
                case measure => simp [intOf]; omega
              | true =>
                go_wp2
                go_quiet (fail)
                go_wp2
                go_roundw
                case rel => exact ⟨i + 1, true, by omega, by go_num, rfl, by rw [Hid, Hst.out]; rfl, bl_drewN hBi _⟩
                case measure => simp [intOf]; omega
            · obtain rfl : n8 = i := by omega
              have hii : ¬ (n8 : Int) < n8 := by omega
              have hfl : fl = true := by
                rw [Hfl.out, List.take_of_length_le (by rw [H8.out]; exact Nat.le_refl _)]; exact Hany.out
              subst hfl
              go_wp2
              go_roundw
              case rel => exact ⟨k + 1, by omega, by go_num, bl_call hB hBi (Nat.le_refl _)⟩
              case measure => simp [intOf]; omega
        · have hki : ¬ (k : Int) < n6 := by omega
          have r10 := h10.keep IntR.good (Keeps.below hB)
          have r11 := h11.keep IntR.good (Keeps.below hB)
          have r13 := h13.keep IntR.good (Keeps.below hB)
          have r14 := h14.keep IntR.good (Keeps.below hB)
          have hw2 := HB2.out.size
          have hw3 := b5.size
          have hw4 := hB.size
          have c1 : wr.cell? ⟨w.heap.size, 1, none⟩ = some (.slice B m cb) := (K0.bl b6).cell 1
          rcases Hfin.out with ⟨rfl, he2⟩ | ⟨rfl, rfl, hp1, hp2⟩
          · rcases he2 with rfl | ⟨rfl, hin⟩
            · go_wp2_with fail
              refine (awake_any _ (tab2.bl b6)).mono ?_
              rintro e v4 ⟨rfl, j4⟩
              go_wp2
              go_ret
              exact ⟨rfl, bl_call (bl_call HB2.out b6 (by omega)) j4 (by omega)⟩
            · have hd1 := decide_eq_true hin
              clear hin
              go_wp2_with fail
              refine (has_any (c := c13) (m : Int) wr r13).mono ?_
              rintro e v3 ⟨rfl, rfl⟩
              rw [hd1]
              go_wp2_with fail
              refine (awake_any _ (tab2.bl b6)).mono ?_
              rintro e v4 ⟨rfl, j4⟩
              go_wp2
              go_ret
              exact ⟨rfl, bl_call (bl_call HB2.out b6 (by omega)) j4 (by omega)⟩
          · go_wp2_with fail
            refine (lawpart_any _ r13 r10).mono ?_
            rintro e v3 ⟨rfl, rfl⟩
            rw [hp1]
            go_wp2_with fail
            refine (lawpart_any _ r11 r14).mono ?_
            rintro e v3 ⟨rfl, rfl⟩
            rw [hp2]
            go_wp2_with fail
            refine (awake_any _ (tab2.bl b6)).mono ?_
            rintro e v4 ⟨rfl, j4⟩
            go_wp2
            go_ret
            exact ⟨rfl, bl_call (bl_call HB2.out b6 (by omega)) j4 (by omega)⟩
  · have hv : ((check d).2.2 == 0) = false := by have he' : (check d).2.2 ≠ 0 := he; simpa using he'
    clear he hd
    go_enter Tryd.func14, Tryd.ntmps14
    go_wp2
    rw [Hwa.out]
    refine wp_region_three 6 (fun _ W => Below wa.heap.size wa W) (fun j _ w1 w2 => j ≠ 6 → Below w1.heap.size w1 w2)
      [fun b v W => b = false → ∃ g, v = .slice (some ⟨g, 0, none⟩) 0 0 ∧ Blk W g 76 #[] ∧ wa.heap.size ≤ g, isB (.pointer (some ⟨w.heap.size, 1, none⟩)), isB (.slice B m cb), fun b v W => b = false → ∃ A3 cap3, v = .slice A3 m cap3 ∧ OwnL CauseR 4 (fun k => True ∧ k < w.heap.size) W wa.heap.size 76 v c.causes, isB (.agg #[.string s, .int .i64 lo, .int .i64 hi, .slice P np cp]), fun b v W => b = false → ∃ g, v = .slice (some ⟨g, 0, none⟩) 1 1 ∧ Blk W g 76 #[.string s, .int .i64 lo, .int .i64 hi, .slice P np cp], fun b v W => b = true → ∃ A3 cap3, v = .slice (some ⟨A3, 0, none⟩) (m + 1) cap3 ∧ OwnL CauseR 4 (fun k => True ∧ k < w.heap.size) W wa.heap.size 76 v (c.causes ++ [⟨s.data.toList, lo, hi, per⟩]), isB (.pointer (some ⟨w.heap.size + 1 + 1, 1, none⟩))]
      (by kernel_rfl) (by kernel_rfl) (by kernel_rfl) (by simp) (by simp) (by simp) (Below.refl _ _).drew ?stab1 ?step1 ?fin1
    case step1 =>
      refine StepsL3.cons ?_ (StepsL3.cons ?_ (StepsL3.cons ?_ (StepsL3.cons ?_ (StepsL3.cons ?_ (StepsL3.cons ?_ (StepsL3.cons ?_ (StepsL3.cons ?_ StepsL3.nil)))))))
      · -- 0
        intro b vs a W K ha hb hw hC hD hU hK
        clear ha hU hD
        refine ⟨by rfl, ?_⟩
        go_simp
        exact hK _ _ (bl_alloc hC _ (Nat.le_refl _)) (fun _ => bl_alloc (Below.refl _ _) _ (Nat.le_refl _)) (fun _ => ⟨_, rfl, Blk.new _ _ _ rfl, hC.size⟩)
      · -- 1
        intro b vs a W K ha hb hw hC hD hU hK
        have r2 : a.tmps[2]? = some (.pointer (some ⟨w.heap.size, 0, none⟩)) := by rw [ha]; kernel_rfl
        clear ha hU hD
        refine ⟨by rfl, ?_⟩
        go_simp
        exact hK _ _ hC (fun _ => Below.refl _ _) rfl
      · -- 2
        intro b vs a W K ha hb hw hC hD hU hK
        have r21 : a.tmps[21]? = some (vs 1) := by rw [ha]; kernel_rfl
        have q1 : vs 1 = (.pointer (some ⟨w.heap.size, 1, none⟩)) := hD 1 (by simp [waits, Region.binds])
        rw [q1] at r21
        clear ha hU hD
        refine ⟨by rfl, ?_⟩
        have k2 := getc hC hx1
        go_simp
        exact hK _ _ hC (fun _ => Below.refl _ _) rfl
      · -- 3
        intro b vs a W K ha hb hw hC hD hU hK
        have r20 : a.tmps[20]? = some (vs 0) := by rw [ha]; kernel_rfl
        have q0 : (fun b v W => b = false → ∃ g, v = .slice (some ⟨g, 0, none⟩) 0 0 ∧ Blk W g 76 #[] ∧ wa.heap.size ≤ g) b (vs 0) W := hD 0 (by simp [waits, Region.binds])
        have r22 : a.tmps[22]? = some (vs 2) := by rw [ha]; kernel_rfl
        have q2 : vs 2 = (.slice B m cb) := hD 2 (by simp [waits, Region.binds])
        rw [q2] at r22
        clear ha hU hD
        refine ⟨by rfl, ?_⟩
        obtain rfl : b = false := hw _ rfl (by simp [waits, Region.binds])
        obtain ⟨g5, q5, hg5, hl5⟩ := q0 rfl
        rw [q5] at r20
        have hsW := hC.size
        refine wp_append_lit (S := (fun k => True ∧ k < w.heap.size)) W _ _ _ rfl CauseR.good wa.heap.size 76 i0 _ 56 Tryd.underlying23 hi0 hz0 hz1 hz2 rfl (by omega) g5 (by simp [Act.eval, r20]) hg5 hl5 B m cb c.causes (by simp [Act.eval, r22]) ((hbn.keep (Keeps.below (bl_call hBa hC (by omega)))).cs) (fun _ _ h => h) hm63 hmb hC.size (fun h => by have := h.2; omega) (fun h => by have := h.2; omega) ?_
        intro A3 cap3 w3 hO3 hb3
        exact hK _ _ (bl_call hC hb3 (Nat.le_refl _)) (fun _ => hb3) (fun _ => ⟨_, _, rfl, hO3⟩)
      · -- 4
        intro b vs a W K ha hb hw hC hD hU hK
        have r3 : a.tmps[3]? = some (.pointer (some ⟨w.heap.size + 1, 0, none⟩)) := by rw [ha]; kernel_rfl
        clear ha hU hD
        refine ⟨by rfl, ?_⟩
        have k4 := getc hC hm0
        have k5 := getc hC hm1
        have k6 := getc hC hm2
        have k7 := getc hC hm3
        go_simp
        exact hK _ _ hC (fun _ => Below.refl _ _) rfl
      · -- 5
        intro b vs a W K ha hb hw hC hD hU hK
        have r24 : a.tmps[24]? = some (vs 4) := by rw [ha]; kernel_rfl
        have q4 : vs 4 = (.agg #[.string s, .int .i64 lo, .int .i64 hi, .slice P np cp]) := hD 4 (by simp [waits, Region.binds])
        rw [q4] at r24
        clear ha hU hD
        refine ⟨by rfl, ?_⟩
        go_simp
        exact hK _ _ (bl_alloc hC _ (Nat.le_refl _)) (fun _ => bl_alloc (Below.refl _ _) _ (Nat.le_refl _)) (fun _ => ⟨_, rfl, Blk.new _ _ _ rfl⟩)
      · -- 6
        intro b vs a W K ha hb hw hC hD hU hK
        have r23 : a.tmps[23]? = some (vs 3) := by rw [ha]; kernel_rfl
        have q3 : (fun b v W => b = false → ∃ A3 cap3, v = .slice A3 m cap3 ∧ OwnL CauseR 4 (fun k => True ∧ k < w.heap.size) W wa.heap.size 76 v c.causes) b (vs 3) W := hD 3 (by simp [waits, Region.binds])
        have r25 : a.tmps[25]? = some (vs 5) := by rw [ha]; kernel_rfl
        have q5 : (fun b v W => b = false → ∃ g, v = .slice (some ⟨g, 0, none⟩) 1 1 ∧ Blk W g 76 #[.string s, .int .i64 lo, .int .i64 hi, .slice P np cp]) b (vs 5) W := hD 5 (by simp [waits, Region.binds])
        clear ha hU hD
        refine ⟨by rfl, ?_⟩
        obtain rfl : b = false := hb rfl
        obtain ⟨A8, cap8, q8, hO8⟩ := q3 rfl
        obtain ⟨g10, q10, hg10⟩ := q5 rfl
        rw [q8] at r23 hO8
        rw [q10] at r25
        have hsW := hC.size
        refine wp_append_elW W rfl _ _ _ rfl CauseR.good wa.heap.size 76 i0 _ 56 Tryd.underlying23 hi0 hz0 hz1 hz2 rfl (by omega) (.slice A8 m cap8) c.causes ⟨s.data.toList, lo, hi, per⟩ m hcl (by simp [Act.eval, r23]) hO8 g10 1 [.string s, .int .i64 lo, .int .i64 hi, .slice P np cp] (by simp [Act.eval, r25]) ⟨s, P, np, cp, rfl, rfl, hs, hper.keep IntR.good (Keeps.below (bl_call hBa hC (by omega)))⟩ hg10 hm64 hmc hC.size (fun h => by have := h.2; omega) ?_
        intro A2 cap2 w2 hO2 hg2 _
        exact hK _ _ (bl_grown hC hO8 hg2 (Nat.le_refl _) (Nat.le_refl _)) (fun h => absurd rfl h) (fun _ => ⟨_, _, rfl, hO2⟩)
      · -- 7
        intro b vs a W K ha hb hw hC hD hU hK
        have r5 : a.tmps[5]? = some (.pointer (some ⟨w.heap.size + 1 + 1, 0, none⟩)) := by rw [ha]; kernel_rfl
        clear ha hU hD
        refine ⟨by rfl, ?_⟩
        go_simp
        exact hK _ _ hC (fun _ => Below.refl _ _) rfl
    case stab1 =>
      intro b j i p v w1 w2 hp hi hij hj hC hX h
      rcases i with _ | _ | _ | _ | _ | _ | _ | _ | i
      rotate_right
      · simp at hp
      all_goals obtain rfl := Option.some.inj hp
      · intro hf
        by_cases h6 : j = 6
        · rw [if_pos h6] at hf; cases hf
        · rw [if_neg h6] at hf
          obtain ⟨g, hv, hB, hg⟩ := h hf
          exact ⟨g, hv, hB.bl (hX h6), hg⟩
      · exact h
      · exact h
      · intro hf
        by_cases h6 : j = 6
        · rw [if_pos h6] at hf; cases hf
        · rw [if_neg h6] at hf
          obtain ⟨A3, cap3, hv, hO⟩ := h hf
          exact ⟨A3, cap3, hv, hO.below CauseR.good (hX h6)⟩
      · exact h
      · intro hf
        by_cases h6 : j = 6
        · rw [if_pos h6] at hf; cases hf
        · rw [if_neg h6] at hf
          obtain ⟨g, hv, hB⟩ := h hf
          exact ⟨g, hv, hB.bl (hX h6)⟩
      · intro _
        obtain ⟨A3, cap3, hv, hO⟩ := h (hi rfl)
        exact ⟨A3, cap3, hv, hO.below CauseR.good (hX (fun e => hij e.symm))⟩
      · exact h
    case fin1 =>
      intro vs W hC hE hU
      have e6 := hE 6 (by simp)
      have e7 := hE 7 (by simp)
      simp only [envB, List.getD_cons_succ, List.getD_cons_zero, isB] at e6 e7
      have H6 := Lib.hid (e6 trivial)
      clear e6 hE hU
      simp only [fillA, Act.put, List.setIfInBounds_toArray, List.set_cons_zero, List.set_cons_succ, Nat.zero_add, Nat.reduceAdd, e7]
      simp [Region.wanted, yielded]
      obtain ⟨A2, cap2, e6, hO2⟩ := H6.out
      rw [e6] at hO2 ⊢
      clear e6 e7 H6
      have hcap2 := hO2.cap
      have J0 := hX.bl hC
      have J5 := hD5.bl hC
      have hBW := bl_call hBa hC (by omega)
      have hsW := hC.size
      obtain ⟨W2, hW2⟩ : ∃ W2, W.setCell ⟨w.heap.size + 1 + 1, 1, none⟩ (.slice (some ⟨A2, 0, none⟩) (m + 1) cap2) = W2 := ⟨_, rfl⟩
      have K5 : Blk W2 (w.heap.size + 1 + 1) 26 #[.slice A n ca, .slice (some ⟨A2, 0, none⟩) (m + 1) cap2, .slice C q cc] := by rw [← hW2]; exact J5.set_ 1 _
      have K0 : Blk W2 w.heap.size 26 #[.slice A n ca, .slice B m cb, .slice C q cc] := by rw [← hW2]; exact J0.far (by first | omega | (dsimp only; omega)) _
      have hB2 : Below w.heap.size w W2 := by rw [← hW2]; exact bl_set hBW (by first | omega | (dsimp only; omega)) _
      have hO3 : OwnL CauseR 4 (fun k => True ∧ k < w.heap.size) W2 wa.heap.size 76 (.slice (some ⟨A2, 0, none⟩) (m + 1) cap2) (c.causes ++ [(⟨s.data.toList, lo, hi, per⟩ : Cause)]) := by rw [← hW2]; exact own_far CauseR.good hO2 (by rintro ⟨_, h⟩; omega) (by omega) _ _
      have hDD : ClaimAt (fun _ => True) W2 A n (some ⟨A2, 0, none⟩) (m + 1) C q (moreC c (⟨s.data.toList, lo, hi, per⟩ : Cause)) := by
        have hcE := hbn.keep (Keeps.below hB2)
        exact ⟨hcE.fs.mono FeatR.good (fun _ _ => trivial), hO3.slice CauseR.good rfl hm64 (fun _ _ => trivial) (fun _ _ _ => trivial), hcE.ms.mono MeasR.good (fun _ _ => trivial)⟩
      rw [HD.out] at hDD
      have hcc : ClaimAt (fun _ => True) W2 A n B m C q c := by
        have hcE := hbn.keep (Keeps.below hB2)
        exact ⟨hcE.fs.mono FeatR.good (fun _ _ => trivial), hcE.cs.mono CauseR.good (fun _ _ => trivial), hcE.ms.mono MeasR.good (fun _ _ => trivial)⟩
      have tab2 := htab.bl hB2
      have y0 : W.cell? ⟨w.heap.size + 1 + 1, 1, none⟩ = some (.slice B m cb) := J5.cell 1
      have y1 := J5.frozen 1
      have y2 := J5.lt
      have c0 : W2.cell? ⟨w.heap.size + 1 + 1, 0, none⟩ = some (.slice A n ca) := K5.cell 0
      have c1 : W2.cell? ⟨w.heap.size + 1 + 1, 1, none⟩ = some (.slice (some ⟨A2, 0, none⟩) (m + 1) cap2) := K5.cell 1
      have c2 : W2.cell? ⟨w.heap.size + 1 + 1, 2, none⟩ = some (.slice C q cc) := K5.cell 2
      have HB2 := Lib.hid hB2
      clear J0 J5 hBW hO2 hO3 hB2
      go_simp
      go_wp2_with fail
      clear y0 y1 y2 c0 c1 c2 hW2
      refine (valid_any W2 hDD).mono ?_
      rintro e u1 ⟨rfl, b1⟩
      rw [hv]
      go_wp2_with fail
      refine (awake_any _ (tab2.bl b1)).mono ?_
      rintro e u4 ⟨rfl, b4⟩
      go_wp2
      go_ret
      exact ⟨rfl, bl_call (bl_call HB2.out b1 (by have := HB2.out.size; omega)) b4 (by have := HB2.out.size; have := b1.size; omega)⟩

end Go.Proofs.YtkbpmcpmcmnfgaaDoor
