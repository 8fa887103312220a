/- Walks: a claim of which some causes are kept. -/
import Derived.Test.YtkbpmcpmcmnfgaaDoorCFewer
import Derived.Test.YtkbpmcpmcmnfgaaDoorCLaw1
import Derived.Test.YtkbpmcpmcmnfgaaDoorCRegion2
set_option linter.unusedVariables false
set_option linter.unusedSimpArgs false
set_option linter.all false
namespace Go.Proofs.YtkbpmcpmcmnfgaaDoor
open Go.RowKit

theorem claim_bnd {S : Foot} {w : World} {A B C : Option Addr} {n m q : Nat} {c : Claim} (h : ClaimAt S w A n B m C q c) : ClaimAt (fun k => S k ∧ k < w.heap.size) w A n B m C q c :=
  ⟨h.fs.bound FeatR.good, h.cs.bound CauseR.good, h.ms.bound MeasR.good⟩

theorem infoCause : (Tryd.prog.info? 76).map (fun i => (i.zero, i.size, i.bytes)) = some (some (.agg #[.string ⟨#[]⟩, .int .i64 0, .int .i64 0, .slice none 0 0]), 4, 56) := by kernel_rfl
theorem OwnL.cap {α : Type} {R : Rd α} {m : Nat} {S : Foot} {w : World} {base : Nat} {e : TypeId} {xs : List α} {A : Option Addr} {n cap : Nat} (h : OwnL R m S w base e (.slice A n cap) xs) : n ≤ cap := by
  obtain ⟨_, cells, ho, _⟩ := h
  rcases ho.2 with ⟨e, _⟩ | ⟨g, cap', cur, e, _, _, hle, _⟩
  · injection e with _ e1 e2; omega
  · injection e with _ e1 e2; omega
theorem causes_own {S : Foot} {W : World} {base : Nat} {e : TypeId} {A : Option Addr} {n cap : Nat} {xs : List Cause} (h : OwnL CauseR 4 S W base e (.slice A n cap) xs) (hn : n ≤ 5) : Causes (fun _ => True) W A n xs :=
  h.slice CauseR.good rfl (by simp only [maxLen]; omega) (fun _ _ => trivial) (fun _ _ _ => trivial)

theorem own_far {α : Type} {R : Rd α} {m : Nat} {S : Foot} {w : World} {base : Nat} {e : TypeId} {v : Value} {xs : List α} (g : R.Good m) (h : OwnL R m S w base e v xs) {b : Nat} (hS : ¬ S b) (hb : b < base) (i : Nat) (u : Value) : OwnL R m S (w.setCell ⟨b, i, none⟩ u) base e v xs :=
  h.keep g (Keeps.setCell _ _ _ (by
    rintro (h1 | h1)
    · exact hS h1
    · have := (OwnL.block h _ h1).1; dsimp only at this; omega))

set_option maxRecDepth 100000 in
set_option maxHeartbeats 4000000 in
theorem only_any {S : Foot} {A B C L : Option Addr} {n ca m cb q cc nl cl : Nat} {c : Claim} {l : List Int} (w : World) (h : ClaimAt (fun _ => True) w A n B m C q c) (hm : m ≤ 5) (hL : Ints S w L nl l) :
    Calls Tryd.prog 44 #[.agg #[.slice A n ca, .slice B m cb, .slice C q cc], .slice L nl cl] w fun e w' => ∃ B' m' cb', e = .returned (.agg #[.slice A n ca, .slice B' m' cb', .slice C q cc]) ∧ m' ≤ cb' ∧ ClaimAt (fun _ => True) w' A n B' m' C q (onlyC c l) ∧ Below w.heap.size w w' := by
  obtain ⟨i0, hi0, hz0, hz1, hz2⟩ := info_parts infoCause
  have Hm := Lib.hid h.cs.len
  have hbn := claim_bnd h
  have hLb := hL.bound IntR.good
  go_enter Tryd.func44, Tryd.ntmps44
  go_wp2
  obtain ⟨wa, hwa⟩ : ∃ wa : World, ((w.alloc (.cells #[.slice A n ca, .slice B m cb, .slice C q cc] 26)).alloc (.cells #[.slice none 0 0, .slice none 0 0, .slice none 0 0] 26)).alloc (.cells #[.slice A n ca, .slice none 0 0, .slice C q cc] 26) = wa := ⟨_, rfl⟩
  have hX : Blk wa w.heap.size 26 #[.slice A n ca, .slice B m cb, .slice C q cc] := by rw [← hwa]; exact ((Blk.new _ _ _ rfl).alloc _).alloc _
  have hR : Blk wa (w.heap.size + 1) 26 #[.slice none 0 0, .slice none 0 0, .slice none 0 0] := by rw [← hwa]; exact (Blk.new _ _ _ (by simp)).alloc _
  have hO : Blk wa (w.heap.size + 1 + 1) 26 #[.slice A n ca, .slice none 0 0, .slice C q cc] := by rw [← hwa]; exact Blk.new _ _ _ (by simp)
  have hBa : Below w.heap.size w wa := by rw [← hwa]; exact bl_alloc (bl_alloc (bl_alloc (Below.refl _ _) _ (Nat.le_refl _)) _ (Nat.le_refl _)) _ (Nat.le_refl _)
  have hsa : wa.heap.size = w.heap.size + 1 + 1 + 1 := by rw [← hwa]; simp
  rw [hwa]
  clear hwa
  have Hsa := Lib.hid hsa
  have hsz : w.heap.size + 3 ≤ wa.heap.size := by omega
  clear hsa
  go_loopw [6] (fun i wr => ∃ (k kk cap : Nat) (Ad : Option Addr) (xs : List Cause), k ≤ m ∧ i = .int .i64 k ∧ kk ≤ k ∧ Hid (xs.length = kk) ∧ OwnL CauseR 4 (fun x => True ∧ x < w.heap.size) wr (w.heap.size + 3) 76 (.slice Ad kk cap) xs ∧
    Blk wr w.heap.size 26 #[.slice A n ca, .slice B m cb, .slice C q cc] ∧ Blk wr (w.heap.size + 1) 26 #[.slice none 0 0, .slice none 0 0, .slice none 0 0] ∧ Blk wr (w.heap.size + 1 + 1) 26 #[.slice A n ca, .slice Ad kk cap, .slice C q cc] ∧
    Below w.heap.size w wr ∧ w.heap.size + 3 ≤ wr.heap.size ∧ Hid (xs = onlyK c.causes l k)) (fun i _ => m - (intOf i).toNat)
  case atStart => exact ⟨0, 0, 0, none, [], Nat.zero_le _, rfl, Nat.le_refl _, rfl, OwnL.nil _ _ _ _ _ _, hX, hR, hO, hBa, hsz, rfl⟩
  case round =>
    obtain ⟨k, kk, cap, Ad, xs, hk, rfl, hkk, Hl, hOw, hX, hR, hO, hB, hsz, Hf⟩ := hrel
    have hx1 : wr.cell? ⟨w.heap.size, 1, none⟩ = some (.slice B m cb) := hX.cell 1
    have hxl := hX.lt
    by_cases hlt : k < m
    · have hki : (k : Int) < m := by omega
      have hcr := hbn.keep (Keeps.below hB)
      obtain ⟨b, off, s, lo, hi, P, np, cp, per, rfl, hb, hc0, hc1, hc2, hc3, hs, hper, Hx⟩ := hcr.cs.get hlt
      have hbb : b < w.heap.size := by
        obtain ⟨b', off', vs, hA', hS', _⟩ := hcr.cs.2.2 k _ Hx.out
        injection hA' with hA'; injection hA' with e1 _; rw [e1]; exact hS'.2
      have hLr := hLb.keep IntR.good (Keeps.below hB)
      have hstep : Hid (onlyK c.causes l (k + 1) = xs ++ if decide ((k : Int) ∈ l) then [⟨s.data.toList, lo, hi, per⟩] else []) := by rw [Hid, onlyK_succ Hx.out, ← Hf.out]
      have hc1' : wr.cell? ⟨w.heap.size + 1 + 1, 1, none⟩ = some (.slice Ad kk cap) := hO.cell 1
      have hol := hO.lt
      cases hd : decide ((k : Int) ∈ l)
      · have Hs2 : Hid (xs = onlyK c.causes l (k + 1)) := Lib.hid (by have := hstep.out; rw [hd] at this; simpa using this.symm)
        have hcall := Lib.hid (fun W (g : Ints (fun k => S k ∧ k < w.heap.size) W L nl l) => has_any (c := cl) (k : Int) W g)
        clear hstep hcr hper hbb hc1'
        go_wp2_with fail
        refine (hcall.out wr hLr).mono ?_
        rintro e w' ⟨rfl, rfl⟩
        rw [hd]
        clear hd hx1 hxl hol hc0 hc1 hc2 hc3 hb
        go_wp2
        go_roundw
        case rel => exact ⟨k + 1, kk, cap, Ad, xs, by omega, by go_num, by omega, Hl, hOw, hX, hR, hO, hB, hsz, Hs2⟩
        case measure => simp [intOf]; omega
      · have Hs2 : Hid (xs ++ [⟨s.data.toList, lo, hi, per⟩] = onlyK c.causes l (k + 1)) := Lib.hid (by have := hstep.out; rw [hd] at this; simpa using this.symm)
        have hcall := Lib.hid (fun W (g : Ints (fun k => S k ∧ k < w.heap.size) W L nl l) => has_any (c := cl) (k : Int) W g)
        have HX := Lib.hid hX
        have HR := Lib.hid hR
        have HO := Lib.hid hO
        have HB := Lib.hid hB
        clear hstep hcr hB hX hR hO
        go_wp2_with fail
        refine (hcall.out wr hLr).mono ?_
        rintro e w' ⟨rfl, rfl⟩
        rw [hd]
        clear hd hcall hLr
        go_wp2
        have hneb : some b ≠ (Value.slice Ad kk cap).ownBlock := hOw.ne (.inl (by omega))
        have hne0 : some w.heap.size ≠ (Value.slice Ad kk cap).ownBlock := hOw.ne (.inl (by omega))
        have hne1 : some (w.heap.size + 1) ≠ (Value.slice Ad kk cap).ownBlock := hOw.ne (.inl (by omega))
        have hne2 : some (w.heap.size + 1 + 1) ≠ (Value.slice Ad kk cap).ownBlock := hOw.ne (.inl (by omega))
        have HOB := Lib.hid (OwnL.block hOw)
        have hA0 : Around CauseR 4 (fun x => True ∧ x < w.heap.size) (w.heap.size + 3) 76 (.slice Ad kk cap) xs wr false wr.drew := ⟨Kept.drew _ _, fun _ => hOw.keep CauseR.good (Keeps.drew _)⟩
        have kk7 : Hid (∀ bb W, Around CauseR 4 (fun x => True ∧ x < w.heap.size) (w.heap.size + 3) 76 (.slice Ad kk cap) xs wr bb W → W.cell? ⟨w.heap.size + 1 + 1, 1, none⟩ = some (.slice Ad kk cap) ∧ W.cell? ⟨w.heap.size, 1, none⟩ = some (.slice (some ⟨b, off, none⟩) m cb) ∧ W.cell? ⟨b, off + k * 4, none⟩ = some (.string s) ∧ W.cell? ⟨b, off + k * 4 + 1, none⟩ = some (.int .i64 lo) ∧ W.cell? ⟨b, off + k * 4 + 2, none⟩ = some (.int .i64 hi) ∧ W.cell? ⟨b, off + k * 4 + 3, none⟩ = some (.slice P np cp)) := fun bb W h =>
          ⟨h.1.cell hc1' (fun e => hne2 e.symm), h.1.cell hx1 (fun e => hne0 e.symm), h.1.cell hc0 (fun e => hneb e.symm), h.1.cell hc1 (fun e => hneb e.symm), h.1.cell hc2 (fun e => hneb e.symm), h.1.cell hc3 (fun e => hneb e.symm)⟩
        have HBW := Lib.hid hb
        have hki0 : (0 : Int) ≤ k := by omega
        clear hc0 hc1 hc2 hc3 hx1 hc1' hOw hb
        refine wp_region_two 8 (fun bb W => Around CauseR 4 (fun x => True ∧ x < w.heap.size) (w.heap.size + 3) 76 (.slice Ad kk cap) xs wr bb W) (fun bb w w' => Kept (fun j => bb = false ∧ (Value.slice Ad kk cap).ownBlock = some j) w w')
          [isV (.pointer (some ⟨w.heap.size + 1 + 1, 1, none⟩)), isV (.slice Ad kk cap), isV (.pointer (some ⟨w.heap.size, 1, none⟩)), isV (.slice (some ⟨b, off, none⟩) m cb), isV (.int .i64 k), isV (.pointer (some ⟨b, off + k * 4, none⟩)), isV (.agg #[.string s, .int .i64 lo, .int .i64 hi, .slice P np cp]), NewEl (Value.slice Ad kk cap).ownBlock 76 (#[.string s, .int .i64 lo, .int .i64 hi, .slice P np cp]), GrownV CauseR 4 (fun x => True ∧ x < w.heap.size) (w.heap.size + 3) 76 (kk + 1) (xs ++ [⟨s.data.toList, lo, hi, per⟩]), isV (.pointer (some ⟨w.heap.size + 1 + 1, 1, none⟩))]
          (by kernel_rfl) (by kernel_rfl) (by kernel_rfl) (by simp) (by simp) (by simp) hA0 ?stab7 ?step7 ?fin7
        case step7 =>
          refine StepsL2.cons ?_ (StepsL2.cons ?_ (StepsL2.cons ?_ (StepsL2.cons ?_ (StepsL2.cons ?_ (StepsL2.cons ?_ (StepsL2.cons ?_ (StepsL2.cons ?_ (StepsL2.cons ?_ (StepsL2.cons ?_ StepsL2.nil)))))))))
          · -- 0 fa
            intro bb vs a W K ha hb hC hD hU hK
            have r5 : a.tmps[5]? = some (.pointer (some ⟨w.heap.size + 1 + 1, 0, none⟩)) := by rw [ha]; kernel_rfl
            clear ha hU hD
            refine ⟨by rfl, ?_⟩
            go_simp
            exact hK _ _ hC (Kept.refl _ _) rfl
          · -- 1 load
            intro bb vs a W K ha hb hC hD hU hK
            have r19 : a.tmps[19]? = some (vs 0) := by rw [ha]; kernel_rfl
            have q0 : vs 0 = .pointer (some ⟨w.heap.size + 1 + 1, 1, none⟩) := hD 0 (by simp [waits, Region.binds])
            rw [q0] at r19
            clear ha hU hD
            refine ⟨by rfl, ?_⟩
            obtain ⟨k0, k1, k2, k3, k4, k5⟩ := kk7.out bb W hC
            go_simp
            exact hK _ _ hC (Kept.refl _ _) rfl
          · -- 2 fa
            intro bb vs a W K ha hb hC hD hU hK
            have r2 : a.tmps[2]? = some (.pointer (some ⟨w.heap.size, 0, none⟩)) := by rw [ha]; kernel_rfl
            clear ha hU hD
            refine ⟨by rfl, ?_⟩
            go_simp
            exact hK _ _ hC (Kept.refl _ _) rfl
          · -- 3 load
            intro bb vs a W K ha hb hC hD hU hK
            have r21 : a.tmps[21]? = some (vs 2) := by rw [ha]; kernel_rfl
            have q2 : vs 2 = .pointer (some ⟨w.heap.size, 1, none⟩) := hD 2 (by simp [waits, Region.binds])
            rw [q2] at r21
            clear ha hU hD
            refine ⟨by rfl, ?_⟩
            obtain ⟨k0, k1, k2, k3, k4, k5⟩ := kk7.out bb W hC
            go_simp
            exact hK _ _ hC (Kept.refl _ _) rfl
          · -- 4 move
            intro bb vs a W K ha hb hC hD hU hK
            have r6 : a.tmps[6]? = some (.int .i64 k) := by rw [ha]; kernel_rfl
            clear ha hU hD
            refine ⟨by rfl, ?_⟩
            go_simp
            exact hK _ _ hC (Kept.refl _ _) rfl
          · -- 5 idx
            intro bb vs a W K ha hb hC hD hU hK
            have r22 : a.tmps[22]? = some (vs 3) := by rw [ha]; kernel_rfl
            have q3 : vs 3 = .slice (some ⟨b, off, none⟩) m cb := hD 3 (by simp [waits, Region.binds])
            rw [q3] at r22
            have r23 : a.tmps[23]? = some (vs 4) := by rw [ha]; kernel_rfl
            have q4 : vs 4 = .int .i64 k := hD 4 (by simp [waits, Region.binds])
            rw [q4] at r23
            clear ha hU hD
            refine ⟨by rfl, ?_⟩
            go_simp
            exact hK _ _ hC (Kept.refl _ _) rfl
          · -- 6 load
            intro bb vs a W K ha hb hC hD hU hK
            have r24 : a.tmps[24]? = some (vs 5) := by rw [ha]; kernel_rfl
            have q5 : vs 5 = .pointer (some ⟨b, off + k * 4, none⟩) := hD 5 (by simp [waits, Region.binds])
            rw [q5] at r24
            clear ha hU hD
            refine ⟨by rfl, ?_⟩
            obtain ⟨k0, k1, k2, k3, k4, k5⟩ := kk7.out bb W hC
            go_simp
            exact hK _ _ hC (Kept.refl _ _) rfl
          · -- 7 buildSlice
            intro bb vs a W K ha hb hC hD hU hK
            have r25 : a.tmps[25]? = some (vs 6) := by rw [ha]; kernel_rfl
            have q6 : vs 6 = .agg #[.string s, .int .i64 lo, .int .i64 hi, .slice P np cp] := hD 6 (by simp [waits, Region.binds])
            rw [q6] at r25
            clear ha hU hD
            refine ⟨by rfl, ?_⟩
            go_simp
            exact hK _ _ (hC.quiet CauseR.good (bl_alloc (Below.refl _ _) _ (Nat.le_refl _))) (Kept.alloc _ _ _) ⟨_, rfl, Blk.new _ _ _ rfl, fun e => by have := (HOB.out _ e).2; have := hC.1.size; omega⟩
          · -- 8 append
            intro bb vs a W K ha hb hC hD hU hK
            have r20 : a.tmps[20]? = some (vs 1) := by rw [ha]; kernel_rfl
            have q1 : vs 1 = .slice Ad kk cap := hD 1 (by simp [waits, Region.binds])
            rw [q1] at r20
            have r26 : a.tmps[26]? = some (vs 7) := by rw [ha]; kernel_rfl
            have q7 : (NewEl (Value.slice Ad kk cap).ownBlock 76 (#[.string s, .int .i64 lo, .int .i64 hi, .slice P np cp])) (vs 7) W := hD 7 (by simp [waits, Region.binds])
            obtain ⟨g7, q7, hg7, _⟩ := q7
            rw [q7] at r26
            clear ha hU hD
            refine ⟨by rfl, ?_⟩
            obtain rfl : bb = false := hb rfl
            have hsW : wr.heap.size ≤ W.heap.size := hC.1.size
            have hBW : Keeps (fun x => True ∧ x < w.heap.size) wr W := hC.1.keeps (fun j hj e => by have := (HOB.out j e).1; omega)
            refine wp_append_el W rfl _ _ _ rfl CauseR.good (w.heap.size + 3) 76 i0 _ 56 Tryd.underlying23 hi0 hz0 hz1 hz2 rfl (by omega) (.slice Ad kk cap) xs ⟨s.data.toList, lo, hi, per⟩ kk Hl.out (by simp [Act.eval, r20]) (hC.2 rfl) g7 1 [.string s, .int .i64 lo, .int .i64 hi, .slice P np cp] (by simp [Act.eval, r26]) ⟨s, P, np, cp, rfl, rfl, hs, hper.keep IntR.good hBW⟩ hg7 (by simp only [maxLen]; omega) (by omega) (by omega) (fun h => by have := h.2; omega) ?_
            intro A2 cap2 w2 hO2 hg2
            exact hK _ _ ⟨hC.1.trans (Kept.grown hg2 (fun _ h => h)), fun h => by cases h⟩ (Kept.grown hg2 (fun _ h => ⟨rfl, h⟩)) ⟨A2, cap2, rfl, hO2⟩
          · -- 9 fa
            intro bb vs a W K ha hb hC hD hU hK
            have r5 : a.tmps[5]? = some (.pointer (some ⟨w.heap.size + 1 + 1, 0, none⟩)) := by rw [ha]; kernel_rfl
            clear ha hU hD
            refine ⟨by rfl, ?_⟩
            go_simp
            exact hK _ _ hC (Kept.refl _ _) rfl
        case stab7 =>
          intro bb i p v w1 w2 hp hi hC hX h
          rcases i with _ | _ | _ | _ | _ | _ | _ | _ | _ | _ | i
          all_goals simp at hp
          all_goals subst hp
          · exact h
          · exact h
          · exact h
          · exact h
          · exact h
          · exact h
          · exact h
          · exact NewEl.keep h hX
          · exact GrownV.keep CauseR.good h (hi rfl) hX
          · exact h
        case fin7 =>
          intro vs W hC hE hU
          have e8 := hE 8 (by simp)
          have e9 := hE 9 (by simp)
          simp only [envOf, List.getD_cons_succ, List.getD_cons_zero, isV] at e8 e9
          have H8 := Lib.hid e8
          clear e8 hE hU
          simp only [fillA, Act.put, List.setIfInBounds_toArray, List.set_cons_zero, List.set_cons_succ, Nat.zero_add, Nat.reduceAdd, e9]
          simp [Region.wanted, yielded]
          obtain ⟨A2, cap2, e8, hO2⟩ := H8.out
          rw [e8] at hO2 ⊢
          clear e8 e9 H8
          have hKW := hC.1
          have hX2 : Blk W w.heap.size 26 #[.slice A n ca, .slice (some ⟨b, off, none⟩) m cb, .slice C q cc] := (hKW.block _ HX.out.lt (fun e => hne0 e.symm)).trans HX.out
          have hR2 : Blk W (w.heap.size + 1) 26 #[.slice none 0 0, .slice none 0 0, .slice none 0 0] := (hKW.block _ HR.out.lt (fun e => hne1 e.symm)).trans HR.out
          have hO3 : Blk W (w.heap.size + 1 + 1) 26 #[.slice A n ca, .slice Ad kk cap, .slice C q cc] := (hKW.block _ HO.out.lt (fun e => hne2 e.symm)).trans HO.out
          have hBW : Below w.heap.size w W := HB.out.trans (hKW.below HB.out.size (fun j hj => by have := (HOB.out j hj).1; omega))
          have hsW : w.heap.size + 3 ≤ W.heap.size := Nat.le_trans hsz hKW.size
          have HX2 := Lib.hid hX2
          have HR2 := Lib.hid hR2
          have HO3 := Lib.hid hO3
          have HBW2 := Lib.hid hBW
          have HO2 := Lib.hid hO2
          have y0 : W.cell? ⟨w.heap.size + 1 + 1, 1, none⟩ = some (.slice Ad kk cap) := hO3.cell 1
          have y1 := hO3.frozen 1
          have y2 := hO3.lt
          clear hX2 hR2 hO3 hBW hO2 hKW hC kk7
          go_simp
          go_wp2
          go_roundw
          case rel => exact ⟨k + 1, kk + 1, cap2, _, _, by omega, by go_num, by omega, by rw [Hid, List.length_append, Hl.out]; rfl, HO2.out.keep CauseR.good (Keeps.setCell _ _ _ (by
              rintro (h | h)
              · exact absurd h.2 (by simp; omega)
              · have := (OwnL.block HO2.out _ h).1; dsimp only at this; omega)), HX2.out.far (by dsimp only; omega) _, HR2.out.far (by dsimp only; omega) _, HO3.out.set_ 1 _, bl_set HBW2.out (by dsimp only; omega) _, by simpa using hsW, Hs2⟩
          case measure => simp [intOf]; omega
    · obtain rfl : m = k := by omega
      have HX := Lib.hid hX
      have HR := Lib.hid hR
      have HO := Lib.hid hO
      have HB := Lib.hid hB
      have hr0 := hR.frozen 0
      have hr1 := hR.frozen 1
      have hr2 := hR.frozen 2
      have hrl := hR.lt
      have hq0 : wr.cell? ⟨w.heap.size + 1, 0, none⟩ = some (.slice none 0 0) := hR.cell 0
      have hq1 : wr.cell? ⟨w.heap.size + 1, 1, none⟩ = some (.slice none 0 0) := hR.cell 1
      have hq2 : wr.cell? ⟨w.heap.size + 1, 2, none⟩ = some (.slice none 0 0) := hR.cell 2
      have hy0 : wr.cell? ⟨w.heap.size + 1 + 1, 0, none⟩ = some (.slice A n ca) := hO.cell 0
      have hy1 : wr.cell? ⟨w.heap.size + 1 + 1, 1, none⟩ = some (.slice Ad kk cap) := hO.cell 1
      have hy2 : wr.cell? ⟨w.heap.size + 1 + 1, 2, none⟩ = some (.slice C q cc) := hO.cell 2
      have hol := hO.lt
      have hcr := Lib.hid (hbn.keep (Keeps.below hB))
      have HOW := Lib.hid hOw
      have Hcap := hOw.cap
      have Hf2 : Hid (xs = onlyK c.causes l c.causes.length) := by rw [Hid, Hf.out, Hm.out]
      clear hX hR hO hB hOw
      go_wp2
      obtain ⟨WE, hWE⟩ : ∃ WE, (((wr.setCell ⟨w.heap.size + 1, 0, none⟩ (.slice A n ca)).setCell ⟨w.heap.size + 1, 1, none⟩ (.slice Ad kk cap)).setCell ⟨w.heap.size + 1, 2, none⟩ (.slice C q cc)) = WE := ⟨_, rfl⟩
      have hE : Blk WE (w.heap.size + 1) 26 #[.slice A n ca, .slice Ad kk cap, .slice C q cc] := by rw [← hWE]; exact ((HR.out.set_ 0 _).set_ 1 _).set_ 2 _
      have hBE : Below w.heap.size w WE := by rw [← hWE]; exact bl_set (bl_set (bl_set HB.out (by dsimp only; omega) _) (by dsimp only; omega) _) (by dsimp only; omega) _
      have hOE : OwnL CauseR 4 (fun x => True ∧ x < w.heap.size) WE (w.heap.size + 3) 76 (.slice Ad kk cap) xs := by
        rw [← hWE]
        exact own_far CauseR.good (own_far CauseR.good (own_far CauseR.good HOW.out (by simp) (by omega) _ _) (by simp) (by omega) _ _) (by simp) (by omega) _ _
      rw [hWE]
      have hcE := hbn.keep (Keeps.below hBE)
      have hCC := causes_own hOE (by omega)
      rw [Hf2.out] at hCC
      exact bodyPost_ret (ret_claim1 rfl rfl (hE.cell 0) (hE.cell 1) (hE.cell 2)) rfl ⟨_, _, _, rfl, Hcap, ⟨hcE.fs.mono FeatR.good (fun _ _ => trivial), hCC, hcE.ms.mono MeasR.good (fun _ _ => trivial)⟩, hBE⟩
end Go.Proofs.YtkbpmcpmcmnfgaaDoor
