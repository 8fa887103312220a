/- A part of the proof that TopLaid always answers true. -/
import Derived.Test.YtdbfincinjoppaaGreatCTAirs
import Derived.Test.YtdbfincinjoppaaGreatCTEnter0
set_option linter.all false
namespace Go.Proofs.YtdbfincinjoppaaGreat
open Go.RowKit Go.Shelf
noncomputable def layOuter : Code := (Tryz.f48.body.bind firstLoopC).getD .skip
noncomputable def layInner : Code := (firstLoopC layOuter).getD .skip
structure FitCx (W0 : World) (h : Hall) (l : List Seen) (gh b2 g5 gF base n m cb : Nat) (A B : Option Addr) : Prop where
 ok : OkH h
 ag : agree8 h l = true
 hn : h.tiles.length = n
 hm : h.rows.length = m
 hg : gh < base
 h2 : b2 < base
 h5 : g5 < base
 hF : gF < base
 n5 : g5 ≠ gF
 n2 : b2 ≠ gF
 c2 : W0.cell? ⟨b2, 0, none⟩ = some (.pointer (some ⟨gh, 0, none⟩))
 c5 : W0.cell? ⟨g5, 0, none⟩ = some (.slice (some ⟨gF, 0, none⟩) m m)
 c4 : W0.cell? ⟨gh, 4, none⟩ = some (.slice B m cb)
 rs : ∀ r, r < m → ∃ b off a z y, B = some ⟨b, off, none⟩ ∧ b < base ∧ b ≠ gF ∧ W0.cell? ⟨b, off + r * 3, none⟩ = some (.int .i64 a) ∧ W0.cell? ⟨b, off + r * 3 + 1, none⟩ = some (.int .i64 z) ∧ W0.cell? ⟨b, off + r * 3 + 2, none⟩ = some (.int .i64 y) ∧ Hid (h.rows[r]? = some ⟨a, z, y⟩)
 nF : gh ≠ gF
 gap : ∀ (W : World) (r s : Nat) (T : Option Addr) (k c : Nat) (S : Foot), Kept (fun j => j = gF ∨ base ≤ j) W0 W → r < m → s < 2 ^ n → Ints S W T k (bitL s) → Calls Tryz.prog 64 #[.pointer (some ⟨gh, 0, none⟩), .int .i64 r, .slice T k c] W fun e w' =>
   e = .returned (.agg #[.int .i64 (gap8 h l r (bitL s)).1, .int .i64 (gap8 h l r (bitL s)).2]) ∧ Below W.heap.size W w'
 why : ∀ (W : World) (lo hi : Int), Kept (fun j => j = gF ∨ base ≤ j) W0 W → Calls Tryz.prog 65 #[.pointer (some ⟨gh, 0, none⟩), .agg #[.int .i64 lo, .int .i64 hi]] W fun e w' => e = .returned (.int .i64 (wrong8 h.most (lo, hi))) ∧ Below W.heap.size W w'
set_option maxRecDepth 100000 in
set_option maxHeartbeats 2000000 in
theorem fit_round {W0 wr : World} {h : Hall} {l : List Seen} {gh b2 g5 gF base n m cb : Nat} {A B : Option Addr} (cx : FitCx W0 h l gh b2 g5 gF base n m cb A B) (hn8 : n ≤ 8) (hm3 : m ≤ 3) {s j : Nat} (hs : s < 2 ^ n) (hj : j < m)
    (f : Nat → List (Nat × Int)) (hf : f j = fitK h l j s) (hK : Kept (fun k => k = gF ∨ base ≤ k) W0 wr) (hF : FitSt wr base gF 169 171 m f)
    {Q : Exit → Act → World → Prop} (c0 c1 c3 c4 c11 c12 c13 c14 c15 c16 c17 c18 c19 c20 c21 c22 c23 c24 c25 c26 c27 c28 c29 c30 c31 c32 c71 c72 c73 c74 c75 c76 c77 c78 c79 c80 c81 : Value) (u0 : Nat → Value)
    (hQ : ∀ (v7 v8 v9 v10 v36 v37 v38 v39 v40 v41 v42 v43 v44 v45 v46 v47 v48 v49 v50 v51 v52 v53 v54 v55 v56 v57 v58 v59 v60 v61 v62 v63 v64 v65 v66 v67 v68 v69 v70 : Value) (w' : World), Kept (fun k => k = gF ∨ base ≤ k) W0 w' → FitSt w' base gF 169 171 m (updL f j (fitK h l j (s + 1))) → Q .normal { tmps := #[c0, c1, .pointer (some ⟨b2, 0, none⟩), c3, c4, .pointer (some ⟨g5, 0, none⟩), .int .i64 s, v7, v8, v9, v10, c11, c12, c13, c14, c15, c16, c17, c18, c19, c20, c21, c22, c23, c24, c25, c26, c27, c28, c29, c30, c31, c32, .slice B m cb, .int .i64 m, .int .i64 ((j : Int) + 1), v36, v37, v38, v39, v40, v41, v42, v43, v44, v45, v46, v47, v48, v49, v50, v51, v52, v53, v54, v55, v56, v57, v58, v59, v60, v61, v62, v63, v64, v65, v66, v67, v68, v69, v70, c71, c72, c73, c74, c75, c76, c77, c78, c79, c80, c81], defers := [] } w') :
    layInner.wp Tryz.prog Q { tmps := #[c0, c1, .pointer (some ⟨b2, 0, none⟩), c3, c4, .pointer (some ⟨g5, 0, none⟩), .int .i64 s, u0 7, u0 8, u0 9, u0 10, c11, c12, c13, c14, c15, c16, c17, c18, c19, c20, c21, c22, c23, c24, c25, c26, c27, c28, c29, c30, c31, c32, .slice B m cb, .int .i64 m, .int .i64 j, u0 36, u0 37, u0 38, u0 39, u0 40, u0 41, u0 42, u0 43, u0 44, u0 45, u0 46, u0 47, u0 48, u0 49, u0 50, u0 51, u0 52, u0 53, u0 54, u0 55, u0 56, u0 57, u0 58, u0 59, u0 60, u0 61, u0 62, u0 63, u0 64, u0 65, u0 66, u0 67, u0 68, u0 69, u0 70, c71, c72, c73, c74, c75, c76, c77, c78, c79, c80, c81], defers := [] } wr := by
  obtain ⟨b, off, ra, rz, ry, rfl, hbb, hbF, r0, r1, r2, Hx⟩ := cx.rs j hj
  have hs256 : s < 256 := Nat.lt_of_lt_of_le hs (Nat.pow_le_pow_right (by decide) hn8 : 2 ^ n ≤ 2 ^ 8)
  have hji : (j : Int) < m := by omega
  have kc : ∀ {p : Addr} {v : Value}, W0.cell? p = some v → p.block ≠ gF → p.block < base → wr.cell? p = some v := fun hc h1 h2 => hK.cell hc (fun e => by omega)
  have c2 := kc cx.c2 cx.n2 cx.h2
  have c5 := kc cx.c5 cx.n5 cx.h5
  have c4 := kc cx.c4 cx.nF cx.hg
  have q0 := kc r0 hbF hbb
  have q1 := kc r1 hbF hbb
  have q2 := kc r2 hbF hbb
  have HCX := Lib.hid cx
  have HQ := Lib.hid hQ
  have HK := Lib.hid hK
  have HF := Lib.hid hF
  have Hf := Lib.hid hf
  clear cx hQ hK hF hf kc r0 r1 r2
  conv => arg 2; whnf
  go_wp2_with fail
  obtain ⟨wa, hwa⟩ : ∃ wa, wr.alloc (.cells #[.int .i64 ra, .int .i64 rz, .int .i64 ry] 64) = wa := ⟨_, rfl⟩
  obtain ⟨g8, hg8⟩ : ∃ g8, wr.heap.size = g8 := ⟨_, rfl⟩
  have R8 : Blk wa g8 64 #[.int .i64 ra, .int .i64 rz, .int .i64 ry] := by rw [← hwa]; exact Blk.new _ _ _ hg8.symm
  have ba : Below wr.heap.size wr wa := by rw [← hwa]; exact bl_alloc (Below.refl _ _) _ (Nat.le_refl _)
  rw [hwa, hg8]
  have k8 := R8.cell 2
  have HBA := Lib.hid ba
  have hcv : IntKind.u64.wrap (s : Int) = (s : Int) := by rw [IntKind.wrap_u64]; omega
  obtain ⟨len, hlen⟩ : ∃ len, (bitL s).length = len := ⟨_, rfl⟩
  have HON : Hid (∀ W, Calls Tryz.prog 60 #[.int .u64 s] W fun e w' => e = .returned (.int .i64 len) ∧ w' = W) := fun W => by rw [← hlen]; exact (ones_any s hs256 W).mono fun _ _ ⟨a, b⟩ => ⟨a, b.symm⟩
  have HLN := Lib.hid hlen
  have hrowE := HCX.out.ok.row (k := j) (by rw [HCX.out.hm]; exact hj)
  obtain ⟨_, _, _, _, hp1, hp2⟩ := rowE_zero Hx.out hrowE
  have HRP : Hid (rowP h j = ry.toNat) := by rw [Hid, rowP, getD_of Hx.out]
  clear c2 c5 c4 q0 q1 q2 hwa hlen ba hrowE R8 hg8
  by_cases hle : (len : Int) = ry
  · have hneb : ((len : Int) != ry) = false := by simpa using hle
    have HLE := Lib.hid hle
    clear hle
    go_quiet ((go_at_call 60; with_reducible refine Calls.quiet_of_same (n := _) (HON.out _)))
    go_wp2_with fail
    obtain ⟨wc, hwc⟩ : ∃ wc, wa.drewN nq = wc := ⟨_, rfl⟩
    have bc : Below wr.heap.size wr wc := by rw [← hwc]; exact bl_drewN HBA.out _
    rw [hwc]
    clear hwc k8 hneb
    have HBC := Lib.hid bc
    have HKC : Hid (Kept (fun k => k = gF ∨ base ≤ k) W0 wc) := HK.out.trans (Kept.of_bl bc)
    have HFC : Hid (FitSt wc base gF 169 171 m f) := HF.out.keep bc
    clear bc
    have c2 : wc.cell? ⟨b2, 0, none⟩ = some (.pointer (some ⟨gh, 0, none⟩)) := HKC.out.cell HCX.out.c2 (fun e => by have := HCX.out.n2; have := HCX.out.h2; dsimp only at e; omega)
    have HC2 := Lib.hid c2
    clear c2
    obtain ⟨y0, y1, hy⟩ : ∃ y0 y1, gap8 h l j (bitL s) = (y0, y1) := ⟨_, _, rfl⟩
    have HGP : Hid (∀ (W : World) (T : Option Addr) (c : Nat) (S : Foot), Below wc.heap.size wc W → Ints S W T len (bitL s) → Calls Tryz.prog 64 #[.pointer (some ⟨gh, 0, none⟩), .int .i64 j, .slice T len c] W fun e w' => e = .returned (.agg #[.int .i64 y0, .int .i64 y1]) ∧ Below W.heap.size W w') := fun W T c S hb hI => by
      have := HCX.out.gap W j s T len c S (HKC.out.trans (Kept.of_bl hb)) hj hs hI
      rw [hy] at this
      exact this
    have HLS : Hid (∀ W, Calls Tryz.prog 77 #[.int .i64 s] W fun e w' => (∃ v, e = .returned v ∧ IsListV W.heap.size s v w') ∧ Below W.heap.size W w') := fun W => (list_any s W hs256).mono fun e w' ⟨⟨A', c', he, hI⟩, hb⟩ => ⟨⟨_, he, A', c', rfl, (hI.bound IntR.good).mono IntR.good (fun _ h => h)⟩, hb⟩
    have HY := Lib.hid hy
    clear hy
    refine wp_region_list (fun W => Below wc.heap.size wc W) (fun w w' => Below w.heap.size w w')
      [isV (.pointer (some ⟨gh, 0, none⟩)), isV (.int .i64 j), isV (.int .i64 s), IsListV wc.heap.size s, isV (.agg #[.int .i64 y0, .int .i64 y1]), NewSp wc.heap.size 23]
      (by kernel_rfl) (by kernel_rfl) (by kernel_rfl) (by simp) (by simp) (Below.refl _ _).drew ?stab ?step ?fin
    case stab => exact StabL.is (StabL.is (StabL.is (StabL.cons (fun v W V hC hX h => h.keep (Kept.of_bl (M := fun _ => False) hX) (fun _ h => h.elim)) (StabL.is (StabL.cons (fun v W V hC hX ⟨g, h1, h2, h3⟩ => ⟨g, h1, h2.bl hX, h3⟩) StabL.nil)))))
    case step =>
      refine StepsL.is ?_ (StepsL.is ?_ (StepsL.is ?_ (StepsL.cons ?_ (StepsL.is ?_ (StepsL.cons ?_ StepsL.nil)))))
      all_goals
        intro vs W K hC hD hU hK
        simp only [fillA, Act.put, List.setIfInBounds_toArray, List.set_cons_zero, List.set_cons_succ, Nat.zero_add, Nat.reduceAdd] at hK ⊢
        simp [waits, Region.binds] at hD
        try simp only [envOf, List.getD_cons_succ, List.getD_cons_zero, isV] at hD
      · have k2 := getc hC HC2.out
        go_simp; exact hK _ hC (Below.refl _ _)
      · go_simp; exact hK _ hC (Below.refl _ _)
      · go_simp; exact hK _ hC (Below.refl _ _)
      · simp only [hD] at hK ⊢
        go_simp
        refine (HLS.out W).mono ?_
        rintro e w' ⟨⟨v, rfl, hv⟩, hb⟩
        have hsz := hC.size
        obtain ⟨A', c', hv2, hI⟩ := hv
        exact hK _ _ (bl_call hC hb (Nat.le_refl _)) hb ⟨A', c', hv2, hI.mono IntR.good (fun k h => ⟨by omega, h.2⟩)⟩
      · obtain ⟨h1, h2, A', c', h3, hI⟩ := hD
        rw [HLN.out] at h3 hI
        simp only [h1, h2, h3] at hK ⊢
        go_simp
        refine (HGP.out W A' c' _ hC hI).mono ?_
        rintro e w' ⟨rfl, hb⟩
        exact hK _ (bl_call hC hb (Nat.le_refl _)) hb
      · go_simp
        exact hK _ _ (bl_alloc hC _ (Nat.le_refl _)) (bl_alloc (Below.refl _ _) _ (Nat.le_refl _)) ⟨_, rfl, Blk.new _ _ _ rfl, hC.size⟩
    case fin =>
      intro vs W hC hE hU
      have e4 := hE 4 (by simp)
      have e5 := hE 5 (by simp)
      simp only [envOf, List.getD_cons_succ, List.getD_cons_zero, isV] at e4 e5
      simp only [fillA, Act.put, List.setIfInBounds_toArray, List.set_cons_zero, List.set_cons_succ, Nat.zero_add, Nat.reduceAdd, e4]
      simp [Region.wanted, yielded]
      obtain ⟨g9, h9, hB9, hg9⟩ := e5
      rw [h9]
      have z0 := hB9.cell 0
      have z1 := hB9.cell 1
      have fz0 := hB9.frozen 0
      have fz1 := hB9.frozen 1
      have hl9 := hB9.lt
      have HB9 := Lib.hid hB9
      have HCC := Lib.hid hC
      obtain ⟨v0, hv0⟩ : ∃ v0, vs 0 = v0 := ⟨_, rfl⟩
      obtain ⟨v1, hv1⟩ : ∃ v1, vs 1 = v1 := ⟨_, rfl⟩
      obtain ⟨v2, hv2⟩ : ∃ v2, vs 2 = v2 := ⟨_, rfl⟩
      obtain ⟨v3, hv3⟩ : ∃ v3, vs 3 = v3 := ⟨_, rfl⟩
      rw [hv0, hv1, hv2, hv3]
      clear e4 hE hU hC hB9 h9 hv0 hv1 hv2 hv3
      go_simp
      clear z0 z1 fz0 fz1 hl9
      obtain ⟨wd, hwd⟩ : ∃ wd, (W.setCell ⟨g9, 0, none⟩ (.int .i64 y0)).setCell ⟨g9, 1, none⟩ (.int .i64 y1) = wd := ⟨_, rfl⟩
      have R9 : Blk wd g9 23 #[.int .i64 y0, .int .i64 y1] := by rw [← hwd]; exact HB9.out.set2 _ _
      have hbd : Below wc.heap.size wc wd := by rw [← hwd]; exact bl_set (bl_set HCC.out hg9 _) hg9 _
      rw [hwd]
      clear hwd
      have HBD := Lib.hid hbd
      have HR9 := Lib.hid R9
      have z0 := R9.cell 0
      have z1 := R9.cell 1
      have hl9 := R9.lt
      have c2 := getc hbd HC2.out
      clear hbd R9
      go_wp2_with fail
      refine (HCX.out.why wd y0 y1 (HKC.out.trans (Kept.of_bl HBD.out))).mono ?_
      rintro e we ⟨rfl, be⟩
      obtain ⟨wv, hwv⟩ : ∃ wv, wrong8 h.most (y0, y1) = wv := ⟨_, rfl⟩
      rw [hwv]
      have hR9e := HR9.out.bl be
      have hbe : Below wc.heap.size wc we := bl_call HBD.out be (Nat.le_refl _)
      have HKE : Hid (Kept (fun k => k = gF ∨ base ≤ k) W0 we) := HKC.out.trans (Kept.of_bl hbe)
      have HFE : Hid (FitSt we base gF 169 171 m f) := HFC.out.keep hbe
      have HR9E := Lib.hid hR9e
      have HWV : Hid (wrong8 h.most (gap8 h l j (bitL s)) = wv) := by rw [Hid, HY.out, hwv]
      have HBCE := Lib.hid hbe
      clear hwv be hR9e hbe z0 z1 hl9 c2
      by_cases hz : wv = 0
      · have hzb : (wv == 0) = true := by rw [hz]; rfl
        have HYS : Hid (fitsB h l j s = true) := by
          unfold fitsB
          rw [Hid, HLN.out, HRP.out, HWV.out, decide_eq_true (by have := HLE.out; omega), hz]; rfl
        have HNX : Hid (fitK h l j (s + 1) = fitK h l j s ++ [(s, y1)]) := by rw [Hid, fitK_yes HYS.out, HY.out]
        clear hz
        go_wp2_with fail
        obtain ⟨v, S0, hro⟩ := HFC.out.open_ hj
        obtain ⟨Ad, cap, rfl⟩ := hro.own.form
        rw [Hf.out] at hro
        obtain ⟨nn, hnn⟩ : ∃ nn, (fitK h l j s).length = nn := ⟨_, rfl⟩
        have HNN := Lib.hid hnn
        rw [hnn] at hro
        have HRO := Lib.hid hro
        have HOB := Lib.hid hro.own.block
        have HOW : Hid (OwnL SomeR 3 S0 we base 171 (.slice Ad nn cap) (fitK h l j s)) := by rw [Hid, ← Hf.out]; exact hro.own.below SomeR.good HBCE.out
        have HBE := Lib.hid HFC.out.bs
        have HSZ : Hid (wc.heap.size ≤ we.heap.size) := HBCE.out.size
        have HBE2 : Hid (Kept (fun k => (Value.slice Ad nn cap).ownBlock = some k) wc we) := Kept.of_bl HBCE.out
        have kk : Hid (∀ bb W, (Kept (fun k => (Value.slice Ad nn cap).ownBlock = some k) we W ∧ (bb = false → OwnL SomeR 3 S0 W base 171 (.slice Ad nn cap) (fitK h l j s))) → W.cell? ⟨g5, 0, none⟩ = some (.slice (some ⟨gF, 0, none⟩) m m) ∧ W.cell? ⟨gF, j, none⟩ = some (.slice Ad nn cap) ∧ W.cell? ⟨g9, 1, none⟩ = some (.int .i64 y1)) := fun bb W hC =>
          ⟨hC.1.cell (HKE.out.cell HCX.out.c5 (fun e => by have := HCX.out.n5; have := HCX.out.h5; dsimp only at e; omega)) (fun e => by have := (HOB.out g5 e).1; have := HCX.out.h5; omega),
           hC.1.cell (getc HBCE.out hro.cell) (fun e => by have := (HOB.out gF e).1; have := HCX.out.hF; omega),
           hC.1.cell (HR9E.out.cell 1) (fun e => by have := (HOB.out g9 e).2; omega)⟩
        clear hnn hro
        refine wp_region_two 13 (fun bb W => Kept (fun k => (Value.slice Ad nn cap).ownBlock = some k) we W ∧ (bb = false → OwnL SomeR 3 S0 W base 171 (.slice Ad nn cap) (fitK h l j s))) (fun bb w w' => Kept (fun k => bb = false ∧ (Value.slice Ad nn cap).ownBlock = some k) w w')
          [isV (.slice (some ⟨gF, 0, none⟩) m m), isV (.int .i64 j), isV (.slice (some ⟨gF, 0, none⟩) m m), isV (.int .i64 j), isV (.pointer (some ⟨gF, j, none⟩)), isV (.slice Ad nn cap), isV (.int .i64 s), IsListV wc.heap.size s, isV (.int .i64 s), isV (.pointer (some ⟨g9, 1, none⟩)), isV (.int .i64 y1), AggV wc.heap.size s y1, ElV wc.heap.size s y1 171, GrownT S0 wc.heap.size base 171 (nn + 1) (fitK h l j s ++ [(s, y1)]) (Value.slice Ad nn cap).ownBlock, isV (.pointer (some ⟨gF, j, none⟩))]
          (by kernel_rfl) (by kernel_rfl) (by kernel_rfl) (by simp) (by simp) (by simp) ⟨Kept.drew _ _, fun _ => HOW.out.keep SomeR.good (Keeps.drew _)⟩ ?stab7 ?step7 ?fin7
        case step7 =>
          refine StepsL2.cons ?_ (StepsL2.cons ?_ (StepsL2.cons ?_ (StepsL2.cons ?_ (StepsL2.cons ?_ (StepsL2.cons ?_ (StepsL2.cons ?_ (StepsL2.cons ?_ (StepsL2.cons ?_ (StepsL2.cons ?_ (StepsL2.cons ?_ (StepsL2.cons ?_ (StepsL2.cons ?_ (StepsL2.cons ?_ (StepsL2.cons ?_ (StepsL2.nil)))))))))))))))
          ·
            intro bb vs a W K ha hb hC hD hU hK
            have r5 : a.tmps[5]? = some (.pointer (some ⟨g5, 0, none⟩)) := by rw [ha]; kernel_rfl
            clear ha hU hD
            refine ⟨by rfl, ?_⟩
            obtain ⟨k5, kF, k9⟩ := kk.out bb W hC
            go_simp
            exact hK _ _ hC (Kept.refl _ _) rfl
          ·
            intro bb vs a W K ha hb hC hD hU hK
            have r7 : a.tmps[7]? = some (.int .i64 j) := by rw [ha]; kernel_rfl
            clear ha hU hD
            refine ⟨by rfl, ?_⟩
            obtain ⟨k5, kF, k9⟩ := kk.out bb W hC
            go_simp
            exact hK _ _ hC (Kept.refl _ _) rfl
          ·
            intro bb vs a W K ha hb hC hD hU hK
            have r5 : a.tmps[5]? = some (.pointer (some ⟨g5, 0, none⟩)) := by rw [ha]; kernel_rfl
            clear ha hU hD
            refine ⟨by rfl, ?_⟩
            obtain ⟨k5, kF, k9⟩ := kk.out bb W hC
            go_simp
            exact hK _ _ hC (Kept.refl _ _) rfl
          ·
            intro bb vs a W K ha hb hC hD hU hK
            have r7 : a.tmps[7]? = some (.int .i64 j) := by rw [ha]; kernel_rfl
            clear ha hU hD
            refine ⟨by rfl, ?_⟩
            obtain ⟨k5, kF, k9⟩ := kk.out bb W hC
            go_simp
            exact hK _ _ hC (Kept.refl _ _) rfl
          ·
            intro bb vs a W K ha hb hC hD hU hK
            have r57 : a.tmps[57]? = some (vs 2) := by rw [ha]; kernel_rfl
            have q2 : vs 2 = .slice (some ⟨gF, 0, none⟩) m m := hD 2 (by simp [waits, Region.binds])
            rw [q2] at r57
            have r58 : a.tmps[58]? = some (vs 3) := by rw [ha]; kernel_rfl
            have q3 : vs 3 = .int .i64 j := hD 3 (by simp [waits, Region.binds])
            rw [q3] at r58
            clear ha hU hD
            refine ⟨by rfl, ?_⟩
            obtain ⟨k5, kF, k9⟩ := kk.out bb W hC
            go_simp
            exact hK _ _ hC (Kept.refl _ _) rfl
          ·
            intro bb vs a W K ha hb hC hD hU hK
            have r59 : a.tmps[59]? = some (vs 4) := by rw [ha]; kernel_rfl
            have q4 : vs 4 = .pointer (some ⟨gF, j, none⟩) := hD 4 (by simp [waits, Region.binds])
            rw [q4] at r59
            clear ha hU hD
            refine ⟨by rfl, ?_⟩
            obtain ⟨k5, kF, k9⟩ := kk.out bb W hC
            go_simp
            exact hK _ _ hC (Kept.refl _ _) rfl
          ·
            intro bb vs a W K ha hb hC hD hU hK
            have r6 : a.tmps[6]? = some (.int .i64 s) := by rw [ha]; kernel_rfl
            clear ha hU hD
            refine ⟨by rfl, ?_⟩
            obtain ⟨k5, kF, k9⟩ := kk.out bb W hC
            go_simp
            exact hK _ _ hC (Kept.refl _ _) rfl
          ·
            intro bb vs a W K ha hb hC hD hU hK
            have r61 : a.tmps[61]? = some (vs 6) := by rw [ha]; kernel_rfl
            have q6 : vs 6 = .int .i64 s := hD 6 (by simp [waits, Region.binds])
            rw [q6] at r61
            clear ha hU hD
            refine ⟨by rfl, ?_⟩
            go_simp
            refine (HLS.out W).mono ?_
            rintro e w' ⟨⟨v, rfl, hv⟩, hb2⟩
            have hsz := Nat.le_trans HSZ.out hC.1.size
            obtain ⟨A', c', hv2, hI⟩ := hv
            exact hK _ _ ⟨hC.1.trans (Kept.of_bl hb2), fun e => (hC.2 e).below SomeR.good hb2⟩ (Kept.of_bl hb2) ⟨A', c', hv2, hI.mono IntR.good (fun k h => ⟨by omega, h.2⟩)⟩
          ·
            intro bb vs a W K ha hb hC hD hU hK
            have r6 : a.tmps[6]? = some (.int .i64 s) := by rw [ha]; kernel_rfl
            clear ha hU hD
            refine ⟨by rfl, ?_⟩
            obtain ⟨k5, kF, k9⟩ := kk.out bb W hC
            go_simp
            exact hK _ _ hC (Kept.refl _ _) rfl
          ·
            intro bb vs a W K ha hb hC hD hU hK
            have r9 : a.tmps[9]? = some (.pointer (some ⟨g9, 0, none⟩)) := by rw [ha]; kernel_rfl
            clear ha hU hD
            refine ⟨by rfl, ?_⟩
            obtain ⟨k5, kF, k9⟩ := kk.out bb W hC
            go_simp
            exact hK _ _ hC (Kept.refl _ _) rfl
          ·
            intro bb vs a W K ha hb hC hD hU hK
            have r64 : a.tmps[64]? = some (vs 9) := by rw [ha]; kernel_rfl
            have q9 : vs 9 = .pointer (some ⟨g9, 1, none⟩) := hD 9 (by simp [waits, Region.binds])
            rw [q9] at r64
            clear ha hU hD
            refine ⟨by rfl, ?_⟩
            obtain ⟨k5, kF, k9⟩ := kk.out bb W hC
            go_simp
            exact hK _ _ hC (Kept.refl _ _) rfl
          ·
            intro bb vs a W K ha hb hC hD hU hK
            have r62 : a.tmps[62]? = some (vs 7) := by rw [ha]; kernel_rfl
            have q7 : IsListV wc.heap.size s (vs 7) W := hD 7 (by simp [waits, Region.binds])
            obtain ⟨A', c', q7, hI⟩ := q7
            rw [q7] at r62
            have r63 : a.tmps[63]? = some (vs 8) := by rw [ha]; kernel_rfl
            have q8 : vs 8 = .int .i64 s := hD 8 (by simp [waits, Region.binds])
            rw [q8] at r63
            have r65 : a.tmps[65]? = some (vs 10) := by rw [ha]; kernel_rfl
            have q10 : vs 10 = .int .i64 y1 := hD 10 (by simp [waits, Region.binds])
            rw [q10] at r65
            have HI := Lib.hid hI
            clear ha hU hD hI
            refine ⟨by rfl, ?_⟩
            go_simp
            exact hK _ _ hC (Kept.refl _ _) ⟨_, rfl, A', c', rfl, HI.out⟩
          ·
            intro bb vs a W K ha hb hC hD hU hK
            have r66 : a.tmps[66]? = some (vs 11) := by rw [ha]; kernel_rfl
            have q11 : AggV wc.heap.size s y1 (vs 11) W := hD 11 (by simp [waits, Region.binds])
            obtain ⟨u, q11, hL⟩ := q11
            rw [q11] at r66
            have hLo := hL
            obtain ⟨A', c', rfl, hI⟩ := hLo
            have HL := Lib.hid hL
            clear ha hU hD hI hL
            refine ⟨by rfl, ?_⟩
            go_simp
            have hb2 : Below W.heap.size W (W.alloc (.cells #[.slice A' (bitL s).length c', .int .i64 s, .int .i64 y1] 171)) := bl_alloc (Below.refl _ _) _ (Nat.le_refl _)
            exact hK _ _ ⟨hC.1.trans (Kept.of_bl hb2), fun e => (hC.2 e).below SomeR.good hb2⟩ (Kept.of_bl hb2) ⟨_, _, rfl, Blk.new _ _ _ rfl, HL.out.keep (Kept.of_bl (M := fun _ => False) hb2) (fun _ h => h.elim), Nat.le_trans HSZ.out hC.1.size⟩
          ·
            intro bb vs a W K ha hb hC hD hU hK
            have r60 : a.tmps[60]? = some (vs 5) := by rw [ha]; kernel_rfl
            have q5 : vs 5 = .slice Ad nn cap := hD 5 (by simp [waits, Region.binds])
            rw [q5] at r60
            have r67 : a.tmps[67]? = some (vs 12) := by rw [ha]; kernel_rfl
            have q12 : ElV wc.heap.size s y1 171 (vs 12) W := hD 12 (by simp [waits, Region.binds])
            clear ha hU hD
            refine ⟨by rfl, ?_⟩
            obtain rfl : bb = false := hb rfl
            refine fit_append W rfl _ _ _ rfl base 171 infoSome Tryz.underlying169 S0 wc.heap.size (fun k hk => (HRO.out.sb k hk).2) HBE.out (Nat.le_trans HSZ.out hC.1.size) (.slice Ad nn cap) (fitK h l j s) nn HNN.out (by simp [Act.eval, r60]) (hC.2 rfl) (fun k hk => (HOB.out k hk).2) (vs 12) s y1 (by simp [Act.eval, r67]) q12 (by have := HNN.out; have := fitK_len (h := h) (l := l) (row := j) (s := s); omega) ?_
            intro v' w' hG hg
            exact hK _ _ ⟨hC.1.trans (Kept.grown hg (fun _ h => h)), fun h => by cases h⟩ (Kept.grown hg (fun _ h => ⟨rfl, h⟩)) hG
          intro bb vs a W K ha hb hC hD hU hK
          have r55 : a.tmps[55]? = some (vs 0) := by rw [ha]; kernel_rfl
          have q0 : vs 0 = .slice (some ⟨gF, 0, none⟩) m m := hD 0 (by simp [waits, Region.binds])
          rw [q0] at r55
          have r56 : a.tmps[56]? = some (vs 1) := by rw [ha]; kernel_rfl
          have q1 : vs 1 = .int .i64 j := hD 1 (by simp [waits, Region.binds])
          rw [q1] at r56
          clear ha hU hD
          refine ⟨by rfl, ?_⟩
          obtain ⟨k5, kF, k9⟩ := kk.out bb W hC
          go_simp
          exact hK _ _ hC (Kept.refl _ _) rfl
        case stab7 =>
          intro bb i p v w1 w2 hp hi hC hX h
          have hX' : Kept (fun k => k < wc.heap.size) w1 w2 := hX.mono fun k _ hk => (HOB.out k hk.2).2
          rcases i with _ | _ | _ | _ | _ | _ | _ | _ | _ | _ | _ | _ | _ | _ | _ | i
          all_goals simp at hp
          all_goals subst hp
          · exact h
          · exact h
          · exact h
          · exact h
          · exact h
          · exact h
          · exact h
          · exact h.keep hX' (fun _ h => h)
          · exact h
          · exact h
          · exact h
          · obtain ⟨u, h1, h2⟩ := h
            exact ⟨u, h1, h2.keep hX' (fun _ h => h)⟩
          · obtain ⟨b, u, h1, h2, h3, h4⟩ := h
            exact ⟨b, u, h1, (hX'.block b h2.lt (by omega)).trans h2, h3.keep hX' (fun _ h => h), h4⟩
          · obtain rfl : bb = true := hi rfl
            exact h.keep (hX.mono fun k _ hk => by cases hk.1)
          · exact h
        case fin7 =>
          intro vs W hC hE hU
          have e13 := hE 13 (by simp)
          have e14 := hE 14 (by simp)
          simp only [envOf, List.getD_cons_succ, List.getD_cons_zero, isV] at e13 e14
          simp only [fillA, Act.put, List.setIfInBounds_toArray, List.set_cons_zero, List.set_cons_succ, Nat.zero_add, Nat.reduceAdd, e14]
          simp [Region.wanted, yielded]
          have H13 := Lib.hid e13
          obtain ⟨v0', hv0⟩ : ∃ x, vs 0 = x := ⟨_, rfl⟩
          obtain ⟨v1', hv1⟩ : ∃ x, vs 1 = x := ⟨_, rfl⟩
          obtain ⟨v2', hv2⟩ : ∃ x, vs 2 = x := ⟨_, rfl⟩
          obtain ⟨v3', hv3⟩ : ∃ x, vs 3 = x := ⟨_, rfl⟩
          obtain ⟨v4', hv4⟩ : ∃ x, vs 4 = x := ⟨_, rfl⟩
          obtain ⟨v5', hv5⟩ : ∃ x, vs 5 = x := ⟨_, rfl⟩
          obtain ⟨v6', hv6⟩ : ∃ x, vs 6 = x := ⟨_, rfl⟩
          obtain ⟨v7', hv7⟩ : ∃ x, vs 7 = x := ⟨_, rfl⟩
          obtain ⟨v8', hv8⟩ : ∃ x, vs 8 = x := ⟨_, rfl⟩
          obtain ⟨v9', hv9⟩ : ∃ x, vs 9 = x := ⟨_, rfl⟩
          obtain ⟨v10', hv10⟩ : ∃ x, vs 10 = x := ⟨_, rfl⟩
          obtain ⟨v11', hv11⟩ : ∃ x, vs 11 = x := ⟨_, rfl⟩
          obtain ⟨v12', hv12⟩ : ∃ x, vs 12 = x := ⟨_, rfl⟩
          obtain ⟨v13', hv13⟩ : ∃ x, vs 13 = x := ⟨_, rfl⟩
          rw [hv0, hv1, hv2, hv3, hv4, hv5, hv6, hv7, hv8, hv9, hv10, hv11, hv12, hv13]
          rw [hv13] at H13
          obtain ⟨A2, cap2, S1, hvv, hO2, hS1, hSS, hA⟩ := H13.out
          rw [hvv] at hO2 ⊢
          have HG2 := Lib.hid (⟨hO2, hS1, hSS, hA⟩ : _ ∧ _ ∧ _ ∧ _)
          clear hO2 hS1 hSS hA hvv H13
          have hKW : Kept (fun k => (Value.slice Ad nn cap).ownBlock = some k) wc W := HBE2.out.trans hC.1
          have HKW := Lib.hid hKW
          obtain ⟨k5, kF, k9⟩ := kk.out true W hC
          obtain ⟨csF, hBF⟩ := HRO.out.blk
          have hBF2 : Blk W gF 169 csF := (hKW.block gF hBF.lt (fun hk => by have := (HOB.out gF hk).1; have := HCX.out.hF; omega)).trans hBF
          have frF := hBF2.frozen j
          have hgFl := hBF2.lt
          clear e13 e14 hE hU hv0 hv1 hv2 hv3 hv4 hv5 hv6 hv7 hv8 hv9 hv10 hv11 hv12 hv13 hC hKW hBF hBF2 k5 k9
          go_simp
          go_wp2_with fail
          obtain ⟨hO2, hS1, hSS, hA⟩ := HG2.out
          refine HQ.out _ _ _ _ _ _ _ _ _ _ _ _ _ _ _ _ _ _ _ _ _ _ _ _ _ _ _ _ _ _ _ _ _ _ _ _ _ _ _ _ ((HKC.out.trans (HKW.out.mono fun k _ hk => .inr (HOB.out k hk).1)).trans (Kept.setCell _ _ _ (.inl rfl))) ?_
          rw [HNX.out]
          refine HRO.out.put W (.slice (some ⟨A2, 0, none⟩) (nn + 1) cap2) S1 _ HKW.out hO2 hS1 hSS ?_
          rcases hA with hA | hA
          · exact .inl hA.symm
          · exact .inr (fun k hk => by have hk' : A2 = k := Option.some.inj hk; omega)
      · have hzb : (wv == 0) = false := by simpa using hz
        have HNO : Hid (fitsB h l j s = false) := by
          unfold fitsB
          rw [Hid, HWV.out, hzb]; simp
        clear hz
        go_wp2_with fail
        refine HQ.out _ _ _ _ _ _ _ _ _ _ _ _ _ _ _ _ _ _ _ _ _ _ _ _ _ _ _ _ _ _ _ _ _ _ _ _ _ _ _ _ HKE.out ?_
        rw [fitK_no HNO.out]
        exact HFE.out.congr (fun r hr => by unfold updL; by_cases e : r = j <;> simp [e, Hf.out])
  · have hneb : ((len : Int) != ry) = true := by simpa using hle
    have HNO : Hid (fitsB h l j s = false) := by
      unfold fitsB
      rw [Hid, HLN.out, HRP.out, decide_eq_false (by omega)]; rfl
    clear hle
    go_quiet ((go_at_call 60; with_reducible refine Calls.quiet_of_same (n := _) (HON.out _)))
    go_wp2_with fail
    refine HQ.out _ _ _ _ _ _ _ _ _ _ _ _ _ _ _ _ _ _ _ _ _ _ _ _ _ _ _ _ _ _ _ _ _ _ _ _ _ _ _ _ (HK.out.trans (Kept.of_bl (bl_drewN HBA.out _))) ?_
    rw [fitK_no HNO.out]
    exact (HF.out.keep (bl_drewN HBA.out _)).congr (fun r hr => by unfold updL; by_cases e : r = j <;> simp [e, Hf.out])
end Go.Proofs.YtdbfincinjoppaaGreat
