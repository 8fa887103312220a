/- Walks: the reference of layer 12: Value. -/
import Derived.Test.YtkbpmcpmcmnfgaaDoorCRange
import Derived.Test.YtkbpmcpmcmnfgaaDoorCRefB10
set_option linter.unusedVariables false
set_option linter.unusedSimpArgs false
set_option linter.all false
namespace Go.Proofs.YtkbpmcpmcmnfgaaDoor
open Go.RowKit

/-- a new span -/
def NewSpan (B : Nat) (t : TypeId) (v : Value) (W : World) : Prop := ∃ g, v = .pointer (some ⟨g, 0, none⟩) ∧ B ≤ g ∧ Blk W g t #[.int .i64 0, .int .i64 0]
theorem NewSpan.bl {B : Nat} {t : TypeId} {v : Value} {W V : World} (h : NewSpan B t v W) (hb : Below W.heap.size W V) : NewSpan B t v V := by
  obtain ⟨g, hv, hg, hB⟩ := h
  exact ⟨g, hv, hg, hB.bl hb⟩
abbrev Blk.no {w : World} {g : Nat} {t : TypeId} {cs : Array Value} (_ : Blk w g t cs) : Nat := g

set_option maxRecDepth 100000 in
set_option maxHeartbeats 8000000 in
theorem value12_any {A B C : Option Addr} {n ca m cb q cc : Nat} {c : Claim} (i : Int) (w : World) (h : ClaimAt (fun _ => True) w A n B m C q c) :
    Calls Tryd.prog 31 #[.agg #[.slice A n ca, .slice B m cb, .slice C q cc], .int .i64 i] w fun e w' => e = .returned (.tuple #[.agg #[.int .i64 (valueR c i).1.1, .int .i64 (valueR c i).1.2], .int .i64 (valueR c i).2]) ∧ Below w.heap.size w w' := by
  have Hm := Lib.hid h.fs.len
  have hlm := h.fs.le
  by_cases he : err c = 0
  · have hok := okC_of he
    have hbe : ((check c).2.2 != 0) = false := by simpa [err] using he
    have hbe2 : ((check c).2.2 == 0) = true := by simpa [err] using he
    cases hi : inB i 0 ((n : Int) - 1)
    · have HR : Hid (valueR c i = ((0, 0), 4)) := by
        have := errAt_no (n := c.feats.length) he (by rw [Hm.out]; exact hi)
        rw [Hid, valueR, this, if_pos (by decide)]
      clear he
      go_enter Tryd.func31, Tryd.ntmps31
      go_wp2_with fail
      refine (check12_any _ ((h.keep (Keeps.alloc _ _)).keep (Keeps.alloc _ _))).mono ?_
      rintro e w1 ⟨rfl, hb1⟩
      have h1 : w1.cell? ⟨w.heap.size, 0, none⟩ = some (.slice A n ca) := getc hb1 (oldc (newc rfl rfl))
      have hr : Blk w1 (w.heap.size + 1) 44 #[.int .i64 0, .int .i64 0] := (Blk.new _ _ _ (by simp)).bl hb1
      have hrl := hr.lt
      have hr0 := hr.c0
      have hr1 := hr.c1
      have hrf := hr.frozen 0
      have hrf1 := hr.frozen 1
      have hBw := bl_call (bl_alloc (bl_alloc (Below.refl _ _) _ (Nat.le_refl _)) _ (Nat.le_refl _)) hb1 (Nat.le_refl _)
      clear hb1 h
      go_wp2_with (go_at_call 58; refine (in12_any _ _ _ _).mono ?_; rintro e w' ⟨rfl, rfl⟩)
      exact bodyPost_ret (ret_span rfl rfl rfl (hr.set2 _ _).c0 (hr.set2 _ _).c1) rfl ⟨by rw [HR.out], bl_set (bl_set hBw (Nat.le_add_right _ _) _) (Nat.le_add_right _ _) _⟩
    · by_cases ha : agreeL c = []
      · have HR : Hid (valueR c i = ((0, 0), 8)) := by
          have := errAt_none (n := c.feats.length) he (by rw [Hm.out]; exact hi) ha
          rw [Hid, valueR, this, if_pos (by decide)]
        have he' : (check c).2.2 = 0 := he
        have Hop := Lib.hid fun w0 h0 => open_none (A := A) (n := n) (ca := ca) (B := B) (m := m) (cb := cb) (C := C) (q := q) (cc := cc) (c := c) w0 h0 he' ha
        clear he he' ha
        go_enter Tryd.func31, Tryd.ntmps31
        go_wp2_with fail
        refine (check12_any _ ((h.keep (Keeps.alloc _ _)).keep (Keeps.alloc _ _))).mono ?_
        rintro e w1 ⟨rfl, hb1⟩
        have h0 : w1.cell? ⟨w.heap.size, 0, none⟩ = some (.slice A n ca) := getc hb1 (oldc (newc rfl rfl))
        have h1 : w1.cell? ⟨w.heap.size, 1, none⟩ = some (.slice B m cb) := getc hb1 (oldc (newc rfl rfl))
        have h2 : w1.cell? ⟨w.heap.size, 2, none⟩ = some (.slice C q cc) := getc hb1 (oldc (newc rfl rfl))
        have hc1 := ((h.keep (Keeps.alloc _ _)).keep (Keeps.alloc _ _)).keep (Keeps.below hb1)
        have hr : Blk w1 (w.heap.size + 1) 44 #[.int .i64 0, .int .i64 0] := (Blk.new _ _ _ (by simp)).bl hb1
        have hrl := hr.lt
        have hr0 := hr.c0
        have hr1 := hr.c1
        have hrf := hr.frozen 0
        have hrf1 := hr.frozen 1
        have hBw := bl_call (bl_alloc (bl_alloc (Below.refl _ _) _ (Nat.le_refl _)) _ (Nat.le_refl _)) hb1 (Nat.le_refl _)
        clear hb1 h hrf hrf1 hr0 hr1 hrl
        go_wp2_with (first | (go_at_call 58; refine (in12_any _ _ _ _).mono ?_; rintro e w' ⟨rfl, rfl⟩) | (go_at_call 68; refine (Hop.out _ hc1).mono ?_; rintro e w2 ⟨rfl, hb2⟩; have hr := hr.bl hb2; have hrl := hr.lt; have hr0 := hr.c0; have hr1 := hr.c1; have hrf := hr.frozen 0; have hrf1 := hr.frozen 1))
        exact bodyPost_ret (ret_span rfl rfl rfl (hr.set2 _ _).c0 (hr.set2 _ _).c1) rfl ⟨by rw [HR.out], bl_set (bl_set (bl_call hBw hb2 (Nat.le_refl _)) (Nat.le_add_right _ _) _) (Nat.le_add_right _ _) _⟩
      · have HR : Hid (valueR c i = (endsOf ((agreeL c).map fun t => len c t i.toNat), 0)) := by
          have := errAt_ok (n := c.feats.length) he (by rw [Hm.out]; exact hi) ha
          rw [Hid, valueR, this, if_neg (by decide)]
        have he' : (check c).2.2 = 0 := he
        have Hop := Lib.hid fun w0 h0 => open_ok (A := A) (n := n) (ca := ca) (B := B) (m := m) (cb := cb) (C := C) (q := q) (cc := cc) (c := c) w0 h0 he' ha
        have Ha := Lib.hid ha
        have hib := inB_iff.1 hi
        obtain ⟨x, rfl⟩ := Int.eq_ofNat_of_zero_le hib.1
        have hxm : x < n := by omega
        have hxmi : (x : Int) < n := by omega
        have hxf : x < c.feats.length := by rw [Hm.out]; exact hxm
        have Hok : Hid (∀ t ∈ agreeL c, TruthOk c t) := fun t ht => (allT_ok hok (List.mem_filter.1 ht).1).2
        clear he he' ha hib
        simp only [Int.toNat_natCast] at HR
        go_enter Tryd.func31, Tryd.ntmps31
        go_wp2_with fail
        refine (check12_any _ ((h.keep (Keeps.alloc _ _)).keep (Keeps.alloc _ _))).mono ?_
        rintro e w1 ⟨rfl, hb1⟩
        have h0 : w1.cell? ⟨w.heap.size, 0, none⟩ = some (.slice A n ca) := getc hb1 (oldc (newc rfl rfl))
        have h1 : w1.cell? ⟨w.heap.size, 1, none⟩ = some (.slice B m cb) := getc hb1 (oldc (newc rfl rfl))
        have h2 : w1.cell? ⟨w.heap.size, 2, none⟩ = some (.slice C q cc) := getc hb1 (oldc (newc rfl rfl))
        have hc1 := ((h.keep (Keeps.alloc _ _)).keep (Keeps.alloc _ _)).keep (Keeps.below hb1)
        have hr : Blk w1 (w.heap.size + 1) 44 #[.int .i64 0, .int .i64 0] := (Blk.new _ _ _ (by simp)).bl hb1
        have hrl := hr.lt
        have hr0 := hr.c0
        have hr1 := hr.c1
        have hrf := hr.frozen 0
        have hrf1 := hr.frozen 1
        have hBw := bl_call (bl_alloc (bl_alloc (Below.refl _ _) _ (Nat.le_refl _)) _ (Nat.le_refl _)) hb1 (Nat.le_refl _)
        clear hb1 h hrf hrf1 hr0 hr1 hrl
        go_wp2_with (first | (go_at_call 58; refine (in12_any _ _ _ _).mono ?_; rintro e w' ⟨rfl, rfl⟩) | (go_at_call 68; refine (Hop.out _ hc1).mono ?_; rintro e wa ⟨At, nt, ct, rfl, hT, hb2⟩))
        have hrA := hr.bl hb2
        have hBwa := bl_call hBw hb2 (Nat.le_refl _)
        have hntl : nt ≤ 32768 := by rw [← hT.len]; exact Nat.le_trans (List.length_filter_le _ _) (allT_len hok).1
        have hnt1 : 0 < nt := by rw [← hT.len]; exact List.length_pos_iff.2 Ha.out
        have hnt1i : (0 : Int) < nt := by omega
        have Hnt := Lib.hid hT.len
        obtain ⟨bt, ot, t0, A0, n0, c0, rfl, hc0, hV0, H0⟩ := Rows.get hT hnt1
        simp only [Nat.add_zero] at hc0
        have hT0 := Hok.out t0 (List.mem_of_getElem? H0.out)
        have hca := hc1.keep (Keeps.below hb2)
        have h0a := getc hb2 h0
        have h1a := getc hb2 h1
        have h2a := getc hb2 h2
        clear hr h0 h1 h2 hc1 hb2 hBw
        have hbt := World.block_lt_of_cell? _ _ hc0
        have hbg := World.block_lt_of_cell? _ _ h0a
        dsimp only at hbt hbg
        generalize hL0 : len c t0 x = L0
        have HL0 := Lib.hid hL0
        clear hL0
        go_wp2
        have kk : Hid (∀ W', Below wa.heap.size wa W' → W'.cell? ⟨w.heap.size, 0, none⟩ = some (.slice A n ca) ∧ W'.cell? ⟨w.heap.size, 1, none⟩ = some (.slice B m cb) ∧ W'.cell? ⟨w.heap.size, 2, none⟩ = some (.slice C q cc) ∧ W'.cell? ⟨bt, ot, none⟩ = some (.slice A0 n0 c0)) := fun W' hb => ⟨getc hb h0a, getc hb h1a, getc hb h2a, getc hb hc0⟩
        have HLEN : Hid (∀ W', Below wa.heap.size wa W' → Calls Tryd.prog 43 #[.agg #[.slice A n ca, .slice B m cb, .slice C q cc], .slice A0 n0 c0, .int .i64 x] W' fun e w' => e = .returned (.int .i64 L0) ∧ Below W'.heap.size W' w') := fun W' hb =>
          (length_any x _ (hca.keep (Keeps.below hb)) hok (hV0.keep IntR.good (Keeps.below hb)) hT0 hxf).mono fun e w' ⟨he, hb'⟩ => ⟨by rw [he, HL0.out], hb'⟩
        refine wp_region_list (fun W => Below wa.heap.size wa W) (fun w w' => Below w.heap.size w w')
          [isV (.agg #[.slice A n ca, .slice B m cb, .slice C q cc]), isV (.slice (some ⟨bt, ot, none⟩) nt ct), isV (.pointer (some ⟨bt, ot, none⟩)), isV (.slice A0 n0 c0), isV (.int .i64 x), isV (.int .i64 L0),
           isV (.agg #[.slice A n ca, .slice B m cb, .slice C q cc]), isV (.slice (some ⟨bt, ot, none⟩) nt ct), isV (.pointer (some ⟨bt, ot, none⟩)), isV (.slice A0 n0 c0), isV (.int .i64 x), isV (.int .i64 L0), isV (.agg #[.int .i64 L0, .int .i64 L0]), NewSpan wa.heap.size 44]
          (by kernel_rfl) (by kernel_rfl) (by kernel_rfl) (by simp) (by simp) (Below.refl _ _).drew ?stab9 ?step9 ?fin9
        case stab9 => exact StabL.is (StabL.is (StabL.is (StabL.is (StabL.is (StabL.is (StabL.is (StabL.is (StabL.is (StabL.is (StabL.is (StabL.is (StabL.is (StabL.cons (fun v W V hC hX h => h.bl hX) StabL.nil)))))))))))))
        case step9 =>
          refine StepsL.is ?_ (StepsL.is ?_ (StepsL.is ?_ (StepsL.is ?_ (StepsL.is ?_ (StepsL.is ?_ (StepsL.is ?_ (StepsL.is ?_ (StepsL.is ?_ (StepsL.is ?_ (StepsL.is ?_ (StepsL.is ?_ (StepsL.is ?_ (StepsL.cons ?_ StepsL.nil)))))))))))))
          all_goals
            intro vs W K hC hD hU hK
            simp only [fillA, Act.put, List.setIfInBounds_toArray, List.set_cons_zero, List.set_cons_succ, Nat.zero_add, Nat.reduceAdd] at hK ⊢
            simp [waits, Region.binds] at hD
            try simp only [envOf, List.getD_cons_succ, List.getD_cons_zero, isV] at hD
          all_goals try ((try simp only [hD] at hK ⊢); obtain ⟨k1, k2, k3, k4⟩ := kk.out W hC; go_simp; exact hK _ hC (Below.refl _ _))
          · simp only [hD] at hK ⊢
            clear hD
            go_simp
            refine (HLEN.out _ hC).mono ?_
            rintro e w' ⟨rfl, hb⟩
            exact hK _ (bl_call hC hb (Nat.le_refl _)) hb
          · simp only [hD] at hK ⊢
            clear hD
            go_simp
            refine (HLEN.out _ hC).mono ?_
            rintro e w' ⟨rfl, hb⟩
            exact hK _ (bl_call hC hb (Nat.le_refl _)) hb
          · go_simp
            exact hK _ _ (bl_alloc hC _ (Nat.le_refl _)) (bl_alloc (Below.refl _ _) _ (Nat.le_refl _)) ⟨_, rfl, hC.size, Blk.new _ _ _ rfl⟩
        case fin9 =>
          intro vs W hC hE hU
          have e12 := hE 12 (by simp)
          have e13 := hE 13 (by simp)
          simp only [envOf, List.getD_cons_succ, List.getD_cons_zero, isV] at e12 e13
          simp only [fillA, Act.put, List.setIfInBounds_toArray, List.set_cons_zero, List.set_cons_succ, Nat.zero_add, Nat.reduceAdd, e12]
          simp [Region.wanted, yielded]
          clear e12 hE hU
          obtain ⟨g, e13, hqD, hg⟩ := e13
          simp only [e13]
          clear e13
          have hg0 := hg.c0
          have hg1 := hg.c1
          have hgf := hg.frozen 0
          have hgf1 := hg.frozen 1
          have hgl := hg.lt
          go_simp
          obtain ⟨Wb, hWb⟩ : ∃ Wb, (W.setCell ⟨g, 0, none⟩ (.int .i64 L0)).setCell ⟨g, 1, none⟩ (.int .i64 L0) = Wb := ⟨_, rfl⟩
          have hgN : Blk Wb g 44 #[.int .i64 L0, .int .i64 L0] := by rw [← hWb]; exact hg.set2 _ _
          have hBN : Below wa.heap.size wa Wb := by rw [← hWb]; exact bl_set (bl_set hC hqD _) hqD _
          rw [hWb]
          clear hWb hg0 hg1 hgf hgf1 hgl hg hC
          have hL0 : Hid (((agreeL c).map fun t => len c t x)[0]? = some L0) := by rw [Hid, List.getElem?_map, H0.out, ← HL0.out]; rfl
          have Hfin : Hid (endsOf ((agreeL c).map fun t => len c t x) = ends L0 L0 ((agreeL c).map fun t => len c t x)) := (endsOf_take hL0.out).symm
          clear hc0 hV0 hbt hT0
          go_wp2
          go_loopw [11] (fun i wr => ∃ (k : Nat) (lo hi : Int), k ≤ nt ∧ i = .int .i64 k ∧ Blk wr g 44 #[.int .i64 lo, .int .i64 hi] ∧ Below wa.heap.size wa wr ∧ Hid ((lo, hi) = ends L0 L0 (((agreeL c).take k).map fun t => len c t x))) (fun i _ => nt - (intOf i).toNat)
          case atStart => exact ⟨0, L0, L0, Nat.zero_le _, rfl, hgN, hBN, rfl⟩
          case round =>
            obtain ⟨k, lo, hi, hk, rfl, hg, hB, Hl⟩ := hrel
            have hg0 := hg.c0
            have hg1 := hg.c1
            have hgf := hg.frozen 0
            have hgf1 := hg.frozen 1
            have hgl := hg.lt
            by_cases hlt : k < nt
            · have hgd := hg.drew
              obtain ⟨b2, o2, t, Av, nv, cv, hAe, hck, hVk, Hot⟩ := Rows.get hT hlt
              obtain ⟨rfl, rfl⟩ : bt = b2 ∧ ot = o2 := by injection hAe with hAe; injection hAe with e1 e2; exact ⟨e1, e2⟩
              have hTk := Hok.out t (List.mem_of_getElem? Hot.out)
              generalize hL : len c t x = L
              have HLk := Lib.hid hL
              have Hs : Hid (ends L0 L0 (((agreeL c).take (k + 1)).map fun t => len c t x) = (min lo L, max hi L)) := by
                rw [Hid, take_snoc_get Hot.out, List.map_append, List.map_cons, List.map_nil, ends_snoc, ← Hl.out, hL]
              clear hL
              obtain ⟨mn, hmn⟩ : ∃ mn, (if L < lo then L else lo) = mn := ⟨_, rfl⟩
              obtain ⟨mx, hmx⟩ : ∃ mx, (if hi < L then L else hi) = mx := ⟨_, rfl⟩
              have Hmn := Lib.hid hmn
              have Hmx := Lib.hid hmx
              have hki : (k : Int) < nt := by omega
              have kk2 : Hid (∀ W', Below wr.heap.size wr W' → W'.cell? ⟨w.heap.size, 0, none⟩ = some (.slice A n ca) ∧ W'.cell? ⟨w.heap.size, 1, none⟩ = some (.slice B m cb) ∧ W'.cell? ⟨w.heap.size, 2, none⟩ = some (.slice C q cc) ∧ W'.cell? ⟨bt, ot + k, none⟩ = some (.slice Av nv cv) ∧ W'.cell? ⟨g, 0, none⟩ = some (.int .i64 lo) ∧ W'.cell? ⟨g, 1, none⟩ = some (.int .i64 hi)) := fun W' hb => ⟨getc hb (getc hB h0a), getc hb (getc hB h1a), getc hb (getc hB h2a), getc hb (getc hB hck), (hg.bl hb).c0, (hg.bl hb).c1⟩
              have HLEN2 : Hid (∀ W', Below wr.heap.size wr W' → Calls Tryd.prog 43 #[.agg #[.slice A n ca, .slice B m cb, .slice C q cc], .slice Av nv cv, .int .i64 x] W' fun e w' => e = .returned (.int .i64 L) ∧ Below W'.heap.size W' w') := fun W' hb =>
                (length_any x _ ((hca.keep (Keeps.below hB)).keep (Keeps.below hb)) hok ((hVk.keep IntR.good (Keeps.below hB)).keep IntR.good (Keeps.below hb)) hTk hxf).mono fun e w' ⟨he, hb'⟩ => ⟨by rw [he, HLk.out], hb'⟩
              clear hck hg0 hg1 hgf hgf1 hgl hgd
              go_wp2
              refine wp_region_list (fun W => Below wr.heap.size wr W) (fun w w' => Below w.heap.size w w')
                [isV (.pointer (some ⟨g, 0, none⟩)), isV (.int .i64 lo), isV (.agg #[.slice A n ca, .slice B m cb, .slice C q cc]), isV (.slice (some ⟨bt, ot, none⟩) nt ct), isV (.int .i64 k), isV (.pointer (some ⟨bt, ot + k, none⟩)), isV (.slice Av nv cv), isV (.int .i64 x), isV (.int .i64 L), isV (.int .i64 mn),
                 isV (.pointer (some ⟨g, 1, none⟩)), isV (.int .i64 hi), isV (.agg #[.slice A n ca, .slice B m cb, .slice C q cc]), isV (.slice (some ⟨bt, ot, none⟩) nt ct), isV (.int .i64 k), isV (.pointer (some ⟨bt, ot + k, none⟩)), isV (.slice Av nv cv), isV (.int .i64 x), isV (.int .i64 L), isV (.int .i64 mx), isV (.agg #[.int .i64 mn, .int .i64 mx])]
                (by kernel_rfl) (by kernel_rfl) (by kernel_rfl) (by simp) (by simp) (Below.refl _ _).drew ?stab13 ?step13 ?fin13
              case stab13 => exact StabL.is (StabL.is (StabL.is (StabL.is (StabL.is (StabL.is (StabL.is (StabL.is (StabL.is (StabL.is (StabL.is (StabL.is (StabL.is (StabL.is (StabL.is (StabL.is (StabL.is (StabL.is (StabL.is (StabL.is (StabL.is StabL.nil))))))))))))))))))))
              case step13 =>
                refine StepsL.isA ?_ (StepsL.isA ?_ (StepsL.isA ?_ (StepsL.isA ?_ (StepsL.isA ?_ (StepsL.isA ?_ (StepsL.isA ?_ (StepsL.isA ?_ (StepsL.isA ?_ (StepsL.isA ?_ (StepsL.isA ?_ (StepsL.isA ?_ (StepsL.isA ?_ (StepsL.isA ?_ (StepsL.isA ?_ (StepsL.isA ?_ (StepsL.isA ?_ (StepsL.isA ?_ (StepsL.isA ?_ (StepsL.isA ?_ (StepsL.isA ?_ StepsL.nil))))))))))))))))))))
                -- 0:fieldAddr 44 t10 0 | 1:load 3 t61 | 2:load 26 t2 | 3:move t9 | 4:move t11 | 5:indexAddr 30 t64 t65 | 6:load 34 t66 | 7:move t1 | 8:call {value (func 43), #[t63 | 9:call {builtin min, #[t62, t6 | 10:fieldAddr 44 t10 1 | 11:load 3 t71 | 12:load 26 t2 | 13:move t9 | 14:move t11 | 15:indexAddr 30 t74 t75 | 16:load 34 t76 | 17:move t1 | 18:call {value (func 43), #[t73 | 19:call {builtin max, #[t72, t7 | 20:build 44 #[(0, t70), (1, t80 | 21:store 44 t10 t81
                · -- 0 pure fieldAddr 44 t10 0
                  intro vs a W K ha hC hD hU hK
                  have r10 : a.tmps[10]? = some (.pointer (some ⟨g, 0, none⟩)) := by rw [ha]; kernel_rfl
                  clear ha hU
                  simp [waits, Region.binds] at hD
                  try simp only [envOf, List.getD_cons_succ, List.getD_cons_zero, isV] at hD
                  rw [if_pos (by rfl)]
                  go_simp
                  exact hK _ hC (Below.refl _ _)
                · -- 1 pure load 3 t61
                  intro vs a W K ha hC hD hU hK
                  have r61 : a.tmps[61]? = some (vs 0) := by rw [ha]; kernel_rfl
                  clear ha hU
                  simp [waits, Region.binds] at hD
                  try simp only [envOf, List.getD_cons_succ, List.getD_cons_zero, isV] at hD
                  rw [if_pos (by rfl)]
                  obtain ⟨k0, k1, k2, k3, k4, k5⟩ := kk2.out W hC
                  go_simp
                  exact hK _ hC (Below.refl _ _)
                · -- 2 pure load 26 t2
                  intro vs a W K ha hC hD hU hK
                  have r2 : a.tmps[2]? = some (.pointer (some ⟨w.heap.size, 0, none⟩)) := by rw [ha]; kernel_rfl
                  clear ha hU
                  simp [waits, Region.binds] at hD
                  try simp only [envOf, List.getD_cons_succ, List.getD_cons_zero, isV] at hD
                  rw [if_pos (by rfl)]
                  obtain ⟨k0, k1, k2, k3, k4, k5⟩ := kk2.out W hC
                  go_simp
                  exact hK _ hC (Below.refl _ _)
                · -- 3 pure move t9
                  intro vs a W K ha hC hD hU hK
                  have r9 : a.tmps[9]? = some (.slice (some ⟨bt, ot, none⟩) nt ct) := by rw [ha]; kernel_rfl
                  clear ha hU
                  simp [waits, Region.binds] at hD
                  try simp only [envOf, List.getD_cons_succ, List.getD_cons_zero, isV] at hD
                  rw [if_pos (by rfl)]
                  go_simp
                  exact hK _ hC (Below.refl _ _)
                · -- 4 pure move t11
                  intro vs a W K ha hC hD hU hK
                  have r11 : a.tmps[11]? = some (.int .i64 k) := by rw [ha]; kernel_rfl
                  clear ha hU
                  simp [waits, Region.binds] at hD
                  try simp only [envOf, List.getD_cons_succ, List.getD_cons_zero, isV] at hD
                  rw [if_pos (by rfl)]
                  go_simp
                  exact hK _ hC (Below.refl _ _)
                · -- 5 pure indexAddr 30 t64 t65
                  intro vs a W K ha hC hD hU hK
                  have r64 : a.tmps[64]? = some (vs 3) := by rw [ha]; kernel_rfl
                  have r65 : a.tmps[65]? = some (vs 4) := by rw [ha]; kernel_rfl
                  clear ha hU
                  simp [waits, Region.binds] at hD
                  try simp only [envOf, List.getD_cons_succ, List.getD_cons_zero, isV] at hD
                  rw [if_pos (by rfl)]
                  go_simp
                  exact hK _ hC (Below.refl _ _)
                · -- 6 pure load 34 t66
                  intro vs a W K ha hC hD hU hK
                  have r66 : a.tmps[66]? = some (vs 5) := by rw [ha]; kernel_rfl
                  clear ha hU
                  simp [waits, Region.binds] at hD
                  try simp only [envOf, List.getD_cons_succ, List.getD_cons_zero, isV] at hD
                  rw [if_pos (by rfl)]
                  obtain ⟨k0, k1, k2, k3, k4, k5⟩ := kk2.out W hC
                  go_simp
                  exact hK _ hC (Below.refl _ _)
                · -- 7 pure move t1
                  intro vs a W K ha hC hD hU hK
                  have r1 : a.tmps[1]? = some (.int .i64 x) := by rw [ha]; kernel_rfl
                  clear ha hU
                  simp [waits, Region.binds] at hD
                  try simp only [envOf, List.getD_cons_succ, List.getD_cons_zero, isV] at hD
                  rw [if_pos (by rfl)]
                  go_simp
                  exact hK _ hC (Below.refl _ _)
                · -- 8 CALL call {value (func 43), #[t63, t67, t68]}
                  intro vs a W K ha hC hD hU hK
                  have r63 : a.tmps[63]? = some (vs 2) := by rw [ha]; kernel_rfl
                  have r67 : a.tmps[67]? = some (vs 6) := by rw [ha]; kernel_rfl
                  have r68 : a.tmps[68]? = some (vs 7) := by rw [ha]; kernel_rfl
                  clear ha hU
                  simp [waits, Region.binds] at hD
                  try simp only [envOf, List.getD_cons_succ, List.getD_cons_zero, isV] at hD
                  rw [if_pos (by rfl)]
                  go_simp
                  refine (HLEN2.out _ hC).mono ?_
                  rintro e w' ⟨rfl, hb⟩
                  exact hK _ (bl_call hC hb (Nat.le_refl _)) hb
                · -- 9 BUILTIN call {builtin min, #[t62, t69]}
                  intro vs a W K ha hC hD hU hK
                  have r62 : a.tmps[62]? = some (vs 1) := by rw [ha]; kernel_rfl
                  have r69 : a.tmps[69]? = some (vs 8) := by rw [ha]; kernel_rfl
                  clear ha hU
                  simp [waits, Region.binds] at hD
                  try simp only [envOf, List.getD_cons_succ, List.getD_cons_zero, isV] at hD
                  rw [if_pos (by rfl)]
                  go_simp
                  exact hK _ hC (Below.refl _ _)
                · -- 10 pure fieldAddr 44 t10 1
                  intro vs a W K ha hC hD hU hK
                  have r10 : a.tmps[10]? = some (.pointer (some ⟨g, 0, none⟩)) := by rw [ha]; kernel_rfl
                  clear ha hU
                  simp [waits, Region.binds] at hD
                  try simp only [envOf, List.getD_cons_succ, List.getD_cons_zero, isV] at hD
                  rw [if_pos (by rfl)]
                  go_simp
                  exact hK _ hC (Below.refl _ _)
                · -- 11 pure load 3 t71
                  intro vs a W K ha hC hD hU hK
                  have r71 : a.tmps[71]? = some (vs 10) := by rw [ha]; kernel_rfl
                  clear ha hU
                  simp [waits, Region.binds] at hD
                  try simp only [envOf, List.getD_cons_succ, List.getD_cons_zero, isV] at hD
                  rw [if_pos (by rfl)]
                  obtain ⟨k0, k1, k2, k3, k4, k5⟩ := kk2.out W hC
                  go_simp
                  exact hK _ hC (Below.refl _ _)
                · -- 12 pure load 26 t2
                  intro vs a W K ha hC hD hU hK
                  have r2 : a.tmps[2]? = some (.pointer (some ⟨w.heap.size, 0, none⟩)) := by rw [ha]; kernel_rfl
                  clear ha hU
                  simp [waits, Region.binds] at hD
                  try simp only [envOf, List.getD_cons_succ, List.getD_cons_zero, isV] at hD
                  rw [if_pos (by rfl)]
                  obtain ⟨k0, k1, k2, k3, k4, k5⟩ := kk2.out W hC
                  go_simp
                  exact hK _ hC (Below.refl _ _)
                · -- 13 pure move t9
                  intro vs a W K ha hC hD hU hK
                  have r9 : a.tmps[9]? = some (.slice (some ⟨bt, ot, none⟩) nt ct) := by rw [ha]; kernel_rfl
                  clear ha hU
                  simp [waits, Region.binds] at hD
                  try simp only [envOf, List.getD_cons_succ, List.getD_cons_zero, isV] at hD
                  rw [if_pos (by rfl)]
                  go_simp
                  exact hK _ hC (Below.refl _ _)
                · -- 14 pure move t11
                  intro vs a W K ha hC hD hU hK
                  have r11 : a.tmps[11]? = some (.int .i64 k) := by rw [ha]; kernel_rfl
                  clear ha hU
                  simp [waits, Region.binds] at hD
                  try simp only [envOf, List.getD_cons_succ, List.getD_cons_zero, isV] at hD
                  rw [if_pos (by rfl)]
                  go_simp
                  exact hK _ hC (Below.refl _ _)
                · -- 15 pure indexAddr 30 t74 t75
                  intro vs a W K ha hC hD hU hK
                  have r74 : a.tmps[74]? = some (vs 13) := by rw [ha]; kernel_rfl
                  have r75 : a.tmps[75]? = some (vs 14) := by rw [ha]; kernel_rfl
                  clear ha hU
                  simp [waits, Region.binds] at hD
                  try simp only [envOf, List.getD_cons_succ, List.getD_cons_zero, isV] at hD
                  rw [if_pos (by rfl)]
                  go_simp
                  exact hK _ hC (Below.refl _ _)
                · -- 16 pure load 34 t76
                  intro vs a W K ha hC hD hU hK
                  have r76 : a.tmps[76]? = some (vs 15) := by rw [ha]; kernel_rfl
                  clear ha hU
                  simp [waits, Region.binds] at hD
                  try simp only [envOf, List.getD_cons_succ, List.getD_cons_zero, isV] at hD
                  rw [if_pos (by rfl)]
                  obtain ⟨k0, k1, k2, k3, k4, k5⟩ := kk2.out W hC
                  go_simp
                  exact hK _ hC (Below.refl _ _)
                · -- 17 pure move t1
                  intro vs a W K ha hC hD hU hK
                  have r1 : a.tmps[1]? = some (.int .i64 x) := by rw [ha]; kernel_rfl
                  clear ha hU
                  simp [waits, Region.binds] at hD
                  try simp only [envOf, List.getD_cons_succ, List.getD_cons_zero, isV] at hD
                  rw [if_pos (by rfl)]
                  go_simp
                  exact hK _ hC (Below.refl _ _)
                · -- 18 CALL call {value (func 43), #[t73, t77, t78]}
                  intro vs a W K ha hC hD hU hK
                  have r73 : a.tmps[73]? = some (vs 12) := by rw [ha]; kernel_rfl
                  have r77 : a.tmps[77]? = some (vs 16) := by rw [ha]; kernel_rfl
                  have r78 : a.tmps[78]? = some (vs 17) := by rw [ha]; kernel_rfl
                  clear ha hU
                  simp [waits, Region.binds] at hD
                  try simp only [envOf, List.getD_cons_succ, List.getD_cons_zero, isV] at hD
                  rw [if_pos (by rfl)]
                  go_simp
                  refine (HLEN2.out _ hC).mono ?_
                  rintro e w' ⟨rfl, hb⟩
                  exact hK _ (bl_call hC hb (Nat.le_refl _)) hb
                · -- 19 BUILTIN call {builtin max, #[t72, t79]}
                  intro vs a W K ha hC hD hU hK
                  have r72 : a.tmps[72]? = some (vs 11) := by rw [ha]; kernel_rfl
                  have r79 : a.tmps[79]? = some (vs 18) := by rw [ha]; kernel_rfl
                  clear ha hU
                  simp [waits, Region.binds] at hD
                  try simp only [envOf, List.getD_cons_succ, List.getD_cons_zero, isV] at hD
                  rw [if_pos (by rfl)]
                  go_simp
                  exact hK _ hC (Below.refl _ _)
                · -- 20 pure build 44 #[(0, t70), (1, t80)]
                  intro vs a W K ha hC hD hU hK
                  have r70 : a.tmps[70]? = some (vs 9) := by rw [ha]; kernel_rfl
                  have r80 : a.tmps[80]? = some (vs 19) := by rw [ha]; kernel_rfl
                  clear ha hU
                  simp [waits, Region.binds] at hD
                  try simp only [envOf, List.getD_cons_succ, List.getD_cons_zero, isV] at hD
                  rw [if_pos (by rfl)]
                  go_simp
                  exact hK _ hC (Below.refl _ _)
              case fin13 =>
                intro vs W hC hE hU
                have e20 := hE 20 (by simp)
                simp only [envOf, List.getD_cons_succ, List.getD_cons_zero, isV] at e20
                simp only [fillA, Act.put, List.setIfInBounds_toArray, List.set_cons_zero, List.set_cons_succ, Nat.zero_add, Nat.reduceAdd, e20]
                simp [Region.wanted, yielded]
                clear e20 hE hU
                have hgC := hg.bl hC
                have hg0 := hgC.c0
                have hg1 := hgC.c1
                have hgf := hgC.frozen 0
                have hgf1 := hgC.frozen 1
                have hgl := hgC.lt
                have HCC := Lib.hid hC
                clear hC hmn hmx
                go_simp
                go_wp2
                go_roundw
                case rel => exact ⟨k + 1, mn, mx, by omega, by go_num, hgC.set2 _ _, bl_set (bl_set (bl_call hB HCC.out (Nat.le_refl _)) hqD _) hqD _, by rw [Hid, Hs.out, ← min_if lo L, ← max_if hi L, Hmn.out, Hmx.out]⟩
                case measure => simp [intOf]; omega
            · obtain rfl : k = nt := by omega
              have Hall : Hid ((lo, hi) = endsOf ((agreeL c).map fun t => len c t x)) := by rw [Hid, Hl.out, Hfin.out, List.take_of_length_le (by rw [Hnt.out]; exact Nat.le_refl _)]
              have hrr := hrA.bl hB
              have hr0 := hrr.c0
              have hr1 := hrr.c1
              have hrf := hrr.frozen 0
              have hrf1 := hrr.frozen 1
              have hrl := hrr.lt
              go_wp2
              exact bodyPost_ret (ret_span rfl rfl rfl (hrr.set2 _ _).c0 (hrr.set2 _ _).c1) rfl ⟨by rw [HR.out, ← Hall.out], bl_set (bl_set (bl_call hBwa hB (Nat.le_refl _)) (Nat.le_add_right _ _) _) (Nat.le_add_right _ _) _⟩
  · have hbe : ((check c).2.2 != 0) = true := by simpa [err] using he
    have hbe2 : ((check c).2.2 == 0) = false := by simpa [err] using he
    have HR : Hid (valueR c i = ((0, 0), (check c).2.2)) := by
      have := errAt_bad (i := i) (n := c.feats.length) he
      rw [Hid, valueR, this, if_pos he]; rfl
    clear he
    go_enter Tryd.func31, Tryd.ntmps31
    go_wp2_with fail
    refine (check12_any _ ((h.keep (Keeps.alloc _ _)).keep (Keeps.alloc _ _))).mono ?_
    rintro e w1 ⟨rfl, hb1⟩
    have hr : Blk w1 (w.heap.size + 1) 44 #[.int .i64 0, .int .i64 0] := (Blk.new _ _ _ (by simp)).bl hb1
    have hrl := hr.lt
    have hr0 := hr.c0
    have hr1 := hr.c1
    have hrf := hr.frozen 0
    have hrf1 := hr.frozen 1
    have hBw := bl_call (bl_alloc (bl_alloc (Below.refl _ _) _ (Nat.le_refl _)) _ (Nat.le_refl _)) hb1 (Nat.le_refl _)
    clear hb1 h
    go_wp2
    exact bodyPost_ret (ret_span rfl rfl rfl (hr.set2 _ _).c0 (hr.set2 _ _).c1) rfl ⟨by rw [HR.out], bl_set (bl_set hBw (Nat.le_add_right _ _) _) (Nat.le_add_right _ _) _⟩

end Go.Proofs.YtkbpmcpmcmnfgaaDoor
