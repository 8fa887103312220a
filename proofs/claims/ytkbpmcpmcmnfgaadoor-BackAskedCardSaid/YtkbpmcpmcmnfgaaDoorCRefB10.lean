/- Walks: the reference of layer 12: Amount. -/
import Derived.Deep.RegionHeld3
import Derived.Test.YtkbpmcpmcmnfgaaDoorCOwn
import Derived.Test.YtkbpmcpmcmnfgaaDoorCRefB9
set_option linter.unusedVariables false
set_option linter.unusedSimpArgs false
set_option linter.all false
namespace Go.Proofs.YtkbpmcpmcmnfgaaDoor
open Go.RowKit

theorem endsOf_take {l : List Int} {x : Int} (h : l[0]? = some x) : ends x x l = endsOf l := by
  cases l with
  | nil => simp at h
  | cons y l => simp at h; subst h; exact ends_again y l

theorem errAt_bad {c : Claim} {i : Int} {n : Nat} (h : err c ≠ 0) : errAt c i n = err c := by rw [errAt, if_pos h]
theorem errAt_no {c : Claim} {i : Int} {n : Nat} (h : err c = 0) (hi : inB i 0 ((n : Int) - 1) = false) : errAt c i n = 4 := by rw [errAt, if_neg (by simp [h]), if_neg (by simp [hi])]
theorem errAt_none {c : Claim} {i : Int} {n : Nat} (h : err c = 0) (hi : inB i 0 ((n : Int) - 1) = true) (ha : agreeL c = []) : errAt c i n = 8 := by rw [errAt, if_neg (by simp [h]), if_pos hi, if_pos ha]
theorem errAt_ok {c : Claim} {i : Int} {n : Nat} (h : err c = 0) (hi : inB i 0 ((n : Int) - 1) = true) (ha : agreeL c ≠ []) : errAt c i n = 0 := by rw [errAt, if_neg (by simp [h]), if_pos hi, if_neg ha]

theorem min_if (a b : Int) : (if b < a then b else a) = min a b := by split <;> omega
theorem max_if (a b : Int) : (if a < b then b else a) = max a b := by split <;> omega

theorem ret_span {fn : Func} {p u : Tmp} (h : fn.results = #[.cell p 44, .tmp u]) {tmps : Array Value} {g : Nat} {lo hi e : Int} {w : World} (hp : tmps.getD p undef = .pointer (some ⟨g, 0, none⟩)) (hu : tmps.getD u undef = .int .i64 e)
    (h0 : w.cell? ⟨g, 0, none⟩ = some (.int .i64 lo)) (h1 : w.cell? ⟨g, 1, none⟩ = some (.int .i64 hi)) : (results fn tmps).run Tryd.prog w = .ok (.tuple #[.agg #[.int .i64 lo, .int .i64 hi], .int .i64 e]) w := by
  rw [results_cell_tmp h, hp, hu]
  simp [go_sem, h0, h1]

set_option maxRecDepth 100000 in
set_option maxHeartbeats 4000000 in
theorem amount12_any {A B C : Option Addr} {n ca m cb q cc : Nat} {c : Claim} (i : Int) (w : World) (h : ClaimAt (fun _ => True) w A n B m C q c) :
    Calls Tryd.prog 29 #[.agg #[.slice A n ca, .slice B m cb, .slice C q cc], .int .i64 i] w fun e w' => e = .returned (.tuple #[.agg #[.int .i64 (amountR c i).1.1, .int .i64 (amountR c i).1.2], .int .i64 (amountR c i).2]) ∧ Below w.heap.size w w' := by
  have Hm := Lib.hid h.cs.len
  have hlm := h.cs.le
  by_cases he : err c = 0
  · have hok := okC_of he
    have hbe : ((check c).2.2 != 0) = false := by simpa [err] using he
    have hbe2 : ((check c).2.2 == 0) = true := by simpa [err] using he
    cases hi : inB i 0 ((m : Int) - 1)
    · have HR : Hid (amountR c i = ((0, 0), 4)) := by
        have := errAt_no (n := c.causes.length) he (by rw [Hm.out]; exact hi)
        rw [Hid, amountR, this, if_pos (by decide)]
      clear he
      go_enter Tryd.func29, Tryd.ntmps29
      go_wp2_with fail
      refine (check12_any _ ((h.keep (Keeps.alloc _ _)).keep (Keeps.alloc _ _))).mono ?_
      rintro e w1 ⟨rfl, hb1⟩
      have h1 : w1.cell? ⟨w.heap.size, 1, none⟩ = some (.slice B m cb) := getc hb1 (oldc (newc rfl rfl))
      have hr : Blk w1 (w.heap.size + 1) 44 #[.int .i64 0, .int .i64 0] := (Blk.new _ _ _ (by simp)).bl hb1
      have hrl := hr.lt
      have hr0 := hr.c0
      have hr1 := hr.c1
      have hrf := hr.frozen 0
      have hrf1 := hr.frozen 1
      have hBw := bl_call (bl_alloc (bl_alloc (Below.refl _ _) _ (Nat.le_refl _)) _ (Nat.le_refl _)) hb1 (Nat.le_refl _)
      clear hb1 h
      go_wp2_with (go_at_call 58; refine (in12_any _ _ _ _).mono ?_; rintro e w' ⟨rfl, rfl⟩)
      exact bodyPost_ret (ret_span rfl rfl rfl (hr.set2 _ _).c0 (hr.set2 _ _).c1) rfl ⟨by rw [HR.out], bl_set (bl_set hBw (Nat.le_add_right _ _) _) (Nat.le_add_right _ _) _⟩
    · by_cases ha : agreeL c = []
      · have HR : Hid (amountR c i = ((0, 0), 8)) := by
          have := errAt_none (n := c.causes.length) he (by rw [Hm.out]; exact hi) ha
          rw [Hid, amountR, this, if_pos (by decide)]
        have he' : (check c).2.2 = 0 := he
        have Hop := Lib.hid fun w0 h0 => open_none (A := A) (n := n) (ca := ca) (B := B) (m := m) (cb := cb) (C := C) (q := q) (cc := cc) (c := c) w0 h0 he' ha
        clear he he' ha
        go_enter Tryd.func29, Tryd.ntmps29
        go_wp2_with fail
        refine (check12_any _ ((h.keep (Keeps.alloc _ _)).keep (Keeps.alloc _ _))).mono ?_
        rintro e w1 ⟨rfl, hb1⟩
        have h0 : w1.cell? ⟨w.heap.size, 0, none⟩ = some (.slice A n ca) := getc hb1 (oldc (newc rfl rfl))
        have h1 : w1.cell? ⟨w.heap.size, 1, none⟩ = some (.slice B m cb) := getc hb1 (oldc (newc rfl rfl))
        have h2 : w1.cell? ⟨w.heap.size, 2, none⟩ = some (.slice C q cc) := getc hb1 (oldc (newc rfl rfl))
        have hc1 := ((h.keep (Keeps.alloc _ _)).keep (Keeps.alloc _ _)).keep (Keeps.below hb1)
        have hr : Blk w1 (w.heap.size + 1) 44 #[.int .i64 0, .int .i64 0] := (Blk.new _ _ _ (by simp)).bl hb1
        have hrl := hr.lt
        have hr0 := hr.c0
        have hr1 := hr.c1
        have hrf := hr.frozen 0
        have hrf1 := hr.frozen 1
        have hBw := bl_call (bl_alloc (bl_alloc (Below.refl _ _) _ (Nat.le_refl _)) _ (Nat.le_refl _)) hb1 (Nat.le_refl _)
        clear hb1 h hrf hrf1 hr0 hr1 hrl
        go_wp2_with (first | (go_at_call 58; refine (in12_any _ _ _ _).mono ?_; rintro e w' ⟨rfl, rfl⟩) | (go_at_call 68; refine (Hop.out _ hc1).mono ?_; rintro e w2 ⟨rfl, hb2⟩; have hr := hr.bl hb2; have hrl := hr.lt; have hr0 := hr.c0; have hr1 := hr.c1; have hrf := hr.frozen 0; have hrf1 := hr.frozen 1))
        exact bodyPost_ret (ret_span rfl rfl rfl (hr.set2 _ _).c0 (hr.set2 _ _).c1) rfl ⟨by rw [HR.out], bl_set (bl_set (bl_call hBw hb2 (Nat.le_refl _)) (Nat.le_add_right _ _) _) (Nat.le_add_right _ _) _⟩
      · have HR : Hid (amountR c i = (endsOf ((agreeL c).map fun t => t.getD i.toNat 0), 0)) := by
          have := errAt_ok (n := c.causes.length) he (by rw [Hm.out]; exact hi) ha
          rw [Hid, amountR, this, if_neg (by decide)]
        have he' : (check c).2.2 = 0 := he
        have Hop := Lib.hid fun w0 h0 => open_ok (A := A) (n := n) (ca := ca) (B := B) (m := m) (cb := cb) (C := C) (q := q) (cc := cc) (c := c) w0 h0 he' ha
        have Ha := Lib.hid ha
        have hib := inB_iff.1 hi
        obtain ⟨x, rfl⟩ := Int.eq_ofNat_of_zero_le hib.1
        have hxm : x < m := by omega
        have hxmi : (x : Int) < m := by omega
        have Hlen : Hid (∀ t ∈ agreeL c, t.length = m) := fun t ht => by rw [(allT_ok hok (List.mem_filter.1 ht).1).1, Hm.out]
        clear he he' ha hib
        simp only [Int.toNat_natCast] at HR
        go_enter Tryd.func29, Tryd.ntmps29
        go_wp2_with fail
        refine (check12_any _ ((h.keep (Keeps.alloc _ _)).keep (Keeps.alloc _ _))).mono ?_
        rintro e w1 ⟨rfl, hb1⟩
        have h0 : w1.cell? ⟨w.heap.size, 0, none⟩ = some (.slice A n ca) := getc hb1 (oldc (newc rfl rfl))
        have h1 : w1.cell? ⟨w.heap.size, 1, none⟩ = some (.slice B m cb) := getc hb1 (oldc (newc rfl rfl))
        have h2 : w1.cell? ⟨w.heap.size, 2, none⟩ = some (.slice C q cc) := getc hb1 (oldc (newc rfl rfl))
        have hc1 := ((h.keep (Keeps.alloc _ _)).keep (Keeps.alloc _ _)).keep (Keeps.below hb1)
        have hr : Blk w1 (w.heap.size + 1) 44 #[.int .i64 0, .int .i64 0] := (Blk.new _ _ _ (by simp)).bl hb1
        have hrl := hr.lt
        have hr0 := hr.c0
        have hr1 := hr.c1
        have hrf := hr.frozen 0
        have hrf1 := hr.frozen 1
        have hBw := bl_call (bl_alloc (bl_alloc (Below.refl _ _) _ (Nat.le_refl _)) _ (Nat.le_refl _)) hb1 (Nat.le_refl _)
        clear hb1 h hrf hrf1 hr0 hr1 hrl
        go_wp2_with (first | (go_at_call 58; refine (in12_any _ _ _ _).mono ?_; rintro e w' ⟨rfl, rfl⟩) | (go_at_call 68; refine (Hop.out _ hc1).mono ?_; rintro e wa ⟨At, nt, ct, rfl, hT, hb2⟩))
        have hrA := hr.bl hb2
        have hBwa := bl_call hBw hb2 (Nat.le_refl _)
        have hntl : nt ≤ 32768 := by rw [← hT.len]; exact Nat.le_trans (List.length_filter_le _ _) (allT_len hok).1
        have hnt1 : 0 < nt := by rw [← hT.len]; exact List.length_pos_iff.2 Ha.out
        have hnt1i : (0 : Int) < nt := by omega
        have Hnt := Lib.hid hT.len
        obtain ⟨bt, ot, t0, A0, n0, c0, rfl, hc0, hV0, H0⟩ := Rows.get hT hnt1
        simp only [Nat.add_zero] at hc0
        have hn0 : x < n0 := by rw [← hV0.len, Hlen.out t0 (List.mem_of_getElem? H0.out)]; exact hxm
        obtain ⟨bv, ov, y0, rfl, hcv, Hy⟩ := Ints.get hV0 hn0
        have hin0 : (x : Int) < n0 := by omega
        clear hr h0 h1 h2 hc1 hb2 hBw
        have hbt := World.block_lt_of_cell? _ _ hc0
        have hbv := World.block_lt_of_cell? _ _ hcv
        dsimp only at hbt hbv
        go_wp2
        go_region_held3 (fun w' => w'.cell? ⟨bt, ot, none⟩ = some (.slice (some ⟨bv, ov, none⟩) n0 c0) ∧ w'.cell? ⟨bv, ov + x, none⟩ = some (.int .i64 y0))
          (first | exact ⟨hc0, hcv⟩ | exact ⟨oldc hc0, oldc hcv⟩ | exact ⟨setc (setc (oldc hc0) (Nat.ne_of_lt hbt)) (Nat.ne_of_lt hbt), setc (setc (oldc hcv) (Nat.ne_of_lt hbv)) (Nat.ne_of_lt hbv)⟩)
          (first | fail)
        rename_i hHeld
        clear hHeld
        obtain ⟨Wb, hWb⟩ : ∃ Wb, (wa.alloc (.cells #[.int .i64 y0, .int .i64 y0] 44)).drew = Wb := ⟨_, rfl⟩
        have hgB : Blk Wb wa.heap.size 44 #[.int .i64 y0, .int .i64 y0] := by rw [← hWb]; exact (Blk.new _ _ _ rfl).drew
        have hBb : Below wa.heap.size wa Wb := by rw [← hWb]; exact (bl_alloc (Below.refl _ _) _ (Nat.le_refl _)).drew
        rw [hWb]
        clear hWb hc0 hcv hV0 hbt hbv
        have Hy0 : Hid ((agreeL c).map (fun t => t.getD x 0) = (agreeL c).map (fun t => t.getD x 0) ∧ ((agreeL c).map (fun t => t.getD x 0))[0]? = some y0) := ⟨rfl, by rw [List.getElem?_map, H0.out]; simp only [Option.map_some]; rw [getD_of Hy.out]⟩
        have Hfin : Hid (endsOf ((agreeL c).map fun t => t.getD x 0) = ends y0 y0 ((agreeL c).map fun t => t.getD x 0)) := (endsOf_take Hy0.out.2).symm
        go_wp2
        go_loopw [11] (fun i wr => ∃ (k : Nat) (lo hi : Int), k ≤ nt ∧ i = .int .i64 k ∧ Blk wr wa.heap.size 44 #[.int .i64 lo, .int .i64 hi] ∧ Below wa.heap.size wa wr ∧ Hid ((lo, hi) = ends y0 y0 (((agreeL c).take k).map fun t => t.getD x 0))) (fun i _ => nt - (intOf i).toNat)
        case atStart => exact ⟨0, y0, y0, Nat.zero_le _, rfl, hgB, hBb, rfl⟩
        case round =>
          obtain ⟨k, lo, hi, hk, rfl, hg, hB, Hl⟩ := hrel
          have hg0 := hg.c0
          have hg1 := hg.c1
          have hgf := hg.frozen 0
          have hgf1 := hg.frozen 1
          have hgl := hg.lt
          by_cases hlt : k < nt
          · obtain ⟨b2, o2, t, Av, nv, cv, hAe, hct, hV, Hot⟩ := Rows.get (hT.keep (SlR.good IntR.good) (Keeps.below hB)) hlt
            obtain ⟨rfl, rfl⟩ : bt = b2 ∧ ot = o2 := by injection hAe with hAe; injection hAe with e1 e2; exact ⟨e1, e2⟩
            have hnv : x < nv := by rw [← hV.len, Hlen.out t (List.mem_of_getElem? Hot.out)]; exact hxm
            have hnvi : (x : Int) < nv := by omega
            obtain ⟨b3, o3, y, rfl, hcv, Hy2⟩ := Ints.get hV hnv
            have Hs : Hid (ends y0 y0 (((agreeL c).take (k + 1)).map fun t => t.getD x 0) = (min lo y, max hi y)) := by
              rw [Hid, take_snoc_get Hot.out, List.map_append, List.map_cons, List.map_nil, ends_snoc, ← Hl.out, getD_of Hy2.out]
            go_wp2
            go_still_tail 21, (by kernel_rfl)
            go_wp2
            go_roundw
            case rel => exact ⟨k + 1, _, _, by omega, by go_num, (hg.set2 _ _).drew, (bl_set (bl_set hB (Nat.le_refl _) _) (Nat.le_refl _) _).drew, by rw [Hid, Hs.out, min_if, max_if]⟩
            case measure => simp [intOf]; omega
          · obtain rfl : k = nt := by omega
            have Hall : Hid ((lo, hi) = endsOf ((agreeL c).map fun t => t.getD x 0)) := by rw [Hid, Hl.out, Hfin.out, List.take_of_length_le (by rw [Hnt.out]; exact Nat.le_refl _)]
            have hrr := hrA.bl hB
            have hr0 := hrr.c0
            have hr1 := hrr.c1
            have hrf := hrr.frozen 0
            have hrf1 := hrr.frozen 1
            have hrl := hrr.lt
            go_wp2
            exact bodyPost_ret (ret_span rfl rfl rfl (hrr.set2 _ _).c0 (hrr.set2 _ _).c1) rfl ⟨by rw [HR.out, ← Hall.out], bl_set (bl_set (bl_call hBwa hB (Nat.le_refl _)) (Nat.le_add_right _ _) _) (Nat.le_add_right _ _) _⟩
  · have hbe : ((check c).2.2 != 0) = true := by simpa [err] using he
    have hbe2 : ((check c).2.2 == 0) = false := by simpa [err] using he
    have HR : Hid (amountR c i = ((0, 0), (check c).2.2)) := by
      have := errAt_bad (i := i) (n := c.causes.length) he
      rw [Hid, amountR, this, if_pos he]; rfl
    clear he
    go_enter Tryd.func29, Tryd.ntmps29
    go_wp2_with fail
    refine (check12_any _ ((h.keep (Keeps.alloc _ _)).keep (Keeps.alloc _ _))).mono ?_
    rintro e w1 ⟨rfl, hb1⟩
    have hr : Blk w1 (w.heap.size + 1) 44 #[.int .i64 0, .int .i64 0] := (Blk.new _ _ _ (by simp)).bl hb1
    have hrl := hr.lt
    have hr0 := hr.c0
    have hr1 := hr.c1
    have hrf := hr.frozen 0
    have hrf1 := hr.frozen 1
    have hBw := bl_call (bl_alloc (bl_alloc (Below.refl _ _) _ (Nat.le_refl _)) _ (Nat.le_refl _)) hb1 (Nat.le_refl _)
    clear hb1 h
    go_wp2
    exact bodyPost_ret (ret_span rfl rfl rfl (hr.set2 _ _).c0 (hr.set2 _ _).c1) rfl ⟨by rw [HR.out], bl_set (bl_set hBw (Nat.le_add_right _ _) _) (Nat.le_add_right _ _) _⟩

end Go.Proofs.YtkbpmcpmcmnfgaaDoor
