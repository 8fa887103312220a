/- A part of the proof that TopMeasured always answers true. -/
import Derived.Test.YtcnebekkbfajbaaGreatCCastPlan2
import Derived.Test.YtcnebekkbfajbaaGreatCKOut3
import Derived.Test.YtcnebekkbfajbaaGreatCKRefH
import Derived.Test.YtcnebekkbfajbaaGreatCKSome
set_option linter.all false
namespace Go.Proofs.YtcnebekkbfajbaaGreat
open Go.RowKit Go.Shelf
def IsInts7 (w0 : Nat) (xs : List Int) (e : Ending) (w' : World) : Prop := ∃ (A' : Option Addr) (k c : Nat), e = .returned (.slice A' k c) ∧ Ints (fun k => w0 ≤ k) w' A' k xs
def twosB (s : Shop) (l : List SeenC) (k : Int) (n : Nat) : Bool := (List.range n).all fun m => !(twosC s l m k).isEmpty
theorem twosB_succ (s : Shop) (l : List SeenC) (k : Int) (n : Nat) : twosB s l k (n + 1) = (twosB s l k n && !(twosC s l n k).isEmpty) := by
 unfold twosB; rw [List.range_succ, List.all_append]; simp
theorem twosB_mono {s : Shop} {l : List SeenC} {k : Int} {i j : Nat} (hij : i ≤ j) (h : twosB s l k i = false) : twosB s l k j = false := by
 induction j with
 | zero => rw [Nat.le_zero.1 hij] at h; exact h
 | succ j ih =>
  rcases Nat.lt_or_ge i (j + 1) with h1 | h1
  ·rw [twosB_succ, ih (by omega)]; rfl
  rw [show j + 1 = i by omega]; exact h
def knK (s : Shop) (l : List SeenC) (j : Nat) : List Int := ((List.range j).map fun i : Nat => s.klo + (i : Int)).filter (knownB s l)
theorem knK_len (s : Shop) (l : List SeenC) (j : Nat) : (knK s l j).length ≤ j := by
 unfold knK
 exact Nat.le_trans (List.length_filter_le _ _) (by simp)
theorem knK_succ (s : Shop) (l : List SeenC) (j : Nat) : knK s l (j + 1) = if knownB s l (s.klo + (j : Int)) then knK s l j ++ [s.klo + (j : Int)] else knK s l j := by
 unfold knK
 rw [List.range_succ, List.map_append, List.filter_append]
 split <;> rename_i h <;> simp [h]
theorem infoInt7 : (Tryz.prog.info? 3).map (fun i => (i.zero, i.size, i.bytes)) = some (some (.int .i64 0), 1, 8) := by kernel_rfl
theorem isEmpty_len {α : Type} (L : List α) : (!L.isEmpty) = decide (0 < L.length) := by cases L <;> simp
set_option maxHeartbeats 8000000 in
set_option maxRecDepth 100000 in
theorem rknown7_any {A C : Option Addr} {n ca q cc : Nat} {s : Shop} {l : List SeenC} {klo khi : Int} (w : World) (g : Moulds (fun _ => True) w A n s.moulds) (gs : SeenCs (fun _ => True) w C q l) (h1 : s.klo = klo) (h2 : s.khi = khi)
  (hk : OkS s) (hq6 : l.length ≤ 6) (hsn : ∀ (j : Nat) (y : SeenC), l[j]? = some y → 0 ≤ y.cast ∧ y.cast ≤ 8) :
  Calls Tryz.prog 88 #[.agg #[.int .i64 klo, .int .i64 khi, .slice A n ca], .slice C q cc] w fun e w' => IsInts7 w.heap.size (known7 s l) e w' ∧ Below w.heap.size w w' := by
 obtain ⟨i0, hi0, hz0, hz1, hz2⟩ := info_parts infoInt7
 have Hn := Lib.hid g.len
 have hn4 : n ≤ 4 := by rw [← Hn.out]; exact hk.nm.2
 obtain ⟨hs1, hs2, hs3, hs4⟩ := hk.shrink
 rw [h1] at hs1 hs2 hs3
 rw [h2] at hs2 hs3 hs4
 obtain ⟨kN, hkN⟩ : ∃ kN : Nat, khi + 1 = klo + kN := ⟨(khi + 1 - klo).toNat, by omega⟩
 have hkN7 : kN ≤ 7 := by omega
 have HT : Hid (known7 s l = knK s l kN) := by rw [Hid, known7, shrinkL, knK, h1, h2, show (khi - klo + 1).toNat = kN by omega]
 obtain ⟨W, hW⟩ : ∃ W, w.alloc (.cells #[.int .i64 klo, .int .i64 khi, .slice A n ca] 30) = W := ⟨_, rfl⟩
 have X : Blk W w.heap.size 30 #[.int .i64 klo, .int .i64 khi, .slice A n ca] := by rw [← hW]; exact Blk.new _ _ _ rfl
 have hBW : Below w.heap.size w W := by rw [← hW]; exact bl_alloc (Below.refl _ _) _ (Nat.le_refl _)
 have hWs : w.heap.size ≤ W.heap.size := hBW.size
 have HTW : Hid (∀ (V : World) (m : Nat) (k0 : Int), Below W.heap.size W V → m < n → 0 ≤ k0 → k0 ≤ 100 → Calls Tryz.prog 118 #[.agg #[.int .i64 klo, .int .i64 khi, .slice A n ca], .slice C q cc, .int .i64 m, .int .i64 k0] V fun e w' => IsPairs7 V.heap.size (twosC s l m k0) e w' ∧ Below V.heap.size V w') := fun V m k0 hb hm ha hz =>
  twos7_any V ((g.keep MouldR.good (Keeps.below hBW)).keep MouldR.good (Keeps.below hb)) ((gs.keep SeenCR.good (Keeps.below hBW)).keep SeenCR.good (Keeps.below hb)) hk (by rw [Hn.out]; exact hm) hq6 ⟨ha, hz⟩ hsn
 have HS : Hid (∀ j, knK s l (j + 1) = if knownB s l (klo + (j : Int)) then knK s l j ++ [klo + (j : Int)] else knK s l j) := fun j => by rw [knK_succ, h1]
 have HKB : Hid (∀ k, knownB s l k = twosB s l k n) := fun k => by rw [knownB, Hn.out, twosB]
 have HX := Lib.hid X
 have x0 := X.cell 0
 have x1 := X.cell 1
 have x2 := X.cell 2
 have HW := Lib.hid hW
 clear hW g gs X h1 h2 hk
 go_enter Tryz.func88, Tryz.ntmps88
 go_wp2_with fail
 rw [HW.out]
 go_wp2_with fail
 go_loopw [5, 6] (fun o i wr => ∃ (k len cap : Nat) (An : Option Addr), k ≤ kN ∧ i = .int .i64 (klo + k) ∧ o = .slice An len cap ∧ Below W.heap.size W wr ∧ OwnL IntR 1 (fun _ => False) wr W.heap.size 3 (.slice An len cap) (knK s l k) ∧ Hid ((knK s l k).length = len)) (fun _ i _ => (khi + 1 - intOf i).toNat)
 case atStart => exact ⟨0, 0, 0, none, Nat.zero_le _, by simp, rfl, Below.refl _ _, OwnL.nil _ _ _ _ _ _, rfl⟩
 case round =>
  clear x0 x1 x2
  obtain ⟨i, len, cap, An, hi, rfl, rfl, hB, hO, Hlen⟩ := hrel
  have hX := HX.out.bl hB
  have y0 := hX.cell 0
  have y1 := hX.cell 1
  have y2 := hX.cell 2
  by_cases hlt : i < kN
  ·have hle : klo + (i : Int) ≤ khi := by omega
   go_wp2_with fail
   clear y0 y1 y2 hX
   obtain ⟨Wm, hWm⟩ : ∃ Wm : World, Wm = wr := ⟨_, rfl⟩
   subst hWm
   go_loopw [7, 8] (fun is mv wr => ∃ j : Nat, j ≤ n ∧ mv = .int .i64 j ∧ is = .bool (twosB s l (klo + i) j) ∧ Below Wm.heap.size Wm wr) (fun _ mv _ => n - (intOf mv).toNat)
   case atStart => exact ⟨0, Nat.zero_le _, rfl, rfl, Below.refl _ _⟩
   case round =>
    obtain ⟨j, hj, rfl, rfl, hB2⟩ := hrel
    have hX := HX.out.bl (bl_call hB hB2 (Nat.le_refl _))
    have y0 := hX.cell 0
    have y1 := hX.cell 1
    have y2 := hX.cell 2
    clear hX
    by_cases hst : j < n ∧ twosB s l (klo + i) j = true
    ·obtain ⟨hj2, hb2⟩ := hst
     have hji : (j : Int) < n := by omega
     rw [hb2]
     have HB2 := Lib.hid hb2
     clear hb2
     go_wp2_with fail
     refine (HTW.out _ j (klo + i) (bl_call hB hB2 (Nat.le_refl _)) hj2 (by omega) (by omega)).mono ?_
     rintro e w3 ⟨⟨A3, n3, c3, rfl, hP3⟩, hb3⟩
     have HL3 : Hid (twosB s l (klo + i) (j + 1) = decide (0 < n3)) := by
      rw [Hid, twosB_succ, HB2.out, isEmpty_len, hP3.len]; simp
     clear y0 y1 y2 hP3
     go_wp2_with fail
     go_roundw
     case rel => exact ⟨j + 1, by omega, by go_num, by rw [HL3.out], bl_call hB2 hb3 (Nat.le_refl _)⟩
     case measure => simp [intOf]; omega
    obtain ⟨bv, hbv⟩ : ∃ bv, twosB s l (klo + i) j = bv := ⟨_, rfl⟩
    have HBV : Hid (knownB s l (klo + i) = bv) := by
     rw [Hid, HKB.out, ← hbv]
     rcases Nat.lt_or_ge j n with h4 | h4
     ·have h5 : twosB s l (klo + i) j = false := by cases hh : twosB s l (klo + i) j with
       | false => rfl
       | true => exact absurd ⟨h4, hh⟩ hst
      rw [h5, twosB_mono (Nat.le_of_lt h4) h5]
     rw [show n = j by omega]
    rw [hbv]
    have hBV2 : Below W.heap.size W wr := bl_call hB hB2 (Nat.le_refl _)
    have hO2 := hO.below IntR.good hB2
    have hlen7 : len ≤ 6 := by have := knK_len s l i; rw [Hlen.out] at this; omega
    have HS1 := Lib.hid (HS.out i)
    rw [HBV.out] at HS1
    have hdec : (decide ((j : Int) < n) && bv) = false := by
     rcases Nat.lt_or_ge j n with h4 | h4
     ·have : bv = false := by cases bv with
       | false => rfl
       | true => exact absurd ⟨h4, hbv⟩ hst
      rw [this]; simp
     simp; omega
    clear hst hbv hB2 hB hO
    cases bv with
    | false =>
     by_cases hji : (j : Int) < n
     ·go_wp2_with fail
      go_roundw
      case rel => exact ⟨i + 1, len, cap, An, by omega, by go_num, rfl, hBV2, by rw [HS1.out]; exact hO2, by rw [Hid, HS1.out]; exact Hlen.out⟩
      case measure => simp [intOf]; omega
     ·go_wp2_with fail
      go_roundw
      case rel => exact ⟨i + 1, len, cap, An, by omega, by go_num, rfl, hBV2, by rw [HS1.out]; exact hO2, by rw [Hid, HS1.out]; exact Hlen.out⟩
      case measure => simp [intOf]; omega
    | true =>
     have hji : ¬ (j : Int) < n := by simpa using hdec
     go_wp2_with (at_builtin; refine wpList_append_n _ rfl (.tmp 37) (.tmp 39) _ rfl IntR.good W.heap.size 3 i0 _ 8 Tryz.underlying22 hi0 hz0 hz1 hz2 rfl (by omega) _ (knK s l i) (klo + (i : Int)) len Hlen.out rfl (hO2.alloc IntR.good _) ⟨wr.heap.size, 0, none⟩ 1 [.int .i64 (klo + (i : Int))] rfl rfl (news_new rfl (by simp)) ?c1 ?c2 ?c3 (fun h => h) ?_)
     case c1 => simp only [maxLen]; omega
     case c2 => omega
     case c3 => have := hBV2.size; simp; omega
     intro A' cap' w2 hown2 hg2 hat2
     have hB3 : Below W.heap.size W w2 := bl_grown (bl_alloc hBV2 _ (Nat.le_refl _)) (hO2.alloc IntR.good _) hg2 (Nat.le_refl _) (Nat.le_refl _)
     clear hg2 hat2 hO2
     go_wp2
     go_roundw
     case rel => exact ⟨i + 1, len + 1, cap', _, by omega, by go_num, rfl, hB3, by rw [HS1.out]; exact hown2, by rw [Hid, HS1.out, if_pos trivial, List.length_append, Hlen.out]; rfl⟩
     case measure => simp [intOf]; omega
  obtain rfl : i = kN := by omega
  have hle : ¬ klo + (i : Int) ≤ khi := by omega
  go_wp2_with fail
  go_ret
  refine ⟨⟨An, len, cap, by rfl, ?_⟩, hBW.trans (hB.mono hWs)⟩
  rw [HT.out]
  exact hO.slice IntR.good rfl (by have h1 := knK_len s l i; rw [Hlen.out] at h1; simp only [maxLen]; omega) (fun _ h => h.elim) (fun _ h _ => Nat.le_trans hWs h)
open Go.RowKit Go.Shelf
theorem seen7_all {s : Shop} {l : List SeenC} (e : (seen7 s l).2 = 0) : OkS s ∧ l.length ≤ 6 ∧ ∀ (j : Nat) (y : SeenC), l[j]? = some y → 0 ≤ y.cast ∧ y.cast ≤ 8 := by
 obtain ⟨h1, h2, h3⟩ := seen7_zero e
 have hk := okS_of h1
 refine ⟨hk, h2, fun j y hj => ?_⟩
 obtain ⟨h4, h5, _⟩ := seen7_one hj (h3 j (of_getq hj))
 have h6 : y.mould.toNat < s.moulds.length := by omega
 have := (castsN_bd hk h6)
 omega
set_option maxRecDepth 100000 in
set_option maxHeartbeats 2000000 in
theorem ragree7_any {A C : Option Addr} {n ca q cc : Nat} {s : Shop} {l : List SeenC} {klo khi : Int} (e0 : Int) (w : World) (g : Moulds (fun _ => True) w A n s.moulds) (gs : SeenCs (fun _ => True) w C q l) (h1 : s.klo = klo) (h2 : s.khi = khi)
  (hok : e0 = 0 → (seen7 s l).2 = 0) :
  Calls Tryz.prog 56 #[.agg #[.int .i64 klo, .int .i64 khi, .slice A n ca], .slice C q cc, .int .i64 e0] w fun e w' => e = .returned (.int .i64 (agreeE7 s l e0)) ∧ Below w.heap.size w w' := by
 obtain ⟨W, hW⟩ : ∃ W, w.alloc (.cells #[.int .i64 klo, .int .i64 khi, .slice A n ca] 30) = W := ⟨_, rfl⟩
 have X : Blk W w.heap.size 30 #[.int .i64 klo, .int .i64 khi, .slice A n ca] := by rw [← hW]; exact Blk.new _ _ _ rfl
 have hBW : Below w.heap.size w W := by rw [← hW]; exact bl_alloc (Below.refl _ _) _ (Nat.le_refl _)
 have hc : Moulds (fun _ => True) W A n s.moulds := g.keep MouldR.good (Keeps.below hBW)
 have hs : SeenCs (fun _ => True) W C q l := gs.keep SeenCR.good (Keeps.below hBW)
 have x0 := X.cell 0
 have x1 := X.cell 1
 have x2 := X.cell 2
 have xl := X.lt
 have HW := Lib.hid hW
 clear hW g gs X
 go_enter Tryz.func56, Tryz.ntmps56
 by_cases he : e0 = 0
 ·obtain ⟨hk, hq6, hsn⟩ := seen7_all (hok he)
  subst he
  go_wp2_with fail
  rw [HW.out]
  go_wp2_with fail
  refine (rknown7_any W hc hs h1 h2 hk hq6 hsn).mono ?_
  rintro e V ⟨⟨A1, kn, kc, rfl, hKs⟩, b1⟩
  have B1 := bl_call hBW b1 (Nat.le_refl _)
  by_cases hz : kn = 0
  ·have HR : Hid (agreeE7 s l 0 = 9) := by
    have h0 : known7 s l = [] := List.length_eq_zero_iff.1 (by rw [hKs.len]; exact hz)
    rw [Hid, agreeE7, if_pos ⟨rfl, h0⟩]
   subst hz
   clear x0 x1 x2 xl hc hs hKs b1 hok
   go_wp2_with fail
   go_ret
   exact ⟨by rw [HR.out]; rfl, B1⟩
  have HR : Hid (agreeE7 s l 0 = 0) := by
   have h0 : known7 s l ≠ [] := fun h => by have := hKs.len; rw [h] at this; simp at this; omega
   rw [Hid, agreeE7, if_neg (by simp [h0])]
  have hzb : ((kn : Int) == 0) = false := by simp; omega
  clear x0 x1 x2 xl hc hs hKs b1 hok
  go_wp2_with fail
  go_ret
  exact ⟨by rw [HR.out]; rfl, B1⟩
 have heb : (e0 == 0) = false := by simpa using he
 have HR : Hid (agreeE7 s l e0 = e0) := by rw [Hid, agreeE7, if_neg (by simp [he])]
 clear hok he
 go_wp2_with fail
 rw [HW.out]
 go_ret
 exact ⟨by rw [HR.out]; rfl, hBW⟩
open Go.RowKit Go.Shelf
def spanE7 (p : List (Int × Int)) (k : Nat) : Int := rangeE ⟨(p.getD k (0, 0)).1, (p.getD k (0, 0)).2⟩ 0 20000
def ord0 (s : Shop) (l : List SeenC) (p : List (Int × Int)) : Int :=
 if (seen7 s l).2 ≠ 0 then (seen7 s l).2 else if ¬ (1 ≤ p.length ∧ p.length ≤ 6) then 3 else
 match firstErr (spanE7 p) p.length with
 | some (_, e) => e
 | none => 0
theorem ord0_bad {s : Shop} {l : List SeenC} {p : List (Int × Int)} (e : (seen7 s l).2 ≠ 0) : ord0 s l p = (seen7 s l).2 := by rw [ord0, if_pos e]
theorem ord0_long {s : Shop} {l : List SeenC} {p : List (Int × Int)} (e : (seen7 s l).2 = 0) (h : ¬ (1 ≤ p.length ∧ p.length ≤ 6)) : ord0 s l p = 3 := by rw [ord0, if_neg (by simp [e]), if_pos h]
theorem ord0_n {s : Shop} {l : List SeenC} {p : List (Int × Int)} (e : (seen7 s l).2 = 0) (h : 1 ≤ p.length ∧ p.length ≤ 6) : ord0 s l p = match firstErr (spanE7 p) p.length with
  | some (_, e) => e
  | none => 0 := by rw [ord0, if_neg (by simp [e]), if_neg (by simp [h])]
theorem ord0_err {s : Shop} {l : List SeenC} {p : List (Int × Int)} {k : Nat} (e : (seen7 s l).2 = 0) (h : 1 ≤ p.length ∧ p.length ≤ 6) (hk : k < p.length) (hz : ∀ j, j < k → spanE7 p j = 0) (hne : spanE7 p k ≠ 0) : ord0 s l p = spanE7 p k := by
 rw [ord0_n e h, firstErr_some hk hz hne]
theorem ord0_ok {s : Shop} {l : List SeenC} {p : List (Int × Int)} (e : (seen7 s l).2 = 0) (h : 1 ≤ p.length ∧ p.length ≤ 6) (hz : ∀ j, j < p.length → spanE7 p j = 0) : ord0 s l p = 0 := by
 rw [ord0_n e h, firstErr_none hz]
theorem orderE_eq (s : Shop) (l : List SeenC) (p : List (Int × Int)) : orderE s l p = agreeE7 s l (ord0 s l p) := by
 by_cases e : (seen7 s l).2 = 0
 ·by_cases h : 1 ≤ p.length ∧ p.length ≤ 6
  ·unfold orderE
   rw [if_neg (by simp [e]), if_neg (by simp [h])]
   rw [ord0_n e h]
   show (match firstErr (spanE7 p) p.length with | some (_, e) => e | none => if known7 s l = [] then 9 else 0) = _
   rcases firstErr_cases (spanE7 p) p.length with ⟨h4, h5⟩ | ⟨k, _, h4, h5, _⟩
   ·rw [h4]
    unfold agreeE7
    by_cases hk : known7 s l = []
    ·simp [hk]
    simp [hk]
   rw [h4]
   dsimp only
   unfold agreeE7
   rw [if_neg (fun hh => h5 hh.1)]
  unfold orderE
  rw [if_neg (by simp [e]), if_pos h, ord0_long e h]
  unfold agreeE7
  rw [if_neg (by simp)]
 unfold orderE
 rw [if_pos e, ord0_bad e]
 unfold agreeE7
 rw [if_neg (by simp [e])]
set_option maxRecDepth 100000 in
set_option maxHeartbeats 4000000 in
theorem rorder7_any {A C P : Option Addr} {n ca q cc m pc : Nat} {s : Shop} {l : List SeenC} {p : List (Int × Int)} {klo khi : Int} (w : World) (g : Moulds (fun _ => True) w A n s.moulds) (gs : SeenCs (fun _ => True) w C q l) (gp : Pairs (fun _ => True) w P m p) (h1 : s.klo = klo) (h2 : s.khi = khi) :
  Calls Tryz.prog 14 #[.agg #[.int .i64 klo, .int .i64 khi, .slice A n ca], .slice C q cc, .slice P m pc] w fun e w' => e = .returned (.int .i64 (orderE s l p)) ∧ Below w.heap.size w w' := by
 have hml := gp.le
 have Hm := Lib.hid gp.len
 obtain ⟨W, hW⟩ : ∃ W, w.alloc (.cells #[.int .i64 klo, .int .i64 khi, .slice A n ca] 30) = W := ⟨_, rfl⟩
 have X : Blk W w.heap.size 30 #[.int .i64 klo, .int .i64 khi, .slice A n ca] := by rw [← hW]; exact Blk.new _ _ _ rfl
 have hBW : Below w.heap.size w W := by rw [← hW]; exact bl_alloc (Below.refl _ _) _ (Nat.le_refl _)
 have hWs := hBW.size
 have HC : Hid (∀ V, Below W.heap.size W V → Moulds (fun _ => True) V A n s.moulds) := fun V hb => (g.keep MouldR.good (Keeps.below hBW)).keep MouldR.good (Keeps.below hb)
 have HS : Hid (∀ V, Below W.heap.size W V → SeenCs (fun _ => True) V C q l) := fun V hb => (gs.keep SeenCR.good (Keeps.below hBW)).keep SeenCR.good (Keeps.below hb)
 have HP : Hid (∀ V, Below W.heap.size W V → Pairs (fun _ => True) V P m p) := fun V hb => (gp.keep PairR.good (Keeps.below hBW)).keep PairR.good (Keeps.below hb)
 have kk : Hid (∀ V, Below W.heap.size W V → V.cell? ⟨w.heap.size, 0, none⟩ = some (.int .i64 klo) ∧ V.cell? ⟨w.heap.size, 1, none⟩ = some (.int .i64 khi) ∧ V.cell? ⟨w.heap.size, 2, none⟩ = some (.slice A n ca)) := fun V hb => ⟨(X.bl hb).cell 0, (X.bl hb).cell 1, (X.bl hb).cell 2⟩
 clear X g gs gp
 obtain ⟨x0, x1, x2⟩ := kk.out W (Below.refl _ _)
 obtain ⟨F, hF⟩ : ∃ F, ord0 s l p = F := ⟨_, rfl⟩
 have HF := Lib.hid hF
 clear hF
 go_enter Tryz.func14, Tryz.ntmps14
 go_wp2_with fail
 clear hW x0 x1 x2
 refine (rseen7_any W (HC.out W (Below.refl _ _)) (HS.out W (Below.refl _ _)) h1 h2).mono ?_
 rintro e W1 ⟨rfl, b1⟩
 obtain ⟨es, hes⟩ : ∃ es, (seen7 s l).2 = es := ⟨_, rfl⟩
 obtain ⟨ei, hei⟩ : ∃ ei, (seen7 s l).1 = ei := ⟨_, rfl⟩
 rw [hes, hei]
 have HES := Lib.hid hes
 clear hei hes
 have HEND : Hid (∀ V, Below W.heap.size W V → Calls Tryz.prog 56 #[.agg #[.int .i64 klo, .int .i64 khi, .slice A n ca], .slice C q cc, .int .i64 F] V fun e w' => e = .returned (.int .i64 (orderE s l p)) ∧ Below V.heap.size V w') := fun V hb => by
  have := ragree7_any (ca := ca) (cc := cc) F V (HC.out V hb) (HS.out V hb) h1 h2 (fun h => by
   by_cases e : (seen7 s l).2 = 0
   ·exact e
   rw [← HF.out, ord0_bad e] at h; exact h)
  rw [← HF.out, ← orderE_eq] at this
  rw [← HF.out]
  exact this
 by_cases he : es = 0
 ·subst he
  by_cases hm6 : 1 ≤ m ∧ m ≤ 6
  ·have hin : inB (m : Int) 1 6 = true := by simp only [inB, Bool.and_eq_true, decide_eq_true_eq]; omega
   have hm6' : 1 ≤ p.length ∧ p.length ≤ 6 := by rw [Hm.out]; exact hm6
   go_wp2_with fail
   refine (in7_any (m : Int) 1 6 W1).mono ?_
   rintro e W1' ⟨rfl, rfl⟩
   rw [hin]
   have HB1 := Lib.hid b1
   clear b1 hin
   go_wp2_with fail
   go_loopw [8, 9] (fun e i wr => ∃ (k : Nat) (ev : Int), k ≤ m ∧ i = .int .i64 k ∧ e = .int .i64 ev ∧ Hid (Below W.heap.size W wr) ∧ Hid ((ev = 0 ∧ ∀ j, j < k → spanE7 p j = 0) ∨ (ev ≠ 0 ∧ F = ev))) (fun _ i _ => m - (intOf i).toNat)
   case atStart => exact ⟨0, 0, Nat.zero_le _, rfl, rfl, HB1.out, .inl ⟨rfl, fun j hj => by omega⟩⟩
   case round =>
    obtain ⟨k, ev, hk, rfl, rfl, HB, HR⟩ := hrel
    by_cases hst : k < m ∧ ev = 0
    ·obtain ⟨hlt, hev⟩ := hst
     subst hev
     have hki : (k : Int) < m := by omega
     obtain ⟨b, off, a, z, rfl, hbb, hc0, hc1, Hx⟩ := Pairs.get (HP.out wr HB.out) hlt
     have HZ : Hid (∀ j, j < k → spanE7 p j = 0) := by
      rcases HR.out with h | h
      ·exact h.2
      exact absurd rfl h.1
     have HE : Hid (spanE7 p k = rangeE ⟨a, z⟩ 0 20000) := by rw [Hid, spanE7, getD_of Hx.out]
     clear hbb
     go_wp2_with fail
     refine (range_any a z 0 20000 wr).mono ?_
     rintro e V ⟨rfl, hb⟩
     have HB2 : Hid (Below W.heap.size W V) := bl_call HB.out hb (Nat.le_refl _)
     obtain ⟨er, her⟩ : ∃ x, rangeE ⟨a, z⟩ 0 20000 = x := ⟨_, rfl⟩
     rw [her] at HE
     rw [her]
     have HR2 : Hid ((er = 0 ∧ ∀ j, j < k + 1 → spanE7 p j = 0) ∨ (er ≠ 0 ∧ F = er)) := by
      by_cases h0 : er = 0
      ·exact .inl ⟨h0, upto7 HZ.out (HE.out.trans h0)⟩
      exact .inr ⟨h0, by rw [← HF.out, ord0_err HES.out hm6' (k := k) (by rw [Hm.out]; exact hlt) HZ.out (by rw [HE.out]; exact h0), HE.out]⟩
     clear her hc0 hc1 hb
     go_wp2_with fail
     go_roundw
     case rel => exact ⟨k + 1, er, by omega, by go_num, rfl, HB2.out, HR2.out⟩
     case measure => simp [intOf]; omega
    have HFE : Hid (F = ev) := by
     rcases HR.out with h | h
     ·have : k = m := by
       by_cases h9 : k < m
       ·exact absurd ⟨h9, h.1⟩ hst
       omega
      subst this
      rw [Hid, h.1, ← HF.out, ord0_ok HES.out hm6' (by rw [Hm.out]; exact h.2)]
     exact h.2
    have hcall := HEND.out wr HB.out
    rw [HFE.out] at hcall
    obtain ⟨x0, x1, x2⟩ := kk.out wr HB.out
    have hBl : Hid (Below w.heap.size w wr) := hBW.trans (HB.out.mono hWs)
    have hdec : ((decide ((k : Int) < m)) && (ev == 0)) = false := by
     by_cases h9 : k < m
     ·have : ev ≠ 0 := fun h => hst ⟨h9, h⟩
      simp [this]
     simp; omega
    by_cases h9 : (k : Int) < m
    ·have h8 : (ev == 0) = false := by simpa [h9] using hdec
     clear hst hdec
     go_wp2_with fail
     refine hcall.mono ?_
     rintro e V ⟨rfl, hb⟩
     clear x0 x1 x2 hcall
     have B := bl_call hBl.out hb (Nat.le_refl _)
     go_wp2_with fail
     go_ret
     exact ⟨by rfl, B⟩
    clear hst hdec
    go_wp2_with fail
    refine hcall.mono ?_
    rintro e V ⟨rfl, hb⟩
    clear x0 x1 x2 hcall
    have B := bl_call hBl.out hb (Nat.le_refl _)
    go_wp2_with fail
    go_ret
    exact ⟨by rfl, B⟩
  have hin : inB (m : Int) 1 6 = false := by
   rw [← Bool.not_eq_true]
   simp only [inB, Bool.and_eq_true, decide_eq_true_eq]; omega
  have HF3 : Hid (F = 3) := by rw [Hid, ← HF.out, ord0_long HES.out (by rw [Hm.out]; exact hm6)]
  rw [HF3.out] at HEND
  go_wp2_with fail
  refine (in7_any (m : Int) 1 6 W1).mono ?_
  rintro e W1' ⟨rfl, rfl⟩
  rw [hin]
  have HB1 := Lib.hid b1
  have hBl : Hid (Below w.heap.size w W1) := hBW.trans (b1.mono hWs)
  clear b1 hin hm6
  go_wp2_with fail
  go_loopw [8, 9] (fun e i wr => e = .int .i64 3 ∧ i = .int .i64 0 ∧ wr = W1) (fun _ _ _ => 0)
  case atStart => exact ⟨rfl, rfl, rfl⟩
  case round =>
   obtain ⟨rfl, rfl, rfl⟩ := hrel
   have hcall := HEND.out wr HB1.out
   obtain ⟨x0, x1, x2⟩ := kk.out wr HB1.out
   rcases Nat.eq_zero_or_pos m with h0 | h0
   ·subst h0
    go_wp2_with fail
    refine hcall.mono ?_
    rintro e V ⟨rfl, hb⟩
    clear x0 x1 x2 hcall
    have B := bl_call hBl.out hb (Nat.le_refl _)
    go_wp2_with fail
    go_ret
    exact ⟨by rfl, B⟩
   go_wp2_with fail
   refine hcall.mono ?_
   rintro e V ⟨rfl, hb⟩
   clear x0 x1 x2 hcall
   have B := bl_call hBl.out hb (Nat.le_refl _)
   go_wp2_with fail
   go_ret
   exact ⟨by rfl, B⟩
 have heb : (es == 0) = false := by simpa using he
 have HF3 : Hid (F = es) := by rw [Hid, ← HF.out, ord0_bad (by rw [HES.out]; exact he), HES.out]
 rw [HF3.out] at HEND
 have HB1 := Lib.hid b1
 have hBl : Hid (Below w.heap.size w W1) := hBW.trans (b1.mono hWs)
 clear b1 he
 go_wp2_with fail
 go_loopw [8, 9] (fun e i wr => e = .int .i64 es ∧ i = .int .i64 0 ∧ wr = W1) (fun _ _ _ => 0)
 case atStart => exact ⟨rfl, rfl, rfl⟩
 case round =>
  obtain ⟨rfl, rfl, rfl⟩ := hrel
  have hcall := HEND.out wr HB1.out
  obtain ⟨x0, x1, x2⟩ := kk.out wr HB1.out
  rcases Nat.eq_zero_or_pos m with h0 | h0
  ·subst h0
   go_wp2_with fail
   refine hcall.mono ?_
   rintro e V ⟨rfl, hb⟩
   clear x0 x1 x2 hcall
   have B := bl_call hBl.out hb (Nat.le_refl _)
   go_wp2_with fail
   go_ret
   exact ⟨by rfl, B⟩
  go_wp2_with fail
  refine hcall.mono ?_
  rintro e V ⟨rfl, hb⟩
  clear x0 x1 x2 hcall
  have B := bl_call hBl.out hb (Nat.le_refl _)
  go_wp2_with fail
  go_ret
  exact ⟨by rfl, B⟩
theorem hF8 : 32 + univ8.length * (32 + 1) ≤ seekF := by rw [univ8_len]; unfold seekF; omega
def CanS (o : List (List Pl)) (set : List Int) : Prop := CanP o (fun a => hasN set a.1) (fun _ => true) [] o.length
theorem test_iff {o : List (List Pl)} {set : List Int} {univ : List Pl} {L : Nat} (hu : ∀ j, (o.getD j []).length ≤ L ∧ ∀ a ∈ o.getD j [], a ∈ univ) (hF : L + univ.length * (L + 1) ≤ seekF) : (!decide (giveR o (fun a => hasN set a.1) (fun _ => true) [] < o.length)) = true ↔ CanS o set := by
 have h1 := can_iff (ok := fun a => hasN set a.1) (is := fun _ => true) (fixed := []) hu hF
 rw [count_all] at h1
 have h2 := give_le o (fun a => hasN set a.1) (fun _ => true) [] o.length
 rw [count_all] at h2
 unfold CanS
 rw [← h1]
 unfold giveR at *
 simp only [Bool.not_eq_true', decide_eq_false_iff_not]
 omega
theorem allL_len (s : Shop) (l : List SeenC) (p : List (Int × Int)) : (allL s l p).length = p.length := by simp [allL]
theorem plan_cases {s : Shop} {l : List SeenC} {p : List (Int × Int)} (h0 : orderE s l p = 0) :
  (∃ A set B, setsL s.moulds.length = A ++ set :: B ∧ (∀ t ∈ A, ¬ CanS (allL s l p) t) ∧ CanS (allL s l p) set ∧ planR s l p = (planK (allL s l p) set p.length, set, 0)) ∨
  ((∀ t ∈ setsL s.moulds.length, ¬ CanS (allL s l p) t) ∧ planR s l p = ([], [], 8)) := by
 obtain ⟨hok, hk, _, _⟩ := order_zero h0
 have hT := fun set => test_iff (set := set) (fun j => all_hu (p := p) hok hk j) hF8
 rw [allL_len] at hT
 unfold planR
 rw [if_neg (by simp [h0])]
 cases hf : (setsL s.moulds.length).find? fun set => !decide (giveR (allL s l p) (fun a => hasN set a.1) (fun _ => true) [] < p.length) with
 | none =>
  right
  rw [List.find?_eq_none] at hf
  exact ⟨fun t ht hc => hf t ht ((hT t).2 hc), rfl⟩
 | some set =>
  left
  obtain ⟨h1, A, B, h2, h3⟩ := List.find?_eq_some_iff_append.1 hf
  refine ⟨A, set, B, h2, fun t ht hc => ?_, (hT set).1 h1, rfl⟩
  have := h3 t ht
  rw [(hT t).2 hc] at this
  cases this
structure Truth7 (s : Shop) (k : Int) (tw : List (Int × Int)) : Prop where
 shrink : s.klo ≤ k ∧ k ≤ s.khi
 len : tw.length = s.moulds.length
 two : ∀ m, m < s.moulds.length → InM (s.moulds.getD m dMould) (tw.getD m (0, 0))
theorem mould_bd {s : Shop} (hk : OkS s) {m : Nat} (hm : m < s.moulds.length) : (1 ≤ (s.moulds.getD m dMould).slo ∧ (s.moulds.getD m dMould).slo ≤ (s.moulds.getD m dMould).shi ∧ (s.moulds.getD m dMould).shi ≤ 20000) ∧ (0 ≤ (s.moulds.getD m dMould).wlo ∧ (s.moulds.getD m dMould).wlo ≤ (s.moulds.getD m dMould).whi ∧ (s.moulds.getD m dMould).whi ≤ 20) ∧ 1 ≤ (s.moulds.getD m dMould).casts ∧ (s.moulds.getD m dMould).casts ≤ 8 := by
 have hx : s.moulds[m]? = some s.moulds[m] := List.getElem?_eq_getElem hm
 have hz := mouldE_zero hx (hk.mould hm)
 rw [getD_of hx]
 omega
theorem any_truth {s : Shop} (hk : OkS s) (xs : List Nat) : Truth7 s (anyS7 s xs) (anyT7 s xs) where
 shrink := amongC_bd hk.shrink.2.1
 len := anyK7_len _ _ _
 two := fun m hm => by
  have e : (anyT7 s xs).getD m (0, 0) = anyTwo7 (s.moulds.getD m dMould) xs m := by
   unfold anyT7 anyK7
   rw [List.getD_eq_getElem?_getD, List.getElem?_map, List.getElem?_range hm]
   rfl
  rw [e]
  obtain ⟨h1, h2, _⟩ := mould_bd hk hm
  have a1 := amongC_bd (n := turnL xs (2 * m + 1)) h1.2.1
  have a2 := amongC_bd (n := turnL xs (2 * m + 2)) h2.2.1
  exact ⟨a1.1, a1.2, a2.1, a2.2⟩
theorem truth_bd {s : Shop} {k : Int} {tw : List (Int × Int)} (hk : OkS s) (ht : Truth7 s k tw) : ∀ p ∈ tw, (1 ≤ p.1 ∧ p.1 ≤ 20000) ∧ 0 ≤ p.2 ∧ p.2 ≤ 20 := by
 intro p hp
 obtain ⟨m, hm, rfl⟩ := List.getElem_of_mem hp
 have hm2 : m < s.moulds.length := by rw [← ht.len]; exact hm
 have h := ht.two m hm2
 rw [getD_of (List.getElem?_eq_getElem hm)] at h
 obtain ⟨h1, h2, h3, h4⟩ := h
 obtain ⟨b1, b2, _⟩ := mould_bd hk hm2
 omega
theorem truth_k {s : Shop} {k : Int} {tw : List (Int × Int)} (hk : OkS s) (ht : Truth7 s k tw) : 0 ≤ k ∧ k ≤ 100 := by
 have := hk.shrink
 have := ht.shrink
 omega
def SeenIn (s : Shop) (k : Int) (tw : List (Int × Int)) (y : SeenC) : Prop := ∃ m c : Nat, y.mould = m ∧ y.cast = c ∧ m < s.moulds.length ∧ c < castsN s m ∧ 0 ≤ y.lo ∧ y.lo ≤ madeT k tw m c ∧ madeT k tw m c ≤ y.hi ∧ y.hi ≤ 20000
theorem madeT_bd {s : Shop} {k : Int} {tw : List (Int × Int)} (hk : OkS s) (ht : Truth7 s k tw) {m c : Nat} (hm : m < s.moulds.length) (hc : c ≤ 8) : 1 ≤ madeT k tw m c ∧ madeT k tw m c ≤ 20160 := by
 have h := ht.two m hm
 obtain ⟨h1, h2, h3, h4⟩ := h
 obtain ⟨b1, b2, _⟩ := mould_bd hk hm
 have := made7_bd (a := (tw.getD m (0, 0)).1) (w := (tw.getD m (0, 0)).2) (k := k) (c := (c : Int)) (by omega) (by omega) (by omega) (truth_k hk ht)
 exact this.2.2.2.2
theorem told_seen {s : Shop} {k : Int} {tw : List (Int × Int)} (hk : OkS s) (ht : Truth7 s k tw) (xs : List Nat) : ∀ r, ∀ y ∈ toldK7 s k tw xs r, SeenIn s k tw y
 | 0 => fun y hy => by simp [toldK7] at hy
 | r + 1 => fun y hy => by
  have ih := told_seen hk ht xs r
  unfold toldK7 at hy
  split at hy
  ·split at hy
   ·rename_i h20
    rcases List.mem_append.1 hy with hy | hy
    ·exact ih y hy
    rw [List.mem_singleton] at hy
    subst hy
    have hm : toldI s xs r < s.moulds.length := Nat.mod_lt _ (by have := hk.nm; omega)
    have hcs := castsN_bd hk hm
    have hc : toldC s xs r < castsN s (toldI s xs r) := Nat.mod_lt _ (by omega)
    have hb := madeT_bd hk ht hm (c := toldC s xs r) (by omega)
    have hM : toldM s k tw xs r = madeT k tw (toldI s xs r) (toldC s xs r) := rfl
    refine ⟨toldI s xs r, toldC s xs r, rfl, rfl, hm, hc, ?_⟩
    unfold toldOne
    dsimp only
    rw [hM] at h20 ⊢
    generalize madeT k tw (toldI s xs r) (toldC s xs r) = n at *
    omega
   exact ih y hy
  exact ih y hy
theorem toldL_seen {s : Shop} {k : Int} {tw : List (Int × Int)} (hk : OkS s) (ht : Truth7 s k tw) (xs : List Nat) : ∀ y ∈ toldL7 s k tw xs, SeenIn s k tw y := told_seen hk ht xs _
theorem truth_ok {s : Shop} {l : List SeenC} {k : Int} {tw : List (Int × Int)} (h : ∀ y ∈ l, SeenIn s k tw y) (m : Nat) : twoOk7 l m k (tw.getD m (0, 0)).1 (tw.getD m (0, 0)).2 = true := by
 rw [twoOk_iff]
 intro y hy e
 obtain ⟨m', c, e1, e2, h1, h2, h3, h4, h5, h6⟩ := h y hy
 obtain rfl : m' = m := by omega
 rw [e2]
 exact ⟨h4, h5⟩
theorem truth_two {s : Shop} {l : List SeenC} {k : Int} {tw : List (Int × Int)} (hk : OkS s) (ht : Truth7 s k tw) (h : ∀ y ∈ l, SeenIn s k tw y) {m : Nat} (hm : m < s.moulds.length) : tw.getD m (0, 0) ∈ twosC s l m k :=
 (twos_mem hk hm).2 ⟨ht.two m hm, truth_ok h m⟩
theorem truth_known {s : Shop} {l : List SeenC} {k : Int} {tw : List (Int × Int)} (hk : OkS s) (ht : Truth7 s k tw) (h : ∀ y ∈ l, SeenIn s k tw y) : k ∈ known7 s l :=
 known_iff.2 ⟨ht.shrink, fun m hm => ⟨_, truth_two hk ht h hm⟩⟩
theorem truth_size {s : Shop} {l : List SeenC} {k : Int} {tw : List (Int × Int)} (hk : OkS s) (ht : Truth7 s k tw) (h : ∀ y ∈ l, SeenIn s k tw y) {m : Nat} (hm : m < s.moulds.length) (c : Nat) : (size7 s l m c).1 ≤ madeT k tw m c ∧ madeT k tw m c ≤ (size7 s l m c).2 :=
 (size_at hm (List.ne_nil_of_mem (truth_known hk ht h))).2.2 _ (made_mem.2 ⟨k, truth_known hk ht h, _, truth_two hk ht h hm, rfl⟩)
end Go.Proofs.YtcnebekkbfajbaaGreat
