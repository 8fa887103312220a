/- Walks, layer 7, the reference: Known. -/
import Derived.Test.YtpdldmichpmgmaaGreatCKRefH
set_option linter.unusedVariables false
set_option linter.unusedSimpArgs false
set_option linter.all false
namespace Go.Proofs.YtpdldmichpmgmaaGreat
open Go.RowKit Go.Shelf

def IsInts7 (w0 : Nat) (xs : List Int) (e : Ending) (w' : World) : Prop := ∃ (A' : Option Addr) (k c : Nat), e = .returned (.slice A' k c) ∧ Ints (fun k => w0 ≤ k) w' A' k xs
def twosB (s : Shop) (l : List SeenC) (k : Int) (n : Nat) : Bool := (List.range n).all fun m => !(twosC s l m k).isEmpty
theorem twosB_succ (s : Shop) (l : List SeenC) (k : Int) (n : Nat) : twosB s l k (n + 1) = (twosB s l k n && !(twosC s l n k).isEmpty) := by
  unfold twosB; rw [List.range_succ, List.all_append]; simp
theorem twosB_mono {s : Shop} {l : List SeenC} {k : Int} {i j : Nat} (hij : i ≤ j) (h : twosB s l k i = false) : twosB s l k j = false := by
  induction j with
  | zero => rw [Nat.le_zero.1 hij] at h; exact h
  | succ j ih =>
    rcases Nat.lt_or_ge i (j + 1) with h1 | h1
    · rw [twosB_succ, ih (by omega)]; rfl
    · rw [show j + 1 = i by omega]; exact h
def knK (s : Shop) (l : List SeenC) (j : Nat) : List Int := ((List.range j).map fun i : Nat => s.klo + (i : Int)).filter (knownB s l)
theorem knK_len (s : Shop) (l : List SeenC) (j : Nat) : (knK s l j).length ≤ j := by
  unfold knK
  exact Nat.le_trans (List.length_filter_le _ _) (by simp)
theorem knK_succ (s : Shop) (l : List SeenC) (j : Nat) : knK s l (j + 1) = if knownB s l (s.klo + (j : Int)) then knK s l j ++ [s.klo + (j : Int)] else knK s l j := by
  unfold knK
  rw [List.range_succ, List.map_append, List.filter_append]
  split <;> rename_i h <;> simp [h]
theorem infoInt7 : (Tryz.prog.info? 3).map (fun i => (i.zero, i.size, i.bytes)) = some (some (.int .i64 0), 1, 8) := by kernel_rfl
theorem isEmpty_len {α : Type} (L : List α) : (!L.isEmpty) = decide (0 < L.length) := by cases L <;> simp

set_option maxHeartbeats 8000000 in
set_option maxRecDepth 100000 in
theorem rknown7_any {A C : Option Addr} {n ca q cc : Nat} {s : Shop} {l : List SeenC} {klo khi : Int} (w : World) (g : Moulds (fun _ => True) w A n s.moulds) (gs : SeenCs (fun _ => True) w C q l) (h1 : s.klo = klo) (h2 : s.khi = khi)
    (hk : OkS s) (hq6 : l.length ≤ 6) (hsn : ∀ (j : Nat) (y : SeenC), l[j]? = some y → 0 ≤ y.cast ∧ y.cast ≤ 8) :
    Calls Tryz.prog 72 #[.agg #[.int .i64 klo, .int .i64 khi, .slice A n ca], .slice C q cc] w fun e w' => IsInts7 w.heap.size (known7 s l) e w' ∧ Below w.heap.size w w' := by
  obtain ⟨i0, hi0, hz0, hz1, hz2⟩ := info_parts infoInt7
  have Hn := Lib.hid g.len
  have hn4 : n ≤ 4 := by rw [← Hn.out]; exact hk.nm.2
  obtain ⟨hs1, hs2, hs3, hs4⟩ := hk.shrink
  rw [h1] at hs1 hs2 hs3
  rw [h2] at hs2 hs3 hs4
  obtain ⟨kN, hkN⟩ : ∃ kN : Nat, khi + 1 = klo + kN := ⟨(khi + 1 - klo).toNat, by omega⟩
  have hkN7 : kN ≤ 7 := by omega
  have HT : Hid (known7 s l = knK s l kN) := by rw [Hid, known7, shrinkL, knK, h1, h2, show (khi - klo + 1).toNat = kN by omega]
  obtain ⟨W, hW⟩ : ∃ W, w.alloc (.cells #[.int .i64 klo, .int .i64 khi, .slice A n ca] 26) = W := ⟨_, rfl⟩
  have X : Blk W w.heap.size 26 #[.int .i64 klo, .int .i64 khi, .slice A n ca] := by rw [← hW]; exact Blk.new _ _ _ rfl
  have hBW : Below w.heap.size w W := by rw [← hW]; exact bl_alloc (Below.refl _ _) _ (Nat.le_refl _)
  have hWs : w.heap.size ≤ W.heap.size := hBW.size
  have HTW : Hid (∀ (V : World) (m : Nat) (k0 : Int), Below W.heap.size W V → m < n → 0 ≤ k0 → k0 ≤ 100 → Calls Tryz.prog 87 #[.agg #[.int .i64 klo, .int .i64 khi, .slice A n ca], .slice C q cc, .int .i64 m, .int .i64 k0] V fun e w' => IsPairs7 V.heap.size (twosC s l m k0) e w' ∧ Below V.heap.size V w') := fun V m k0 hb hm ha hz =>
    twos7_any V ((g.keep MouldR.good (Keeps.below hBW)).keep MouldR.good (Keeps.below hb)) ((gs.keep SeenCR.good (Keeps.below hBW)).keep SeenCR.good (Keeps.below hb)) hk (by rw [Hn.out]; exact hm) hq6 ⟨ha, hz⟩ hsn
  have HS : Hid (∀ j, knK s l (j + 1) = if knownB s l (klo + (j : Int)) then knK s l j ++ [klo + (j : Int)] else knK s l j) := fun j => by rw [knK_succ, h1]
  have HKB : Hid (∀ k, knownB s l k = twosB s l k n) := fun k => by rw [knownB, Hn.out, twosB]
  have HX := Lib.hid X
  have x0 := X.cell 0
  have x1 := X.cell 1
  have x2 := X.cell 2
  have HW := Lib.hid hW
  clear hW g gs X h1 h2 hk
  go_enter Tryz.func72, Tryz.ntmps72
  go_wp2_with fail
  rw [HW.out]
  go_wp2_with fail
  go_loopw [5, 6] (fun o i wr => ∃ (k len cap : Nat) (An : Option Addr), k ≤ kN ∧ i = .int .i64 (klo + k) ∧ o = .slice An len cap ∧ Below W.heap.size W wr ∧ OwnL IntR 1 (fun _ => False) wr W.heap.size 3 (.slice An len cap) (knK s l k) ∧ Hid ((knK s l k).length = len)) (fun _ i _ => (khi + 1 - intOf i).toNat)
  case atStart => exact ⟨0, 0, 0, none, Nat.zero_le _, by simp, rfl, Below.refl _ _, OwnL.nil _ _ _ _ _ _, rfl⟩
  case round =>
    clear x0 x1 x2
    obtain ⟨i, len, cap, An, hi, rfl, rfl, hB, hO, Hlen⟩ := hrel
    have hX := HX.out.bl hB
    have y0 := hX.cell 0
    have y1 := hX.cell 1
    have y2 := hX.cell 2
    by_cases hlt : i < kN
    · have hle : klo + (i : Int) ≤ khi := by omega
      go_wp2_with fail
      clear y0 y1 y2 hX
      obtain ⟨Wm, hWm⟩ : ∃ Wm : World, Wm = wr := ⟨_, rfl⟩
      subst hWm
      go_loopw [7, 8] (fun is mv wr => ∃ j : Nat, j ≤ n ∧ mv = .int .i64 j ∧ is = .bool (twosB s l (klo + i) j) ∧ Below Wm.heap.size Wm wr) (fun _ mv _ => n - (intOf mv).toNat)
      case atStart => exact ⟨0, Nat.zero_le _, rfl, rfl, Below.refl _ _⟩
      case round =>
        obtain ⟨j, hj, rfl, rfl, hB2⟩ := hrel
        have hX := HX.out.bl (bl_call hB hB2 (Nat.le_refl _))
        have y0 := hX.cell 0
        have y1 := hX.cell 1
        have y2 := hX.cell 2
        clear hX
        by_cases hst : j < n ∧ twosB s l (klo + i) j = true
        · obtain ⟨hj2, hb2⟩ := hst
          have hji : (j : Int) < n := by omega
          rw [hb2]
          have HB2 := Lib.hid hb2
          clear hb2
          go_wp2_with fail
          refine (HTW.out _ j (klo + i) (bl_call hB hB2 (Nat.le_refl _)) hj2 (by omega) (by omega)).mono ?_
          rintro e w3 ⟨⟨A3, n3, c3, rfl, hP3⟩, hb3⟩
          have HL3 : Hid (twosB s l (klo + i) (j + 1) = decide (0 < n3)) := by
            rw [Hid, twosB_succ, HB2.out, isEmpty_len, hP3.len]; simp
          clear y0 y1 y2 hP3
          go_wp2_with fail
          go_roundw
          case rel => exact ⟨j + 1, by omega, by go_num, by rw [HL3.out], bl_call hB2 hb3 (Nat.le_refl _)⟩
          case measure => simp [intOf]; omega
        · obtain ⟨bv, hbv⟩ : ∃ bv, twosB s l (klo + i) j = bv := ⟨_, rfl⟩
          have HBV : Hid (knownB s l (klo + i) = bv) := by
            rw [Hid, HKB.out, ← hbv]
            rcases Nat.lt_or_ge j n with h4 | h4
            · have h5 : twosB s l (klo + i) j = false := by cases hh : twosB s l (klo + i) j with
                | false => rfl
                | true => exact absurd ⟨h4, hh⟩ hst
              rw [h5, twosB_mono (Nat.le_of_lt h4) h5]
            · rw [show n = j by omega]
          rw [hbv]
          have hBV2 : Below W.heap.size W wr := bl_call hB hB2 (Nat.le_refl _)
          have hO2 := hO.below IntR.good hB2
          have hlen7 : len ≤ 6 := by have := knK_len s l i; rw [Hlen.out] at this; omega
          have HS1 := Lib.hid (HS.out i)
          rw [HBV.out] at HS1
          have hdec : (decide ((j : Int) < n) && bv) = false := by
            rcases Nat.lt_or_ge j n with h4 | h4
            · have : bv = false := by cases bv with
                | false => rfl
                | true => exact absurd ⟨h4, hbv⟩ hst
              rw [this]; simp
            · simp; omega
          clear hst hbv hB2 hB hO
          cases bv with
          | false =>
            by_cases hji : (j : Int) < n
            · go_wp2_with fail
              go_roundw
              case rel => exact ⟨i + 1, len, cap, An, by omega, by go_num, rfl, hBV2, by rw [HS1.out]; exact hO2, by rw [Hid, HS1.out]; exact Hlen.out⟩
              case measure => simp [intOf]; omega
            · go_wp2_with fail
              go_roundw
              case rel => exact ⟨i + 1, len, cap, An, by omega, by go_num, rfl, hBV2, by rw [HS1.out]; exact hO2, by rw [Hid, HS1.out]; exact Hlen.out⟩
              case measure => simp [intOf]; omega
          | true =>
            have hji : ¬ (j : Int) < n := by simpa using hdec
            go_wp2_with (at_builtin; refine wpList_append_n _ rfl (.tmp 37) (.tmp 39) _ rfl IntR.good W.heap.size 3 i0 _ 8 Tryz.underlying30 hi0 hz0 hz1 hz2 rfl (by omega) _ (knK s l i) (klo + (i : Int)) len Hlen.out rfl (hO2.alloc IntR.good _) ⟨wr.heap.size, 0, none⟩ 1 [.int .i64 (klo + (i : Int))] rfl rfl (news_new rfl (by simp)) ?c1 ?c2 ?c3 (fun h => h) ?_)
            case c1 => simp only [maxLen]; omega
            case c2 => omega
            case c3 => have := hBV2.size; simp; omega
            intro A' cap' w2 hown2 hg2 hat2
            have hB3 : Below W.heap.size W w2 := bl_grown (bl_alloc hBV2 _ (Nat.le_refl _)) (hO2.alloc IntR.good _) hg2 (Nat.le_refl _) (Nat.le_refl _)
            clear hg2 hat2 hO2
            go_wp2
            go_roundw
            case rel => exact ⟨i + 1, len + 1, cap', _, by omega, by go_num, rfl, hB3, by rw [HS1.out]; exact hown2, by rw [Hid, HS1.out, if_pos trivial, List.length_append, Hlen.out]; rfl⟩
            case measure => simp [intOf]; omega
    · obtain rfl : i = kN := by omega
      have hle : ¬ klo + (i : Int) ≤ khi := by omega
      go_wp2_with fail
      go_ret
      refine ⟨⟨An, len, cap, by rfl, ?_⟩, hBW.trans (hB.mono hWs)⟩
      rw [HT.out]
      exact hO.slice IntR.good rfl (by have h1 := knK_len s l i; rw [Hlen.out] at h1; simp only [maxLen]; omega) (fun _ h => h.elim) (fun _ h _ => Nat.le_trans hWs h)

end Go.Proofs.YtpdldmichpmgmaaGreat

namespace Go.Proofs.YtpdldmichpmgmaaGreat
open Go.RowKit Go.Shelf

/-- what is seen, is right: the shop, how many are seen, and which casts -/
theorem seen7_all {s : Shop} {l : List SeenC} (e : (seen7 s l).2 = 0) : OkS s ∧ l.length ≤ 6 ∧ ∀ (j : Nat) (y : SeenC), l[j]? = some y → 0 ≤ y.cast ∧ y.cast ≤ 8 := by
  obtain ⟨h1, h2, h3⟩ := seen7_zero e
  have hk := okS_of h1
  refine ⟨hk, h2, fun j y hj => ?_⟩
  obtain ⟨h4, h5, _⟩ := seen7_one hj (h3 j (of_getq hj))
  have h6 : y.mould.toNat < s.moulds.length := by omega
  have := (castsN_bd hk h6)
  omega
set_option maxRecDepth 100000 in
set_option maxHeartbeats 2000000 in
theorem ragree7_any {A C : Option Addr} {n ca q cc : Nat} {s : Shop} {l : List SeenC} {klo khi : Int} (e0 : Int) (w : World) (g : Moulds (fun _ => True) w A n s.moulds) (gs : SeenCs (fun _ => True) w C q l) (h1 : s.klo = klo) (h2 : s.khi = khi)
    (hok : e0 = 0 → (seen7 s l).2 = 0) :
    Calls Tryz.prog 52 #[.agg #[.int .i64 klo, .int .i64 khi, .slice A n ca], .slice C q cc, .int .i64 e0] w fun e w' => e = .returned (.int .i64 (agreeE7 s l e0)) ∧ Below w.heap.size w w' := by
  obtain ⟨W, hW⟩ : ∃ W, w.alloc (.cells #[.int .i64 klo, .int .i64 khi, .slice A n ca] 26) = W := ⟨_, rfl⟩
  have X : Blk W w.heap.size 26 #[.int .i64 klo, .int .i64 khi, .slice A n ca] := by rw [← hW]; exact Blk.new _ _ _ rfl
  have hBW : Below w.heap.size w W := by rw [← hW]; exact bl_alloc (Below.refl _ _) _ (Nat.le_refl _)
  have hc : Moulds (fun _ => True) W A n s.moulds := g.keep MouldR.good (Keeps.below hBW)
  have hs : SeenCs (fun _ => True) W C q l := gs.keep SeenCR.good (Keeps.below hBW)
  have x0 := X.cell 0
  have x1 := X.cell 1
  have x2 := X.cell 2
  have xl := X.lt
  have HW := Lib.hid hW
  clear hW g gs X
  go_enter Tryz.func52, Tryz.ntmps52
  by_cases he : e0 = 0
  · obtain ⟨hk, hq6, hsn⟩ := seen7_all (hok he)
    subst he
    go_wp2_with fail
    rw [HW.out]
    go_wp2_with fail
    refine (rknown7_any W hc hs h1 h2 hk hq6 hsn).mono ?_
    rintro e V ⟨⟨A1, kn, kc, rfl, hKs⟩, b1⟩
    have B1 := bl_call hBW b1 (Nat.le_refl _)
    by_cases hz : kn = 0
    · have HR : Hid (agreeE7 s l 0 = 9) := by
        have h0 : known7 s l = [] := List.length_eq_zero_iff.1 (by rw [hKs.len]; exact hz)
        rw [Hid, agreeE7, if_pos ⟨rfl, h0⟩]
      subst hz
      clear x0 x1 x2 xl hc hs hKs b1 hok
      go_wp2_with fail
      go_ret
      exact ⟨by rw [HR.out]; rfl, B1⟩
    · have HR : Hid (agreeE7 s l 0 = 0) := by
        have h0 : known7 s l ≠ [] := fun h => by have := hKs.len; rw [h] at this; simp at this; omega
        rw [Hid, agreeE7, if_neg (by simp [h0])]
      have hzb : ((kn : Int) == 0) = false := by simp; omega
      clear x0 x1 x2 xl hc hs hKs b1 hok
      go_wp2_with fail
      go_ret
      exact ⟨by rw [HR.out]; rfl, B1⟩
  · have heb : (e0 == 0) = false := by simpa using he
    have HR : Hid (agreeE7 s l e0 = e0) := by rw [Hid, agreeE7, if_neg (by simp [he])]
    clear hok he
    go_wp2_with fail
    rw [HW.out]
    go_ret
    exact ⟨by rw [HR.out]; rfl, hBW⟩

end Go.Proofs.YtpdldmichpmgmaaGreat
