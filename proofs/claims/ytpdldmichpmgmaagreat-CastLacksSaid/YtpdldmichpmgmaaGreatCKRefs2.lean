/- Walks, layer 7, the reference: Known. -/
import Derived.Test.YtpdldmichpmgmaaGreatCKRefH
import Derived.Test.YtpdldmichpmgmaaGreatCKSetP
import Derived.Test.YtpdldmichpmgmaaGreatCTRegs
set_option linter.unusedVariables false
set_option linter.unusedSimpArgs false
set_option linter.all false
namespace Go.Proofs.YtpdldmichpmgmaaGreat
open Go.RowKit Go.Shelf

def IsInts7 (w0 : Nat) (xs : List Int) (e : Ending) (w' : World) : Prop := ∃ (A' : Option Addr) (k c : Nat), e = .returned (.slice A' k c) ∧ Ints (fun k => w0 ≤ k) w' A' k xs
def twosB (s : Shop) (l : List SeenC) (k : Int) (n : Nat) : Bool := (List.range n).all fun m => !(twosC s l m k).isEmpty
theorem twosB_succ (s : Shop) (l : List SeenC) (k : Int) (n : Nat) : twosB s l k (n + 1) = (twosB s l k n && !(twosC s l n k).isEmpty) := by
  unfold twosB; rw [List.range_succ, List.all_append]; simp
theorem twosB_mono {s : Shop} {l : List SeenC} {k : Int} {i j : Nat} (hij : i ≤ j) (h : twosB s l k i = false) : twosB s l k j = false := by
  induction j with
  | zero => rw [Nat.le_zero.1 hij] at h; exact h
  | succ j ih =>
    rcases Nat.lt_or_ge i (j + 1) with h1 | h1
    · rw [twosB_succ, ih (by omega)]; rfl
    · rw [show j + 1 = i by omega]; exact h
def knK (s : Shop) (l : List SeenC) (j : Nat) : List Int := ((List.range j).map fun i : Nat => s.klo + (i : Int)).filter (knownB s l)
theorem knK_len (s : Shop) (l : List SeenC) (j : Nat) : (knK s l j).length ≤ j := by
  unfold knK
  exact Nat.le_trans (List.length_filter_le _ _) (by simp)
theorem knK_succ (s : Shop) (l : List SeenC) (j : Nat) : knK s l (j + 1) = if knownB s l (s.klo + (j : Int)) then knK s l j ++ [s.klo + (j : Int)] else knK s l j := by
  unfold knK
  rw [List.range_succ, List.map_append, List.filter_append]
  split <;> rename_i h <;> simp [h]
theorem infoInt7 : (Tryz.prog.info? 3).map (fun i => (i.zero, i.size, i.bytes)) = some (some (.int .i64 0), 1, 8) := by kernel_rfl
theorem isEmpty_len {α : Type} (L : List α) : (!L.isEmpty) = decide (0 < L.length) := by cases L <;> simp

set_option maxHeartbeats 8000000 in
set_option maxRecDepth 100000 in
theorem rknown7_any {A C : Option Addr} {n ca q cc : Nat} {s : Shop} {l : List SeenC} {klo khi : Int} (w : World) (g : Moulds (fun _ => True) w A n s.moulds) (gs : SeenCs (fun _ => True) w C q l) (h1 : s.klo = klo) (h2 : s.khi = khi)
    (hk : OkS s) (hq6 : l.length ≤ 6) (hsn : ∀ (j : Nat) (y : SeenC), l[j]? = some y → 0 ≤ y.cast ∧ y.cast ≤ 8) :
    Calls Tryz.prog 72 #[.agg #[.int .i64 klo, .int .i64 khi, .slice A n ca], .slice C q cc] w fun e w' => IsInts7 w.heap.size (known7 s l) e w' ∧ Below w.heap.size w w' := by
  obtain ⟨i0, hi0, hz0, hz1, hz2⟩ := info_parts infoInt7
  have Hn := Lib.hid g.len
  have hn4 : n ≤ 4 := by rw [← Hn.out]; exact hk.nm.2
  obtain ⟨hs1, hs2, hs3, hs4⟩ := hk.shrink
  rw [h1] at hs1 hs2 hs3
  rw [h2] at hs2 hs3 hs4
  obtain ⟨kN, hkN⟩ : ∃ kN : Nat, khi + 1 = klo + kN := ⟨(khi + 1 - klo).toNat, by omega⟩
  have hkN7 : kN ≤ 7 := by omega
  have HT : Hid (known7 s l = knK s l kN) := by rw [Hid, known7, shrinkL, knK, h1, h2, show (khi - klo + 1).toNat = kN by omega]
  obtain ⟨W, hW⟩ : ∃ W, w.alloc (.cells #[.int .i64 klo, .int .i64 khi, .slice A n ca] 26) = W := ⟨_, rfl⟩
  have X : Blk W w.heap.size 26 #[.int .i64 klo, .int .i64 khi, .slice A n ca] := by rw [← hW]; exact Blk.new _ _ _ rfl
  have hBW : Below w.heap.size w W := by rw [← hW]; exact bl_alloc (Below.refl _ _) _ (Nat.le_refl _)
  have hWs : w.heap.size ≤ W.heap.size := hBW.size
  have HTW : Hid (∀ (V : World) (m : Nat) (k0 : Int), Below W.heap.size W V → m < n → 0 ≤ k0 → k0 ≤ 100 → Calls Tryz.prog 87 #[.agg #[.int .i64 klo, .int .i64 khi, .slice A n ca], .slice C q cc, .int .i64 m, .int .i64 k0] V fun e w' => IsPairs7 V.heap.size (twosC s l m k0) e w' ∧ Below V.heap.size V w') := fun V m k0 hb hm ha hz =>
    twos7_any V ((g.keep MouldR.good (Keeps.below hBW)).keep MouldR.good (Keeps.below hb)) ((gs.keep SeenCR.good (Keeps.below hBW)).keep SeenCR.good (Keeps.below hb)) hk (by rw [Hn.out]; exact hm) hq6 ⟨ha, hz⟩ hsn
  have HS : Hid (∀ j, knK s l (j + 1) = if knownB s l (klo + (j : Int)) then knK s l j ++ [klo + (j : Int)] else knK s l j) := fun j => by rw [knK_succ, h1]
  have HKB : Hid (∀ k, knownB s l k = twosB s l k n) := fun k => by rw [knownB, Hn.out, twosB]
  have HX := Lib.hid X
  have x0 := X.cell 0
  have x1 := X.cell 1
  have x2 := X.cell 2
  have HW := Lib.hid hW
  clear hW g gs X h1 h2 hk
  go_enter Tryz.func72, Tryz.ntmps72
  go_wp2_with fail
  rw [HW.out]
  go_wp2_with fail
  go_loopw [5, 6] (fun o i wr => ∃ (k len cap : Nat) (An : Option Addr), k ≤ kN ∧ i = .int .i64 (klo + k) ∧ o = .slice An len cap ∧ Below W.heap.size W wr ∧ OwnL IntR 1 (fun _ => False) wr W.heap.size 3 (.slice An len cap) (knK s l k) ∧ Hid ((knK s l k).length = len)) (fun _ i _ => (khi + 1 - intOf i).toNat)
  case atStart => exact ⟨0, 0, 0, none, Nat.zero_le _, by simp, rfl, Below.refl _ _, OwnL.nil _ _ _ _ _ _, rfl⟩
  case round =>
    clear x0 x1 x2
    obtain ⟨i, len, cap, An, hi, rfl, rfl, hB, hO, Hlen⟩ := hrel
    have hX := HX.out.bl hB
    have y0 := hX.cell 0
    have y1 := hX.cell 1
    have y2 := hX.cell 2
    by_cases hlt : i < kN
    · have hle : klo + (i : Int) ≤ khi := by omega
      go_wp2_with fail
      clear y0 y1 y2 hX
      obtain ⟨Wm, hWm⟩ : ∃ Wm : World, Wm = wr := ⟨_, rfl⟩
      subst hWm
      go_loopw [7, 8] (fun is mv wr => ∃ j : Nat, j ≤ n ∧ mv = .int .i64 j ∧ is = .bool (twosB s l (klo + i) j) ∧ Below Wm.heap.size Wm wr) (fun _ mv _ => n - (intOf mv).toNat)
      case atStart => exact ⟨0, Nat.zero_le _, rfl, rfl, Below.refl _ _⟩
      case round =>
        obtain ⟨j, hj, rfl, rfl, hB2⟩ := hrel
        have hX := HX.out.bl (bl_call hB hB2 (Nat.le_refl _))
        have y0 := hX.cell 0
        have y1 := hX.cell 1
        have y2 := hX.cell 2
        clear hX
        by_cases hst : j < n ∧ twosB s l (klo + i) j = true
        · obtain ⟨hj2, hb2⟩ := hst
          have hji : (j : Int) < n := by omega
          rw [hb2]
          have HB2 := Lib.hid hb2
          clear hb2
          go_wp2_with fail
          refine (HTW.out _ j (klo + i) (bl_call hB hB2 (Nat.le_refl _)) hj2 (by omega) (by omega)).mono ?_
          rintro e w3 ⟨⟨A3, n3, c3, rfl, hP3⟩, hb3⟩
          have HL3 : Hid (twosB s l (klo + i) (j + 1) = decide (0 < n3)) := by
            rw [Hid, twosB_succ, HB2.out, isEmpty_len, hP3.len]; simp
          clear y0 y1 y2 hP3
          go_wp2_with fail
          go_roundw
          case rel => exact ⟨j + 1, by omega, by go_num, by rw [HL3.out], bl_call hB2 hb3 (Nat.le_refl _)⟩
          case measure => simp [intOf]; omega
        · obtain ⟨bv, hbv⟩ : ∃ bv, twosB s l (klo + i) j = bv := ⟨_, rfl⟩
          have HBV : Hid (knownB s l (klo + i) = bv) := by
            rw [Hid, HKB.out, ← hbv]
            rcases Nat.lt_or_ge j n with h4 | h4
            · have h5 : twosB s l (klo + i) j = false := by cases hh : twosB s l (klo + i) j with
                | false => rfl
                | true => exact absurd ⟨h4, hh⟩ hst
              rw [h5, twosB_mono (Nat.le_of_lt h4) h5]
            · rw [show n = j by omega]
          rw [hbv]
          have hBV2 : Below W.heap.size W wr := bl_call hB hB2 (Nat.le_refl _)
          have hO2 := hO.below IntR.good hB2
          have hlen7 : len ≤ 6 := by have := knK_len s l i; rw [Hlen.out] at this; omega
          have HS1 := Lib.hid (HS.out i)
          rw [HBV.out] at HS1
          have hdec : (decide ((j : Int) < n) && bv) = false := by
            rcases Nat.lt_or_ge j n with h4 | h4
            · have : bv = false := by cases bv with
                | false => rfl
                | true => exact absurd ⟨h4, hbv⟩ hst
              rw [this]; simp
            · simp; omega
          clear hst hbv hB2 hB hO
          cases bv with
          | false =>
            by_cases hji : (j : Int) < n
            · go_wp2_with fail
              go_roundw
              case rel => exact ⟨i + 1, len, cap, An, by omega, by go_num, rfl, hBV2, by rw [HS1.out]; exact hO2, by rw [Hid, HS1.out]; exact Hlen.out⟩
              case measure => simp [intOf]; omega
            · go_wp2_with fail
              go_roundw
              case rel => exact ⟨i + 1, len, cap, An, by omega, by go_num, rfl, hBV2, by rw [HS1.out]; exact hO2, by rw [Hid, HS1.out]; exact Hlen.out⟩
              case measure => simp [intOf]; omega
          | true =>
            have hji : ¬ (j : Int) < n := by simpa using hdec
            go_wp2_with (at_builtin; refine wpList_append_n _ rfl (.tmp 37) (.tmp 39) _ rfl IntR.good W.heap.size 3 i0 _ 8 Tryz.underlying30 hi0 hz0 hz1 hz2 rfl (by omega) _ (knK s l i) (klo + (i : Int)) len Hlen.out rfl (hO2.alloc IntR.good _) ⟨wr.heap.size, 0, none⟩ 1 [.int .i64 (klo + (i : Int))] rfl rfl (news_new rfl (by simp)) ?c1 ?c2 ?c3 (fun h => h) ?_)
            case c1 => simp only [maxLen]; omega
            case c2 => omega
            case c3 => have := hBV2.size; simp; omega
            intro A' cap' w2 hown2 hg2 hat2
            have hB3 : Below W.heap.size W w2 := bl_grown (bl_alloc hBV2 _ (Nat.le_refl _)) (hO2.alloc IntR.good _) hg2 (Nat.le_refl _) (Nat.le_refl _)
            clear hg2 hat2 hO2
            go_wp2
            go_roundw
            case rel => exact ⟨i + 1, len + 1, cap', _, by omega, by go_num, rfl, hB3, by rw [HS1.out]; exact hown2, by rw [Hid, HS1.out, if_pos trivial, List.length_append, Hlen.out]; rfl⟩
            case measure => simp [intOf]; omega
    · obtain rfl : i = kN := by omega
      have hle : ¬ klo + (i : Int) ≤ khi := by omega
      go_wp2_with fail
      go_ret
      refine ⟨⟨An, len, cap, by rfl, ?_⟩, hBW.trans (hB.mono hWs)⟩
      rw [HT.out]
      exact hO.slice IntR.good rfl (by have h1 := knK_len s l i; rw [Hlen.out] at h1; simp only [maxLen]; omega) (fun _ h => h.elim) (fun _ h _ => Nat.le_trans hWs h)

end Go.Proofs.YtpdldmichpmgmaaGreat

namespace Go.Proofs.YtpdldmichpmgmaaGreat
open Go.RowKit Go.Shelf

theorem ends_from {L : List Int} (h : L ≠ []) (hb : ∀ x ∈ L, 1 ≤ x ∧ x ≤ 20160) : ends 40000 (-1) L = endsOf L := by
  cases L with
  | nil => exact absurd rfl h
  | cons y L =>
    have := hb y List.mem_cons_self
    simp only [ends, endsOf]
    rw [show min 40000 y = y by omega, show max (-1) y = y by omega]
def SlT (B : Nat) (xs : List (Int × Int)) (v : Value) (W : World) : Prop := ∃ A n c, v = .slice A n c ∧ Pairs (fun k => B ≤ k) W A n xs
theorem SlT.bl {B : Nat} {xs : List (Int × Int)} {v : Value} {W V : World} (h : SlT B xs v W) (hb : Below W.heap.size W V) : SlT B xs v V := by
  obtain ⟨A, n, c, h1, h2⟩ := h
  exact ⟨A, n, c, h1, h2.keep PairR.good (Keeps.below hb)⟩
theorem Pairs.mem {S : Foot} {w : World} {A : Option Addr} {n k : Nat} {xs : List (Int × Int)} {p : Int × Int} (h : xs[k]? = some p) : p ∈ xs := List.mem_of_getElem? h
set_option maxHeartbeats 8000000 in
set_option maxRecDepth 100000 in
theorem rsize7_any {A C : Option Addr} {n ca q cc m c : Nat} {s : Shop} {l : List SeenC} {klo khi : Int} (w : World) (g : Moulds (fun _ => True) w A n s.moulds) (gs : SeenCs (fun _ => True) w C q l) (h1 : s.klo = klo) (h2 : s.khi = khi)
    (hk : OkS s) (hm : m < s.moulds.length) (hc8 : c ≤ 8) (hne : known7 s l ≠ []) (hq6 : l.length ≤ 6) (hsn : ∀ (j : Nat) (y : SeenC), l[j]? = some y → 0 ≤ y.cast ∧ y.cast ≤ 8) :
    Calls Tryz.prog 73 #[.agg #[.int .i64 klo, .int .i64 khi, .slice A n ca], .slice C q cc, .agg #[.int .i64 m, .int .i64 c]] w fun e w' => e = .returned (.agg #[.int .i64 (size7 s l m c).1, .int .i64 (size7 s l m c).2]) ∧ Below w.heap.size w w' := by
  have Hn := Lib.hid g.len
  obtain ⟨L, hL⟩ : ∃ L, madeL s l m c = L := ⟨_, rfl⟩
  have HF : Hid (size7 s l m c = ends 40000 (-1) (madeK s l (known7 s l) m c)) := by
    have e1 : madeK s l (known7 s l) m c = madeL s l m c := rfl
    rw [Hid, e1, size7]
    refine (ends_from (made_ne hm hne) ?_).symm
    intro x hx
    exact madeK_pos (c := c) hk hm hc8 (fun k hk2 => (known7_mem hk2).1) x hx
  obtain ⟨W, hW⟩ : ∃ W, ((w.alloc (.cells #[.int .i64 klo, .int .i64 khi, .slice A n ca] 26)).alloc (.cells #[.int .i64 m, .int .i64 c] 54)).alloc (.cells #[.int .i64 0, .int .i64 0] 23) = W := ⟨_, rfl⟩
  have X : Blk W w.heap.size 26 #[.int .i64 klo, .int .i64 khi, .slice A n ca] := by rw [← hW]; exact ((Blk.new _ _ _ rfl).alloc _).alloc _
  have Y : Blk W (w.heap.size + 1) 54 #[.int .i64 m, .int .i64 c] := by rw [← hW]; exact (Blk.new _ _ _ (by simp)).alloc _
  have Z : Blk W (w.heap.size + 1 + 1) 23 #[.int .i64 0, .int .i64 0] := by rw [← hW]; exact Blk.new _ _ _ (by simp)
  have hBW : Below w.heap.size w W := by rw [← hW]; exact bl_alloc (bl_alloc (bl_alloc (Below.refl _ _) _ (Nat.le_refl _)) _ (Nat.le_refl _)) _ (Nat.le_refl _)
  obtain ⟨gg, hgg⟩ : ∃ gg, W.heap.size = gg := ⟨_, rfl⟩
  have hwg : w.heap.size + 2 < gg := by rw [← hgg]; exact Z.lt
  obtain ⟨W1, hW1⟩ : ∃ W1, W.alloc (.cells #[.int .i64 40000, .int .i64 (-1)] 23) = W1 := ⟨_, rfl⟩
  have RG : Blk W1 gg 23 #[.int .i64 40000, .int .i64 (-1)] := by rw [← hW1]; exact Blk.new _ _ _ hgg.symm
  have HBW1 : Hid (Below w.heap.size w W1) := by rw [Hid, ← hW1]; exact bl_alloc hBW _ (Nat.le_refl _)
  have HX := Lib.hid (show Blk W1 w.heap.size 26 #[.int .i64 klo, .int .i64 khi, .slice A n ca] by rw [← hW1]; exact X.alloc _)
  have HY := Lib.hid (show Blk W1 (w.heap.size + 1) 54 #[.int .i64 m, .int .i64 c] by rw [← hW1]; exact Y.alloc _)
  have HZ := Lib.hid (show Blk W1 (w.heap.size + 1 + 1) 23 #[.int .i64 0, .int .i64 0] by rw [← hW1]; exact Z.alloc _)
  have HG : Hid (Moulds (fun k => k < w.heap.size) W1 A n s.moulds) := ((g.bound MouldR.good).mono MouldR.good (fun _ h => h.2)).keep MouldR.good (Keeps.below HBW1.out)
  have HS : Hid (SeenCs (fun k => k < w.heap.size) W1 C q l) := ((gs.bound SeenCR.good).mono SeenCR.good (fun _ h => h.2)).keep SeenCR.good (Keeps.below HBW1.out)
  have HK := Lib.hid hk
  have HSN := Lib.hid hsn
  have HKB : Hid (∀ k ∈ known7 s l, 0 ≤ k ∧ k ≤ 100) := fun k hk2 => by have := shrinkL_bd hk (known7_mem hk2).1; omega
  have HTB : Hid (∀ k, ∀ p ∈ twosC s l m k, (1 ≤ p.1 ∧ p.1 ≤ 20000) ∧ 0 ≤ p.2 ∧ p.2 ≤ 20) := fun k p hp => twos7_bd hk hm hp
  have HM := Lib.hid hm
  obtain ⟨ks, hks⟩ : ∃ ks, known7 s l = ks := ⟨_, rfl⟩
  rw [hks] at HF HKB
  have HKS := Lib.hid hks
  have x0 := (HX.out).cell 0
  have x1 := (HX.out).cell 1
  have x2 := (HX.out).cell 2
  clear g gs X Y Z hk hsn hne hm hks hL hBW
  go_enter Tryz.func73, Tryz.ntmps73
  go_wp2_with fail
  clear hW hW1
  have HGG := Lib.hid hgg
  clear hgg
  refine (rknown7_any (n := n) (ca := ca) (cc := cc) W1 (HG.out.mono MouldR.good (fun _ _ => trivial)) (HS.out.mono SeenCR.good (fun _ _ => trivial)) h1 h2 HK.out hq6 HSN.out).mono ?_
  rintro e V1 ⟨⟨A1, kn, kc, rfl, hKs⟩, b1⟩
  rw [HKS.out] at hKs
  have hkl := hKs.le
  have Hkn := Lib.hid hKs.len
  have HG1 := Lib.hid (RG.bl b1)
  replace HX := Lib.hid (HX.out.bl b1)
  replace HY := Lib.hid (HY.out.bl b1)
  replace HZ := Lib.hid (HZ.out.bl b1)
  replace HG : Hid (Moulds (fun k => k < w.heap.size) V1 A n s.moulds) := HG.out.keep MouldR.good (Keeps.below b1)
  replace HS : Hid (SeenCs (fun k => k < w.heap.size) V1 C q l) := HS.out.keep SeenCR.good (Keeps.below b1)
  have hgW : gg < W1.heap.size := RG.lt
  have hg0 : w.heap.size < gg := by omega
  have hg1 : w.heap.size + 1 < gg := by omega
  have HKS2 := Lib.hid hKs
  have HBV : Hid (Below w.heap.size w V1) := bl_call HBW1.out b1 (Nat.le_refl _)
  have hVs : W1.heap.size ≤ V1.heap.size := b1.size
  -- what a world keeps, of which block gg alone and later ones were written
  have KG : Hid (∀ V, Kept (fun x => x = gg) V1 V → Moulds (fun _ => True) V A n s.moulds ∧ SeenCs (fun _ => True) V C q l ∧ Ints (fun k => W1.heap.size ≤ k) V A1 kn ks ∧ Blk V w.heap.size 26 #[.int .i64 klo, .int .i64 khi, .slice A n ca] ∧ Blk V (w.heap.size + 1) 54 #[.int .i64 m, .int .i64 c]) := fun V hV =>
    ⟨(HG.out.keep MouldR.good (hV.keeps fun k hk e => by omega)).mono MouldR.good (fun _ _ => trivial), (HS.out.keep SeenCR.good (hV.keeps fun k hk e => by omega)).mono SeenCR.good (fun _ _ => trivial), HKS2.out.keep IntR.good (hV.keeps fun k hk e => by omega), (hV.block _ HX.out.lt (by omega)).trans HX.out, (hV.block _ HY.out.lt (by omega)).trans HY.out⟩
  clear b1 hKs x0 x1 x2 RG HBW1 HX HY HG HS HKS2
  go_wp2_with fail
  go_loopw [9] (fun i wr => ∃ (k : Nat) (lo hi : Int), k ≤ kn ∧ i = .int .i64 k ∧ Hid (Kept (fun x => x = gg) V1 wr) ∧ Hid (Blk wr gg 23 #[.int .i64 lo, .int .i64 hi]) ∧ Hid (ends 40000 (-1) (madeK s l (ks.take k) m c) = (lo, hi))) (fun i _ => kn - (intOf i).toNat)
  case atStart => exact ⟨0, 40000, -1, Nat.zero_le _, rfl, Kept.refl _ _, HG1.out, rfl⟩
  case round =>
    obtain ⟨i, lo, hi, hik, rfl, HKV, HB, HE⟩ := hrel
    by_cases hlt : i < kn
    · have hli : (i : Int) < kn := by omega
      obtain ⟨gm, gsn, gks, gx, gy⟩ := KG.out wr HKV.out
      obtain ⟨bk, ok, k0, rfl, hck, Hk0⟩ := Ints.get gks hlt
      have hk0 := HKB.out k0 (List.mem_of_getElem? Hk0.out)
      have kk : Hid (∀ V, Below wr.heap.size wr V → V.cell? ⟨w.heap.size, 0, none⟩ = some (.int .i64 klo) ∧ V.cell? ⟨w.heap.size, 1, none⟩ = some (.int .i64 khi) ∧ V.cell? ⟨w.heap.size, 2, none⟩ = some (.slice A n ca) ∧ V.cell? ⟨w.heap.size + 1, 0, none⟩ = some (.int .i64 m) ∧ V.cell? ⟨w.heap.size + 1, 1, none⟩ = some (.int .i64 c) ∧ V.cell? ⟨bk, ok + i, none⟩ = some (.int .i64 k0)) := fun V hb =>
        ⟨(gx.bl hb).cell 0, (gx.bl hb).cell 1, (gx.bl hb).cell 2, (gy.bl hb).cell 0, (gy.bl hb).cell 1, getc hb hck⟩
      have HTC : Hid (∀ V, Below wr.heap.size wr V → Calls Tryz.prog 87 #[.agg #[.int .i64 klo, .int .i64 khi, .slice A n ca], .slice C q cc, .int .i64 m, .int .i64 k0] V fun e w' => IsPairs7 V.heap.size (twosC s l m k0) e w' ∧ Below V.heap.size V w') := fun V hb =>
        twos7_any V (gm.keep MouldR.good (Keeps.below hb)) (gsn.keep SeenCR.good (Keeps.below hb)) HK.out HM.out hq6 hk0 HSN.out
      obtain ⟨L, hL⟩ : ∃ L, twosC s l m k0 = L := ⟨_, rfl⟩
      have HL := Lib.hid hL
      have HLB : Hid (∀ p ∈ L, (1 ≤ p.1 ∧ p.1 ≤ 20000) ∧ 0 ≤ p.2 ∧ p.2 ≤ 20) := by rw [← hL]; exact HTB.out k0
      rw [hL] at HTC
      have HE2 : Hid (ends 40000 (-1) (madeK s l (ks.take (i + 1)) m c) = ends 40000 (-1) (madeK s l (ks.take i) m c ++ L.map fun p => made7 p.1 p.2 c k0)) := by rw [Hid, take_snoc_get Hk0.out, madeK_snoc, hL]
      clear gm gsn gks gx gy hck hL
      obtain ⟨WA, hWA⟩ : ∃ V, V = wr := ⟨_, rfl⟩
      subst hWA
      go_wp2_with fail
      refine wp_frameT ?_
      intro a0 ha0
      have tb1 : a0.tmps[1]? = some (.slice C q cc) := by rw [ha0]; kernel_rfl
      have tb3 : a0.tmps[3]? = some (.pointer (some ⟨w.heap.size, 0, none⟩)) := by rw [ha0]; kernel_rfl
      have tb5 : a0.tmps[5]? = some (.pointer (some ⟨w.heap.size + 1, 0, none⟩)) := by rw [ha0]; kernel_rfl
      have tb8 : a0.tmps[8]? = some (.slice (some ⟨bk, ok, none⟩) kn kc) := by rw [ha0]; kernel_rfl
      have tb9 : a0.tmps[9]? = some (.int .i64 (i : Int)) := by rw [ha0]; kernel_rfl
      have hsz : a0.tmps.size = 65 := by rw [ha0]; kernel_rfl
      refine wp_region_list (fun W => Below WA.heap.size WA W) (fun w w' => Below w.heap.size w w')
        [isV (.agg #[.int .i64 klo, .int .i64 khi, .slice A n ca]), isV (.slice C q cc), isV (.pointer (some ⟨w.heap.size + 1, 0, none⟩)), isV (.int .i64 (m : Int)), isV (.slice (some ⟨bk, ok, none⟩) kn kc), isV (.int .i64 (i : Int)), isV (.pointer (some ⟨bk, ok + i, none⟩)), isV (.int .i64 k0), SlT WA.heap.size L]
        (by kernel_rfl) (by kernel_rfl) (by kernel_rfl) (by simp) (by simp) (Below.refl _ _).drew ?stabA ?stepA ?finA
      case stabA => exact (StabL.is (StabL.is (StabL.is (StabL.is (StabL.is (StabL.is (StabL.is (StabL.is (StabL.cons (fun v W V hC hX h => h.bl hX) StabL.nil)))))))))
      case stepA =>
        refine StepsL.isA ?_ (StepsL.isA ?_ (StepsL.isA ?_ (StepsL.isA ?_ (StepsL.isA ?_ (StepsL.isA ?_ (StepsL.isA ?_ (StepsL.isA ?_ (StepsL.consA ?_ StepsL.nil))))))))
        · -- 0
          intro vs a W K ha hC hD hU hK
          have r3 : a.tmps[3]? = some (.pointer (some ⟨w.heap.size, 0, none⟩)) := by rw [ha, fillA_base0 (by kernel_rfl)]; exact tb3
          clear ha hU hD ha0
          rw [if_pos (by rfl)]
          obtain ⟨k0a, k1, k2, k3, k4, k5⟩ := kk.out W hC
          go_simp
          exact hK _ hC (Below.refl _ _)
        · -- 1
          intro vs a W K ha hC hD hU hK
          have r1 : a.tmps[1]? = some (.slice C q cc) := by rw [ha, fillA_base0 (by kernel_rfl)]; exact tb1
          clear ha hU hD ha0
          rw [if_pos (by rfl)]
          go_simp
          exact hK _ hC (Below.refl _ _)
        · -- 2
          intro vs a W K ha hC hD hU hK
          have r5 : a.tmps[5]? = some (.pointer (some ⟨w.heap.size + 1, 0, none⟩)) := by rw [ha, fillA_base0 (by kernel_rfl)]; exact tb5
          clear ha hU hD ha0
          rw [if_pos (by rfl)]
          go_simp
          exact hK _ hC (Below.refl _ _)
        · -- 3
          intro vs a W K ha hC hD hU hK
          have r25 : a.tmps[25]? = some (vs 2) := by rw [ha]; exact fillA_get0 (j := 2) (by kernel_rfl) (by rw [hsz]; decide)
          have q2 : vs 2 = .pointer (some ⟨w.heap.size + 1, 0, none⟩) := hD 2 (by simp [waits, Region.binds])
          rw [q2] at r25
          clear ha hU hD ha0
          rw [if_pos (by rfl)]
          obtain ⟨k0a, k1, k2, k3, k4, k5⟩ := kk.out W hC
          go_simp
          exact hK _ hC (Below.refl _ _)
        · -- 4
          intro vs a W K ha hC hD hU hK
          have r8 : a.tmps[8]? = some (.slice (some ⟨bk, ok, none⟩) kn kc) := by rw [ha, fillA_base0 (by kernel_rfl)]; exact tb8
          clear ha hU hD ha0
          rw [if_pos (by rfl)]
          go_simp
          exact hK _ hC (Below.refl _ _)
        · -- 5
          intro vs a W K ha hC hD hU hK
          have r9 : a.tmps[9]? = some (.int .i64 (i : Int)) := by rw [ha, fillA_base0 (by kernel_rfl)]; exact tb9
          clear ha hU hD ha0
          rw [if_pos (by rfl)]
          go_simp
          exact hK _ hC (Below.refl _ _)
        · -- 6
          intro vs a W K ha hC hD hU hK
          have r27 : a.tmps[27]? = some (vs 4) := by rw [ha]; exact fillA_get0 (j := 4) (by kernel_rfl) (by rw [hsz]; decide)
          have q4 : vs 4 = .slice (some ⟨bk, ok, none⟩) kn kc := hD 4 (by simp [waits, Region.binds])
          rw [q4] at r27
          have r28 : a.tmps[28]? = some (vs 5) := by rw [ha]; exact fillA_get0 (j := 5) (by kernel_rfl) (by rw [hsz]; decide)
          have q5 : vs 5 = .int .i64 (i : Int) := hD 5 (by simp [waits, Region.binds])
          rw [q5] at r28
          clear ha hU hD ha0
          rw [if_pos (by rfl)]
          go_simp
          exact hK _ hC (Below.refl _ _)
        · -- 7
          intro vs a W K ha hC hD hU hK
          have r29 : a.tmps[29]? = some (vs 6) := by rw [ha]; exact fillA_get0 (j := 6) (by kernel_rfl) (by rw [hsz]; decide)
          have q6 : vs 6 = .pointer (some ⟨bk, ok + i, none⟩) := hD 6 (by simp [waits, Region.binds])
          rw [q6] at r29
          clear ha hU hD ha0
          rw [if_pos (by rfl)]
          obtain ⟨k0a, k1, k2, k3, k4, k5⟩ := kk.out W hC
          go_simp
          exact hK _ hC (Below.refl _ _)
        · -- 8
          intro vs a W K ha hC hD hU hK
          have r23 : a.tmps[23]? = some (vs 0) := by rw [ha]; exact fillA_get0 (j := 0) (by kernel_rfl) (by rw [hsz]; decide)
          have q0 : vs 0 = .agg #[.int .i64 klo, .int .i64 khi, .slice A n ca] := hD 0 (by simp [waits, Region.binds])
          rw [q0] at r23
          have r24 : a.tmps[24]? = some (vs 1) := by rw [ha]; exact fillA_get0 (j := 1) (by kernel_rfl) (by rw [hsz]; decide)
          have q1 : vs 1 = .slice C q cc := hD 1 (by simp [waits, Region.binds])
          rw [q1] at r24
          have r26 : a.tmps[26]? = some (vs 3) := by rw [ha]; exact fillA_get0 (j := 3) (by kernel_rfl) (by rw [hsz]; decide)
          have q3 : vs 3 = .int .i64 (m : Int) := hD 3 (by simp [waits, Region.binds])
          rw [q3] at r26
          have r30 : a.tmps[30]? = some (vs 7) := by rw [ha]; exact fillA_get0 (j := 7) (by kernel_rfl) (by rw [hsz]; decide)
          have q7 : vs 7 = .int .i64 k0 := hD 7 (by simp [waits, Region.binds])
          rw [q7] at r30
          clear ha hU hD ha0
          rw [if_pos (by rfl)]
          go_simp
          refine (HTC.out W hC).mono ?_
          rintro e w' ⟨⟨A3, n3, c3, rfl, hp⟩, hb⟩
          have hsz := hC.size
          exact hK _ _ (bl_call hC hb (Nat.le_refl _)) hb ⟨A3, n3, c3, rfl, hp.mono PairR.good (fun k h => by omega)⟩
      case finA =>
        intro vs W hC hE hU
        rw [ha0]
        clear hU hsz tb1 tb3 tb5 tb8 tb9
        have E8 : SlT WA.heap.size L (vs 8) W := hE 8 (by simp)
        obtain ⟨A3, n3, c3, e8, hP⟩ := E8
        simp only [fillA, Act.put, List.setIfInBounds_toArray, List.set_cons_zero, List.set_cons_succ, Nat.zero_add, Nat.reduceAdd, e8]
        obtain ⟨u0, hu0⟩ : ∃ v0, vs 0 = v0 := ⟨_, rfl⟩
        obtain ⟨u1, hu1⟩ : ∃ v0, vs 1 = v0 := ⟨_, rfl⟩
        obtain ⟨u2, hu2⟩ : ∃ v0, vs 2 = v0 := ⟨_, rfl⟩
        obtain ⟨u3, hu3⟩ : ∃ v0, vs 3 = v0 := ⟨_, rfl⟩
        obtain ⟨u4, hu4⟩ : ∃ v0, vs 4 = v0 := ⟨_, rfl⟩
        obtain ⟨u5, hu5⟩ : ∃ v0, vs 5 = v0 := ⟨_, rfl⟩
        obtain ⟨u6, hu6⟩ : ∃ v0, vs 6 = v0 := ⟨_, rfl⟩
        obtain ⟨u7, hu7⟩ : ∃ v0, vs 7 = v0 := ⟨_, rfl⟩
        rw [hu0, hu1, hu2, hu3, hu4, hu5, hu6, hu7]
        clear hu0 hu1 hu2 hu3 hu4 hu5 hu6 hu7
        clear hE e8
        have HCW := Lib.hid hC
        have HP := Lib.hid hP
        have hpl := hP.le
        have Hpn := Lib.hid hP.len
        have HKW : Hid (Kept (fun x => x = gg) V1 W) := HKV.out.trans (Kept.of_bl hC)
        have hGW : Hid (Blk W gg 23 #[.int .i64 lo, .int .i64 hi]) := HB.out.bl hC
        have hgr : gg < WA.heap.size := HB.out.lt
        have hrW : WA.heap.size ≤ W.heap.size := hC.size
        clear hC hP HB HKV kk HTC
        obtain ⟨WB, hWB⟩ : ∃ V, V = W := ⟨_, rfl⟩
        subst hWB
        go_simp
        go_wp2_with fail
        go_loopw [11, 12] (fun t nv wr2 => ∃ (k : Nat) (lo2 hi2 : Int), k ≤ n3 ∧ t = .int .i64 k ∧ Hid (Kept (fun x => x = gg) WB wr2) ∧ Hid (Blk wr2 gg 23 #[.int .i64 lo2, .int .i64 hi2]) ∧ Hid (ends 40000 (-1) (madeK s l (ks.take i) m c ++ (L.take k).map fun p => made7 p.1 p.2 c k0) = (lo2, hi2))) (fun t _ _ => n3 - (intOf t).toNat)
        case atStart => exact ⟨0, lo, hi, Nat.zero_le _, rfl, Kept.refl _ _, hGW.out, by rw [Hid, List.take_zero, List.map_nil, List.append_nil]; exact HE.out⟩
        case round =>
          obtain ⟨t, lo2, hi2, htk, rfl, HK2, HB2, HF2⟩ := hrel
          by_cases hlt2 : t < n3
          · have hti : (t : Int) < n3 := by omega
            obtain ⟨_, _, gks2, gx2, gy2⟩ := KG.out wr (HKW.out.trans HK2.out)
            obtain ⟨bk2, ok2, k02, hbe, hck2, Hk02⟩ := Ints.get gks2 hlt
            obtain ⟨rfl, rfl⟩ : bk = bk2 ∧ ok = ok2 := by injection hbe with hbe; injection hbe with h1 h2; exact ⟨h1, h2⟩
            obtain rfl : k0 = k02 := by have e1 := Hk0.out; rw [Hk02.out] at e1; exact (Option.some.inj e1).symm
            obtain ⟨bt, ot, av, wv, rfl, hbt, hc0, hc1, Ht0⟩ := Pairs.get (HP.out.keep PairR.good (HK2.out.keeps fun k hk e => by omega)) hlt2
            obtain ⟨hav, hwv⟩ := HLB.out _ (List.mem_of_getElem? Ht0.out)
            obtain ⟨mm, hmm⟩ : ∃ mm, made7 av wv c k0 = mm := ⟨_, rfl⟩
            have HMa : Hid (∀ V, Calls Tryz.prog 88 #[.int .i64 av, .int .i64 wv, .int .i64 (c : Int), .int .i64 k0] V fun e w' => e = .returned (.int .i64 mm) ∧ V = w') := fun V => by rw [← hmm]; exact rmade_any hav hwv (by omega) hk0 V
            have HF3 : Hid (ends 40000 (-1) (madeK s l (ks.take i) m c ++ (L.take (t + 1)).map fun p => made7 p.1 p.2 c k0) = (min lo2 mm, max hi2 mm)) := by
              rw [Hid, take_snoc_get Ht0.out, List.map_append, ← List.append_assoc, List.map_singleton, ends_snoc, HF2.out, hmm]
            have kk2 : Hid (∀ V, Below wr.heap.size wr V → V.cell? ⟨w.heap.size + 1, 1, none⟩ = some (.int .i64 c) ∧ V.cell? ⟨bk, ok + i, none⟩ = some (.int .i64 k0) ∧ V.cell? ⟨bt, ot + t * 2, none⟩ = some (.int .i64 av) ∧ V.cell? ⟨bt, ot + t * 2 + 1, none⟩ = some (.int .i64 wv)) := fun V hb =>
              ⟨(gy2.bl hb).cell 1, getc hb hck2, getc hb hc0, getc hb hc1⟩
            clear gks2 gx2 gy2 hck2 hc0 hc1 hbt hmm hav hwv Ht0
            go_wp2_with fail
            refine wp_frameT ?_
            intro a0 ha0
            have tb5 : a0.tmps[5]? = some (.pointer (some ⟨w.heap.size + 1, 0, none⟩)) := by rw [ha0]; kernel_rfl
            have tb8 : a0.tmps[8]? = some (.slice (some ⟨bk, ok, none⟩) kn kc) := by rw [ha0]; kernel_rfl
            have tb9 : a0.tmps[9]? = some (.int .i64 (i : Int)) := by rw [ha0]; kernel_rfl
            have tb10 : a0.tmps[10]? = some (.slice (some ⟨bt, ot, none⟩) n3 c3) := by rw [ha0]; kernel_rfl
            have tb11 : a0.tmps[11]? = some (.int .i64 (t : Int)) := by rw [ha0]; kernel_rfl
            have hsz : a0.tmps.size = 65 := by rw [ha0]; kernel_rfl
            refine wp_region_list (fun W => Below wr.heap.size wr W) (fun w w' => Below w.heap.size w w')
              [isV (.slice (some ⟨bt, ot, none⟩) n3 c3), isV (.int .i64 (t : Int)), isV (.pointer (some ⟨bt, ot + t * 2, none⟩)), isV (.pointer (some ⟨bt, ot + t * 2, none⟩)), isV (.int .i64 av), isV (.slice (some ⟨bt, ot, none⟩) n3 c3), isV (.int .i64 (t : Int)), isV (.pointer (some ⟨bt, ot + t * 2, none⟩)), isV (.pointer (some ⟨bt, ot + t * 2 + 1, none⟩)), isV (.int .i64 wv), isV (.pointer (some ⟨w.heap.size + 1, 1, none⟩)), isV (.int .i64 (c : Int)), isV (.slice (some ⟨bk, ok, none⟩) kn kc), isV (.int .i64 (i : Int)), isV (.pointer (some ⟨bk, ok + i, none⟩)), isV (.int .i64 k0), isV (.int .i64 mm)]
              (by kernel_rfl) (by kernel_rfl) (by kernel_rfl) (by simp) (by simp) (Below.refl _ _).drew ?stabB ?stepB ?finB
            case stabB => exact (StabL.is (StabL.is (StabL.is (StabL.is (StabL.is (StabL.is (StabL.is (StabL.is (StabL.is (StabL.is (StabL.is (StabL.is (StabL.is (StabL.is (StabL.is (StabL.is (StabL.is StabL.nil)))))))))))))))))
            case stepB =>
              refine StepsL.isA ?_ (StepsL.isA ?_ (StepsL.isA ?_ (StepsL.isA ?_ (StepsL.isA ?_ (StepsL.isA ?_ (StepsL.isA ?_ (StepsL.isA ?_ (StepsL.isA ?_ (StepsL.isA ?_ (StepsL.isA ?_ (StepsL.isA ?_ (StepsL.isA ?_ (StepsL.isA ?_ (StepsL.isA ?_ (StepsL.isA ?_ (StepsL.isA ?_ StepsL.nil))))))))))))))))
              · -- 0
                intro vs a W K ha hC hD hU hK
                have r10 : a.tmps[10]? = some (.slice (some ⟨bt, ot, none⟩) n3 c3) := by rw [ha, fillA_base0 (by kernel_rfl)]; exact tb10
                clear ha hU hD ha0
                rw [if_pos (by rfl)]
                go_simp
                exact hK _ hC (Below.refl _ _)
              · -- 1
                intro vs a W K ha hC hD hU hK
                have r11 : a.tmps[11]? = some (.int .i64 (t : Int)) := by rw [ha, fillA_base0 (by kernel_rfl)]; exact tb11
                clear ha hU hD ha0
                rw [if_pos (by rfl)]
                go_simp
                exact hK _ hC (Below.refl _ _)
              · -- 2
                intro vs a W K ha hC hD hU hK
                have r38 : a.tmps[38]? = some (vs 0) := by rw [ha]; exact fillA_get0 (j := 0) (by kernel_rfl) (by rw [hsz]; decide)
                have q0 : vs 0 = .slice (some ⟨bt, ot, none⟩) n3 c3 := hD 0 (by simp [waits, Region.binds])
                rw [q0] at r38
                have r39 : a.tmps[39]? = some (vs 1) := by rw [ha]; exact fillA_get0 (j := 1) (by kernel_rfl) (by rw [hsz]; decide)
                have q1 : vs 1 = .int .i64 (t : Int) := hD 1 (by simp [waits, Region.binds])
                rw [q1] at r39
                clear ha hU hD ha0
                rw [if_pos (by rfl)]
                go_simp
                exact hK _ hC (Below.refl _ _)
              · -- 3
                intro vs a W K ha hC hD hU hK
                have r40 : a.tmps[40]? = some (vs 2) := by rw [ha]; exact fillA_get0 (j := 2) (by kernel_rfl) (by rw [hsz]; decide)
                have q2 : vs 2 = .pointer (some ⟨bt, ot + t * 2, none⟩) := hD 2 (by simp [waits, Region.binds])
                rw [q2] at r40
                clear ha hU hD ha0
                rw [if_pos (by rfl)]
                go_simp
                exact hK _ hC (Below.refl _ _)
              · -- 4
                intro vs a W K ha hC hD hU hK
                have r41 : a.tmps[41]? = some (vs 3) := by rw [ha]; exact fillA_get0 (j := 3) (by kernel_rfl) (by rw [hsz]; decide)
                have q3 : vs 3 = .pointer (some ⟨bt, ot + t * 2, none⟩) := hD 3 (by simp [waits, Region.binds])
                rw [q3] at r41
                clear ha hU hD ha0
                rw [if_pos (by rfl)]
                obtain ⟨k1, k2, k3, k4⟩ := kk2.out W hC
                go_simp
                exact hK _ hC (Below.refl _ _)
              · -- 5
                intro vs a W K ha hC hD hU hK
                have r10 : a.tmps[10]? = some (.slice (some ⟨bt, ot, none⟩) n3 c3) := by rw [ha, fillA_base0 (by kernel_rfl)]; exact tb10
                clear ha hU hD ha0
                rw [if_pos (by rfl)]
                go_simp
                exact hK _ hC (Below.refl _ _)
              · -- 6
                intro vs a W K ha hC hD hU hK
                have r11 : a.tmps[11]? = some (.int .i64 (t : Int)) := by rw [ha, fillA_base0 (by kernel_rfl)]; exact tb11
                clear ha hU hD ha0
                rw [if_pos (by rfl)]
                go_simp
                exact hK _ hC (Below.refl _ _)
              · -- 7
                intro vs a W K ha hC hD hU hK
                have r43 : a.tmps[43]? = some (vs 5) := by rw [ha]; exact fillA_get0 (j := 5) (by kernel_rfl) (by rw [hsz]; decide)
                have q5 : vs 5 = .slice (some ⟨bt, ot, none⟩) n3 c3 := hD 5 (by simp [waits, Region.binds])
                rw [q5] at r43
                have r44 : a.tmps[44]? = some (vs 6) := by rw [ha]; exact fillA_get0 (j := 6) (by kernel_rfl) (by rw [hsz]; decide)
                have q6 : vs 6 = .int .i64 (t : Int) := hD 6 (by simp [waits, Region.binds])
                rw [q6] at r44
                clear ha hU hD ha0
                rw [if_pos (by rfl)]
                go_simp
                exact hK _ hC (Below.refl _ _)
              · -- 8
                intro vs a W K ha hC hD hU hK
                have r45 : a.tmps[45]? = some (vs 7) := by rw [ha]; exact fillA_get0 (j := 7) (by kernel_rfl) (by rw [hsz]; decide)
                have q7 : vs 7 = .pointer (some ⟨bt, ot + t * 2, none⟩) := hD 7 (by simp [waits, Region.binds])
                rw [q7] at r45
                clear ha hU hD ha0
                rw [if_pos (by rfl)]
                go_simp
                exact hK _ hC (Below.refl _ _)
              · -- 9
                intro vs a W K ha hC hD hU hK
                have r46 : a.tmps[46]? = some (vs 8) := by rw [ha]; exact fillA_get0 (j := 8) (by kernel_rfl) (by rw [hsz]; decide)
                have q8 : vs 8 = .pointer (some ⟨bt, ot + t * 2 + 1, none⟩) := hD 8 (by simp [waits, Region.binds])
                rw [q8] at r46
                clear ha hU hD ha0
                rw [if_pos (by rfl)]
                obtain ⟨k1, k2, k3, k4⟩ := kk2.out W hC
                go_simp
                exact hK _ hC (Below.refl _ _)
              · -- 10
                intro vs a W K ha hC hD hU hK
                have r5 : a.tmps[5]? = some (.pointer (some ⟨w.heap.size + 1, 0, none⟩)) := by rw [ha, fillA_base0 (by kernel_rfl)]; exact tb5
                clear ha hU hD ha0
                rw [if_pos (by rfl)]
                go_simp
                exact hK _ hC (Below.refl _ _)
              · -- 11
                intro vs a W K ha hC hD hU hK
                have r48 : a.tmps[48]? = some (vs 10) := by rw [ha]; exact fillA_get0 (j := 10) (by kernel_rfl) (by rw [hsz]; decide)
                have q10 : vs 10 = .pointer (some ⟨w.heap.size + 1, 1, none⟩) := hD 10 (by simp [waits, Region.binds])
                rw [q10] at r48
                clear ha hU hD ha0
                rw [if_pos (by rfl)]
                obtain ⟨k1, k2, k3, k4⟩ := kk2.out W hC
                go_simp
                exact hK _ hC (Below.refl _ _)
              · -- 12
                intro vs a W K ha hC hD hU hK
                have r8 : a.tmps[8]? = some (.slice (some ⟨bk, ok, none⟩) kn kc) := by rw [ha, fillA_base0 (by kernel_rfl)]; exact tb8
                clear ha hU hD ha0
                rw [if_pos (by rfl)]
                go_simp
                exact hK _ hC (Below.refl _ _)
              · -- 13
                intro vs a W K ha hC hD hU hK
                have r9 : a.tmps[9]? = some (.int .i64 (i : Int)) := by rw [ha, fillA_base0 (by kernel_rfl)]; exact tb9
                clear ha hU hD ha0
                rw [if_pos (by rfl)]
                go_simp
                exact hK _ hC (Below.refl _ _)
              · -- 14
                intro vs a W K ha hC hD hU hK
                have r50 : a.tmps[50]? = some (vs 12) := by rw [ha]; exact fillA_get0 (j := 12) (by kernel_rfl) (by rw [hsz]; decide)
                have q12 : vs 12 = .slice (some ⟨bk, ok, none⟩) kn kc := hD 12 (by simp [waits, Region.binds])
                rw [q12] at r50
                have r51 : a.tmps[51]? = some (vs 13) := by rw [ha]; exact fillA_get0 (j := 13) (by kernel_rfl) (by rw [hsz]; decide)
                have q13 : vs 13 = .int .i64 (i : Int) := hD 13 (by simp [waits, Region.binds])
                rw [q13] at r51
                clear ha hU hD ha0
                rw [if_pos (by rfl)]
                go_simp
                exact hK _ hC (Below.refl _ _)
              · -- 15
                intro vs a W K ha hC hD hU hK
                have r52 : a.tmps[52]? = some (vs 14) := by rw [ha]; exact fillA_get0 (j := 14) (by kernel_rfl) (by rw [hsz]; decide)
                have q14 : vs 14 = .pointer (some ⟨bk, ok + i, none⟩) := hD 14 (by simp [waits, Region.binds])
                rw [q14] at r52
                clear ha hU hD ha0
                rw [if_pos (by rfl)]
                obtain ⟨k1, k2, k3, k4⟩ := kk2.out W hC
                go_simp
                exact hK _ hC (Below.refl _ _)
              · -- 16
                intro vs a W K ha hC hD hU hK
                have r42 : a.tmps[42]? = some (vs 4) := by rw [ha]; exact fillA_get0 (j := 4) (by kernel_rfl) (by rw [hsz]; decide)
                have q4 : vs 4 = .int .i64 av := hD 4 (by simp [waits, Region.binds])
                rw [q4] at r42
                have r47 : a.tmps[47]? = some (vs 9) := by rw [ha]; exact fillA_get0 (j := 9) (by kernel_rfl) (by rw [hsz]; decide)
                have q9 : vs 9 = .int .i64 wv := hD 9 (by simp [waits, Region.binds])
                rw [q9] at r47
                have r49 : a.tmps[49]? = some (vs 11) := by rw [ha]; exact fillA_get0 (j := 11) (by kernel_rfl) (by rw [hsz]; decide)
                have q11 : vs 11 = .int .i64 (c : Int) := hD 11 (by simp [waits, Region.binds])
                rw [q11] at r49
                have r53 : a.tmps[53]? = some (vs 15) := by rw [ha]; exact fillA_get0 (j := 15) (by kernel_rfl) (by rw [hsz]; decide)
                have q15 : vs 15 = .int .i64 k0 := hD 15 (by simp [waits, Region.binds])
                rw [q15] at r53
                clear ha hU hD ha0
                rw [if_pos (by rfl)]
                go_simp
                refine (HMa.out W).mono ?_
                rintro e w' ⟨rfl, rfl⟩
                exact hK _ hC (Below.refl _ _)
            case finB =>
              intro vs W hC hE hU
              rw [ha0]
              clear hU hsz tb5 tb8 tb9 tb10 tb11
              have e16 : vs 16 = .int .i64 mm := hE 16 (by simp)
              simp only [fillA, Act.put, List.setIfInBounds_toArray, List.set_cons_zero, List.set_cons_succ, Nat.zero_add, Nat.reduceAdd, e16]
              obtain ⟨u0, hu0⟩ : ∃ v0, vs 0 = v0 := ⟨_, rfl⟩
              obtain ⟨u1, hu1⟩ : ∃ v0, vs 1 = v0 := ⟨_, rfl⟩
              obtain ⟨u2, hu2⟩ : ∃ v0, vs 2 = v0 := ⟨_, rfl⟩
              obtain ⟨u3, hu3⟩ : ∃ v0, vs 3 = v0 := ⟨_, rfl⟩
              obtain ⟨u4, hu4⟩ : ∃ v0, vs 4 = v0 := ⟨_, rfl⟩
              obtain ⟨u5, hu5⟩ : ∃ v0, vs 5 = v0 := ⟨_, rfl⟩
              obtain ⟨u6, hu6⟩ : ∃ v0, vs 6 = v0 := ⟨_, rfl⟩
              obtain ⟨u7, hu7⟩ : ∃ v0, vs 7 = v0 := ⟨_, rfl⟩
              obtain ⟨u8, hu8⟩ : ∃ v0, vs 8 = v0 := ⟨_, rfl⟩
              obtain ⟨u9, hu9⟩ : ∃ v0, vs 9 = v0 := ⟨_, rfl⟩
              obtain ⟨u10, hu10⟩ : ∃ v0, vs 10 = v0 := ⟨_, rfl⟩
              obtain ⟨u11, hu11⟩ : ∃ v0, vs 11 = v0 := ⟨_, rfl⟩
              obtain ⟨u12, hu12⟩ : ∃ v0, vs 12 = v0 := ⟨_, rfl⟩
              obtain ⟨u13, hu13⟩ : ∃ v0, vs 13 = v0 := ⟨_, rfl⟩
              obtain ⟨u14, hu14⟩ : ∃ v0, vs 14 = v0 := ⟨_, rfl⟩
              obtain ⟨u15, hu15⟩ : ∃ v0, vs 15 = v0 := ⟨_, rfl⟩
              rw [hu0, hu1, hu2, hu3, hu4, hu5, hu6, hu7, hu8, hu9, hu10, hu11, hu12, hu13, hu14, hu15]
              clear hu0 hu1 hu2 hu3 hu4 hu5 hu6 hu7 hu8 hu9 hu10 hu11 hu12 hu13 hu14 hu15
              clear hE e16
              have hGB := HB2.out.bl hC
              have q0 := hGB.cell 0
              have q1 := hGB.cell 1
              have fq0 := hGB.frozen 0
              have fq1 := hGB.frozen 1
              have hlv := hGB.lt
              have HGB := Lib.hid hGB
              have HKC : Hid (Kept (fun x => x = gg) WB W) := HK2.out.trans (Kept.of_bl hC)
              clear hGB hC HB2 HK2 kk2 HMa
              obtain ⟨WC, hWC⟩ : ∃ V, V = W := ⟨_, rfl⟩
              subst hWC
              go_simp
              go_wp2_with fail
              go_roundw
              case rel => exact ⟨t + 1, min lo2 mm, max hi2 mm, by omega, by go_num, (HKC.out.trans (Kept.setCell _ _ _ rfl)).trans (Kept.setCell _ _ _ rfl), HGB.out.set2 _ _, HF3.out⟩
              case measure => simp [intOf]; omega
          · obtain rfl : t = n3 := by omega
            have hti : ¬ (t : Int) < t := by omega
            have HE3 : Hid (ends 40000 (-1) (madeK s l (ks.take (i + 1)) m c) = (lo2, hi2)) := by rw [Hid, HE2.out, ← HF2.out, show L.take t = L from List.take_of_length_le (by rw [Hpn.out]; exact Nat.le_refl _)]
            go_wp2_with fail
            go_roundw
            case rel => exact ⟨i + 1, lo2, hi2, by omega, by go_num, HKW.out.trans HK2.out, HB2.out, HE3.out⟩
            case measure => simp [intOf]; omega
    · obtain rfl : i = kn := by omega
      have hli : ¬ (i : Int) < i := by omega
      have HFin : Hid (size7 s l m c = (lo, hi)) := by rw [Hid, HF.out, ← HE.out, show ks.take i = ks from List.take_of_length_le (by rw [Hkn.out]; exact Nat.le_refl _)]
      have hBl : Below w.heap.size w wr := HBV.out.trans (HKV.out.below (B := w.heap.size) HBV.out.size (fun x hx => by omega))
      have hZr : Blk wr (w.heap.size + 1 + 1) 23 #[.int .i64 0, .int .i64 0] := (HKV.out.block _ HZ.out.lt (by omega)).trans HZ.out
      have q0 := HB.out.cell 0
      have q1 := HB.out.cell 1
      have z0 := hZr.cell 0
      have z1 := hZr.cell 1
      have fz0 := hZr.frozen 0
      have fz1 := hZr.frozen 1
      have hzl := hZr.lt
      have HHR := Lib.hid hZr
      clear hZr
      go_wp2_with fail
      exact bodyPost_ret (ret_two7 rfl (.inl rfl) rfl (HHR.out.set2 _ _).c0 (HHR.out.set2 _ _).c1) rfl ⟨by rw [HFin.out], bl_set (bl_set hBl (by dsimp only; omega) _) (by dsimp only; omega) _⟩
end Go.Proofs.YtpdldmichpmgmaaGreat

namespace Go.Proofs.YtpdldmichpmgmaaGreat
open Go.RowKit Go.Shelf

/-- what is seen, is right: the shop, how many are seen, and which casts -/
theorem seen7_all {s : Shop} {l : List SeenC} (e : (seen7 s l).2 = 0) : OkS s ∧ l.length ≤ 6 ∧ ∀ (j : Nat) (y : SeenC), l[j]? = some y → 0 ≤ y.cast ∧ y.cast ≤ 8 := by
  obtain ⟨h1, h2, h3⟩ := seen7_zero e
  have hk := okS_of h1
  refine ⟨hk, h2, fun j y hj => ?_⟩
  obtain ⟨h4, h5, _⟩ := seen7_one hj (h3 j (of_getq hj))
  have h6 : y.mould.toNat < s.moulds.length := by omega
  have := (castsN_bd hk h6)
  omega
set_option maxRecDepth 100000 in
set_option maxHeartbeats 2000000 in
theorem ragree7_any {A C : Option Addr} {n ca q cc : Nat} {s : Shop} {l : List SeenC} {klo khi : Int} (e0 : Int) (w : World) (g : Moulds (fun _ => True) w A n s.moulds) (gs : SeenCs (fun _ => True) w C q l) (h1 : s.klo = klo) (h2 : s.khi = khi)
    (hok : e0 = 0 → (seen7 s l).2 = 0) :
    Calls Tryz.prog 52 #[.agg #[.int .i64 klo, .int .i64 khi, .slice A n ca], .slice C q cc, .int .i64 e0] w fun e w' => e = .returned (.int .i64 (agreeE7 s l e0)) ∧ Below w.heap.size w w' := by
  obtain ⟨W, hW⟩ : ∃ W, w.alloc (.cells #[.int .i64 klo, .int .i64 khi, .slice A n ca] 26) = W := ⟨_, rfl⟩
  have X : Blk W w.heap.size 26 #[.int .i64 klo, .int .i64 khi, .slice A n ca] := by rw [← hW]; exact Blk.new _ _ _ rfl
  have hBW : Below w.heap.size w W := by rw [← hW]; exact bl_alloc (Below.refl _ _) _ (Nat.le_refl _)
  have hc : Moulds (fun _ => True) W A n s.moulds := g.keep MouldR.good (Keeps.below hBW)
  have hs : SeenCs (fun _ => True) W C q l := gs.keep SeenCR.good (Keeps.below hBW)
  have x0 := X.cell 0
  have x1 := X.cell 1
  have x2 := X.cell 2
  have xl := X.lt
  have HW := Lib.hid hW
  clear hW g gs X
  go_enter Tryz.func52, Tryz.ntmps52
  by_cases he : e0 = 0
  · obtain ⟨hk, hq6, hsn⟩ := seen7_all (hok he)
    subst he
    go_wp2_with fail
    rw [HW.out]
    go_wp2_with fail
    refine (rknown7_any W hc hs h1 h2 hk hq6 hsn).mono ?_
    rintro e V ⟨⟨A1, kn, kc, rfl, hKs⟩, b1⟩
    have B1 := bl_call hBW b1 (Nat.le_refl _)
    by_cases hz : kn = 0
    · have HR : Hid (agreeE7 s l 0 = 9) := by
        have h0 : known7 s l = [] := List.length_eq_zero_iff.1 (by rw [hKs.len]; exact hz)
        rw [Hid, agreeE7, if_pos ⟨rfl, h0⟩]
      subst hz
      clear x0 x1 x2 xl hc hs hKs b1 hok
      go_wp2_with fail
      go_ret
      exact ⟨by rw [HR.out]; rfl, B1⟩
    · have HR : Hid (agreeE7 s l 0 = 0) := by
        have h0 : known7 s l ≠ [] := fun h => by have := hKs.len; rw [h] at this; simp at this; omega
        rw [Hid, agreeE7, if_neg (by simp [h0])]
      have hzb : ((kn : Int) == 0) = false := by simp; omega
      clear x0 x1 x2 xl hc hs hKs b1 hok
      go_wp2_with fail
      go_ret
      exact ⟨by rw [HR.out]; rfl, B1⟩
  · have heb : (e0 == 0) = false := by simpa using he
    have HR : Hid (agreeE7 s l e0 = e0) := by rw [Hid, agreeE7, if_neg (by simp [he])]
    clear hok he
    go_wp2_with fail
    rw [HW.out]
    go_ret
    exact ⟨by rw [HR.out]; rfl, hBW⟩

end Go.Proofs.YtpdldmichpmgmaaGreat
