/- Walks: the program's Ask. -/
import Derived.Test.YtkbpmcpmcmnfgaaDoorCProg23
set_option linter.unusedVariables false
set_option linter.unusedSimpArgs false
set_option linter.all false
namespace Go.Proofs.YtkbpmcpmcmnfgaaDoor
open Go.RowKit Go.Shelf

theorem askF_zero (g : Nat → Int) : askF g (0 + 1) = (0, g 0) := by simp [askF]
theorem askF_yes {g : Nat → Int} {k : Nat} (h : g k < (askF g k).2) : askF g (k + 1) = ((k : Int), g k) := by rw [askF, if_pos (.inr h)]
theorem askF_no {g : Nat → Int} {k : Nat} (h0 : k ≠ 0) (h : ¬ g k < (askF g k).2) : askF g (k + 1) = askF g k := by rw [askF, if_neg (fun e => e.elim h0 h)]

set_option maxRecDepth 100000 in
set_option maxHeartbeats 4000000 in
theorem bask_any {A B C : Option Addr} {n ca m cb q cc : Nat} {c : Claim} (w : World) (h : ClaimAt (fun _ => True) w A n B m C q c) (hca : n ≤ ca) (hcb : m ≤ cb) :
    Calls Tryd.prog 32 #[.agg #[.slice A n ca, .slice B m cb, .slice C q cc]] w fun e w' => e = .returned (.tuple #[.int .i64 (askR c).1, .int .i64 (askR c).2.1, .int .i64 (askR c).2.2]) ∧ Below w.heap.size w w' := by
  by_cases he : err c = 0
  · have hok := okC_of he
    have Herr : Hid (errI c 0 1 = 0) := by rw [Hid, errI, if_neg (by simp [he]), if_pos (by rfl)]
    have Hn := Lib.hid h.fs.len
    have hn5 : n ≤ 5 := by rw [← Hn.out]; exact hok.nf.2
    have hHE := Lib.hid he
    clear he
    go_enter Tryd.func32, Tryd.ntmps32
    go_wp2_with fail
    refine (check61_any 0 1 _ (h.keep (Keeps.alloc _ _)) hca hcb (by decide) (by decide)).mono ?_
    rintro e w1 ⟨rfl, hb1⟩
    rw [Herr.out]
    have hcb1 : Blk w1 w.heap.size 26 #[.slice A n ca, .slice B m cb, .slice C q cc] := (Blk.new _ _ _ rfl).bl hb1
    have hBw1 : Below w.heap.size w w1 := bl_call (bl_alloc (Below.refl _ _) _ (Nat.le_refl _)) hb1 (Nat.le_refl _)
    have hc1 := h.keep (Keeps.below hBw1)
    have hb0 := hcb1.cell 0
    have hb1' := hcb1.cell 1
    have hb2 := hcb1.cell 2
    have hbl := hcb1.lt
    clear hb1
    go_wp2_with (go_at_call 62; refine (btruths_any _).mono ?_; rintro e w' ⟨rfl, rfl⟩)
    obtain ⟨W2, hW2⟩ : ∃ W2, (w1.alloc (.cells #[.slice A n ca, .slice B m cb, .slice C q cc] 93)).alloc (.cells #[.slice A n ca, .slice B m cb, .slice C q cc] 93) = W2 := ⟨_, rfl⟩
    have hB12 : Below w1.heap.size w1 W2 := by rw [← hW2]; exact bl_alloc (bl_alloc (Below.refl _ _) _ (Nat.le_refl _)) _ (Nat.le_refl _)
    have hX2 : Blk W2 w1.heap.size 93 #[.slice A n ca, .slice B m cb, .slice C q cc] := by rw [← hW2]; exact (Blk.new _ _ _ rfl).alloc _
    have hY2 : Blk W2 (w1.heap.size + 1) 93 #[.slice A n ca, .slice B m cb, .slice C q cc] := by rw [← hW2]; exact Blk.new _ _ _ (by simp)
    rw [hW2]
    have hc2 := hc1.keep (Keeps.below hB12)
    have hcb2 := hcb1.bl hB12
    have hBW2 := bl_call hBw1 hB12 (Nat.le_refl _)
    clear hW2 hb0 hb1' hb2 hbl
    refine (collectT_any eg_truths (truths_seq (A0 := A) (B0 := B) (C0 := C) (n := n) (ca := ca) (mm := m) (cb := cb) (q := q) (cc := cc) hok (w1.heap.size + 1)) W2 (fun A' hb => ⟨hY2.bl hb, hc2.keep (Keeps.below hb)⟩) (Nat.le_trans (List.length_filter_le _ _) (Nat.le_trans (allT_len hok).1 (by decide)))).mono ?_
    rintro e W3 ⟨T, nT, cT, rfl, hT, hb3⟩
    have hX3 := hX2.bl hb3
    have hc3 := hc2.keep (Keeps.below hb3)
    have hcb3 := hcb2.bl hb3
    have hBW3 := bl_call hBW2 hb3 (Nat.le_refl _)
    have HTn := Lib.hid hT.len
    have hnT : nT ≤ 100000 := by rw [← HTn.out]; exact Nat.le_trans (List.length_filter_le _ _) (Nat.le_trans (allT_len hok).1 (by decide))
    clear hX2 hY2 hc2 hcb2 hb3 hB12
    by_cases ha : agreeL c = []
    · have hn0 : nT = 0 := by rw [← HTn.out, ha]; rfl
      have HR : Hid (askR c = (0, 0, 8)) := by rw [Hid, askR, err8_none hHE.out ha, if_pos (by decide)]
      subst hn0
      go_wp2
      go_ret3
      exact ⟨by rw [HR.out]; rfl, hBW3⟩
    · have hn0 : ((nT : Int) == 0) = false := by
        have : 0 < nT := by rw [← HTn.out]; exact List.length_pos_iff.2 ha
        simp; omega
      obtain ⟨g, hg⟩ : ∃ g : Nat → Int, leftR c (agreeL c) = g := ⟨_, rfl⟩
      have HR : Hid (askR c = ((askF g n).1, (askF g n).2, 0)) := by rw [Hid, askR, err8_ok hHE.out ha, if_neg (by decide), hg, Hn.out]
      have hg0 := hcb3.cell 0
      clear ha
      go_wp2
      clear hg0 hn0
      go_loopw [2, 3, 7, 8, 25] (fun b l _ _ i wr => ∃ (k : Nat) (fz lz : Int), k ≤ n ∧ i = .int .i64 k ∧ b = .int .i64 fz ∧ l = .int .i64 lz ∧ Hid (askF g k = (fz, lz)) ∧ Below W3.heap.size W3 wr) (fun _ _ _ _ i _ => n - (intOf i).toNat)
      case atStart => exact ⟨0, 0, 0, Nat.zero_le _, rfl, rfl, rfl, rfl, Below.refl _ _⟩
      case round =>
        obtain ⟨k, fz, lz, hk, rfl, rfl, rfl, HA, hB⟩ := hrel
        by_cases hlt : k < n
        · have hki : (k : Int) < n := by omega
          have hXr := hX3.bl hB
          have hx0 := hXr.cell 0
          have hx1 := hXr.cell 1
          have hx2 := hXr.cell 2
          have HLF := Lib.hid (left_any (ca := ca) (cb := cb) (cc := cc) (cT := cT) (L := agreeL c) k wr (hc3.keep (Keeps.below hB)) hok (hT.keep TrR.good (Keeps.below hB)) (fun t ht => (List.mem_filter.1 ht).1) (by rw [Hn.out]; exact hlt) hnT)
          rw [hg] at HLF
          clear hXr
          obtain ⟨z, hz⟩ : ∃ z, g k = z := ⟨_, rfl⟩
          rw [hz] at HLF
          by_cases h0 : k = 0
          · subst h0
            have HA2 : Hid (askF g (0 + 1) = (0, z)) := by rw [Hid, askF_zero, hz]
            clear hz
            go_wp2_with (go_at_call 80; refine HLF.out.mono ?_; rintro e w' ⟨rfl, hb⟩; have hB2 := bl_call hB hb (Nat.le_refl _); clear hb)
            go_roundw
            case rel => exact ⟨0 + 1, _, _, by omega, by go_num, rfl, rfl, HA2, hB2⟩
            case measure => simp [intOf]; omega
          · have h0b : ((k : Int) == 0) = false := by simp; omega
            by_cases hzl : z < lz
            · have HA2 : Hid (askF g (k + 1) = ((k : Int), z)) := by rw [Hid, askF_yes (by rw [hz, HA.out]; exact hzl), hz]
              clear hz h0
              go_wp2_with (go_at_call 80; refine HLF.out.mono ?_; rintro e w' ⟨rfl, hb⟩; have hB2 := bl_call hB hb (Nat.le_refl _); clear hb)
              go_roundw
              case rel => exact ⟨k + 1, _, _, by omega, by go_num, rfl, rfl, HA2, hB2⟩
              case measure => simp [intOf]; omega
            · have HA2 : Hid (askF g (k + 1) = (fz, lz)) := by rw [Hid, askF_no h0 (by rw [hz, HA.out]; exact hzl), HA.out]
              clear hz h0
              go_wp2_with (go_at_call 80; refine HLF.out.mono ?_; rintro e w' ⟨rfl, hb⟩; have hB2 := bl_call hB hb (Nat.le_refl _); clear hb)
              go_roundw
              case rel => exact ⟨k + 1, _, _, by omega, by go_num, rfl, rfl, HA2, hB2⟩
              case measure => simp [intOf]; omega
        · obtain rfl : k = n := by omega
          have HR2 : Hid (askR c = (fz, lz, 0)) := by rw [Hid, HR.out, HA.out]
          go_wp2
          go_ret3
          exact ⟨by rw [HR2.out]; rfl, bl_call hBW3 hB (Nat.le_refl _)⟩
  · have HR : Hid (askR c = (0, 0, err c)) := by rw [Hid, askR, err8_bad he, if_pos he]
    have Herr : Hid (errI c 0 1 = err c) := by rw [Hid, errI, if_pos he]
    have hbe : (err c != 0) = true := by simpa using he
    clear he
    generalize err c = ec at HR Herr hbe
    go_enter Tryd.func32, Tryd.ntmps32
    go_wp2_with fail
    refine (check61_any 0 1 _ (h.keep (Keeps.alloc _ _)) hca hcb (by decide) (by decide)).mono ?_
    rintro e w1 ⟨rfl, hb1⟩
    rw [Herr.out]
    have hBw1 : Below w.heap.size w w1 := bl_call (bl_alloc (Below.refl _ _) _ (Nat.le_refl _)) hb1 (Nat.le_refl _)
    go_wp2
    go_ret3
    exact ⟨by rw [HR.out]; rfl, hBw1⟩

end Go.Proofs.YtkbpmcpmcmnfgaaDoor
