/- Walks: the reference of layer 12: Ask. -/
import Derived.Test.YtkbpmcpmcmnfgaaDoorCBackPureB
import Derived.Test.YtkbpmcpmcmnfgaaDoorCRefC2
set_option linter.unusedVariables false
set_option linter.unusedSimpArgs false
set_option linter.all false
namespace Go.Proofs.YtkbpmcpmcmnfgaaDoor
open Go.RowKit

theorem askF_one (g : Nat → Int) : askF g 1 = (0, g 0) := by simp [askF]
theorem askF_less {g : Nat → Int} {k : Nat} (h : g k < (askF g k).2) : askF g (k + 1) = ((k : Int), g k) := by rw [askF, if_pos (.inr h)]
theorem askF_same {g : Nat → Int} {k : Nat} (h0 : 1 ≤ k) (h : ¬ g k < (askF g k).2) : askF g (k + 1) = askF g k := by rw [askF, if_neg (fun e => e.elim (by omega) h)]

set_option maxRecDepth 100000 in
set_option maxHeartbeats 4000000 in
theorem ask12_any {A B C : Option Addr} {n ca m cb q cc : Nat} {c : Claim} (w : World) (h : ClaimAt (fun _ => True) w A n B m C q c) :
    Calls Tryd.prog 33 #[.agg #[.slice A n ca, .slice B m cb, .slice C q cc]] w fun e w' => e = .returned (.tuple #[.int .i64 (askR c).1, .int .i64 (askR c).2.1, .int .i64 (askR c).2.2]) ∧ Below w.heap.size w w' := by
  rcases ways c with he | ⟨he, ha⟩ | ⟨he, ha⟩
  · have hbe : ((check c).2.2 != 0) = true := by simpa [err] using he
    have HR : Hid (askR c = (0, 0, err c)) := by rw [Hid, askR, err8_bad he, if_pos he]
    have he' : (check c).2.2 ≠ 0 := he
    have Hop := Lib.hid fun w0 h0 => open_bad (A := A) (n := n) (ca := ca) (B := B) (m := m) (cb := cb) (C := C) (q := q) (cc := cc) (c := c) w0 h0 he'
    clear he he'
    go_enter Tryd.func33, Tryd.ntmps33
    go_wp2_with (go_at_call 68; refine (Hop.out _ (h.keep (Keeps.alloc _ _))).mono ?_; rintro e w1 ⟨rfl, hb1⟩)
    go_ret3
    exact ⟨by rw [HR.out]; rfl, bl_call (bl_alloc (Below.refl _ _) _ (Nat.le_refl _)) hb1 (Nat.le_refl _)⟩
  · have HR : Hid (askR c = (0, 0, 8)) := by rw [Hid, askR, err8_none he ha, if_pos (by decide)]
    have he' : (check c).2.2 = 0 := he
    have Hop := Lib.hid fun w0 h0 => open_none (A := A) (n := n) (ca := ca) (B := B) (m := m) (cb := cb) (C := C) (q := q) (cc := cc) (c := c) w0 h0 he' ha
    clear he he' ha
    go_enter Tryd.func33, Tryd.ntmps33
    go_wp2_with (go_at_call 68; refine (Hop.out _ (h.keep (Keeps.alloc _ _))).mono ?_; rintro e w1 ⟨rfl, hb1⟩)
    go_ret3
    exact ⟨by rw [HR.out]; rfl, bl_call (bl_alloc (Below.refl _ _) _ (Nat.le_refl _)) hb1 (Nat.le_refl _)⟩
  · have hok := okC_of he
    have Hn := Lib.hid h.fs.len
    have hn1 : 1 ≤ n := by rw [← Hn.out]; exact hok.nf.1
    have hn5 : n ≤ 5 := by rw [← Hn.out]; exact hok.nf.2
    have HR : Hid (askR c = ((askF (leftR c (agreeL c)) n).1, (askF (leftR c (agreeL c)) n).2, 0)) := by rw [Hid, askR, err8_ok he ha, if_neg (by decide), Hn.out]
    have he' : (check c).2.2 = 0 := he
    have Hop := Lib.hid fun w0 h0 => open_ok (A := A) (n := n) (ca := ca) (B := B) (m := m) (cb := cb) (C := C) (q := q) (cc := cc) (c := c) w0 h0 he' ha
    have Ha := Lib.hid ha
    have Hok := Lib.hid hok
    clear he he' ha hok
    go_enter Tryd.func33, Tryd.ntmps33
    go_wp2_with fail
    refine (Hop.out _ (h.keep (Keeps.alloc _ _))).mono ?_
    rintro e wa ⟨At, nt, ct, rfl, hT, hb1⟩
    have hX : Blk wa w.heap.size 26 #[.slice A n ca, .slice B m cb, .slice C q cc] := (Blk.new _ _ _ rfl).bl hb1
    have hBwa : Below w.heap.size w wa := bl_call (bl_alloc (Below.refl _ _) _ (Nat.le_refl _)) hb1 (Nat.le_refl _)
    have hca := h.keep (Keeps.below hBwa)
    have hx0 : wa.cell? ⟨w.heap.size, 0, none⟩ = some (.slice A n ca) := hX.cell 0
    have hx1 : wa.cell? ⟨w.heap.size, 1, none⟩ = some (.slice B m cb) := hX.cell 1
    have hx2 : wa.cell? ⟨w.heap.size, 2, none⟩ = some (.slice C q cc) := hX.cell 2
    clear h hb1 Hop
    go_wp2_with fail
    refine (left12_any 0 wa hca Hok.out hT Ha.out (by rw [Hn.out]; exact hn1)).mono ?_
    rintro e wb ⟨rfl, hb2⟩
    clear hx0 hx1 hx2
    obtain ⟨g, hg⟩ : ∃ g, leftR c (agreeL c) = g := ⟨_, rfl⟩
    rw [hg] at HR ⊢
    have Hg := Lib.hid hg
    have hT2 := hT.keep (SlR.good IntR.good) (Keeps.below hb2)
    have hcb2 := hca.keep (Keeps.below hb2)
    have hX2 := hX.bl hb2
    have hBwb := bl_call hBwa hb2 (Nat.le_refl _)
    have hA1 : Hid (askF g 1 = (0, g 0)) := askF_one g
    obtain ⟨z0, hz0⟩ : ∃ z0, g 0 = z0 := ⟨_, rfl⟩
    rw [hz0] at hA1 ⊢
    clear hg hz0 hT hca hX hb2 hBwa
    go_wp2
    go_loopw [7, 8, 9] (fun b l i wr => ∃ (k : Nat) (fz lz : Int), 1 ≤ k ∧ k ≤ n ∧ i = .int .i64 k ∧ b = .int .i64 fz ∧ l = .int .i64 lz ∧ Hid (askF g k = (fz, lz)) ∧ Below wb.heap.size wb wr) (fun _ _ i _ => n - (intOf i).toNat)
    case atStart => exact ⟨1, 0, z0, Nat.le_refl _, hn1, rfl, rfl, rfl, hA1, Below.refl _ _⟩
    case round =>
      obtain ⟨k, fz, lz, hk1, hk, rfl, rfl, rfl, HA, hB⟩ := hrel
      have hXr := hX2.bl hB
      have hx0 : wr.cell? ⟨w.heap.size, 0, none⟩ = some (.slice A n ca) := hXr.cell 0
      have hx1 : wr.cell? ⟨w.heap.size, 1, none⟩ = some (.slice B m cb) := hXr.cell 1
      have hx2 : wr.cell? ⟨w.heap.size, 2, none⟩ = some (.slice C q cc) := hXr.cell 2
      have hbl := hXr.lt
      by_cases hlt : k < n
      · have hki : (k : Int) < n := by omega
        have HLF := Lib.hid (left12_any (ca := ca) (cb := cb) (cc := cc) (cT := ct) k wr (hcb2.keep (Keeps.below hB)) Hok.out (hT2.keep (SlR.good IntR.good) (Keeps.below hB)) Ha.out (by rw [Hn.out]; exact hlt))
        rw [Hg.out] at HLF
        obtain ⟨z, hz⟩ : ∃ z, g k = z := ⟨_, rfl⟩
        rw [hz] at HLF
        by_cases hzl : z < lz
        · have HA2 : Hid (askF g (k + 1) = ((k : Int), z)) := by rw [Hid, askF_less (by rw [hz, HA.out]; exact hzl), hz]
          clear hz hXr
          go_wp2_with (go_at_call 51; refine HLF.out.mono ?_; rintro e w' ⟨rfl, hb⟩; have hB2 := bl_call hB hb (Nat.le_refl _); clear hb)
          go_roundw
          case rel => exact ⟨k + 1, _, _, by omega, by omega, by go_num, rfl, rfl, HA2, hB2⟩
          case measure => simp [intOf]; omega
        · have HA2 : Hid (askF g (k + 1) = (fz, lz)) := by rw [Hid, askF_same hk1 (by rw [hz, HA.out]; exact hzl), HA.out]
          clear hz hXr
          go_wp2_with (go_at_call 51; refine HLF.out.mono ?_; rintro e w' ⟨rfl, hb⟩; have hB2 := bl_call hB hb (Nat.le_refl _); clear hb)
          go_roundw
          case rel => exact ⟨k + 1, _, _, by omega, by omega, by go_num, rfl, rfl, HA2, hB2⟩
          case measure => simp [intOf]; omega
      · obtain rfl : n = k := by omega
        have HR2 : Hid (askR c = (fz, lz, 0)) := by rw [Hid, HR.out, HA.out]
        clear hXr
        go_wp2
        go_ret3
        exact ⟨by rw [HR2.out]; rfl, bl_call hBwb hB (Nat.le_refl _)⟩

end Go.Proofs.YtkbpmcpmcmnfgaaDoor
