/- Walks: layings: what it captures. -/
import Derived.Test.YtnaadjhiahjlfaaCTLays
import Derived.Test.YtnaadjhiahjlfaaCTSorts
set_option linter.unusedVariables false
set_option linter.unusedSimpArgs false
set_option linter.all false
namespace Go.Proofs.Ytnaadjhiahjlfaa
open Go.RowKit Go.Shelf

/-- what layings' iterator has captured -/
structure LayBox (W : World) (h : Hall) (l : List Seen) (gh g2 g5 g3 gF base m cb wo : Nat) (B : Option Addr) : Prop where
  c2 : W.cell? ⟨g2, 0, none⟩ = some (.pointer (some ⟨gh, 0, none⟩))
  c5 : W.cell? ⟨g5, 0, none⟩ = some (.slice (some ⟨gF, 0, none⟩) m m)
  c3 : W.cell? ⟨g3, 0, none⟩ = some (.int .i64 wo)
  c4 : W.cell? ⟨gh, 4, none⟩ = some (.slice B m cb)
  fit : FitRd W base gF 182 m (fitS h l)
theorem bit_range : ∀ n : Nat, n < 9 → ∀ s : Nat, s < 2 ^ n → ∀ i ∈ bitL s, 0 ≤ i ∧ i < n := by decide +kernel
theorem pow_wrap : ∀ n : Nat, n < 9 → wrap64 ((2 : Int) ^ n) = ((2 ^ n : Nat) : Int) := by decide +kernel
def fSort (h : Hall) (l : List Seen) (n j : Nat) : Nat → List (Nat × Int) := fun r => if r < j then fitS h l r else fitK h l r (2 ^ n)

set_option maxRecDepth 100000 in
set_option maxHeartbeats 2000000 in
theorem layings_any {A B C : Option Addr} {n ca m cb q cc gh : Nat} {h : Hall} {l : List Seen} (wo : Nat) (w : World) (H : HBox w gh A n ca B m cb C q cc h l) (hk : OkH h) (hag : agree8 h l = true) :
    Calls Try.prog 63 #[.pointer (some ⟨gh, 0, none⟩), .int .i64 wo] w fun e w' =>
      (∃ g2 g5 g3 gF base, e = .returned (.func (.func 111) #[] #[.pointer (some ⟨g2, 0, none⟩), .pointer (some ⟨g5, 0, none⟩), .pointer (some ⟨g3, 0, none⟩)]) ∧ LayBox w' h l gh g2 g5 g3 gF base m cb wo B) ∧ Below w.heap.size w w' := by
  have Hn := Lib.hid H.hs.ts.len
  have Hm := Lib.hid H.hs.rs.len
  have hnt := hk.nt
  have hnr := hk.nr
  have hn8 : n ≤ 8 := by rw [← Hn.out]; exact hnt.2
  have hm3 : m ≤ 3 := by rw [← Hm.out]; exact hnr.2
  have hm1 : 1 ≤ m := by rw [← Hm.out]; exact hnr.1
  have hlen := H.hs.ts.le
  have hmk := run_make_row' (P := Try.prog) 181 182 (.slice none 0 0) 24 Try.underlying181 infoSomes rfl .i64 .i64 m (by omega) (by omega)
  have hcell : Hid (∀ W, Below w.heap.size w W → W.cell? ⟨gh, 3, none⟩ = some (.slice A n ca) ∧ W.cell? ⟨gh, 4, none⟩ = some (.slice B m cb)) := fun W hb => by
    obtain ⟨⟨gm, gr, gc, MH, _⟩, _⟩ := H
    exact ⟨(MH.bl hb).cell 3, (MH.bl hb).cell 4⟩
  have hghl : gh < w.heap.size := by obtain ⟨⟨gm, gr, gc, MH, _⟩, _⟩ := H; exact MH.lt
  have HB := Lib.hid H
  have HKK := Lib.hid hk
  have HAG := Lib.hid hag
  obtain ⟨k3, k4⟩ := hcell.out w (Below.refl _ _)
  have hg1 : gh < w.heap.size + 1 := by omega
  have hg2 : gh < w.heap.size + 1 + 1 := by omega
  have hg3 : gh < w.heap.size + 1 + 1 + 1 := by omega
  clear H hk hag hnt hnr
  go_enter Try.func63, Try.ntmps63
  go_wp2_with fail
  rw [pow_wrap n (by omega)]
  obtain ⟨N, hN⟩ : ∃ N : Nat, 2 ^ n = N := ⟨_, rfl⟩
  rw [hN]
  have HN := Lib.hid hN
  clear hN
  obtain ⟨W0, hW0⟩ : ∃ W0, (((w.alloc (.cells #[.pointer (some ⟨gh, 0, none⟩)] 110)).alloc (.cells #[.int .i64 wo] 3)).alloc (.cells (madeCells #[.slice none 0 0] m) 182)).alloc (.cells #[.slice (some ⟨w.heap.size + 1 + 1, 0, none⟩) m m] 181) = W0 := ⟨_, rfl⟩
  have b0 : Below w.heap.size w W0 := by rw [← hW0]; exact bl_alloc (bl_alloc (bl_alloc (bl_alloc (Below.refl _ _) _ (Nat.le_refl _)) _ (Nat.le_refl _)) _ (Nat.le_refl _)) _ (Nat.le_refl _)
  have s0 : W0.heap.size = w.heap.size + 4 := by rw [← hW0]; simp
  have X2 : Blk W0 w.heap.size 110 #[.pointer (some ⟨gh, 0, none⟩)] := by rw [← hW0]; exact (((Blk.new _ _ _ rfl).alloc _).alloc _).alloc _
  have X3 : Blk W0 (w.heap.size + 1) 3 #[.int .i64 wo] := by rw [← hW0]; exact ((Blk.new _ _ _ (by simp)).alloc _).alloc _
  have XF : Blk W0 (w.heap.size + 1 + 1) 182 (Array.replicate m (.slice none 0 0)) := by rw [← hW0, ← made_rep]; exact (Blk.new _ _ _ (by simp)).alloc _
  have X5 : Blk W0 (w.heap.size + 1 + 1 + 1) 181 #[.slice (some ⟨w.heap.size + 1 + 1, 0, none⟩) m m] := by rw [← hW0]; exact Blk.new _ _ _ (by simp)
  rw [hW0]
  obtain ⟨g5, eg5⟩ : ∃ g5, w.heap.size + 1 + 1 + 1 = g5 := ⟨_, rfl⟩
  obtain ⟨gF, egF⟩ : ∃ gF, w.heap.size + 1 + 1 = gF := ⟨_, rfl⟩
  obtain ⟨g3, eg3⟩ : ∃ g3, w.heap.size + 1 = g3 := ⟨_, rfl⟩
  obtain ⟨g2, eg2⟩ : ∃ g2, w.heap.size = g2 := ⟨_, rfl⟩
  rw [eg5, egF] at X5
  rw [egF] at XF
  rw [eg3] at X3
  rw [eg2] at X2
  rw [eg5, egF, eg3, eg2]
  have hgs : Hid (g2 = w.heap.size ∧ g3 = w.heap.size + 1 ∧ gF = w.heap.size + 2 ∧ g5 = w.heap.size + 3 ∧ W0.heap.size = w.heap.size + 4 ∧ gh < w.heap.size) := ⟨eg2.symm, eg3.symm, egF.symm, eg5.symm, s0, hghl⟩
  clear hW0 k3 k4 hg1 hg2 hg3 hmk eg5 egF eg3 eg2 s0 hghl
  have hbel : Hid (∀ W, Kept (fun j => j = gF ∨ W0.heap.size ≤ j) W0 W → Below w.heap.size w W) := fun W hK => b0.trans (hK.below (B := w.heap.size) b0.size (fun k hk => by have := hgs.out; omega))
  have hcx : FitCx W0 h l gh g2 g5 gF W0.heap.size n m cb A B := by
    obtain ⟨e1, e2, e3, e4, e5, e6⟩ := hgs.out
    refine ⟨HKK.out, HAG.out, Hn.out, Hm.out, by omega, by omega, by omega, by omega, by omega, by omega, X2.cell 0, X5.cell 0, (hcell.out W0 b0).2, fun r hr => ?_, by omega, ?_, ?_⟩
    · obtain ⟨b, off, a, z, y, hA, hbl, r0, r1, r2, Hx⟩ := RowTs.get HB.out.hs.rs hr
      exact ⟨b, off, a, z, y, hA, by omega, by omega, getc b0 r0, getc b0 r1, getc b0 r2, Hx⟩
    · intro W r s T k c S hK hr hs hI
      have hs256 : s < 256 := Nat.lt_of_lt_of_le hs (Nat.pow_le_pow_right (by decide) hn8 : 2 ^ n ≤ 2 ^ 8)
      exact gap_any W (HB.out.keep (hbel.out W hK)) HKK.out HAG.out hr hI (by rw [← hI.len]; exact bitL_len s hs256) (fun i hi => bit_range n (by omega) s hs i hi)
    · intro W lo hi hK
      exact why_any lo hi W (HB.out.keep (hbel.out W hK))
  have hfs : FitSt W0 W0.heap.size gF 182 184 m (fun _ => []) := FitSt.new (by have := hgs.out; omega) (Nat.le_refl _) XF
  have HCX := Lib.hid hcx
  have HFS := Lib.hid hfs
  have HX3 := Lib.hid X3
  have HX2 := Lib.hid X2
  have HX5 := Lib.hid X5
  clear hcx hfs X2 X3 X5 XF b0
  refine fit_outer (N := N) HCX.out hn8 hm3 HN.out.symm HFS.out _ _ _ _ _ _ _ _ _ _ _ _ _ _ _ _ _ _ _ _ _ _ _ _ _ _ _ _ _ _ _ _ _ undef _ _ _ _ _ _ _ _ _ _ _ _ _ _ _ _ _ _ _ _ _ _ _ _ _ _ _ _ _ _ _ _ _ _ _ _ _ _ _ _ _ _ _ _ _ ?_
  intro v6 v7 v8 v9 v10 v26 v27 v28 v29 v30 v31 v32 v33 v34 v35 v36 v37 v38 v39 v40 v41 v42 v43 v44 v45 v46 v47 v48 v49 v50 v51 v52 v53 v54 v55 v56 v57 v58 v59 v60 v61 v62 v63 v64 v65 v66 v67 v68 v69 v70 v71 wl hKl hFl
  have HKL := Lib.hid hKl
  have HFL := Lib.hid hFl
  have c5 := hKl.cell (HX5.out.cell 0) (fun e => by have := hgs.out; dsimp only at e; omega)
  clear hKl hFl
  go_wp2_with fail
  clear c5
  go_loopw [11, 74] (fun _ i' wr => ∃ j : Nat, i' = .int .i64 j ∧ j ≤ m ∧ Hid (Kept (fun k => k = gF ∨ W0.heap.size ≤ k) W0 wr) ∧ Hid (FitRd wr W0.heap.size gF 182 m (fSort h l n j))) (fun _ i' _ => m - (intOf i').toNat)
  case atStart => exact ⟨0, rfl, Nat.zero_le _, HKL.out, HFL.out.rd.congr (fun r _ => by simp [fSort])⟩
  case round =>
    obtain ⟨j, rfl, hj, HK, HF⟩ := hrel
    by_cases hlt : j < m
    · have hji : (j : Int) < m := by omega
      have hfl : (fSort h l n j j).length ≤ 256 := by
        have e : fSort h l n j j = fitK h l j (2 ^ n) := by simp [fSort]
        rw [e]
        exact Nat.le_trans fitK_len (Nat.pow_le_pow_right (by decide) hn8 : 2 ^ n ≤ 2 ^ 8)
      obtain ⟨v, hv, hcall⟩ := sort_row HF.out hlt hfl
      have HCALL := Lib.hid hcall
      clear hcall hfl
      go_wp2_with fail
      refine Calls.mono HCALL.out ?_
      rintro e w2 ⟨rfl, Y, hP, hS, hF2, hK2⟩
      have hrp : rowP h j < 9 := by
        have hx : h.rows[j]? = some ⟨(h.rows[j]'(by rw [Hm.out]; exact hlt)).frame, (h.rows[j]'(by rw [Hm.out]; exact hlt)).swell, (h.rows[j]'(by rw [Hm.out]; exact hlt)).places⟩ := List.getElem?_eq_getElem (by rw [Hm.out]; exact hlt)
        obtain ⟨_, _, _, _, _, f6⟩ := rowE_zero hx (HKK.out.row (by rw [Hm.out]; exact hlt))
        rw [rowP, getD_of hx]
        dsimp only
        rw [Hn.out] at f6
        omega
      have hYe : Y = fitS h l j := sorted_fit (by rw [Hn.out]; omega) hrp (by rw [Hn.out]; exact (by simpa [fSort] using hP)) (hS.imp (fun {a b} h => by omega))
      have HF2 : Hid (FitRd w2 W0.heap.size gF 182 m (fSort h l n (j + 1))) := hF2.congr (fun r hr => by
        unfold updL fSort
        by_cases e : r = j
        · subst e; simp [hYe]
        · rw [if_neg e]
          by_cases e2 : r < j
          · rw [if_pos e2, if_pos (by omega)]
          · rw [if_neg e2, if_neg (by omega)])
      have HK2 : Hid (Kept (fun k => k = gF ∨ W0.heap.size ≤ k) W0 w2) := HK.out.trans (hK2.mono fun _ _ h => .inr h)
      clear hP hS hF2 hK2 hYe hrp hv
      go_wp2_with fail
      go_roundw
      case rel => exact ⟨j + 1, by go_num, by omega, HK2.out, HF2.out⟩
      case measure => simp [intOf]; omega
    · obtain rfl : j = m := by omega
      go_wp2_with fail
      go_ret
      have hne : ∀ k, k ≠ gF → k < W0.heap.size → ¬ (k = gF ∨ W0.heap.size ≤ k) := fun k h1 h2 h3 => by omega
      obtain ⟨e1, e2, e3, e4, e5, e6⟩ := hgs.out
      exact ⟨⟨g2, g5, g3, gF, W0.heap.size, rfl, HK.out.cell HCX.out.c2 (hne g2 (by omega) (by omega)), HK.out.cell HCX.out.c5 (hne g5 (by omega) (by omega)), HK.out.cell (HX3.out.cell 0) (hne g3 (by omega) (by omega)), HK.out.cell HCX.out.c4 (hne gh (by omega) (by omega)), HF.out.congr (fun r hr => by unfold fSort; rw [if_pos hr])⟩, hbel.out _ HK.out⟩

end Go.Proofs.Ytnaadjhiahjlfaa
