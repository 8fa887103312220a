/- Walks: the program's length of a feature. -/
import Derived.Test.YtkbpmcpmcmnfgaaDoorCLaw1
set_option linter.unusedVariables false
set_option linter.unusedSimpArgs false
set_option linter.all false
namespace Go.Proofs.YtkbpmcpmcmnfgaaDoor
open Go.RowKit

theorem five_get {a0 a1 a2 a3 a4 : Int} {k m : Nat} (hm : m ≤ 5) (hk : k < m) : ∃ y, ([a0, a1, a2, a3, a4].take m)[k]? = some y ∧ (#[Value.int .i64 a0, .int .i64 a1, .int .i64 a2, .int .i64 a3, .int .i64 a4] : Array Value)[k]? = some (.int .i64 y) := by
  rw [List.getElem?_take, if_pos hk]
  rcases k with _ | _ | _ | _ | _ | k
  · exact ⟨_, rfl, rfl⟩
  · exact ⟨_, rfl, rfl⟩
  · exact ⟨_, rfl, rfl⟩
  · exact ⟨_, rfl, rfl⟩
  · exact ⟨_, rfl, rfl⟩
  · omega

set_option maxRecDepth 100000 in
set_option maxHeartbeats 1000000 in
theorem blength_any {A B C : Option Addr} {n ca m cb q cc : Nat} {c : Claim} {a0 a1 a2 a3 a4 : Int} (f : Nat) (w : World) (h : ClaimAt (fun _ => True) w A n B m C q c) (hok : OkC c) (hT : TruthOk c ([a0, a1, a2, a3, a4].take m)) (hf : f < c.feats.length) :
    Calls Tryd.prog 78 #[.agg #[.slice A n ca, .slice B m cb, .slice C q cc], .agg #[.int .i64 a0, .int .i64 a1, .int .i64 a2, .int .i64 a3, .int .i64 a4], .int .i64 f] w fun e w' => e = .returned (.int .i64 (len c ([a0, a1, a2, a3, a4].take m) f)) ∧ Below w.heap.size w w' := by
  have hnf := hok.nf.2
  have hfn : f < n := by rw [← h.fs.len]; exact hf
  have hfi : (f : Int) < n := by omega
  have hn5 : n ≤ 5 := by rw [← h.fs.len]; exact hnf
  have hm5 : m ≤ 5 := by rw [← h.cs.len]; exact hok.nc
  have Hnt : Hid (([a0, a1, a2, a3, a4].take m).length = m) := by rw [Hid, List.length_take]; simp; omega
  have Hgt := Lib.hid fun (k : Nat) (hk : k < m) => five_get (a0 := a0) (a1 := a1) (a2 := a2) (a3 := a3) (a4 := a4) hm5 hk
  obtain ⟨t, ht⟩ : ∃ t, [a0, a1, a2, a3, a4].take m = t := ⟨_, rfl⟩
  rw [ht] at Hgt Hnt hT ⊢
  clear ht
  obtain ⟨bf, of, sf, nom, er, hAe, hbf, hcf0, hcf1, hcf2, _, HF⟩ := h.fs.get hfn
  have hnom := hok.feat HF.out
  obtain ⟨hn1, hn2, _, _⟩ := hnom
  subst hAe
  go_enter Tryd.func78, Tryd.ntmps78
  go_wp2
  obtain ⟨W0, hW0⟩ : ∃ W0, (w.alloc (.cells #[.slice (some ⟨bf, of, none⟩) n ca, .slice B m cb, .slice C q cc] 93)).alloc (.cells #[.int .i64 a0, .int .i64 a1, .int .i64 a2, .int .i64 a3, .int .i64 a4] 96) = W0 := ⟨_, rfl⟩
  have hB0 : Below w.heap.size w W0 := by rw [← hW0]; exact bl_alloc (bl_alloc (Below.refl _ _) _ (Nat.le_refl _)) _ (Nat.le_refl _)
  have hT0 : Blk W0 (w.heap.size + 1) 96 #[.int .i64 a0, .int .i64 a1, .int .i64 a2, .int .i64 a3, .int .i64 a4] := by rw [← hW0]; exact Blk.new _ _ _ (by simp)
  rw [hW0]
  clear hW0
  have h0 := h.keep (Keeps.below hB0)
  go_loopw [7, 21] (fun v i wr => ∃ (k : Nat) (x : Int), k ≤ m ∧ i = .int .i64 k ∧ v = .int .i64 x ∧ -10000 ≤ x ∧ x ≤ 110000 ∧ Hid (x = lenUpto c t f k) ∧ Below W0.heap.size W0 wr) (fun _ i _ => m - (intOf i).toNat)
  case atStart => exact ⟨0, nom, Nat.zero_le _, rfl, rfl, by omega, by omega, by rw [Hid, lenUpto, getD_of HF.out], Below.refl _ _⟩
  case round =>
    obtain ⟨k, x, hk, rfl, rfl, hx1, hx2, Hx, hB⟩ := hrel
    by_cases hlt : k < m
    · have hki : (k : Int) < m := by omega
      have hki5 : (k : Int) < 5 := by omega
      obtain ⟨y, hy, hyc⟩ := Hgt.out k hlt
      have Hy := Lib.hid hy
      obtain ⟨bc, oc, sc, lo, hi, P, np, cp, per, rfl, hbc, hcc0, hcc1, hcc2, hcc3, _, hper, Hc⟩ := (h0.keep (Keeps.below hB)).cs.get hlt
      have hcause := hok.cause Hc.out
      have hnp : np = n := by rw [← hper.len, hcause.1, h.fs.len]
      have HNP := Lib.hid hnp
      clear hnp hy
      obtain ⟨bp, op, z, rfl, hcp, Hz⟩ := hper.get (k := f) (by rw [HNP.out]; exact hfn)
      have hfp : (f : Int) < np := by rw [HNP.out]; exact hfi
      have hterm := term_bd hok hT hf (k := k) (by rw [Hnt.out]; exact hlt)
      rw [getD_of Hy.out] at hterm
      have hper' : perOf c f k = z := by unfold perOf; rw [getD_of Hc.out, getD_of Hz.out]
      rw [hper'] at hterm
      have Hstep : Hid (lenUpto c t f (k + 1) = x + y * z) := by rw [Hid, lenUpto, ← Hx.out, getD_of Hy.out, hper']
      obtain ⟨ht1, ht2⟩ := hterm
      have hlen2 := lenUpto_bd hok hT hf (k := k + 1) (by rw [Hnt.out]; exact hlt)
      rw [Hstep.out] at hlen2
      have hbound : -10000 ≤ x + y * z ∧ x + y * z ≤ 110000 := by omega
      obtain ⟨hq1, hq2⟩ := hbound
      have hyt : wr.cell? ⟨w.heap.size + 1, k, none⟩ = some (.int .i64 y) := ((hT0.bl hB).cell k).trans hyc
      have hyl := (hT0.bl hB).lt
      clear hper' hlen2 hcause hyc
      go_wp2
      obtain ⟨Wb, hWb⟩ : ∃ Wb, wr.alloc (.cells #[.string sc, .int .i64 lo, .int .i64 hi, .slice (some ⟨bp, op, none⟩) np cp] 76) = Wb := ⟨_, rfl⟩
      have hBN : Below wr.heap.size wr Wb := by rw [← hWb]; exact bl_alloc (Below.refl _ _) _ (Nat.le_refl _)
      have hgN : Blk Wb wr.heap.size 76 #[.string sc, .int .i64 lo, .int .i64 hi, .slice (some ⟨bp, op, none⟩) np cp] := by rw [← hWb]; exact Blk.new _ _ _ rfl
      rw [hWb]
      clear hWb
      have hg2 : Wb.cell? ⟨wr.heap.size, 3, none⟩ = some (.slice (some ⟨bp, op, none⟩) np cp) := hgN.cell 3
      have hyb := getc hBN hyt
      have hcb := getc hBN hcp
      clear hyt hcp hcc0 hcc1 hcc2 hcc3
      have hB3 : Below W0.heap.size W0 Wb := bl_call hB hBN (Nat.le_refl _)
      go_quiet (fail)
      go_wp2
      go_roundw
      case rel => exact ⟨k + 1, _, by omega, by go_num, rfl, hq1, hq2, Hstep.symm, bl_drewN hB3 _⟩
      case measure => simp [intOf]; omega
    · obtain rfl : k = m := by omega
      go_wp2
      go_ret
      exact ⟨ret_int (by rw [Hx.out, len, Hnt.out]), bl_call hB0 hB (by have := hB0.size; omega)⟩

end Go.Proofs.YtkbpmcpmcmnfgaaDoor
