/- Walks: whether a hall with what is seen is good, and some truth agrees (good of the law). -/
import Derived.Test.YtnaadjhiahjlfaaCTOuts1
import Derived.Test.YtnaadjhiahjlfaaCTRows8
set_option linter.unusedVariables false
set_option linter.unusedSimpArgs false
set_option linter.all false
namespace Go.Proofs.Ytnaadjhiahjlfaa
open Go.RowKit

set_option maxHeartbeats 1000000 in
theorem good_any {A B C : Option Addr} {n ca m cb q cc : Nat} {h : Hall} {l : List Seen} {alo ahi most : Int} (w : World) (g : HallAt (fun _ => True) w A n B m h) (gs : Seens (fun _ => True) w C q l) (h1 : h.alo = alo) (h2 : h.ahi = ahi) (h3 : h.most = most) :
    Calls Try.prog 14 #[.agg #[.int .i64 alo, .int .i64 ahi, .int .i64 most, .slice A n ca, .slice B m cb], .slice C q cc] w fun e w' => e = .returned (.bool (good8 h l)) ∧ Below w.heap.size w w' := by
  obtain ⟨W, hW⟩ : ∃ W, w.alloc (.cells #[.int .i64 alo, .int .i64 ahi, .int .i64 most, .slice A n ca, .slice B m cb] 27) = W := ⟨_, rfl⟩
  have X : Blk W w.heap.size 27 #[.int .i64 alo, .int .i64 ahi, .int .i64 most, .slice A n ca, .slice B m cb] := by rw [← hW]; exact Blk.new _ _ _ rfl
  have hBW : Below w.heap.size w W := by rw [← hW]; exact bl_alloc (Below.refl _ _) _ (Nat.le_refl _)
  have HG := Lib.hid g
  have HGS := Lib.hid gs
  have x0 := X.cell 0
  have x1 := X.cell 1
  have x2 := X.cell 2
  have x3 := X.cell 3
  have x4 := X.cell 4
  obtain ⟨E, hE⟩ : ∃ E, (seen8 h l).2 = E := ⟨_, rfl⟩
  have hcall := rseen_any (ca := ca) (cb := cb) (cc := cc) W (HG.out.keep (Keeps.below hBW)) (HGS.out.keep SeenR.good (Keeps.below hBW)) h1 h2 h3
  rw [hE] at hcall
  clear g gs
  go_enter Try.func14, Try.ntmps14
  go_wp2_with fail
  refine hcall.mono ?_
  rintro e W1 ⟨rfl, b1⟩
  clear hcall hW x0 x1 x2 x3 x4
  have hX := X.bl b1
  have x0 := hX.cell 0
  have x1 := hX.cell 1
  have x2 := hX.cell 2
  have x3 := hX.cell 3
  have x4 := hX.cell 4
  have HB1 := Lib.hid (bl_call hBW b1 (Nat.le_refl _))
  clear X b1 hBW hX
  by_cases h0 : E = 0
  · subst h0
    obtain ⟨h6, h7, h8⟩ := seen_air hE
    have HR : Hid (good8 h l = agree8 h l) := by rw [Hid, good8, hE]; simp
    have hc2 := ragree_any (ca := ca) (cb := cb) (cc := cc) (v1 := .int .i64 alo) (v2 := .int .i64 ahi) (v3 := .int .i64 most) W1 (HG.out.keep (Keeps.below HB1.out)) (HGS.out.keep SeenR.good (Keeps.below HB1.out)) rfl rfl rfl h6 h7 h8
    clear h6 h7 h8 hE
    generalize (seen8 h l).1 = p1
    go_wp2_with fail
    refine hc2.mono ?_
    rintro e W2 ⟨rfl, b2⟩
    clear hc2
    go_wp2
    go_ret
    exact ⟨ret_bool HR.out.symm, bl_call HB1.out b2 (Nat.le_refl _)⟩
  · have hb0 : (E == 0) = false := by simpa using h0
    have HR : Hid (good8 h l = false) := by rw [Hid, good8, hE]; simp [h0]
    clear hE h0
    generalize (seen8 h l).1 = p1
    go_wp2_with fail
    go_ret
    exact ⟨ret_bool HR.out.symm, HB1.out⟩

end Go.Proofs.Ytnaadjhiahjlfaa
