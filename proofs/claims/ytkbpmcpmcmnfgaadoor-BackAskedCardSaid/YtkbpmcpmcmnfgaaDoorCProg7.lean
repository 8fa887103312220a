/- Walks: the program's check; a truth's set. -/
import Derived.Test.YtkbpmcpmcmnfgaaDoorCProg6
set_option linter.unusedVariables false
set_option linter.unusedSimpArgs false
set_option linter.all false
namespace Go.Proofs.YtkbpmcpmcmnfgaaDoor
open Go.RowKit Go.Shelf

/-- the error of a claim and of a number that has to be an index -/
def errI (c : Claim) (i many : Int) : Int := if err c ≠ 0 then err c else if inB i 0 (many - 1) then 0 else 4

set_option maxHeartbeats 1000000 in
theorem check61_any {A B C : Option Addr} {n ca m cb q cc : Nat} {c : Claim} (i many : Int) (w : World) (h : ClaimAt (fun _ => True) w A n B m C q c) (hca : n ≤ ca) (hcb : m ≤ cb) (h1 : 0 ≤ many) (h2 : many ≤ 9223372036854775807) :
    Calls Tryd.prog 61 #[.agg #[.slice A n ca, .slice B m cb, .slice C q cc], .int .i64 i, .int .i64 many] w fun e w' => e = .returned (.int .i64 (errI c i many)) ∧ Below w.heap.size w w' := by
  by_cases he : err c = 0
  · have hbe : ((check c).2.2 == 0) = true := by simpa [err] using he
    cases ho : outB 0 (many - 1) i
    · have HR : Hid (errI c i many = (check c).2.2) := by
        rw [outB_inB] at ho
        have : inB i 0 (many - 1) = true := by simpa using ho
        rw [Hid, errI, if_neg (by simp [he]), if_pos this]; exact he.symm
      clear he
      go_enter Tryd.func61, Tryd.ntmps61
      go_wp2_with fail
      refine (bcheck_any _ (h.keep (Keeps.alloc _ _)) hca hcb).mono ?_
      rintro e w1 ⟨rfl, hb1⟩
      have hB1 : Below w.heap.size w w1 := bl_call (bl_alloc (Below.refl _ _) _ (Nat.le_refl _)) hb1 (Nat.le_refl _)
      clear hb1 h
      go_wp2_with fail
      refine (out1_any _ (by exact newc rfl rfl) ho).mono ?_
      rintro e w2 ⟨rfl, hb2⟩
      have hB2 : Below w.heap.size w w2 := bl_call (bl_alloc hB1 _ (Nat.le_refl _)) hb2 (Nat.le_refl _)
      clear hb2 ho
      go_wp2
      go_ret
      exact ⟨by rw [HR.out]; rfl, hB2⟩
    · have HR : Hid (errI c i many = 4) := by
        rw [outB_inB] at ho
        have : inB i 0 (many - 1) = false := by simpa using ho
        rw [Hid, errI, if_neg (by simp [he]), this]; rfl
      clear he
      go_enter Tryd.func61, Tryd.ntmps61
      go_wp2_with fail
      refine (bcheck_any _ (h.keep (Keeps.alloc _ _)) hca hcb).mono ?_
      rintro e w1 ⟨rfl, hb1⟩
      have hB1 : Below w.heap.size w w1 := bl_call (bl_alloc (Below.refl _ _) _ (Nat.le_refl _)) hb1 (Nat.le_refl _)
      clear hb1 h
      go_wp2_with fail
      refine (out1_any _ (by exact newc rfl rfl) ho).mono ?_
      rintro e w2 ⟨rfl, hb2⟩
      have hB2 : Below w.heap.size w w2 := bl_call (bl_alloc hB1 _ (Nat.le_refl _)) hb2 (Nat.le_refl _)
      clear hb2 ho
      go_wp2
      go_ret
      exact ⟨by rw [HR.out]; rfl, hB2⟩
  · have hbe : ((check c).2.2 == 0) = false := by simpa [err] using he
    have HR : Hid (errI c i many = (check c).2.2) := by rw [Hid, errI, if_pos he]; rfl
    clear he
    go_enter Tryd.func61, Tryd.ntmps61
    go_wp2_with fail
    refine (bcheck_any _ (h.keep (Keeps.alloc _ _)) hca hcb).mono ?_
    rintro e w1 ⟨rfl, hb1⟩
    have hB1 : Below w.heap.size w w1 := bl_call (bl_alloc (Below.refl _ _) _ (Nat.le_refl _)) hb1 (Nat.le_refl _)
    clear hb1 h
    go_wp2
    go_ret
    exact ⟨by rw [HR.out]; rfl, hB1⟩

end Go.Proofs.YtkbpmcpmcmnfgaaDoor
