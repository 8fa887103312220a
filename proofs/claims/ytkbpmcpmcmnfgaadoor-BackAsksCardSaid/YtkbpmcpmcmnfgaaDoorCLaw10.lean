/- Walks: the law of Ask. -/
import Derived.Test.YtkbpmcpmcmnfgaaDoorCLaw6
import Derived.Test.YtkbpmcpmcmnfgaaDoorCProg24
import Derived.Test.YtkbpmcpmcmnfgaaDoorCRefC3
set_option linter.unusedVariables false
set_option linter.unusedSimpArgs false
set_option linter.all false
namespace Go.Proofs.YtkbpmcpmcmnfgaaDoor
open Go.RowKit

set_option maxRecDepth 100000 in
set_option maxHeartbeats 4000000 in
theorem asksLaw_any {A B C : Option Addr} {n ca m cb q cc : Nat} {c : Claim} (w : World) (htab : TabOk w) (h : ClaimAt (fun _ => True) w A n B m C q c) (hca : n ≤ ca) (hcb : m ≤ cb) :
    Calls Tryd.prog 5 #[.agg #[.slice A n ca, .slice B m cb, .slice C q cc]] w fun e w' => e = .returned (.bool true) ∧ Below w.heap.size w w' := by
  obtain ⟨W0, hW0⟩ : ∃ W0, w.alloc (.cells #[.slice A n ca, .slice B m cb, .slice C q cc] 26) = W0 := ⟨_, rfl⟩
  have X1 : Blk W0 w.heap.size 26 #[.slice A n ca, .slice B m cb, .slice C q cc] := by rw [← hW0]; exact Blk.new _ _ _ rfl
  have hB0 : Below w.heap.size w W0 := by rw [← hW0]; exact bl_alloc (Below.refl _ _) _ (Nat.le_refl _)
  have e1 := h.keep (Keeps.below hB0)
  have t0 := htab.bl hB0
  have HW0 := Lib.hid hW0
  obtain ⟨a, b, e0, har⟩ : ∃ a b e0, askR c = (a, b, e0) := ⟨_, _, _, rfl⟩
  have HAR := Lib.hid har
  clear hW0 h htab har
  have h1 : (a == a) = true := by simp
  have h2 : (b == b) = true := by simp
  have h3 : (e0 == e0) = true := by simp
  go_enter Tryd.func5, Tryd.ntmps5
  go_wp2_with fail
  rw [HW0.out]
  refine (bask_any W0 e1 hca hcb).mono ?_
  rintro e u1 ⟨rfl, b1⟩
  rw [HAR.out]
  have q0 : u1.cell? ⟨w.heap.size, 0, none⟩ = some (.slice A n ca) := (X1.bl b1).cell 0
  have q1 : u1.cell? ⟨w.heap.size, 1, none⟩ = some (.slice B m cb) := (X1.bl b1).cell 1
  have q2 : u1.cell? ⟨w.heap.size, 2, none⟩ = some (.slice C q cc) := (X1.bl b1).cell 2
  go_wp2_with fail
  clear q0 q1 q2
  refine (ask12_any u1 (e1.keep (Keeps.below b1))).mono ?_
  rintro e u2 ⟨rfl, b2⟩
  rw [HAR.out]
  have hB2 : Below w.heap.size w u2 := bl_call (bl_call hB0 b1 (Nat.le_refl _)) b2 (Nat.le_refl _)
  have t2 := (t0.bl b1).bl b2
  go_wp2_with fail
  refine (awake_any _ t2).mono ?_
  rintro e u3 ⟨rfl, b3⟩
  go_wp2
  go_ret
  exact ⟨rfl, bl_call hB2 b3 (Nat.le_refl _)⟩

end Go.Proofs.YtkbpmcpmcmnfgaaDoor
