/- Layer 12, plain: the examples. -/
import Derived.Test.YtkbpmcpmcmnfgaaDoorCLaw5
set_option linter.unusedVariables false
set_option linter.unusedSimpArgs false
set_option linter.all false
namespace Go.Proofs.YtkbpmcpmcmnfgaaDoor

theorem ex_sets : setsR (claimC [⟨2, 47⟩]) = ([[0, 1]], 0) := by decide +kernel
theorem ex_must : mustR (claimC []) = ([0], [0, 1, 2], 0) := by decide +kernel
theorem ex_amount : amountR (claimC []) 0 = ((2, 4), 0) := by decide +kernel
theorem ex_value : valueR (claimC []) 2 = ((47, 51), 0) := by decide +kernel
theorem ex_plain : plainR (claimC [⟨2, 47⟩]) = ([2, 1, 0], 0) := by decide +kernel
theorem ex_wrong : wrongR (claimC [⟨0, 1010⟩]) = ([2], 0) := by decide +kernel
theorem ex_ask : askR (claimC []) = (2, 2, 0) := by decide +kernel
theorem ex_zero : plainR (claimC [⟨0, 1010⟩]) = ([], 8) := by decide +kernel
theorem ex_none : setsR (claimC [⟨0, 1010⟩]) = ([], 0) := by decide +kernel
theorem ex2_sets : setsR (claimC []) = ([[0]], 0) := by decide +kernel
theorem ex2_must : mustR (claimC [⟨2, 47⟩]) = ([0, 1], [0, 1, 2], 0) := by decide +kernel
theorem ex2_amount1 : amountR (claimC []) 1 = ((0, 1), 0) := by decide +kernel
theorem ex2_amount2 : amountR (claimC []) 2 = ((0, 1), 0) := by decide +kernel
theorem ex2_plain : plainR (claimC []) = ([2, 0, 0], 0) := by decide +kernel
theorem ex2_wrong : wrongR (claimC []) = ([], 0) := by decide +kernel

end Go.Proofs.YtkbpmcpmcmnfgaaDoor
