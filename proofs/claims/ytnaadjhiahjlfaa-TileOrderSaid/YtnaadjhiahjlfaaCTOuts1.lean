/- Plain: tiles of a row, by bits. Nothing of a program stands here. -/
import Derived.Test.YtnaadjhiahjlfaaCTilePure2
set_option linter.unusedVariables false
set_option linter.unusedSimpArgs false
set_option linter.all false
namespace Go.Proofs.Ytnaadjhiahjlfaa

def good8 (h : Hall) (l : List Seen) : Bool := decide ((seen8 h l).2 = 0) && agree8 h l
/-- is a number taken -/
def takeB (nt p bits : Nat) (out : List Int) (i : Nat) : Bool := decide (bits / 2 ^ i % 2 = 1) || decide ((nt : Int) - i = (p : Int) - out.length)
def choStep (nt p bits : Nat) (out : List Int) (i : Nat) : List Int := if out.length < p then (if takeB nt p bits out i = true then out ++ [(i : Int)] else out) else out
def choK (nt p bits k : Nat) : List Int := (List.range k).foldl (choStep nt p bits) []
theorem choK_succ (nt p bits k : Nat) : choK nt p bits (k + 1) = choStep nt p bits (choK nt p bits k) k := by
  unfold choK; rw [List.range_succ, List.foldl_append]; rfl
theorem choK_stop {nt p bits k : Nat} (h : ¬ (choK nt p bits k).length < p) : ∀ d, choK nt p bits (k + d) = choK nt p bits k := by
  intro d
  induction d with
  | zero => rfl
  | succ d ih => rw [← Nat.add_assoc, choK_succ, ih, choStep, if_neg h]
theorem choK_len (nt p bits k : Nat) : (choK nt p bits k).length ≤ k := by
  induction k with
  | zero => exact Nat.le_refl _
  | succ k ih =>
    rw [choK_succ, choStep]
    split
    · split
      · rw [List.length_append, List.length_singleton]; omega
      · omega
    · omega
set_option maxRecDepth 100000 in
theorem cho_ok : ∀ nt : Nat, nt < 9 → ∀ p : Nat, p < nt + 1 → ∀ bits : Nat, bits < 256 → tilesE nt p (choK nt p bits nt) = 0 := by decide +kernel

end Go.Proofs.Ytnaadjhiahjlfaa
