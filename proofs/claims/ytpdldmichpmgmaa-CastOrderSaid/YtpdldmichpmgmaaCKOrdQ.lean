/- Layer 7, plain: things put one by one where a list of numbers says (by turns), and that it is the same things. Nothing of a program is stepped through here. -/
import Derived.Test.YtpdldmichpmgmaaCKOrdP
import Derived.Test.YtpdldmichpmgmaaCKOut1
set_option linter.unusedVariables false
set_option linter.unusedSimpArgs false
set_option linter.all false
namespace Go.Proofs.Ytpdldmichpmgmaa

/-- the place of the next thing -/
def putK (ys : List Nat) (off r : Nat) : Nat := turnL ys (r + off) % (r + 1)
/-- the first r things, each put at its place -/
def putL {α : Type} (ys : List Nat) (off : Nat) (xs : List α) : Nat → List α
  | 0 => []
  | r + 1 => match xs[r]? with
    | some x => (putL ys off xs r).take (putK ys off r) ++ x :: (putL ys off xs r).drop (putK ys off r)
    | none => putL ys off xs r
theorem putL_snoc {α : Type} {ys : List Nat} {off : Nat} {xs : List α} {r : Nat} {x : α} (h : xs[r]? = some x) : putL ys off xs (r + 1) = (putL ys off xs r).take (putK ys off r) ++ x :: (putL ys off xs r).drop (putK ys off r) := by
  rw [putL, h]
theorem putL_perm {α : Type} (ys : List Nat) (off : Nat) (xs : List α) : ∀ r, r ≤ xs.length → (xs.take r).Perm (putL ys off xs r)
  | 0, _ => by simp [putL]
  | r + 1, h => by
    have hx : xs[r]? = some xs[r] := List.getElem?_eq_getElem (by omega)
    rw [putL_snoc hx]
    have ih := putL_perm ys off xs r (by omega)
    have e : xs.take (r + 1) = xs.take r ++ [xs[r]] := by rw [List.take_add_one, hx]; rfl
    rw [e]
    refine (List.perm_append_comm (l₁ := xs.take r) (l₂ := [xs[r]])).trans ?_
    refine ((ih.cons xs[r])).trans ?_
    have h2 := (List.perm_middle (a := xs[r]) (l₁ := (putL ys off xs r).take (putK ys off r)) (l₂ := (putL ys off xs r).drop (putK ys off r))).symm
    rw [List.take_append_drop] at h2
    exact h2
theorem putL_len {α : Type} (ys : List Nat) (off : Nat) (xs : List α) {r : Nat} (h : r ≤ xs.length) : (putL ys off xs r).length = r := by
  rw [← (putL_perm ys off xs r h).length_eq, List.length_take]
  omega
theorem putL_all {α : Type} (ys : List Nat) (off : Nat) (xs : List α) : xs.Perm (putL ys off xs xs.length) := by
  have := putL_perm ys off xs xs.length (Nat.le_refl _)
  rwa [List.take_length] at this
theorem putK_le (ys : List Nat) (off r : Nat) : putK ys off r ≤ r := by
  unfold putK
  have := Nat.mod_lt (turnL ys (r + off)) (show 0 < r + 1 by omega)
  omega
end Go.Proofs.Ytpdldmichpmgmaa
