/- Walks: promises of a drawn region that keeps what it reckons in a new block of two numbers. -/
import Derived.Test.YtpdldmichpmgmaaCKBases
import Derived.Test.YtpdldmichpmgmaaCTRegs
set_option linter.unusedVariables false
set_option linter.unusedSimpArgs false
set_option linter.all false
namespace Go.Proofs.Ytpdldmichpmgmaa
open Go.RowKit Go.Shelf

/-- the operations ahead of number p have the values of a list; number p makes a block of type t, which holds z, and v behind the next operation -/
def stE (B : Nat) (t : TypeId) (z v : Array Value) (L : List Value) (p : Nat) : Nat → Bool → Value → World → Prop := fun i b x W =>
  if i < p then x = L.getD i undef else if i = p then ∃ g, B ≤ g ∧ x = .pointer (some ⟨g, 0, none⟩) ∧ Blk W g t (if b then v else z) else True
theorem stE_stab (B : Nat) (t : TypeId) (z v : Array Value) (L : List Value) (p : Nat) : ∀ i b x w w', Below w.heap.size w w' → stE B t z v L p i b x w → stE B t z v L p i b x w' := by
  intro i b x w w' hb h
  unfold stE at h ⊢
  split
  · rename_i hi; rw [if_pos hi] at h; exact h
  · rename_i hi
    rw [if_neg hi] at h
    split
    · rename_i hp
      rw [if_pos hp] at h
      obtain ⟨g, h1, h2, h3⟩ := h
      exact ⟨g, h1, h2, h3.bl hb⟩
    · trivial
theorem stE_get {B : Nat} {t : TypeId} {z v : Array Value} {L : List Value} {p i : Nat} {b : Bool} {x y : Value} {W : World} (h : stE B t z v L p i b x W) (hi : i < p) (hy : L.getD i undef = y) : x = y := by
  unfold stE at h
  rw [if_pos hi] at h
  rw [h, hy]
theorem stE_put {B : Nat} {t : TypeId} {z v : Array Value} {L : List Value} {p i : Nat} {b : Bool} {x : Value} {W : World} (hi : i < p) (hy : L.getD i undef = x) : stE B t z v L p i b x W := by
  unfold stE
  rw [if_pos hi, hy]
theorem stE_new {B : Nat} {t : TypeId} {z v : Array Value} {L : List Value} {p : Nat} {W : World} (hB : B ≤ W.heap.size) {b : Bool} (hb : b = false) : stE B t z v L p p b (.pointer (some ⟨W.heap.size, 0, none⟩)) (W.alloc (.cells z t)) := by
  subst hb
  unfold stE
  rw [if_neg (Nat.lt_irrefl _), if_pos rfl]
  exact ⟨_, hB, rfl, Blk.new _ _ _ rfl⟩
theorem stE_at {B : Nat} {t : TypeId} {z v : Array Value} {L : List Value} {p : Nat} {b : Bool} {x : Value} {W : World} (h : stE B t z v L p p b x W) : ∃ g, B ≤ g ∧ x = .pointer (some ⟨g, 0, none⟩) ∧ Blk W g t (if b then v else z) := by
  unfold stE at h
  rw [if_neg (Nat.lt_irrefl _), if_pos rfl] at h
  exact h
/-- the store: what stands ahead stays, the block holds v -/
theorem stE_store {B : Nat} {W0 W W' : World} {t : TypeId} {z v : Array Value} {L : List Value} {p g : Nat} {ls : Nat → Bool} {vs : Nat → Value} {x : Value} (hI : InvE B W0 (stE B t z v L p) (p + 1) ls vs W) (hb : Below B W W') (hp : vs p = .pointer (some ⟨g, 0, none⟩)) (hg : B ≤ g) (hv : Blk W' g t v) :
    InvE B W0 (stE B t z v L p) (p + 1) (updB ls (p + 1)) (updV vs (p + 1) x) W' := by
  refine ⟨hI.1.trans hb, fun i hi => ?_⟩
  have h0 : updB ls (p + 1) (p + 1) = true := by unfold updB; rw [if_pos rfl]
  rw [h0]
  by_cases h1 : i < p
  · have hl : ls i = true := by unfold updB at hi; rw [if_neg (by omega)] at hi; exact hi
    have he : updV vs (p + 1) x i = vs i := by unfold updV; rw [if_neg (by omega)]
    have := hI.2 i hl
    rw [he]
    unfold stE at this ⊢
    rw [if_pos h1] at this ⊢
    exact this
  · by_cases h2 : i = p
    · subst h2
      have he : updV vs (i + 1) x i = vs i := by unfold updV; rw [if_neg (by omega)]
      rw [he]
      unfold stE
      rw [if_neg (Nat.lt_irrefl _), if_pos rfl]
      exact ⟨g, hg, hp, hv⟩
    · unfold stE
      rw [if_neg h1, if_neg h2]
      trivial
end Go.Proofs.Ytpdldmichpmgmaa
