/- Plain: the least of some layings. Nothing of a program stands here. -/
import Derived.Test.YtnaadjhiahjlfaaCTilePure2
set_option linter.unusedVariables false
set_option linter.unusedSimpArgs false
set_option linter.all false
namespace Go.Proofs.Ytnaadjhiahjlfaa

/-- the least is one of them, and none is less -/
theorem least_spec : ∀ (X : List (List (List Int) × Int)) (o : Option (List (List Int) × Int)), (∀ x ∈ X, ∃ z, X.foldl betterL o = some z ∧ z.2 ≤ x.2) ∧ (∀ z, o = some z → ∃ u, X.foldl betterL o = some u ∧ u.2 ≤ z.2) ∧ (∀ z, X.foldl betterL o = some z → o = some z ∨ z ∈ X) := by
  intro X
  induction X with
  | nil => intro o; exact ⟨fun x hx => (by cases hx), fun z hz => ⟨z, hz, Int.le_refl _⟩, fun z hz => .inl hz⟩
  | cons x X ih =>
    intro o
    obtain ⟨h1, h2, h3⟩ := ih (betterL o x)
    rw [List.foldl_cons]
    have hb : ∃ b, betterL o x = some b ∧ b.2 ≤ x.2 ∧ (∀ z, o = some z → b.2 ≤ z.2) ∧ (o = some b ∨ b = x) := by
      unfold betterL
      cases o with
      | none => exact ⟨x, rfl, Int.le_refl _, (fun z hz => by cases hz), .inr rfl⟩
      | some z =>
        dsimp only
        by_cases hlt : x.2 < z.2
        · rw [if_pos hlt]; exact ⟨x, rfl, Int.le_refl _, (fun u hu => by cases hu; omega), .inr rfl⟩
        · rw [if_neg hlt]; exact ⟨z, rfl, by omega, (fun u hu => by cases hu; exact Int.le_refl _), .inl rfl⟩
    obtain ⟨b, hb1, hb2, hb3, hb4⟩ := hb
    obtain ⟨u, hu1, hu2⟩ := h2 b hb1
    refine ⟨fun z hz => ?_, fun z hz => ⟨u, hu1, by have := hb3 z hz; omega⟩, fun z hz => ?_⟩
    · rcases List.mem_cons.1 hz with rfl | hz
      · exact ⟨u, hu1, by omega⟩
      · exact h1 z hz
    · rcases h3 z hz with h4 | h4
      · rw [hb1] at h4
        have h4 := Option.some.inj h4
        subst h4
        rcases hb4 with h5 | h5
        · exact .inl h5
        · exact .inr (by rw [h5]; exact List.mem_cons_self)
      · exact .inr (List.mem_cons_of_mem _ h4)

end Go.Proofs.Ytnaadjhiahjlfaa
