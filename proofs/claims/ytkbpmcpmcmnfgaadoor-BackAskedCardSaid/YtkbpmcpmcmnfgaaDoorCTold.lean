/- Layer 12, plain: one more measure. -/
import Derived.Test.YtkbpmcpmcmnfgaaDoorCFewer
import Derived.Test.YtkbpmcpmcmnfgaaDoorCHelp2
set_option linter.unusedVariables false
set_option linter.unusedSimpArgs false
set_option linter.all false
namespace Go.Proofs.YtkbpmcpmcmnfgaaDoor

section
variable {c : Claim} {y : Meas}
theorem lenUpto_with (t : List Int) (f : Nat) : ∀ k, lenUpto (withC c y) t f k = lenUpto c t f k := by
  intro k
  induction k with
  | zero => rfl
  | succ k ih => rw [lenUpto, lenUpto, ih]; rfl
theorem len_with (t : List Int) (f : Nat) : len (withC c y) t f = len c t f := lenUpto_with t f _
theorem measOk_with (t : List Int) (x : Meas) : measOk (withC c y) t x = measOk c t x := measOk_congr (c := c) (d := withC c y) rfl (fun f => len_with t f) x
theorem agree_with {t : List Int} : t ∈ agreeL (withC c y) ↔ t ∈ agreeL c ∧ measOk c t y = true := by
  rw [agree_mem, agree_mem]
  have hm : ∀ x, x ∈ (withC c y).meas ↔ x ∈ c.meas ∨ x = y := fun x => by show x ∈ c.meas ++ [y] ↔ _; simp
  constructor
  · rintro ⟨h1, h2⟩
    exact ⟨⟨h1, fun x hx => by rw [← measOk_with (y := y)]; exact h2 x ((hm x).2 (.inl hx))⟩, by rw [← measOk_with (y := y)]; exact h2 y ((hm y).2 (.inr rfl))⟩
  · rintro ⟨⟨h1, h2⟩, h3⟩
    refine ⟨h1, fun x hx => ?_⟩
    rw [measOk_with]
    rcases (hm x).1 hx with h | rfl
    · exact h2 x h
    · exact h3
theorem err_with (h : err (withC c y) = 0) : err c = 0 := by
  obtain ⟨h1, h2, h3, h4, h5, h6⟩ := check_zero h
  have hl : (withC c y).meas.length = c.meas.length + 1 := by show (c.meas ++ [y]).length = _; simp
  unfold err
  rw [check_ok (c := c) h1 h2 h3 h4 (by omega) (fun j hj => ?_)]
  have hx := List.getElem?_eq_getElem hj
  have h7 := h6 j (by omega)
  have hx2 : (withC c y).meas[j]? = some c.meas[j] := by show (c.meas ++ [y])[j]? = _; rw [List.getElem?_append_left hj]; exact hx
  rw [measE_get hx2] at h7
  rw [measE_get hx]
  exact h7
theorem must_with : partL (mustL c) (mustL (withC c y)) = true := by
  rw [partL_iff]
  intro x hx
  obtain ⟨i, rfl⟩ := must_nat hx
  obtain ⟨h1, h2⟩ := mem_must.1 hx
  exact mem_must.2 ⟨h1, fun t ht => h2 t (agree_with.1 ht).1⟩
theorem may_nat {d : Claim} {x : Int} (h : x ∈ mayL d) : ∃ i : Nat, x = i := by
  obtain ⟨k, _, rfl⟩ := List.mem_map.1 h
  exact ⟨k, rfl⟩
theorem may_with : partL (mayL (withC c y)) (mayL c) = true := by
  rw [partL_iff]
  intro x hx
  obtain ⟨i, rfl⟩ := may_nat hx
  obtain ⟨h1, t, ht, h2⟩ := mem_may.1 hx
  exact mem_may.2 ⟨h1, t, (agree_with.1 ht).1, h2⟩
theorem ends_sub {L M : List Int} (hL : L ≠ []) (h : ∀ x ∈ L, x ∈ M) : (endsOf M).1 ≤ (endsOf L).1 ∧ (endsOf L).2 ≤ (endsOf M).2 := by
  obtain ⟨h1, h2, _⟩ := endsOf_at hL
  have hM : M ≠ [] := List.ne_nil_of_mem (h _ h1)
  obtain ⟨_, _, h3⟩ := endsOf_at hM
  exact ⟨(h3 _ (h _ h1)).1, (h3 _ (h _ h2)).2⟩
theorem value_with (h : err (withC c y) = 0) (ha : agreeL (withC c y) ≠ []) {f : Nat} (hf : f < c.feats.length) : ∃ a b a' b', valueR c f = ((a, b), 0) ∧ valueR (withC c y) f = ((a', b'), 0) ∧ a ≤ a' ∧ b' ≤ b := by
  have hc : agreeL c ≠ [] := by
    obtain ⟨t, ht⟩ := List.exists_mem_of_ne_nil _ ha
    exact List.ne_nil_of_mem (agree_with.1 ht).1
  have h1 := value_ok (err_with h) hc hf
  have h2 := value_ok h ha (f := f) hf
  have h3 := ends_sub (L := (agreeL (withC c y)).map fun t => len (withC c y) t f) (M := (agreeL c).map fun t => len c t f) (by simpa using ha) (fun x hx => by
    obtain ⟨t, ht, rfl⟩ := List.mem_map.1 hx
    exact List.mem_map.2 ⟨t, (agree_with.1 ht).1, (len_with t f).symm⟩)
  exact ⟨_, _, _, _, h1, h2, h3.1, h3.2⟩
theorem amount_with (h : err (withC c y) = 0) (ha : agreeL (withC c y) ≠ []) {i : Nat} (hi : i < c.causes.length) : ∃ a b a' b', amountR c i = ((a, b), 0) ∧ amountR (withC c y) i = ((a', b'), 0) ∧ a ≤ a' ∧ b' ≤ b := by
  have hc : agreeL c ≠ [] := by
    obtain ⟨t, ht⟩ := List.exists_mem_of_ne_nil _ ha
    exact List.ne_nil_of_mem (agree_with.1 ht).1
  have h1 := amount_ok (err_with h) hc hi
  have h2 := amount_ok h ha (i := i) hi
  have h3 := ends_sub (L := (agreeL (withC c y)).map fun t => t.getD i 0) (M := (agreeL c).map fun t => t.getD i 0) (by simpa using ha) (fun x hx => by
    obtain ⟨t, ht, rfl⟩ := List.mem_map.1 hx
    exact List.mem_map.2 ⟨t, (agree_with.1 ht).1, rfl⟩)
  exact ⟨_, _, _, _, h1, h2, h3.1, h3.2⟩
theorem agree_some (ha : agreeL (withC c y) ≠ []) : agreeL c ≠ [] := by
  obtain ⟨t, ht⟩ := List.exists_mem_of_ne_nil _ ha
  exact List.ne_nil_of_mem (agree_with.1 ht).1
/-- the errors of Must -/
theorem err8_two (h : err c = 0) : (mustR c).2.2 = 0 ∨ (mustR c).2.2 = 8 := by
  by_cases ha : agreeL c = []
  · right; rw [must_none h ha]
  · left; rw [must_ok h ha]
end

end Go.Proofs.YtkbpmcpmcmnfgaaDoor
