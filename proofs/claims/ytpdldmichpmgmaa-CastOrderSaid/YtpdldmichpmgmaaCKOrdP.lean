/- Layer 7, plain: in any order what is seen leads to the same plan; pieces in another order, and one piece fewer, need no more moulds. Nothing of a program is stepped through here. -/
import Derived.Test.YtpdldmichpmgmaaCKMorP
import Derived.Test.YtpdldmichpmgmaaCKPlanP
set_option linter.unusedVariables false
set_option linter.unusedSimpArgs false
set_option linter.all false
namespace Go.Proofs.Ytpdldmichpmgmaa

section
variable {s : Shop} {l l' : List SeenC}
theorem twoOk_perm (h : l.Perm l') (m : Nat) (k a w : Int) : twoOk7 l m k a w = twoOk7 l' m k a w := by
  rw [Bool.eq_iff_iff, twoOk_iff, twoOk_iff]
  exact ⟨fun g y hy => g y (h.mem_iff.2 hy), fun g y hy => g y (h.mem_iff.1 hy)⟩
theorem twosC_perm (h : l.Perm l') : twosC s l = twosC s l' := by
  funext m k
  unfold twosC
  simp only [twoOk_perm h]
theorem known7_perm (h : l.Perm l') : known7 s l = known7 s l' := by
  have e : knownB s l = knownB s l' := by
    funext k
    unfold knownB
    rw [twosC_perm h]
  unfold known7
  rw [e]
theorem allL_perm (h : l.Perm l') (p : List (Int × Int)) : allL s l p = allL s l' p := by
  unfold allL fit7 size7 madeL
  rw [known7_perm h, twosC_perm h]
theorem seen7_perm (h : l.Perm l') (e : (seen7 s l).2 = 0) : (seen7 s l').2 = 0 := by
  obtain ⟨h1, h2, h3⟩ := seen7_zero e
  rw [seen7_ok h1 (by rw [← h.length_eq]; exact h2) fun k hk => ?_]
  have hg : l'[k]? = some l'[k] := List.getElem?_eq_getElem hk
  obtain ⟨k2, hk2, e2⟩ := List.getElem_of_mem (h.mem_iff.2 (List.getElem_mem hk))
  have := h3 k2 hk2
  unfold seenE7 at this ⊢
  rw [getD_of (List.getElem?_eq_getElem hk2), e2] at this
  rw [getD_of hg]
  exact this
theorem order_perm {p : List (Int × Int)} (h : l.Perm l') (e : orderE s l p = 0) : orderE s l' p = 0 := by
  obtain ⟨_, hne, h1, h6⟩ := order_zero e
  obtain ⟨e1, e2⟩ := order_parts e
  exact order_of (seen7_perm h e1) (by rw [← known7_perm h]; exact hne) h1 h6 e2
theorem plan_perm {p : List (Int × Int)} (h : l.Perm l') (e : orderE s l p = 0) : planR s l p = planR s l' p := by
  unfold planR
  rw [e, order_perm h e, allL_perm h]
end

/-- one list goes with another, thing by thing -/
def F2 {α β : Type} (R : α → β → Prop) : List α → List β → Prop
  | [], [] => True
  | a :: Q, b :: o => R a b ∧ F2 R Q o
  | _, _ => False
theorem F2.perm {α β : Type} {R : α → β → Prop} {o o' : List β} (h : o.Perm o') : ∀ Q : List α, F2 R Q o → ∃ Q', Q.Perm Q' ∧ F2 R Q' o' := by
  induction h with
  | nil => exact fun Q h => ⟨Q, .refl _, h⟩
  | cons x _ ih =>
    intro Q h
    match Q, h with
    | a :: Q, h =>
      obtain ⟨Q2, h1, h2⟩ := ih Q h.2
      exact ⟨a :: Q2, h1.cons a, h.1, h2⟩
  | swap x y o =>
    intro Q h
    match Q, h with
    | a :: b :: Q, h => exact ⟨b :: a :: Q, .swap b a Q, h.2.1, h.1, h.2.2⟩
  | trans _ _ ih1 ih2 =>
    intro Q h
    obtain ⟨Q2, h1, h2⟩ := ih1 Q h
    obtain ⟨Q3, h3, h4⟩ := ih2 Q2 h2
    exact ⟨Q3, h1.trans h3, h4⟩
theorem F2.of {α β : Type} {R : α → β → Prop} {d : β} : ∀ (o : List β) (M : Nat → α), (∀ j, j < o.length → R (M j) (o.getD j d)) → F2 R ((List.range o.length).map M) o
  | [], M, _ => trivial
  | b :: o, M, h => by
    rw [List.length_cons, List.range_succ_eq_map, List.map_cons, List.map_map]
    exact ⟨h 0 (by simp), F2.of o (M ∘ Nat.succ) fun j hj => h (j + 1) (by simp; omega)⟩
theorem F2.get {α β : Type} {R : α → β → Prop} {d : α} {d' : β} : ∀ (Q : List α) (o : List β), F2 R Q o → Q.length = o.length ∧ ∀ j, j < o.length → R (Q.getD j d) (o.getD j d')
  | [], [], _ => ⟨rfl, fun j hj => by simp at hj⟩
  | a :: Q, b :: o, h => by
    obtain ⟨h1, h2⟩ := F2.get (d := d) (d' := d') Q o h.2
    refine ⟨by simp [h1], fun j hj => ?_⟩
    cases j with
    | zero => exact h.1
    | succ j => exact h2 j (by simp at hj; omega)
def RP (set : List Int) (a : Pl) (os : List Pl) : Prop := a ∈ os ∧ hasN set a.1 = true
theorem canS_f2 {o : List (List Pl)} {set : List Int} : CanS o set ↔ ∃ Q : List Pl, Q.Nodup ∧ F2 (RP set) Q o := by
  constructor
  · rintro ⟨M, h1, h2⟩
    refine ⟨(List.range o.length).map M, map_nodup List.nodup_range fun i hi j hj e => h2 i j (List.mem_range.1 hi) (List.mem_range.1 hj) rfl rfl e, F2.of (d := []) o M fun j hj => ⟨(h1 j hj rfl).1, (h1 j hj rfl).2.1⟩⟩
  · rintro ⟨Q, h1, h2⟩
    obtain ⟨h3, h4⟩ := F2.get (d := (0, 0)) (d' := []) Q o h2
    refine ⟨fun j => Q.getD j (0, 0), fun j hj _ => ⟨(h4 j hj).1, (h4 j hj).2, by simp⟩, fun i j hi hj _ _ e => ?_⟩
    have hi' : i < Q.length := by omega
    have hj' : j < Q.length := by omega
    dsimp only at e
    rw [getD_of (List.getElem?_eq_getElem hi'), getD_of (List.getElem?_eq_getElem hj')] at e
    exact (List.getElem_inj h1).1 e
theorem canS_perm {o o' : List (List Pl)} {set : List Int} (h : o.Perm o') (hc : CanS o set) : CanS o' set := by
  obtain ⟨Q, h1, h2⟩ := canS_f2.1 hc
  obtain ⟨Q2, h3, h4⟩ := F2.perm h Q h2
  exact canS_f2.2 ⟨Q2, h3.nodup h1, h4⟩
theorem canS_tail {b : List Pl} {o : List (List Pl)} {set : List Int} (hc : CanS (b :: o) set) : CanS o set := by
  obtain ⟨Q, h1, h2⟩ := canS_f2.1 hc
  match Q, h1, h2 with
  | a :: Q, h1, h2 => exact canS_f2.2 ⟨Q, (List.nodup_cons.1 h1).2, h2.2⟩
theorem first_one {α : Type} {P : α → Prop} : ∀ {A B A' B' : List α} {u v : α}, A ++ u :: B = A' ++ v :: B' → (∀ t ∈ A, ¬ P t) → P u → (∀ t ∈ A', ¬ P t) → P v → u = v
  | [], _, [], _, u, v, h, _, _, _, _ => by injection h
  | [], _, x :: A', _, u, v, h, _, hu, h', _ => by
    injection h with h1 _
    exact absurd (h1 ▸ hu) (h' x (by simp))
  | x :: A, _, [], _, u, v, h, hA, _, _, hv => by
    injection h with h1 _
    exact absurd (h1 ▸ hv) (hA x (by simp))
  | x :: A, _, y :: A', _, u, v, h, hA, hu, h', hv => by
    injection h with _ h2
    exact first_one h2 (fun t ht => hA t (by simp [ht])) hu (fun t ht => h' t (by simp [ht])) hv
/-- pieces in another order: the same moulds, the same error -/
theorem plan_order {s : Shop} {l : List SeenC} {p p' : List (Int × Int)} (h : p.Perm p') (e : orderE s l p = 0) (e' : orderE s l p' = 0) : (planR s l p).2 = (planR s l p').2 := by
  have hp : (allL s l p).Perm (allL s l p') := by unfold allL; exact h.map _
  rcases plan_cases e with ⟨A, u, B, e1, e2, e3, e4⟩ | ⟨f1, f2⟩
  · rcases plan_cases e' with ⟨A', v, B', g1, g2, g3, g4⟩ | ⟨g1, g2⟩
    · have : u = v := first_one (P := CanS (allL s l p)) (e1.symm.trans g1) e2 e3 (fun t ht hc => g2 t ht (canS_perm hp hc)) (canS_perm hp.symm g3)
      rw [e4, g4, this]
    · exact absurd (canS_perm hp e3) (g1 u (by rw [e1]; simp))
  · rcases plan_cases e' with ⟨A', v, B', g1, g2, g3, g4⟩ | ⟨g1, g2⟩
    · exact absurd (canS_perm hp.symm g3) (f1 v (by rw [g1]; simp))
    · rw [f2, g2]
theorem order_order {s : Shop} {l : List SeenC} {p p' : List (Int × Int)} (h : p.Perm p') (e : orderE s l p = 0) : orderE s l p' = 0 := by
  obtain ⟨_, hne, h1, h6⟩ := order_zero e
  obtain ⟨e1, e2⟩ := order_parts e
  refine order_of e1 hne (by rw [← h.length_eq]; exact h1) (by rw [← h.length_eq]; exact h6) fun j hj => ?_
  obtain ⟨k2, hk2, q2⟩ := List.getElem_of_mem (h.mem_iff.2 (List.getElem_mem hj))
  have := e2 k2 hk2
  unfold spanE7 at this ⊢
  rw [getD_of (List.getElem?_eq_getElem hk2), q2] at this
  rw [getD_of (List.getElem?_eq_getElem hj)]
  exact this
/-- one piece fewer needs no more moulds -/
theorem plan_fewer {s : Shop} {l : List SeenC} {x : Int × Int} {p : List (Int × Int)} (e : orderE s l (x :: p) = 0) (hp : 1 ≤ p.length) : (planR s l (x :: p)).2.2 = 8 ∨ ((planR s l (x :: p)).2.2 = 0 ∧ (planR s l p).2.2 = 0 ∧ (planR s l p).2.1.length ≤ (planR s l (x :: p)).2.1.length) := by
  obtain ⟨_, hne, _, h6⟩ := order_zero e
  obtain ⟨e1, e2⟩ := order_parts e
  have e' : orderE s l p = 0 := order_of e1 hne hp (by simp at h6; omega) fun j hj => e2 (j + 1) (by simp; omega)
  rcases plan_cases e with ⟨A, u, B, a1, a2, a3, a4⟩ | ⟨_, f2⟩
  · right
    have hc : CanS (allL s l p) u := canS_tail (b := fit7 s l x.1 x.2) (by have := a3; unfold allL at this ⊢; exact this)
    have hmem : u ∈ setsL s.moulds.length := by rw [a1]; simp
    rcases plan_cases e' with ⟨A', v, B', g1, g2, g3, g4⟩ | ⟨g1, g2⟩
    · refine ⟨by rw [a4], by rw [g4], ?_⟩
      rw [a4, g4]
      dsimp only
      have ho := sets_order s.moulds.length
      rw [g1] at hmem ho
      rw [List.pairwise_append] at ho
      rcases List.mem_append.1 hmem with hm | hm
      · exact absurd hc (g2 u hm)
      · rcases List.mem_cons.1 hm with hm | hm
        · rw [hm]; exact Nat.le_refl _
        · exact (List.pairwise_cons.1 ho.2.1).1 u hm
    · exact absurd hc (g1 u hmem)
  · exact .inl (by rw [f2])
end Go.Proofs.Ytpdldmichpmgmaa
