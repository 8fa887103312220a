/- Layer 7, plain: what a shop that is right, and casts that are seen, are; the casts of a shop are few; plans in both ways. Nothing of a program stands here. -/
import Derived.Test.YtpdldmichpmgmaaGreatCCastPure
set_option linter.unusedVariables false
set_option linter.unusedSimpArgs false
set_option linter.all false
namespace Go.Proofs.YtpdldmichpmgmaaGreat

/-- a shop that is right -/
structure OkS (s : Shop) : Prop where
  shrink : 0 ≤ s.klo ∧ s.klo ≤ s.khi ∧ s.khi ≤ s.klo + 6 ∧ s.khi ≤ 100
  nm : 1 ≤ s.moulds.length ∧ s.moulds.length ≤ 4
  mould : ∀ {k : Nat}, k < s.moulds.length → mouldE s.moulds k = 0
theorem okS_of {s : Shop} (e : (check7 s).2.2 = 0) : OkS s := by
  unfold check7 at e
  split at e
  · cases e
  · split at e
    · cases e
    · split at e
      · cases e
      · rename_i g1 g2 g3
        simp [inB] at g1 g2
        rcases firstErr_cases (mouldE s.moulds) s.moulds.length with ⟨h4, h5⟩ | ⟨k, _, h4, h5, _⟩
        · exact ⟨by omega, by omega, fun hk => h5 _ hk⟩
        · rw [h4] at e; exact absurd e h5
theorem mouldE_zero {l : List Mould} {k : Nat} {x : Mould} (h : l[k]? = some x) (he : mouldE l k = 0) : (1 ≤ x.slo ∧ x.slo ≤ x.shi ∧ x.shi ≤ x.slo + 12 ∧ x.shi ≤ 20000) ∧ (0 ≤ x.wlo ∧ x.wlo ≤ x.whi ∧ x.whi ≤ x.wlo + 3 ∧ x.whi ≤ 20) ∧ 1 ≤ x.casts ∧ x.casts ≤ 8 := by
  unfold mouldE at he
  rw [getD_of h] at he
  dsimp only at he
  split at he
  · rename_i h1; exact absurd he h1
  · unfold mouldN at he
    split at he
    · cases he
    · split at he
      · cases he
      · rename_i h2 h3
        simp [inB] at h2 h3
        omega
theorem seen7_bad {s : Shop} {l : List SeenC} (h : err7 s ≠ 0) : seen7 s l = (0, err7 s) := by rw [seen7, if_pos h]
theorem seen7_long {s : Shop} {l : List SeenC} (h : err7 s = 0) (h2 : 6 < l.length) : seen7 s l = (0, 3) := by rw [seen7, if_neg (by simp [h]), if_pos h2]
theorem seen7_n {s : Shop} {l : List SeenC} (h : err7 s = 0) (h2 : ¬ 6 < l.length) : seen7 s l = match firstErr (seenE7 s l) l.length with
    | some (k, e) => ((k : Int), e)
    | none => (0, 0) := by rw [seen7, if_neg (by simp [h]), if_neg h2]; rfl
theorem seen7_zero {s : Shop} {l : List SeenC} (e : (seen7 s l).2 = 0) : (check7 s).2.2 = 0 ∧ l.length ≤ 6 ∧ ∀ k, k < l.length → seenE7 s l k = 0 := by
  by_cases h1 : err7 s = 0
  · by_cases h2 : 6 < l.length
    · rw [seen7_long h1 h2] at e; cases e
    · rw [seen7_n h1 h2] at e
      rcases firstErr_cases (seenE7 s l) l.length with ⟨_, h3⟩ | ⟨k, _, h4, h5, _⟩
      · exact ⟨h1, by omega, h3⟩
      · rw [h4] at e; exact absurd e h5
  · rw [seen7_bad h1] at e; exact absurd e h1
theorem seen7_one {s : Shop} {l : List SeenC} {k : Nat} {y : SeenC} (h : l[k]? = some y) (e : seenE7 s l k = 0) : (0 ≤ y.mould ∧ y.mould < s.moulds.length) ∧ (0 ≤ y.cast ∧ y.cast < (s.moulds.getD y.mould.toNat dMould).casts) ∧ 0 ≤ y.lo ∧ y.lo ≤ y.hi ∧ y.hi ≤ 20000 := by
  unfold seenE7 at e
  rw [getD_of h] at e
  dsimp only at e
  split at e
  · cases e
  · rename_i g1
    unfold there7 at g1
    simp [inB] at g1
    unfold rangeE at e
    split at e
    · cases e
    · split at e
      · cases e
      · rename_i g2 g3
        simp [inB] at g2 g3
        rw [List.getD_eq_getElem?_getD]
        omega
theorem made7_bd {a w c k : Int} (h1 : 1 ≤ a ∧ a ≤ 20000) (h2 : 0 ≤ w ∧ w ≤ 20) (h3 : 0 ≤ c ∧ c ≤ 8) (h4 : 0 ≤ k ∧ k ≤ 100) : 0 ≤ w * c ∧ w * c ≤ 160 ∧ 0 ≤ (a + w * c) * k ∧ (a + w * c) * k ≤ 2016000 ∧ 1 ≤ made7 a w c k ∧ made7 a w c k ≤ 20160 := by
  have q1 : 0 ≤ w * c := Int.mul_nonneg h2.1 h3.1
  have q2 : w * c ≤ 20 * 8 := Int.mul_le_mul h2.2 h3.2 h3.1 (by decide)
  obtain ⟨n, hn⟩ : ∃ n, a + w * c = n := ⟨_, rfl⟩
  have q3 : 0 ≤ n * k := Int.mul_nonneg (by omega) h4.1
  have q4 : n * k ≤ n * 100 := Int.mul_le_mul_of_nonneg_left h4.2 (by omega)
  have hq : (n * k).tdiv 1000 = (n * k) / 1000 := Int.tdiv_eq_ediv_of_nonneg q3
  unfold made7
  rw [hn, hq]
  omega
theorem twos7_bd {s : Shop} {l : List SeenC} {m : Nat} {k : Int} (hk : OkS s) (hm : m < s.moulds.length) {p : Int × Int} (hp : p ∈ twosC s l m k) : (1 ≤ p.1 ∧ p.1 ≤ 20000) ∧ 0 ≤ p.2 ∧ p.2 ≤ 20 := by
  have hx : s.moulds[m]? = some s.moulds[m] := List.getElem?_eq_getElem hm
  have hz := mouldE_zero hx (hk.mould hm)
  unfold twosC at hp
  rw [getD_of hx] at hp
  obtain ⟨hm1, _⟩ := List.mem_filter.1 hp
  obtain ⟨j, hk2, rfl⟩ := List.mem_map.1 hm1
  have hk3 := List.mem_range.1 hk2
  generalize s.moulds[m] = x at *
  have hs : 0 < wearN x := by unfold wearN; omega
  have hd : j / wearN x < sizeN x := by rw [Nat.mul_comm] at hk3; exact Nat.div_lt_of_lt_mul hk3
  have hm2 : j % wearN x < wearN x := Nat.mod_lt _ hs
  unfold pairC
  dsimp only
  generalize j / wearN x = d at *
  generalize j % wearN x = e at *
  unfold sizeN at hd
  unfold wearN at hm2
  omega
theorem shrinkL_bd {s : Shop} (hk : OkS s) {k : Int} (h : k ∈ shrinkL s) : 0 ≤ k ∧ k ≤ 100 ∧ s.klo ≤ k ∧ k ≤ s.khi := by
  unfold shrinkL at h
  obtain ⟨i, hi, rfl⟩ := List.mem_map.1 h
  have := List.mem_range.1 hi
  have := hk.shrink
  omega
theorem known7_mem {s : Shop} {l : List SeenC} {k : Int} (h : k ∈ known7 s l) : k ∈ shrinkL s ∧ knownB s l k = true := List.mem_filter.1 h
theorem known7_two {s : Shop} {l : List SeenC} {k : Int} {m : Nat} (h : knownB s l k = true) (hm : m < s.moulds.length) : twosC s l m k ≠ [] := by
  unfold knownB at h
  rw [List.all_eq_true] at h
  have := h m (List.mem_range.2 hm)
  simpa using this

theorem places_len {s : Shop} (hk : OkS s) : (placesL s).length ≤ 32 := by
  unfold placesL
  have key : ∀ n : Nat, n ≤ s.moulds.length → ((List.range n).flatMap fun m => (List.range (s.moulds.getD m dMould).casts.toNat).map fun c => (m, c)).length ≤ n * 8 := by
    intro n
    induction n with
    | zero => intro _; simp
    | succ n ih =>
      intro hn
      rw [List.range_succ, List.flatMap_append, List.length_append, List.flatMap_singleton, List.length_map, List.length_range]
      have := ih (by omega)
      have hx : s.moulds[n]? = some s.moulds[n] := List.getElem?_eq_getElem (by omega)
      have hz := (mouldE_zero hx (hk.mould (by omega))).2.2
      rw [getD_of hx]
      omega
  have := key s.moulds.length (Nat.le_refl _)
  have := hk.nm.2
  omega
theorem places_mem {s : Shop} {p : Nat × Nat} : p ∈ placesL s ↔ p.1 < s.moulds.length ∧ (p.2 : Int) < (s.moulds.getD p.1 dMould).casts := by
  unfold placesL
  rw [List.mem_flatMap]
  constructor
  · rintro ⟨m, hm, h⟩
    obtain ⟨c, hc, rfl⟩ := List.mem_map.1 h
    have := List.mem_range.1 hc
    exact ⟨List.mem_range.1 hm, by dsimp only; omega⟩
  · rintro ⟨h1, h2⟩
    exact ⟨p.1, List.mem_range.2 h1, List.mem_map.2 ⟨p.2, List.mem_range.2 (by omega), rfl⟩⟩
theorem places_nodup (s : Shop) : (placesL s).Nodup := by
  unfold placesL List.Nodup
  rw [List.pairwise_flatMap]
  refine ⟨fun m _ => ?_, ?_⟩
  · rw [List.pairwise_map]
    exact List.nodup_range.imp fun hne e => hne (by injection e)
  · refine List.nodup_range.imp fun hne => ?_
    intro a ha b hb e
    obtain ⟨c, _, rfl⟩ := List.mem_map.1 ha
    obtain ⟨d, _, rfl⟩ := List.mem_map.1 hb
    injection e with e _
    exact hne e
end Go.Proofs.YtpdldmichpmgmaaGreat
