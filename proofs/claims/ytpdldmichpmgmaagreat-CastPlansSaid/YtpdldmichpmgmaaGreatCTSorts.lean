/- Plain: the order of lists, and the tiles that fit a row, in order. Nothing of a program stands here. -/
import Derived.Test.YtpdldmichpmgmaaGreatCTFits
set_option linter.unusedVariables false
set_option linter.unusedSimpArgs false
set_option linter.all false
namespace Go.Proofs.YtpdldmichpmgmaaGreat

def cmpI (x y : Int) : Int := if x < y then -1 else if y < x then 1 else 0
def lexC : List Int → List Int → Int
  | [], [] => 0
  | [], _ :: _ => -1
  | _ :: _, [] => 1
  | x :: xs, y :: ys => if cmpI x y = 0 then lexC xs ys else cmpI x y
theorem cmpI_zero {x y : Int} : cmpI x y = 0 ↔ x = y := by unfold cmpI; split <;> (try split) <;> omega
theorem cmpI_neg {x y : Int} : cmpI x y < 0 ↔ x < y := by unfold cmpI; split <;> (try split) <;> omega
theorem lexC_refl : ∀ xs : List Int, lexC xs xs = 0 := by
  intro xs
  induction xs with
  | nil => rfl
  | cons x xs ih => rw [lexC, if_pos (cmpI_zero.2 rfl), ih]
theorem lexC_neg {x y : Int} {xs ys : List Int} : lexC (x :: xs) (y :: ys) < 0 ↔ x < y ∨ (x = y ∧ lexC xs ys < 0) := by
  rw [lexC]
  by_cases h : x = y
  · rw [if_pos (cmpI_zero.2 h)]; subst h; simp
  · rw [if_neg (fun e => h (cmpI_zero.1 e)), cmpI_neg]; simp [h]
theorem lexC_trans : ∀ xs ys zs : List Int, lexC xs ys < 0 → lexC ys zs < 0 → lexC xs zs < 0 := by
  intro xs
  induction xs with
  | nil =>
    intro ys zs h1 h2
    cases zs with
    | nil => cases ys with
      | nil => exact h1
      | cons y ys => simp [lexC] at h2
    | cons z zs => simp [lexC]
  | cons x xs ih =>
    intro ys zs h1 h2
    cases ys with
    | nil => simp [lexC] at h1
    | cons y ys =>
      cases zs with
      | nil => simp [lexC] at h2
      | cons z zs =>
        rw [lexC_neg] at h1 h2 ⊢
        rcases h1 with h1 | ⟨h1, h1'⟩ <;> rcases h2 with h2 | ⟨h2, h2'⟩
        · exact .inl (by omega)
        · exact .inl (by omega)
        · exact .inl (by omega)
        · exact .inr ⟨by omega, ih _ _ h1' h2'⟩
theorem lexC_tri : ∀ xs ys : List Int, ¬ lexC xs ys < 0 → ¬ lexC ys xs < 0 → xs = ys := by
  intro xs
  induction xs with
  | nil =>
    intro ys h1 _
    cases ys with
    | nil => rfl
    | cons y ys => simp [lexC] at h1
  | cons x xs ih =>
    intro ys h1 h2
    cases ys with
    | nil => simp [lexC] at h2
    | cons y ys =>
      rw [lexC_neg] at h1 h2
      have e : x = y := by omega
      subst e
      rw [ih ys (fun h => h1 (.inr ⟨rfl, h⟩)) (fun h => h2 (.inr ⟨rfl, h⟩))]

/-- the set of some numbers -/
def encL (x : List Int) : Nat := x.foldl (fun s i => s ||| (1 <<< i.toNat)) 0
theorem enc_bit : ∀ s : Nat, s < 256 → encL (bitL s) = s := by decide +kernel
theorem lex_pair : ∀ n : Nat, n < 9 → ∀ k : Nat, k < 9 → (lexL k (numbersL n)).Pairwise fun a b => lexC a b < 0 := by decide +kernel
theorem lex_enc : ∀ n : Nat, n < 9 → ∀ k : Nat, k < 9 → ∀ x ∈ lexL k (numbersL n), encL x < 2 ^ n ∧ bitL (encL x) = x ∧ x.length = k := by decide +kernel
theorem lex_mem : ∀ n : Nat, n < 9 → ∀ s : Nat, s < 2 ^ n → bitL s ∈ lexL (bitL s).length (numbersL n) := by decide +kernel

/-- the tiles that fit a row, in order, as sets, with their gap -/
def fitS (h : Hall) (l : List Seen) (row : Nat) : List (Nat × Int) := (fitL h l row).map fun x => (encL x, (gap8 h l row x).2)
theorem fit_lt {h : Hall} {l : List Seen} {row : Nat} {x : List Int} (hn : h.tiles.length < 9) (hp : rowP h row < 9) (hx : x ∈ fitL h l row) : encL x < 2 ^ h.tiles.length ∧ bitL (encL x) = x ∧ x.length = rowP h row ∧ wrong8 h.most (gap8 h l row x) = 0 := by
  unfold fitL at hx
  obtain ⟨h1, h2⟩ := List.mem_filter.1 hx
  obtain ⟨a, b, c⟩ := lex_enc _ hn _ hp x h1
  exact ⟨a, b, c, by simpa using h2⟩
theorem fitS_mem {h : Hall} {l : List Seen} {row : Nat} (hn : h.tiles.length < 9) (hp : rowP h row < 9) (p : Nat × Int) : p ∈ fitS h l row ↔ p ∈ fitK h l row (2 ^ h.tiles.length) := by
  unfold fitS fitK
  rw [List.mem_map, List.mem_map]
  have h256 : ∀ s, s < 2 ^ h.tiles.length → s < 256 := fun s hs => Nat.lt_of_lt_of_le hs (Nat.pow_le_pow_right (by decide) (by omega : h.tiles.length ≤ 8) : 2 ^ h.tiles.length ≤ 2 ^ 8)
  constructor
  · rintro ⟨x, hx, rfl⟩
    obtain ⟨a, b, c, d⟩ := fit_lt hn hp hx
    refine ⟨encL x, List.mem_filter.2 ⟨List.mem_range.2 a, ?_⟩, by rw [b]⟩
    unfold fitsB
    rw [b, c, d]; simp
  · rintro ⟨s, hs, rfl⟩
    obtain ⟨h1, h2⟩ := List.mem_filter.1 hs
    have hlt := List.mem_range.1 h1
    unfold fitsB at h2
    simp at h2
    refine ⟨bitL s, ?_, by rw [enc_bit s (h256 s hlt)]⟩
    unfold fitL
    refine List.mem_filter.2 ⟨?_, by simpa using h2.2⟩
    rw [← h2.1]
    exact lex_mem _ hn s hlt
theorem fitS_pair {h : Hall} {l : List Seen} {row : Nat} (hn : h.tiles.length < 9) (hp : rowP h row < 9) : (fitS h l row).Pairwise fun a b => lexC (bitL a.1) (bitL b.1) < 0 := by
  unfold fitS
  rw [List.pairwise_map]
  have hp1 : (fitL h l row).Pairwise fun a b => lexC a b < 0 := (lex_pair _ hn _ hp).filter _
  refine List.Pairwise.imp_of_mem (fun {a b} ha hb hr => ?_) hp1
  rw [(fit_lt hn hp ha).2.1, (fit_lt hn hp hb).2.1]; exact hr
theorem nodup_of_lex {X : List (Nat × Int)} (h : X.Pairwise fun a b => lexC (bitL a.1) (bitL b.1) < 0) : X.Nodup := h.imp (fun {a b} hr e => by rw [e, lexC_refl] at hr; omega)
/-- a sorted order of the sets that fit is the order of the document -/
theorem sorted_fit {h : Hall} {l : List Seen} {row : Nat} (hn : h.tiles.length < 9) (hp : rowP h row < 9) {Y : List (Nat × Int)} (hperm : Y.Perm (fitK h l row (2 ^ h.tiles.length)))
    (hs : Y.Pairwise fun a b => ¬ lexC (bitL b.1) (bitL a.1) < 0) : Y = fitS h l row := by
  have hnK : (fitK h l row (2 ^ h.tiles.length)).Nodup := by
    unfold fitK List.Nodup
    rw [List.pairwise_map]
    exact (List.nodup_range.filter _).imp (fun {a b} hne e => hne (congrArg Prod.fst e))
  have hnY : Y.Nodup := hperm.nodup_iff.2 hnK
  have h256 : ∀ s, s < 2 ^ h.tiles.length → s < 256 := fun s hs => Nat.lt_of_lt_of_le hs (Nat.pow_le_pow_right (by decide) (by omega : h.tiles.length ≤ 8) : 2 ^ h.tiles.length ≤ 2 ^ 8)
  have hmem : ∀ p ∈ Y, p.1 < 256 ∧ p = (p.1, (gap8 h l row (bitL p.1)).2) := fun p hp => by
    have hp2 := hperm.mem_iff.1 hp
    unfold fitK at hp2
    obtain ⟨s, hs, rfl⟩ := List.mem_map.1 hp2
    exact ⟨h256 s (List.mem_range.1 (List.mem_filter.1 hs).1), rfl⟩
  have hYp : Y.Pairwise fun a b => lexC (bitL a.1) (bitL b.1) < 0 := by
    refine List.Pairwise.imp_of_mem (fun {a b} ha hb hr => ?_) (hs.and hnY)
    obtain ⟨hr1, hr2⟩ := hr
    refine Classical.byContradiction fun hc => hr2 ?_
    have e := lexC_tri _ _ hc hr1
    obtain ⟨a1, a2⟩ := hmem a ha
    obtain ⟨b1, b2⟩ := hmem b hb
    have e2 : a.1 = b.1 := by rw [← enc_bit _ a1, ← enc_bit _ b1, e]
    rw [a2, b2, e2]
  have hP : Y.Perm (fitS h l row) := by
    rw [List.perm_ext_iff_of_nodup hnY (nodup_of_lex (fitS_pair hn hp))]
    intro p
    rw [fitS_mem hn hp p]; exact hperm.mem_iff
  exact List.Perm.eq_of_pairwise (fun a b _ _ h1 h2 => by have := lexC_trans _ _ _ h1 h2; rw [lexC_refl] at this; omega) hYp (fitS_pair hn hp) hP

end Go.Proofs.YtpdldmichpmgmaaGreat
