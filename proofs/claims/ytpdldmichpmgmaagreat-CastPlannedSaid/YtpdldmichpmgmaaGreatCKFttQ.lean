/- Layer 7, plain: what is known of a cast that fits, of lists without twice the same, and of a set's order. Nothing of a program is stepped through here. -/
import Derived.Test.YtpdldmichpmgmaaGreatCCastSomes
import Derived.Test.YtpdldmichpmgmaaGreatCKFttP
set_option linter.unusedVariables false
set_option linter.unusedSimpArgs false
set_option linter.all false
namespace Go.Proofs.YtpdldmichpmgmaaGreat

theorem fit_in {s : Shop} {l : List SeenC} {m c : Nat} {a z : Int} (hk : OkS s) (h : (m, c) ∈ fit7 s l a z) : m < s.moulds.length ∧ c < castsN s m := by
  unfold fit7 at h
  rw [List.mem_filter, places_mem] at h
  have hcs := castsN_bd hk (m := m) h.1.1
  exact ⟨h.1.1, by have := h.1.2; dsimp only at this; omega⟩
theorem there_of {s : Shop} {m c : Nat} (hk : OkS s) (hm : m < s.moulds.length) (hc : c < castsN s m) : there7 s (m : Int) (c : Int) = true := by
  have hcs := castsN_bd hk (m := m) hm
  unfold there7
  rw [Bool.and_eq_true, inB_iff, inB_iff]
  simp only [Int.toNat_natCast]
  omega
theorem fit_nodup {s : Shop} {l : List SeenC} {a z : Int} : (fit7 s l a z).Nodup := (places_nodup s).filter _
theorem take_fresh {α : Type} : ∀ {L : List α} {i : Nat} {x : α}, L.Nodup → L[i]? = some x → x ∉ L.take i
  | [], i, x, _, h => by simp at h
  | y :: L, 0, x, _, _ => by simp
  | y :: L, i + 1, x, hn, h => by
    rw [List.nodup_cons] at hn
    have h2 : L[i]? = some x := by simpa using h
    rw [List.take_succ_cons, List.mem_cons]
    rintro (e | e)
    · subst e; exact hn.1 (List.mem_of_getElem? h2)
    · exact take_fresh hn.2 h2 e
theorem set_asc7 {n : Nat} {set : List Int} (h : IsSet n set) {k : Nat} {x y : Int} (hx : set[k]? = some x) (hy : set[k + 1]? = some y) : x < y := by
  have hl : k + 1 < set.length := of_getq hy
  have := List.pairwise_iff_getElem.1 h.1 k (k + 1) (by omega) hl (by omega)
  rw [List.getElem?_eq_getElem (by omega)] at hx
  rw [List.getElem?_eq_getElem hl] at hy
  injection hx with hx
  injection hy with hy
  omega
/-- is a mould one of the first k casts' -/
def usedL (P : List (Nat × Nat)) (x : Int) (k : Nat) : Bool := (P.take k).any fun a => decide ((a.1 : Int) = x)
theorem usedL_succ {P : List (Nat × Nat)} {x : Int} {k : Nat} {a : Nat × Nat} (h : P[k]? = some a) : usedL P x (k + 1) = (usedL P x k || decide ((a.1 : Int) = x)) := by
  unfold usedL
  rw [List.take_add_one, h, List.any_append]
  simp
theorem usedL_all {P : List (Nat × Nat)} {x : Int} {k : Nat} (hk : P.length ≤ k) (h : ∃ a ∈ P, (a.1 : Int) = x) : usedL P x k = true := by
  unfold usedL
  rw [List.take_of_length_le hk, List.any_eq_true]
  obtain ⟨a, h1, h2⟩ := h
  exact ⟨a, h1, by simpa using h2⟩
theorem orderE_seen {s : Shop} {l : List SeenC} {p : List (Int × Int)} (h : (seen7 s l).2 ≠ 0) : orderE s l p ≠ 0 := by rw [orderE, if_pos h]; exact h
end Go.Proofs.YtpdldmichpmgmaaGreat
