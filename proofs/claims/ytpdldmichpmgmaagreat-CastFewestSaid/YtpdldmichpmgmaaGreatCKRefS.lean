/- Walks, layer 7, the reference: All and Only of a right order. -/
import Derived.Test.YtpdldmichpmgmaaGreatCKFewP
import Derived.Test.YtpdldmichpmgmaaGreatCKRefR
import Derived.Test.YtpdldmichpmgmaaGreatCKRefs2
set_option linter.unusedVariables false
set_option linter.unusedSimpArgs false
set_option linter.all false
namespace Go.Proofs.YtpdldmichpmgmaaGreat
open Go.RowKit Go.Shelf

theorem all40 {s : Shop} {l : List SeenC} {p : List (Int × Int)} (h0 : orderE s l p = 0) : ∀ x ∈ allL s l p, x.length ≤ 40 := by
  obtain ⟨hok, hne, _, _⟩ := order_zero h0
  intro x hx
  obtain ⟨j, hj, e⟩ := List.getElem_of_mem hx
  have := (all_hu (p := p) hok hne j).1
  rw [getD_of (List.getElem?_eq_getElem hj), e] at this
  omega
theorem only40 {all : List (List Pl)} (h : ∀ x ∈ all, x.length ≤ 40) (set : List Int) (but : List Pl) : ∀ x ∈ onlyL all set but, x.length ≤ 40 := by
  intro x hx
  rw [onlyL_def] at hx
  obtain ⟨y, hy, rfl⟩ := List.mem_map.1 hx
  exact Nat.le_trans (List.length_filter_le _ _) (h y hy)
theorem rall7_0 {A C P : Option Addr} {n ca q cc m pc : Nat} {s : Shop} {l : List SeenC} {p : List (Int × Int)} {klo khi : Int} (w : World) (g : Moulds (fun _ => True) w A n s.moulds) (gs : SeenCs (fun _ => True) w C q l) (gp : Pairs (fun _ => True) w P m p) (h1 : s.klo = klo) (h2 : s.khi = khi) (h0 : orderE s l p = 0) :
    Calls Tryz.prog 28 #[.agg #[.int .i64 klo, .int .i64 khi, .slice A n ca], .slice C q cc, .slice P m pc] w fun e w' => IsOrds7 w.heap.size (allL s l p) m e w' ∧ Below w.heap.size w w' := by
  obtain ⟨hok, hne, hp1, hp6⟩ := order_zero h0
  obtain ⟨_, hq6, hsn⟩ := seen7_all (order_parts h0).1
  exact rall7_any w g gs gp h1 h2 hok hne hq6 hsn (by have := gp.len; omega)
end Go.Proofs.YtpdldmichpmgmaaGreat
