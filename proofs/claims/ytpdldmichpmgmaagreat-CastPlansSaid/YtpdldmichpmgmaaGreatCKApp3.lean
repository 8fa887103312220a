/- append of the rows of a slice (rows of more than one cell) to a slice of the call's own. Nothing of a program stands here but the layout of rows. -/
import Derived.Test.YtpdldmichpmgmaaGreatCKAppL
set_option linter.unusedVariables false
set_option linter.unusedSimpArgs false
set_option linter.all false
namespace Go.Proofs.YtpdldmichpmgmaaGreat
open Go.RowKit

theorem run_append_rows {P : Program} (w : World) (t ty : TypeId)
    {α : Type} {R : Rd α} {m : Nat} (g : R.Good m) {T S : Foot} (base : Nat) (e : TypeId) (i : TypeInfo) (z : Value) (bytes : Nat) (ht : P.underlying t = some (.slice e)) (hi : P.info? e = some i) (hz : i.zero = some z)
    (hsize : i.size = m) (hby : i.bytes = bytes) (hzs : z.cells.size = m) (hsz : 0 < m)
    (v : Value) (xs : List α) (hown : OwnL R m S w base e v xs)
    (A : Option Addr) (q c : Nat) (ys : List α) (hR : SliceOf R m T w A q ys) (hconv : ∀ y vs, R T w y vs → R S w y vs)
    (h63 : xs.length + q ≤ maxLen) (hbytes : (xs.length + q) * bytes ≤ 140737488355328) (hbase : base ≤ w.heap.size) (hS : ¬ S w.heap.size) :
    ∃ A' cap' w', (Builtin.append_ #[t, t] ty #[v, .slice A q c]).run P w = .ok (.slice A' (xs.length + q) cap') w' ∧ OwnL R m S w' base e (.slice A' (xs.length + q) cap') (xs ++ ys) ∧ w.grownBy w' v.ownBlock := by
  rcases Nat.eq_zero_or_pos q with hq | hq
  · subst hq
    obtain rfl : ys = [] := List.eq_nil_of_length_eq_zero hR.1
    obtain ⟨A', cap', hv⟩ := OwnL.form hown
    have hown' := hown
    obtain ⟨h0, cells, hrow, hcells⟩ := hown
    have hrun : (Builtin.append_ #[t, t] ty #[v, .slice A 0 c]).run P w = .ok v w := by
      rcases hrow.2 with ⟨rfl, hz0⟩ | ⟨g, cap, cur, rfl, _, _, hnc, _⟩
      · cases A with
        | none => simp [Builtin.append_, run_underlying ht, sizeOf, typeInfo, hi, Builtin.lenOf, Builtin.firstCells]
        | some ad => simp [Builtin.append_, run_underlying ht, sizeOf, typeInfo, hi, Builtin.lenOf, Builtin.firstCells, loadCells, loadCellsFrom]
      · cases A with
        | none => simp [Builtin.append_, run_underlying ht, sizeOf, typeInfo, hi, Builtin.lenOf, Builtin.firstCells, hnc, storeCells]
        | some ad => simp [Builtin.append_, run_underlying ht, sizeOf, typeInfo, hi, Builtin.lenOf, Builtin.firstCells, hnc, storeCells, loadCells, loadCellsFrom]
    exact ⟨A', cap', w, by rw [hrun, hv, Nat.add_zero], by rw [Nat.add_zero, ← hv, List.append_nil]; exact hown', World.grownBy.refl w _⟩
  · obtain ⟨ad, rfl⟩ : ∃ ad, A = some ad := by
      obtain ⟨b, off, _, hA, _⟩ := hR.2.2 0 (ys[0]'(by rw [hR.1]; exact hq)) (List.getElem?_eq_getElem _)
      exact ⟨_, hA⟩
    obtain ⟨news, hl, hnews, h1, hrd⟩ := rows_news g hR
    obtain ⟨h0, cells, hrow, hcells⟩ := hown
    obtain ⟨v', w', hrun, hown', hgrow, _, hat⟩ := run_append_own_at (P := P) w base t ty e i z m bytes ht hi hz hsize hby hzs hsz v xs.length cells hrow ad q c news hl hnews h1 h63 hbytes hbase
    have hlen : (xs ++ ys).length = xs.length + q := by rw [List.length_append, hR.1]
    have hk : Keeps S w w' := Keeps.grown hgrow h0
    have hO : OwnL R m S w' base e v' (xs ++ ys) := by
      refine ⟨fun k hk' => ?_, cells ++ news, by rw [hlen]; exact hown', fun k y hy => ?_⟩
      · rcases hat with e | e
        · exact h0 k (by rw [← e]; exact hk')
        · rw [e] at hk'; injection hk' with hk'; subst hk'; exact hS
      · have hcl : cells.length = xs.length * m := hrow.1
        by_cases hlt : k < xs.length
        · rw [List.getElem?_append_left hlt] at hy
          obtain ⟨vs, hR', hc⟩ := hcells k y hy
          refine ⟨vs, g.keep hR' hk, fun j u hu => ?_⟩
          have h3 := hc j u hu
          rw [List.getElem?_append_left (of_getq' h3)]; exact h3
        · rw [List.getElem?_append_right (by omega)] at hy
          obtain ⟨vs, hv, hc⟩ := hrd _ y hy
          refine ⟨vs, g.keep (hconv y vs hv) hk, fun j u hu => ?_⟩
          have hkm : k * m = xs.length * m + (k - xs.length) * m := by rw [← Nat.add_mul, show xs.length + (k - xs.length) = k by omega]
          rw [List.getElem?_append_right (by omega), show k * m + j - cells.length = (k - xs.length) * m + j by omega]
          exact hc j u hu
    obtain ⟨A', cap', hv⟩ := OwnL.form hO
    rw [hlen] at hv
    rw [hv] at hO hrun
    exact ⟨A', cap', w', hrun, hO, hgrow⟩
/-- the rest of a slice -/
theorem SliceOf.drop {α : Type} {R : Rd α} {m : Nat} {S : Foot} {w : World} {b off n : Nat} {xs : List α} (h : SliceOf R m S w (some ⟨b, off, none⟩) n xs) {k : Nat} (hk : k ≤ n) : SliceOf R m S w (some ⟨b, off + k * m, none⟩) (n - k) (xs.drop k) := by
  refine ⟨by rw [List.length_drop, h.1], by have := h.2.1; omega, fun j x hx => ?_⟩
  rw [List.getElem?_drop] at hx
  obtain ⟨b', off', vs, hA, h1, h2, h3, h4⟩ := h.2.2 (k + j) x hx
  injection hA with hA
  injection hA with e1 e2
  subst e1; subst e2
  refine ⟨b, off + k * m, vs, rfl, h1, h2, h3, fun r u hu => ?_⟩
  have := h4 r u hu
  rw [Nat.add_mul] at this
  rwa [show off + k * m + j * m + r = off + (k * m + j * m) + r by omega]

end Go.Proofs.YtpdldmichpmgmaaGreat
