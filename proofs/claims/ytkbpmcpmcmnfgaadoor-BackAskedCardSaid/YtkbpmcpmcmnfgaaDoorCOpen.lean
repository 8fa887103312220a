/- From the arguments as a statement reads them to what the walks ask. -/
import Derived.Deep.Strs
import Derived.ProofKit
import Derived.OpenShut
import Derived.Test.YtkbpmcpmcmnfgaaDoorCRefB1
set_option linter.unusedVariables false
set_option linter.unusedSimpArgs false
set_option linter.all false
namespace Go.Proofs.YtkbpmcpmcmnfgaaDoor
open Go.RowKit Go.ChangeShapes Go.WideShapes Go.Deep

section
variable {H : Type} {enc : TypeId × Value → H} {P : Program} {W : World} {sp : Nat → Bool} {held : Bool}
theorem open_rows {α : Type} {R : Rd α} {m : Nat} {t e : TypeId} {fuel : Nat} {cs : List Value} {x : DataW H × List MemPlace} (ht : P.underlying t = some (.slice e)) (hc : P.cellsOf e = m) (hm : 0 < m)
    (hrow : ∀ (n : Nat) (cs : List Value) (y : DataW H × List MemPlace), DataW.trod enc P W 0 sp held n e cs = some y → ∃ x, R (fun _ => True) W x cs ∧ cs.length = m) (h : DataW.trod enc P W 0 sp held fuel t cs = some x) :
    ∃ A n c xs, cs = [.slice A n c] ∧ n ≤ c ∧ SliceOf R m (fun _ => True) W A n xs := by
  subst hc
  rcases DataW.trod_slice ht h with ⟨h0, _⟩ | ⟨a, len, cap, elems, rest, n, _, h0, _, _, hl, hmx, hlen, hel, _, _⟩
  · exact ⟨none, 0, 0, [], h0, Nat.le_refl _, SliceOf.nil _ _ _ _ _⟩
  · have hex : ∀ i : Nat, i < len → ∃ x cs, W.cells? 0 (a.add (i * P.cellsOf e)) (P.cellsOf e) = some cs ∧ R (fun _ => True) W x cs ∧ cs.length = P.cellsOf e := fun i hi => by
      have h1 := hel i hi
      rw [List.getElem?_eq_getElem (by omega)] at h1
      cases h2 : W.cells? 0 (a.add (i * P.cellsOf e)) (P.cellsOf e) with
      | none => rw [h2] at h1; cases h1
      | some cs =>
        rw [h2] at h1
        obtain ⟨x, hx, hcl⟩ := hrow _ _ _ h1
        exact ⟨x, cs, rfl, hx, hcl⟩
    rcases Nat.eq_zero_or_pos len with h00 | hpos
    · subst h00
      exact ⟨some a, 0, cap, [], h0, hl, SliceOf.nil _ _ _ _ _⟩
    · obtain ⟨x0, _⟩ := hex 0 hpos
      have hex2 : ∀ i : Nat, ∃ x, i < len → ∃ cs, W.cells? 0 (a.add (i * P.cellsOf e)) (P.cellsOf e) = some cs ∧ R (fun _ => True) W x cs ∧ cs.length = P.cellsOf e := fun i => by
        by_cases hi : i < len
        · obtain ⟨x, hx⟩ := hex i hi
          exact ⟨x, fun _ => hx⟩
        · exact ⟨x0, fun h => absurd h hi⟩
      obtain ⟨F, hF⟩ := Classical.axiomOfChoice hex2
      refine ⟨some a, len, cap, (List.range len).map F, h0, hl, by simp, Nat.le_trans hl hmx, fun k x hx => ?_⟩
      have hk : k < len := by have := of_getq' hx; simpa using this
      rw [List.getElem?_map, List.getElem?_range hk] at hx
      have hx : F k = x := by simpa using hx
      obtain ⟨cs', h1, h2, h3⟩ := hF k hk
      rw [hx] at h2
      obtain ⟨b, off, spot⟩ := a
      have hcell : ∀ j, j < P.cellsOf e → W.cell? (((⟨b, off, spot⟩ : Addr).add (k * P.cellsOf e)).add j) = cs'[j]? := fun j hj => (World.cells?_some h1).2.2 j hj
      have hc0 : cs'[0]? = some (cs'[0]'(by omega)) := List.getElem?_eq_getElem (by omega)
      have hspot : spot = none := by
        obtain ⟨_, cs0, g1, _, g3⟩ := hex 0 hpos
        have h0 := (World.cells?_some g1).2.2 0 hm
        have hc1 : cs0[0]? = some (cs0[0]'(by omega)) := List.getElem?_eq_getElem (by omega)
        have := World.cell?_spot (h0.trans hc1)
        simpa [Addr.add] using this
      subst hspot
      have hcell2 : ∀ j, j < P.cellsOf e → W.cell? ⟨b, off + k * P.cellsOf e + j, none⟩ = cs'[j]? := fun j hj => by
        rw [← hcell j hj, add_plain, add_plain]
      refine ⟨b, off, cs', rfl, trivial, World.block_lt_of_cell? W _ ((hcell2 0 hm).trans hc0), h2, fun j u hu => ?_⟩
      have hj : j < P.cellsOf e := by have := of_getq' hu; omega
      exact (hcell2 j hj).trans hu
end

theorem cellsStr : Tryd.prog.cellsOf 9 = 1 := by kernel_rfl
theorem cellsInt : Tryd.prog.cellsOf 3 = 1 := by kernel_rfl
theorem cellsSpan : Tryd.prog.cellsOf 44 = 2 := by kernel_rfl
theorem cellsInts : Tryd.prog.cellsOf 34 = 1 := by kernel_rfl
theorem cellsFeat : Tryd.prog.cellsOf 69 = 3 := by kernel_rfl
theorem cellsCause : Tryd.prog.cellsOf 76 = 4 := by kernel_rfl
theorem cellsMeas : Tryd.prog.cellsOf 62 = 2 := by kernel_rfl
theorem cellsFs : Tryd.prog.cellsOf 22 = 1 := by kernel_rfl
theorem cellsCs : Tryd.prog.cellsOf 23 = 1 := by kernel_rfl
theorem cellsMs : Tryd.prog.cellsOf 24 = 1 := by kernel_rfl
theorem cellsClaim : Tryd.prog.cellsOf 26 = 3 := by kernel_rfl

section
variable {H : Type} {enc : TypeId × Value → H} {W : World} {sp : Nat → Bool} {held : Bool}
theorem open_intsL {fuel : Nat} {cs : List Value} {x : DataW H × List MemPlace} (h : DataW.trod enc Tryd.prog W 0 sp held fuel 34 cs = some x) : ∃ A n c xs, cs = [.slice A n c] ∧ n ≤ c ∧ Ints (fun _ => True) W A n xs :=
  open_rows Tryd.underlying34 cellsInt (by decide) (fun n cs y h => by
    obtain ⟨a, rfl, _, _⟩ := DataW.trod_int Tryd.underlying3 h
    exact ⟨a, rfl, rfl⟩) h
theorem open_meas {fuel : Nat} {cs : List Value} {x : DataW H × List MemPlace} (h : DataW.trod enc Tryd.prog W 0 sp held fuel 62 cs = some x) : ∃ y : Meas, MeasR (fun _ => True) W y cs ∧ cs.length = 2 := by
  obtain ⟨y0, y1, n, _, hl, h0, h1⟩ := trod_struct2 Tryd.underlying62 h
  rw [cellsMeas] at hl
  simp only [cellsInt] at h0 h1
  match cs, hl with
  | [c0, c1], _ =>
    obtain ⟨a, ha, _, _⟩ := DataW.trod_int Tryd.underlying3 h0
    obtain ⟨b, hb, _, _⟩ := DataW.trod_int Tryd.underlying3 h1
    simp at ha hb
    subst ha hb
    exact ⟨⟨a, b⟩, rfl, rfl⟩
theorem open_feat {fuel : Nat} {cs : List Value} {x : DataW H × List MemPlace} (h : DataW.trod enc Tryd.prog W 0 sp held fuel 69 cs = some x) : ∃ y : Feat, FeatR (fun _ => True) W y cs ∧ cs.length = 3 := by
  obtain ⟨y0, y1, y2, n, _, hl, h0, h1, h2⟩ := trod_struct3 Tryd.underlying69 h
  rw [cellsFeat] at hl
  simp only [cellsInt, cellsStr] at h0 h1 h2
  match cs, hl with
  | [c0, c1, c2], _ =>
    obtain ⟨s, hs, _, hs2⟩ := DataW.trod_string Tryd.underlying9 h0
    obtain ⟨a, ha, _, _⟩ := DataW.trod_int Tryd.underlying3 h1
    obtain ⟨b, hb, _, _⟩ := DataW.trod_int Tryd.underlying3 h2
    simp at hs ha hb
    subst hs ha hb
    exact ⟨⟨s.data.toList, a, b⟩, ⟨s, rfl, rfl, hs2⟩, rfl⟩
theorem open_cause {fuel : Nat} {cs : List Value} {x : DataW H × List MemPlace} (h : DataW.trod enc Tryd.prog W 0 sp held fuel 76 cs = some x) : ∃ y : Cause, CauseR (fun _ => True) W y cs ∧ cs.length = 4 := by
  obtain ⟨y0, y1, y2, n, _, hl, h0, h1, h2⟩ := trod_struct3 Tryd.underlying76 h
  rw [cellsCause] at hl
  simp only [cellsInts, cellsStr, cellsSpan] at h0 h1 h2
  match cs, hl with
  | [c0, c1, c2, c3], _ =>
    obtain ⟨s, hs, _, hs2⟩ := DataW.trod_string Tryd.underlying9 h0
    obtain ⟨z0, z1, n2, _, _, g0, g1⟩ := trod_struct2 Tryd.underlying44 h1
    simp only [cellsInt] at g0 g1
    obtain ⟨a, ha, _, _⟩ := DataW.trod_int Tryd.underlying3 g0
    obtain ⟨b, hb, _, _⟩ := DataW.trod_int Tryd.underlying3 g1
    obtain ⟨A, n3, c, xs, hA, _, hI⟩ := open_intsL h2
    simp at hs ha hb hA
    subst hs ha hb hA
    exact ⟨⟨s.data.toList, a, b, xs⟩, ⟨s, A, n3, c, rfl, rfl, hs2, hI⟩, rfl⟩
theorem open_claim {fuel : Nat} {cs : List Value} {x : DataW H × List MemPlace} (h : DataW.trod enc Tryd.prog W 0 sp held fuel 26 cs = some x) :
    ∃ A n ca B m cb C q cc c, cs = [.slice A n ca, .slice B m cb, .slice C q cc] ∧ n ≤ ca ∧ m ≤ cb ∧ ClaimAt (fun _ => True) W A n B m C q c := by
  obtain ⟨y0, y1, y2, n, _, hl, h0, h1, h2⟩ := trod_struct3 Tryd.underlying26 h
  rw [cellsClaim] at hl
  simp only [cellsFs, cellsCs, cellsMs] at h0 h1 h2
  match cs, hl with
  | [c0, c1, c2], _ =>
    obtain ⟨A, n0, ca, fs, hA, hca, hF⟩ := open_rows (R := FeatR) Tryd.underlying22 cellsFeat (by decide) (fun _ _ _ h => open_feat h) h0
    obtain ⟨B, m0, cb, us, hB, hcb, hU⟩ := open_rows (R := CauseR) Tryd.underlying23 cellsCause (by decide) (fun _ _ _ h => open_cause h) h1
    obtain ⟨C, q0, cc, ms, hC, _, hM⟩ := open_rows (R := MeasR) Tryd.underlying24 cellsMeas (by decide) (fun _ _ _ h => open_meas h) h2
    simp at hA hB hC
    subst hA hB hC
    exact ⟨A, n0, ca, B, m0, cb, C, q0, cc, ⟨fs, us, ms⟩, rfl, hca, hcb, hF, hU, hM⟩
end

end Go.Proofs.YtkbpmcpmcmnfgaaDoor
