/- A part of the proof that TopWorn always answers true. -/
import Derived.Deep.Strs
import Derived.ProofKit
import Derived.OpenShut
import Derived.Lib.SmallJoins
import Derived.Test.YtdbfincinjoppabGreatDoorCKBase
set_option linter.all false
namespace Go.Proofs.YtdbfincinjoppabGreatDoor
open Go.RowKit Go.ChangeShapes Go.WideShapes Go.Deep
section
variable {H : Type} {enc : TypeId × Value → H} {P : Program} {W : World} {sp : Nat → Bool} {held : Bool}
theorem open_rows {α : Type} {R : Rd α} {m : Nat} {t e : TypeId} {fuel : Nat} {cs : List Value} {x : DataW H × List MemPlace} (ht : P.underlying t = some (.slice e)) (hc : P.cellsOf e = m) (hm : 0 < m)
  (hrow : ∀ (n : Nat) (cs : List Value) (y : DataW H × List MemPlace), DataW.trod enc P W 0 sp held n e cs = some y → ∃ x, R (fun _ => True) W x cs ∧ cs.length = m) (h : DataW.trod enc P W 0 sp held fuel t cs = some x) :
  ∃ A n c xs, cs = [.slice A n c] ∧ n ≤ c ∧ SliceOf R m (fun _ => True) W A n xs := by
 subst hc
 rcases DataW.trod_slice ht h with ⟨h0, _⟩ | ⟨a, len, cap, elems, rest, n, _, h0, _, _, hl, hmx, hlen, hel, _, _⟩
 ·exact ⟨none, 0, 0, [], h0, Nat.le_refl _, SliceOf.nil _ _ _ _ _⟩
 have hex : ∀ i : Nat, i < len → ∃ x cs, W.cells? 0 (a.add (i * P.cellsOf e)) (P.cellsOf e) = some cs ∧ R (fun _ => True) W x cs ∧ cs.length = P.cellsOf e := fun i hi => by
  have h1 := hel i hi
  rw [List.getElem?_eq_getElem (by omega)] at h1
  cases h2 : W.cells? 0 (a.add (i * P.cellsOf e)) (P.cellsOf e) with
  | none => rw [h2] at h1; cases h1
  | some cs =>
   rw [h2] at h1
   obtain ⟨x, hx, hcl⟩ := hrow _ _ _ h1
   exact ⟨x, cs, rfl, hx, hcl⟩
 rcases Nat.eq_zero_or_pos len with h00 | hpos
 ·subst h00
  exact ⟨some a, 0, cap, [], h0, hl, SliceOf.nil _ _ _ _ _⟩
 obtain ⟨x0, _⟩ := hex 0 hpos
 have hex2 : ∀ i : Nat, ∃ x, i < len → ∃ cs, W.cells? 0 (a.add (i * P.cellsOf e)) (P.cellsOf e) = some cs ∧ R (fun _ => True) W x cs ∧ cs.length = P.cellsOf e := fun i => by
  by_cases hi : i < len
  ·obtain ⟨x, hx⟩ := hex i hi
   exact ⟨x, fun _ => hx⟩
  exact ⟨x0, fun h => absurd h hi⟩
 obtain ⟨F, hF⟩ := Classical.axiomOfChoice hex2
 refine ⟨some a, len, cap, (List.range len).map F, h0, hl, by simp, Nat.le_trans hl hmx, fun k x hx => ?_⟩
 have hk : k < len := by have := of_getq' hx; simpa using this
 rw [List.getElem?_map, List.getElem?_range hk] at hx
 have hx : F k = x := by simpa using hx
 obtain ⟨cs', h1, h2, h3⟩ := hF k hk
 rw [hx] at h2
 obtain ⟨b, off, spot⟩ := a
 have hcell : ∀ j, j < P.cellsOf e → W.cell? (((⟨b, off, spot⟩ : Addr).add (k * P.cellsOf e)).add j) = cs'[j]? := fun j hj => (World.cells?_some h1).2.2 j hj
 have hc0 : cs'[0]? = some (cs'[0]'(by omega)) := List.getElem?_eq_getElem (by omega)
 have hspot : spot = none := by
  obtain ⟨_, cs0, g1, _, g3⟩ := hex 0 hpos
  have h0 := (World.cells?_some g1).2.2 0 hm
  have hc1 : cs0[0]? = some (cs0[0]'(by omega)) := List.getElem?_eq_getElem (by omega)
  have := World.cell?_spot (h0.trans hc1)
  simpa [Addr.add] using this
 subst hspot
 have hcell2 : ∀ j, j < P.cellsOf e → W.cell? ⟨b, off + k * P.cellsOf e + j, none⟩ = cs'[j]? := fun j hj => by
  rw [← hcell j hj, add_plain, add_plain]
 refine ⟨b, off, cs', rfl, trivial, World.block_lt_of_cell? W _ ((hcell2 0 hm).trans hc0), h2, fun j u hu => ?_⟩
 have hj : j < P.cellsOf e := by have := of_getq' hu; omega
 exact (hcell2 j hj).trans hu
end
theorem cellsStr : Tryz.prog.cellsOf 9 = 1 := by kernel_rfl
theorem cellsInt : Tryz.prog.cellsOf 3 = 1 := by kernel_rfl
theorem cellsSpan : Tryz.prog.cellsOf 23 = 2 := by kernel_rfl
theorem cellsMould : Tryz.prog.cellsOf 33 = 6 := by kernel_rfl
theorem cellsShop : Tryz.prog.cellsOf 26 = 3 := by kernel_rfl
theorem cellsMs : Tryz.prog.cellsOf 24 = 1 := by kernel_rfl
section
variable {H : Type} {enc : TypeId × Value → H} {W : World} {sp : Nat → Bool} {held : Bool}
theorem open_span7 {fuel : Nat} {cs : List Value} {x : DataW H × List MemPlace} (h : DataW.trod enc Tryz.prog W 0 sp held fuel 23 cs = some x) : ∃ a b : Int, cs = [.int .i64 a, .int .i64 b] := by
 obtain ⟨z0, z1, n2, _, hl, g0, g1⟩ := trod_struct2 Tryz.underlying23 h
 rw [cellsSpan] at hl
 simp only [cellsInt] at g0 g1
 match cs, hl with
 | [c0, c1], _ =>
  obtain ⟨a, ha, _, _⟩ := DataW.trod_int Tryz.underlying3 g0
  obtain ⟨b, hb, _, _⟩ := DataW.trod_int Tryz.underlying3 g1
  simp at ha hb
  subst ha hb
  exact ⟨a, b, rfl⟩
theorem open_mould7 {fuel : Nat} {cs : List Value} {x : DataW H × List MemPlace} (h : DataW.trod enc Tryz.prog W 0 sp held fuel 33 cs = some x) : ∃ y : Mould, MouldR (fun _ => True) W y cs ∧ cs.length = 6 := by
 obtain ⟨y0, y1, y2, y3, n, _, hl, h0, h1, h2, h3⟩ := Go.Joins.trod_struct4 Tryz.underlying33 h
 rw [cellsMould] at hl
 simp only [cellsStr, cellsSpan, cellsInt] at h0 h1 h2 h3
 match cs, hl with
 | [c0, c1, c2, c3, c4, c5], _ =>
  obtain ⟨s, hs, _, hs2⟩ := DataW.trod_string Tryz.underlying9 h0
  obtain ⟨a, b, hab⟩ := open_span7 h1
  obtain ⟨c, d, hcd⟩ := open_span7 h2
  obtain ⟨e, he, _, _⟩ := DataW.trod_int Tryz.underlying3 h3
  simp at hs hab hcd he
  obtain ⟨rfl, rfl⟩ := hab
  obtain ⟨rfl, rfl⟩ := hcd
  subst hs he
  exact ⟨⟨s.data.toList, a, b, c, d, e⟩, ⟨s, rfl, rfl, hs2⟩, rfl⟩
theorem open_shop {fuel : Nat} {cs : List Value} {x : DataW H × List MemPlace} (h : DataW.trod enc Tryz.prog W 0 sp held fuel 26 cs = some x) :
  ∃ (A : Option Addr) (n ca : Nat) (s : Shop), cs = [.int .i64 s.klo, .int .i64 s.khi, .slice A n ca] ∧ n ≤ ca ∧ Moulds (fun _ => True) W A n s.moulds := by
 obtain ⟨y0, y1, n, _, hl, h0, h1⟩ := trod_struct2 Tryz.underlying26 h
 rw [cellsShop] at hl
 simp only [cellsSpan, cellsMs] at h0 h1
 match cs, hl with
 | [c0, c1, c2], _ =>
  obtain ⟨a, b, hab⟩ := open_span7 h0
  obtain ⟨A, n0, ca, ms, hA, hca, hM⟩ := open_rows (R := MouldR) Tryz.underlying24 cellsMould (by decide) (fun _ _ _ h => open_mould7 h) h1
  simp at hab hA
  obtain ⟨rfl, rfl⟩ := hab
  subst hA
  exact ⟨A, n0, ca, ⟨a, b, ms⟩, rfl, hca, hM⟩
end
open Go.ChangeShapes Go.WideShapes Go.RowKit
theorem cellsU8 : Tryz.prog.cellsOf 5 = 1 := by kernel_rfl
theorem cellsB4 : Tryz.prog.cellsOf 27 = 4 := by kernel_rfl
theorem u8_of {n : Int} (h : (Lit.int .u8 n).wf = true) : ∃ k : Nat, n = k ∧ k < 256 := by
 have h2 : 0 ≤ n ∧ n ≤ 255 := by simpa [Lit.wf, IntKind.min, IntKind.max, IntKind.wrap, IntKind.signed, IntKind.bits] using h
 exact ⟨n.toNat, by omega, by omega⟩
theorem okWide_array7 {P : Program} {w : World} {r : Reach} {base : Nat} {t e : TypeId} {n : Nat} {v : Value} (ht : P.underlying t = some (.array n e)) (h : Value.okWide P w r base t v) : ∃ cs, v = .agg cs ∧ cs.size = P.cellsOf t := by
 simp only [Value.okWide, ht] at h
 obtain ⟨cs, h1, h2, _⟩ := h
 exact ⟨cs, h1, h2⟩
set_option maxRecDepth 100000 in
theorem open_u87 {H : Type} {enc : TypeId × Value → H} {W : World} {v : Value} {d : DataW H} {p : List MemPlace} {r : Reach} {b0 : Nat} {sp : Nat → Bool} {held : Bool} (hok : Value.okWide Tryz.prog W r b0 5 v) (h : DataW.Trod enc Tryz.prog W 0 sp held 5 v d p) : ∃ x : Nat, v = .int .u8 x ∧ x < 256 := by
 obtain ⟨x, rfl⟩ := okWide_int Tryz.underlying5 hok
 obtain ⟨f, hf⟩ := h
 obtain ⟨n, hn, _, hw⟩ := DataW.trod_int Tryz.underlying5 hf
 have hn : x = n := by simpa [Value.cells] using hn
 subst hn
 obtain ⟨k, rfl, hk⟩ := u8_of hw
 exact ⟨k, rfl, hk⟩
set_option maxRecDepth 100000 in
theorem open_b47 {H : Type} {enc : TypeId × Value → H} {W : World} {v : Value} {d : DataW H} {p : List MemPlace} {r : Reach} {b0 base : Nat} {sp : Nat → Bool} {held : Bool} (hok : Value.okWide Tryz.prog W r b0 27 v) (h : DataW.Trod enc Tryz.prog W base sp held 27 v d p) : ∃ x0 x1 x2 x3 : Nat, v = .agg #[.int .u8 x0, .int .u8 x1, .int .u8 x2, .int .u8 x3] ∧ x0 < 256 ∧ x1 < 256 ∧ x2 < 256 ∧ x3 < 256 := by
 obtain ⟨cs, rfl, hsz⟩ := okWide_array7 Tryz.underlying27 hok
 obtain ⟨f, hf⟩ := h
 obtain ⟨xs, m, _, _, hl, hxl, hi⟩ := DataW.trod_array Tryz.underlying27 hf
 rw [cellsB4] at hl hsz
 have h0 := hi 0 (by decide)
 have h1 := hi 1 (by decide)
 have h2 := hi 2 (by decide)
 have h3 := hi 3 (by decide)
 rw [cellsU8] at h0 h1 h2 h3
 rw [List.getElem?_eq_getElem (by omega)] at h0 h1 h2 h3
 obtain ⟨a0, ha0, _, hw0⟩ := DataW.trod_int Tryz.underlying5 h0
 obtain ⟨n0, rfl, hb0⟩ := u8_of hw0
 obtain ⟨a1, ha1, _, hw1⟩ := DataW.trod_int Tryz.underlying5 h1
 obtain ⟨n1, rfl, hb1⟩ := u8_of hw1
 obtain ⟨a2, ha2, _, hw2⟩ := DataW.trod_int Tryz.underlying5 h2
 obtain ⟨n2, rfl, hb2⟩ := u8_of hw2
 obtain ⟨a3, ha3, _, hw3⟩ := DataW.trod_int Tryz.underlying5 h3
 obtain ⟨n3, rfl, hb3⟩ := u8_of hw3
 refine ⟨n0, n1, n2, n3, ?_, hb0, hb1, hb2, hb3⟩
 congr 1
 apply Array.ext'
 have hc : (Value.agg cs).cells.toList = cs.toList := rfl
 rw [hc] at ha0 ha1 ha2 ha3 hl
 obtain ⟨c0, c1, c2, c3, hcs⟩ : ∃ c0 c1 c2 c3, cs.toList = [c0, c1, c2, c3] := by
  match cs.toList, hl with
  | [c0, c1, c2, c3], _ => exact ⟨c0, c1, c2, c3, rfl⟩
 rw [hcs] at ha0 ha1 ha2 ha3 ⊢
 simp at ha0 ha1 ha2 ha3
 rw [ha0, ha1, ha2, ha3]
end Go.Proofs.YtdbfincinjoppabGreatDoor
