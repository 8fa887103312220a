/- A part of the proof that TopMeasured always answers true. -/
import Derived.Deep.Strs
import Derived.ProofKit
import Derived.OpenShut
import Derived.Lib.SmallJoins
import Derived.Test.YtcnebekkbfajbaaGreatCCastOk
import Derived.Test.YtcnebekkbfajbaaGreatCKOut1
import Derived.Test.YtcnebekkbfajbaaGreatCScBase
set_option linter.all false
namespace Go.Proofs.YtcnebekkbfajbaaGreat
open Go.RowKit Go.ChangeShapes Go.WideShapes Go.Deep
section
variable {H : Type} {enc : TypeId × Value → H} {P : Program} {W : World} {sp : Nat → Bool} {held : Bool}
theorem open_rows {α : Type} {R : Rd α} {m : Nat} {t e : TypeId} {fuel : Nat} {cs : List Value} {x : DataW H × List MemPlace} (ht : P.underlying t = some (.slice e)) (hc : P.cellsOf e = m) (hm : 0 < m)
  (hrow : ∀ (n : Nat) (cs : List Value) (y : DataW H × List MemPlace), DataW.trod enc P W 0 sp held n e cs = some y → ∃ x, R (fun _ => True) W x cs ∧ cs.length = m) (h : DataW.trod enc P W 0 sp held fuel t cs = some x) :
  ∃ A n c xs, cs = [.slice A n c] ∧ n ≤ c ∧ SliceOf R m (fun _ => True) W A n xs := by
 subst hc
 rcases DataW.trod_slice ht h with ⟨h0, _⟩ | ⟨a, len, cap, elems, rest, n, _, h0, _, _, hl, hmx, hlen, hel, _, _⟩
 ·exact ⟨none, 0, 0, [], h0, Nat.le_refl _, SliceOf.nil _ _ _ _ _⟩
 have hex : ∀ i : Nat, i < len → ∃ x cs, W.cells? 0 (a.add (i * P.cellsOf e)) (P.cellsOf e) = some cs ∧ R (fun _ => True) W x cs ∧ cs.length = P.cellsOf e := fun i hi => by
  have h1 := hel i hi
  rw [List.getElem?_eq_getElem (by omega)] at h1
  cases h2 : W.cells? 0 (a.add (i * P.cellsOf e)) (P.cellsOf e) with
  | none => rw [h2] at h1; cases h1
  | some cs =>
   rw [h2] at h1
   obtain ⟨x, hx, hcl⟩ := hrow _ _ _ h1
   exact ⟨x, cs, rfl, hx, hcl⟩
 rcases Nat.eq_zero_or_pos len with h00 | hpos
 ·subst h00
  exact ⟨some a, 0, cap, [], h0, hl, SliceOf.nil _ _ _ _ _⟩
 obtain ⟨x0, _⟩ := hex 0 hpos
 have hex2 : ∀ i : Nat, ∃ x, i < len → ∃ cs, W.cells? 0 (a.add (i * P.cellsOf e)) (P.cellsOf e) = some cs ∧ R (fun _ => True) W x cs ∧ cs.length = P.cellsOf e := fun i => by
  by_cases hi : i < len
  ·obtain ⟨x, hx⟩ := hex i hi
   exact ⟨x, fun _ => hx⟩
  exact ⟨x0, fun h => absurd h hi⟩
 obtain ⟨F, hF⟩ := Classical.axiomOfChoice hex2
 refine ⟨some a, len, cap, (List.range len).map F, h0, hl, by simp, Nat.le_trans hl hmx, fun k x hx => ?_⟩
 have hk : k < len := by have := of_getq' hx; simpa using this
 rw [List.getElem?_map, List.getElem?_range hk] at hx
 have hx : F k = x := by simpa using hx
 obtain ⟨cs', h1, h2, h3⟩ := hF k hk
 rw [hx] at h2
 obtain ⟨b, off, spot⟩ := a
 have hcell : ∀ j, j < P.cellsOf e → W.cell? (((⟨b, off, spot⟩ : Addr).add (k * P.cellsOf e)).add j) = cs'[j]? := fun j hj => (World.cells?_some h1).2.2 j hj
 have hc0 : cs'[0]? = some (cs'[0]'(by omega)) := List.getElem?_eq_getElem (by omega)
 have hspot : spot = none := by
  obtain ⟨_, cs0, g1, _, g3⟩ := hex 0 hpos
  have h0 := (World.cells?_some g1).2.2 0 hm
  have hc1 : cs0[0]? = some (cs0[0]'(by omega)) := List.getElem?_eq_getElem (by omega)
  have := World.cell?_spot (h0.trans hc1)
  simpa [Addr.add] using this
 subst hspot
 have hcell2 : ∀ j, j < P.cellsOf e → W.cell? ⟨b, off + k * P.cellsOf e + j, none⟩ = cs'[j]? := fun j hj => by
  rw [← hcell j hj, add_plain, add_plain]
 refine ⟨b, off, cs', rfl, trivial, World.block_lt_of_cell? W _ ((hcell2 0 hm).trans hc0), h2, fun j u hu => ?_⟩
 have hj : j < P.cellsOf e := by have := of_getq' hu; omega
 exact (hcell2 j hj).trans hu
end
theorem cellsStr : Tryz.prog.cellsOf 9 = 1 := by kernel_rfl
theorem cellsInt : Tryz.prog.cellsOf 3 = 1 := by kernel_rfl
theorem cellsSpan : Tryz.prog.cellsOf 27 = 2 := by kernel_rfl
theorem cellsMould : Tryz.prog.cellsOf 77 = 6 := by kernel_rfl
theorem cellsShop : Tryz.prog.cellsOf 30 = 3 := by kernel_rfl
theorem cellsMs : Tryz.prog.cellsOf 28 = 1 := by kernel_rfl
section
variable {H : Type} {enc : TypeId × Value → H} {W : World} {sp : Nat → Bool} {held : Bool}
theorem open_span7 {fuel : Nat} {cs : List Value} {x : DataW H × List MemPlace} (h : DataW.trod enc Tryz.prog W 0 sp held fuel 27 cs = some x) : ∃ a b : Int, cs = [.int .i64 a, .int .i64 b] := by
 obtain ⟨z0, z1, n2, _, hl, g0, g1⟩ := trod_struct2 Tryz.underlying27 h
 rw [cellsSpan] at hl
 simp only [cellsInt] at g0 g1
 match cs, hl with
 | [c0, c1], _ =>
  obtain ⟨a, ha, _, _⟩ := DataW.trod_int Tryz.underlying3 g0
  obtain ⟨b, hb, _, _⟩ := DataW.trod_int Tryz.underlying3 g1
  simp at ha hb
  subst ha hb
  exact ⟨a, b, rfl⟩
theorem open_mould7 {fuel : Nat} {cs : List Value} {x : DataW H × List MemPlace} (h : DataW.trod enc Tryz.prog W 0 sp held fuel 77 cs = some x) : ∃ y : Mould, MouldR (fun _ => True) W y cs ∧ cs.length = 6 := by
 obtain ⟨y0, y1, y2, y3, n, _, hl, h0, h1, h2, h3⟩ := Go.Joins.trod_struct4 Tryz.underlying77 h
 rw [cellsMould] at hl
 simp only [cellsStr, cellsSpan, cellsInt] at h0 h1 h2 h3
 match cs, hl with
 | [c0, c1, c2, c3, c4, c5], _ =>
  obtain ⟨s, hs, _, hs2⟩ := DataW.trod_string Tryz.underlying9 h0
  obtain ⟨a, b, hab⟩ := open_span7 h1
  obtain ⟨c, d, hcd⟩ := open_span7 h2
  obtain ⟨e, he, _, _⟩ := DataW.trod_int Tryz.underlying3 h3
  simp at hs hab hcd he
  obtain ⟨rfl, rfl⟩ := hab
  obtain ⟨rfl, rfl⟩ := hcd
  subst hs he
  exact ⟨⟨s.data.toList, a, b, c, d, e⟩, ⟨s, rfl, rfl, hs2⟩, rfl⟩
theorem open_shop {fuel : Nat} {cs : List Value} {x : DataW H × List MemPlace} (h : DataW.trod enc Tryz.prog W 0 sp held fuel 30 cs = some x) :
  ∃ (A : Option Addr) (n ca : Nat) (s : Shop), cs = [.int .i64 s.klo, .int .i64 s.khi, .slice A n ca] ∧ n ≤ ca ∧ Moulds (fun _ => True) W A n s.moulds := by
 obtain ⟨y0, y1, n, _, hl, h0, h1⟩ := trod_struct2 Tryz.underlying30 h
 rw [cellsShop] at hl
 simp only [cellsSpan, cellsMs] at h0 h1
 match cs, hl with
 | [c0, c1, c2], _ =>
  obtain ⟨a, b, hab⟩ := open_span7 h0
  obtain ⟨A, n0, ca, ms, hA, hca, hM⟩ := open_rows (R := MouldR) Tryz.underlying28 cellsMould (by decide) (fun _ _ _ h => open_mould7 h) h1
  simp at hab hA
  obtain ⟨rfl, rfl⟩ := hab
  subst hA
  exact ⟨A, n0, ca, ⟨a, b, ms⟩, rfl, hca, hM⟩
end
open Go.ChangeShapes Go.WideShapes Go.RowKit
theorem cellsU8 : Tryz.prog.cellsOf 5 = 1 := by kernel_rfl
theorem cellsBs : Tryz.prog.cellsOf 31 = 1 := by kernel_rfl
theorem u8_of {n : Int} (h : (Lit.int .u8 n).wf = true) : ∃ k : Nat, n = k ∧ k < 256 := by
 have h2 : 0 ≤ n ∧ n ≤ 255 := by simpa [Lit.wf, IntKind.min, IntKind.max, IntKind.wrap, IntKind.signed, IntKind.bits] using h
 exact ⟨n.toNat, by omega, by omega⟩
theorem open_bytes7 {H : Type} {enc : TypeId × Value → H} {W : World} {sp : Nat → Bool} {held : Bool} {fuel : Nat} {cs : List Value} {x : DataW H × List MemPlace} (h : DataW.trod enc Tryz.prog W 0 sp held fuel 31 cs = some x) : ∃ A n c xs, cs = [.slice A n c] ∧ n ≤ c ∧ Bytes (fun _ => True) W A n xs :=
 open_rows (R := ByteR) Tryz.underlying31 cellsU8 (by decide) (fun n cs y h => by
  obtain ⟨a, rfl, _, hwf⟩ := DataW.trod_int Tryz.underlying5 h
  obtain ⟨k, rfl, hk⟩ := u8_of hwf
  exact ⟨k, ⟨rfl, hk⟩, rfl⟩) h
open Go.ChangeShapes Go.WideShapes Go.RowKit
theorem cellsPast : Tryz.prog.cellsOf 33 = 2 := by kernel_rfl
theorem open_past7 {H : Type} {enc : TypeId × Value → H} {W : World} {sp : Nat → Bool} {held : Bool} {fuel : Nat} {cs : List Value} {x : DataW H × List MemPlace} (h : DataW.trod enc Tryz.prog W 0 sp held fuel 33 cs = some x) : ∃ A n c xs B m d ys, cs = [.slice A n c, .slice B m d] ∧ Bytes (fun _ => True) W A n xs ∧ Bytes (fun _ => True) W B m ys := by
 obtain ⟨z0, z1, n2, _, hl, g0, g1⟩ := trod_struct2 Tryz.underlying33 h
 rw [cellsPast] at hl
 simp only [cellsBs] at g0 g1
 match cs, hl with
 | [c0, c1], _ =>
  obtain ⟨A, n, c, xs, hA, _, hX⟩ := open_bytes7 g0
  obtain ⟨B, m, d, ys, hB, _, hY⟩ := open_bytes7 g1
  simp at hA hB
  subst hA hB
  exact ⟨A, n, c, xs, B, m, d, ys, rfl, hX, hY⟩
open Go.RowKit Go.ChangeShapes Go.WideShapes Go.Deep
theorem cellsCase5 : Tryz.prog.cellsOf 25 = 5 := by kernel_rfl
theorem cellsRoad5 : Tryz.prog.cellsOf 72 = 2 := by kernel_rfl
theorem cellsHs5 : Tryz.prog.cellsOf 22 = 1 := by kernel_rfl
theorem cellsRs5 : Tryz.prog.cellsOf 23 = 1 := by kernel_rfl
theorem cellsMs5 : Tryz.prog.cellsOf 36 = 5 := by kernel_rfl
theorem cellsB25 : Tryz.prog.cellsOf 34 = 2 := by kernel_rfl
section
variable {H : Type} {enc : TypeId × Value → H} {P : Program} {W : World} {sp : Nat → Bool} {held : Bool}
theorem trod_struct5 {t : TypeId} {f0 f1 f2 f3 f4 : Field} {fuel : Nat} {cs : List Value} {x : DataW H × List MemPlace} (ht : P.underlying t = some (.struct #[f0, f1, f2, f3, f4])) (h : DataW.trod enc P W 0 sp held fuel t cs = some x) :
  ∃ y0 y1 y2 y3 y4 n, cs.length = P.cellsOf t ∧ DataW.trod enc P W 0 sp held n f0.type ((cs.drop f0.offset).take (P.cellsOf f0.type)) = some y0 ∧
   DataW.trod enc P W 0 sp held n f1.type ((cs.drop f1.offset).take (P.cellsOf f1.type)) = some y1 ∧ DataW.trod enc P W 0 sp held n f2.type ((cs.drop f2.offset).take (P.cellsOf f2.type)) = some y2 ∧
   DataW.trod enc P W 0 sp held n f3.type ((cs.drop f3.offset).take (P.cellsOf f3.type)) = some y3 ∧ DataW.trod enc P W 0 sp held n f4.type ((cs.drop f4.offset).take (P.cellsOf f4.type)) = some y4 := by
 obtain ⟨xs, n, _, rfl, hl, hlen, hf⟩ := DataW.trod_struct ht h
 match xs, hlen with
 | [y0, y1, y2, y3, y4], _ => exact ⟨y0, y1, y2, y3, y4, n, hl, by simpa using hf 0 f0 rfl, by simpa using hf 1 f1 rfl, by simpa using hf 2 f2 rfl, by simpa using hf 3 f3 rfl, by simpa using hf 4 f4 rfl⟩
end
section
variable {H : Type} {enc : TypeId × Value → H} {W : World} {sp : Nat → Bool} {held : Bool}
theorem open_road5 {fuel : Nat} {cs : List Value} {x : DataW H × List MemPlace} (h : DataW.trod enc Tryz.prog W 0 sp held fuel 72 cs = some x) : ∃ a b : Int, cs = [.int .i64 a, .int .i64 b] := by
 obtain ⟨z0, z1, n2, _, hl, g0, g1⟩ := trod_struct2 Tryz.underlying72 h
 rw [cellsRoad5] at hl
 simp only [cellsInt] at g0 g1
 match cs, hl with
 | [c0, c1], _ =>
  obtain ⟨a, ha, _, _⟩ := DataW.trod_int Tryz.underlying3 g0
  obtain ⟨b, hb, _, _⟩ := DataW.trod_int Tryz.underlying3 g1
  simp at ha hb
  subst ha hb
  exact ⟨a, b, rfl⟩
theorem open_case5 {fuel : Nat} {cs : List Value} {x : DataW H × List MemPlace} (h : DataW.trod enc Tryz.prog W 0 sp held fuel 25 cs = some x) :
  ∃ (A : Option Addr) (n ca : Nat) (B : Option Addr) (m cb : Nat) (c : Case5), cs = [.int .i64 c.kind, .int .i64 c.base, .int .i64 c.most, .slice A n ca, .slice B m cb] ∧ CaseAt (fun _ => True) W A n B m c := by
 obtain ⟨y0, y1, y2, y3, y4, n, hl, h0, h1, h2, h3, h4⟩ := trod_struct5 Tryz.underlying25 h
 rw [cellsCase5] at hl
 simp only [cellsInt, cellsHs5, cellsRs5] at h0 h1 h2 h3 h4
 match cs, hl with
 | [c0, c1, c2, c3, c4], _ =>
  obtain ⟨a, ha, _, _⟩ := DataW.trod_int Tryz.underlying3 h0
  obtain ⟨b, hb, _, _⟩ := DataW.trod_int Tryz.underlying3 h1
  obtain ⟨d, hd, _, _⟩ := DataW.trod_int Tryz.underlying3 h2
  obtain ⟨A, n0, ca, hs, hA, _, hT⟩ := open_rows (R := IntR) Tryz.underlying22 cellsInt (by decide) (fun n cs y h => by
   obtain ⟨a, rfl, _, _⟩ := DataW.trod_int Tryz.underlying3 h
   exact ⟨a, rfl, rfl⟩) h3
  obtain ⟨B, m0, cb, rs, hB, _, hR⟩ := open_rows (R := PairR) Tryz.underlying23 cellsRoad5 (by decide) (fun n cs y h => by
   obtain ⟨a, b, rfl⟩ := open_road5 h
   exact ⟨(a, b), rfl, rfl⟩) h4
  simp at ha hb hd hA hB
  subst ha hb hd hA hB
  exact ⟨A, n0, ca, B, m0, cb, ⟨a, b, d, hs, rs⟩, rfl, hT, hR⟩
set_option maxRecDepth 100000 in
theorem open_b25 {fuel : Nat} {cs : List Value} {x : DataW H × List MemPlace} (h : DataW.trod enc Tryz.prog W 0 sp held fuel 34 cs = some x) : ∃ a b : Nat, cs = [.int .u8 (a : Int), .int .u8 (b : Int)] ∧ a < 256 ∧ b < 256 := by
 obtain ⟨xs, m, _, _, hl, hxl, hi⟩ := DataW.trod_array Tryz.underlying34 h
 rw [cellsB25] at hl
 have h0 := hi 0 (by decide)
 have h1 := hi 1 (by decide)
 rw [cellsU8] at h0 h1
 rw [List.getElem?_eq_getElem (by omega)] at h0 h1
 obtain ⟨a0, ha0, _, hw0⟩ := DataW.trod_int Tryz.underlying5 h0
 obtain ⟨n0, rfl, hb0⟩ := u8_of hw0
 obtain ⟨a1, ha1, _, hw1⟩ := DataW.trod_int Tryz.underlying5 h1
 obtain ⟨n1, rfl, hb1⟩ := u8_of hw1
 match cs, hl with
 | [c0, c1], _ =>
  simp at ha0 ha1
  subst ha0 ha1
  exact ⟨n0, n1, rfl, hb0, hb1⟩
theorem open_measured5 {fuel : Nat} {cs : List Value} {x : DataW H × List MemPlace} (h : DataW.trod enc Tryz.prog W 0 sp held fuel 36 cs = some x) :
  ∃ XA xn xc xs XB xm xd ys, ∃ sa sb of : Nat, cs = [.slice XA xn xc, .slice XB xm xd, .int .u8 (sa : Int), .int .u8 (sb : Int), .int .u8 (of : Int)] ∧ Bytes (fun _ => True) W XA xn xs ∧ Bytes (fun _ => True) W XB xm ys ∧ sa < 256 ∧ sb < 256 ∧ of < 256 := by
 obtain ⟨y0, y1, y2, n, _, hl, h0, h1, h2⟩ := trod_struct3 Tryz.underlying36 h
 rw [cellsMs5] at hl
 simp only [cellsPast, cellsB25, cellsU8] at h0 h1 h2
 match cs, hl with
 | [c0, c1, c2, c3, c4], _ =>
  obtain ⟨XA, xn, xc, xs, XB, xm, xd, ys, hAB, hX, hY⟩ := open_past7 h0
  obtain ⟨sa, sb, hS, ha, hb⟩ := open_b25 h1
  obtain ⟨o, hO, _, hw⟩ := DataW.trod_int Tryz.underlying5 h2
  obtain ⟨of, rfl, ho⟩ := u8_of hw
  simp at hAB hS hO
  obtain ⟨rfl, rfl⟩ := hAB
  obtain ⟨rfl, rfl⟩ := hS
  subst hO
  exact ⟨XA, xn, xc, xs, XB, xm, xd, ys, sa, sb, of, rfl, hX, hY, ha, hb, ho⟩
end
end Go.Proofs.YtcnebekkbfajbaaGreat
