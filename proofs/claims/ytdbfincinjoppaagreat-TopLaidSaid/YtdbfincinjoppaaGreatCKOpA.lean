/- A part of the proof that TopLaid always answers true. -/
import Derived.Deep.Strs
import Derived.ProofKit
import Derived.OpenShut
import Derived.Lib.SmallJoins
import Derived.Test.YtdbfincinjoppaaGreatCCastOk
import Derived.Test.YtdbfincinjoppaaGreatCKOut1
import Derived.Test.YtdbfincinjoppaaGreatCMaps2
set_option linter.all false
namespace Go.Proofs.YtdbfincinjoppaaGreat
open Go.RowKit Go.ChangeShapes Go.WideShapes Go.Deep
section
variable {H : Type} {enc : TypeId × Value → H} {P : Program} {W : World} {sp : Nat → Bool} {held : Bool}
theorem open_rows {α : Type} {R : Rd α} {m : Nat} {t e : TypeId} {fuel : Nat} {cs : List Value} {x : DataW H × List MemPlace} (ht : P.underlying t = some (.slice e)) (hc : P.cellsOf e = m) (hm : 0 < m)
  (hrow : ∀ (n : Nat) (cs : List Value) (y : DataW H × List MemPlace), DataW.trod enc P W 0 sp held n e cs = some y → ∃ x, R (fun _ => True) W x cs ∧ cs.length = m) (h : DataW.trod enc P W 0 sp held fuel t cs = some x) :
  ∃ A n c xs, cs = [.slice A n c] ∧ n ≤ c ∧ SliceOf R m (fun _ => True) W A n xs := by
 subst hc
 rcases DataW.trod_slice ht h with ⟨h0, _⟩ | ⟨a, len, cap, elems, rest, n, _, h0, _, _, hl, hmx, hlen, hel, _, _⟩
 ·exact ⟨none, 0, 0, [], h0, Nat.le_refl _, SliceOf.nil _ _ _ _ _⟩
 have hex : ∀ i : Nat, i < len → ∃ x cs, W.cells? 0 (a.add (i * P.cellsOf e)) (P.cellsOf e) = some cs ∧ R (fun _ => True) W x cs ∧ cs.length = P.cellsOf e := fun i hi => by
  have h1 := hel i hi
  rw [List.getElem?_eq_getElem (by omega)] at h1
  cases h2 : W.cells? 0 (a.add (i * P.cellsOf e)) (P.cellsOf e) with
  | none => rw [h2] at h1; cases h1
  | some cs =>
   rw [h2] at h1
   obtain ⟨x, hx, hcl⟩ := hrow _ _ _ h1
   exact ⟨x, cs, rfl, hx, hcl⟩
 rcases Nat.eq_zero_or_pos len with h00 | hpos
 ·subst h00
  exact ⟨some a, 0, cap, [], h0, hl, SliceOf.nil _ _ _ _ _⟩
 obtain ⟨x0, _⟩ := hex 0 hpos
 have hex2 : ∀ i : Nat, ∃ x, i < len → ∃ cs, W.cells? 0 (a.add (i * P.cellsOf e)) (P.cellsOf e) = some cs ∧ R (fun _ => True) W x cs ∧ cs.length = P.cellsOf e := fun i => by
  by_cases hi : i < len
  ·obtain ⟨x, hx⟩ := hex i hi
   exact ⟨x, fun _ => hx⟩
  exact ⟨x0, fun h => absurd h hi⟩
 obtain ⟨F, hF⟩ := Classical.axiomOfChoice hex2
 refine ⟨some a, len, cap, (List.range len).map F, h0, hl, by simp, Nat.le_trans hl hmx, fun k x hx => ?_⟩
 have hk : k < len := by have := of_getq' hx; simpa using this
 rw [List.getElem?_map, List.getElem?_range hk] at hx
 have hx : F k = x := by simpa using hx
 obtain ⟨cs', h1, h2, h3⟩ := hF k hk
 rw [hx] at h2
 obtain ⟨b, off, spot⟩ := a
 have hcell : ∀ j, j < P.cellsOf e → W.cell? (((⟨b, off, spot⟩ : Addr).add (k * P.cellsOf e)).add j) = cs'[j]? := fun j hj => (World.cells?_some h1).2.2 j hj
 have hc0 : cs'[0]? = some (cs'[0]'(by omega)) := List.getElem?_eq_getElem (by omega)
 have hspot : spot = none := by
  obtain ⟨_, cs0, g1, _, g3⟩ := hex 0 hpos
  have h0 := (World.cells?_some g1).2.2 0 hm
  have hc1 : cs0[0]? = some (cs0[0]'(by omega)) := List.getElem?_eq_getElem (by omega)
  have := World.cell?_spot (h0.trans hc1)
  simpa [Addr.add] using this
 subst hspot
 have hcell2 : ∀ j, j < P.cellsOf e → W.cell? ⟨b, off + k * P.cellsOf e + j, none⟩ = cs'[j]? := fun j hj => by
  rw [← hcell j hj, add_plain, add_plain]
 refine ⟨b, off, cs', rfl, trivial, World.block_lt_of_cell? W _ ((hcell2 0 hm).trans hc0), h2, fun j u hu => ?_⟩
 have hj : j < P.cellsOf e := by have := of_getq' hu; omega
 exact (hcell2 j hj).trans hu
end
theorem cellsStr : Tryz.prog.cellsOf 9 = 1 := by kernel_rfl
theorem cellsInt : Tryz.prog.cellsOf 3 = 1 := by kernel_rfl
theorem cellsSpan : Tryz.prog.cellsOf 23 = 2 := by kernel_rfl
theorem cellsMould : Tryz.prog.cellsOf 51 = 6 := by kernel_rfl
theorem cellsShop : Tryz.prog.cellsOf 26 = 3 := by kernel_rfl
theorem cellsMs : Tryz.prog.cellsOf 24 = 1 := by kernel_rfl
section
variable {H : Type} {enc : TypeId × Value → H} {W : World} {sp : Nat → Bool} {held : Bool}
theorem open_span7 {fuel : Nat} {cs : List Value} {x : DataW H × List MemPlace} (h : DataW.trod enc Tryz.prog W 0 sp held fuel 23 cs = some x) : ∃ a b : Int, cs = [.int .i64 a, .int .i64 b] := by
 obtain ⟨z0, z1, n2, _, hl, g0, g1⟩ := trod_struct2 Tryz.underlying23 h
 rw [cellsSpan] at hl
 simp only [cellsInt] at g0 g1
 match cs, hl with
 | [c0, c1], _ =>
  obtain ⟨a, ha, _, _⟩ := DataW.trod_int Tryz.underlying3 g0
  obtain ⟨b, hb, _, _⟩ := DataW.trod_int Tryz.underlying3 g1
  simp at ha hb
  subst ha hb
  exact ⟨a, b, rfl⟩
theorem open_mould7 {fuel : Nat} {cs : List Value} {x : DataW H × List MemPlace} (h : DataW.trod enc Tryz.prog W 0 sp held fuel 51 cs = some x) : ∃ y : Mould, MouldR (fun _ => True) W y cs ∧ cs.length = 6 := by
 obtain ⟨y0, y1, y2, y3, n, _, hl, h0, h1, h2, h3⟩ := Go.Joins.trod_struct4 Tryz.underlying51 h
 rw [cellsMould] at hl
 simp only [cellsStr, cellsSpan, cellsInt] at h0 h1 h2 h3
 match cs, hl with
 | [c0, c1, c2, c3, c4, c5], _ =>
  obtain ⟨s, hs, _, hs2⟩ := DataW.trod_string Tryz.underlying9 h0
  obtain ⟨a, b, hab⟩ := open_span7 h1
  obtain ⟨c, d, hcd⟩ := open_span7 h2
  obtain ⟨e, he, _, _⟩ := DataW.trod_int Tryz.underlying3 h3
  simp at hs hab hcd he
  obtain ⟨rfl, rfl⟩ := hab
  obtain ⟨rfl, rfl⟩ := hcd
  subst hs he
  exact ⟨⟨s.data.toList, a, b, c, d, e⟩, ⟨s, rfl, rfl, hs2⟩, rfl⟩
theorem open_shop {fuel : Nat} {cs : List Value} {x : DataW H × List MemPlace} (h : DataW.trod enc Tryz.prog W 0 sp held fuel 26 cs = some x) :
  ∃ (A : Option Addr) (n ca : Nat) (s : Shop), cs = [.int .i64 s.klo, .int .i64 s.khi, .slice A n ca] ∧ n ≤ ca ∧ Moulds (fun _ => True) W A n s.moulds := by
 obtain ⟨y0, y1, n, _, hl, h0, h1⟩ := trod_struct2 Tryz.underlying26 h
 rw [cellsShop] at hl
 simp only [cellsSpan, cellsMs] at h0 h1
 match cs, hl with
 | [c0, c1, c2], _ =>
  obtain ⟨a, b, hab⟩ := open_span7 h0
  obtain ⟨A, n0, ca, ms, hA, hca, hM⟩ := open_rows (R := MouldR) Tryz.underlying24 cellsMould (by decide) (fun _ _ _ h => open_mould7 h) h1
  simp at hab hA
  obtain ⟨rfl, rfl⟩ := hab
  subst hA
  exact ⟨A, n0, ca, ⟨a, b, ms⟩, rfl, hca, hM⟩
end
open Go.ChangeShapes Go.WideShapes Go.RowKit
theorem cellsU8 : Tryz.prog.cellsOf 5 = 1 := by kernel_rfl
theorem cellsBs : Tryz.prog.cellsOf 31 = 1 := by kernel_rfl
theorem u8_of {n : Int} (h : (Lit.int .u8 n).wf = true) : ∃ k : Nat, n = k ∧ k < 256 := by
 have h2 : 0 ≤ n ∧ n ≤ 255 := by simpa [Lit.wf, IntKind.min, IntKind.max, IntKind.wrap, IntKind.signed, IntKind.bits] using h
 exact ⟨n.toNat, by omega, by omega⟩
theorem open_bytes7 {H : Type} {enc : TypeId × Value → H} {W : World} {sp : Nat → Bool} {held : Bool} {fuel : Nat} {cs : List Value} {x : DataW H × List MemPlace} (h : DataW.trod enc Tryz.prog W 0 sp held fuel 31 cs = some x) : ∃ A n c xs, cs = [.slice A n c] ∧ n ≤ c ∧ Bytes (fun _ => True) W A n xs :=
 open_rows (R := ByteR) Tryz.underlying31 cellsU8 (by decide) (fun n cs y h => by
  obtain ⟨a, rfl, _, hwf⟩ := DataW.trod_int Tryz.underlying5 h
  obtain ⟨k, rfl, hk⟩ := u8_of hwf
  exact ⟨k, ⟨rfl, hk⟩, rfl⟩) h
open Go.ChangeShapes Go.WideShapes Go.RowKit
theorem cellsPast : Tryz.prog.cellsOf 33 = 2 := by kernel_rfl
theorem open_past7 {H : Type} {enc : TypeId × Value → H} {W : World} {sp : Nat → Bool} {held : Bool} {fuel : Nat} {cs : List Value} {x : DataW H × List MemPlace} (h : DataW.trod enc Tryz.prog W 0 sp held fuel 33 cs = some x) : ∃ A n c xs B m d ys, cs = [.slice A n c, .slice B m d] ∧ Bytes (fun _ => True) W A n xs ∧ Bytes (fun _ => True) W B m ys := by
 obtain ⟨z0, z1, n2, _, hl, g0, g1⟩ := trod_struct2 Tryz.underlying33 h
 rw [cellsPast] at hl
 simp only [cellsBs] at g0 g1
 match cs, hl with
 | [c0, c1], _ =>
  obtain ⟨A, n, c, xs, hA, _, hX⟩ := open_bytes7 g0
  obtain ⟨B, m, d, ys, hB, _, hY⟩ := open_bytes7 g1
  simp at hA hB
  subst hA hB
  exact ⟨A, n, c, xs, B, m, d, ys, rfl, hX, hY⟩
open Go.RowKit Go.ChangeShapes Go.WideShapes Go.Deep
theorem cellsTile : Tryz.prog.cellsOf 55 = 5 := by kernel_rfl
theorem cellsRow : Tryz.prog.cellsOf 64 = 3 := by kernel_rfl
theorem cellsHall : Tryz.prog.cellsOf 30 = 5 := by kernel_rfl
theorem cellsTs : Tryz.prog.cellsOf 27 = 1 := by kernel_rfl
theorem cellsRs : Tryz.prog.cellsOf 28 = 1 := by kernel_rfl
theorem cellsTiled : Tryz.prog.cellsOf 35 = 4 := by kernel_rfl
section
variable {H : Type} {enc : TypeId × Value → H} {W : World} {sp : Nat → Bool} {held : Bool}
theorem open_tile8 {fuel : Nat} {cs : List Value} {x : DataW H × List MemPlace} (h : DataW.trod enc Tryz.prog W 0 sp held fuel 55 cs = some x) : ∃ y : Tile, TileR (fun _ => True) W y cs ∧ cs.length = 5 := by
 obtain ⟨y0, y1, y2, n, _, hl, h0, h1, h2⟩ := trod_struct3 Tryz.underlying55 h
 rw [cellsTile] at hl
 simp only [cellsStr, cellsSpan] at h0 h1 h2
 match cs, hl with
 | [c0, c1, c2, c3, c4], _ =>
  obtain ⟨s, hs, _, hs2⟩ := DataW.trod_string Tryz.underlying9 h0
  obtain ⟨a, b, hab⟩ := open_span7 h1
  obtain ⟨c, d, hcd⟩ := open_span7 h2
  simp at hs hab hcd
  obtain ⟨rfl, rfl⟩ := hab
  obtain ⟨rfl, rfl⟩ := hcd
  subst hs
  exact ⟨⟨s.data.toList, a, b, c, d⟩, ⟨s, rfl, rfl, hs2⟩, rfl⟩
theorem open_row8 {fuel : Nat} {cs : List Value} {x : DataW H × List MemPlace} (h : DataW.trod enc Tryz.prog W 0 sp held fuel 64 cs = some x) : ∃ y : RowT, RowR (fun _ => True) W y cs ∧ cs.length = 3 := by
 obtain ⟨y0, y1, y2, n, _, hl, h0, h1, h2⟩ := trod_struct3 Tryz.underlying64 h
 rw [cellsRow] at hl
 simp only [cellsInt] at h0 h1 h2
 match cs, hl with
 | [c0, c1, c2], _ =>
  obtain ⟨a, ha, _, _⟩ := DataW.trod_int Tryz.underlying3 h0
  obtain ⟨b, hb, _, _⟩ := DataW.trod_int Tryz.underlying3 h1
  obtain ⟨c, hc, _, _⟩ := DataW.trod_int Tryz.underlying3 h2
  simp at ha hb hc
  subst ha hb hc
  exact ⟨⟨a, b, c⟩, rfl, rfl⟩
theorem open_hall {fuel : Nat} {cs : List Value} {x : DataW H × List MemPlace} (h : DataW.trod enc Tryz.prog W 0 sp held fuel 30 cs = some x) :
  ∃ (A : Option Addr) (n ca : Nat) (B : Option Addr) (m cb : Nat) (hl : Hall), cs = [.int .i64 hl.alo, .int .i64 hl.ahi, .int .i64 hl.most, .slice A n ca, .slice B m cb] ∧ n ≤ ca ∧ HallAt (fun _ => True) W A n B m hl := by
 obtain ⟨y0, y1, y2, y3, n, _, hl, h0, h1, h2, h3⟩ := Go.Joins.trod_struct4 Tryz.underlying30 h
 rw [cellsHall] at hl
 simp only [cellsInt, cellsSpan, cellsTs, cellsRs] at h0 h1 h2 h3
 match cs, hl with
 | [c0, c1, c2, c3, c4], _ =>
  obtain ⟨a, b, hab⟩ := open_span7 h0
  obtain ⟨c, hc, _, _⟩ := DataW.trod_int Tryz.underlying3 h1
  obtain ⟨A, n0, ca, ts, hA, hca, hT⟩ := open_rows (R := TileR) Tryz.underlying27 cellsTile (by decide) (fun _ _ _ h => open_tile8 h) h2
  obtain ⟨B, m0, cb, rs, hB, hcb, hR⟩ := open_rows (R := RowR) Tryz.underlying28 cellsRow (by decide) (fun _ _ _ h => open_row8 h) h3
  simp at hab hc hA hB
  obtain ⟨rfl, rfl⟩ := hab
  subst hc hA hB
  exact ⟨A, n0, ca, B, m0, cb, ⟨a, b, c, ts, rs⟩, rfl, hca, hT, hR⟩
theorem open_tiled {fuel : Nat} {cs : List Value} {x : DataW H × List MemPlace} (h : DataW.trod enc Tryz.prog W 0 sp held fuel 35 cs = some x) :
  ∃ XA xn xc xs XB xm xd ys SW sn sc ws CS cn cd zs, cs = [.slice XA xn xc, .slice XB xm xd, .slice SW sn sc, .slice CS cn cd] ∧ Bytes (fun _ => True) W XA xn xs ∧ Bytes (fun _ => True) W XB xm ys ∧ Bytes (fun _ => True) W SW sn ws ∧ Bytes (fun _ => True) W CS cn zs := by
 obtain ⟨y0, y1, y2, n, _, hl, h0, h1, h2⟩ := trod_struct3 Tryz.underlying35 h
 rw [cellsTiled] at hl
 simp only [cellsPast, cellsBs] at h0 h1 h2
 match cs, hl with
 | [c0, c1, c2, c3], _ =>
  obtain ⟨XA, xn, xc, xs, XB, xm, xd, ys, hAB, hX, hY⟩ := open_past7 h0
  obtain ⟨SW, sn, sc, ws, hS, _, hW⟩ := open_bytes7 h1
  obtain ⟨CS, cn, cd, zs, hC, _, hZ⟩ := open_bytes7 h2
  simp at hAB hS hC
  obtain ⟨rfl, rfl⟩ := hAB
  subst hS hC
  exact ⟨XA, xn, xc, xs, XB, xm, xd, ys, SW, sn, sc, ws, CS, cn, cd, zs, rfl, hX, hY, hW, hZ⟩
end
end Go.Proofs.YtdbfincinjoppaaGreat
