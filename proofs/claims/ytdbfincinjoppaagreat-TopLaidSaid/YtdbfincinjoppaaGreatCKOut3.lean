/- A part of the proof that TopLaid always answers true. -/
import Derived.Test.YtdbfincinjoppaaGreatCKEnt2
import Derived.Test.YtdbfincinjoppaaGreatCKOut2
import Derived.Test.YtdbfincinjoppaaGreatCRegion4
set_option linter.all false
namespace Go.Proofs.YtdbfincinjoppaaGreat
open Go.RowKit Go.Shelf
theorem infoSeenC : (Tryz.prog.info? 102).map (fun i => (i.zero, i.size, i.bytes)) = some (some (.agg #[.int .i64 0, .int .i64 0, .int .i64 0, .int .i64 0]), 4, 32) := by kernel_rfl
def toldI (s : Shop) (xs : List Nat) (r : Nat) : Nat := xs.getD (4 * r) 0 % s.moulds.length
def toldC (s : Shop) (xs : List Nat) (r : Nat) : Nat := xs.getD (4 * r + 1) 0 % castsN s (toldI s xs r)
def madeT (k : Int) (tw : List (Int × Int)) (m c : Nat) : Int := made7 (tw.getD m (0, 0)).1 (tw.getD m (0, 0)).2 c k
def toldM (s : Shop) (k : Int) (tw : List (Int × Int)) (xs : List Nat) (r : Nat) : Int := madeT k tw (toldI s xs r) (toldC s xs r)
def toldOne (s : Shop) (k : Int) (tw : List (Int × Int)) (xs : List Nat) (r : Nat) : SeenC :=
 ⟨(toldI s xs r : Int), (toldC s xs r : Int), max 0 (toldM s k tw xs r - (xs.getD (4 * r + 2) 0 % 5 : Nat)), min 20000 (toldM s k tw xs r + (xs.getD (4 * r + 3) 0 % 5 : Nat))⟩
def toldK7 (s : Shop) (k : Int) (tw : List (Int × Int)) (xs : List Nat) : Nat → List SeenC
 | 0 => []
 | r + 1 => if (toldK7 s k tw xs r).length < 6 then (if toldM s k tw xs r ≤ 20000 then toldK7 s k tw xs r ++ [toldOne s k tw xs r] else toldK7 s k tw xs r) else toldK7 s k tw xs r
def toldL7 (s : Shop) (k : Int) (tw : List (Int × Int)) (xs : List Nat) : List SeenC := toldK7 s k tw xs (xs.length / 4)
theorem toldK7_full {s : Shop} {k : Int} {tw : List (Int × Int)} {xs : List Nat} {r : Nat} (h : ¬ (toldK7 s k tw xs r).length < 6) : ∀ d, toldK7 s k tw xs (r + d) = toldK7 s k tw xs r
 | 0 => rfl
 | d + 1 => by
  have ih := toldK7_full h d
  rw [show r + (d + 1) = r + d + 1 by omega, toldK7, if_neg (by rw [ih]; exact h), ih]
theorem toldK7_le (s : Shop) (k : Int) (tw : List (Int × Int)) (xs : List Nat) : ∀ r, (toldK7 s k tw xs r).length ≤ 6
 | 0 => by simp [toldK7]
 | r + 1 => by
  have ih := toldK7_le s k tw xs r
  unfold toldK7
  split
  ·split
   ·rw [List.length_append, List.length_singleton]; omega
   exact ih
  exact ih
theorem Bytes.get4 {S : Foot} {w : World} {A : Option Addr} {n : Nat} {xs : List Nat} {k : Nat} (h : Bytes S w A n xs) (hk : k + 3 < n) :
  ∃ b off x0 x1 x2 x3, A = some ⟨b, off, none⟩ ∧ w.cell? ⟨b, off + k, none⟩ = some (.int .u8 ((x0 : Nat) : Int)) ∧ w.cell? ⟨b, off + (k + 1), none⟩ = some (.int .u8 ((x1 : Nat) : Int)) ∧ w.cell? ⟨b, off + (k + 2), none⟩ = some (.int .u8 ((x2 : Nat) : Int)) ∧ w.cell? ⟨b, off + (k + 3), none⟩ = some (.int .u8 ((x3 : Nat) : Int)) ∧ Hid (xs.getD k 0 = x0 ∧ xs.getD (k + 1) 0 = x1 ∧ xs.getD (k + 2) 0 = x2 ∧ xs.getD (k + 3) 0 = x3) ∧ x0 < 256 ∧ x1 < 256 ∧ x2 < 256 ∧ x3 < 256 := by
 obtain ⟨b, off, x0, rfl, c0, H0, l0⟩ := Bytes.get h (k := k) (by omega)
 obtain ⟨b1, o1, x1, q1, c1, H1, l1⟩ := Bytes.get h (k := k + 1) (by omega)
 obtain ⟨b2, o2, x2, q2, c2, H2, l2⟩ := Bytes.get h (k := k + 2) (by omega)
 obtain ⟨b3, o3, x3, q3, c3, H3, l3⟩ := Bytes.get h (k := k + 3) hk
 cases q1; cases q2; cases q3
 exact ⟨b, off, x0, x1, x2, x3, rfl, c0, c1, c2, c3, ⟨getD_of H0.out, getD_of H1.out, getD_of H2.out, getD_of H3.out⟩, l0, l1, l2, l3⟩
def NewPlB (B : Nat) (v : Value) (W : World) : Prop := ∃ g : Nat, B ≤ g ∧ v = .pointer (some ⟨g, 0, none⟩) ∧ Blk W g 49 #[.int .i64 0, .int .i64 0]
theorem NewPlB.bl {B : Nat} {v : Value} {W V : World} (h : NewPlB B v W) (hb : Below W.heap.size W V) : NewPlB B v V := by
 obtain ⟨g, h0, h1, h2⟩ := h
 exact ⟨g, h0, h1, h2.bl hb⟩
def IsSn (m c lo hi : Int) (v : Value) (W : World) : Prop := ∃ g : Nat, v = .slice (some ⟨g, 0, none⟩) 1 1 ∧ Blk W g 102 #[.int .i64 m, .int .i64 c, .int .i64 lo, .int .i64 hi]
theorem IsSn.bl {m c lo hi : Int} {v : Value} {W V : World} (h : IsSn m c lo hi v W) (hb : Below W.heap.size W V) : IsSn m c lo hi v V := by
 obtain ⟨g, h1, h2⟩ := h
 exact ⟨g, h1, h2.bl hb⟩
theorem blk_newsC {w : World} {g : Nat} {t : TypeId} {x y z u : Value} (h : Blk w g t #[x, y, z, u]) {j : Nat} {v : Value} (hv : [x, y, z, u][j]? = some v) : w.cell? ((⟨g, 0, none⟩ : Addr).add j) = some v := by
 have hadd : (⟨g, 0, none⟩ : Addr).add j = ⟨g, j, none⟩ := by unfold Addr.add; split <;> simp_all
 rw [hadd, h.cell]
 simpa using hv
def IsSeensD (w0 : Nat) (xs : List SeenC) (e : Ending) (w' : World) : Prop := ∃ (A' : Option Addr) (c : Nat), e = .returned (.slice A' xs.length c) ∧ SeenCs (fun k => w0 ≤ k) w' A' xs.length xs ∧ xs.length ≤ c
theorem OwnL.cap7 {α : Type} {R : Rd α} {m : Nat} {S : Foot} {w : World} {base : Nat} {e : TypeId} {xs : List α} {A : Option Addr} {n cap : Nat} (h : OwnL R m S w base e (.slice A n cap) xs) : n ≤ cap := by
 obtain ⟨_, cells, ho, _⟩ := h
 rcases ho.2 with ⟨e, h0⟩ | ⟨gb, cap', cur, e, _, _, hc, _⟩
 ·injection e with _ e1 e2; omega
 injection e with _ e1 e2; omega
def IsSeensC (w0 : Nat) (xs : List SeenC) (e : Ending) (w' : World) : Prop := ∃ (A' : Option Addr) (c : Nat), e = .returned (.slice A' xs.length c) ∧ SeenCs (fun k => w0 ≤ k) w' A' xs.length xs
set_option maxRecDepth 100000 in
set_option maxHeartbeats 8000000 in
theorem told7_cap {S T' : Foot} {A C D : Option Addr} {n ca q cc dn dc : Nat} {s : Shop} {klo khi k : Int} {xs : List Nat} {tw : List (Int × Int)} (w : World) (g : Moulds (fun _ => True) w A n s.moulds) (hx : Bytes S w C q xs) (hd : Pairs T' w D dn tw) (hk : OkS s)
  (hdn : dn = s.moulds.length) (hb : ∀ p ∈ tw, (1 ≤ p.1 ∧ p.1 ≤ 20000) ∧ 0 ≤ p.2 ∧ p.2 ≤ 20) (hkk : 0 ≤ k ∧ k ≤ 100) :
  Calls Tryz.prog 9 #[.agg #[.int .i64 klo, .int .i64 khi, .slice A n ca], .agg #[.int .i64 k, .slice D dn dc], .slice C q cc] w fun e w' => IsSeensD w.heap.size (toldL7 s k tw xs) e w' ∧ Below w.heap.size w w' := by
 obtain ⟨i0, hi0, hz0, hz1, hz2⟩ := info_parts infoSeenC
 have Hn := Lib.hid g.len
 have Hq := Lib.hid hx.len
 have Hdn := Lib.hid hd.len
 have hn4 : n ≤ 4 := by rw [← Hn.out]; exact hk.nm.2
 have hn1 : 1 ≤ n := by rw [← Hn.out]; exact hk.nm.1
 have HDN : Hid (dn = n) := hdn.trans Hn.out
 obtain ⟨U0, hU0⟩ : ∃ U0, (w.alloc (.cells #[.int .i64 klo, .int .i64 khi, .slice A n ca] 26)).alloc (.cells #[.int .i64 k, .slice D dn dc] 43) = U0 := ⟨_, rfl⟩
 have X : Blk U0 w.heap.size 26 #[.int .i64 klo, .int .i64 khi, .slice A n ca] := by rw [← hU0]; exact (Blk.new _ _ _ rfl).alloc _
 have Y : Blk U0 (w.heap.size + 1) 43 #[.int .i64 k, .slice D dn dc] := by rw [← hU0]; exact Blk.new _ _ _ (by simp)
 have hBW : Below w.heap.size w U0 := by rw [← hU0]; exact bl_alloc (bl_alloc (Below.refl _ _) _ (Nat.le_refl _)) _ (Nat.le_refl _)
 have HX := Lib.hid X
 have HY := Lib.hid Y
 have HG := Lib.hid (g.keep MouldR.good (Keeps.below hBW))
 have HXS := Lib.hid (hx.keep ByteR.good (Keeps.below hBW))
 have HDD := Lib.hid (hd.keep PairR.good (Keeps.below hBW))
 have HB := Lib.hid hb
 have HK := Lib.hid hk
 have hql := hx.le
 have hdl := hd.le
 clear hx hd hb g X Y hk hdn
 go_enter Tryz.func9, Tryz.ntmps9
 go_wp2_with fail
 clear hU0
 go_loopw [7, 8] (fun o i wr => ∃ (r i4 len cap : Nat) (An : Option Addr), Hid (i4 = 4 * r) ∧ Hid (4 * r ≤ q) ∧ i = .int .i64 i4 ∧ o = .slice An len cap ∧ Hid (Below U0.heap.size U0 wr) ∧ Hid (OwnL SeenCR 4 (fun _ => False) wr U0.heap.size 102 (.slice An len cap) (toldK7 s k tw xs r)) ∧ Hid ((toldK7 s k tw xs r).length = len) ∧ len ≤ 6) (fun _ i _ => q - (intOf i).toNat)
 case atStart => exact ⟨0, 0, 0, 0, none, rfl, Nat.zero_le _, rfl, rfl, Below.refl _ _, OwnL.nil _ _ _ _ _ _, rfl, by decide⟩
 case round =>
  obtain ⟨r, i4, len, cap, An, HI4, HRQ, rfl, rfl, HBr, HO, Hlen, hlen6⟩ := hrel
  have hi4q : i4 ≤ q := by have := HI4.out; have := HRQ.out; omega
  have hi4m : i4 ≤ 9223372036854775807 := by omega
  have hfin : ∀ (hh : ¬ (i4 + 3 < q ∧ len < 6)), toldL7 s k tw xs = toldK7 s k tw xs r := fun hh => by
   unfold toldL7
   have e1 := HI4.out
   have e2 := Hq.out
   have e3 := HRQ.out
   rw [e2]
   by_cases h3 : i4 + 3 < q
   ·obtain ⟨d, hd⟩ : ∃ d, q / 4 = r + d := ⟨q / 4 - r, by omega⟩
    rw [hd]
    exact toldK7_full (by rw [Hlen.out]; omega) d
   rw [show q / 4 = r by omega]
  have HFIN := Lib.hid hfin
  clear hfin
  by_cases hlt : i4 + 3 < q
  ·have hwi3 : IntKind.i64.wrap ((i4 : Int) + 3) = (i4 : Int) + 3 := by rw [IntKind.wrap_i64]; omega
   have hlti : (i4 : Int) + 3 < q := by omega
   by_cases hr : len < 6
   ·have hri : (len : Int) < 6 := by omega
    obtain ⟨bC, oC, z0, z1, z2, z3, rfl, d0, d1, d2, d3, HZ, l0, l1, l2, l3⟩ := Bytes.get4 (HXS.out.keep ByteR.good (Keeps.below HBr.out)) hlt
    obtain ⟨m0, hm0⟩ : ∃ m0, z0 % n = m0 := ⟨_, rfl⟩
    have g0 : m0 < n := by rw [← hm0]; exact Nat.mod_lt _ (by omega)
    obtain ⟨bM, oM, sn, ma, mz, my, mu, ct, rfl, hbM, e0, e1, e2, e3, e4, e5, hss, HxM⟩ := Moulds.get (HG.out.keep MouldR.good (Keeps.below HBr.out)) g0
    have hbd := mouldE_zero HxM.out (HK.out.mould (by rw [Hn.out]; exact g0))
    dsimp only at hbd
    obtain ⟨_, _, hb9, hb10⟩ := hbd
    obtain ⟨ctn, rfl⟩ := Int.eq_ofNat_of_zero_le (show 0 ≤ ct by omega)
    have HCN : Hid (castsN s m0 = ctn) := by rw [Hid, castsN, getD_of HxM.out]; exact Int.toNat_natCast _
    obtain ⟨m1, hm1⟩ : ∃ m1, z1 % ctn = m1 := ⟨_, rfl⟩
    obtain ⟨m2, hm2⟩ : ∃ m2, z2 % 5 = m2 := ⟨_, rfl⟩
    obtain ⟨m3, hm3⟩ : ∃ m3, z3 % 5 = m3 := ⟨_, rfl⟩
    have g1 : m1 < ctn := by rw [← hm1]; exact Nat.mod_lt _ (by omega)
    have g2 : m2 < 5 := by rw [← hm2]; exact Nat.mod_lt _ (by decide)
    have g3 : m3 < 5 := by rw [← hm3]; exact Nat.mod_lt _ (by decide)
    have t0 : ((z0 : Int)).tmod (n : Int) = (m0 : Int) := by rw [Int.tmod_eq_emod_of_nonneg (by omega), ← hm0]; rfl
    have t1 : ((z1 : Int)).tmod (ctn : Int) = (m1 : Int) := by rw [Int.tmod_eq_emod_of_nonneg (by omega), ← hm1]; rfl
    have t2 : ((z2 : Int)).tmod 5 = (m2 : Int) := by rw [Int.tmod_eq_emod_of_nonneg (by omega), ← hm2]; rfl
    have t3 : ((z3 : Int)).tmod 5 = (m3 : Int) := by rw [Int.tmod_eq_emod_of_nonneg (by omega), ← hm3]; rfl
    have cv0 : IntKind.i64.wrap (z0 : Int) = z0 := by rw [IntKind.wrap_i64]; omega
    have cv1 : IntKind.i64.wrap (z1 : Int) = z1 := by rw [IntKind.wrap_i64]; omega
    have cv2 : IntKind.i64.wrap (z2 : Int) = z2 := by rw [IntKind.wrap_i64]; omega
    have cv3 : IntKind.i64.wrap (z3 : Int) = z3 := by rw [IntKind.wrap_i64]; omega
    have cm0 : IntKind.i64.wrap (m0 : Int) = m0 := by rw [IntKind.wrap_i64]; omega
    have cm1 : IntKind.i64.wrap (m1 : Int) = m1 := by rw [IntKind.wrap_i64]; omega
    have cm2 : IntKind.i64.wrap (m2 : Int) = m2 := by rw [IntKind.wrap_i64]; omega
    have cm3 : IntKind.i64.wrap (m3 : Int) = m3 := by rw [IntKind.wrap_i64]; omega
    have hdcn : ¬ ctn = 0 := by omega
    have hdz : ¬ (n : Int) = 0 := by omega
    have hdz2 : ((n : Int) == 0) = false := by simp; omega
    have hdc : ¬ (ctn : Int) = 0 := by omega
    have hdc2 : ((ctn : Int) == 0) = false := by simp; omega
    obtain ⟨j1, hj1⟩ : ∃ j1 : Nat, i4 + 1 = j1 := ⟨_, rfl⟩
    obtain ⟨j2, hj2⟩ : ∃ j2 : Nat, i4 + 2 = j2 := ⟨_, rfl⟩
    obtain ⟨j3, hj3⟩ : ∃ j3 : Nat, i4 + 3 = j3 := ⟨_, rfl⟩
    rw [hj1] at d1
    rw [hj2] at d2
    rw [hj3] at d3
    have wj1 : IntKind.i64.wrap ((i4 : Int) + 1) = (j1 : Int) := by rw [IntKind.wrap_i64]; omega
    have wj2 : IntKind.i64.wrap ((i4 : Int) + 2) = (j2 : Int) := by rw [IntKind.wrap_i64]; omega
    have hj1q : (j1 : Int) < q := by omega
    have hj2q : (j2 : Int) < q := by omega
    have hj3q : (j3 : Int) < q := by omega
    have hi4qi : (i4 : Int) < q := by omega
    have hm0i : (m0 : Int) < n := by omega
    obtain ⟨bD, oD, tv, ts, rfl, hbD, f0, f1, HtD⟩ := Pairs.get (HDD.out.keep PairR.good (Keeps.below HBr.out)) (k := m0) (by have := HDN.out; omega)
    obtain ⟨p1, p2⟩ := HB.out _ (List.mem_of_getElem? HtD.out)
    dsimp only at p1 p2
    obtain ⟨nn, hnn⟩ : ∃ nn : Int, made7 tv ts (m1 : Int) k = nn := ⟨_, rfl⟩
    have hnb : 1 ≤ nn ∧ nn ≤ 20160 := by have := made7_bd (c := (m1 : Int)) p1 p2 (by omega) hkk; rw [hnn] at this; omega
    have HCALL : Hid (∀ V, Below wr.heap.size wr V → Calls Tryz.prog 11 #[.agg #[.int .i64 k, .slice (some ⟨bD, oD, none⟩) dn dc], .agg #[.int .i64 m0, .int .i64 m1]] V fun e w' => e = .returned (.int .i64 nn) ∧ Below V.heap.size V w') := fun V hb => by
     have := lmade7_any (tc := dc) (c := m1) V ((HDD.out.keep PairR.good (Keeps.below HBr.out)).keep PairR.good (Keeps.below hb)) HtD.out p1 p2 (by omega) hkk
     rwa [hnn] at this
    have HMT : Hid (toldM s k tw xs r = nn ∧ toldI s xs r = m0 ∧ toldC s xs r = m1 ∧ xs.getD (4 * r + 2) 0 % 5 = m2 ∧ xs.getD (4 * r + 3) 0 % 5 = m3) := by
     obtain ⟨y0, y1, y2, y3⟩ := HZ.out
     have e9 := HI4.out
     rw [← e9, y2, y3]
     have hI : toldI s xs r = m0 := by rw [toldI, ← e9, y0, Hn.out, hm0]
     have hC : toldC s xs r = m1 := by rw [toldC, hI, HCN.out, ← e9, y1, hm1]
     exact ⟨by rw [toldM, madeT, hI, hC, getD_of HtD.out]; exact hnn, hI, hC, hm2, hm3⟩
    have hX := HX.out.bl HBr.out
    have x2 := hX.cell 2
    have HXr := Lib.hid hX
    have HYr := Lib.hid (HY.out.bl HBr.out)
    have E5 := Lib.hid e5
    have D1 := Lib.hid d1
    have D2 := Lib.hid d2
    have D3 := Lib.hid d3
    have HOr := HO
    have hj3i : (i4 : Int) + 3 = (j3 : Int) := by omega
    clear hm0 hm1 hm2 hm3 hnn hj1 hj2 hbD p1 p2 hss hbM e0 e1 e2 e3 e4 e5 d1 d2 d3 hX f0 f1 hb9 hb10
    go_wp2_with fail
    go_quiet (fail)
    obtain ⟨Va, hVa⟩ : ∃ V, wr.drewN nq = V := ⟨_, rfl⟩
    have HVA : Hid (Below wr.heap.size wr Va) := by rw [Hid, ← hVa]; exact bl_drewN (Below.refl _ _) _
    rw [hVa]
    clear hVa nq d0 x2
    have wj3 : IntKind.i64.wrap ((i4 : Int) + 3) = (j3 : Int) := by rw [hj3i, IntKind.wrap_i64]; omega
    clear hwi3 hlti hj3 hj3i
    have kk : Hid (∀ V, Below wr.heap.size wr V → V.cell? ⟨bC, oC + j1, none⟩ = some (.int .u8 z1) ∧ V.cell? ⟨bC, oC + j2, none⟩ = some (.int .u8 z2) ∧ V.cell? ⟨bC, oC + j3, none⟩ = some (.int .u8 z3) ∧ V.cell? ⟨w.heap.size, 2, none⟩ = some (.slice (some ⟨bM, oM, none⟩) n ca) ∧ V.cell? ⟨bM, oM + m0 * 6 + 5, none⟩ = some (.int .i64 ctn) ∧ V.cell? ⟨w.heap.size + 1, 0, none⟩ = some (.int .i64 k) ∧ V.cell? ⟨w.heap.size + 1, 1, none⟩ = some (.slice (some ⟨bD, oD, none⟩) dn dc)) := fun V hb =>
     ⟨getc hb D1.out, getc hb D2.out, getc hb D3.out, (HXr.out.bl hb).cell 2, getc hb E5.out, (HYr.out.bl hb).cell 0, (HYr.out.bl hb).cell 1⟩
    clear D1 D2 D3 E5 HXr HYr
    go_wp2_with fail
    refine wp_frameT ?_
    intro a0 ha0
    have tb2 : a0.tmps[2]? = some (.slice (some ⟨bC, oC, none⟩) q cc) := by rw [ha0]; kernel_rfl
    have tb3 : a0.tmps[3]? = some (.pointer (some ⟨w.heap.size, 0, none⟩)) := by rw [ha0]; kernel_rfl
    have tb8 : a0.tmps[8]? = some (.int .i64 (i4 : Int)) := by rw [ha0]; kernel_rfl
    have tb9 : a0.tmps[9]? = some (.int .i64 (m0 : Int)) := by rw [ha0]; kernel_rfl
    have hsz : a0.tmps.size = 83 := by rw [ha0]; kernel_rfl
    refine wp_region_list (fun W => Below Va.heap.size Va W) (fun w w' => Below w.heap.size w w')
     [isV (.int .i64 (m0 : Int)), isV (.slice (some ⟨bC, oC, none⟩) q cc), isV (.int .i64 (i4 : Int)), isV (.int .i64 (j1 : Int)), isV (.pointer (some ⟨bC, oC + j1, none⟩)), isV (.int .u8 (z1 : Int)), isV (.int .i64 (z1 : Int)), isV (.pointer (some ⟨w.heap.size, 2, none⟩)), isV (.slice (some ⟨bM, oM, none⟩) n ca), isV (.int .i64 (m0 : Int)), isV (.pointer (some ⟨bM, oM + m0 * 6, none⟩)), isV (.pointer (some ⟨bM, oM + m0 * 6 + 5, none⟩)), isV (.int .i64 (ctn : Int)), isV (.int .i64 (m1 : Int)), isV (.agg #[.int .i64 (m0 : Int), .int .i64 (m1 : Int)]), NewPlB Va.heap.size]
     (by kernel_rfl) (by kernel_rfl) (by kernel_rfl) (by simp) (by simp) (Below.refl _ _).drew ?stabA ?stepA ?finA
    case stabA => exact (StabL.is (StabL.is (StabL.is (StabL.is (StabL.is (StabL.is (StabL.is (StabL.is (StabL.is (StabL.is (StabL.is (StabL.is (StabL.is (StabL.is (StabL.is (StabL.cons (fun v W V hC hX h => h.bl hX) StabL.nil))))))))))))))))
    case stepA =>
     refine StepsL.isA ?_ (StepsL.isA ?_ (StepsL.isA ?_ (StepsL.isA ?_ (StepsL.isA ?_ (StepsL.isA ?_ (StepsL.isA ?_ (StepsL.isA ?_ (StepsL.isA ?_ (StepsL.isA ?_ (StepsL.isA ?_ (StepsL.isA ?_ (StepsL.isA ?_ (StepsL.isA ?_ (StepsL.isA ?_ (StepsL.consA ?_ StepsL.nil)))))))))))))))
     all_goals intro vs a W K ha hC hD hU hK
     all_goals try rw [if_pos (by rfl)]
     ·have r9 := fb ha (by kernel_rfl) tb9
      clear ha hU hD ha0
      go_simp
      exact hK _ hC (Below.refl _ _)
     ·have r2 := fb ha (by kernel_rfl) tb2
      clear ha hU hD ha0
      go_simp
      exact hK _ hC (Below.refl _ _)
     ·have r8 := fb ha (by kernel_rfl) tb8
      clear ha hU hD ha0
      go_simp
      exact hK _ hC (Below.refl _ _)
     ·have r35 := fq 35 2 ha hsz (by kernel_rfl) (by decide) (hD 2 (by simp [waits, Region.binds]))
      clear ha hU hD ha0
      go_simp
      exact hK _ hC (Below.refl _ _)
     ·have r34 := fq 34 1 ha hsz (by kernel_rfl) (by decide) (hD 1 (by simp [waits, Region.binds]))
      have r36 := fq 36 3 ha hsz (by kernel_rfl) (by decide) (hD 3 (by simp [waits, Region.binds]))
      clear ha hU hD ha0
      go_simp
      exact hK _ hC (Below.refl _ _)
     ·have r37 := fq 37 4 ha hsz (by kernel_rfl) (by decide) (hD 4 (by simp [waits, Region.binds]))
      clear ha hU hD ha0
      obtain ⟨k0c, k1c, k2c, k3c, k4c, k5c, k6c⟩ := kk.out W (bl_call HVA.out hC (Nat.le_refl _))
      go_simp
      exact hK _ hC (Below.refl _ _)
     ·have r38 := fq 38 5 ha hsz (by kernel_rfl) (by decide) (hD 5 (by simp [waits, Region.binds]))
      clear ha hU hD ha0
      go_simp
      exact hK _ hC (Below.refl _ _)
     ·have r3 := fb ha (by kernel_rfl) tb3
      clear ha hU hD ha0
      go_simp
      exact hK _ hC (Below.refl _ _)
     ·have r40 := fq 40 7 ha hsz (by kernel_rfl) (by decide) (hD 7 (by simp [waits, Region.binds]))
      clear ha hU hD ha0
      obtain ⟨k0c, k1c, k2c, k3c, k4c, k5c, k6c⟩ := kk.out W (bl_call HVA.out hC (Nat.le_refl _))
      go_simp
      exact hK _ hC (Below.refl _ _)
     ·have r9 := fb ha (by kernel_rfl) tb9
      clear ha hU hD ha0
      go_simp
      exact hK _ hC (Below.refl _ _)
     ·have r41 := fq 41 8 ha hsz (by kernel_rfl) (by decide) (hD 8 (by simp [waits, Region.binds]))
      have r42 := fq 42 9 ha hsz (by kernel_rfl) (by decide) (hD 9 (by simp [waits, Region.binds]))
      clear ha hU hD ha0
      go_simp
      exact hK _ hC (Below.refl _ _)
     ·have r43 := fq 43 10 ha hsz (by kernel_rfl) (by decide) (hD 10 (by simp [waits, Region.binds]))
      clear ha hU hD ha0
      go_simp
      exact hK _ hC (Below.refl _ _)
     ·have r44 := fq 44 11 ha hsz (by kernel_rfl) (by decide) (hD 11 (by simp [waits, Region.binds]))
      clear ha hU hD ha0
      obtain ⟨k0c, k1c, k2c, k3c, k4c, k5c, k6c⟩ := kk.out W (bl_call HVA.out hC (Nat.le_refl _))
      go_simp
      exact hK _ hC (Below.refl _ _)
     ·have r39 := fq 39 6 ha hsz (by kernel_rfl) (by decide) (hD 6 (by simp [waits, Region.binds]))
      have r45 := fq 45 12 ha hsz (by kernel_rfl) (by decide) (hD 12 (by simp [waits, Region.binds]))
      clear ha hU hD ha0
      go_simp
      exact hK _ hC (Below.refl _ _)
     ·have r33 := fq 33 0 ha hsz (by kernel_rfl) (by decide) (hD 0 (by simp [waits, Region.binds]))
      have r46 := fq 46 13 ha hsz (by kernel_rfl) (by decide) (hD 13 (by simp [waits, Region.binds]))
      clear ha hU hD ha0
      go_simp
      refine (at7_any (m0 : Int) (m1 : Int) W).mono ?_
      rintro e w' ⟨rfl, hb⟩
      exact hK _ (bl_call hC hb (Nat.le_refl _)) hb
     clear ha hU hD ha0
     go_simp
     exact hK _ _ (bl_alloc hC _ (Nat.le_refl _)) (bl_alloc (Below.refl _ _) _ (Nat.le_refl _)) ⟨_, hC.size, rfl, Blk.new _ _ _ rfl⟩
    intro vs W hC hE hU
    rw [ha0]
    clear hU hsz tb2 tb3 tb8 tb9
    have e14 : vs 14 = .agg #[.int .i64 (m0 : Int), .int .i64 (m1 : Int)] := hE 14 (by simp)
    have E15 : NewPlB Va.heap.size (vs 15) W := hE 15 (by simp)
    simp only [fillA, Act.put, List.setIfInBounds_toArray, List.set_cons_zero, List.set_cons_succ, Nat.zero_add, Nat.reduceAdd, e14]
    obtain ⟨gP, hgP, e15, hP⟩ := E15
    rw [e15]
    generalize vs 0 = u0, vs 1 = u1, vs 2 = u2, vs 3 = u3, vs 4 = u4, vs 5 = u5, vs 6 = u6, vs 7 = u7, vs 8 = u8, vs 9 = u9, vs 10 = u10, vs 11 = u11, vs 12 = u12, vs 13 = u13
    clear hE e14 e15
    have z0c := hP.cell 0
    have z1c := hP.cell 1
    have fz0 := hP.frozen 0
    have fz1 := hP.frozen 1
    have zl := hP.lt
    go_simp
    obtain ⟨Vb, hVb⟩ : ∃ V, (W.setCell ⟨gP, 0, none⟩ (.int .i64 (m0 : Int))).setCell ⟨gP, 1, none⟩ (.int .i64 (m1 : Int)) = V := ⟨_, rfl⟩
    have HP : Hid (Blk Vb gP 49 #[.int .i64 (m0 : Int), .int .i64 (m1 : Int)]) := by rw [Hid, ← hVb]; exact hP.set2 _ _
    have HVB : Hid (Below wr.heap.size wr Vb) := by
     have h9 : Below Va.heap.size Va Vb := by rw [← hVb]; exact bl_set (bl_set hC hgP _) hgP _
     exact bl_call HVA.out h9 (Nat.le_refl _)
    try rw [hVb]
    clear hVb hP hC z0c z1c fz0 fz1 zl HVA hgP
    obtain ⟨k0c, k1c, k2c, k3c, k4c, k5c, k6c⟩ := kk.out Vb HVB.out
    have pc0 := HP.out.cell 0
    have pc1 := HP.out.cell 1
    go_wp2_with fail
    clear k0c k1c k2c k3c k4c k5c k6c pc0 pc1
    refine (HCALL.out Vb HVB.out).mono ?_
    rintro e Vc ⟨rfl, hc1⟩
    have HVC : Hid (Below wr.heap.size wr Vc) := bl_call HVB.out hc1 (Nat.le_refl _)
    have HPc := Lib.hid (HP.out.bl hc1)
    clear hc1 HVB HP HCALL
    by_cases hn2 : nn ≤ 20000
    ·obtain ⟨nl, hnl⟩ : ∃ nl : Int, nn - (m2 : Int) = nl := ⟨_, rfl⟩
     obtain ⟨nh, hnh⟩ : ∃ nh : Int, nn + (m3 : Int) = nh := ⟨_, rfl⟩
     have wl : IntKind.i64.wrap (nn - (m2 : Int)) = nl := by rw [hnl, IntKind.wrap_i64]; omega
     have wh : IntKind.i64.wrap (nn + (m3 : Int)) = nh := by rw [hnh, IntKind.wrap_i64]; omega
     have HS : Hid (toldK7 s k tw xs (r + 1) = toldK7 s k tw xs r ++ [⟨(m0 : Int), (m1 : Int), max 0 nl, min 20000 nh⟩]) := by
      obtain ⟨v1, v2, v3, v4, v5⟩ := HMT.out
      rw [Hid, toldK7, if_pos (by rw [Hlen.out]; exact hr), if_pos (by rw [v1]; exact hn2), toldOne, v1, v2, v3, v4, v5, hnl, hnh]
     have kp : Hid (∀ V, Below Vc.heap.size Vc V → V.cell? ⟨gP, 0, none⟩ = some (.int .i64 m0) ∧ V.cell? ⟨gP, 1, none⟩ = some (.int .i64 m1)) := fun V hb => ⟨(HPc.out.bl hb).cell 0, (HPc.out.bl hb).cell 1⟩
     clear hnl hnh
     go_wp2_with fail
     refine wp_frameT ?_
     intro a0 ha0
     have tb2 : a0.tmps[2]? = some (.slice (some ⟨bC, oC, none⟩) q cc) := by rw [ha0]; kernel_rfl
     have tb8 : a0.tmps[8]? = some (.int .i64 (i4 : Int)) := by rw [ha0]; kernel_rfl
     have tb10 : a0.tmps[10]? = some (.pointer (some ⟨gP, 0, none⟩)) := by rw [ha0]; kernel_rfl
     have tb11 : a0.tmps[11]? = some (.int .i64 nn) := by rw [ha0]; kernel_rfl
     have hsz : a0.tmps.size = 83 := by rw [ha0]; kernel_rfl
     refine wp_region_list2 (fun W => Below Vc.heap.size Vc W) (fun w w' => Below w.heap.size w w')
      [isV (.slice An len cap), isV (.pointer (some ⟨gP, 0, none⟩)), isV (.int .i64 (m0 : Int)), isV (.pointer (some ⟨gP, 1, none⟩)), isV (.int .i64 (m1 : Int)), isV (.int .i64 nn), isV (.slice (some ⟨bC, oC, none⟩) q cc), isV (.int .i64 (i4 : Int)), isV (.int .i64 (j2 : Int)), isV (.pointer (some ⟨bC, oC + j2, none⟩)), isV (.int .u8 (z2 : Int)), isV (.int .i64 (z2 : Int)), isV (.int .i64 (m2 : Int)), isV (.int .i64 nl), isV (.int .i64 (max 0 nl)), isV (.int .i64 nn), isV (.slice (some ⟨bC, oC, none⟩) q cc), isV (.int .i64 (i4 : Int)), isV (.int .i64 (j3 : Int)), isV (.pointer (some ⟨bC, oC + j3, none⟩)), isV (.int .u8 (z3 : Int)), isV (.int .i64 (z3 : Int)), isV (.int .i64 (m3 : Int)), isV (.int .i64 nh), isV (.int .i64 (min 20000 nh)), isV (.agg #[.int .i64 (max 0 nl), .int .i64 (min 20000 nh)]), isV (.agg #[.int .i64 (m0 : Int), .int .i64 (m1 : Int), .int .i64 (max 0 nl), .int .i64 (min 20000 nh)]), IsSn (m0 : Int) (m1 : Int) (max 0 nl) (min 20000 nh)]
      (by kernel_rfl) (by kernel_rfl) (by kernel_rfl) (by rfl) (by rfl) (by rfl) (by rfl) (by rfl) (Below.refl _ _).drew ?stabC ?stepC ?finC
     case stabC => exact (StabL.is (StabL.is (StabL.is (StabL.is (StabL.is (StabL.is (StabL.is (StabL.is (StabL.is (StabL.is (StabL.is (StabL.is (StabL.is (StabL.is (StabL.is (StabL.is (StabL.is (StabL.is (StabL.is (StabL.is (StabL.is (StabL.is (StabL.is (StabL.is (StabL.is (StabL.is (StabL.is (StabL.cons (fun v W V hC hX h => h.bl hX) StabL.nil))))))))))))))))))))))))))))
     case stepC =>
      refine StepsL.isA ?_ (StepsL.isA ?_ (StepsL.isA ?_ (StepsL.isA ?_ (StepsL.isA ?_ (StepsL.isA ?_ (StepsL.isA ?_ (StepsL.isA ?_ (StepsL.isA ?_ (StepsL.isA ?_ (StepsL.isA ?_ (StepsL.isA ?_ (StepsL.isA ?_ (StepsL.isA ?_ (StepsL.isA ?_ (StepsL.isA ?_ (StepsL.isA ?_ (StepsL.isA ?_ (StepsL.isA ?_ (StepsL.isA ?_ (StepsL.isA ?_ (StepsL.isA ?_ (StepsL.isA ?_ (StepsL.isA ?_ (StepsL.isA ?_ (StepsL.isA ?_ (StepsL.isA ?_ (StepsL.consA ?_ StepsL.nil)))))))))))))))))))))))))))
      all_goals intro vs a W K ha hC hD hU hK
      all_goals try rw [if_pos (by rfl)]
      ·have r7 := fg 7 29 ha hsz (by kernel_rfl) (by decide)
       have q29 : vs 29 = .slice An len cap := (hU 29 _ rfl (by simp [waits, Region.binds])).trans (by rw [ha0]; kernel_rfl)
       rw [q29] at r7
       clear ha hU hD ha0
       go_simp
       exact hK _ hC (Below.refl _ _)
      ·have r10 := fb ha (by kernel_rfl) tb10
       clear ha hU hD ha0
       go_simp
       exact hK _ hC (Below.refl _ _)
      ·have r54 := fq 54 1 ha hsz (by kernel_rfl) (by decide) (hD 1 (by simp [waits, Region.binds]))
       clear ha hU hD ha0
       obtain ⟨k0c, k1c, k2c, k3c, k4c, k5c, k6c⟩ := kk.out W (bl_call HVC.out hC (Nat.le_refl _))
       obtain ⟨kp0, kp1⟩ := kp.out W hC
       go_simp
       exact hK _ hC (Below.refl _ _)
      ·have r10 := fb ha (by kernel_rfl) tb10
       clear ha hU hD ha0
       go_simp
       exact hK _ hC (Below.refl _ _)
      ·have r56 := fq 56 3 ha hsz (by kernel_rfl) (by decide) (hD 3 (by simp [waits, Region.binds]))
       clear ha hU hD ha0
       obtain ⟨k0c, k1c, k2c, k3c, k4c, k5c, k6c⟩ := kk.out W (bl_call HVC.out hC (Nat.le_refl _))
       obtain ⟨kp0, kp1⟩ := kp.out W hC
       go_simp
       exact hK _ hC (Below.refl _ _)
      ·have r11 := fb ha (by kernel_rfl) tb11
       clear ha hU hD ha0
       go_simp
       exact hK _ hC (Below.refl _ _)
      ·have r2 := fb ha (by kernel_rfl) tb2
       clear ha hU hD ha0
       go_simp
       exact hK _ hC (Below.refl _ _)
      ·have r8 := fb ha (by kernel_rfl) tb8
       clear ha hU hD ha0
       go_simp
       exact hK _ hC (Below.refl _ _)
      ·have r60 := fq 60 7 ha hsz (by kernel_rfl) (by decide) (hD 7 (by simp [waits, Region.binds]))
       clear ha hU hD ha0
       go_simp
       exact hK _ hC (Below.refl _ _)
      ·have r59 := fq 59 6 ha hsz (by kernel_rfl) (by decide) (hD 6 (by simp [waits, Region.binds]))
       have r61 := fq 61 8 ha hsz (by kernel_rfl) (by decide) (hD 8 (by simp [waits, Region.binds]))
       clear ha hU hD ha0
       go_simp
       exact hK _ hC (Below.refl _ _)
      ·have r62 := fq 62 9 ha hsz (by kernel_rfl) (by decide) (hD 9 (by simp [waits, Region.binds]))
       clear ha hU hD ha0
       obtain ⟨k0c, k1c, k2c, k3c, k4c, k5c, k6c⟩ := kk.out W (bl_call HVC.out hC (Nat.le_refl _))
       obtain ⟨kp0, kp1⟩ := kp.out W hC
       go_simp
       exact hK _ hC (Below.refl _ _)
      ·have r63 := fq 63 10 ha hsz (by kernel_rfl) (by decide) (hD 10 (by simp [waits, Region.binds]))
       clear ha hU hD ha0
       go_simp
       exact hK _ hC (Below.refl _ _)
      ·have r64 := fq 64 11 ha hsz (by kernel_rfl) (by decide) (hD 11 (by simp [waits, Region.binds]))
       clear ha hU hD ha0
       go_simp
       exact hK _ hC (Below.refl _ _)
      ·have r58 := fq 58 5 ha hsz (by kernel_rfl) (by decide) (hD 5 (by simp [waits, Region.binds]))
       have r65 := fq 65 12 ha hsz (by kernel_rfl) (by decide) (hD 12 (by simp [waits, Region.binds]))
       clear ha hU hD ha0
       go_simp
       exact hK _ hC (Below.refl _ _)
      ·have r66 := fq 66 13 ha hsz (by kernel_rfl) (by decide) (hD 13 (by simp [waits, Region.binds]))
       clear ha hU hD ha0
       have hmx := max_if 0 nl
       go_simp
       exact hK _ hC (Below.refl _ _)
      ·have r11 := fb ha (by kernel_rfl) tb11
       clear ha hU hD ha0
       go_simp
       exact hK _ hC (Below.refl _ _)
      ·have r2 := fb ha (by kernel_rfl) tb2
       clear ha hU hD ha0
       go_simp
       exact hK _ hC (Below.refl _ _)
      ·have r8 := fb ha (by kernel_rfl) tb8
       clear ha hU hD ha0
       go_simp
       exact hK _ hC (Below.refl _ _)
      ·have r70 := fq 70 17 ha hsz (by kernel_rfl) (by decide) (hD 17 (by simp [waits, Region.binds]))
       clear ha hU hD ha0
       go_simp
       exact hK _ hC (Below.refl _ _)
      ·have r69 := fq 69 16 ha hsz (by kernel_rfl) (by decide) (hD 16 (by simp [waits, Region.binds]))
       have r71 := fq 71 18 ha hsz (by kernel_rfl) (by decide) (hD 18 (by simp [waits, Region.binds]))
       clear ha hU hD ha0
       go_simp
       exact hK _ hC (Below.refl _ _)
      ·have r72 := fq 72 19 ha hsz (by kernel_rfl) (by decide) (hD 19 (by simp [waits, Region.binds]))
       clear ha hU hD ha0
       obtain ⟨k0c, k1c, k2c, k3c, k4c, k5c, k6c⟩ := kk.out W (bl_call HVC.out hC (Nat.le_refl _))
       obtain ⟨kp0, kp1⟩ := kp.out W hC
       go_simp
       exact hK _ hC (Below.refl _ _)
      ·have r73 := fq 73 20 ha hsz (by kernel_rfl) (by decide) (hD 20 (by simp [waits, Region.binds]))
       clear ha hU hD ha0
       go_simp
       exact hK _ hC (Below.refl _ _)
      ·have r74 := fq 74 21 ha hsz (by kernel_rfl) (by decide) (hD 21 (by simp [waits, Region.binds]))
       clear ha hU hD ha0
       go_simp
       exact hK _ hC (Below.refl _ _)
      ·have r68 := fq 68 15 ha hsz (by kernel_rfl) (by decide) (hD 15 (by simp [waits, Region.binds]))
       have r75 := fq 75 22 ha hsz (by kernel_rfl) (by decide) (hD 22 (by simp [waits, Region.binds]))
       clear ha hU hD ha0
       go_simp
       exact hK _ hC (Below.refl _ _)
      ·have r76 := fq 76 23 ha hsz (by kernel_rfl) (by decide) (hD 23 (by simp [waits, Region.binds]))
       clear ha hU hD ha0
       have hmx := min_if 20000 nh
       go_simp
       exact hK _ hC (Below.refl _ _)
      ·have r67 := fq 67 14 ha hsz (by kernel_rfl) (by decide) (hD 14 (by simp [waits, Region.binds]))
       have r77 := fq 77 24 ha hsz (by kernel_rfl) (by decide) (hD 24 (by simp [waits, Region.binds]))
       clear ha hU hD ha0
       go_simp
       refine (span7_any (max 0 nl) (min 20000 nh) W).mono ?_
       rintro e w' ⟨rfl, hb⟩
       exact hK _ (bl_call hC hb (Nat.le_refl _)) hb
      ·have r55 := fq 55 2 ha hsz (by kernel_rfl) (by decide) (hD 2 (by simp [waits, Region.binds]))
       have r57 := fq 57 4 ha hsz (by kernel_rfl) (by decide) (hD 4 (by simp [waits, Region.binds]))
       have r78 := fq 78 25 ha hsz (by kernel_rfl) (by decide) (hD 25 (by simp [waits, Region.binds]))
       clear ha hU hD ha0
       go_simp
       exact hK _ hC (Below.refl _ _)
      have r79 := fq 79 26 ha hsz (by kernel_rfl) (by decide) (hD 26 (by simp [waits, Region.binds]))
      clear ha hU hD ha0
      go_simp
      exact hK _ _ (bl_alloc hC _ (Nat.le_refl _)) (bl_alloc (Below.refl _ _) _ (Nat.le_refl _)) ⟨_, rfl, Blk.new _ _ _ rfl⟩
     intro vs W hC hE hU
     rw [ha0]
     clear hU hsz tb2 tb8 tb10 tb11
     have e0 : vs 0 = .slice An len cap := hE 0 (by simp)
     have E27 : IsSn (m0 : Int) (m1 : Int) (max 0 nl) (min 20000 nh) (vs 27) W := hE 27 (by simp)
     simp only [fillA, Act.put, List.setIfInBounds_toArray, List.set_cons_zero, List.set_cons_succ, Nat.zero_add, Nat.reduceAdd, e0]
     obtain ⟨g25, h25, hB25⟩ := E27
     rw [h25]
     generalize vs 1 = u1, vs 2 = u2, vs 3 = u3, vs 4 = u4, vs 5 = u5, vs 6 = u6, vs 7 = u7, vs 8 = u8, vs 9 = u9, vs 10 = u10, vs 11 = u11, vs 12 = u12, vs 13 = u13, vs 14 = u14, vs 15 = u15, vs 16 = u16, vs 17 = u17, vs 18 = u18, vs 19 = u19, vs 20 = u20, vs 21 = u21, vs 22 = u22, vs 23 = u23, vs 24 = u24, vs 25 = u25, vs 26 = u26
     clear hE e0 h25
     have hCw : Below wr.heap.size wr W := bl_call HVC.out hC (Nat.le_refl _)
     obtain ⟨A2, cap2, w2, hrun, hO2, hg2, hat⟩ := run_append_one W 45 45 SeenCR.good U0.heap.size 102 i0 _ 32 Tryz.underlying45 hi0 hz0 hz1 hz2 rfl (by omega) (.slice An len cap) (toldK7 s k tw xs r) ⟨(m0 : Int), (m1 : Int), max 0 nl, min 20000 nh⟩ (HOr.out.below SeenCR.good hCw) ⟨g25, 0, none⟩ 1 [.int .i64 m0, .int .i64 m1, .int .i64 (max 0 nl), .int .i64 (min 20000 nh)] rfl (fun j v hv => blk_newsC hB25 hv) (by rw [Hlen.out]; simp only [maxLen]; omega) (by rw [Hlen.out]; omega) (by have := hCw.size; have := HBr.out.size; omega) (fun h => h)
     have hB2 : Below U0.heap.size U0 w2 := bl_grown (bl_call HBr.out hCw (Nat.le_refl _)) (HOr.out.below SeenCR.good hCw) hg2 (Nat.le_refl _) (Nat.le_refl _)
     rw [Hlen.out] at hrun hO2
     rw [← HS.out] at hO2
     refine wp_append_of_run rfl rfl rfl hrun ?_
     clear hrun hg2 hat hC hB25 hCw kp kk
     have HO2 := Lib.hid hO2
     have HB2 := Lib.hid hB2
     clear hO2 hB2
     have hw4 : IntKind.i64.wrap ((i4 : Int) + 4) = (i4 : Int) + 4 := by rw [IntKind.wrap_i64]; omega
     go_simp
     go_wp2
     go_roundw
     case rel => exact ⟨r + 1, i4 + 4, len + 1, cap2, _, by rw [Hid, HI4.out]; omega, by rw [Hid]; have := HI4.out; omega, by go_num, rfl, HB2.out, HO2.out, by rw [Hid, HS.out, List.length_append, Hlen.out]; rfl, by omega⟩
     case measure => simp [intOf]; omega
    have HS : Hid (toldK7 s k tw xs (r + 1) = toldK7 s k tw xs r) := by
     rw [Hid, toldK7, if_pos (by rw [Hlen.out]; exact hr), if_neg (by rw [HMT.out.1]; exact hn2)]
    have hw4 : IntKind.i64.wrap ((i4 : Int) + 4) = (i4 : Int) + 4 := by rw [IntKind.wrap_i64]; omega
    have hO2 : OwnL SeenCR 4 (fun _ => False) Vc U0.heap.size 102 (.slice An len cap) (toldK7 s k tw xs (r + 1)) := by rw [HS.out]; exact HOr.out.below SeenCR.good HVC.out
    have HO2 := Lib.hid hO2
    clear hO2
    go_wp2_with fail
    go_roundw
    case rel => exact ⟨r + 1, i4 + 4, len, cap, _, by rw [Hid, HI4.out]; omega, by rw [Hid]; have := HI4.out; omega, by go_num, rfl, bl_call HBr.out HVC.out (Nat.le_refl _), HO2.out, by rw [Hid, HS.out]; exact Hlen.out, hlen6⟩
    case measure => simp [intOf]; omega
   have hri : ¬ (len : Int) < 6 := by omega
   have HL : Hid (toldL7 s k tw xs = toldK7 s k tw xs r) := HFIN.out (fun hh => hr hh.2)
   go_wp2_with fail
   go_ret
   rw [IsSeensD, HL.out, Hlen.out]
   exact ⟨⟨An, cap, by rfl, HO.out.slice SeenCR.good rfl (by simp only [maxLen]; omega) (fun _ h => h.elim) (fun j h _ => Nat.le_trans hBW.size h), HO.out.cap7⟩, bl_call hBW HBr.out (Nat.le_refl _)⟩
  have hlti : ¬ (i4 : Int) + 3 < q := by omega
  have HL : Hid (toldL7 s k tw xs = toldK7 s k tw xs r) := HFIN.out (fun hh => hlt hh.1)
  have hwi3 : IntKind.i64.wrap ((i4 : Int) + 3) = (i4 : Int) + 3 := by have := HI4.out; rw [IntKind.wrap_i64]; omega
  go_wp2_with fail
  go_ret
  rw [IsSeensD, HL.out, Hlen.out]
  exact ⟨⟨An, cap, by rfl, HO.out.slice SeenCR.good rfl (by simp only [maxLen]; omega) (fun _ h => h.elim) (fun j h _ => Nat.le_trans hBW.size h), HO.out.cap7⟩, bl_call hBW HBr.out (Nat.le_refl _)⟩
theorem told7_any {S T' : Foot} {A C D : Option Addr} {n ca q cc dn dc : Nat} {s : Shop} {klo khi k : Int} {xs : List Nat} {tw : List (Int × Int)} (w : World) (g : Moulds (fun _ => True) w A n s.moulds) (hx : Bytes S w C q xs) (hd : Pairs T' w D dn tw) (hk : OkS s)
  (hdn : dn = s.moulds.length) (hb : ∀ p ∈ tw, (1 ≤ p.1 ∧ p.1 ≤ 20000) ∧ 0 ≤ p.2 ∧ p.2 ≤ 20) (hkk : 0 ≤ k ∧ k ≤ 100) :
  Calls Tryz.prog 9 #[.agg #[.int .i64 klo, .int .i64 khi, .slice A n ca], .agg #[.int .i64 k, .slice D dn dc], .slice C q cc] w fun e w' => IsSeensC w.heap.size (toldL7 s k tw xs) e w' ∧ Below w.heap.size w w' :=
 (told7_cap w g hx hd hk hdn hb hkk).mono fun e w' h => ⟨by obtain ⟨A', c, h1, h2, _⟩ := h.1; exact ⟨A', c, h1, h2⟩, h.2⟩
end Go.Proofs.YtdbfincinjoppaaGreat
