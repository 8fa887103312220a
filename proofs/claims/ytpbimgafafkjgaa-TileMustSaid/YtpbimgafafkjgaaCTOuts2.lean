/- Walks: what the outright laws of layer 8 call first: valid, turn, among. -/
import Derived.Test.YtpbimgafafkjgaaCTLaw1
import Derived.Test.YtpbimgafafkjgaaCTOuts1
import Derived.Test.YtpbimgafafkjgaaCTRefsO
import Derived.Test.YtpbimgafafkjgaaCTRegs
set_option linter.unusedVariables false
set_option linter.unusedSimpArgs false
set_option linter.all false
namespace Go.Proofs.Ytpbimgafafkjgaa
open Go.RowKit

/-- a byte -/
def ByteR : Rd Nat := fun _ _ x vs => vs = [.int .u8 (x : Int)] ∧ x < 256
theorem ByteR.good : ByteR.Good 1 where
  len := by rintro S w x vs ⟨rfl, _⟩; rfl
  one := by rintro S w x vs ⟨rfl, _⟩ v hv; simp at hv; subst hv; rfl
  keep := by rintro S w w' x vs h hk; exact h
  mono := by rintro S T w x vs h hk; exact h
  bound := by rintro S w x vs h; exact h
abbrev Bytes := SliceOf ByteR 1
theorem Bytes.get {S : Foot} {w : World} {A : Option Addr} {n : Nat} {xs : List Nat} {k : Nat} (h : Bytes S w A n xs) (hk : k < n) :
    ∃ b off x, A = some ⟨b, off, none⟩ ∧ w.cell? ⟨b, off + k, none⟩ = some (.int .u8 ((x : Nat) : Int)) ∧ Hid (xs[k]? = some x) ∧ x < 256 := by
  have hlt : k < xs.length := by rw [h.1]; exact hk
  obtain ⟨b, off, vs, hA, _, _, ⟨rfl, hx⟩, hc⟩ := h.2.2 k xs[k] (List.getElem?_eq_getElem hlt)
  exact ⟨b, off, xs[k], hA, by simpa using hc 0 _ rfl, List.getElem?_eq_getElem hlt, hx⟩
def turnL (l : List Nat) (n : Nat) : Nat := if l.length = 0 then 0 else l.getD (n % l.length) 0

theorem valid_any {A B : Option Addr} {n ca m cb : Nat} {h : Hall} {alo ahi most : Int} (w : World) (g : HallAt (fun _ => True) w A n B m h) (h1 : h.alo = alo) (h2 : h.ahi = ahi) (h3 : h.most = most) :
    Calls Try.prog 37 #[.agg #[.int .i64 alo, .int .i64 ahi, .int .i64 most, .slice A n ca, .slice B m cb]] w fun e w' => e = .returned (.bool (decide ((check8 h).2.2 = 0))) ∧ Below w.heap.size w w' := by
  obtain ⟨W, hW⟩ : ∃ W, w.alloc (.cells #[.int .i64 alo, .int .i64 ahi, .int .i64 most, .slice A n ca, .slice B m cb] 27) = W := ⟨_, rfl⟩
  have X : Blk W w.heap.size 27 #[.int .i64 alo, .int .i64 ahi, .int .i64 most, .slice A n ca, .slice B m cb] := by rw [← hW]; exact Blk.new _ _ _ rfl
  have hBW : Below w.heap.size w W := by rw [← hW]; exact bl_alloc (Below.refl _ _) _ (Nat.le_refl _)
  have x0 := X.cell 0
  have x1 := X.cell 1
  have x2 := X.cell 2
  have x3 := X.cell 3
  have x4 := X.cell 4
  have hcall := rcheck_any (ca := ca) (cb := cb) W (g.keep (Keeps.below hBW)) h1 h2 h3
  generalize (check8 h).1 = p1 at hcall
  generalize (check8 h).2.1 = p2 at hcall
  obtain ⟨E, hE⟩ : ∃ E, (check8 h).2.2 = E := ⟨_, rfl⟩
  rw [hE] at hcall ⊢
  clear hE g
  go_enter Try.func37, Try.ntmps37
  go_wp2_with fail
  refine hcall.mono ?_
  rintro e W1 ⟨rfl, b1⟩
  have hB := bl_call hBW b1 (Nat.le_refl _)
  clear hcall hW x0 x1 x2 x3 x4 X b1
  go_wp2
  go_ret
  exact ⟨ret_bool (by by_cases h0 : E = 0 <;> simp [h0]), hB⟩

theorem turn_any {S : Foot} {A : Option Addr} {n c : Nat} {xs : List Nat} (k : Nat) (w : World) (h : Bytes S w A n xs) :
    Calls Try.prog 47 #[.slice A n c, .int .i64 k] w fun e w' => e = .returned (.int .i64 (turnL xs k)) ∧ w' = w := by
  have hle := h.le
  have Hl := Lib.hid h.len
  by_cases h0 : n = 0
  · subst h0
    have HR : Hid (turnL xs k = 0) := by rw [Hid, turnL, if_pos Hl.out]
    go_enter Try.func47, Try.ntmps47
    go_wp2
    go_ret
    exact ⟨ret_int (by rw [HR.out]; rfl), rfl⟩
  · obtain ⟨r, hr⟩ : ∃ r, k % n = r := ⟨_, rfl⟩
    have hrn : r < n := by rw [← hr]; exact Nat.mod_lt _ (by omega)
    obtain ⟨b, off, x, rfl, hcell, Hx, hx⟩ := Bytes.get h hrn
    have HR : Hid (turnL xs k = x) := by rw [Hid, turnL, if_neg (by rw [Hl.out]; exact h0), Hl.out, hr, getD_of Hx.out]
    have hmod : ((k : Int)).tmod (n : Int) = (r : Int) := by rw [Int.tmod_eq_emod_of_nonneg (by omega), ← hr]; rfl
    have hnz : ¬ (n : Int) = 0 := by omega
    have hnz2 : ((n : Int) == 0) = false := by simp; omega
    have hrni : (r : Int) < n := by omega
    have hcv : IntKind.i64.wrap (x : Int) = x := by rw [IntKind.wrap_i64]; omega
    clear hr h
    go_enter Try.func47, Try.ntmps47
    go_wp2
    go_ret
    exact ⟨ret_int (by rw [HR.out]), rfl⟩

def amongI (a z n : Int) : Int := a + n.tmod (z - a + 1)
theorem among_any (a z : Int) (n : Nat) (w : World) (h0 : 0 ≤ a) (h1 : a ≤ z) (h2 : z ≤ 100000) (hn : n ≤ 255) :
    Calls Try.prog 74 #[.agg #[.int .i64 a, .int .i64 z], .int .i64 n] w fun e w' => e = .returned (.int .i64 (amongI a z n)) ∧ Below w.heap.size w w' := by
  have hx1 : IntKind.i64.wrap (z - a) = z - a := by rw [IntKind.wrap_i64]; omega
  have hx2 : IntKind.i64.wrap (z - a + 1) = z - a + 1 := by rw [IntKind.wrap_i64]; omega
  have hnz : ¬ z - a + 1 = 0 := by omega
  have hnz2 : (z - a + 1 == 0) = false := by simp; omega
  obtain ⟨r, hr⟩ : ∃ r, (n : Int).tmod (z - a + 1) = r := ⟨_, rfl⟩
  have hrb : 0 ≤ r ∧ r ≤ 255 := by
    obtain ⟨d, hd⟩ := Int.eq_ofNat_of_zero_le (show 0 ≤ z - a + 1 by omega)
    rw [← hr, Int.tmod_eq_emod_of_nonneg (by omega), hd]
    have e1 : (n : Int) % (d : Int) = ((n % d : Nat) : Int) := rfl
    have e2 := Nat.mod_le n d
    omega
  have hx3 : IntKind.i64.wrap r = r := by rw [IntKind.wrap_i64]; omega
  have hx4 : IntKind.i64.wrap (a + r) = a + r := by rw [IntKind.wrap_i64]; omega
  have HR : Hid (amongI a z n = a + r) := by rw [Hid, amongI, hr]
  have hB := bl_alloc (Below.refl w.heap.size w) (.cells #[.int .i64 a, .int .i64 z] 23) (Nat.le_refl _)
  go_enter Try.func74, Try.ntmps74
  go_wp2_with fail
  go_quiet (fail)
  go_wp2
  go_ret
  exact ⟨ret_int HR.out.symm, bl_drewN hB _⟩

end Go.Proofs.Ytpbimgafafkjgaa

namespace Go.Proofs.Ytpbimgafafkjgaa
open Go.RowKit

def dTwo : Int × Int := (0, 0)
/-- the gap of a row in a truth: of the first k tiles -/
def gapK (t : List (Int × Int)) (tl : List Int) (air n0 : Int) (k : Nat) : Int := (tl.take k).foldl (fun n i => n - (t.getD i.toNat dTwo).1 - (t.getD i.toNat dTwo).2 * air) n0
def gapT (h : Hall) (t : List (Int × Int)) (row : Nat) (tl : List Int) (air : Int) : Int := gapK t tl air ((h.rows.getD row dRow).frame + (h.rows.getD row dRow).swell * air) tl.length
theorem gapK_succ {t : List (Int × Int)} {tl : List Int} {air n0 : Int} {k : Nat} {i : Int} (h : tl[k]? = some i) : gapK t tl air n0 (k + 1) = gapK t tl air n0 k - (t.getD i.toNat dTwo).1 - (t.getD i.toNat dTwo).2 * air := by
  unfold gapK; rw [take_snoc_get h, List.foldl_append]; rfl

set_option maxRecDepth 100000 in
set_option maxHeartbeats 2000000 in
theorem gap42_any {S T' : Foot} {A B T D : Option Addr} {n ca m cb k c dn dc row air : Nat} {h : Hall} {tl : List Int} {t : List (Int × Int)} {v1 v2 v3 : Value} (w : World) (g : HallAt (fun _ => True) w A n B m h) (ht : Ints S w T k tl) (hd : SliceOf TwoR 2 T' w D dn t)
    (hv1 : v1.oneCell' = true) (hv2 : v2.oneCell' = true) (hv3 : v3.oneCell' = true) (hk : OkH h) (hr : row < m) (hk8 : k ≤ 8) (hT : ∀ i ∈ tl, 0 ≤ i ∧ i < dn) (hb : ∀ p ∈ t, 0 ≤ p.1 ∧ p.1 ≤ 20000 ∧ 0 ≤ p.2 ∧ p.2 ≤ 20) (ha : air ≤ 40) :
    Calls Try.prog 42 #[.agg #[v1, v2, v3, .slice A n ca, .slice B m cb], .slice D dn dc, .agg #[.int .i64 row, .slice T k c], .int .i64 air] w fun e w' => e = .returned (.int .i64 (gapT h t row tl air)) ∧ Below w.heap.size w w' := by
  have Hm := Lib.hid g.rs.len
  have Hk := Lib.hid ht.len
  obtain ⟨b, off, fr, sw, pl, rfl, hbb, r0, r1, r2, Hx⟩ := RowTs.get g.rs (k := row) hr
  have hre := hk.row (k := row) (by rw [Hm.out]; exact hr)
  obtain ⟨f1, f2, f3, f4, f5, f6⟩ := rowE_zero Hx.out hre
  obtain ⟨W, hW⟩ : ∃ W, (w.alloc (.cells #[v1, v2, v3, .slice A n ca, .slice (some ⟨b, off, none⟩) m cb] 27)).alloc (.cells #[.int .i64 row, .slice T k c] 41) = W := ⟨_, rfl⟩
  have X : Blk W w.heap.size 27 #[v1, v2, v3, .slice A n ca, .slice (some ⟨b, off, none⟩) m cb] := by rw [← hW]; exact (Blk.new _ _ _ rfl).alloc _
  have Z : Blk W (w.heap.size + 1) 41 #[.int .i64 row, .slice T k c] := by rw [← hW]; exact Blk.new _ _ _ (by simp)
  have hBW : Below w.heap.size w W := by rw [← hW]; exact bl_alloc (bl_alloc (Below.refl _ _) _ (Nat.le_refl _)) _ (Nat.le_refl _)
  have kk : Hid (∀ V, Below W.heap.size W V → V.cell? ⟨w.heap.size, 4, none⟩ = some (.slice (some ⟨b, off, none⟩) m cb) ∧ V.cell? ⟨w.heap.size + 1, 0, none⟩ = some (.int .i64 row) ∧ V.cell? ⟨w.heap.size + 1, 1, none⟩ = some (.slice T k c) ∧ V.cell? ⟨b, off + row * 3, none⟩ = some (.int .i64 fr) ∧ V.cell? ⟨b, off + row * 3 + 1, none⟩ = some (.int .i64 sw)) :=
    fun V hb => ⟨(X.bl hb).cell 4, (Z.bl hb).cell 0, (Z.bl hb).cell 1, getc hb (getc hBW r0), getc hb (getc hBW r1)⟩
  have HTT := Lib.hid (ht.keep IntR.good (Keeps.below hBW))
  have HDD := Lib.hid (hd.keep TwoR.good (Keeps.below hBW))
  have hri : (row : Int) < m := by omega
  have hml := g.rs.le
  have hdl := hd.le
  have hkl := ht.le
  have HT := Lib.hid hT
  have HB := Lib.hid hb
  have HR0 : Hid ((h.rows.getD row dRow).frame = fr ∧ (h.rows.getD row dRow).swell = sw) := by rw [Hid, getD_of Hx.out]; exact ⟨rfl, rfl⟩
  clear X Z g ht hd hk hT hb r0 r1 r2 hbb hre
  obtain ⟨x4, y0, y1, r0, r1⟩ := kk.out W (Below.refl _ _)
  go_enter Try.func42, Try.ntmps42
  go_wp2_with fail
  clear hW
  go_loopw [9, 10] (fun nv i wr => ∃ j : Nat, j ≤ air ∧ i = .int .i64 j ∧ nv = .int .i64 (fr + sw * j) ∧ Below W.heap.size W wr) (fun _ i _ => air - (intOf i).toNat)
  case atStart => exact ⟨0, Nat.zero_le _, rfl, by simp, Below.refl _ _⟩
  case round =>
    obtain ⟨j, hj, rfl, rfl, hB0⟩ := hrel
    clear x4 y0 y1 r0 r1
    obtain ⟨x4, y0, y1, r0, r1⟩ := kk.out wr hB0
    have hmu1 : 0 ≤ sw * (j : Int) := Int.mul_nonneg f3 (by omega)
    have hmu2 : sw * (j : Int) ≤ 160 * 40 := Int.mul_le_mul f4 (by omega) (by omega) (by decide)
    by_cases hlt : j < air
    · have hji : (j : Int) < air := by omega
      have hs : sw * ((j : Int) + 1) = sw * j + sw := by rw [Int.mul_add, Int.mul_one]
      have hw1 : IntKind.i64.wrap (fr + sw * (j : Int) + sw) = fr + sw * (j : Int) + sw := by rw [IntKind.wrap_i64]; omega
      go_wp2
      go_roundw
      case rel => exact ⟨j + 1, by omega, by go_num, by rw [show ((j + 1 : Nat) : Int) = (j : Int) + 1 by omega, hs, Int.add_assoc], hB0⟩
      case measure => simp [intOf]; omega
    · obtain rfl : j = air := by omega
      obtain ⟨n0, hn0⟩ : ∃ n0 : Int, fr + sw * (j : Int) = n0 := ⟨_, rfl⟩
      have hnb : 0 ≤ n0 ∧ n0 ≤ 206400 := by omega
      have HGT : Hid (gapT h t row tl j = gapK t tl j n0 k) := by rw [Hid, gapT, HR0.out.1, HR0.out.2, hn0, Hk.out]
      rw [hn0]
      clear hn0 hmu1 hmu2 x4 y0 y1 r0 r1
      go_wp2_with fail
      go_loopw [9, 11] (fun nv i wr => ∃ (q : Nat) (z : Int), q ≤ k ∧ i = .int .i64 q ∧ nv = .int .i64 z ∧ -(20800 * (q : Int)) ≤ z ∧ z ≤ 206400 ∧ Hid (gapK t tl j n0 q = z) ∧ Below W.heap.size W wr) (fun _ i _ => k - (intOf i).toNat)
      case atStart => exact ⟨0, n0, Nat.zero_le _, rfl, rfl, by omega, by omega, rfl, hB0⟩
      case round =>
        obtain ⟨q, z, hq, rfl, rfl, hz1, hz2, HZ, hB⟩ := hrel
        obtain ⟨x4, y0, y1, r0, r1⟩ := kk.out wr hB
        by_cases hlt2 : q < k
        · have hqi : (q : Int) < k := by omega
          obtain ⟨bT, oT, x, rfl, hcell, Hxi⟩ := Ints.get (HTT.out.keep IntR.good (Keeps.below hB)) hlt2
          obtain ⟨hx0, hxn⟩ := HT.out x (List.mem_of_getElem? Hxi.out)
          obtain ⟨i, rfl⟩ := Int.eq_ofNat_of_zero_le hx0
          have hin : i < dn := by omega
          obtain ⟨bD, oD, a, z2, rfl, hbD, c0, c1, Hti⟩ := TwosAt.get (HDD.out.keep TwoR.good (Keeps.below hB)) hin
          obtain ⟨g1, g2, g3, g4⟩ := HB.out _ (List.mem_of_getElem? Hti.out)
          dsimp only at g1 g2 g3 g4
          have hini : (i : Int) < dn := by omega
          have hmu3 : 0 ≤ z2 * (j : Int) := Int.mul_nonneg g3 (by omega)
          have hmu4 : z2 * (j : Int) ≤ 20 * 40 := Int.mul_le_mul g4 (by omega) (by omega) (by decide)
          have hw1 : IntKind.i64.wrap (z - a) = z - a := by rw [IntKind.wrap_i64]; omega
          have hw2 : IntKind.i64.wrap (z2 * (j : Int)) = z2 * (j : Int) := by rw [IntKind.wrap_i64]; omega
          have HN : Hid (gapK t tl j n0 (q + 1) = z - a - z2 * (j : Int)) := by
            rw [Hid, gapK_succ Hxi.out, HZ.out, Int.toNat_natCast, getD_of Hti.out]
          obtain ⟨u, hu⟩ : ∃ u : Int, z - a - z2 * (j : Int) = u := ⟨_, rfl⟩
          rw [hu] at HN
          have hub : -(20800 * ((q : Int) + 1)) ≤ u ∧ u ≤ 206400 := by omega
          have hw3 : IntKind.i64.wrap (z - a - z2 * (j : Int)) = u := by rw [hu, IntKind.wrap_i64]; omega
          clear hmu3 hmu4 hu
          go_wp2_with fail
          go_roundw
          case rel => exact ⟨q + 1, u, by omega, by go_num, rfl, by omega, by omega, HN, bl_alloc hB _ (Nat.le_refl _)⟩
          case measure => simp [intOf]; omega
        · obtain rfl : q = k := by omega
          go_wp2_with fail
          go_ret
          exact ⟨ret_int (by rw [HGT.out, HZ.out]), bl_call hBW hB (Nat.le_refl _)⟩

end Go.Proofs.Ytpbimgafafkjgaa

namespace Go.Proofs.Ytpbimgafafkjgaa
open Go.RowKit

theorem infoTwo8 : (Try.prog.info? 66).map (fun i => (i.zero, i.size, i.bytes)) = some (some (.agg #[.int .i64 0, .int .i64 0]), 2, 16) := by kernel_rfl
/-- the width and the swell of a tile, by turns -/
def anyTwo (x : Tile) (xs : List Nat) (i : Nat) : Int × Int := (amongI x.wlo x.whi (turnL xs (2 * i)), amongI x.slo x.shi (turnL xs (2 * i + 1)))
def anyK (h : Hall) (xs : List Nat) (k : Nat) : List (Int × Int) := (List.range k).map fun i => anyTwo (h.tiles.getD i dTile) xs i
def anyL (h : Hall) (xs : List Nat) : List (Int × Int) := anyK h xs h.tiles.length
theorem anyK_succ (h : Hall) (xs : List Nat) (k : Nat) : anyK h xs (k + 1) = anyK h xs k ++ [anyTwo (h.tiles.getD k dTile) xs k] := by unfold anyK; rw [List.range_succ, List.map_append]; rfl
theorem anyK_len (h : Hall) (xs : List Nat) (k : Nat) : (anyK h xs k).length = k := by unfold anyK; simp
theorem blk_news {w : World} {g : Nat} {t : TypeId} {x y : Value} (h : Blk w g t #[x, y]) {j : Nat} {v : Value} (hv : [x, y][j]? = some v) : w.cell? ((⟨g, 0, none⟩ : Addr).add j) = some v := by
  have hadd : (⟨g, 0, none⟩ : Addr).add j = ⟨g, j, none⟩ := by unfold Addr.add; split <;> simp_all
  rw [hadd, h.cell]
  simpa using hv
def IsTwo (p : Int × Int) (v : Value) (U0 : World) : Prop := ∃ g : Nat, v = .slice (some ⟨g, 0, none⟩) 1 1 ∧ Blk U0 g 66 #[.int .i64 p.1, .int .i64 p.2]
theorem IsTwo.bl {p : Int × Int} {v : Value} {U0 V : World} (h : IsTwo p v U0) (hb : Below U0.heap.size U0 V) : IsTwo p v V := by
  obtain ⟨g, h1, h2⟩ := h
  exact ⟨g, h1, h2.bl hb⟩
/-- a list of pairs of the call's own -/
def IsTwosN (w0 : Nat) (xs : List (Int × Int)) (e : Ending) (w' : World) : Prop := ∃ (A' : Option Addr) (c : Nat), e = .returned (.slice A' xs.length c) ∧ TwosAt (fun k => w0 ≤ k) w' A' xs.length xs ∧ xs.length ≤ c
theorem turn_lt {xs : List Nat} (h : ∀ x ∈ xs, x < 256) (k : Nat) : turnL xs k ≤ 255 := by
  unfold turnL
  split
  · omega
  · rename_i hl
    have hlt : k % xs.length < xs.length := Nat.mod_lt _ (by omega)
    rw [getD_of (List.getElem?_eq_getElem hlt)]
    have := h _ (List.getElem_mem hlt)
    omega
theorem Bytes.all {S : Foot} {w : World} {A : Option Addr} {n : Nat} {xs : List Nat} (h : Bytes S w A n xs) : ∀ x ∈ xs, x < 256 := by
  intro x hx
  obtain ⟨k, hk, rfl⟩ := List.getElem_of_mem hx
  obtain ⟨_, _, _, _, _, _, ⟨_, h1⟩, _⟩ := h.2.2 k _ (List.getElem?_eq_getElem hk)
  exact h1

set_option maxRecDepth 100000 in
set_option maxHeartbeats 4000000 in
theorem any_any {S : Foot} {A B C : Option Addr} {n ca m cb q cc : Nat} {h : Hall} {xs : List Nat} {v1 v2 v3 v5 : Value} (w : World) (g : HallAt (fun _ => True) w A n B m h) (hx : Bytes S w C q xs) (hv1 : v1.oneCell' = true) (hv2 : v2.oneCell' = true) (hv3 : v3.oneCell' = true) (hv5 : v5.oneCell' = true) (hk : OkH h) :
    Calls Try.prog 38 #[.agg #[v1, v2, v3, .slice A n ca, v5], .slice C q cc] w fun e w' => IsTwosN w.heap.size (anyL h xs) e w' ∧ Below w.heap.size w w' := by
  obtain ⟨i0, hi0, hz0, hz1, hz2⟩ := info_parts infoTwo8
  have Hn := Lib.hid g.ts.len
  have hn8 : n ≤ 8 := by rw [← Hn.out]; exact hk.nt.2
  obtain ⟨U0, hW⟩ : ∃ U0, w.alloc (.cells #[v1, v2, v3, .slice A n ca, v5] 27) = U0 := ⟨_, rfl⟩
  have X : Blk U0 w.heap.size 27 #[v1, v2, v3, .slice A n ca, v5] := by rw [← hW]; exact Blk.new _ _ _ rfl
  have hBW : Below w.heap.size w U0 := by rw [← hW]; exact bl_alloc (Below.refl _ _) _ (Nat.le_refl _)
  have HX := Lib.hid X
  have HG := Lib.hid (g.ts.keep TileR.good (Keeps.below hBW))
  have HXS := Lib.hid (hx.keep ByteR.good (Keeps.below hBW))
  have H256 := Lib.hid hx.all
  have HK := Lib.hid hk
  have hnl := g.ts.le
  clear X g hx hk
  go_enter Try.func38, Try.ntmps38
  go_wp2_with fail
  clear hW
  go_loopw [5, 6] (fun o i wr => ∃ (k cap : Nat) (An : Option Addr), k ≤ n ∧ i = .int .i64 k ∧ o = .slice An k cap ∧ Below U0.heap.size U0 wr ∧ OwnL TwoR 2 (fun _ => False) wr U0.heap.size 66 (.slice An k cap) (anyK h xs k)) (fun _ i _ => n - (intOf i).toNat)
  case atStart => exact ⟨0, 0, none, Nat.zero_le _, rfl, rfl, Below.refl _ _, OwnL.nil _ _ _ _ _ _⟩
  case round =>
    obtain ⟨k, cap, An, hkn, rfl, rfl, hB, hO⟩ := hrel
    have HR := Lib.hid (HX.out.bl hB)
    have x3 := HR.out.cell 3
    by_cases hlt : k < n
    · have hki : (k : Int) < n := by omega
      obtain ⟨b, off, s, a, z, y, u, rfl, hb0, c0, c1, c2, c3, c4, hs, HxT⟩ := Tiles.get (HG.out.keep TileR.good (Keeps.below hB)) hlt
      have htile := HK.out.tile (k := k) (by rw [Hn.out]; exact hlt)
      obtain ⟨p1, p2, p3, p4, p5, p6⟩ : 0 ≤ a ∧ a ≤ z ∧ z ≤ 100000 ∧ 0 ≤ y ∧ y ≤ u ∧ u ≤ 100000 := by
        have hN : tileN ⟨s.data.toList, a, z, y, u⟩ = 0 := by
          unfold tileE at htile
          rw [getD_of HxT.out] at htile
          dsimp only at htile
          split at htile
          · rename_i he; exact absurd htile he
          · exact htile
        unfold tileN at hN
        dsimp only at hN
        split at hN
        · cases hN
        · split at hN
          · cases hN
          · rename_i q1 q2
            simp [inB] at q1 q2
            omega
      obtain ⟨k2, hk2⟩ : ∃ k2 : Nat, 2 * k = k2 := ⟨_, rfl⟩
      have hw1 : IntKind.i64.wrap (2 * (k : Int)) = (k2 : Int) := by rw [show 2 * (k : Int) = (k2 : Int) by omega, IntKind.wrap_i64]; omega
      have hw2 : IntKind.i64.wrap ((k2 : Int) + 1) = ((k2 + 1 : Nat) : Int) := by rw [IntKind.wrap_i64]; omega
      obtain ⟨t1, ht1⟩ : ∃ t1, turnL xs k2 = t1 := ⟨_, rfl⟩
      obtain ⟨t2, ht2⟩ : ∃ t2, turnL xs (k2 + 1) = t2 := ⟨_, rfl⟩
      obtain ⟨e1, he1⟩ : ∃ e1, amongI a z t1 = e1 := ⟨_, rfl⟩
      obtain ⟨e2, he2⟩ : ∃ e2, amongI y u t2 = e2 := ⟨_, rfl⟩
      have HS : Hid (anyK h xs (k + 1) = anyK h xs k ++ [(e1, e2)]) := by
        rw [Hid, anyK_succ, getD_of HxT.out, anyTwo, hk2, ht1, ht2]
        dsimp only
        rw [he1, he2]
      have HT1 : Hid (∀ V, Below wr.heap.size wr V → Calls Try.prog 47 #[.slice C q cc, .int .i64 k2] V fun e w' => e = .returned (.int .i64 t1) ∧ w' = V) := fun V hb => by
        have := turn_any (c := cc) k2 V (HXS.out.keep ByteR.good (Keeps.below (bl_call hB hb (Nat.le_refl _))))
        rwa [ht1] at this
      obtain ⟨k3, hk3⟩ : ∃ k3 : Int, ((k2 + 1 : Nat) : Int) = k3 := ⟨_, rfl⟩
      have HT2 : Hid (∀ V, Below wr.heap.size wr V → Calls Try.prog 47 #[.slice C q cc, .int .i64 k3] V fun e w' => e = .returned (.int .i64 t2) ∧ w' = V) := fun V hb => by
        have := turn_any (c := cc) (k2 + 1) V (HXS.out.keep ByteR.good (Keeps.below (bl_call hB hb (Nat.le_refl _))))
        rwa [ht2, hk3] at this
      rw [hk3] at hw2
      have HM1 : Hid (∀ V, Calls Try.prog 74 #[.agg #[.int .i64 a, .int .i64 z], .int .i64 t1] V fun e w' => e = .returned (.int .i64 e1) ∧ Below V.heap.size V w') := fun V => by
        have := among_any a z t1 V p1 p2 p3 (by rw [← ht1]; exact turn_lt H256.out _)
        rwa [he1] at this
      have HM2 : Hid (∀ V, Calls Try.prog 74 #[.agg #[.int .i64 y, .int .i64 u], .int .i64 t2] V fun e w' => e = .returned (.int .i64 e2) ∧ Below V.heap.size V w') := fun V => by
        have := among_any y u t2 V p4 p5 p6 (by rw [← ht2]; exact turn_lt H256.out _)
        rwa [he2] at this
      have HC : Hid (∀ V, Below wr.heap.size wr V → V.cell? ⟨w.heap.size, 3, none⟩ = some (.slice (some ⟨b, off, none⟩) n ca) ∧ V.cell? ⟨b, off + k * 5 + 1, none⟩ = some (.int .i64 a) ∧ V.cell? ⟨b, off + k * 5 + 2, none⟩ = some (.int .i64 z) ∧ V.cell? ⟨b, off + k * 5 + 3, none⟩ = some (.int .i64 y) ∧ V.cell? ⟨b, off + k * 5 + 4, none⟩ = some (.int .i64 u)) :=
        fun V hb => ⟨getc hb x3, getc hb c1, getc hb c2, getc hb c3, getc hb c4⟩
      clear htile ht1 ht2 he1 he2 hk2 hk3 c0 c1 c2 c3 c4 hb0 hs
      go_wp2_with fail
      refine wp_region_list2 (fun W => Below wr.heap.size wr W) (fun w w' => Below w.heap.size w w')
        [isV (.slice An k cap), isV (.pointer (some ⟨w.heap.size, 3, none⟩)), isV (.slice (some ⟨b, off, none⟩) n ca), isV (.int .i64 k), isV (.pointer (some ⟨b, off + k * 5, none⟩)), isV (.pointer (some ⟨b, off + k * 5 + 1, none⟩)), isV (.agg #[.int .i64 a, .int .i64 z]), isV (.slice C q cc), isV (.int .i64 k), isV (.int .i64 k2), isV (.int .i64 t1), isV (.int .i64 e1), isV (.pointer (some ⟨w.heap.size, 3, none⟩)), isV (.slice (some ⟨b, off, none⟩) n ca), isV (.int .i64 k), isV (.pointer (some ⟨b, off + k * 5, none⟩)), isV (.pointer (some ⟨b, off + k * 5 + 3, none⟩)), isV (.agg #[.int .i64 y, .int .i64 u]), isV (.slice C q cc), isV (.int .i64 k), isV (.int .i64 k2), isV (.int .i64 k3), isV (.int .i64 t2), isV (.int .i64 e2), isV (.agg #[.int .i64 e1, .int .i64 e2]), IsTwo (e1, e2)]
        (by kernel_rfl) (by kernel_rfl) (by kernel_rfl) (by rfl) (by rfl) (by rfl) (by rfl) (by rfl) (Below.refl _ _).drew ?stab ?step ?fin
      case stab => exact (StabL.is (StabL.is (StabL.is (StabL.is (StabL.is (StabL.is (StabL.is (StabL.is (StabL.is (StabL.is (StabL.is (StabL.is (StabL.is (StabL.is (StabL.is (StabL.is (StabL.is (StabL.is (StabL.is (StabL.is (StabL.is (StabL.is (StabL.is (StabL.is (StabL.is (StabL.cons (fun v W V hC hX hq => IsTwo.bl hq hX) StabL.nil))))))))))))))))))))))))))
      case step =>
        refine StepsL.is ?_ (StepsL.is ?_ (StepsL.is ?_ (StepsL.is ?_ (StepsL.is ?_ (StepsL.is ?_ (StepsL.is ?_ (StepsL.is ?_ (StepsL.is ?_ (StepsL.is ?_ (StepsL.is ?_ (StepsL.is ?_ (StepsL.is ?_ (StepsL.is ?_ (StepsL.is ?_ (StepsL.is ?_ (StepsL.is ?_ (StepsL.is ?_ (StepsL.is ?_ (StepsL.is ?_ (StepsL.is ?_ (StepsL.is ?_ (StepsL.is ?_ (StepsL.is ?_ (StepsL.is ?_ (StepsL.cons ?_ StepsL.nil)))))))))))))))))))))))))
        all_goals
          intro vs W K hC hD hU hK
          simp only [fillA, Act.put, List.setIfInBounds_toArray, List.set_cons_zero, List.set_cons_succ, Nat.zero_add, Nat.reduceAdd] at hK ⊢
          simp [waits, Region.binds] at hD
          try simp only [envOf, List.getD_cons_succ, List.getD_cons_zero, isV] at hD
          try simp only [hD] at hK ⊢
        · have h27 : vs 27 = .slice An k cap := (hU 27 _ rfl (by simp [waits, Region.binds]))
          simp only [h27] at hK ⊢
          go_simp; exact hK _ hC (Below.refl _ _)
        · go_simp; exact hK _ hC (Below.refl _ _)
        · obtain ⟨k3', k4, k5, k6, k7⟩ := HC.out W hC
          go_simp; exact hK _ hC (Below.refl _ _)
        · go_simp; exact hK _ hC (Below.refl _ _)
        · go_simp; exact hK _ hC (Below.refl _ _)
        · go_simp; exact hK _ hC (Below.refl _ _)
        · obtain ⟨k3', k4, k5, k6, k7⟩ := HC.out W hC
          go_simp; exact hK _ hC (Below.refl _ _)
        · go_simp; exact hK _ hC (Below.refl _ _)
        · go_simp; exact hK _ hC (Below.refl _ _)
        · go_simp; exact hK _ hC (Below.refl _ _)
        · go_simp
          refine (HT1.out W hC).mono ?_
          rintro e w' ⟨rfl, rfl⟩
          exact hK _ hC (Below.refl _ _)
        · go_simp
          refine (HM1.out W).mono ?_
          rintro e w' ⟨rfl, hb⟩
          exact hK _ (bl_call hC hb (Nat.le_refl _)) hb
        · go_simp; exact hK _ hC (Below.refl _ _)
        · obtain ⟨k3', k4, k5, k6, k7⟩ := HC.out W hC
          go_simp; exact hK _ hC (Below.refl _ _)
        · go_simp; exact hK _ hC (Below.refl _ _)
        · go_simp; exact hK _ hC (Below.refl _ _)
        · go_simp; exact hK _ hC (Below.refl _ _)
        · obtain ⟨k3', k4, k5, k6, k7⟩ := HC.out W hC
          go_simp; exact hK _ hC (Below.refl _ _)
        · go_simp; exact hK _ hC (Below.refl _ _)
        · go_simp; exact hK _ hC (Below.refl _ _)
        · go_simp; exact hK _ hC (Below.refl _ _)
        · go_simp; exact hK _ hC (Below.refl _ _)
        · go_simp
          refine (HT2.out W hC).mono ?_
          rintro e w' ⟨rfl, rfl⟩
          exact hK _ hC (Below.refl _ _)
        · go_simp
          refine (HM2.out W).mono ?_
          rintro e w' ⟨rfl, hb⟩
          exact hK _ (bl_call hC hb (Nat.le_refl _)) hb
        · go_simp; exact hK _ hC (Below.refl _ _)
        · go_simp
          exact hK _ _ (bl_alloc hC _ (Nat.le_refl _)) (bl_alloc (Below.refl _ _) _ (Nat.le_refl _)) ⟨_, rfl, Blk.new _ _ _ rfl⟩
      case fin =>
        intro vs W hC hE hU
        clear hU
        have e0 : vs 0 = .slice An k cap := hE 0 (by simp)
        have e25 : IsTwo (e1, e2) (vs 25) W := hE 25 (by simp)
        simp only [fillA, Act.put, List.setIfInBounds_toArray, List.set_cons_zero, List.set_cons_succ, Nat.zero_add, Nat.reduceAdd, e0]
        obtain ⟨g25, h25, hB25⟩ := e25
        rw [h25]
        obtain ⟨u1, hu1⟩ : ∃ v0, vs 1 = v0 := ⟨_, rfl⟩
        obtain ⟨u2, hu2⟩ : ∃ v0, vs 2 = v0 := ⟨_, rfl⟩
        obtain ⟨u3, hu3⟩ : ∃ v0, vs 3 = v0 := ⟨_, rfl⟩
        obtain ⟨u4, hu4⟩ : ∃ v0, vs 4 = v0 := ⟨_, rfl⟩
        obtain ⟨u5, hu5⟩ : ∃ v0, vs 5 = v0 := ⟨_, rfl⟩
        obtain ⟨u6, hu6⟩ : ∃ v0, vs 6 = v0 := ⟨_, rfl⟩
        obtain ⟨u7, hu7⟩ : ∃ v0, vs 7 = v0 := ⟨_, rfl⟩
        obtain ⟨u8, hu8⟩ : ∃ v0, vs 8 = v0 := ⟨_, rfl⟩
        obtain ⟨u9, hu9⟩ : ∃ v0, vs 9 = v0 := ⟨_, rfl⟩
        obtain ⟨u10, hu10⟩ : ∃ v0, vs 10 = v0 := ⟨_, rfl⟩
        obtain ⟨u11, hu11⟩ : ∃ v0, vs 11 = v0 := ⟨_, rfl⟩
        obtain ⟨u12, hu12⟩ : ∃ v0, vs 12 = v0 := ⟨_, rfl⟩
        obtain ⟨u13, hu13⟩ : ∃ v0, vs 13 = v0 := ⟨_, rfl⟩
        obtain ⟨u14, hu14⟩ : ∃ v0, vs 14 = v0 := ⟨_, rfl⟩
        obtain ⟨u15, hu15⟩ : ∃ v0, vs 15 = v0 := ⟨_, rfl⟩
        obtain ⟨u16, hu16⟩ : ∃ v0, vs 16 = v0 := ⟨_, rfl⟩
        obtain ⟨u17, hu17⟩ : ∃ v0, vs 17 = v0 := ⟨_, rfl⟩
        obtain ⟨u18, hu18⟩ : ∃ v0, vs 18 = v0 := ⟨_, rfl⟩
        obtain ⟨u19, hu19⟩ : ∃ v0, vs 19 = v0 := ⟨_, rfl⟩
        obtain ⟨u20, hu20⟩ : ∃ v0, vs 20 = v0 := ⟨_, rfl⟩
        obtain ⟨u21, hu21⟩ : ∃ v0, vs 21 = v0 := ⟨_, rfl⟩
        obtain ⟨u22, hu22⟩ : ∃ v0, vs 22 = v0 := ⟨_, rfl⟩
        obtain ⟨u23, hu23⟩ : ∃ v0, vs 23 = v0 := ⟨_, rfl⟩
        obtain ⟨u24, hu24⟩ : ∃ v0, vs 24 = v0 := ⟨_, rfl⟩
        rw [hu1, hu2, hu3, hu4, hu5, hu6, hu7, hu8, hu9, hu10, hu11, hu12, hu13, hu14, hu15, hu16, hu17, hu18, hu19, hu20, hu21, hu22, hu23, hu24]
        clear hu1 hu2 hu3 hu4 hu5 hu6 hu7 hu8 hu9 hu10 hu11 hu12 hu13 hu14 hu15 hu16 hu17 hu18 hu19 hu20 hu21 hu22 hu23 hu24
        clear hE e0 h25
        obtain ⟨A2, cap2, w2, hrun, hO2, hg2, hat⟩ := run_append_one W 61 61 TwoR.good U0.heap.size 66 i0 _ 16 Try.underlying61 hi0 hz0 hz1 hz2 rfl (by omega) (.slice An k cap) (anyK h xs k) (e1, e2) (hO.below TwoR.good hC) ⟨g25, 0, none⟩ 1 [.int .i64 e1, .int .i64 e2] rfl (fun j v hv => blk_news hB25 hv) (by rw [anyK_len]; simp only [maxLen]; omega) (by rw [anyK_len]; omega) (Nat.le_trans hB.size hC.size) (fun h => h)
        have hB2 : Below U0.heap.size U0 w2 := bl_grown (bl_call hB hC (Nat.le_refl _)) (hO.below TwoR.good hC) hg2 (Nat.le_refl _) (Nat.le_refl _)
        rw [anyK_len] at hrun hO2
        rw [← HS.out] at hO2
        refine wp_append_of_run rfl rfl rfl hrun ?_
        clear hrun hg2 hat hO hC hB25 hB
        go_simp
        go_wp2
        go_roundw
        case rel => exact ⟨k + 1, cap2, _, by omega, by go_num, rfl, hB2, hO2⟩
        case measure => simp [intOf]; omega
    · obtain rfl : k = n := by omega
      go_wp2_with fail
      go_ret
      have hal : anyL h xs = anyK h xs k := by unfold anyL; rw [Hn.out]
      refine ⟨⟨An, cap, by rw [hal, anyK_len]; rfl, ?_, by rw [hal, anyK_len]; exact hO.cap8⟩, bl_call hBW hB (Nat.le_refl _)⟩
      rw [hal, anyK_len]
      exact hO.slice TwoR.good rfl (by simp only [maxLen]; omega) (fun _ h => h.elim) (fun _ h _ => Nat.le_trans hBW.size h)

end Go.Proofs.Ytpbimgafafkjgaa

namespace Go.Proofs.Ytpbimgafafkjgaa
open Go.RowKit

theorem infoSeen8 : (Try.prog.info? 72).map (fun i => (i.zero, i.size, i.bytes)) = some (some (.agg #[.int .i64 0, .int .i64 0, .int .i64 0, .int .i64 0]), 4, 32) := by kernel_rfl
/-- one tile that is measured, by four numbers -/
def toldS (t : List (Int × Int)) (xs : List Nat) (r : Nat) : Seen :=
  let k := xs.getD (4 * r) 0 % t.length
  let air := xs.getD (4 * r + 1) 0 % 41
  let n := (t.getD k dTwo).1 + (t.getD k dTwo).2 * (air : Int)
  ⟨(k : Int), (air : Int), max 0 (n - (xs.getD (4 * r + 2) 0 % 5 : Nat)), min 40000 (n + (xs.getD (4 * r + 3) 0 % 5 : Nat))⟩
def toldK (t : List (Int × Int)) (xs : List Nat) (k : Nat) : List Seen := (List.range k).map (toldS t xs)
def toldL (t : List (Int × Int)) (xs : List Nat) : List Seen := toldK t xs (min 6 (xs.length / 4))
theorem toldK_succ (t : List (Int × Int)) (xs : List Nat) (k : Nat) : toldK t xs (k + 1) = toldK t xs k ++ [toldS t xs k] := by unfold toldK; rw [List.range_succ, List.map_append]; rfl
theorem toldK_len (t : List (Int × Int)) (xs : List Nat) (k : Nat) : (toldK t xs k).length = k := by unfold toldK; simp
theorem Bytes.get4 {S : Foot} {w : World} {A : Option Addr} {n : Nat} {xs : List Nat} {k : Nat} (h : Bytes S w A n xs) (hk : k + 3 < n) :
    ∃ b off x0 x1 x2 x3, A = some ⟨b, off, none⟩ ∧ w.cell? ⟨b, off + k, none⟩ = some (.int .u8 ((x0 : Nat) : Int)) ∧ w.cell? ⟨b, off + (k + 1), none⟩ = some (.int .u8 ((x1 : Nat) : Int)) ∧ w.cell? ⟨b, off + (k + 2), none⟩ = some (.int .u8 ((x2 : Nat) : Int)) ∧ w.cell? ⟨b, off + (k + 3), none⟩ = some (.int .u8 ((x3 : Nat) : Int)) ∧ Hid (xs.getD k 0 = x0 ∧ xs.getD (k + 1) 0 = x1 ∧ xs.getD (k + 2) 0 = x2 ∧ xs.getD (k + 3) 0 = x3) ∧ x0 < 256 ∧ x1 < 256 ∧ x2 < 256 ∧ x3 < 256 := by
  obtain ⟨b, off, x0, rfl, c0, H0, l0⟩ := Bytes.get h (k := k) (by omega)
  obtain ⟨b1, o1, x1, q1, c1, H1, l1⟩ := Bytes.get h (k := k + 1) (by omega)
  obtain ⟨b2, o2, x2, q2, c2, H2, l2⟩ := Bytes.get h (k := k + 2) (by omega)
  obtain ⟨b3, o3, x3, q3, c3, H3, l3⟩ := Bytes.get h (k := k + 3) hk
  cases q1; cases q2; cases q3
  exact ⟨b, off, x0, x1, x2, x3, rfl, c0, c1, c2, c3, ⟨getD_of H0.out, getD_of H1.out, getD_of H2.out, getD_of H3.out⟩, l0, l1, l2, l3⟩
def IsSeen1 (x : Seen) (v : Value) (W : World) : Prop := ∃ g : Nat, v = .slice (some ⟨g, 0, none⟩) 1 1 ∧ Blk W g 72 #[.int .i64 x.tile, .int .i64 x.air, .int .i64 x.lo, .int .i64 x.hi]
theorem IsSeen1.bl {x : Seen} {v : Value} {W V : World} (h : IsSeen1 x v W) (hb : Below W.heap.size W V) : IsSeen1 x v V := by
  obtain ⟨g, h1, h2⟩ := h
  exact ⟨g, h1, h2.bl hb⟩
theorem blk_news4 {w : World} {g : Nat} {t : TypeId} {x y z u : Value} (h : Blk w g t #[x, y, z, u]) {j : Nat} {v : Value} (hv : [x, y, z, u][j]? = some v) : w.cell? ((⟨g, 0, none⟩ : Addr).add j) = some v := by
  have hadd : (⟨g, 0, none⟩ : Addr).add j = ⟨g, j, none⟩ := by unfold Addr.add; split <;> simp_all
  rw [hadd, h.cell]
  simpa using hv
/-- a list of measured tiles of the call's own -/
def IsSeensN (w0 : Nat) (xs : List Seen) (e : Ending) (w' : World) : Prop := ∃ (A' : Option Addr) (c : Nat), e = .returned (.slice A' xs.length c) ∧ Seens (fun k => w0 ≤ k) w' A' xs.length xs ∧ xs.length ≤ c

set_option maxRecDepth 100000 in
set_option maxHeartbeats 4000000 in
theorem told_any {S T' : Foot} {C D : Option Addr} {q cc dn dc : Nat} {xs : List Nat} {t : List (Int × Int)} {v1 v2 v3 v4 v5 : Value} (w : World) (hx : Bytes S w C q xs) (hd : TwosAt T' w D dn t) (hv1 : v1.oneCell' = true) (hv2 : v2.oneCell' = true) (hv3 : v3.oneCell' = true) (hv4 : v4.oneCell' = true) (hv5 : v5.oneCell' = true)
    (hd0 : 1 ≤ dn) (hd8 : dn ≤ 8) (hb : ∀ p ∈ t, 0 ≤ p.1 ∧ p.1 ≤ 20000 ∧ 0 ≤ p.2 ∧ p.2 ≤ 20) :
    Calls Try.prog 39 #[.agg #[v1, v2, v3, v4, v5], .slice D dn dc, .slice C q cc] w fun e w' => IsSeensN w.heap.size (toldL t xs) e w' ∧ Below w.heap.size w w' := by
  obtain ⟨i0, hi0, hz0, hz1, hz2⟩ := info_parts infoSeen8
  have Hq := Lib.hid hx.len
  have Hdn := Lib.hid hd.len
  obtain ⟨U0, hU0⟩ : ∃ U0, w.alloc (.cells #[v1, v2, v3, v4, v5] 27) = U0 := ⟨_, rfl⟩
  have hBW : Below w.heap.size w U0 := by rw [← hU0]; exact bl_alloc (Below.refl _ _) _ (Nat.le_refl _)
  have HXS := Lib.hid (hx.keep ByteR.good (Keeps.below hBW))
  have HDD := Lib.hid (hd.keep TwoR.good (Keeps.below hBW))
  have HB := Lib.hid hb
  have hql := hx.le
  have hdl := hd.le
  clear hx hd hb
  go_enter Try.func39, Try.ntmps39
  go_wp2_with fail
  clear hU0
  go_loopw [7, 8] (fun o i wr => ∃ (r i4 cap : Nat) (An : Option Addr), Hid (i4 = 4 * r) ∧ r ≤ 6 ∧ i4 ≤ q ∧ i = .int .i64 i4 ∧ o = .slice An r cap ∧ Below U0.heap.size U0 wr ∧ OwnL SeenR 4 (fun _ => False) wr U0.heap.size 72 (.slice An r cap) (toldK t xs r)) (fun _ i _ => q - (intOf i).toNat)
  case atStart => exact ⟨0, 0, 0, none, rfl, Nat.zero_le _, Nat.zero_le _, rfl, rfl, Below.refl _ _, OwnL.nil _ _ _ _ _ _⟩
  case round =>
    obtain ⟨r, i4, cap, An, HI4, hr6, hi4q, rfl, rfl, hB, hO⟩ := hrel
    have hi24 : i4 ≤ 24 := by have := HI4.out; omega
    have hwi3 : IntKind.i64.wrap ((i4 : Int) + 3) = (i4 : Int) + 3 := by rw [IntKind.wrap_i64]; omega
    by_cases hlt : i4 + 3 < q
    · have hlti : (i4 : Int) + 3 < q := by omega
      by_cases hr : r < 6
      · have hri : (r : Int) < 6 := by omega
        obtain ⟨bC, oC, z0, z1, z2, z3, rfl, d0, d1, d2, d3, HZ, l0, l1, l2, l3⟩ := Bytes.get4 (HXS.out.keep ByteR.good (Keeps.below hB)) hlt
        obtain ⟨m0, hm0⟩ : ∃ m0, z0 % dn = m0 := ⟨_, rfl⟩
        obtain ⟨m1, hm1⟩ : ∃ m1, z1 % 41 = m1 := ⟨_, rfl⟩
        obtain ⟨m2, hm2⟩ : ∃ m2, z2 % 5 = m2 := ⟨_, rfl⟩
        obtain ⟨m3, hm3⟩ : ∃ m3, z3 % 5 = m3 := ⟨_, rfl⟩
        have g0 : m0 < dn := by rw [← hm0]; exact Nat.mod_lt _ (by omega)
        have g1 : m1 < 41 := by rw [← hm1]; exact Nat.mod_lt _ (by decide)
        have g2 : m2 < 5 := by rw [← hm2]; exact Nat.mod_lt _ (by decide)
        have g3 : m3 < 5 := by rw [← hm3]; exact Nat.mod_lt _ (by decide)
        have t0 : ((z0 : Int)).tmod (dn : Int) = (m0 : Int) := by rw [Int.tmod_eq_emod_of_nonneg (by omega), ← hm0]; rfl
        have t1 : ((z1 : Int)).tmod 41 = (m1 : Int) := by rw [Int.tmod_eq_emod_of_nonneg (by omega), ← hm1]; rfl
        have t2 : ((z2 : Int)).tmod 5 = (m2 : Int) := by rw [Int.tmod_eq_emod_of_nonneg (by omega), ← hm2]; rfl
        have t3 : ((z3 : Int)).tmod 5 = (m3 : Int) := by rw [Int.tmod_eq_emod_of_nonneg (by omega), ← hm3]; rfl
        have cv0 : IntKind.i64.wrap (z0 : Int) = z0 := by rw [IntKind.wrap_i64]; omega
        have cv1 : IntKind.i64.wrap (z1 : Int) = z1 := by rw [IntKind.wrap_i64]; omega
        have cv2 : IntKind.i64.wrap (z2 : Int) = z2 := by rw [IntKind.wrap_i64]; omega
        have cv3 : IntKind.i64.wrap (z3 : Int) = z3 := by rw [IntKind.wrap_i64]; omega
        have hdz : ¬ (dn : Int) = 0 := by omega
        have hdz2 : ((dn : Int) == 0) = false := by simp; omega
        obtain ⟨j1, hj1⟩ : ∃ j1 : Nat, i4 + 1 = j1 := ⟨_, rfl⟩
        obtain ⟨j2, hj2⟩ : ∃ j2 : Nat, i4 + 2 = j2 := ⟨_, rfl⟩
        obtain ⟨j3, hj3⟩ : ∃ j3 : Nat, i4 + 3 = j3 := ⟨_, rfl⟩
        rw [hj1] at d1
        rw [hj2] at d2
        rw [hj3] at d3
        have wj1 : IntKind.i64.wrap ((i4 : Int) + 1) = (j1 : Int) := by rw [IntKind.wrap_i64]; omega
        have wj2 : IntKind.i64.wrap ((i4 : Int) + 2) = (j2 : Int) := by rw [IntKind.wrap_i64]; omega
        have hj1q : (j1 : Int) < q := by omega
        have hj2q : (j2 : Int) < q := by omega
        have hj3q : (j3 : Int) < q := by omega
        have hi4qi : (i4 : Int) < q := by omega
        have hm0i : (m0 : Int) < dn := by omega
        obtain ⟨bD, oD, a, s, rfl, hbD, f0, f1, HtD⟩ := TwosAt.get (HDD.out.keep TwoR.good (Keeps.below hB)) g0
        obtain ⟨p1, p2, p3, p4⟩ := HB.out _ (List.mem_of_getElem? HtD.out)
        dsimp only at p1 p2 p3 p4
        have hmu1 : 0 ≤ s * (m1 : Int) := Int.mul_nonneg p3 (by omega)
        have hmu2 : s * (m1 : Int) ≤ 20 * 40 := Int.mul_le_mul p4 (by omega) (by omega) (by decide)
        have wm : IntKind.i64.wrap (s * (m1 : Int)) = s * (m1 : Int) := by rw [IntKind.wrap_i64]; omega
        obtain ⟨nn, hnn⟩ : ∃ nn : Int, a + s * (m1 : Int) = nn := ⟨_, rfl⟩
        have wn : IntKind.i64.wrap (a + s * (m1 : Int)) = nn := by rw [hnn, IntKind.wrap_i64]; omega
        have hnb : 0 ≤ nn ∧ nn ≤ 20800 := by omega
        obtain ⟨nl, hnl⟩ : ∃ nl : Int, nn - (m2 : Int) = nl := ⟨_, rfl⟩
        obtain ⟨nh, hnh⟩ : ∃ nh : Int, nn + (m3 : Int) = nh := ⟨_, rfl⟩
        have wl : IntKind.i64.wrap (nn - (m2 : Int)) = nl := by rw [hnl, IntKind.wrap_i64]; omega
        have wh : IntKind.i64.wrap (nn + (m3 : Int)) = nh := by rw [hnh, IntKind.wrap_i64]; omega
        have HS : Hid (toldK t xs (r + 1) = toldK t xs r ++ [⟨(m0 : Int), (m1 : Int), max 0 nl, min 40000 nh⟩]) := by
          obtain ⟨y0, y1, y2, y3⟩ := HZ.out
          rw [Hid, toldK_succ]
          congr 2
          unfold toldS
          dsimp only
          rw [← HI4.out, y0, y1, y2, y3, Hdn.out, hm0, hm1, hm2, hm3, getD_of HtD.out]
          dsimp only
          rw [hnn, hnl, hnh]
        have HD := Lib.hid d2
        have HD3 := Lib.hid d3
        clear hm0 hm1 hm2 hm3 hnn hnl hnh hj1 hj2 hmu1 hmu2 hbD p1 p2 p3 p4
        go_wp2_with fail
        go_quiet (fail)
        obtain ⟨Va, hVa⟩ : ∃ V, wr.drewN nq = V := ⟨_, rfl⟩
        have bVa : Below wr.heap.size wr Va := by rw [← hVa]; exact bl_drewN (Below.refl _ _) _
        rw [hVa]
        clear hVa nq
        have f0' := getc bVa f0
        have f1' := getc bVa f1
        go_wp2_with fail
        go_quiet (fail)
        obtain ⟨Vb, hVb⟩ : ∃ V, Va.drewN nq = V := ⟨_, rfl⟩
        have HVB : Hid (Below wr.heap.size wr Vb) := by rw [Hid, ← hVb]; exact bl_drewN bVa _
        rw [hVb]
        clear hVb nq f0' f1' f0 f1 d0 d1 d2 d3 bVa
        go_wp2_with fail
        have wj3 : IntKind.i64.wrap ((i4 : Int) + 3) = (j3 : Int) := by rw [IntKind.wrap_i64]; omega
        clear hwi3 hlti hj3
        refine wp_region_list2 (fun W => Below Vb.heap.size Vb W) (fun w w' => Below w.heap.size w w')
          [isV (.slice An r cap), isV (.int .i64 m0), isV (.int .i64 m1), isV (.int .i64 nn), isV (.slice (some ⟨bC, oC, none⟩) q cc), isV (.int .i64 i4), isV (.int .i64 j2), isV (.pointer (some ⟨bC, oC + j2, none⟩)), isV (.int .u8 z2), isV (.int .i64 z2), isV (.int .i64 m2), isV (.int .i64 nl), isV (.int .i64 (max 0 nl)), isV (.int .i64 nn), isV (.slice (some ⟨bC, oC, none⟩) q cc), isV (.int .i64 i4), isV (.int .i64 j3), isV (.pointer (some ⟨bC, oC + j3, none⟩)), isV (.int .u8 z3), isV (.int .i64 z3), isV (.int .i64 m3), isV (.int .i64 nh), isV (.int .i64 (min 40000 nh)), isV (.agg #[.int .i64 (max 0 nl), .int .i64 (min 40000 nh)]), isV (.agg #[.int .i64 m0, .int .i64 m1, .int .i64 (max 0 nl), .int .i64 (min 40000 nh)]), IsSeen1 ⟨(m0 : Int), (m1 : Int), max 0 nl, min 40000 nh⟩]
          (by kernel_rfl) (by kernel_rfl) (by kernel_rfl) (by rfl) (by rfl) (by rfl) (by rfl) (by rfl) (Below.refl _ _).drew ?stab ?step ?fin
        case stab => exact (StabL.is (StabL.is (StabL.is (StabL.is (StabL.is (StabL.is (StabL.is (StabL.is (StabL.is (StabL.is (StabL.is (StabL.is (StabL.is (StabL.is (StabL.is (StabL.is (StabL.is (StabL.is (StabL.is (StabL.is (StabL.is (StabL.is (StabL.is (StabL.is (StabL.is (StabL.cons (fun v W V hC hX hq => IsSeen1.bl hq hX) StabL.nil))))))))))))))))))))))))))
        case step =>
          refine StepsL.is ?_ (StepsL.is ?_ (StepsL.is ?_ (StepsL.is ?_ (StepsL.is ?_ (StepsL.is ?_ (StepsL.is ?_ (StepsL.is ?_ (StepsL.is ?_ (StepsL.is ?_ (StepsL.is ?_ (StepsL.is ?_ (StepsL.is ?_ (StepsL.is ?_ (StepsL.is ?_ (StepsL.is ?_ (StepsL.is ?_ (StepsL.is ?_ (StepsL.is ?_ (StepsL.is ?_ (StepsL.is ?_ (StepsL.is ?_ (StepsL.is ?_ (StepsL.is ?_ (StepsL.is ?_ (StepsL.cons ?_ StepsL.nil)))))))))))))))))))))))))
          all_goals
            intro vs W K hC hD hU hK
            simp only [fillA, Act.put, List.setIfInBounds_toArray, List.set_cons_zero, List.set_cons_succ, Nat.zero_add, Nat.reduceAdd] at hK ⊢
            simp [waits, Region.binds] at hD
            try simp only [envOf, List.getD_cons_succ, List.getD_cons_zero, isV] at hD
            try simp only [hD] at hK ⊢
          · have h27 : vs 27 = .slice An r cap := (hU 27 _ rfl (by simp [waits, Region.binds]))
            simp only [h27] at hK ⊢
            go_simp; exact hK _ hC (Below.refl _ _)
          · go_simp; exact hK _ hC (Below.refl _ _)
          · go_simp; exact hK _ hC (Below.refl _ _)
          · go_simp; exact hK _ hC (Below.refl _ _)
          · go_simp; exact hK _ hC (Below.refl _ _)
          · go_simp; exact hK _ hC (Below.refl _ _)
          · go_simp; exact hK _ hC (Below.refl _ _)
          · go_simp; exact hK _ hC (Below.refl _ _)
          · have k0 := getc (bl_call HVB.out hC (Nat.le_refl _)) HD.out
            go_simp; exact hK _ hC (Below.refl _ _)
          · go_simp; exact hK _ hC (Below.refl _ _)
          · go_simp; exact hK _ hC (Below.refl _ _)
          · go_simp; exact hK _ hC (Below.refl _ _)
          · have hmx := max_if 0 nl
            go_simp
            exact hK _ hC (Below.refl _ _)
          · go_simp; exact hK _ hC (Below.refl _ _)
          · go_simp; exact hK _ hC (Below.refl _ _)
          · go_simp; exact hK _ hC (Below.refl _ _)
          · go_simp; exact hK _ hC (Below.refl _ _)
          · go_simp; exact hK _ hC (Below.refl _ _)
          · have k0 := getc (bl_call HVB.out hC (Nat.le_refl _)) HD3.out
            go_simp; exact hK _ hC (Below.refl _ _)
          · go_simp; exact hK _ hC (Below.refl _ _)
          · go_simp; exact hK _ hC (Below.refl _ _)
          · go_simp; exact hK _ hC (Below.refl _ _)
          · have hmx := min_if 40000 nh
            go_simp
            exact hK _ hC (Below.refl _ _)
          · go_simp
            refine (span8_any (max 0 nl) (min 40000 nh) W).mono ?_
            rintro e w' ⟨rfl, hb⟩
            exact hK _ (bl_call hC hb (Nat.le_refl _)) hb
          · go_simp; exact hK _ hC (Below.refl _ _)
          · go_simp
            exact hK _ _ (bl_alloc hC _ (Nat.le_refl _)) (bl_alloc (Below.refl _ _) _ (Nat.le_refl _)) ⟨_, rfl, Blk.new _ _ _ rfl⟩
        case fin =>
          intro vs W hC hE hU
          clear hU
          have e0 : vs 0 = .slice An r cap := hE 0 (by simp)
          have e25 : IsSeen1 ⟨(m0 : Int), (m1 : Int), max 0 nl, min 40000 nh⟩ (vs 25) W := hE 25 (by simp)
          simp only [fillA, Act.put, List.setIfInBounds_toArray, List.set_cons_zero, List.set_cons_succ, Nat.zero_add, Nat.reduceAdd, e0]
          obtain ⟨g25, h25, hB25⟩ := e25
          rw [h25]
          obtain ⟨u1, hu1⟩ : ∃ v0, vs 1 = v0 := ⟨_, rfl⟩
          obtain ⟨u2, hu2⟩ : ∃ v0, vs 2 = v0 := ⟨_, rfl⟩
          obtain ⟨u3, hu3⟩ : ∃ v0, vs 3 = v0 := ⟨_, rfl⟩
          obtain ⟨u4, hu4⟩ : ∃ v0, vs 4 = v0 := ⟨_, rfl⟩
          obtain ⟨u5, hu5⟩ : ∃ v0, vs 5 = v0 := ⟨_, rfl⟩
          obtain ⟨u6, hu6⟩ : ∃ v0, vs 6 = v0 := ⟨_, rfl⟩
          obtain ⟨u7, hu7⟩ : ∃ v0, vs 7 = v0 := ⟨_, rfl⟩
          obtain ⟨u8, hu8⟩ : ∃ v0, vs 8 = v0 := ⟨_, rfl⟩
          obtain ⟨u9, hu9⟩ : ∃ v0, vs 9 = v0 := ⟨_, rfl⟩
          obtain ⟨u10, hu10⟩ : ∃ v0, vs 10 = v0 := ⟨_, rfl⟩
          obtain ⟨u11, hu11⟩ : ∃ v0, vs 11 = v0 := ⟨_, rfl⟩
          obtain ⟨u12, hu12⟩ : ∃ v0, vs 12 = v0 := ⟨_, rfl⟩
          obtain ⟨u13, hu13⟩ : ∃ v0, vs 13 = v0 := ⟨_, rfl⟩
          obtain ⟨u14, hu14⟩ : ∃ v0, vs 14 = v0 := ⟨_, rfl⟩
          obtain ⟨u15, hu15⟩ : ∃ v0, vs 15 = v0 := ⟨_, rfl⟩
          obtain ⟨u16, hu16⟩ : ∃ v0, vs 16 = v0 := ⟨_, rfl⟩
          obtain ⟨u17, hu17⟩ : ∃ v0, vs 17 = v0 := ⟨_, rfl⟩
          obtain ⟨u18, hu18⟩ : ∃ v0, vs 18 = v0 := ⟨_, rfl⟩
          obtain ⟨u19, hu19⟩ : ∃ v0, vs 19 = v0 := ⟨_, rfl⟩
          obtain ⟨u20, hu20⟩ : ∃ v0, vs 20 = v0 := ⟨_, rfl⟩
          obtain ⟨u21, hu21⟩ : ∃ v0, vs 21 = v0 := ⟨_, rfl⟩
          obtain ⟨u22, hu22⟩ : ∃ v0, vs 22 = v0 := ⟨_, rfl⟩
          obtain ⟨u23, hu23⟩ : ∃ v0, vs 23 = v0 := ⟨_, rfl⟩
          obtain ⟨u24, hu24⟩ : ∃ v0, vs 24 = v0 := ⟨_, rfl⟩
          rw [hu1, hu2, hu3, hu4, hu5, hu6, hu7, hu8, hu9, hu10, hu11, hu12, hu13, hu14, hu15, hu16, hu17, hu18, hu19, hu20, hu21, hu22, hu23, hu24]
          clear hu1 hu2 hu3 hu4 hu5 hu6 hu7 hu8 hu9 hu10 hu11 hu12 hu13 hu14 hu15 hu16 hu17 hu18 hu19 hu20 hu21 hu22 hu23 hu24
          clear hE e0 h25
          have hCw : Below wr.heap.size wr W := bl_call HVB.out hC (Nat.le_refl _)
          obtain ⟨A2, cap2, w2, hrun, hO2, hg2, hat⟩ := run_append_one W 28 28 SeenR.good U0.heap.size 72 i0 _ 32 Try.underlying28 hi0 hz0 hz1 hz2 rfl (by omega) (.slice An r cap) (toldK t xs r) ⟨(m0 : Int), (m1 : Int), max 0 nl, min 40000 nh⟩ (hO.below SeenR.good hCw) ⟨g25, 0, none⟩ 1 [.int .i64 m0, .int .i64 m1, .int .i64 (max 0 nl), .int .i64 (min 40000 nh)] rfl (fun j v hv => blk_news4 hB25 hv) (by rw [toldK_len]; simp only [maxLen]; omega) (by rw [toldK_len]; omega) (Nat.le_trans hB.size hCw.size) (fun h => h)
          have hB2 : Below U0.heap.size U0 w2 := bl_grown (bl_call hB hCw (Nat.le_refl _)) (hO.below SeenR.good hCw) hg2 (Nat.le_refl _) (Nat.le_refl _)
          rw [toldK_len] at hrun hO2
          rw [← HS.out] at hO2
          refine wp_append_of_run rfl rfl rfl hrun ?_
          clear hrun hg2 hat hO hC hB25 hB hCw
          have hw4 : IntKind.i64.wrap ((i4 : Int) + 4) = (i4 : Int) + 4 := by rw [IntKind.wrap_i64]; omega
          go_simp
          go_wp2
          go_roundw
          case rel => exact ⟨r + 1, i4 + 4, cap2, _, by rw [Hid, HI4.out]; omega, by omega, by omega, by go_num, rfl, hB2, hO2⟩
          case measure => simp [intOf]; omega
      · have hri : ¬ (r : Int) < 6 := by omega
        have hal : toldL t xs = toldK t xs r := by
          unfold toldL
          have e1 := HI4.out
          have e2 := Hq.out
          rw [show min 6 (xs.length / 4) = r by omega]
        go_wp2_with fail
        go_ret
        refine ⟨⟨An, cap, by rw [toldK_len]; rfl, ?_, by rw [toldK_len]; exact hO.cap8⟩, bl_call hBW hB (Nat.le_refl _)⟩
        rw [toldK_len]
        exact hO.slice SeenR.good rfl (by simp only [maxLen]; omega) (fun _ h => h.elim) (fun _ h _ => Nat.le_trans hBW.size h)
    · have hlti : ¬ (i4 : Int) + 3 < q := by omega
      have hal : toldL t xs = toldK t xs r := by
        unfold toldL
        have e1 := HI4.out
        have e2 := Hq.out
        rw [show min 6 (xs.length / 4) = r by omega]
      go_wp2_with fail
      go_ret
      refine ⟨⟨An, cap, by rw [toldK_len]; rfl, ?_, by rw [toldK_len]; exact hO.cap8⟩, bl_call hBW hB (Nat.le_refl _)⟩
      rw [toldK_len]
      exact hO.slice SeenR.good rfl (by simp only [maxLen]; omega) (fun _ h => h.elim) (fun _ h _ => Nat.le_trans hBW.size h)

end Go.Proofs.Ytpbimgafafkjgaa
