/- A part of the proof that TopLaid always answers true. -/
import Derived.Test.YtdbfincinjoppaaGreatCKEnt2
import Derived.Test.YtdbfincinjoppaaGreatCKOut1
import Derived.Test.YtdbfincinjoppaaGreatCMaps2
import Derived.Test.YtdbfincinjoppaaGreatCRegion4
import Derived.Test.YtdbfincinjoppaaGreatCTEnter0
import Derived.Test.YtdbfincinjoppaaGreatCTWidth
set_option linter.all false
namespace Go.Proofs.YtdbfincinjoppaaGreat
open Go.RowKit
theorem infoStr : (Tryz.prog.info? 9).map (fun i => (i.zero, i.size, i.bytes)) = some (some (.string ByteArray.empty), 1, 16) := by kernel_rfl
section
variable {h : Hall}
theorem check8_r7 (g : rangeE ⟨h.alo, h.ahi⟩ 0 40 = 7 ∨ inB h.most 0 20000 = false) : check8 h = (1, 0, 7) := by
 rw [check8, if_pos]
 rcases g with g | g
 ·rcases range_7 g with g | g <;> simp [g]
 simp [g]
theorem range_ok {a z lo hi : Int} (h : rangeE ⟨a, z⟩ lo hi ≠ 7) : (!inB a lo hi || !inB z lo hi) = false := by
 rcases range_cases a z lo hi with g | g | g
 ·exact absurd g h
 ·have := range_2 g; simp [inB]; omega
 have := range_0 g; simp [inB]; omega
theorem check8_r2 (g1 : rangeE ⟨h.alo, h.ahi⟩ 0 40 ≠ 7) (g2 : inB h.most 0 20000 = true) (g : rangeE ⟨h.alo, h.ahi⟩ 0 40 = 2 ∨ h.ahi > h.alo + 12) : check8 h = (1, 0, 2) := by
 rw [check8, if_neg (by rw [range_ok g1, g2]; decide), if_pos]
 rcases g with g | g
 ·have := range_2 g; simp [inB]; omega
 simp [inB]; omega
theorem check8_r3 (g1 : rangeE ⟨h.alo, h.ahi⟩ 0 40 = 0) (g2 : inB h.most 0 20000 = true) (g3 : ¬ h.ahi > h.alo + 12) (g : inB (h.tiles.length : Int) 1 8 = false ∨ inB (h.rows.length : Int) 1 3 = false) : check8 h = (1, 0, 3) := by
 have := range_0 g1
 rw [check8, if_neg (by rw [range_ok (by rw [g1]; decide), g2]; decide), if_neg (by simp [inB]; omega), if_pos]
 rcases g with g | g
 ·left; simp [inB] at g; omega
 right; simp [inB] at g; omega
theorem check8_rn (g1 : rangeE ⟨h.alo, h.ahi⟩ 0 40 = 0) (g2 : inB h.most 0 20000 = true) (g3 : ¬ h.ahi > h.alo + 12) (g4 : inB (h.tiles.length : Int) 1 8 = true) (g5 : inB (h.rows.length : Int) 1 3 = true) :
  check8 h = match firstErr (tileE h.tiles) h.tiles.length with
   | some (k, e) => (2, k, e)
   | none => match firstErr (rowE h.tiles.length h.rows) h.rows.length with
    | some (k, e) => (3, k, e)
    | none => (0, 0, 0) := by
 have := range_0 g1
 rw [check8, if_neg (by rw [range_ok (by rw [g1]; decide), g2]; decide), if_neg (by simp [inB]; omega), if_neg (by simp [inB] at g4 g5; omega)]
 rfl
end
theorem rowE_ref {nt : Nat} {l : List RowT} {k : Nat} {a z y : Int} (h : l[k]? = some ⟨a, z, y⟩) : rowE nt l k = if inB a 0 200000 = false ∨ inB z 0 160 = false ∨ inB y 1 nt = false then 7 else if (nt : Int) < placesOf (l.take k) + y then 3 else 0 := by
 unfold rowE
 rw [getD_of h]
 dsimp only
 congr 1
 cases inB a 0 200000 <;> cases inB z 0 160 <;> cases inB y 1 nt <;> simp
set_option maxHeartbeats 4000000 in
set_option maxRecDepth 100000 in
theorem rcheck_any {A B : Option Addr} {n ca m cb : Nat} {h : Hall} {alo ahi most : Int} (w : World) (g : HallAt (fun _ => True) w A n B m h) (h1 : h.alo = alo) (h2 : h.ahi = ahi) (h3 : h.most = most) :
  Calls Tryz.prog 5 #[.agg #[.int .i64 alo, .int .i64 ahi, .int .i64 most, .slice A n ca, .slice B m cb]] w fun e w' => e = .returned (.tuple #[.int .i64 (check8 h).1, .int .i64 (check8 h).2.1, .int .i64 (check8 h).2.2]) ∧ Below w.heap.size w w' := by
 have hle := g.ts.le
 have hlm := g.rs.le
 have Hn := Lib.hid g.ts.len
 have Hm := Lib.hid g.rs.len
 obtain ⟨i0, hi0, hz0, hz1, hz2⟩ := info_parts infoStr
 obtain ⟨W, hW⟩ : ∃ W, w.alloc (.cells #[.int .i64 alo, .int .i64 ahi, .int .i64 most, .slice A n ca, .slice B m cb] 30) = W := ⟨_, rfl⟩
 have X : Blk W w.heap.size 30 #[.int .i64 alo, .int .i64 ahi, .int .i64 most, .slice A n ca, .slice B m cb] := by rw [← hW]; exact Blk.new _ _ _ rfl
 have hc : HallAt (fun _ => True) W A n B m h := by rw [← hW]; exact g.keep (Keeps.alloc _ _)
 have hBW : Below w.heap.size w W := by rw [← hW]; exact bl_alloc (Below.refl _ _) _ (Nat.le_refl _)
 have hWs : w.heap.size ≤ W.heap.size := hBW.size
 have HW := Lib.hid hW
 have x0 : W.cell? ⟨w.heap.size, 0, none⟩ = some (.int .i64 alo) := X.cell 0
 have x1 : W.cell? ⟨w.heap.size, 1, none⟩ = some (.int .i64 ahi) := X.cell 1
 have x2 : W.cell? ⟨w.heap.size, 2, none⟩ = some (.int .i64 most) := X.cell 2
 have x3 : W.cell? ⟨w.heap.size, 3, none⟩ = some (.slice A n ca) := X.cell 3
 have x4 : W.cell? ⟨w.heap.size, 4, none⟩ = some (.slice B m cb) := X.cell 4
 have X' := Lib.hid X
 clear hW g X
 subst h1 h2 h3
 go_enter Tryz.func5, Tryz.ntmps5
 go_wp2_with fail
 rw [HW.out]
 refine (range_any _ _ _ _ _).mono ?_
 rintro e W1 ⟨rfl, b1⟩
 have hc1 := hc.keep (Keeps.below b1)
 have y0 := getc b1 x0
 have y1 := getc b1 x1
 have y2 := getc b1 x2
 have y3 := getc b1 x3
 have y4 := getc b1 x4
 by_cases h7 : rangeE ⟨h.alo, h.ahi⟩ 0 40 = 7 ∨ inB h.most 0 20000 = false
 ·have HC := Lib.hid (check8_r7 h7)
  by_cases h8 : rangeE ⟨h.alo, h.ahi⟩ 0 40 = 7
  ·rw [h8]
   clear h7 h8
   go_wp2
   go_ret3
   exact ⟨by rw [HC.out]; rfl, hBW.trans (b1.mono hWs)⟩
  have h9 := h7.resolve_left h8
  have h8b : (rangeE ⟨h.alo, h.ahi⟩ 0 40 == 7) = false := by simpa using h8
  clear h7 h8
  go_wp2_with (go_at_call 19; refine (in8_any _ _ _ _).mono ?_; rintro e w' ⟨rfl, rfl⟩)
  go_ret3
  exact ⟨by rw [HC.out]; rfl, hBW.trans (b1.mono hWs)⟩
 have h8 : rangeE ⟨h.alo, h.ahi⟩ 0 40 ≠ 7 := fun e => h7 (.inl e)
 have h9 : inB h.most 0 20000 = true := by cases e : inB h.most 0 20000; exact absurd (.inr e) h7; rfl
 clear h7
 rcases (range_cases h.alo h.ahi 0 40).resolve_left h8 with hr | hr
 ·have HC := Lib.hid (check8_r2 h8 h9 (.inl hr))
  rw [hr]
  clear h8 hr
  go_wp2_with (go_at_call 19; refine (in8_any _ _ _ _).mono ?_; rintro e w' ⟨rfl, rfl⟩)
  go_ret3
  exact ⟨by rw [HC.out]; rfl, hBW.trans (b1.mono hWs)⟩
 have hw12 : IntKind.i64.wrap (h.alo + 12) = h.alo + 12 := by have := range_0 hr; rw [IntKind.wrap_i64]; omega
 by_cases h12 : h.ahi > h.alo + 12
 ·have HC := Lib.hid (check8_r2 h8 h9 (.inr h12))
  rw [hr]
  clear h8 hr
  go_wp2_with (go_at_call 19; refine (in8_any _ _ _ _).mono ?_; rintro e w' ⟨rfl, rfl⟩)
  go_ret3
  exact ⟨by rw [HC.out]; rfl, hBW.trans (b1.mono hWs)⟩
 by_cases ho : inB (n : Int) 1 8 = false ∨ inB (m : Int) 1 3 = false
 ·have HC := Lib.hid (check8_r3 hr h9 h12 (by rw [Hn.out, Hm.out]; exact ho))
  rw [hr]
  clear h8 hr
  cases o4 : inB (n : Int) 1 8
  ·clear ho
   go_wp2_with (go_at_call 19; refine (in8_any _ _ _ _).mono ?_; rintro e w' ⟨rfl, rfl⟩)
   go_ret3
   exact ⟨by rw [HC.out]; rfl, hBW.trans (b1.mono hWs)⟩
  have o5 := ho.resolve_left (by rw [o4]; decide)
  clear ho
  go_wp2_with (go_at_call 19; refine (in8_any _ _ _ _).mono ?_; rintro e w' ⟨rfl, rfl⟩)
  go_ret3
  exact ⟨by rw [HC.out]; rfl, hBW.trans (b1.mono hWs)⟩
 have o4 : inB (n : Int) 1 8 = true := by cases e : inB (n : Int) 1 8; exact absurd (.inl e) ho; rfl
 have o5 : inB (m : Int) 1 3 = true := by cases e : inB (m : Int) 1 3; exact absurd (.inr e) ho; rfl
 have C := Lib.hid (check8_rn hr h9 h12 (by rw [Hn.out]; exact o4) (by rw [Hm.out]; exact o5))
 have hn8 : 1 ≤ n ∧ n ≤ 8 := by simp [inB] at o4; omega
 have hm3 : 1 ≤ m ∧ m ≤ 3 := by simp [inB] at o5; omega
 obtain ⟨hn1, hn8⟩ := hn8
 obtain ⟨hm1, hm3⟩ := hm3
 rw [hr]
 clear ho h8 hr
 go_wp2_with (go_at_call 19; refine (in8_any _ _ _ _).mono ?_; rintro e w' ⟨rfl, rfl⟩)
 clear y0 y1 y2 y3 y4 h9 hw12 h12 o4 o5 hc1
 go_loopw [5, 6, 7] (fun _ nm i wr => ∃ (k cap : Nat) (An : Option Addr), k ≤ n ∧ i = .int .i64 k ∧ nm = .slice An k cap ∧ Below W.heap.size W wr ∧ (∃ nms, OwnL StrR 1 (fun _ => False) wr W.heap.size 9 (.slice An k cap) nms ∧ Hid (nms = (h.tiles.take k).map (·.name))) ∧ Hid (∀ j, j < k → tileE h.tiles j = 0)) (fun _ _ i _ => n - (intOf i).toNat)
 case atStart => exact ⟨0, 0, none, Nat.zero_le _, rfl, rfl, b1, ⟨[], OwnL.nil _ _ _ _ _ _, rfl⟩, fun j h => by omega⟩
 case round =>
  clear b1
  obtain ⟨k, cap, An, hk, rfl, rfl, hB, ⟨nms, hO, Hnm⟩, Hz⟩ := hrel
  have hcr := hc.keep (Keeps.below hB)
  have y3 := getc hB x3
  have hkl : nms.length = k := by rw [Hnm.out, List.length_map, List.length_take, Hn.out]; omega
  have Hkl := Lib.hid hkl
  clear hkl
  by_cases hlt : k < n
  ·obtain ⟨b, off, s, a, z, y, u, rfl, hbb, hc0, hc1, hc2, hc3, hc4, hs, Hx⟩ := Tiles.get hcr.ts hlt
   have HE : Hid (tileE h.tiles k = tileS s.data.toList a z y u nms) := by rw [Hid, Hnm.out]; exact tileE_ref Hx.out
   have HL : Hid (∀ e, e ≠ 0 → tileE h.tiles k = e → check8 h = (2, (k : Int), e)) := fun e he hh => by rw [C.out, firstErr_some (by rw [Hn.out]; exact hlt) Hz.out (by rw [hh]; exact he), hh]
   have hki : (k : Int) < n := by omega
   have hstr : Strs (fun _ => True) wr An k nms := hO.slice StrR.good rfl (by simp only [maxLen]; omega) (fun _ h => h.elim) (fun _ _ _ => trivial)
   go_wp2_with fail
   refine (rtile_any s a z y u _ hstr hs).mono ?_
   rintro e w1 ⟨rfl, hb1⟩
   generalize hfr : tileS s.data.toList a z y u nms = fr at HE ⊢
   have hB1 : Below W.heap.size W w1 := bl_call hB hb1 (Nat.le_refl _)
   have hO1 := hO.below StrR.good hb1
   have q0 := getc hb1 hc0
   have q3 := getc hb1 y3
   clear hfr hB hO hb1 hc0 hc1 hc2 hc3 hc4 y3 hstr hcr
   by_cases he : fr = 0
   ·obtain rfl : fr = 0 := he
    go_wp2_with (at_builtin; refine wpList_append_n _ rfl (.tmp 64) (.tmp 71) _ rfl StrR.good W.heap.size 9 i0 _ 16 Tryz.underlying70 hi0 hz0 hz1 hz2 rfl (by omega) _ nms s.data.toList k Hkl.out rfl (hO1.alloc StrR.good _) ⟨w1.heap.size, 0, none⟩ 1 [.string s] rfl ⟨s, rfl, rfl, hs⟩ (news_new rfl (by simp)) ?c1 ?c2 ?c3 (fun h => h) ?_)
    case c1 => simp only [maxLen]; omega
    case c2 => omega
    case c3 => have := hB1.size; simp; omega
    intro A' cap' w2 hown2 hg2 hat2
    have hB2 : Below W.heap.size W w2 := bl_grown (bl_alloc hB1 _ (Nat.le_refl _)) (hO1.alloc StrR.good _) hg2 (Nat.le_refl _) (Nat.le_refl _)
    have Hnm2 : Hid (nms ++ [s.data.toList] = (h.tiles.take (k + 1)).map (·.name)) := by rw [Hid, take_snoc_get Hx.out, List.map_append, Hnm.out]; rfl
    clear hg2 hat2 hO1 hB1 q0 q3
    go_wp2
    go_roundw
    case rel => exact ⟨k + 1, _, _, by omega, by go_num, rfl, hB2, ⟨_, hown2, Hnm2⟩, upto_succ Hz.out HE.out⟩
    case measure => simp [intOf]; omega
   have hbe2 : (fr != 0) = true := by simpa using he
   have HC := Lib.hid (HL.out fr he HE.out)
   clear he
   go_wp2
   go_ret3
   exact ⟨by rw [HC.out]; rfl, hBW.trans (hB1.mono hWs)⟩
  obtain rfl : k = n := by omega
  have D : Hid (check8 h = match firstErr (rowE k h.rows) h.rows.length with
   | some (k, e) => (3, (k : Int), e)
   | none => (0, 0, 0)) := by rw [Hid, C.out, firstErr_none (by rw [Hn.out]; exact Hz.out), Hn.out]
  go_wp2
  clear y3 hlt hcr hO Hnm Hkl
  go_loopw [8, 9, 10] (fun ps i _ wr' => ∃ (j : Nat) (pl : Int), j ≤ m ∧ i = .int .i64 j ∧ ps = .int .i64 pl ∧ 0 ≤ pl ∧ pl ≤ 8 ∧ Hid (pl = placesOf (h.rows.take j)) ∧ Below W.heap.size W wr' ∧ Hid (∀ i, i < j → rowE k h.rows i = 0)) (fun _ i _ _ => m - (intOf i).toNat)
  case atStart => exact ⟨0, 0, Nat.zero_le _, rfl, rfl, by omega, by omega, by simp [Hid, placesOf], hB, fun j h => by omega⟩
  case round =>
   clear hB
   obtain ⟨j, pl, hj, rfl, rfl, hl0, hl8, Hl, hB, Hz2⟩ := hrel
   have hcr := hc.keep (Keeps.below hB)
   have y3 := getc hB x3
   have y4 := getc hB x4
   by_cases hlt : j < m
   ·obtain ⟨b, off, a, z, y, rfl, hbb, hc0, hc1, hc2, Hx⟩ := RowTs.get hcr.rs hlt
    have HE : Hid (rowE k h.rows j = _) := rowE_ref Hx.out
    have HL : Hid (∀ e, e ≠ 0 → rowE k h.rows j = e → check8 h = (3, (j : Int), e)) := fun e he hh => by rw [D.out, firstErr_some (by rw [Hm.out]; exact hlt) Hz2.out (by rw [hh]; exact he), hh]
    have hji : (j : Int) < m := by omega
    have hl0' : w.heap.size < wr.heap.size := by have := X'.out.lt; have := hB.size; omega
    have hB1 := bl_alloc hB (.cells #[.int .i64 a, .int .i64 z, .int .i64 y] 64) (Nat.le_refl _)
    cases ho1 : inB a 0 200000
    ·have HC := Lib.hid (HL.out 7 (by decide) (by rw [HE.out, if_pos (.inl ho1)]))
     go_wp2_with (go_at_call 19; refine (in8_any _ _ _ _).mono ?_; rintro e w' ⟨rfl, rfl⟩)
     go_ret3
     exact ⟨by rw [HC.out]; rfl, hBW.trans (hB1.mono hWs)⟩
    cases ho2 : inB z 0 160
    ·have HC := Lib.hid (HL.out 7 (by decide) (by rw [HE.out, if_pos (.inr (.inl ho2))]))
     go_wp2_with (go_at_call 19; refine (in8_any _ _ _ _).mono ?_; rintro e w' ⟨rfl, rfl⟩)
     go_ret3
     exact ⟨by rw [HC.out]; rfl, hBW.trans (hB1.mono hWs)⟩
    cases ho3 : inB y 1 (k : Int)
    ·have HC := Lib.hid (HL.out 7 (by decide) (by rw [HE.out, if_pos (.inr (.inr ho3))]))
     go_wp2_with (go_at_call 19; refine (in8_any _ _ _ _).mono ?_; rintro e w' ⟨rfl, rfl⟩)
     go_ret3
     exact ⟨by rw [HC.out]; rfl, hBW.trans (hB1.mono hWs)⟩
    have hy1 : 1 ≤ y ∧ y ≤ k := by simp [inB] at ho3; omega
    have HE2 : Hid (rowE k h.rows j = if (k : Int) < placesOf (h.rows.take j) + y then 3 else 0) := by rw [Hid, HE.out, ho1, ho2, ho3]; rfl
    have hwl : IntKind.i64.wrap (pl + y) = pl + y := by rw [IntKind.wrap_i64]; omega
    by_cases hneg : pl + y > (k : Int)
    ·have HC := Lib.hid (HL.out 3 (by decide) (by rw [HE2.out, if_pos (by have := Hl.out; omega)]))
     go_wp2_with (go_at_call 19; refine (in8_any _ _ _ _).mono ?_; rintro e w' ⟨rfl, rfl⟩)
     go_ret3
     exact ⟨by rw [HC.out]; rfl, hBW.trans (hB1.mono hWs)⟩
    have hzz : Hid (rowE k h.rows j = 0) := by rw [Hid, HE2.out, if_neg (by have := Hl.out; omega)]
    go_wp2_with (go_at_call 19; refine (in8_any _ _ _ _).mono ?_; rintro e w' ⟨rfl, rfl⟩)
    go_roundw
    case rel => exact ⟨j + 1, pl + y, by omega, by go_num, rfl, by omega, by omega, by rw [Hid, places_snoc Hx.out, Hl.out], hB1, upto_succ Hz2.out hzz.out⟩
    case measure => simp [intOf]; omega
   obtain rfl : j = m := by omega
   have HC : Hid (check8 h = (0, 0, 0)) := by rw [Hid, D.out, firstErr_none (by rw [Hm.out]; exact Hz2.out)]
   go_wp2
   go_ret3
   exact ⟨by rw [HC.out]; rfl, hBW.trans (hB.mono hWs)⟩
open Go.RowKit
theorem infoI8 : (Tryz.prog.info? 3).map (fun i => (i.zero, i.size, i.bytes)) = some (some (.int .i64 0), 1, 8) := by kernel_rfl
set_option maxHeartbeats 1000000 in
theorem rows_any {S T : Foot} {A B : Option Addr} {n c m d : Nat} {xs ys : List (List Int)} (w : World) (h : Rows S w A n xs) (g : Rows T w B m ys) :
  Calls Tryz.prog 40 #[.slice A n c, .slice B m d] w fun e w' => e = .returned (.bool (decide (xs = ys))) ∧ ∃ q, w' = w.drewN q := by
 have hle := h.le
 have gle := g.le
 have Hlx := Lib.hid h.len
 have Hly := Lib.hid g.len
 by_cases hnm : n = m
 ·obtain rfl : n = m := hnm
  have hb : ((n : Int) != (n : Int)) = false := by simp
  go_enter Tryz.func40, Tryz.ntmps40
  go_wp2
  go_loopw [5] (fun i wr => ∃ k q : Nat, k ≤ n ∧ i = .int .i64 k ∧ Hid (xs.take k = ys.take k) ∧ wr = w.drewN q) (fun i _ => n - (intOf i).toNat)
  case atStart => exact ⟨0, 0, Nat.zero_le _, rfl, by simp [Hid], rfl⟩
  case round =>
   obtain ⟨k, q, hk, rfl, Hn, rfl⟩ := hrel
   by_cases hlt : k < n
   ·have hki : (k : Int) < n := by omega
    obtain ⟨b, off, x, A', n', c', rfl, hcell, hX, Hx⟩ := Rows.get h hlt
    obtain ⟨b', off', y, B', m', d', rfl, hcell', hY, Hy⟩ := Rows.get g hlt
    have HC : Hid (∀ q z0, Calls Tryz.prog 30 #[.slice A' n' c', .slice B' m' d'] (w.drewN (q + z0)) fun e w' => e = .returned (.bool (decide (x = y))) ∧ ∃ z, w' = w.drewN (q + z)) := fun q z0 =>
     (ints_any (w.drewN (q + z0)) (hX.keep IntR.good (Keeps.drewN _ _)) (hY.keep IntR.good (Keeps.drewN _ _))).mono fun _ _ ⟨h1, z, h2⟩ => ⟨h1, z0 + z, by rw [h2, World.drewN_drewN, Nat.add_assoc]⟩
    obtain ⟨v, hv⟩ : ∃ v, decide (x = y) = v := ⟨_, rfl⟩
    rw [hv] at HC
    cases v
    ·have hne : x ≠ y := of_decide_eq_false hv
     have HR : Hid (decide (xs = ys) = false) := by
      rw [Hid, decide_eq_false_iff_not]; rintro rfl
      have h1 := Hx.out; rw [Hy.out] at h1; exact hne (Option.some.inj h1).symm
     clear hv hne hX hY
     go_wp2
     go_quiet ((go_at_call 30; exact HC.out _ _))
     go_wp2
     go_ret
     exact ⟨ret_bool HR.out.symm, _, by rw [World.drewN_drewN]⟩
    have HE := Lib.hid (of_decide_eq_true hv)
    clear hv hX hY
    go_wp2
    go_quiet ((go_at_call 30; exact HC.out _ _))
    go_wp2
    go_roundw
    case rel => exact ⟨k + 1, q + nq, by omega, by go_num, by rw [Hid, take_snoc_get Hx.out, take_snoc_get Hy.out, Hn.out, HE.out], rfl⟩
    case measure => simp [intOf]; omega
   go_wp2
   go_ret
   refine ⟨ret_bool ?_, _, rfl⟩
   symm; rw [decide_eq_true_iff]
   have := Hn.out
   rwa [List.take_of_length_le (by rw [Hlx.out]; omega), List.take_of_length_le (by rw [Hly.out]; omega)] at this
 have hb : ((n : Int) != (m : Int)) = true := by simp; omega
 have HM := Lib.hid hnm
 clear hnm
 go_enter Tryz.func40, Tryz.ntmps40
 go_wp2
 go_ret
 exact ⟨ret_bool (by symm; rw [decide_eq_false_iff_not]; rintro rfl; exact HM.out (Hlx.out.symm.trans Hly.out)), 0, rfl⟩
theorem OwnL.cap8 {α : Type} {R : Rd α} {m : Nat} {S : Foot} {w : World} {base : Nat} {e : TypeId} {xs : List α} {A : Option Addr} {n cap : Nat} (h : OwnL R m S w base e (.slice A n cap) xs) : n ≤ cap := by
 obtain ⟨_, cells, ho, _⟩ := h
 rcases ho.2 with ⟨e, h0⟩ | ⟨gb, cap', cur, e, _, _, hc, _⟩
 ·injection e with _ e1 e2; omega
 injection e with _ e1 e2; omega
open Go.RowKit
theorem infoTwo8 : (Tryz.prog.info? 66).map (fun i => (i.zero, i.size, i.bytes)) = some (some (.agg #[.int .i64 0, .int .i64 0]), 2, 16) := by kernel_rfl
def anyTwo (x : Tile) (xs : List Nat) (i : Nat) : Int × Int := (amongI x.wlo x.whi (turnL xs (2 * i)), amongI x.slo x.shi (turnL xs (2 * i + 1)))
def anyK (h : Hall) (xs : List Nat) (k : Nat) : List (Int × Int) := (List.range k).map fun i => anyTwo (h.tiles.getD i dTile) xs i
def anyL (h : Hall) (xs : List Nat) : List (Int × Int) := anyK h xs h.tiles.length
theorem anyK_succ (h : Hall) (xs : List Nat) (k : Nat) : anyK h xs (k + 1) = anyK h xs k ++ [anyTwo (h.tiles.getD k dTile) xs k] := by unfold anyK; rw [List.range_succ, List.map_append]; rfl
theorem anyK_len (h : Hall) (xs : List Nat) (k : Nat) : (anyK h xs k).length = k := by unfold anyK; simp
theorem blk_news {w : World} {g : Nat} {t : TypeId} {x y : Value} (h : Blk w g t #[x, y]) {j : Nat} {v : Value} (hv : [x, y][j]? = some v) : w.cell? ((⟨g, 0, none⟩ : Addr).add j) = some v := by
 have hadd : (⟨g, 0, none⟩ : Addr).add j = ⟨g, j, none⟩ := by unfold Addr.add; split <;> simp_all
 rw [hadd, h.cell]
 simpa using hv
def IsTwo (p : Int × Int) (v : Value) (U0 : World) : Prop := ∃ g : Nat, v = .slice (some ⟨g, 0, none⟩) 1 1 ∧ Blk U0 g 66 #[.int .i64 p.1, .int .i64 p.2]
theorem IsTwo.bl {p : Int × Int} {v : Value} {U0 V : World} (h : IsTwo p v U0) (hb : Below U0.heap.size U0 V) : IsTwo p v V := by
 obtain ⟨g, h1, h2⟩ := h
 exact ⟨g, h1, h2.bl hb⟩
def IsTwosN (w0 : Nat) (xs : List (Int × Int)) (e : Ending) (w' : World) : Prop := ∃ (A' : Option Addr) (c : Nat), e = .returned (.slice A' xs.length c) ∧ TwosAt (fun k => w0 ≤ k) w' A' xs.length xs ∧ xs.length ≤ c
set_option maxRecDepth 100000 in
set_option maxHeartbeats 4000000 in
theorem any_any {S : Foot} {A B C : Option Addr} {n ca m cb q cc : Nat} {h : Hall} {xs : List Nat} {v1 v2 v3 v5 : Value} (w : World) (g : HallAt (fun _ => True) w A n B m h) (hx : Bytes S w C q xs) (hv1 : v1.oneCell' = true) (hv2 : v2.oneCell' = true) (hv3 : v3.oneCell' = true) (hv5 : v5.oneCell' = true) (hk : OkH h) :
  Calls Tryz.prog 13 #[.agg #[v1, v2, v3, .slice A n ca, v5], .slice C q cc] w fun e w' => IsTwosN w.heap.size (anyL h xs) e w' ∧ Below w.heap.size w w' := by
 obtain ⟨i0, hi0, hz0, hz1, hz2⟩ := info_parts infoTwo8
 have Hn := Lib.hid g.ts.len
 have hn8 : n ≤ 8 := by rw [← Hn.out]; exact hk.nt.2
 obtain ⟨U0, hW⟩ : ∃ U0, w.alloc (.cells #[v1, v2, v3, .slice A n ca, v5] 30) = U0 := ⟨_, rfl⟩
 have X : Blk U0 w.heap.size 30 #[v1, v2, v3, .slice A n ca, v5] := by rw [← hW]; exact Blk.new _ _ _ rfl
 have hBW : Below w.heap.size w U0 := by rw [← hW]; exact bl_alloc (Below.refl _ _) _ (Nat.le_refl _)
 have HX := Lib.hid X
 have HG := Lib.hid (g.ts.keep TileR.good (Keeps.below hBW))
 have HXS := Lib.hid (hx.keep ByteR.good (Keeps.below hBW))
 have H256 := Lib.hid hx.all
 have HK := Lib.hid hk
 have hnl := g.ts.le
 clear X g hx hk
 go_enter Tryz.func13, Tryz.ntmps13
 go_wp2_with fail
 clear hW
 go_loopw [5, 6] (fun o i wr => ∃ (k cap : Nat) (An : Option Addr), k ≤ n ∧ i = .int .i64 k ∧ o = .slice An k cap ∧ Below U0.heap.size U0 wr ∧ OwnL TwoR 2 (fun _ => False) wr U0.heap.size 66 (.slice An k cap) (anyK h xs k)) (fun _ i _ => n - (intOf i).toNat)
 case atStart => exact ⟨0, 0, none, Nat.zero_le _, rfl, rfl, Below.refl _ _, OwnL.nil _ _ _ _ _ _⟩
 case round =>
  obtain ⟨k, cap, An, hkn, rfl, rfl, hB, hO⟩ := hrel
  have HR := Lib.hid (HX.out.bl hB)
  have x3 := HR.out.cell 3
  by_cases hlt : k < n
  ·have hki : (k : Int) < n := by omega
   obtain ⟨b, off, s, a, z, y, u, rfl, hb0, c0, c1, c2, c3, c4, hs, HxT⟩ := Tiles.get (HG.out.keep TileR.good (Keeps.below hB)) hlt
   have htile := HK.out.tile (k := k) (by rw [Hn.out]; exact hlt)
   obtain ⟨p1, p2, p3, p4, p5, p6⟩ : 0 ≤ a ∧ a ≤ z ∧ z ≤ 100000 ∧ 0 ≤ y ∧ y ≤ u ∧ u ≤ 100000 := by
    have hN : tileN ⟨s.data.toList, a, z, y, u⟩ = 0 := by
     unfold tileE at htile
     rw [getD_of HxT.out] at htile
     dsimp only at htile
     split at htile
     ·rename_i he; exact absurd htile he
     exact htile
    unfold tileN at hN
    dsimp only at hN
    split at hN
    ·cases hN
    split at hN
    ·cases hN
    rename_i q1 q2
    simp [inB] at q1 q2
    omega
   obtain ⟨k2, hk2⟩ : ∃ k2 : Nat, 2 * k = k2 := ⟨_, rfl⟩
   have hw1 : IntKind.i64.wrap (2 * (k : Int)) = (k2 : Int) := by rw [show 2 * (k : Int) = (k2 : Int) by omega, IntKind.wrap_i64]; omega
   have hw2 : IntKind.i64.wrap ((k2 : Int) + 1) = ((k2 + 1 : Nat) : Int) := by rw [IntKind.wrap_i64]; omega
   obtain ⟨t1, ht1⟩ : ∃ t1, turnL xs k2 = t1 := ⟨_, rfl⟩
   obtain ⟨t2, ht2⟩ : ∃ t2, turnL xs (k2 + 1) = t2 := ⟨_, rfl⟩
   obtain ⟨e1, he1⟩ : ∃ e1, amongI a z t1 = e1 := ⟨_, rfl⟩
   obtain ⟨e2, he2⟩ : ∃ e2, amongI y u t2 = e2 := ⟨_, rfl⟩
   have HS : Hid (anyK h xs (k + 1) = anyK h xs k ++ [(e1, e2)]) := by
    rw [Hid, anyK_succ, getD_of HxT.out, anyTwo, hk2, ht1, ht2]
    dsimp only
    rw [he1, he2]
   have HT1 : Hid (∀ V, Below wr.heap.size wr V → Calls Tryz.prog 50 #[.slice C q cc, .int .i64 k2] V fun e w' => e = .returned (.int .i64 t1) ∧ w' = V) := fun V hb => by
    have := turn_any (c := cc) k2 V (HXS.out.keep ByteR.good (Keeps.below (bl_call hB hb (Nat.le_refl _))))
    rwa [ht1] at this
   obtain ⟨k3, hk3⟩ : ∃ k3 : Int, ((k2 + 1 : Nat) : Int) = k3 := ⟨_, rfl⟩
   have HT2 : Hid (∀ V, Below wr.heap.size wr V → Calls Tryz.prog 50 #[.slice C q cc, .int .i64 k3] V fun e w' => e = .returned (.int .i64 t2) ∧ w' = V) := fun V hb => by
    have := turn_any (c := cc) (k2 + 1) V (HXS.out.keep ByteR.good (Keeps.below (bl_call hB hb (Nat.le_refl _))))
    rwa [ht2, hk3] at this
   rw [hk3] at hw2
   have HM1 : Hid (∀ V, Calls Tryz.prog 49 #[.agg #[.int .i64 a, .int .i64 z], .int .i64 t1] V fun e w' => e = .returned (.int .i64 e1) ∧ Below V.heap.size V w') := fun V => by
    have := among_any a z t1 V p1 p2 p3 (by rw [← ht1]; exact turn_lt H256.out _)
    rwa [he1] at this
   have HM2 : Hid (∀ V, Calls Tryz.prog 49 #[.agg #[.int .i64 y, .int .i64 u], .int .i64 t2] V fun e w' => e = .returned (.int .i64 e2) ∧ Below V.heap.size V w') := fun V => by
    have := among_any y u t2 V p4 p5 p6 (by rw [← ht2]; exact turn_lt H256.out _)
    rwa [he2] at this
   have HC : Hid (∀ V, Below wr.heap.size wr V → V.cell? ⟨w.heap.size, 3, none⟩ = some (.slice (some ⟨b, off, none⟩) n ca) ∧ V.cell? ⟨b, off + k * 5 + 1, none⟩ = some (.int .i64 a) ∧ V.cell? ⟨b, off + k * 5 + 2, none⟩ = some (.int .i64 z) ∧ V.cell? ⟨b, off + k * 5 + 3, none⟩ = some (.int .i64 y) ∧ V.cell? ⟨b, off + k * 5 + 4, none⟩ = some (.int .i64 u)) :=
    fun V hb => ⟨getc hb x3, getc hb c1, getc hb c2, getc hb c3, getc hb c4⟩
   clear htile ht1 ht2 he1 he2 hk2 hk3 c0 c1 c2 c3 c4 hb0 hs
   go_wp2_with fail
   refine wp_region_list2 (fun W => Below wr.heap.size wr W) (fun w w' => Below w.heap.size w w')
    [isV (.slice An k cap), isV (.pointer (some ⟨w.heap.size, 3, none⟩)), isV (.slice (some ⟨b, off, none⟩) n ca), isV (.int .i64 k), isV (.pointer (some ⟨b, off + k * 5, none⟩)), isV (.pointer (some ⟨b, off + k * 5 + 1, none⟩)), isV (.agg #[.int .i64 a, .int .i64 z]), isV (.slice C q cc), isV (.int .i64 k), isV (.int .i64 k2), isV (.int .i64 t1), isV (.int .i64 e1), isV (.pointer (some ⟨w.heap.size, 3, none⟩)), isV (.slice (some ⟨b, off, none⟩) n ca), isV (.int .i64 k), isV (.pointer (some ⟨b, off + k * 5, none⟩)), isV (.pointer (some ⟨b, off + k * 5 + 3, none⟩)), isV (.agg #[.int .i64 y, .int .i64 u]), isV (.slice C q cc), isV (.int .i64 k), isV (.int .i64 k2), isV (.int .i64 k3), isV (.int .i64 t2), isV (.int .i64 e2), isV (.agg #[.int .i64 e1, .int .i64 e2]), IsTwo (e1, e2)]
    (by kernel_rfl) (by kernel_rfl) (by kernel_rfl) (by rfl) (by rfl) (by rfl) (by rfl) (by rfl) (Below.refl _ _).drew ?stab ?step ?fin
   case stab => exact (StabL.is (StabL.is (StabL.is (StabL.is (StabL.is (StabL.is (StabL.is (StabL.is (StabL.is (StabL.is (StabL.is (StabL.is (StabL.is (StabL.is (StabL.is (StabL.is (StabL.is (StabL.is (StabL.is (StabL.is (StabL.is (StabL.is (StabL.is (StabL.is (StabL.is (StabL.cons (fun v W V hC hX hq => IsTwo.bl hq hX) StabL.nil))))))))))))))))))))))))))
   case step =>
    refine StepsL.is ?_ (StepsL.is ?_ (StepsL.is ?_ (StepsL.is ?_ (StepsL.is ?_ (StepsL.is ?_ (StepsL.is ?_ (StepsL.is ?_ (StepsL.is ?_ (StepsL.is ?_ (StepsL.is ?_ (StepsL.is ?_ (StepsL.is ?_ (StepsL.is ?_ (StepsL.is ?_ (StepsL.is ?_ (StepsL.is ?_ (StepsL.is ?_ (StepsL.is ?_ (StepsL.is ?_ (StepsL.is ?_ (StepsL.is ?_ (StepsL.is ?_ (StepsL.is ?_ (StepsL.is ?_ (StepsL.cons ?_ StepsL.nil)))))))))))))))))))))))))
    all_goals
     intro vs W K hC hD hU hK
     simp only [fillA, Act.put, List.setIfInBounds_toArray, List.set_cons_zero, List.set_cons_succ, Nat.zero_add, Nat.reduceAdd] at hK ⊢
     simp [waits, Region.binds] at hD
     try simp only [envOf, List.getD_cons_succ, List.getD_cons_zero, isV] at hD
     try simp only [hD] at hK ⊢
    ·have h27 : vs 27 = .slice An k cap := (hU 27 _ rfl (by simp [waits, Region.binds]))
     simp only [h27] at hK ⊢
     go_simp; exact hK _ hC (Below.refl _ _)
    ·go_simp; exact hK _ hC (Below.refl _ _)
    ·obtain ⟨k3', k4, k5, k6, k7⟩ := HC.out W hC
     go_simp; exact hK _ hC (Below.refl _ _)
    ·go_simp; exact hK _ hC (Below.refl _ _)
    ·go_simp; exact hK _ hC (Below.refl _ _)
    ·go_simp; exact hK _ hC (Below.refl _ _)
    ·obtain ⟨k3', k4, k5, k6, k7⟩ := HC.out W hC
     go_simp; exact hK _ hC (Below.refl _ _)
    ·go_simp; exact hK _ hC (Below.refl _ _)
    ·go_simp; exact hK _ hC (Below.refl _ _)
    ·go_simp; exact hK _ hC (Below.refl _ _)
    ·go_simp
     refine (HT1.out W hC).mono ?_
     rintro e w' ⟨rfl, rfl⟩
     exact hK _ hC (Below.refl _ _)
    ·go_simp
     refine (HM1.out W).mono ?_
     rintro e w' ⟨rfl, hb⟩
     exact hK _ (bl_call hC hb (Nat.le_refl _)) hb
    ·go_simp; exact hK _ hC (Below.refl _ _)
    ·obtain ⟨k3', k4, k5, k6, k7⟩ := HC.out W hC
     go_simp; exact hK _ hC (Below.refl _ _)
    ·go_simp; exact hK _ hC (Below.refl _ _)
    ·go_simp; exact hK _ hC (Below.refl _ _)
    ·go_simp; exact hK _ hC (Below.refl _ _)
    ·obtain ⟨k3', k4, k5, k6, k7⟩ := HC.out W hC
     go_simp; exact hK _ hC (Below.refl _ _)
    ·go_simp; exact hK _ hC (Below.refl _ _)
    ·go_simp; exact hK _ hC (Below.refl _ _)
    ·go_simp; exact hK _ hC (Below.refl _ _)
    ·go_simp; exact hK _ hC (Below.refl _ _)
    ·go_simp
     refine (HT2.out W hC).mono ?_
     rintro e w' ⟨rfl, rfl⟩
     exact hK _ hC (Below.refl _ _)
    ·go_simp
     refine (HM2.out W).mono ?_
     rintro e w' ⟨rfl, hb⟩
     exact hK _ (bl_call hC hb (Nat.le_refl _)) hb
    ·go_simp; exact hK _ hC (Below.refl _ _)
    go_simp
    exact hK _ _ (bl_alloc hC _ (Nat.le_refl _)) (bl_alloc (Below.refl _ _) _ (Nat.le_refl _)) ⟨_, rfl, Blk.new _ _ _ rfl⟩
   intro vs W hC hE hU
   clear hU
   have e0 : vs 0 = .slice An k cap := hE 0 (by simp)
   have e25 : IsTwo (e1, e2) (vs 25) W := hE 25 (by simp)
   simp only [fillA, Act.put, List.setIfInBounds_toArray, List.set_cons_zero, List.set_cons_succ, Nat.zero_add, Nat.reduceAdd, e0]
   obtain ⟨g25, h25, hB25⟩ := e25
   rw [h25]
   generalize vs 1 = u1, vs 2 = u2, vs 3 = u3, vs 4 = u4, vs 5 = u5, vs 6 = u6, vs 7 = u7, vs 8 = u8, vs 9 = u9, vs 10 = u10, vs 11 = u11, vs 12 = u12, vs 13 = u13, vs 14 = u14, vs 15 = u15, vs 16 = u16, vs 17 = u17, vs 18 = u18, vs 19 = u19, vs 20 = u20, vs 21 = u21, vs 22 = u22, vs 23 = u23, vs 24 = u24
   clear hE e0 h25
   obtain ⟨A2, cap2, w2, hrun, hO2, hg2, hat⟩ := run_append_one W 60 60 TwoR.good U0.heap.size 66 i0 _ 16 Tryz.underlying60 hi0 hz0 hz1 hz2 rfl (by omega) (.slice An k cap) (anyK h xs k) (e1, e2) (hO.below TwoR.good hC) ⟨g25, 0, none⟩ 1 [.int .i64 e1, .int .i64 e2] rfl (fun j v hv => blk_news hB25 hv) (by rw [anyK_len]; simp only [maxLen]; omega) (by rw [anyK_len]; omega) (Nat.le_trans hB.size hC.size) (fun h => h)
   have hB2 : Below U0.heap.size U0 w2 := bl_grown (bl_call hB hC (Nat.le_refl _)) (hO.below TwoR.good hC) hg2 (Nat.le_refl _) (Nat.le_refl _)
   rw [anyK_len] at hrun hO2
   rw [← HS.out] at hO2
   refine wp_append_of_run rfl rfl rfl hrun ?_
   clear hrun hg2 hat hO hC hB25 hB
   go_simp
   go_wp2
   go_roundw
   case rel => exact ⟨k + 1, cap2, _, by omega, by go_num, rfl, hB2, hO2⟩
   case measure => simp [intOf]; omega
  obtain rfl : k = n := by omega
  go_wp2_with fail
  go_ret
  have hal : anyL h xs = anyK h xs k := by unfold anyL; rw [Hn.out]
  refine ⟨⟨An, cap, by rw [hal, anyK_len]; rfl, ?_, by rw [hal, anyK_len]; exact hO.cap8⟩, bl_call hBW hB (Nat.le_refl _)⟩
  rw [hal, anyK_len]
  exact hO.slice TwoR.good rfl (by simp only [maxLen]; omega) (fun _ h => h.elim) (fun _ h _ => Nat.le_trans hBW.size h)
end Go.Proofs.YtdbfincinjoppaaGreat
