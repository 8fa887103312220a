/- A part of the proof that TopLaid always answers true. -/
import Derived.Test.YtdbfincinjoppaaGreatCMaps2
set_option linter.all false
namespace Go.Proofs.YtdbfincinjoppaaGreat
open Go.RowKit Go.Shelf
theorem tileE_back {l : List Tile} {k : Nat} {s : List UInt8} {a z y u : Int} (h : l[k]? = some ⟨s, a, z, y, u⟩) : tileE l k = if isName s then (if s ∈ (l.take k).map (·.name) then 5 else if (outB 1 20000 a || outB 1 20000 z) || (outB 0 20 y || outB 0 20 u) then 7 else if outB a (a + 10) z || outB y (y + 3) u then 2 else 0) else 6 := by
 unfold tileE
 rw [getD_of h]
 unfold fresh tileN
 dsimp only
 simp only [outB_inB]
 cases isName s
 ·simp
 by_cases hm : s ∈ (l.take k).map (·.name)
 ·simp only [if_pos hm]; simp
 simp only [if_neg hm, Bool.or_assoc]; simp
theorem rowE_back {nt : Nat} {l : List RowT} {k : Nat} {a z y : Int} (h : l[k]? = some ⟨a, z, y⟩) : rowE nt l k = if (outB 0 200000 a || outB 0 160 z) || outB 1 nt y then 7 else if (nt : Int) < placesOf (l.take k) + y then 3 else 0 := by
 unfold rowE
 rw [getD_of h]
 simp only [outB_inB]
theorem places_snoc {l : List RowT} {k : Nat} {a z y : Int} (h : l[k]? = some ⟨a, z, y⟩) : placesOf (l.take (k + 1)) = placesOf (l.take k) + y := by
 unfold placesOf
 rw [take_snoc_get h, List.map_append, List.sum_append]
 simp
section
variable {h : Hall}
theorem check8_1 (g : (outB 0 40 h.alo || outB 0 40 h.ahi) = true ∨ outB 0 20000 h.most = true) : check8 h = (1, 0, 7) := by
 rw [check8, if_pos]
 rw [outB_inB, outB_inB, outB_inB] at g
 rcases g with g | g <;> simp [g]
theorem check8_2 (g1 : (outB 0 40 h.alo || outB 0 40 h.ahi) = false) (g2 : outB 0 20000 h.most = false) (g : outB h.alo (h.alo + 12) h.ahi = true) : check8 h = (1, 0, 2) := by
 rw [outB_inB, outB_inB] at g1
 rw [outB_inB] at g2 g
 rw [check8, if_neg (by rw [g1, g2]; decide), if_pos g]
theorem check8_3 (g1 : (outB 0 40 h.alo || outB 0 40 h.ahi) = false) (g2 : outB 0 20000 h.most = false) (g3 : outB h.alo (h.alo + 12) h.ahi = false) (g : outB 1 8 (h.tiles.length : Int) = true ∨ outB 1 3 (h.rows.length : Int) = true) : check8 h = (1, 0, 3) := by
 rw [outB_inB, outB_inB] at g1
 rw [outB_inB] at g2 g3
 rw [check8, if_neg (by rw [g1, g2]; decide), if_neg (by rw [g3]; decide), if_pos]
 rcases g with g | g
 ·left; unfold outB at g; simp at g; omega
 right; unfold outB at g; simp at g; omega
theorem check8_n (g1 : (outB 0 40 h.alo || outB 0 40 h.ahi) = false) (g2 : outB 0 20000 h.most = false) (g3 : outB h.alo (h.alo + 12) h.ahi = false) (g4 : outB 1 8 (h.tiles.length : Int) = false) (g5 : outB 1 3 (h.rows.length : Int) = false) :
  check8 h = match firstErr (tileE h.tiles) h.tiles.length with
   | some (k, e) => (2, k, e)
   | none => match firstErr (rowE h.tiles.length h.rows) h.rows.length with
    | some (k, e) => (3, k, e)
    | none => (0, 0, 0) := by
 rw [outB_inB, outB_inB] at g1
 rw [outB_inB] at g2 g3
 rw [check8, if_neg (by rw [g1, g2]; decide), if_neg (by rw [g3]; decide), if_neg (by unfold outB at g4 g5; simp at g4 g5; omega)]
 rfl
end
set_option maxHeartbeats 1500000 in
set_option maxRecDepth 100000 in
theorem tcheck_any {A B : Option Addr} {n ca m cb : Nat} {h : Hall} {alo ahi most : Int} (w : World) (g : HallAt (fun _ => True) w A n B m h) (hca : n ≤ ca) (h1 : h.alo = alo) (h2 : h.ahi = ahi) (h3 : h.most = most) :
  Calls Tryz.prog 106 #[.agg #[.int .i64 alo, .int .i64 ahi, .int .i64 most, .slice A n ca, .slice B m cb]] w fun e w' => e = .returned (.tuple #[.int .i64 (check8 h).1, .int .i64 (check8 h).2.1, .int .i64 (check8 h).2.2]) ∧ Below w.heap.size w w' := by
 have hle := g.ts.le
 have hlm := g.rs.le
 have Hn := Lib.hid g.ts.len
 have Hm := Lib.hid g.rs.len
 obtain ⟨W, hW⟩ : ∃ W, w.alloc (.cells #[.int .i64 alo, .int .i64 ahi, .int .i64 most, .slice A n ca, .slice B m cb] 30) = W := ⟨_, rfl⟩
 have X : Blk W w.heap.size 30 #[.int .i64 alo, .int .i64 ahi, .int .i64 most, .slice A n ca, .slice B m cb] := by rw [← hW]; exact Blk.new _ _ _ rfl
 have hc : HallAt (fun _ => True) W A n B m h := by rw [← hW]; exact g.keep (Keeps.alloc _ _)
 have hBW : Below w.heap.size w W := by rw [← hW]; exact bl_alloc (Below.refl _ _) _ (Nat.le_refl _)
 have hWs : w.heap.size ≤ W.heap.size := hBW.size
 have HW := Lib.hid hW
 have HWs : Hid (w.heap.size + 1 = W.heap.size) := by rw [Hid, ← hW]; simp
 have x0 : W.cell? ⟨w.heap.size, 0, none⟩ = some (.int .i64 alo) := X.cell 0
 have x1 : W.cell? ⟨w.heap.size, 1, none⟩ = some (.int .i64 ahi) := X.cell 1
 have x2 : W.cell? ⟨w.heap.size, 2, none⟩ = some (.int .i64 most) := X.cell 2
 have x3 : W.cell? ⟨w.heap.size, 3, none⟩ = some (.slice A n ca) := X.cell 3
 have x4 : W.cell? ⟨w.heap.size, 4, none⟩ = some (.slice B m cb) := X.cell 4
 have X' := Lib.hid X
 clear hW g X
 have C1 : Hid ((outB 0 40 alo || outB 0 40 ahi) = true ∨ outB 0 20000 most = true → check8 h = (1, 0, 7)) := fun e => check8_1 (by rw [h1, h2, h3]; exact e)
 have C2 : Hid ((outB 0 40 alo || outB 0 40 ahi) = false → outB 0 20000 most = false → outB alo (alo + 12) ahi = true → check8 h = (1, 0, 2)) := fun a b c => check8_2 (by rw [h1, h2]; exact a) (by rw [h3]; exact b) (by rw [h1, h2]; exact c)
 have C3 : Hid ((outB 0 40 alo || outB 0 40 ahi) = false → outB 0 20000 most = false → outB alo (alo + 12) ahi = false → (outB 1 8 (n : Int) = true ∨ outB 1 3 (m : Int) = true) → check8 h = (1, 0, 3)) := fun a b c d => check8_3 (by rw [h1, h2]; exact a) (by rw [h3]; exact b) (by rw [h1, h2]; exact c) (by rw [Hn.out, Hm.out]; exact d)
 have C4 : Hid ((outB 0 40 alo || outB 0 40 ahi) = false → outB 0 20000 most = false → outB alo (alo + 12) ahi = false → outB 1 8 (n : Int) = false → outB 1 3 (m : Int) = false → check8 h = _) := fun a b c d e => check8_n (by rw [h1, h2]; exact a) (by rw [h3]; exact b) (by rw [h1, h2]; exact c) (by rw [Hn.out]; exact d) (by rw [Hm.out]; exact e)
 clear h1 h2 h3
 cases o1 : (outB 0 40 alo || outB 0 40 ahi)
 ·cases o2 : outB 0 20000 most
  ·have hal : inB alo 0 40 = true ∧ inB ahi 0 40 = true := by rw [outB_inB, outB_inB] at o1; simpa using o1
   have hal1 := inB_iff.1 hal.1
   have hal2 := inB_iff.1 hal.2
   have hw12 : IntKind.i64.wrap (alo + 12) = alo + 12 := by rw [IntKind.wrap_i64]; omega
   clear hal hal1 hal2
   cases o3 : outB alo (alo + 12) ahi
   ·cases o4 : outB 1 8 (n : Int)
    ·cases o5 : outB 1 3 (m : Int)
     ·have C := Lib.hid (C4.out o1 o2 o3 o4 o5)
      clear C1 C2 C3 C4
      have hn8 : 1 ≤ n ∧ n ≤ 8 := by unfold outB at o4; simp at o4; omega
      have hm3 : 1 ≤ m ∧ m ≤ 3 := by unfold outB at o5; simp at o5; omega
      obtain ⟨hn1, hn8⟩ := hn8
      obtain ⟨hm1, hm3⟩ := hm3
      go_enter Tryz.func106, Tryz.ntmps106
      go_wp2_with fail
      rw [HW.out]
      refine (out2_any _ (by exact newc rfl HWs.out) (by exact newc rfl HWs.out) o1).mono ?_
      rintro e W1 ⟨rfl, b1⟩
      have B1 : Below W.heap.size W W1 := bl_call (bl_alloc (Below.refl _ _) _ (Nat.le_refl _)) b1 (Nat.le_refl _)
      have y2 := getc B1 x2
      clear b1 o1
      go_wp2_with fail
      clear y2
      refine (out1_any _ (by exact newc rfl rfl) o2).mono ?_
      rintro e W2 ⟨rfl, b2⟩
      have B2 : Below W.heap.size W W2 := bl_call (bl_alloc B1 _ (Nat.le_refl _)) b2 (Nat.le_refl _)
      have y0 := getc B2 x0
      have y1 := getc B2 x1
      clear b2 o2 B1
      go_wp2_with fail
      clear y0 y1
      refine (out1_any _ (by exact newc rfl rfl) o3).mono ?_
      rintro e W3 ⟨rfl, b3⟩
      have B3 : Below W.heap.size W W3 := bl_call (bl_alloc B2 _ (Nat.le_refl _)) b3 (Nat.le_refl _)
      have y3 := getc B3 x3
      clear b3 o3 B2 hw12
      go_wp2_with fail
      clear y3
      refine (out1_any _ (by exact newc rfl rfl) o4).mono ?_
      rintro e W4 ⟨rfl, b4⟩
      have B4 : Below W.heap.size W W4 := bl_call (bl_alloc B3 _ (Nat.le_refl _)) b4 (Nat.le_refl _)
      have y4 := getc B4 x4
      clear b4 o4 B3
      go_wp2_with fail
      clear y4
      refine (out1_any _ (by exact newc rfl rfl) o5).mono ?_
      rintro e W5 ⟨rfl, b5⟩
      have B5 : Below W.heap.size W W5 := bl_call (bl_alloc B4 _ (Nat.le_refl _)) b5 (Nat.le_refl _)
      have y3 := getc B5 x3
      clear b5 o5 B4
      go_wp2
      clear y3
      go_loopw [5, 6, 54] (fun _ _ i wr => ∃ k : Nat, k ≤ n ∧ i = .int .i64 k ∧ Below W.heap.size W wr ∧ Hid (∀ j, j < k → tileE h.tiles j = 0)) (fun _ _ i _ => n - (intOf i).toNat)
      case atStart => exact ⟨0, Nat.zero_le _, rfl, B5, fun j h => by omega⟩
      case round =>
       clear B5
       obtain ⟨k, hk, rfl, hB, Hz⟩ := hrel
       have hcr := hc.keep (Keeps.below hB)
       by_cases hlt : k < n
       ·obtain ⟨b, off, s, a, z, y, u, rfl, hbb, hc0, hc1, hc2, hc3, hc4, hs, Hx⟩ := Tiles.get hcr.ts hlt
        have HE : Hid (tileE h.tiles k = _) := tileE_back Hx.out
        have HL : Hid (∀ e, e ≠ 0 → tileE h.tiles k = e → check8 h = (2, (k : Int), e)) := fun e he hh => by rw [C.out, firstErr_some (by rw [Hn.out]; exact hlt) Hz.out (by rw [hh]; exact he), hh]
        have hki : (k : Int) < n := by omega
        have hkc : (k : Int) ≤ ca := by omega
        go_wp2_with fail
        refine (sheetName_any s _ hs).mono ?_
        rintro e w1 ⟨rfl, hb1⟩
        have hF : Blk w1 wr.heap.size 55 #[.string s, .int .i64 a, .int .i64 z, .int .i64 y, .int .i64 u] := (Blk.new _ _ _ rfl).bl hb1
        have hB1 : Below W.heap.size W w1 := bl_call (bl_alloc hB _ (Nat.le_refl _)) hb1 (Nat.le_refl _)
        clear hb1 hc0 hc1 hc2 hc3 hc4 hbb hcr
        cases hnm : isName s.data.toList
        ·have HC := Lib.hid (HL.out 6 (by decide) (by rw [HE.out, hnm]; rfl))
         clear hnm
         go_wp2
         go_ret3
         exact ⟨by rw [HC.out]; rfl, hBW.trans (hB1.mono hWs)⟩
        have hz0 := getc hB1 x3
        have hf0 := hF.cell 0
        have hcr := (hc.keep (Keeps.below hB1)).ts.take hk
        go_wp2_with fail
        refine (hasF_any s wr.heap.size _ hcr hf0).mono ?_
        rintro e w2 ⟨rfl, hb2⟩
        have hB2 : Below W.heap.size W w2 := bl_call hB1 hb2 (Nat.le_refl _)
        have hF2 := hF.bl hb2
        clear hb2 hcr hz0 hf0 hF hB1
        by_cases hmem : s.data.toList ∈ (h.tiles.take k).map (·.name)
        ·have HC := Lib.hid (HL.out 5 (by decide) (by rw [HE.out, hnm, if_pos hmem]; rfl))
         rw [decide_eq_true hmem]
         clear hnm hmem
         go_wp2
         go_ret3
         exact ⟨by rw [HC.out]; rfl, hBW.trans (hB2.mono hWs)⟩
        have HE2 : Hid (tileE h.tiles k = if (outB 1 20000 a || outB 1 20000 z) || (outB 0 20 y || outB 0 20 u) then 7 else if outB a (a + 10) z || outB y (y + 3) u then 2 else 0) := by rw [Hid, HE.out, hnm, if_neg hmem]; rfl
        rw [decide_eq_false hmem]
        clear hnm hmem HE
        have f1 := hF2.cell 1
        have f2 := hF2.cell 2
        cases ho1 : (outB 1 20000 a || outB 1 20000 z)
        ·have ha1 : inB a 1 20000 = true ∧ inB z 1 20000 = true := by rw [outB_inB, outB_inB] at ho1; simpa using ho1
         have hwa : IntKind.i64.wrap (a + 10) = a + 10 := by have := inB_iff.1 ha1.1; rw [IntKind.wrap_i64]; omega
         clear ha1
         go_wp2_with fail
         refine (out2_any _ (by exact newc rfl rfl) (by exact newc rfl rfl) ho1).mono ?_
         rintro e w3 ⟨rfl, hb3⟩
         have hb3' : Below w2.heap.size w2 w3 := bl_call (bl_alloc (Below.refl _ _) _ (Nat.le_refl _)) hb3 (Nat.le_refl _)
         have hB3 : Below W.heap.size W w3 := bl_call hB2 hb3' (Nat.le_refl _)
         have hF3 := hF2.bl hb3'
         have f3 := hF3.cell 3
         have f4 := hF3.cell 4
         clear hb3 hb3' f1 f2 hF2 hB2
         cases ho2 : (outB 0 20 y || outB 0 20 u)
         ·have ha1 : inB y 0 20 = true ∧ inB u 0 20 = true := by rw [outB_inB, outB_inB] at ho2; simpa using ho2
          have hwy : IntKind.i64.wrap (y + 3) = y + 3 := by have := inB_iff.1 ha1.1; rw [IntKind.wrap_i64]; omega
          have HE3 : Hid (tileE h.tiles k = if outB a (a + 10) z || outB y (y + 3) u then 2 else 0) := by rw [Hid, HE2.out, ho1, ho2]; rfl
          clear ha1 ho1
          go_wp2_with fail
          refine (out2_any _ (by exact newc rfl rfl) (by exact newc rfl rfl) ho2).mono ?_
          rintro e w4 ⟨rfl, hb4⟩
          have hb4' : Below w3.heap.size w3 w4 := bl_call (bl_alloc (Below.refl _ _) _ (Nat.le_refl _)) hb4 (Nat.le_refl _)
          have hB4 : Below W.heap.size W w4 := bl_call hB3 hb4' (Nat.le_refl _)
          have hF4 := hF3.bl hb4'
          have f1 := hF4.cell 1
          have f2 := hF4.cell 2
          clear ho2 hb4 hb4' f3 f4 hF3 hB3
          cases ho3 : outB a (a + 10) z
          ·go_wp2_with fail
           refine (out1_any _ (by exact newc rfl rfl) ho3).mono ?_
           rintro e w5 ⟨rfl, hb5⟩
           have hb5' : Below w4.heap.size w4 w5 := bl_call (bl_alloc (Below.refl _ _) _ (Nat.le_refl _)) hb5 (Nat.le_refl _)
           have hB5 : Below W.heap.size W w5 := bl_call hB4 hb5' (Nat.le_refl _)
           have hF5 := hF4.bl hb5'
           have f3 := hF5.cell 3
           have f4 := hF5.cell 4
           clear hb5 hb5' f1 f2 hF4 hB4 hwa
           cases ho4 : outB y (y + 3) u
           ·have hzz : Hid (tileE h.tiles k = 0) := by rw [Hid, HE3.out, ho3, ho4]; rfl
            clear ho3
            go_wp2_with fail
            refine (out1_any _ (by exact newc rfl rfl) ho4).mono ?_
            rintro e w6 ⟨rfl, hb6⟩
            have hB6 : Below W.heap.size W w6 := bl_call (bl_alloc hB5 _ (Nat.le_refl _)) hb6 (Nat.le_refl _)
            clear ho4 hb6 f3 f4 hwy
            go_wp2
            go_roundw
            case rel => exact ⟨k + 1, by omega, by go_num, hB6, upto_succ Hz.out hzz.out⟩
            case measure => simp [intOf]; omega
           have HC := Lib.hid (HL.out 2 (by decide) (by rw [HE3.out, ho3, ho4]; rfl))
           clear ho3
           go_wp2_with fail
           refine (out1_any _ (by exact newc rfl rfl) ho4).mono ?_
           rintro e w6 ⟨rfl, hb6⟩
           have hB6 : Below W.heap.size W w6 := bl_call (bl_alloc hB5 _ (Nat.le_refl _)) hb6 (Nat.le_refl _)
           clear ho4 hb6 f3 f4 hwy
           go_wp2
           go_ret3
           exact ⟨by rw [HC.out]; rfl, hBW.trans (hB6.mono hWs)⟩
          have HC := Lib.hid (HL.out 2 (by decide) (by rw [HE3.out, ho3]; rfl))
          go_wp2_with fail
          refine (out1_any _ (by exact newc rfl rfl) ho3).mono ?_
          rintro e w5 ⟨rfl, hb5⟩
          have hB5 : Below W.heap.size W w5 := bl_call (bl_alloc hB4 _ (Nat.le_refl _)) hb5 (Nat.le_refl _)
          clear ho3 hb5 f1 f2 hwa hwy
          go_wp2
          go_ret3
          exact ⟨by rw [HC.out]; rfl, hBW.trans (hB5.mono hWs)⟩
         have HC := Lib.hid (HL.out 7 (by decide) (by rw [HE2.out, ho1, ho2]; rfl))
         clear ho1
         go_wp2_with fail
         refine (out2_any _ (by exact newc rfl rfl) (by exact newc rfl rfl) ho2).mono ?_
         rintro e w4 ⟨rfl, hb4⟩
         have hB4 : Below W.heap.size W w4 := bl_call (bl_alloc hB3 _ (Nat.le_refl _)) hb4 (Nat.le_refl _)
         clear ho2 hb4 f3 f4 hwa
         go_wp2
         go_ret3
         exact ⟨by rw [HC.out]; rfl, hBW.trans (hB4.mono hWs)⟩
        have HC := Lib.hid (HL.out 7 (by decide) (by rw [HE2.out, ho1]; rfl))
        go_wp2_with fail
        refine (out2_any _ (by exact newc rfl rfl) (by exact newc rfl rfl) ho1).mono ?_
        rintro e w3 ⟨rfl, hb3⟩
        have hB3 : Below W.heap.size W w3 := bl_call (bl_alloc hB2 _ (Nat.le_refl _)) hb3 (Nat.le_refl _)
        clear ho1 hb3 f1 f2
        go_wp2
        go_ret3
        exact ⟨by rw [HC.out]; rfl, hBW.trans (hB3.mono hWs)⟩
       obtain rfl : k = n := by omega
       have D : Hid (check8 h = match firstErr (rowE k h.rows) h.rows.length with
        | some (k, e) => (3, (k : Int), e)
        | none => (0, 0, 0)) := by rw [Hid, C.out, firstErr_none (by rw [Hn.out]; exact Hz.out), Hn.out]
       have y3 := getc hB x3
       have y4 := getc hB x4
       have y4h := Lib.hid y4
       go_wp2
       clear y3 y4 y4h hlt hcr
       go_loopw [7, 8, 9, 128] (fun lf _ _ i wr' => ∃ (j : Nat) (left : Int), j ≤ m ∧ i = .int .i64 j ∧ lf = .int .i64 left ∧ 0 ≤ left ∧ left ≤ 8 ∧ Hid (left = (k : Int) - placesOf (h.rows.take j)) ∧ Below W.heap.size W wr' ∧ Hid (∀ i, i < j → rowE k h.rows i = 0)) (fun _ _ _ i _ => m - (intOf i).toNat)
       case atStart => exact ⟨0, (k : Int), Nat.zero_le _, rfl, rfl, by omega, by omega, by simp [Hid, placesOf], hB, fun j h => by omega⟩
       case round =>
        clear hB
        obtain ⟨j, left, hj, rfl, rfl, hl0, hl8, Hl, hB, Hz2⟩ := hrel
        have hcr := hc.keep (Keeps.below hB)
        by_cases hlt : j < m
        ·obtain ⟨b, off, a, z, y, rfl, hbb, hc0, hc1, hc2, Hx⟩ := RowTs.get hcr.rs hlt
         have HE : Hid (rowE k h.rows j = _) := rowE_back Hx.out
         have HL : Hid (∀ e, e ≠ 0 → rowE k h.rows j = e → check8 h = (3, (j : Int), e)) := fun e he hh => by rw [D.out, firstErr_some (by rw [Hm.out]; exact hlt) Hz2.out (by rw [hh]; exact he), hh]
         have hji : (j : Int) < m := by omega
         cases ho1 : outB 0 200000 a
         ·go_wp2_with fail
          refine (out1_any _ (by exact newc rfl (by simp)) ho1).mono ?_
          rintro e w1 ⟨rfl, hb1⟩
          have hF : Blk w1 wr.heap.size 64 #[.int .i64 a, .int .i64 z, .int .i64 y] := ((Blk.new _ _ _ rfl).alloc _).bl hb1
          have hB1 : Below W.heap.size W w1 := bl_call (bl_alloc (bl_alloc hB _ (Nat.le_refl _)) _ (Nat.le_refl _)) hb1 (Nat.le_refl _)
          have f1 := hF.cell 1
          clear hb1 hc0 hc1 hc2 hbb hcr hB
          cases ho2 : outB 0 160 z
          ·go_wp2_with fail
           refine (out1_any _ (by exact newc rfl rfl) ho2).mono ?_
           rintro e w2 ⟨rfl, hb2⟩
           have hb2' : Below w1.heap.size w1 w2 := bl_call (bl_alloc (Below.refl _ _) _ (Nat.le_refl _)) hb2 (Nat.le_refl _)
           have hB2 : Below W.heap.size W w2 := bl_call hB1 hb2' (Nat.le_refl _)
           have hF2 := hF.bl hb2'
           have y3 := getc hB2 x3
           have f2 := hF2.cell 2
           clear hb2 hb2' f1 hF hB1
           cases ho3 : outB 1 (k : Int) y
           ·have hy1 : 1 ≤ y ∧ y ≤ k := by unfold outB at ho3; simp at ho3; omega
            have HE2 : Hid (rowE k h.rows j = if (k : Int) < placesOf (h.rows.take j) + y then 3 else 0) := by rw [Hid, HE.out, ho1, ho2, ho3]; rfl
            have hwl : IntKind.i64.wrap (left - y) = left - y := by rw [IntKind.wrap_i64]; omega
            clear ho1 ho2
            go_wp2_with fail
            refine (out1_any _ (by exact newc rfl rfl) ho3).mono ?_
            rintro e w3 ⟨rfl, hb3⟩
            have hb3' : Below w2.heap.size w2 w3 := bl_call (bl_alloc (Below.refl _ _) _ (Nat.le_refl _)) hb3 (Nat.le_refl _)
            have hB3 : Below W.heap.size W w3 := bl_call hB2 hb3' (Nat.le_refl _)
            have hF3 := hF2.bl hb3'
            have f2 := hF3.cell 2
            clear hb3 hb3' y3 ho3 hF2 hB2
            by_cases hneg : left - y < 0
            ·have HC := Lib.hid (HL.out 3 (by decide) (by rw [HE2.out, if_pos (by have := Hl.out; omega)]))
             go_wp2
             go_ret3
             exact ⟨by rw [HC.out]; rfl, hBW.trans (hB3.mono hWs)⟩
            have hzz : Hid (rowE k h.rows j = 0) := by rw [Hid, HE2.out, if_neg (by have := Hl.out; omega)]
            go_wp2
            go_roundw
            case rel => exact ⟨j + 1, left - y, by omega, by go_num, rfl, by omega, by omega, by rw [Hid, places_snoc Hx.out, Hl.out]; omega, hB3, upto_succ Hz2.out hzz.out⟩
            case measure => simp [intOf]; omega
           have HC := Lib.hid (HL.out 7 (by decide) (by rw [HE.out, ho1, ho2, ho3]; rfl))
           clear ho1 ho2
           go_wp2_with fail
           refine (out1_any _ (by exact newc rfl rfl) ho3).mono ?_
           rintro e w3 ⟨rfl, hb3⟩
           have hB3 : Below W.heap.size W w3 := bl_call (bl_alloc hB2 _ (Nat.le_refl _)) hb3 (Nat.le_refl _)
           clear ho3 hb3 y3 f2
           go_wp2
           go_ret3
           exact ⟨by rw [HC.out]; rfl, hBW.trans (hB3.mono hWs)⟩
          have HC := Lib.hid (HL.out 7 (by decide) (by rw [HE.out, ho1, ho2]; rfl))
          clear ho1
          go_wp2_with fail
          refine (out1_any _ (by exact newc rfl rfl) ho2).mono ?_
          rintro e w2 ⟨rfl, hb2⟩
          have hB2 : Below W.heap.size W w2 := bl_call (bl_alloc hB1 _ (Nat.le_refl _)) hb2 (Nat.le_refl _)
          clear ho2 hb2 f1
          go_wp2
          go_ret3
          exact ⟨by rw [HC.out]; rfl, hBW.trans (hB2.mono hWs)⟩
         have HC := Lib.hid (HL.out 7 (by decide) (by rw [HE.out, ho1]; rfl))
         go_wp2_with fail
         refine (out1_any _ (by exact newc rfl (by simp)) ho1).mono ?_
         rintro e w1 ⟨rfl, hb1⟩
         have hB1 : Below W.heap.size W w1 := bl_call (bl_alloc (bl_alloc hB _ (Nat.le_refl _)) _ (Nat.le_refl _)) hb1 (Nat.le_refl _)
         clear ho1 hb1 hc0 hc1 hc2 hbb hcr
         go_wp2
         go_ret3
         exact ⟨by rw [HC.out]; rfl, hBW.trans (hB1.mono hWs)⟩
        obtain rfl : j = m := by omega
        have HC : Hid (check8 h = (0, 0, 0)) := by rw [Hid, D.out, firstErr_none (by rw [Hm.out]; exact Hz2.out)]
        go_wp2
        go_ret3
        exact ⟨by rw [HC.out]; rfl, hBW.trans (hB.mono hWs)⟩
     have HC := Lib.hid (C3.out o1 o2 o3 (.inr o5))
     clear C1 C2 C3 C4
     go_enter Tryz.func106, Tryz.ntmps106
     go_wp2_with fail
     rw [HW.out]
     refine (out2_any _ (by exact newc rfl HWs.out) (by exact newc rfl HWs.out) o1).mono ?_
     rintro e W1 ⟨rfl, b1⟩
     have B1 : Below W.heap.size W W1 := bl_call (bl_alloc (Below.refl _ _) _ (Nat.le_refl _)) b1 (Nat.le_refl _)
     have y2 := getc B1 x2
     clear b1 o1
     go_wp2_with fail
     clear y2
     refine (out1_any _ (by exact newc rfl rfl) o2).mono ?_
     rintro e W2 ⟨rfl, b2⟩
     have B2 : Below W.heap.size W W2 := bl_call (bl_alloc B1 _ (Nat.le_refl _)) b2 (Nat.le_refl _)
     have y0 := getc B2 x0
     have y1 := getc B2 x1
     clear b2 o2 B1
     go_wp2_with fail
     clear y0 y1
     refine (out1_any _ (by exact newc rfl rfl) o3).mono ?_
     rintro e W3 ⟨rfl, b3⟩
     have B3 : Below W.heap.size W W3 := bl_call (bl_alloc B2 _ (Nat.le_refl _)) b3 (Nat.le_refl _)
     have y3 := getc B3 x3
     clear b3 o3 B2
     go_wp2_with fail
     clear y3
     refine (out1_any _ (by exact newc rfl rfl) o4).mono ?_
     rintro e W4 ⟨rfl, b4⟩
     have B4 : Below W.heap.size W W4 := bl_call (bl_alloc B3 _ (Nat.le_refl _)) b4 (Nat.le_refl _)
     have y4 := getc B4 x4
     clear b4 o4 B3
     go_wp2_with fail
     clear y4
     refine (out1_any _ (by exact newc rfl rfl) o5).mono ?_
     rintro e W5 ⟨rfl, b5⟩
     have B5 : Below W.heap.size W W5 := bl_call (bl_alloc B4 _ (Nat.le_refl _)) b5 (Nat.le_refl _)
     clear b5 o5 B4
     go_wp2
     go_ret3
     exact ⟨by rw [HC.out]; rfl, hBW.trans (B5.mono hWs)⟩
    have HC := Lib.hid (C3.out o1 o2 o3 (.inl o4))
    clear C1 C2 C3 C4
    go_enter Tryz.func106, Tryz.ntmps106
    go_wp2_with fail
    rw [HW.out]
    refine (out2_any _ (by exact newc rfl HWs.out) (by exact newc rfl HWs.out) o1).mono ?_
    rintro e W1 ⟨rfl, b1⟩
    have B1 : Below W.heap.size W W1 := bl_call (bl_alloc (Below.refl _ _) _ (Nat.le_refl _)) b1 (Nat.le_refl _)
    have y2 := getc B1 x2
    clear b1 o1
    go_wp2_with fail
    clear y2
    refine (out1_any _ (by exact newc rfl rfl) o2).mono ?_
    rintro e W2 ⟨rfl, b2⟩
    have B2 : Below W.heap.size W W2 := bl_call (bl_alloc B1 _ (Nat.le_refl _)) b2 (Nat.le_refl _)
    have y0 := getc B2 x0
    have y1 := getc B2 x1
    clear b2 o2 B1
    go_wp2_with fail
    clear y0 y1
    refine (out1_any _ (by exact newc rfl rfl) o3).mono ?_
    rintro e W3 ⟨rfl, b3⟩
    have B3 : Below W.heap.size W W3 := bl_call (bl_alloc B2 _ (Nat.le_refl _)) b3 (Nat.le_refl _)
    have y3 := getc B3 x3
    clear b3 o3 B2
    go_wp2_with fail
    clear y3
    refine (out1_any _ (by exact newc rfl rfl) o4).mono ?_
    rintro e W4 ⟨rfl, b4⟩
    have B4 : Below W.heap.size W W4 := bl_call (bl_alloc B3 _ (Nat.le_refl _)) b4 (Nat.le_refl _)
    clear b4 o4 B3
    go_wp2
    go_ret3
    exact ⟨by rw [HC.out]; rfl, hBW.trans (B4.mono hWs)⟩
   have HC := Lib.hid (C2.out o1 o2 o3)
   clear C1 C2 C3 C4
   go_enter Tryz.func106, Tryz.ntmps106
   go_wp2_with fail
   rw [HW.out]
   refine (out2_any _ (by exact newc rfl HWs.out) (by exact newc rfl HWs.out) o1).mono ?_
   rintro e W1 ⟨rfl, b1⟩
   have B1 : Below W.heap.size W W1 := bl_call (bl_alloc (Below.refl _ _) _ (Nat.le_refl _)) b1 (Nat.le_refl _)
   have y2 := getc B1 x2
   clear b1 o1
   go_wp2_with fail
   clear y2
   refine (out1_any _ (by exact newc rfl rfl) o2).mono ?_
   rintro e W2 ⟨rfl, b2⟩
   have B2 : Below W.heap.size W W2 := bl_call (bl_alloc B1 _ (Nat.le_refl _)) b2 (Nat.le_refl _)
   have y0 := getc B2 x0
   have y1 := getc B2 x1
   clear b2 o2 B1
   go_wp2_with fail
   clear y0 y1
   refine (out1_any _ (by exact newc rfl rfl) o3).mono ?_
   rintro e W3 ⟨rfl, b3⟩
   have B3 : Below W.heap.size W W3 := bl_call (bl_alloc B2 _ (Nat.le_refl _)) b3 (Nat.le_refl _)
   clear b3 o3 B2
   go_wp2
   go_ret3
   exact ⟨by rw [HC.out]; rfl, hBW.trans (B3.mono hWs)⟩
  have HC := Lib.hid (C1.out (.inr o2))
  clear C1 C2 C3 C4
  go_enter Tryz.func106, Tryz.ntmps106
  go_wp2_with fail
  rw [HW.out]
  refine (out2_any _ (by exact newc rfl HWs.out) (by exact newc rfl HWs.out) o1).mono ?_
  rintro e W1 ⟨rfl, b1⟩
  have B1 : Below W.heap.size W W1 := bl_call (bl_alloc (Below.refl _ _) _ (Nat.le_refl _)) b1 (Nat.le_refl _)
  have y2 := getc B1 x2
  clear b1 o1
  go_wp2_with fail
  clear y2
  refine (out1_any _ (by exact newc rfl rfl) o2).mono ?_
  rintro e W2 ⟨rfl, b2⟩
  have B2 : Below W.heap.size W W2 := bl_call (bl_alloc B1 _ (Nat.le_refl _)) b2 (Nat.le_refl _)
  clear b2 o2 B1
  go_wp2
  go_ret3
  exact ⟨by rw [HC.out]; rfl, hBW.trans (B2.mono hWs)⟩
 have HC := Lib.hid (C1.out (.inl o1))
 clear C1 C2 C3 C4
 go_enter Tryz.func106, Tryz.ntmps106
 go_wp2_with fail
 rw [HW.out]
 refine (out2_any _ (by exact newc rfl HWs.out) (by exact newc rfl HWs.out) o1).mono ?_
 rintro e W1 ⟨rfl, b1⟩
 have B1 : Below W.heap.size W W1 := bl_call (bl_alloc (Below.refl _ _) _ (Nat.le_refl _)) b1 (Nat.le_refl _)
 clear b1 o1
 go_wp2
 go_ret3
 exact ⟨by rw [HC.out]; rfl, hBW.trans (B1.mono hWs)⟩
end Go.Proofs.YtdbfincinjoppaaGreat
