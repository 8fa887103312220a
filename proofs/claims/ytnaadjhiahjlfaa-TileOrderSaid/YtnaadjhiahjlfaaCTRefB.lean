/- Walks: the reference's Check of a hall. -/
import Derived.Test.YtnaadjhiahjlfaaCTRefA
set_option linter.unusedVariables false
set_option linter.unusedSimpArgs false
set_option linter.all false
namespace Go.Proofs.Ytnaadjhiahjlfaa
open Go.RowKit

theorem infoStr : (Try.prog.info? 9).map (fun i => (i.zero, i.size, i.bytes)) = some (some (.string ByteArray.empty), 1, 16) := by kernel_rfl
section
variable {h : Hall}
theorem check8_r7 (g : rangeE ⟨h.alo, h.ahi⟩ 0 40 = 7 ∨ inB h.most 0 20000 = false) : check8 h = (1, 0, 7) := by
  rw [check8, if_pos]
  rcases g with g | g
  · rcases range_7 g with g | g <;> simp [g]
  · simp [g]
theorem range_ok {a z lo hi : Int} (h : rangeE ⟨a, z⟩ lo hi ≠ 7) : (!inB a lo hi || !inB z lo hi) = false := by
  rcases range_cases a z lo hi with g | g | g
  · exact absurd g h
  · have := range_2 g; simp [inB]; omega
  · have := range_0 g; simp [inB]; omega
theorem check8_r2 (g1 : rangeE ⟨h.alo, h.ahi⟩ 0 40 ≠ 7) (g2 : inB h.most 0 20000 = true) (g : rangeE ⟨h.alo, h.ahi⟩ 0 40 = 2 ∨ h.ahi > h.alo + 12) : check8 h = (1, 0, 2) := by
  rw [check8, if_neg (by rw [range_ok g1, g2]; decide), if_pos]
  rcases g with g | g
  · have := range_2 g; simp [inB]; omega
  · simp [inB]; omega
theorem check8_r3 (g1 : rangeE ⟨h.alo, h.ahi⟩ 0 40 = 0) (g2 : inB h.most 0 20000 = true) (g3 : ¬ h.ahi > h.alo + 12) (g : inB (h.tiles.length : Int) 1 8 = false ∨ inB (h.rows.length : Int) 1 3 = false) : check8 h = (1, 0, 3) := by
  have := range_0 g1
  rw [check8, if_neg (by rw [range_ok (by rw [g1]; decide), g2]; decide), if_neg (by simp [inB]; omega), if_pos]
  rcases g with g | g
  · left; simp [inB] at g; omega
  · right; simp [inB] at g; omega
theorem check8_rn (g1 : rangeE ⟨h.alo, h.ahi⟩ 0 40 = 0) (g2 : inB h.most 0 20000 = true) (g3 : ¬ h.ahi > h.alo + 12) (g4 : inB (h.tiles.length : Int) 1 8 = true) (g5 : inB (h.rows.length : Int) 1 3 = true) :
    check8 h = match firstErr (tileE h.tiles) h.tiles.length with
      | some (k, e) => (2, k, e)
      | none => match firstErr (rowE h.tiles.length h.rows) h.rows.length with
        | some (k, e) => (3, k, e)
        | none => (0, 0, 0) := by
  have := range_0 g1
  rw [check8, if_neg (by rw [range_ok (by rw [g1]; decide), g2]; decide), if_neg (by simp [inB]; omega), if_neg (by simp [inB] at g4 g5; omega)]
  rfl
end
theorem rowE_ref {nt : Nat} {l : List RowT} {k : Nat} {a z y : Int} (h : l[k]? = some ⟨a, z, y⟩) : rowE nt l k = if inB a 0 200000 = false ∨ inB z 0 160 = false ∨ inB y 1 nt = false then 7 else if (nt : Int) < placesOf (l.take k) + y then 3 else 0 := by
  unfold rowE
  rw [getD_of h]
  dsimp only
  congr 1
  cases inB a 0 200000 <;> cases inB z 0 160 <;> cases inB y 1 nt <;> simp

set_option maxHeartbeats 4000000 in
set_option maxRecDepth 100000 in
theorem rcheck_any {A B : Option Addr} {n ca m cb : Nat} {h : Hall} {alo ahi most : Int} (w : World) (g : HallAt (fun _ => True) w A n B m h) (h1 : h.alo = alo) (h2 : h.ahi = ahi) (h3 : h.most = most) :
    Calls Try.prog 49 #[.agg #[.int .i64 alo, .int .i64 ahi, .int .i64 most, .slice A n ca, .slice B m cb]] w fun e w' => e = .returned (.tuple #[.int .i64 (check8 h).1, .int .i64 (check8 h).2.1, .int .i64 (check8 h).2.2]) ∧ Below w.heap.size w w' := by
  have hle := g.ts.le
  have hlm := g.rs.le
  have Hn := Lib.hid g.ts.len
  have Hm := Lib.hid g.rs.len
  obtain ⟨i0, hi0, hz0, hz1, hz2⟩ := info_parts infoStr
  obtain ⟨W, hW⟩ : ∃ W, w.alloc (.cells #[.int .i64 alo, .int .i64 ahi, .int .i64 most, .slice A n ca, .slice B m cb] 27) = W := ⟨_, rfl⟩
  have X : Blk W w.heap.size 27 #[.int .i64 alo, .int .i64 ahi, .int .i64 most, .slice A n ca, .slice B m cb] := by rw [← hW]; exact Blk.new _ _ _ rfl
  have hc : HallAt (fun _ => True) W A n B m h := by rw [← hW]; exact g.keep (Keeps.alloc _ _)
  have hBW : Below w.heap.size w W := by rw [← hW]; exact bl_alloc (Below.refl _ _) _ (Nat.le_refl _)
  have hWs : w.heap.size ≤ W.heap.size := hBW.size
  have HW := Lib.hid hW
  have x0 : W.cell? ⟨w.heap.size, 0, none⟩ = some (.int .i64 alo) := X.cell 0
  have x1 : W.cell? ⟨w.heap.size, 1, none⟩ = some (.int .i64 ahi) := X.cell 1
  have x2 : W.cell? ⟨w.heap.size, 2, none⟩ = some (.int .i64 most) := X.cell 2
  have x3 : W.cell? ⟨w.heap.size, 3, none⟩ = some (.slice A n ca) := X.cell 3
  have x4 : W.cell? ⟨w.heap.size, 4, none⟩ = some (.slice B m cb) := X.cell 4
  have X' := Lib.hid X
  clear hW g X
  subst h1 h2 h3
  go_enter Try.func49, Try.ntmps49
  go_wp2_with fail
  rw [HW.out]
  refine (range_any _ _ _ _ _).mono ?_
  rintro e W1 ⟨rfl, b1⟩
  have hc1 := hc.keep (Keeps.below b1)
  have y0 := getc b1 x0
  have y1 := getc b1 x1
  have y2 := getc b1 x2
  have y3 := getc b1 x3
  have y4 := getc b1 x4
  by_cases h7 : rangeE ⟨h.alo, h.ahi⟩ 0 40 = 7 ∨ inB h.most 0 20000 = false
  · have HC := Lib.hid (check8_r7 h7)
    by_cases h8 : rangeE ⟨h.alo, h.ahi⟩ 0 40 = 7
    · rw [h8]
      clear h7 h8
      go_wp2
      go_ret3
      exact ⟨by rw [HC.out]; rfl, hBW.trans (b1.mono hWs)⟩
    · have h9 := h7.resolve_left h8
      have h8b : (rangeE ⟨h.alo, h.ahi⟩ 0 40 == 7) = false := by simpa using h8
      clear h7 h8
      go_wp2_with (go_at_call 93; refine (in8_any _ _ _ _).mono ?_; rintro e w' ⟨rfl, rfl⟩)
      go_ret3
      exact ⟨by rw [HC.out]; rfl, hBW.trans (b1.mono hWs)⟩
  · have h8 : rangeE ⟨h.alo, h.ahi⟩ 0 40 ≠ 7 := fun e => h7 (.inl e)
    have h9 : inB h.most 0 20000 = true := by cases e : inB h.most 0 20000; exact absurd (.inr e) h7; rfl
    clear h7
    rcases (range_cases h.alo h.ahi 0 40).resolve_left h8 with hr | hr
    · have HC := Lib.hid (check8_r2 h8 h9 (.inl hr))
      rw [hr]
      clear h8 hr
      go_wp2_with (go_at_call 93; refine (in8_any _ _ _ _).mono ?_; rintro e w' ⟨rfl, rfl⟩)
      go_ret3
      exact ⟨by rw [HC.out]; rfl, hBW.trans (b1.mono hWs)⟩
    · have hw12 : IntKind.i64.wrap (h.alo + 12) = h.alo + 12 := by have := range_0 hr; rw [IntKind.wrap_i64]; omega
      by_cases h12 : h.ahi > h.alo + 12
      · have HC := Lib.hid (check8_r2 h8 h9 (.inr h12))
        rw [hr]
        clear h8 hr
        go_wp2_with (go_at_call 93; refine (in8_any _ _ _ _).mono ?_; rintro e w' ⟨rfl, rfl⟩)
        go_ret3
        exact ⟨by rw [HC.out]; rfl, hBW.trans (b1.mono hWs)⟩
      · by_cases ho : inB (n : Int) 1 8 = false ∨ inB (m : Int) 1 3 = false
        · have HC := Lib.hid (check8_r3 hr h9 h12 (by rw [Hn.out, Hm.out]; exact ho))
          rw [hr]
          clear h8 hr
          cases o4 : inB (n : Int) 1 8
          · clear ho
            go_wp2_with (go_at_call 93; refine (in8_any _ _ _ _).mono ?_; rintro e w' ⟨rfl, rfl⟩)
            go_ret3
            exact ⟨by rw [HC.out]; rfl, hBW.trans (b1.mono hWs)⟩
          · have o5 := ho.resolve_left (by rw [o4]; decide)
            clear ho
            go_wp2_with (go_at_call 93; refine (in8_any _ _ _ _).mono ?_; rintro e w' ⟨rfl, rfl⟩)
            go_ret3
            exact ⟨by rw [HC.out]; rfl, hBW.trans (b1.mono hWs)⟩
        · have o4 : inB (n : Int) 1 8 = true := by cases e : inB (n : Int) 1 8; exact absurd (.inl e) ho; rfl
          have o5 : inB (m : Int) 1 3 = true := by cases e : inB (m : Int) 1 3; exact absurd (.inr e) ho; rfl
          have C := Lib.hid (check8_rn hr h9 h12 (by rw [Hn.out]; exact o4) (by rw [Hm.out]; exact o5))
          have hn8 : 1 ≤ n ∧ n ≤ 8 := by simp [inB] at o4; omega
          have hm3 : 1 ≤ m ∧ m ≤ 3 := by simp [inB] at o5; omega
          obtain ⟨hn1, hn8⟩ := hn8
          obtain ⟨hm1, hm3⟩ := hm3
          rw [hr]
          clear ho h8 hr
          go_wp2_with (go_at_call 93; refine (in8_any _ _ _ _).mono ?_; rintro e w' ⟨rfl, rfl⟩)
          clear y0 y1 y2 y3 y4 h9 hw12 h12 o4 o5 hc1
          go_loopw [5, 6, 7] (fun _ nm i wr => ∃ (k cap : Nat) (An : Option Addr), k ≤ n ∧ i = .int .i64 k ∧ nm = .slice An k cap ∧ Below W.heap.size W wr ∧ (∃ nms, OwnL StrR 1 (fun _ => False) wr W.heap.size 9 (.slice An k cap) nms ∧ Hid (nms = (h.tiles.take k).map (·.name))) ∧ Hid (∀ j, j < k → tileE h.tiles j = 0)) (fun _ _ i _ => n - (intOf i).toNat)
          case atStart => exact ⟨0, 0, none, Nat.zero_le _, rfl, rfl, b1, ⟨[], OwnL.nil _ _ _ _ _ _, rfl⟩, fun j h => by omega⟩
          case round =>
            clear b1
            obtain ⟨k, cap, An, hk, rfl, rfl, hB, ⟨nms, hO, Hnm⟩, Hz⟩ := hrel
            have hcr := hc.keep (Keeps.below hB)
            have y3 := getc hB x3
            have hkl : nms.length = k := by rw [Hnm.out, List.length_map, List.length_take, Hn.out]; omega
            have Hkl := Lib.hid hkl
            clear hkl
            by_cases hlt : k < n
            · obtain ⟨b, off, s, a, z, y, u, rfl, hbb, hc0, hc1, hc2, hc3, hc4, hs, Hx⟩ := Tiles.get hcr.ts hlt
              have HE : Hid (tileE h.tiles k = tileS s.data.toList a z y u nms) := by rw [Hid, Hnm.out]; exact tileE_ref Hx.out
              have HL : Hid (∀ e, e ≠ 0 → tileE h.tiles k = e → check8 h = (2, (k : Int), e)) := fun e he hh => by rw [C.out, firstErr_some (by rw [Hn.out]; exact hlt) Hz.out (by rw [hh]; exact he), hh]
              have hki : (k : Int) < n := by omega
              have hstr : Strs (fun _ => True) wr An k nms := hO.slice StrR.good rfl (by simp only [maxLen]; omega) (fun _ h => h.elim) (fun _ _ _ => trivial)
              go_wp2_with fail
              refine (rtile_any s a z y u _ hstr hs).mono ?_
              rintro e w1 ⟨rfl, hb1⟩
              generalize hfr : tileS s.data.toList a z y u nms = fr at HE ⊢
              have hB1 : Below W.heap.size W w1 := bl_call hB hb1 (Nat.le_refl _)
              have hO1 := hO.below StrR.good hb1
              have q0 := getc hb1 hc0
              have q3 := getc hb1 y3
              clear hfr hB hO hb1 hc0 hc1 hc2 hc3 hc4 y3 hstr hcr
              by_cases he : fr = 0
              · obtain rfl : fr = 0 := he
                go_wp2_with (at_builtin; refine wpList_append_n _ rfl (.tmp 64) (.tmp 71) _ rfl StrR.good W.heap.size 9 i0 _ 16 Try.underlying127 hi0 hz0 hz1 hz2 rfl (by omega) _ nms s.data.toList k Hkl.out rfl (hO1.alloc StrR.good _) ⟨w1.heap.size, 0, none⟩ 1 [.string s] rfl ⟨s, rfl, rfl, hs⟩ (news_new rfl (by simp)) ?c1 ?c2 ?c3 (fun h => h) ?_)
                case c1 => simp only [maxLen]; omega
                case c2 => omega
                case c3 => have := hB1.size; simp; omega
                intro A' cap' w2 hown2 hg2 hat2
                have hB2 : Below W.heap.size W w2 := bl_grown (bl_alloc hB1 _ (Nat.le_refl _)) (hO1.alloc StrR.good _) hg2 (Nat.le_refl _) (Nat.le_refl _)
                have Hnm2 : Hid (nms ++ [s.data.toList] = (h.tiles.take (k + 1)).map (·.name)) := by rw [Hid, take_snoc_get Hx.out, List.map_append, Hnm.out]; rfl
                clear hg2 hat2 hO1 hB1 q0 q3
                go_wp2
                go_roundw
                case rel => exact ⟨k + 1, _, _, by omega, by go_num, rfl, hB2, ⟨_, hown2, Hnm2⟩, upto_succ Hz.out HE.out⟩
                case measure => simp [intOf]; omega
              · have hbe2 : (fr != 0) = true := by simpa using he
                have HC := Lib.hid (HL.out fr he HE.out)
                clear he
                go_wp2
                go_ret3
                exact ⟨by rw [HC.out]; rfl, hBW.trans (hB1.mono hWs)⟩
            · obtain rfl : k = n := by omega
              have D : Hid (check8 h = match firstErr (rowE k h.rows) h.rows.length with
                | some (k, e) => (3, (k : Int), e)
                | none => (0, 0, 0)) := by rw [Hid, C.out, firstErr_none (by rw [Hn.out]; exact Hz.out), Hn.out]
              go_wp2
              clear y3 hlt hcr hO Hnm Hkl
              go_loopw [8, 9, 10] (fun ps i _ wr' => ∃ (j : Nat) (pl : Int), j ≤ m ∧ i = .int .i64 j ∧ ps = .int .i64 pl ∧ 0 ≤ pl ∧ pl ≤ 8 ∧ Hid (pl = placesOf (h.rows.take j)) ∧ Below W.heap.size W wr' ∧ Hid (∀ i, i < j → rowE k h.rows i = 0)) (fun _ i _ _ => m - (intOf i).toNat)
              case atStart => exact ⟨0, 0, Nat.zero_le _, rfl, rfl, by omega, by omega, by simp [Hid, placesOf], hB, fun j h => by omega⟩
              case round =>
                clear hB
                obtain ⟨j, pl, hj, rfl, rfl, hl0, hl8, Hl, hB, Hz2⟩ := hrel
                have hcr := hc.keep (Keeps.below hB)
                have y3 := getc hB x3
                have y4 := getc hB x4
                by_cases hlt : j < m
                · obtain ⟨b, off, a, z, y, rfl, hbb, hc0, hc1, hc2, Hx⟩ := RowTs.get hcr.rs hlt
                  have HE : Hid (rowE k h.rows j = _) := rowE_ref Hx.out
                  have HL : Hid (∀ e, e ≠ 0 → rowE k h.rows j = e → check8 h = (3, (j : Int), e)) := fun e he hh => by rw [D.out, firstErr_some (by rw [Hm.out]; exact hlt) Hz2.out (by rw [hh]; exact he), hh]
                  have hji : (j : Int) < m := by omega
                  have hl0' : w.heap.size < wr.heap.size := by have := X'.out.lt; have := hB.size; omega
                  have hB1 := bl_alloc hB (.cells #[.int .i64 a, .int .i64 z, .int .i64 y] 36) (Nat.le_refl _)
                  cases ho1 : inB a 0 200000
                  · have HC := Lib.hid (HL.out 7 (by decide) (by rw [HE.out, if_pos (.inl ho1)]))
                    go_wp2_with (go_at_call 93; refine (in8_any _ _ _ _).mono ?_; rintro e w' ⟨rfl, rfl⟩)
                    go_ret3
                    exact ⟨by rw [HC.out]; rfl, hBW.trans (hB1.mono hWs)⟩
                  · cases ho2 : inB z 0 160
                    · have HC := Lib.hid (HL.out 7 (by decide) (by rw [HE.out, if_pos (.inr (.inl ho2))]))
                      go_wp2_with (go_at_call 93; refine (in8_any _ _ _ _).mono ?_; rintro e w' ⟨rfl, rfl⟩)
                      go_ret3
                      exact ⟨by rw [HC.out]; rfl, hBW.trans (hB1.mono hWs)⟩
                    · cases ho3 : inB y 1 (k : Int)
                      · have HC := Lib.hid (HL.out 7 (by decide) (by rw [HE.out, if_pos (.inr (.inr ho3))]))
                        go_wp2_with (go_at_call 93; refine (in8_any _ _ _ _).mono ?_; rintro e w' ⟨rfl, rfl⟩)
                        go_ret3
                        exact ⟨by rw [HC.out]; rfl, hBW.trans (hB1.mono hWs)⟩
                      · have hy1 : 1 ≤ y ∧ y ≤ k := by simp [inB] at ho3; omega
                        have HE2 : Hid (rowE k h.rows j = if (k : Int) < placesOf (h.rows.take j) + y then 3 else 0) := by rw [Hid, HE.out, ho1, ho2, ho3]; rfl
                        have hwl : IntKind.i64.wrap (pl + y) = pl + y := by rw [IntKind.wrap_i64]; omega
                        by_cases hneg : pl + y > (k : Int)
                        · have HC := Lib.hid (HL.out 3 (by decide) (by rw [HE2.out, if_pos (by have := Hl.out; omega)]))
                          go_wp2_with (go_at_call 93; refine (in8_any _ _ _ _).mono ?_; rintro e w' ⟨rfl, rfl⟩)
                          go_ret3
                          exact ⟨by rw [HC.out]; rfl, hBW.trans (hB1.mono hWs)⟩
                        · have hzz : Hid (rowE k h.rows j = 0) := by rw [Hid, HE2.out, if_neg (by have := Hl.out; omega)]
                          go_wp2_with (go_at_call 93; refine (in8_any _ _ _ _).mono ?_; rintro e w' ⟨rfl, rfl⟩)
                          go_roundw
                          case rel => exact ⟨j + 1, pl + y, by omega, by go_num, rfl, by omega, by omega, by rw [Hid, places_snoc Hx.out, Hl.out], hB1, upto_succ Hz2.out hzz.out⟩
                          case measure => simp [intOf]; omega
                · obtain rfl : j = m := by omega
                  have HC : Hid (check8 h = (0, 0, 0)) := by rw [Hid, D.out, firstErr_none (by rw [Hm.out]; exact Hz2.out)]
                  go_wp2
                  go_ret3
                  exact ⟨by rw [HC.out]; rfl, hBW.trans (hB.mono hWs)⟩

end Go.Proofs.Ytnaadjhiahjlfaa
