/- Walks: the program's CheckSeen. -/
import Derived.Test.YtnaadjhiahjlfaaCTCheck
set_option linter.unusedVariables false
set_option linter.unusedSimpArgs false
set_option linter.all false
namespace Go.Proofs.Ytnaadjhiahjlfaa
open Go.RowKit Go.Shelf

theorem seenE_back {nt : Nat} {l : List Seen} {k : Nat} {a z y u : Int} (h : l[k]? = some ⟨a, z, y, u⟩) : seenE nt l k = if outB 0 ((nt : Int) - 1) a then 4 else if outB 0 40 z || (outB 0 40000 y || outB 0 40000 u) then 7 else if y > u then 2 else 0 := by
  unfold seenE
  rw [getD_of h]
  simp only [outB_inB, Bool.or_assoc]
section
variable {h : Hall} {l : List Seen}
theorem seen8_bad (e : err8 h ≠ 0) : seen8 h l = (0, err8 h) := by rw [seen8, if_pos e]
theorem seen8_long (e : err8 h = 0) (g : 6 < l.length) : seen8 h l = (0, 3) := by rw [seen8, if_neg (by simp [e]), if_pos g]
theorem seen8_n (e : err8 h = 0) (g : ¬ 6 < l.length) : seen8 h l = match firstErr (seenE h.tiles.length l) l.length with
  | some (k, e) => ((k : Int), e)
  | none => (0, 0) := by rw [seen8, if_neg (by simp [e]), if_neg g]; rfl
end

set_option maxHeartbeats 1500000 in
set_option maxRecDepth 100000 in
theorem tseen_any {A B C : Option Addr} {n ca m cb q cc : Nat} {h : Hall} {l : List Seen} {alo ahi most : Int} (w : World) (g : HallAt (fun _ => True) w A n B m h) (gs : Seens (fun _ => True) w C q l) (hca : n ≤ ca) (h1 : h.alo = alo) (h2 : h.ahi = ahi) (h3 : h.most = most) :
    Calls Try.prog 102 #[.agg #[.int .i64 alo, .int .i64 ahi, .int .i64 most, .slice A n ca, .slice B m cb], .slice C q cc] w fun e w' => e = .returned (.tuple #[.int .i64 (seen8 h l).1, .int .i64 (seen8 h l).2]) ∧ Below w.heap.size w w' := by
  have hle := g.ts.le
  have hlq := gs.le
  have Hn := Lib.hid g.ts.len
  have Hq := Lib.hid gs.len
  obtain ⟨W, hW⟩ : ∃ W, w.alloc (.cells #[.int .i64 alo, .int .i64 ahi, .int .i64 most, .slice A n ca, .slice B m cb] 27) = W := ⟨_, rfl⟩
  have X : Blk W w.heap.size 27 #[.int .i64 alo, .int .i64 ahi, .int .i64 most, .slice A n ca, .slice B m cb] := by rw [← hW]; exact Blk.new _ _ _ rfl
  have hc : HallAt (fun _ => True) W A n B m h := by rw [← hW]; exact g.keep (Keeps.alloc _ _)
  have hs : Seens (fun _ => True) W C q l := by rw [← hW]; exact gs.keep SeenR.good (Keeps.alloc _ _)
  have hBW : Below w.heap.size w W := by rw [← hW]; exact bl_alloc (Below.refl _ _) _ (Nat.le_refl _)
  have hWs : w.heap.size ≤ W.heap.size := hBW.size
  have HW := Lib.hid hW
  have HWs : Hid (w.heap.size + 1 = W.heap.size) := by rw [Hid, ← hW]; simp
  have x0 : W.cell? ⟨w.heap.size, 0, none⟩ = some (.int .i64 alo) := X.cell 0
  have x1 : W.cell? ⟨w.heap.size, 1, none⟩ = some (.int .i64 ahi) := X.cell 1
  have x2 : W.cell? ⟨w.heap.size, 2, none⟩ = some (.int .i64 most) := X.cell 2
  have x3 : W.cell? ⟨w.heap.size, 3, none⟩ = some (.slice A n ca) := X.cell 3
  have x4 : W.cell? ⟨w.heap.size, 4, none⟩ = some (.slice B m cb) := X.cell 4
  clear hW g gs X
  go_enter Try.func102, Try.ntmps102
  go_wp2_with fail
  rw [HW.out]
  refine (tcheck_any W hc hca h1 h2 h3).mono ?_
  rintro e W1 ⟨rfl, b1⟩
  have hc1 := hc.keep (Keeps.below b1)
  have hs1 := hs.keep SeenR.good (Keeps.below b1)
  by_cases he : (check8 h).2.2 = 0
  · have heb : ((check8 h).2.2 != 0) = false := by rw [he]; rfl
    have he' : err8 h = 0 := he
    by_cases h6 : 6 < q
    · have HC : Hid (seen8 h l = (0, 3)) := seen8_long he' (by rw [Hq.out]; exact h6)
      have h6i : (q : Int) > 6 := by omega
      clear he he'
      go_wp2
      go_ret2
      exact ⟨by rw [HC.out]; rfl, hBW.trans (b1.mono hWs)⟩
    · have C : Hid (seen8 h l = _) := seen8_n he' (by rw [Hq.out]; exact h6)
      have h6i : ¬ (q : Int) > 6 := by omega
      clear he he'
      go_wp2
      clear h6i
      go_loopw [6, 7, 22] (fun _ _ i wr => ∃ k : Nat, k ≤ q ∧ i = .int .i64 k ∧ Below W.heap.size W wr ∧ Hid (∀ j, j < k → seenE n l j = 0)) (fun _ _ i _ => q - (intOf i).toNat)
      case atStart => exact ⟨0, Nat.zero_le _, rfl, b1, fun j h => by omega⟩
      case round =>
        clear b1 hc1 hs1
        obtain ⟨k, hk, rfl, hB, Hz⟩ := hrel
        have hsr := hs.keep SeenR.good (Keeps.below hB)
        by_cases hlt : k < q
        · obtain ⟨b, off, a, z, y, u, rfl, hbb, hc0, hc1, hc2, hc3, Hx⟩ := Seens.get hsr hlt
          have HE : Hid (seenE n l k = _) := seenE_back Hx.out
          have HL : Hid (∀ e, e ≠ 0 → seenE n l k = e → seen8 h l = ((k : Int), e)) := fun e he hh => by rw [C.out, Hn.out, firstErr_some (by rw [Hq.out]; exact hlt) Hz.out (by rw [hh]; exact he), hh]
          have hki : (k : Int) < q := by omega
          have y3 := getc hB x3
          have hl0 : w.heap.size < wr.heap.size := by have := hB.size; have := HWs.out; omega
          have hwn : IntKind.i64.wrap ((n : Int) - 1) = (n : Int) - 1 := by rw [IntKind.wrap_i64]; omega
          cases ho1 : outB 0 ((n : Int) - 1) a
          · go_wp2_with fail
            refine (out1_any _ (by exact newc rfl (by simp)) ho1).mono ?_
            rintro e w1 ⟨rfl, hb1⟩
            have hF : Blk w1 wr.heap.size 34 #[.int .i64 a, .int .i64 z, .int .i64 y, .int .i64 u] := ((Blk.new _ _ _ rfl).alloc _).bl hb1
            have hB1 : Below W.heap.size W w1 := bl_call (bl_alloc (bl_alloc hB _ (Nat.le_refl _)) _ (Nat.le_refl _)) hb1 (Nat.le_refl _)
            have f1 := hF.cell 1
            clear hb1 hc0 hc1 hc2 hc3 hbb hsr hB y3 hwn
            cases ho2 : outB 0 40 z
            · go_wp2_with fail
              refine (out1_any _ (by exact newc rfl rfl) ho2).mono ?_
              rintro e w2 ⟨rfl, hb2⟩
              have hb2' : Below w1.heap.size w1 w2 := bl_call (bl_alloc (Below.refl _ _) _ (Nat.le_refl _)) hb2 (Nat.le_refl _)
              have hB2 : Below W.heap.size W w2 := bl_call hB1 hb2' (Nat.le_refl _)
              have hF2 := hF.bl hb2'
              have f2 := hF2.cell 2
              have f3 := hF2.cell 3
              clear hb2 hb2' f1 hF hB1
              cases ho3 : (outB 0 40000 y || outB 0 40000 u)
              · have HE2 : Hid (seenE n l k = if y > u then 2 else 0) := by rw [Hid, HE.out, ho1, ho2, ho3]; rfl
                clear ho1 ho2
                go_wp2_with fail
                refine (out2_any _ (by exact newc rfl rfl) (by exact newc rfl rfl) ho3).mono ?_
                rintro e w3 ⟨rfl, hb3⟩
                have hb3' : Below w2.heap.size w2 w3 := bl_call (bl_alloc (Below.refl _ _) _ (Nat.le_refl _)) hb3 (Nat.le_refl _)
                have hB3 : Below W.heap.size W w3 := bl_call hB2 hb3' (Nat.le_refl _)
                have hF3 := hF2.bl hb3'
                have f4 := hF3.cell 2
                have f5 := hF3.cell 3
                clear hb3 hb3' f2 f3 ho3 hF2 hB2
                by_cases hgt : y > u
                · have HC := Lib.hid (HL.out 2 (by decide) (by rw [HE2.out, if_pos hgt]))
                  go_wp2
                  go_ret2
                  exact ⟨by rw [HC.out]; rfl, hBW.trans (hB3.mono hWs)⟩
                · have hzz : Hid (seenE n l k = 0) := by rw [Hid, HE2.out, if_neg hgt]
                  go_wp2
                  go_roundw
                  case rel => exact ⟨k + 1, by omega, by go_num, hB3, upto_succ Hz.out hzz.out⟩
                  case measure => simp [intOf]; omega
              · have HC := Lib.hid (HL.out 7 (by decide) (by rw [HE.out, ho1, ho2, ho3]; rfl))
                clear ho1 ho2
                go_wp2_with fail
                refine (out2_any _ (by exact newc rfl rfl) (by exact newc rfl rfl) ho3).mono ?_
                rintro e w3 ⟨rfl, hb3⟩
                have hB3 : Below W.heap.size W w3 := bl_call (bl_alloc hB2 _ (Nat.le_refl _)) hb3 (Nat.le_refl _)
                clear ho3 hb3 f2 f3
                go_wp2
                go_ret2
                exact ⟨by rw [HC.out]; rfl, hBW.trans (hB3.mono hWs)⟩
            · have HC := Lib.hid (HL.out 7 (by decide) (by rw [HE.out, ho1, ho2]; rfl))
              clear ho1
              go_wp2_with fail
              refine (out1_any _ (by exact newc rfl rfl) ho2).mono ?_
              rintro e w2 ⟨rfl, hb2⟩
              have hB2 : Below W.heap.size W w2 := bl_call (bl_alloc hB1 _ (Nat.le_refl _)) hb2 (Nat.le_refl _)
              clear ho2 hb2 f1
              go_wp2
              go_ret2
              exact ⟨by rw [HC.out]; rfl, hBW.trans (hB2.mono hWs)⟩
          · have HC := Lib.hid (HL.out 4 (by decide) (by rw [HE.out, ho1]; rfl))
            go_wp2_with fail
            refine (out1_any _ (by exact newc rfl (by simp)) ho1).mono ?_
            rintro e w1 ⟨rfl, hb1⟩
            have hB1 : Below W.heap.size W w1 := bl_call (bl_alloc (bl_alloc hB _ (Nat.le_refl _)) _ (Nat.le_refl _)) hb1 (Nat.le_refl _)
            clear ho1 hb1 hc0 hc1 hc2 hc3 hbb hsr y3
            go_wp2
            go_ret2
            exact ⟨by rw [HC.out]; rfl, hBW.trans (hB1.mono hWs)⟩
        · obtain rfl : k = q := by omega
          have HC : Hid (seen8 h l = (0, 0)) := by rw [Hid, C.out, firstErr_none (by rw [Hq.out, Hn.out]; exact Hz.out)]
          go_wp2
          go_ret2
          exact ⟨by rw [HC.out]; rfl, hBW.trans (hB.mono hWs)⟩
  · have HC : Hid (seen8 h l = (0, (check8 h).2.2)) := seen8_bad he
    have heb : ((check8 h).2.2 != 0) = true := by simpa using he
    clear he
    go_wp2
    go_ret2
    exact ⟨by rw [HC.out]; rfl, hBW.trans (b1.mono hWs)⟩

end Go.Proofs.Ytnaadjhiahjlfaa
