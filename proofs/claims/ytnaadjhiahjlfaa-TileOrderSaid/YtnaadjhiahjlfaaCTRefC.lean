/- Walks: the reference's CheckSeen. -/
import Derived.Test.YtnaadjhiahjlfaaCTRefB
import Derived.Test.YtnaadjhiahjlfaaCTSeen
set_option linter.unusedVariables false
set_option linter.unusedSimpArgs false
set_option linter.all false
namespace Go.Proofs.Ytnaadjhiahjlfaa
open Go.RowKit

theorem seenE_ref {nt : Nat} {l : List Seen} {k : Nat} {a z y u : Int} (h : l[k]? = some ⟨a, z, y, u⟩) : seenE nt l k = if inB a 0 ((nt : Int) - 1) = false then 4 else if inB z 0 40 = false then 7 else rangeE ⟨y, u⟩ 0 40000 := by
  unfold seenE rangeE
  rw [getD_of h]
  dsimp only
  cases inB a 0 ((nt : Int) - 1) <;> cases inB z 0 40 <;> simp

set_option maxHeartbeats 1500000 in
set_option maxRecDepth 100000 in
theorem rseen_any {A B C : Option Addr} {n ca m cb q cc : Nat} {h : Hall} {l : List Seen} {alo ahi most : Int} (w : World) (g : HallAt (fun _ => True) w A n B m h) (gs : Seens (fun _ => True) w C q l) (h1 : h.alo = alo) (h2 : h.ahi = ahi) (h3 : h.most = most) :
    Calls Try.prog 58 #[.agg #[.int .i64 alo, .int .i64 ahi, .int .i64 most, .slice A n ca, .slice B m cb], .slice C q cc] w fun e w' => e = .returned (.tuple #[.int .i64 (seen8 h l).1, .int .i64 (seen8 h l).2]) ∧ Below w.heap.size w w' := by
  have hle := g.ts.le
  have hlq := gs.le
  have Hn := Lib.hid g.ts.len
  have Hq := Lib.hid gs.len
  obtain ⟨W, hW⟩ : ∃ W, w.alloc (.cells #[.int .i64 alo, .int .i64 ahi, .int .i64 most, .slice A n ca, .slice B m cb] 27) = W := ⟨_, rfl⟩
  have X : Blk W w.heap.size 27 #[.int .i64 alo, .int .i64 ahi, .int .i64 most, .slice A n ca, .slice B m cb] := by rw [← hW]; exact Blk.new _ _ _ rfl
  have hc : HallAt (fun _ => True) W A n B m h := by rw [← hW]; exact g.keep (Keeps.alloc _ _)
  have hs : Seens (fun _ => True) W C q l := by rw [← hW]; exact gs.keep SeenR.good (Keeps.alloc _ _)
  have hBW : Below w.heap.size w W := by rw [← hW]; exact bl_alloc (Below.refl _ _) _ (Nat.le_refl _)
  have hWs : w.heap.size ≤ W.heap.size := hBW.size
  have HW := Lib.hid hW
  have x0 : W.cell? ⟨w.heap.size, 0, none⟩ = some (.int .i64 alo) := X.cell 0
  have x1 : W.cell? ⟨w.heap.size, 1, none⟩ = some (.int .i64 ahi) := X.cell 1
  have x2 : W.cell? ⟨w.heap.size, 2, none⟩ = some (.int .i64 most) := X.cell 2
  have x3 : W.cell? ⟨w.heap.size, 3, none⟩ = some (.slice A n ca) := X.cell 3
  have x4 : W.cell? ⟨w.heap.size, 4, none⟩ = some (.slice B m cb) := X.cell 4
  clear hW g gs X
  go_enter Try.func58, Try.ntmps58
  go_wp2_with fail
  rw [HW.out]
  refine (rcheck_any W hc h1 h2 h3).mono ?_
  rintro e W1 ⟨rfl, b1⟩
  by_cases he : (check8 h).2.2 = 0
  · have heb : ((check8 h).2.2 == 0) = true := by rw [he]; rfl
    have heb2 : ((check8 h).2.2 != 0) = false := by rw [he]; rfl
    have he' : err8 h = 0 := he
    by_cases h6 : 6 < q
    · have HC : Hid (seen8 h l = (0, 3)) := seen8_long he' (by rw [Hq.out]; exact h6)
      have h6i : (q : Int) > 6 := by omega
      clear he he'
      go_wp2
      go_ret2
      exact ⟨by rw [HC.out]; rfl, hBW.trans (b1.mono hWs)⟩
    · have C : Hid (seen8 h l = _) := seen8_n he' (by rw [Hq.out]; exact h6)
      have h6i : ¬ (q : Int) > 6 := by omega
      clear he he'
      go_wp2
      clear h6i heb heb2
      go_loopw [8, 9] (fun _ i wr => ∃ k : Nat, k ≤ q ∧ i = .int .i64 k ∧ Below W.heap.size W wr ∧ Hid (∀ j, j < k → seenE n l j = 0)) (fun _ i _ => q - (intOf i).toNat)
      case atStart => exact ⟨0, Nat.zero_le _, rfl, b1, fun j h => by omega⟩
      case round =>
        clear b1
        obtain ⟨k, hk, rfl, hB, Hz⟩ := hrel
        have hsr := hs.keep SeenR.good (Keeps.below hB)
        by_cases hlt : k < q
        · obtain ⟨b, off, a, z, y, u, rfl, hbb, hc0, hc1, hc2, hc3, Hx⟩ := Seens.get hsr hlt
          have HE : Hid (seenE n l k = _) := seenE_ref Hx.out
          have HL : Hid (∀ e, e ≠ 0 → seenE n l k = e → seen8 h l = ((k : Int), e)) := fun e he hh => by rw [C.out, Hn.out, firstErr_some (by rw [Hq.out]; exact hlt) Hz.out (by rw [hh]; exact he), hh]
          have hki : (k : Int) < q := by omega
          have y3 := getc hB x3
          have hl0 : w.heap.size < wr.heap.size := by have := hB.size; have := (World.block_lt_of_cell? W _ x3); dsimp only at this; omega
          have hwn : IntKind.i64.wrap ((n : Int) - 1) = (n : Int) - 1 := by rw [IntKind.wrap_i64]; omega
          cases ho1 : inB a 0 ((n : Int) - 1)
          · have HC := Lib.hid (HL.out 4 (by decide) (by rw [HE.out, if_pos ho1]))
            go_wp2
            go_quiet ((go_at_call 93; with_reducible refine Calls.quiet_of_same (n := _) ((in8_any _ _ _ _).mono fun _ _ h => ⟨h.1, h.2.symm⟩)))
            go_wp2
            go_ret2
            exact ⟨by rw [HC.out]; rfl, hBW.trans ((bl_drewN hB _).mono hWs)⟩
          · cases ho2 : inB z 0 40
            · have HC := Lib.hid (HL.out 7 (by decide) (by rw [HE.out, if_neg (by rw [ho1]; decide), if_pos ho2]))
              go_wp2
              go_quiet ((go_at_call 93; with_reducible refine Calls.quiet_of_same (n := _) ((in8_any _ _ _ _).mono fun _ _ h => ⟨h.1, h.2.symm⟩)))
              go_wp2_with (go_at_call 93; refine (in8_any _ _ _ _).mono ?_; rintro e w' ⟨rfl, rfl⟩)
              go_ret2
              exact ⟨by rw [HC.out]; rfl, hBW.trans ((bl_drewN hB _).mono hWs)⟩
            · have HE2 : Hid (seenE n l k = rangeE ⟨y, u⟩ 0 40000) := by rw [Hid, HE.out, if_neg (by rw [ho1]; decide), if_neg (by rw [ho2]; decide)]
              go_wp2
              go_quiet ((go_at_call 93; with_reducible refine Calls.quiet_of_same (n := _) ((in8_any _ _ _ _).mono fun _ _ h => ⟨h.1, h.2.symm⟩)))
              go_wp2_with (go_at_call 93; refine (in8_any _ _ _ _).mono ?_; rintro e w' ⟨rfl, rfl⟩)
              refine (range_any _ _ _ _ _).mono ?_
              rintro e w1 ⟨rfl, hb1⟩
              have hB1 : Below W.heap.size W w1 := bl_call (bl_drewN hB _) hb1 (Nat.le_refl _)
              clear hb1 hc0 hc1 hc2 hc3 y3 hsr hB
              generalize rangeE ⟨y, u⟩ 0 40000 = r at HE2
              by_cases hr : r = 0
              · have hrb : (r != 0) = false := by rw [hr]; rfl
                have HR := Lib.hid hr
                clear hr
                go_wp2
                go_roundw
                case rel => exact ⟨k + 1, by omega, by go_num, hB1, upto_succ Hz.out (HE2.out.trans HR.out)⟩
                case measure => simp [intOf]; omega
              · have hrb : (r != 0) = true := by simpa using hr
                have HC := Lib.hid (HL.out r hr HE2.out)
                clear hr
                go_wp2
                go_ret2
                exact ⟨by rw [HC.out]; rfl, hBW.trans (hB1.mono hWs)⟩
        · obtain rfl : k = q := by omega
          have HC : Hid (seen8 h l = (0, 0)) := by rw [Hid, C.out, firstErr_none (by rw [Hq.out]; exact fun j hj => by rw [Hn.out]; exact Hz.out j hj)]
          go_wp2
          go_ret2
          exact ⟨by rw [HC.out]; rfl, hBW.trans (hB.mono hWs)⟩
  · have heb : ((check8 h).2.2 == 0) = false := by simpa using he
    have heb2 : ((check8 h).2.2 != 0) = true := by simpa using he
    have HC : Hid (seen8 h l = (0, (check8 h).2.2)) := seen8_bad he
    clear he
    go_wp2
    go_ret2
    exact ⟨by rw [HC.out]; rfl, hBW.trans (b1.mono hWs)⟩

end Go.Proofs.Ytnaadjhiahjlfaa
