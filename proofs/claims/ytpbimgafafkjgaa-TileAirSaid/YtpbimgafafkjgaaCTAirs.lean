/- Walks: the program's Airs. -/
import Derived.Test.YtpbimgafafkjgaaCTAnsw
set_option linter.unusedVariables false
set_option linter.unusedSimpArgs false
set_option linter.all false
namespace Go.Proofs.Ytpbimgafafkjgaa
open Go.RowKit Go.Shelf

theorem airsR_bad {h : Hall} {l : List Seen} {row : Int} {tl : List Int} (e : asked8 h l row tl ≠ 0) : airsR h l row tl = ((0, 0), asked8 h l row tl) := by rw [airsR, if_pos e]
theorem airsR_ok {h : Hall} {l : List Seen} {r : Nat} {tl : List Int} (e : asked8 h l r tl = 0) : airsR h l r tl = match airsUpto h l r tl 41 with
  | none => ((0, 0), 8)
  | some g => (g, 0) := by rw [airsR, if_neg (by simp [e])]; rfl
theorem airs_no {h : Hall} {l : List Seen} {r j : Nat} {tl : List Int} (e : wrong8 h.most (at8 h l r tl j) ≠ 0) : airsUpto h l r tl (j + 1) = airsUpto h l r tl j := by rw [airsUpto, if_pos e]
theorem airs_first {h : Hall} {l : List Seen} {r j : Nat} {tl : List Int} (e : wrong8 h.most (at8 h l r tl j) = 0) (hn : airsUpto h l r tl j = none) : airsUpto h l r tl (j + 1) = some ((j : Int), (j : Int)) := by rw [airsUpto, if_neg (by simp [e]), hn]
theorem airs_next {h : Hall} {l : List Seen} {r j : Nat} {tl : List Int} {x y : Int} (e : wrong8 h.most (at8 h l r tl j) = 0) (hn : airsUpto h l r tl j = some (x, y)) : airsUpto h l r tl (j + 1) = some (x, (j : Int)) := by rw [airsUpto, if_neg (by simp [e]), hn]
theorem HBox.write {w w' : World} {gh : Nat} {A : Option Addr} {n ca : Nat} {B : Option Addr} {m cb : Nat} {C : Option Addr} {q cc : Nat} {h : Hall} {l : List Seen} (g : HBox w gh A n ca B m cb C q cc h l) {g8 : Nat} {t : TypeId} {x y : Value} (hY : Blk w g8 t #[x, y]) (hK : Kept (fun k => k = g8) w w') (hh : HallAt (fun _ => True) w' A n B m h) : HBox w' gh A n ca B m cb C q cc h l := by
  obtain ⟨⟨gm, gr, gc, h1, h2, h3, h4⟩, h5⟩ := g
  refine ⟨⟨gm, gr, gc, (hK.block _ h1.lt (fun e => ?_)).trans h1, (hK.block _ h2.lt (fun e => ?_)).trans h2, hK.cell h3 (fun e => ?_), h4.at (hK.block _ h4.lt (fun e => ?_))⟩, hh⟩
  · subst e
    have := h1.symm.trans hY
    injection this with this
    injection this with this
    have := congrArg Array.size this
    simp at this
  · subst e
    have := h2.symm.trans hY
    injection this with this
    injection this with this
    have := congrArg Array.size this
    simp at this
  · dsimp only at e
    subst e
    have := hY.cell 2
    rw [h3] at this
    simp at this
  · subst e
    have := Eq.trans h4.symm hY
    injection this with this
    cases this

set_option maxRecDepth 100000 in
set_option maxHeartbeats 1000000 in
theorem tairs_any {S : Foot} {A B C T : Option Addr} {n ca m cb q cc k c : Nat} {h : Hall} {l : List Seen} {alo ahi most : Int} {tl : List Int} (row : Int) (w : World) (g : HallAt (fun _ => True) w A n B m h) (gs : Seens (fun _ => True) w C q l) (ht : Ints S w T k tl) (hca : n ≤ ca) (h1 : h.alo = alo) (h2 : h.ahi = ahi) (h3 : h.most = most) :
    Calls Try.prog 26 #[.agg #[.int .i64 alo, .int .i64 ahi, .int .i64 most, .slice A n ca, .slice B m cb], .slice C q cc, .int .i64 row, .slice T k c] w fun e w' =>
      e = .returned (.tuple #[.agg #[.int .i64 (airsR h l row tl).1.1, .int .i64 (airsR h l row tl).1.2], .int .i64 (airsR h l row tl).2]) ∧ Below w.heap.size w w' := by
  obtain ⟨W, hW⟩ : ∃ W, (w.alloc (.cells #[.int .i64 alo, .int .i64 ahi, .int .i64 most, .slice A n ca, .slice B m cb] 27)).alloc (.cells #[.int .i64 0, .int .i64 0] 23) = W := ⟨_, rfl⟩
  have X8 : Blk W (w.heap.size + 1) 23 #[.int .i64 0, .int .i64 0] := by rw [← hW]; exact Blk.new _ _ _ (by simp)
  have hBW : Below w.heap.size w W := by rw [← hW]; exact bl_alloc (bl_alloc (Below.refl _ _) _ (Nat.le_refl _)) _ (Nat.le_refl _)
  have hc : HallAt (fun _ => True) W A n B m h := g.keep (Keeps.below hBW)
  have hs : Seens (fun _ => True) W C q l := gs.keep SeenR.good (Keeps.below hBW)
  have htW : Ints S W T k tl := ht.keep IntR.good (Keeps.below hBW)
  have hWs : w.heap.size ≤ W.heap.size := hBW.size
  have HW := Lib.hid hW
  have HGB := Lib.hid g.bound
  have Hn := Lib.hid hc.ts.len
  have Hm := Lib.hid hc.rs.len
  have Hk := Lib.hid ht.len
  clear hW g gs
  go_enter Try.func26, Try.ntmps26
  go_wp2_with fail
  rw [HW.out]
  refine (topen_any row W hc hs htW hca h1 h2 h3).mono ?_
  rintro e W1 ⟨b1, p, rfl, hbx⟩
  have B1 : Below w.heap.size w W1 := hBW.trans (b1.mono hWs)
  have Y1 := X8.bl b1
  clear X8
  by_cases he : asked8 h l row tl = 0
  · obtain ⟨gh, rfl, hbox⟩ := hbx he
    obtain ⟨r, ha⟩ := asked_ok he Hn.out Hm.out
    have hrow := ha.row
    subst hrow
    have HR := Lib.hid (airsR_ok he)
    have htW1 := htW.keep IntR.good (Keeps.below b1)
    have HA := Lib.hid ha
    rw [he]
    have HBOX := Lib.hid hbox
    obtain ⟨g8, hg8⟩ : ∃ g8, w.heap.size + 1 = g8 := ⟨_, rfl⟩
    rw [hg8] at Y1 ⊢
    have HY1 := Lib.hid Y1
    have HB1 := Lib.hid B1
    have hyl := Y1.lt
    have hg8w : w.heap.size ≤ g8 := by omega
    clear he hbx ha hbox htW1 B1 Y1 hg8
    go_wp2_with fail
    go_loopw [11, 12, 25] (fun u11 _ i' wr => ∃ (j : Nat) (b : Bool) (x0 x1 : Int), i' = .int .i64 j ∧ j ≤ 41 ∧ u11 = .bool b ∧ Hid (Kept (fun x => x = g8) W1 wr) ∧ Hid (Blk wr g8 23 #[.int .i64 x0, .int .i64 x1]) ∧ Hid (airsUpto h l r tl j = if b then some (x0, x1) else none) ∧ Hid (b = false → x0 = 0 ∧ x1 = 0)) (fun _ _ i' _ => 41 - (intOf i').toNat)
    case atStart => exact ⟨0, false, 0, 0, rfl, by omega, rfl, Kept.refl _ _, HY1.out, rfl, fun _ => ⟨rfl, rfl⟩⟩
    case round =>
      obtain ⟨j, b, x0, x1, rfl, hj, rfl, HK, HB, HU, HZ⟩ := hrel
      have hKw : Keeps (fun x => True ∧ x < w.heap.size) w wr := (Keeps.below HB1.out).trans (HK.out.keeps (fun x hx e => by omega))
      have hhr : HallAt (fun _ => True) wr A n B m h := (HGB.out.keep hKw).mono (fun _ _ => trivial)
      have htr : Ints (fun x => S x ∧ x < w.heap.size) wr T k tl := (ht.bound IntR.good).keep IntR.good ⟨hKw.size, fun x hx hl => hKw.block x ⟨trivial, hx.2⟩ hl⟩
      have hbr := HBOX.out.write HY1.out HK.out hhr
      have hBw : Below w.heap.size w wr := HB1.out.trans (HK.out.below (B := w.heap.size) HB1.out.size (fun x hx => by omega))
      by_cases hlt : j < 41
      · have hji : (j : Int) < 41 := by omega
        go_wp2_with fail
        refine (at_any wr hbr HA.out.ok HA.out.ag HA.out.lt htr (by rw [← Hk.out]; exact HA.out.k8) HA.out.tl (by omega)).mono ?_
        rintro e W2 ⟨rfl, b2⟩
        have hwhy := why_any (at8 h l r tl j).1 (at8 h l r tl j).2 W2 (hbr.keep b2)
        go_wp2_with fail
        refine hwhy.mono ?_
        rintro e W3 ⟨rfl, b3⟩
        have b23 : Below wr.heap.size wr W3 := bl_call b2 b3 (Nat.le_refl _)
        obtain ⟨v, hv⟩ : ∃ v, wrong8 h.most (at8 h l r tl j) = v := ⟨_, rfl⟩
        have HK3 : Hid (Kept (fun x => x = g8) W1 W3) := HK.out.trans (Kept.of_bl b23)
        have hB3 := HB.out.bl b23
        have HB3 := Lib.hid hB3
        have q0 := hB3.cell 0
        have q1 := hB3.cell 1
        have fq0 := hB3.frozen 0
        have fq1 := hB3.frozen 1
        have hgl := hB3.lt
        rw [show wrong8 h.most ((at8 h l r tl j).1, (at8 h l r tl j).2) = v from hv]
        have HV := Lib.hid hv
        clear hwhy hv b2 b3 b23 hbr htr hhr hKw hB3 hBw
        by_cases hz : v = 0
        · have hzb : (v != 0) = false := by rw [hz]; rfl
          cases b
          · have HN : Hid (airsUpto h l r tl (j + 1) = some ((j : Int), (j : Int))) := airs_first (by rw [HV.out, hz]) (by rw [HU.out]; rfl)
            clear hz
            go_wp2_with fail
            go_roundw
            case rel => exact ⟨j + 1, true, (j : Int), (j : Int), by go_num, by omega, rfl, (HK3.out.trans (Kept.setCell _ _ _ rfl)).trans (Kept.setCell _ _ _ rfl), (HB3.out.set_ 1 _).set_ 0 _, HN, fun h => by cases h⟩
            case measure => simp [intOf]; omega
          · have HN : Hid (airsUpto h l r tl (j + 1) = some (x0, (j : Int))) := airs_next (y := x1) (by rw [HV.out, hz]) (by rw [HU.out]; rfl)
            clear hz
            go_wp2_with fail
            go_roundw
            case rel => exact ⟨j + 1, true, x0, (j : Int), by go_num, by omega, rfl, HK3.out.trans (Kept.setCell _ _ _ rfl), HB3.out.set_ 1 _, HN, fun h => by cases h⟩
            case measure => simp [intOf]; omega
        · have hzb : (v != 0) = true := by simpa using hz
          have HN : Hid (airsUpto h l r tl (j + 1) = airsUpto h l r tl j) := airs_no (by rw [HV.out]; exact hz)
          clear hz
          go_wp2_with fail
          go_roundw
          case rel => exact ⟨j + 1, b, x0, x1, by go_num, by omega, rfl, HK3.out, HB3.out, HN.out.trans HU.out, HZ.out⟩
          case measure => simp [intOf]; omega
      · obtain rfl : j = 41 := by omega
        have q0 := HB.out.cell 0
        have q1 := HB.out.cell 1
        have fq0 := HB.out.frozen 0
        have fq1 := HB.out.frozen 1
        have hgl := HB.out.lt
        have HBW := Lib.hid hBw
        clear hbr htr hhr hKw hBw
        cases b
        · obtain ⟨rfl, rfl⟩ := HZ.out rfl
          have HRR : Hid (airsR h l r tl = ((0, 0), 8)) := by rw [Hid, HR.out, HU.out]; rfl
          go_wp2_with fail
          exact bodyPost_ret (ret_span rfl rfl rfl (HB.out.set2 _ _).c0 (HB.out.set2 _ _).c1) rfl ⟨by rw [HRR.out], bl_set (bl_set HBW.out (by dsimp only; omega) _) (by dsimp only; omega) _⟩
        · have HRR : Hid (airsR h l r tl = ((x0, x1), 0)) := by rw [Hid, HR.out, HU.out]; rfl
          go_wp2_with fail
          exact bodyPost_ret (ret_span rfl rfl rfl (HB.out.set2 _ _).c0 (HB.out.set2 _ _).c1) rfl ⟨by rw [HRR.out], bl_set (bl_set HBW.out (by dsimp only; omega) _) (by dsimp only; omega) _⟩
  · have HR := Lib.hid (airsR_bad he)
    have heb : (asked8 h l row tl != 0) = true := by simpa using he
    have y0 := Y1.cell 0
    have y1 := Y1.cell 1
    have fy0 := Y1.frozen 0
    have fy1 := Y1.frozen 1
    have hyl := Y1.lt
    clear he hbx
    go_wp2_with fail
    exact bodyPost_ret (ret_span rfl rfl rfl (Y1.set2 _ _).c0 (Y1.set2 _ _).c1) rfl ⟨by rw [HR.out], bl_set (bl_set B1 (by dsimp only; omega) _) (by dsimp only; omega) _⟩

end Go.Proofs.Ytpbimgafafkjgaa
