/- Walks: the reference's Wrong, Gap. -/
import Derived.Test.YtpbimgafafkjgaaCTAnsws
import Derived.Test.YtpbimgafafkjgaaCTRefsI
set_option linter.unusedVariables false
set_option linter.unusedSimpArgs false
set_option linter.all false
namespace Go.Proofs.Ytpbimgafafkjgaa
open Go.RowKit

theorem asked_cx {h : Hall} {l : List Seen} {row : Int} {tl : List Int} (e : asked8 h l row tl = 0) : OkH h ∧ l.length ≤ 6 ∧ (∀ (k : Nat) (y : Seen), l[k]? = some y → 0 ≤ y.air ∧ y.air ≤ 40) ∧ agree8 h l = true ∧ (∃ r : Nat, row = r ∧ r < h.rows.length) ∧ tl.length ≤ 8 ∧ ∀ i ∈ tl, 0 ≤ i ∧ i < h.tiles.length := by
  obtain ⟨h1, ⟨h2, h3⟩, h4, h5⟩ := asked_zero e
  obtain ⟨h6, h7, h8⟩ := seen_air h1
  obtain ⟨r, rfl⟩ := Int.eq_ofNat_of_zero_le h2
  have hr : r < h.rows.length := by omega
  obtain ⟨t1, t2, _⟩ := tilesE_zero h4
  refine ⟨h6, h7, h8, h5, ⟨r, rfl, hr⟩, ?_, t2⟩
  have hx : h.rows[r]? = some ⟨(h.rows[r]).frame, (h.rows[r]).swell, (h.rows[r]).places⟩ := List.getElem?_eq_getElem hr
  have := rowE_zero hx (h6.row hr)
  have h9 := h6.nt
  rw [Int.toNat_natCast, getD_of hx] at t1
  dsimp only at t1
  omega

set_option maxHeartbeats 1000000 in
theorem wrong_any {v1 v2 v4 v5 : Value} (most lo hi : Int) (w : World) (hv1 : v1.oneCell' = true) (hv2 : v2.oneCell' = true) (hv4 : v4.oneCell' = true) (hv5 : v5.oneCell' = true) :
    Calls Try.prog 65 #[.agg #[v1, v2, .int .i64 most, v4, v5], .agg #[.int .i64 lo, .int .i64 hi]] w fun e w' => e = .returned (.int .i64 (wrong8 most (lo, hi))) ∧ Below w.heap.size w w' := by
  have hB := bl_alloc (bl_alloc (Below.refl w.heap.size w) (.cells #[v1, v2, .int .i64 most, v4, v5] 27) (Nat.le_refl _)) (.cells #[.int .i64 lo, .int .i64 hi] 23) (Nat.le_refl _)
  by_cases h1 : lo < 0
  · have HR : Hid (wrong8 most (lo, hi) = 1) := by rw [Hid, wrong8, if_pos h1]
    go_enter Try.func65, Try.ntmps65
    go_wp2
    go_ret
    exact ⟨ret_int HR.out.symm, hB⟩
  · by_cases h2 : hi > most
    · have HR : Hid (wrong8 most (lo, hi) = 2) := by rw [Hid, wrong8, if_neg h1, if_pos h2]
      go_enter Try.func65, Try.ntmps65
      go_wp2
      go_ret
      exact ⟨ret_int HR.out.symm, hB⟩
    · have HR : Hid (wrong8 most (lo, hi) = 0) := by rw [Hid, wrong8, if_neg h1, if_neg h2]
      go_enter Try.func65, Try.ntmps65
      go_wp2
      go_ret
      exact ⟨ret_int HR.out.symm, hB⟩

set_option maxRecDepth 100000 in
set_option maxHeartbeats 2000000 in
theorem rgap_any {S : Foot} {A B C T : Option Addr} {n ca m cb q cc k c : Nat} {h : Hall} {l : List Seen} {alo ahi most : Int} {tl : List Int} (row : Int) (w : World) (g : HallAt (fun _ => True) w A n B m h) (gs : Seens (fun _ => True) w C q l) (ht : Ints S w T k tl) (h1 : h.alo = alo) (h2 : h.ahi = ahi) (h3 : h.most = most) :
    Calls Try.prog 23 #[.agg #[.int .i64 alo, .int .i64 ahi, .int .i64 most, .slice A n ca, .slice B m cb], .slice C q cc, .int .i64 row, .slice T k c] w fun e w' =>
      e = .returned (.tuple #[.agg #[.int .i64 (gapR h l row tl).1.1, .int .i64 (gapR h l row tl).1.2], .int .i64 (gapR h l row tl).2]) ∧ Below w.heap.size w w' := by
  have Hn := Lib.hid g.ts.len
  have Hm := Lib.hid g.rs.len
  have Hk := Lib.hid ht.len
  obtain ⟨W, hW⟩ : ∃ W, (w.alloc (.cells #[.int .i64 alo, .int .i64 ahi, .int .i64 most, .slice A n ca, .slice B m cb] 27)).alloc (.cells #[.int .i64 0, .int .i64 0] 23) = W := ⟨_, rfl⟩
  have X : Blk W w.heap.size 27 #[.int .i64 alo, .int .i64 ahi, .int .i64 most, .slice A n ca, .slice B m cb] := by rw [← hW]; exact (Blk.new _ _ _ rfl).alloc _
  have X8 : Blk W (w.heap.size + 1) 23 #[.int .i64 0, .int .i64 0] := by rw [← hW]; exact Blk.new _ _ _ (by simp)
  have hBW : Below w.heap.size w W := by rw [← hW]; exact bl_alloc (bl_alloc (Below.refl _ _) _ (Nat.le_refl _)) _ (Nat.le_refl _)
  have x0 : W.cell? ⟨w.heap.size, 0, none⟩ = some (.int .i64 alo) := X.cell 0
  have x1 : W.cell? ⟨w.heap.size, 1, none⟩ = some (.int .i64 ahi) := X.cell 1
  have x2 : W.cell? ⟨w.heap.size, 2, none⟩ = some (.int .i64 most) := X.cell 2
  have x3 : W.cell? ⟨w.heap.size, 3, none⟩ = some (.slice A n ca) := X.cell 3
  have x4 : W.cell? ⟨w.heap.size, 4, none⟩ = some (.slice B m cb) := X.cell 4
  go_enter Try.func23, Try.ntmps23
  go_wp2_with fail
  refine (rasked_any row W (g.keep (Keeps.below hBW)) (gs.keep SeenR.good (Keeps.below hBW)) (ht.keep IntR.good (Keeps.below hBW)) h1 h2 h3).mono ?_
  rintro e W1 ⟨rfl, b1⟩
  have B1 : Below w.heap.size w W1 := bl_call hBW b1 (Nat.le_refl _)
  have Y1 := X8.bl b1
  have y0 := Y1.cell 0
  have y1 := Y1.cell 1
  have fy0 := Y1.frozen 0
  have fy1 := Y1.frozen 1
  have hyl := Y1.lt
  clear hW X8 X
  by_cases he : asked8 h l row tl = 0
  · obtain ⟨hok, hq6, hsn, hag, ⟨r, rfl, hrl⟩, hk8, hT⟩ := asked_cx he
    have z0 := getc b1 x0
    have z1 := getc b1 x1
    have z2 := getc b1 x2
    have z3 := getc b1 x3
    have z4 := getc b1 x4
    have HR : Hid (gapR h l r tl = (gap8 h l r tl, 0)) := by rw [Hid, gapR, if_neg (by simp [he])]; rfl
    have hcall := rall_any (ca := ca) (cb := cb) (cc := cc) (c := c) (v3 := .int .i64 most) W1 (g.keep (Keeps.below B1)) (gs.keep SeenR.good (Keeps.below B1)) h1 h2 rfl hok hq6 hsn hag (by rw [← Hm.out]; exact hrl) (ht.keep IntR.good (Keeps.below B1)) (by rw [← Hk.out]; exact hk8) (by rw [← Hn.out]; exact hT)
    rw [he]
    clear he x0 x1 x2 x3 x4 g gs ht hok hsn hag hT
    go_wp2_with fail
    refine hcall.mono ?_
    rintro e W2 ⟨rfl, b2⟩
    have B2 : Below w.heap.size w W2 := bl_call B1 b2 (Nat.le_refl _)
    have Y2 := Y1.bl b2
    clear y0 y1 fy0 fy1 hyl z0 z1 z2 z3 z4 hcall
    have y0 := Y2.cell 0
    have y1 := Y2.cell 1
    have fy0 := Y2.frozen 0
    have fy1 := Y2.frozen 1
    have hyl := Y2.lt
    go_wp2_with fail
    exact bodyPost_ret (ret_span rfl rfl rfl (Y2.set2 _ _).c0 (Y2.set2 _ _).c1) rfl ⟨by rw [HR.out], bl_set (bl_set B2 (by dsimp only; omega) _) (by dsimp only; omega) _⟩
  · have heb : (asked8 h l row tl != 0) = true := by simpa using he
    have HR : Hid (gapR h l row tl = ((0, 0), asked8 h l row tl)) := by rw [Hid, gapR, if_pos he]
    clear he x0 x1 x2 x3 x4 g gs ht
    go_wp2_with fail
    exact bodyPost_ret (ret_span rfl rfl rfl (Y1.set2 _ _).c0 (Y1.set2 _ _).c1) rfl ⟨by rw [HR.out], bl_set (bl_set B1 (by dsimp only; omega) _) (by dsimp only; omega) _⟩

end Go.Proofs.Ytpbimgafafkjgaa

namespace Go.Proofs.Ytpbimgafafkjgaa
open Go.RowKit

theorem why_found {h : Hall} {l : List Seen} {row : Int} {tl : List Int} {r d n : Nat} {alo : Int} (h1 : h.alo = alo) (h2 : h.ahi = alo + d) (e : asked8 h l row tl = 0) (hr : row.toNat = r) (hn : n ≤ d) (hz : ∀ j, j < n → wrong8 h.most (at8 h l r tl (alo + j)) = 0) (hf : wrong8 h.most (at8 h l r tl (alo + n)) ≠ 0) :
    whyR h l row tl = (wrong8 h.most (at8 h l r tl (alo + n)), alo + n, 0) := by
  rw [whyR, if_neg (by simp [e]), whyUpto, hr, h1, h2, show (alo + (d : Int) - alo + 1).toNat = d + 1 by omega, firstErr_some (k := n) (by omega) hz hf]
theorem why_none {h : Hall} {l : List Seen} {row : Int} {tl : List Int} {r d : Nat} {alo : Int} (h1 : h.alo = alo) (h2 : h.ahi = alo + d) (e : asked8 h l row tl = 0) (hr : row.toNat = r) (hz : ∀ j, j < d + 1 → wrong8 h.most (at8 h l r tl (alo + j)) = 0) : whyR h l row tl = (0, 0, 0) := by
  rw [whyR, if_neg (by simp [e]), whyUpto, hr, h1, h2, show (alo + (d : Int) - alo + 1).toNat = d + 1 by omega, firstErr_none hz]

set_option maxRecDepth 100000 in
set_option maxHeartbeats 2000000 in
theorem rwhy_any {S : Foot} {A B C T : Option Addr} {n ca m cb q cc k c : Nat} {h : Hall} {l : List Seen} {alo ahi most : Int} {tl : List Int} (row : Int) (w : World) (g : HallAt (fun _ => True) w A n B m h) (gs : Seens (fun _ => True) w C q l) (ht : Ints S w T k tl) (h1 : h.alo = alo) (h2 : h.ahi = ahi) (h3 : h.most = most) :
    Calls Try.prog 25 #[.agg #[.int .i64 alo, .int .i64 ahi, .int .i64 most, .slice A n ca, .slice B m cb], .slice C q cc, .int .i64 row, .slice T k c] w fun e w' =>
      e = .returned (.tuple #[.int .i64 (whyR h l row tl).1, .int .i64 (whyR h l row tl).2.1, .int .i64 (whyR h l row tl).2.2]) ∧ Below w.heap.size w w' := by
  have Hn := Lib.hid g.ts.len
  have Hm := Lib.hid g.rs.len
  have Hk := Lib.hid ht.len
  obtain ⟨W, hW⟩ : ∃ W, w.alloc (.cells #[.int .i64 alo, .int .i64 ahi, .int .i64 most, .slice A n ca, .slice B m cb] 27) = W := ⟨_, rfl⟩
  have X : Blk W w.heap.size 27 #[.int .i64 alo, .int .i64 ahi, .int .i64 most, .slice A n ca, .slice B m cb] := by rw [← hW]; exact Blk.new _ _ _ rfl
  have hBW : Below w.heap.size w W := by rw [← hW]; exact bl_alloc (Below.refl _ _) _ (Nat.le_refl _)
  have x0 : W.cell? ⟨w.heap.size, 0, none⟩ = some (.int .i64 alo) := X.cell 0
  have x1 : W.cell? ⟨w.heap.size, 1, none⟩ = some (.int .i64 ahi) := X.cell 1
  have x2 : W.cell? ⟨w.heap.size, 2, none⟩ = some (.int .i64 most) := X.cell 2
  have x3 : W.cell? ⟨w.heap.size, 3, none⟩ = some (.slice A n ca) := X.cell 3
  have x4 : W.cell? ⟨w.heap.size, 4, none⟩ = some (.slice B m cb) := X.cell 4
  go_enter Try.func25, Try.ntmps25
  go_wp2_with fail
  refine (rasked_any row W (g.keep (Keeps.below hBW)) (gs.keep SeenR.good (Keeps.below hBW)) (ht.keep IntR.good (Keeps.below hBW)) h1 h2 h3).mono ?_
  rintro e W1 ⟨rfl, b1⟩
  have B1 : Below w.heap.size w W1 := bl_call hBW b1 (Nat.le_refl _)
  have HX := Lib.hid (X.bl b1)
  clear hW X x0 x1 x2 x3 x4
  by_cases he : asked8 h l row tl = 0
  · obtain ⟨hok, hq6, hsn, hag, ⟨r, rfl, hrl⟩, hk8, hT⟩ := asked_cx he
    obtain ⟨ha1, ha2, ha3, ha4⟩ := hok.air
    rw [h1, h2] at ha2
    rw [h1] at ha1 ha3
    rw [h2] at ha3 ha4
    obtain ⟨an, rfl⟩ := Int.eq_ofNat_of_zero_le ha1
    obtain ⟨d, hd⟩ : ∃ d : Nat, ahi = an + d := ⟨(ahi - an).toNat, by omega⟩
    subst hd
    have HAT : Hid (∀ (W : World) (a : Nat), Below w.heap.size w W → a ≤ 40 → Calls Try.prog 66 #[.agg #[.int .i64 an, .int .i64 (an + d), .int .i64 most, .slice A n ca, .slice B m cb], .slice C q cc, .int .i64 r, .slice T k c, .int .i64 a] W fun e w' => e = .returned (.agg #[.int .i64 (at8 h l r tl a).1, .int .i64 (at8 h l r tl a).2]) ∧ Below W.heap.size W w') := fun W a hb ha =>
      rat_any W (g.keep (Keeps.below hb)) (gs.keep SeenR.good (Keeps.below hb)) rfl rfl rfl hok hq6 hsn hag (by rw [← Hm.out]; exact hrl) (ht.keep IntR.good (Keeps.below hb)) (by rw [← Hk.out]; exact hk8) (by rw [← Hn.out]; exact hT) ha
    have HF : Hid (∀ n : Nat, n ≤ d → (∀ j : Nat, j < n → wrong8 most (at8 h l r tl (an + j)) = 0) → wrong8 most (at8 h l r tl (an + n)) ≠ 0 → whyR h l r tl = (wrong8 most (at8 h l r tl (an + n)), (an : Int) + n, 0)) := fun n hn hz hf => by
      rw [← h3] at hz hf ⊢
      exact why_found h1 h2 he rfl hn hz hf
    have HN : Hid ((∀ j : Nat, j < d + 1 → wrong8 most (at8 h l r tl (an + j)) = 0) → whyR h l r tl = (0, 0, 0)) := fun hz => by
      rw [← h3] at hz
      exact why_none h1 h2 he rfl hz
    have y0 := HX.out.cell 0
    rw [he]
    clear he g gs ht hok hsn hag hT ha1 ha2 h1 h2 h3
    go_wp2_with fail
    clear y0
    go_loopw [12] (fun i wr => ∃ j : Nat, i = .int .i64 (an + j) ∧ j ≤ d + 1 ∧ Hid (Below W1.heap.size W1 wr) ∧ Hid (∀ i : Nat, i < j → wrong8 most (at8 h l r tl (an + i)) = 0)) (fun i _ => (an + d + 1 - (intOf i).toNat))
    case atStart => exact ⟨0, by simp, by omega, Below.refl _ _, fun j h => by omega⟩
    case round =>
      obtain ⟨j, rfl, hj, HB, Hz⟩ := hrel
      have hR := HX.out.bl HB.out
      have y1 := hR.cell 1
      have hBr : Below w.heap.size w wr := bl_call B1 HB.out (Nat.le_refl _)
      by_cases hlt : j ≤ d
      · have hle : (an : Int) + j ≤ an + d := by omega
        have hcall : Hid (∀ W, Below w.heap.size w W → _) := fun W hb => HAT.out W (an + j) hb (by omega)
        rw [Int.natCast_add] at hcall
        obtain ⟨p, hp⟩ : ∃ p, at8 h l r tl ((an : Int) + j) = p := ⟨_, rfl⟩
        obtain ⟨p0, p1⟩ := p
        obtain ⟨wr8, hwr8⟩ : ∃ x, wrong8 most (p0, p1) = x := ⟨_, rfl⟩
        have HFj : Hid (wr8 ≠ 0 → whyR h l r tl = (wr8, (an : Int) + j, 0)) := fun hne => by
          rw [← hwr8, ← hp]; exact HF.out j hlt Hz.out (by rw [hp, hwr8]; exact hne)
        have HZj : Hid (wrong8 most (at8 h l r tl (an + j)) = wr8) := by rw [Hid, hp, hwr8]
        rw [hp] at hcall
        have HWR : Hid (∀ W, Calls Try.prog 65 #[.agg #[.int .i64 an, .int .i64 (an + d), .int .i64 most, .slice A n ca, .slice B m cb], .agg #[.int .i64 p0, .int .i64 p1]] W fun e w' => e = .returned (.int .i64 wr8) ∧ Below W.heap.size W w') := fun W => by
          have := wrong_any (v1 := .int .i64 an) (v2 := .int .i64 (an + d)) (v4 := .slice A n ca) (v5 := .slice B m cb) most p0 p1 W rfl rfl rfl rfl
          rw [hwr8] at this
          exact this
        have HRX := Lib.hid hR
        have HBr := Lib.hid hBr
        clear hp hwr8 hR hBr
        go_wp2_with fail
        refine wp_region_list (fun W => Below wr.heap.size wr W) (fun w w' => Below w.heap.size w w')
          [isV (.agg #[.int .i64 an, .int .i64 (an + d), .int .i64 most, .slice A n ca, .slice B m cb]), isV (.agg #[.int .i64 an, .int .i64 (an + d), .int .i64 most, .slice A n ca, .slice B m cb]), isV (.slice C q cc), isV (.int .i64 r), isV (.slice T k c), isV (.int .i64 (an + j)), isV (.agg #[.int .i64 p0, .int .i64 p1]), isV (.int .i64 wr8)]
          (by kernel_rfl) (by kernel_rfl) (by kernel_rfl) (by simp) (by simp) (Below.refl _ _).drew ?stab ?step ?fin
        case stab => exact StabL.is (StabL.is (StabL.is (StabL.is (StabL.is (StabL.is (StabL.is (StabL.is StabL.nil)))))))
        case step =>
          refine StepsL.is ?_ (StepsL.is ?_ (StepsL.is ?_ (StepsL.is ?_ (StepsL.is ?_ (StepsL.is ?_ (StepsL.is ?_ (StepsL.is ?_ StepsL.nil)))))))
          all_goals
            intro vs W K hC hD hU hK
            simp only [fillA, Act.put, List.setIfInBounds_toArray, List.set_cons_zero, List.set_cons_succ, Nat.zero_add, Nat.reduceAdd] at hK ⊢
            simp [waits, Region.binds] at hD
            try simp only [envOf, List.getD_cons_succ, List.getD_cons_zero, isV] at hD
            try simp only [hD] at hK ⊢
          · have hR := HRX.out.bl hC
            have k0 := hR.cell 0
            have k1 := hR.cell 1
            have k2 := hR.cell 2
            have k3 := hR.cell 3
            have k4 := hR.cell 4
            go_simp; exact hK _ hC (Below.refl _ _)
          · have hR := HRX.out.bl hC
            have k0 := hR.cell 0
            have k1 := hR.cell 1
            have k2 := hR.cell 2
            have k3 := hR.cell 3
            have k4 := hR.cell 4
            go_simp; exact hK _ hC (Below.refl _ _)
          · go_simp; exact hK _ hC (Below.refl _ _)
          · go_simp; exact hK _ hC (Below.refl _ _)
          · go_simp; exact hK _ hC (Below.refl _ _)
          · go_simp; exact hK _ hC (Below.refl _ _)
          · go_simp
            refine (hcall.out W (bl_call HBr.out hC (Nat.le_refl _))).mono ?_
            rintro e w' ⟨rfl, hb⟩
            exact hK _ (bl_call hC hb (Nat.le_refl _)) hb
          · go_simp
            refine (HWR.out W).mono ?_
            rintro e w' ⟨rfl, hb⟩
            exact hK _ (bl_call hC hb (Nat.le_refl _)) hb
        case fin =>
          intro vs W hC hE hU
          have e4 := hE 7 (by simp)
          simp only [envOf, List.getD_cons_succ, List.getD_cons_zero, isV] at e4
          simp only [fillA, Act.put, List.setIfInBounds_toArray, List.set_cons_zero, List.set_cons_succ, Nat.zero_add, Nat.reduceAdd, e4]
          simp [Region.wanted, yielded]
          have hBe : Below W1.heap.size W1 W := bl_call HB.out hC (Nat.le_refl _)
          have hwe : IntKind.i64.wrap ((an : Int) + j + 1) = (an : Int) + j + 1 := by rw [IntKind.wrap_i64]; omega
          by_cases h0 : wr8 = 0
          · have h0b : (wr8 != 0) = false := by rw [h0]; rfl
            have Hz2 : Hid (∀ i : Nat, i < j + 1 → wrong8 most (at8 h l r tl (an + i)) = 0) := upto_succ Hz.out (by rw [HZj.out]; exact h0)
            clear e4 hE hU h0
            go_wp2
            go_roundw
            case rel => exact ⟨j + 1, by go_num, by omega, hBe, Hz2⟩
            case measure => simp [intOf]; omega
          · have h0b : (wr8 != 0) = true := by simpa using h0
            have HR := Lib.hid (HFj.out h0)
            clear e4 hE hU h0
            go_wp2
            go_ret3
            exact ⟨by rw [HR.out]; rfl, bl_call B1 hBe (Nat.le_refl _)⟩
      · obtain rfl : j = d + 1 := by omega
        have hle : ¬ (an : Int) + ((d + 1 : Nat) : Int) ≤ an + d := by omega
        have HR := Lib.hid (HN.out Hz.out)
        go_wp2
        go_ret3
        exact ⟨by rw [HR.out]; rfl, hBr⟩
  · have heb : (asked8 h l row tl != 0) = true := by simpa using he
    have HR : Hid (whyR h l row tl = (0, 0, asked8 h l row tl)) := by rw [Hid, whyR, if_pos he]
    clear he g gs ht
    go_wp2
    go_ret3
    exact ⟨by rw [HR.out]; rfl, B1⟩

end Go.Proofs.Ytpbimgafafkjgaa

namespace Go.Proofs.Ytpbimgafafkjgaa
open Go.RowKit

def spanOf : Option (Int × Int) → Int × Int
  | none => (41, -1)
  | some g => g
theorem rairs_bd {h : Hall} {l : List Seen} {r : Nat} {tl : List Int} : ∀ k, ∀ g, airsUpto h l r tl k = some g → 0 ≤ g.1 ∧ g.1 ≤ g.2 ∧ g.2 < k := by
  intro k
  induction k with
  | zero => intro g e; cases e
  | succ k ih =>
    intro g e
    rw [airsUpto] at e
    split at e
    · have := ih g e; omega
    · split at e
      · cases e; simp; omega
      · rename_i lo x hx
        cases e
        have := ih _ hx
        dsimp only at this ⊢
        omega
theorem rairs_no {h : Hall} {l : List Seen} {r : Nat} {tl : List Int} {k : Nat} (e : wrong8 h.most (at8 h l r tl k) ≠ 0) : airsUpto h l r tl (k + 1) = airsUpto h l r tl k := by rw [airsUpto, if_pos e]
theorem rairs_yes {h : Hall} {l : List Seen} {r : Nat} {tl : List Int} {k : Nat} (hk : k ≤ 40) (e : wrong8 h.most (at8 h l r tl k) = 0) : spanOf (airsUpto h l r tl (k + 1)) = (min (spanOf (airsUpto h l r tl k)).1 k, (k : Int)) := by
  rw [airsUpto, if_neg (by simp [e])]
  cases hg : airsUpto h l r tl k with
  | none => simp only [spanOf]; congr 1; omega
  | some g =>
    have := rairs_bd k g hg
    simp only [spanOf]; congr 1; omega
theorem rairs_none {o : Option (Int × Int)} {lo hi : Int} (e : spanOf o = (lo, hi)) (hb : ∀ g, o = some g → 0 ≤ g.1 ∧ g.1 ≤ g.2 ∧ g.2 < 41) : (hi < 0 → o = none) ∧ (¬ hi < 0 → o = some (lo, hi)) := by
  cases o with
  | none => simp only [spanOf, Prod.mk.injEq] at e; exact ⟨fun _ => rfl, fun h => by omega⟩
  | some g =>
    simp only [spanOf] at e
    subst e
    have := hb _ rfl
    dsimp only at this
    exact ⟨fun h => by omega, fun _ => rfl⟩

set_option maxRecDepth 100000 in
set_option maxHeartbeats 2000000 in
theorem rairs_any {S : Foot} {A B C T : Option Addr} {n ca m cb q cc k c : Nat} {h : Hall} {l : List Seen} {alo ahi most : Int} {tl : List Int} (row : Int) (w : World) (g : HallAt (fun _ => True) w A n B m h) (gs : Seens (fun _ => True) w C q l) (ht : Ints S w T k tl) (h1 : h.alo = alo) (h2 : h.ahi = ahi) (h3 : h.most = most) :
    Calls Try.prog 27 #[.agg #[.int .i64 alo, .int .i64 ahi, .int .i64 most, .slice A n ca, .slice B m cb], .slice C q cc, .int .i64 row, .slice T k c] w fun e w' =>
      e = .returned (.tuple #[.agg #[.int .i64 (airsR h l row tl).1.1, .int .i64 (airsR h l row tl).1.2], .int .i64 (airsR h l row tl).2]) ∧ Below w.heap.size w w' := by
  have Hn := Lib.hid g.ts.len
  have Hm := Lib.hid g.rs.len
  have Hk := Lib.hid ht.len
  obtain ⟨W, hW⟩ : ∃ W, (w.alloc (.cells #[.int .i64 alo, .int .i64 ahi, .int .i64 most, .slice A n ca, .slice B m cb] 27)).alloc (.cells #[.int .i64 0, .int .i64 0] 23) = W := ⟨_, rfl⟩
  have X : Blk W w.heap.size 27 #[.int .i64 alo, .int .i64 ahi, .int .i64 most, .slice A n ca, .slice B m cb] := by rw [← hW]; exact (Blk.new _ _ _ rfl).alloc _
  have X8 : Blk W (w.heap.size + 1) 23 #[.int .i64 0, .int .i64 0] := by rw [← hW]; exact Blk.new _ _ _ (by simp)
  have hBW : Below w.heap.size w W := by rw [← hW]; exact bl_alloc (bl_alloc (Below.refl _ _) _ (Nat.le_refl _)) _ (Nat.le_refl _)
  have x0 : W.cell? ⟨w.heap.size, 0, none⟩ = some (.int .i64 alo) := X.cell 0
  have x1 : W.cell? ⟨w.heap.size, 1, none⟩ = some (.int .i64 ahi) := X.cell 1
  have x2 : W.cell? ⟨w.heap.size, 2, none⟩ = some (.int .i64 most) := X.cell 2
  have x3 : W.cell? ⟨w.heap.size, 3, none⟩ = some (.slice A n ca) := X.cell 3
  have x4 : W.cell? ⟨w.heap.size, 4, none⟩ = some (.slice B m cb) := X.cell 4
  go_enter Try.func27, Try.ntmps27
  go_wp2_with fail
  refine (rasked_any row W (g.keep (Keeps.below hBW)) (gs.keep SeenR.good (Keeps.below hBW)) (ht.keep IntR.good (Keeps.below hBW)) h1 h2 h3).mono ?_
  rintro e W1 ⟨rfl, b1⟩
  have B1 : Below w.heap.size w W1 := bl_call hBW b1 (Nat.le_refl _)
  have HX := Lib.hid (X.bl b1)
  have Y1 := X8.bl b1
  clear hW X X8 x0 x1 x2 x3 x4
  by_cases he : asked8 h l row tl = 0
  · obtain ⟨hok, hq6, hsn, hag, ⟨r, rfl, hrl⟩, hk8, hT⟩ := asked_cx he
    have HAT : Hid (∀ (W : World) (a : Nat), Below w.heap.size w W → a ≤ 40 → Calls Try.prog 66 #[.agg #[.int .i64 alo, .int .i64 ahi, .int .i64 most, .slice A n ca, .slice B m cb], .slice C q cc, .int .i64 r, .slice T k c, .int .i64 a] W fun e w' => e = .returned (.agg #[.int .i64 (at8 h l r tl a).1, .int .i64 (at8 h l r tl a).2]) ∧ Below W.heap.size W w') := fun W a hb ha =>
      rat_any W (g.keep (Keeps.below hb)) (gs.keep SeenR.good (Keeps.below hb)) rfl rfl rfl hok hq6 hsn hag (by rw [← Hm.out]; exact hrl) (ht.keep IntR.good (Keeps.below hb)) (by rw [← Hk.out]; exact hk8) (by rw [← Hn.out]; exact hT) ha
    have HR0 : Hid (airsR h l r tl = match airsUpto h l r tl 41 with
      | none => ((0, 0), 8)
      | some g => (g, 0)) := by rw [Hid, airsR, if_neg (by simp [he])]; rfl
    have H3 := Lib.hid h3
    have HY := Lib.hid Y1
    obtain ⟨gg, hgg⟩ : ∃ gg, W1.heap.size = gg := ⟨_, rfl⟩
    obtain ⟨Wl, hWl⟩ : ∃ Wl, W1.alloc (.cells #[.int .i64 41, .int .i64 (-1)] 23) = Wl := ⟨_, rfl⟩
    have RG : Blk Wl gg 23 #[.int .i64 41, .int .i64 (-1)] := by rw [← hWl]; exact Blk.new _ _ _ hgg.symm
    have RE : Blk Wl (w.heap.size + 1) 23 #[.int .i64 0, .int .i64 0] := by rw [← hWl]; exact HY.out.alloc _
    have RX : Blk Wl w.heap.size 27 #[.int .i64 alo, .int .i64 ahi, .int .i64 most, .slice A n ca, .slice B m cb] := by rw [← hWl]; exact HX.out.alloc _
    have HBL : Hid (Below w.heap.size w Wl) := by rw [Hid, ← hWl]; exact bl_alloc B1 _ (Nat.le_refl _)
    have hg8 : w.heap.size + 1 < gg := by rw [← hgg]; exact HY.out.lt
    rw [he]
    clear he g gs ht hok hsn hag hT h1 h2 h3 HX HY Y1 B1
    go_wp2_with fail
    clear hWl hgg
    go_loopw [12] (fun i wr => ∃ (j : Nat) (lo hi : Int), i = .int .i64 j ∧ j ≤ 41 ∧ Hid (spanOf (airsUpto h l r tl j) = (lo, hi)) ∧ Hid (Kept (fun x => gg ≤ x) Wl wr) ∧ Hid (Blk wr gg 23 #[.int .i64 lo, .int .i64 hi])) (fun i _ => 41 - (intOf i).toNat)
    case atStart => exact ⟨0, 41, -1, rfl, by omega, rfl, Kept.refl _ _, RG⟩
    case round =>
      obtain ⟨j, lo, hi, rfl, hj, HA, HK, HB⟩ := hrel
      have hBl : Below w.heap.size w wr := HBL.out.trans (HK.out.below (B := w.heap.size) HBL.out.size (fun x hx => by omega))
      have hR : Blk wr w.heap.size 27 #[.int .i64 alo, .int .i64 ahi, .int .i64 most, .slice A n ca, .slice B m cb] := (HK.out.block _ RX.lt (by omega)).trans RX
      by_cases hlt : j ≤ 40
      · have hle : (j : Int) ≤ 40 := by omega
        have hcall : Hid (∀ W, Below w.heap.size w W → _) := fun W hb => HAT.out W j hb (by omega)
        obtain ⟨p, hp⟩ : ∃ p, at8 h l r tl (j : Int) = p := ⟨_, rfl⟩
        obtain ⟨p0, p1⟩ := p
        obtain ⟨wr8, hwr8⟩ : ∃ x, wrong8 most (p0, p1) = x := ⟨_, rfl⟩
        have HNO : Hid (wr8 ≠ 0 → spanOf (airsUpto h l r tl (j + 1)) = (lo, hi)) := fun hne => by
          rw [rairs_no (by rw [hp, H3.out, hwr8]; exact hne)]; exact HA.out
        have HYES : Hid (wr8 = 0 → spanOf (airsUpto h l r tl (j + 1)) = (min lo j, (j : Int))) := fun h0 => by
          rw [rairs_yes hlt (by rw [hp, H3.out, hwr8]; exact h0), HA.out]
        rw [hp] at hcall
        have HWR : Hid (∀ W, Calls Try.prog 65 #[.agg #[.int .i64 alo, .int .i64 ahi, .int .i64 most, .slice A n ca, .slice B m cb], .agg #[.int .i64 p0, .int .i64 p1]] W fun e w' => e = .returned (.int .i64 wr8) ∧ Below W.heap.size W w') := fun W => by
          have := wrong_any (v1 := .int .i64 alo) (v2 := .int .i64 ahi) (v4 := .slice A n ca) (v5 := .slice B m cb) most p0 p1 W rfl rfl rfl rfl
          rw [hwr8] at this
          exact this
        have HRX := Lib.hid hR
        have HBr := Lib.hid hBl
        clear hp hwr8 hR hBl
        go_wp2_with fail
        refine wp_region_list (fun W => Below wr.heap.size wr W) (fun w w' => Below w.heap.size w w')
          [isV (.agg #[.int .i64 alo, .int .i64 ahi, .int .i64 most, .slice A n ca, .slice B m cb]), isV (.agg #[.int .i64 alo, .int .i64 ahi, .int .i64 most, .slice A n ca, .slice B m cb]), isV (.slice C q cc), isV (.int .i64 r), isV (.slice T k c), isV (.int .i64 j), isV (.agg #[.int .i64 p0, .int .i64 p1]), isV (.int .i64 wr8)]
          (by kernel_rfl) (by kernel_rfl) (by kernel_rfl) (by simp) (by simp) (Below.refl _ _).drew ?stab ?step ?fin
        case stab => exact StabL.is (StabL.is (StabL.is (StabL.is (StabL.is (StabL.is (StabL.is (StabL.is StabL.nil)))))))
        case step =>
          refine StepsL.is ?_ (StepsL.is ?_ (StepsL.is ?_ (StepsL.is ?_ (StepsL.is ?_ (StepsL.is ?_ (StepsL.is ?_ (StepsL.is ?_ StepsL.nil)))))))
          all_goals
            intro vs W K hC hD hU hK
            simp only [fillA, Act.put, List.setIfInBounds_toArray, List.set_cons_zero, List.set_cons_succ, Nat.zero_add, Nat.reduceAdd] at hK ⊢
            simp [waits, Region.binds] at hD
            try simp only [envOf, List.getD_cons_succ, List.getD_cons_zero, isV] at hD
            try simp only [hD] at hK ⊢
          · have hR := HRX.out.bl hC
            have k0 := hR.cell 0
            have k1 := hR.cell 1
            have k2 := hR.cell 2
            have k3 := hR.cell 3
            have k4 := hR.cell 4
            go_simp; exact hK _ hC (Below.refl _ _)
          · have hR := HRX.out.bl hC
            have k0 := hR.cell 0
            have k1 := hR.cell 1
            have k2 := hR.cell 2
            have k3 := hR.cell 3
            have k4 := hR.cell 4
            go_simp; exact hK _ hC (Below.refl _ _)
          · go_simp; exact hK _ hC (Below.refl _ _)
          · go_simp; exact hK _ hC (Below.refl _ _)
          · go_simp; exact hK _ hC (Below.refl _ _)
          · go_simp; exact hK _ hC (Below.refl _ _)
          · go_simp
            refine (hcall.out W (bl_call HBr.out hC (Nat.le_refl _))).mono ?_
            rintro e w' ⟨rfl, hb⟩
            exact hK _ (bl_call hC hb (Nat.le_refl _)) hb
          · go_simp
            refine (HWR.out W).mono ?_
            rintro e w' ⟨rfl, hb⟩
            exact hK _ (bl_call hC hb (Nat.le_refl _)) hb
        case fin =>
          intro vs W hC hE hU
          have e4 := hE 7 (by simp)
          simp only [envOf, List.getD_cons_succ, List.getD_cons_zero, isV] at e4
          simp only [fillA, Act.put, List.setIfInBounds_toArray, List.set_cons_zero, List.set_cons_succ, Nat.zero_add, Nat.reduceAdd, e4]
          simp [Region.wanted, yielded]
          have hVK := Lib.hid (HK.out.trans (Kept.of_bl hC))
          have hV := HB.out.bl hC
          have HV := Lib.hid hV
          have hwe : IntKind.i64.wrap ((j : Int) + 1) = (j : Int) + 1 := by rw [IntKind.wrap_i64]; omega
          by_cases h0 : wr8 = 0
          · have h0b : (wr8 == 0) = true := by rw [h0]; rfl
            have HS := Lib.hid (HYES.out h0)
            have q0 := hV.cell 0
            have q1 := hV.cell 1
            have fq0 := hV.frozen 0
            have fq1 := hV.frozen 1
            have hlv := hV.lt
            clear e4 hE hU hV HK HB
            subst h0
            go_wp2_with fail
            go_roundw
            case rel => exact ⟨j + 1, min lo j, j, by go_num, by omega, HS, (hVK.out.trans (Kept.setCell _ _ _ (by exact Nat.le_refl _))).trans (Kept.setCell _ _ _ (by exact Nat.le_refl _)), HV.out.set2 _ _⟩
            case measure => simp [intOf]; omega
          · have h0b : (wr8 == 0) = false := by simpa using h0
            have HS := Lib.hid (HNO.out h0)
            clear e4 hE hU hV HK HB
            go_wp2
            go_roundw
            case rel => exact ⟨j + 1, lo, hi, by go_num, by omega, HS, hVK, HV⟩
            case measure => simp [intOf]; omega
      · obtain rfl : j = 41 := by omega
        have hr9 : ¬ ((41 : Nat) : Int) ≤ 40 := by omega
        obtain ⟨hn1, hn2⟩ := rairs_none HA.out (fun g e => rairs_bd 41 g e)
        have hR8 : Blk wr (w.heap.size + 1) 23 #[.int .i64 0, .int .i64 0] := (HK.out.block _ RE.lt (by omega)).trans RE
        have q0 := HB.out.cell 0
        have q1 := HB.out.cell 1
        have z0 := hR8.cell 0
        have z1 := hR8.cell 1
        have fz0 := hR8.frozen 0
        have fz1 := hR8.frozen 1
        have hHR := Lib.hid hR8
        clear hR8
        by_cases hneg : hi < 0
        · have HR : Hid (airsR h l r tl = ((0, 0), 8)) := by rw [Hid, HR0.out, hn1 hneg]
          clear hn1 hn2
          go_wp2_with fail
          exact bodyPost_ret (ret_span rfl rfl rfl (hHR.out.set2 _ _).c0 (hHR.out.set2 _ _).c1) rfl ⟨by rw [HR.out], bl_set (bl_set hBl (by dsimp only; omega) _) (by dsimp only; omega) _⟩
        · have HR : Hid (airsR h l r tl = ((lo, hi), 0)) := by rw [Hid, HR0.out, hn2 hneg]
          clear hn1 hn2
          go_wp2_with fail
          exact bodyPost_ret (ret_span rfl rfl rfl (hHR.out.set2 _ _).c0 (hHR.out.set2 _ _).c1) rfl ⟨by rw [HR.out], bl_set (bl_set hBl (by dsimp only; omega) _) (by dsimp only; omega) _⟩
  · have heb : (asked8 h l row tl != 0) = true := by simpa using he
    have HR : Hid (airsR h l row tl = ((0, 0), asked8 h l row tl)) := by rw [Hid, airsR, if_pos he]
    have y0 := Y1.cell 0
    have y1 := Y1.cell 1
    have fy0 := Y1.frozen 0
    have fy1 := Y1.frozen 1
    have hyl := Y1.lt
    clear he g gs ht
    go_wp2_with fail
    exact bodyPost_ret (ret_span rfl rfl rfl (Y1.set2 _ _).c0 (Y1.set2 _ _).c1) rfl ⟨by rw [HR.out], bl_set (bl_set B1 (by dsimp only; omega) _) (by dsimp only; omega) _⟩

end Go.Proofs.Ytpbimgafafkjgaa

namespace Go.Proofs.Ytpbimgafafkjgaa
open Go.RowKit

theorem infoI8 : (Try.prog.info? 3).map (fun i => (i.zero, i.size, i.bytes)) = some (some (.int .i64 0), 1, 8) := by kernel_rfl

set_option maxHeartbeats 1000000 in
theorem rows_any {S T : Foot} {A B : Option Addr} {n c m d : Nat} {xs ys : List (List Int)} (w : World) (h : Rows S w A n xs) (g : Rows T w B m ys) :
    Calls Try.prog 30 #[.slice A n c, .slice B m d] w fun e w' => e = .returned (.bool (decide (xs = ys))) ∧ ∃ q, w' = w.drewN q := by
  have hle := h.le
  have gle := g.le
  have Hlx := Lib.hid h.len
  have Hly := Lib.hid g.len
  by_cases hnm : n = m
  · obtain rfl : n = m := hnm
    have hb : ((n : Int) != (n : Int)) = false := by simp
    go_enter Try.func30, Try.ntmps30
    go_wp2
    go_loopw [5] (fun i wr => ∃ k q : Nat, k ≤ n ∧ i = .int .i64 k ∧ Hid (xs.take k = ys.take k) ∧ wr = w.drewN q) (fun i _ => n - (intOf i).toNat)
    case atStart => exact ⟨0, 0, Nat.zero_le _, rfl, by simp [Hid], rfl⟩
    case round =>
      obtain ⟨k, q, hk, rfl, Hn, rfl⟩ := hrel
      by_cases hlt : k < n
      · have hki : (k : Int) < n := by omega
        obtain ⟨b, off, x, A', n', c', rfl, hcell, hX, Hx⟩ := Rows.get h hlt
        obtain ⟨b', off', y, B', m', d', rfl, hcell', hY, Hy⟩ := Rows.get g hlt
        have HC : Hid (∀ q z0, Calls Try.prog 33 #[.slice A' n' c', .slice B' m' d'] (w.drewN (q + z0)) fun e w' => e = .returned (.bool (decide (x = y))) ∧ ∃ z, w' = w.drewN (q + z)) := fun q z0 =>
          (ints_any (w.drewN (q + z0)) (hX.keep IntR.good (Keeps.drewN _ _)) (hY.keep IntR.good (Keeps.drewN _ _))).mono fun _ _ ⟨h1, z, h2⟩ => ⟨h1, z0 + z, by rw [h2, World.drewN_drewN, Nat.add_assoc]⟩
        obtain ⟨v, hv⟩ : ∃ v, decide (x = y) = v := ⟨_, rfl⟩
        rw [hv] at HC
        cases v
        · have hne : x ≠ y := of_decide_eq_false hv
          have HR : Hid (decide (xs = ys) = false) := by
            rw [Hid, decide_eq_false_iff_not]; rintro rfl
            have h1 := Hx.out; rw [Hy.out] at h1; exact hne (Option.some.inj h1).symm
          clear hv hne hX hY
          go_wp2
          go_quiet ((go_at_call 33; exact HC.out _ _))
          go_wp2
          go_ret
          exact ⟨ret_bool HR.out.symm, _, by rw [World.drewN_drewN]⟩
        · have HE := Lib.hid (of_decide_eq_true hv)
          clear hv hX hY
          go_wp2
          go_quiet ((go_at_call 33; exact HC.out _ _))
          go_wp2
          go_roundw
          case rel => exact ⟨k + 1, q + nq, by omega, by go_num, by rw [Hid, take_snoc_get Hx.out, take_snoc_get Hy.out, Hn.out, HE.out], rfl⟩
          case measure => simp [intOf]; omega
      · go_wp2
        go_ret
        refine ⟨ret_bool ?_, _, rfl⟩
        symm; rw [decide_eq_true_iff]
        have := Hn.out
        rwa [List.take_of_length_le (by rw [Hlx.out]; omega), List.take_of_length_le (by rw [Hly.out]; omega)] at this
  · have hb : ((n : Int) != (m : Int)) = true := by simp; omega
    have HM := Lib.hid hnm
    clear hnm
    go_enter Try.func30, Try.ntmps30
    go_wp2
    go_ret
    exact ⟨ret_bool (by symm; rw [decide_eq_false_iff_not]; rintro rfl; exact HM.out (Hlx.out.symm.trans Hly.out)), 0, rfl⟩

theorem numbers_succ (k : Nat) : numbersL (k + 1) = numbersL k ++ [(k : Int)] := by unfold numbersL; rw [List.range_succ, List.map_append]; rfl
theorem numbers_len (k : Nat) : (numbersL k).length = k := by unfold numbersL; simp
/-- a slice of numbers of the call's own -/
def IsNew (w0 : Nat) (xs : List Int) (e : Ending) (w' : World) : Prop := ∃ (A' : Option Addr) (c : Nat), e = .returned (.slice A' xs.length c) ∧ Ints (fun k => w0 ≤ k) w' A' xs.length xs ∧ xs.length ≤ c
theorem OwnL.cap8 {α : Type} {R : Rd α} {m : Nat} {S : Foot} {w : World} {base : Nat} {e : TypeId} {xs : List α} {A : Option Addr} {n cap : Nat} (h : OwnL R m S w base e (.slice A n cap) xs) : n ≤ cap := by
  obtain ⟨_, cells, ho, _⟩ := h
  rcases ho.2 with ⟨e, h0⟩ | ⟨gb, cap', cur, e, _, _, hc, _⟩
  · injection e with _ e1 e2; omega
  · injection e with _ e1 e2; omega

set_option maxHeartbeats 1000000 in
theorem numbers_any (n : Nat) (w : World) (hn : n ≤ 8) :
    Calls Try.prog 72 #[.int .i64 n] w fun e w' => IsNew w.heap.size (numbersL n) e w' ∧ Below w.heap.size w w' := by
  obtain ⟨i0, hi0, hz0, hz1, hz2⟩ := info_parts infoI8
  go_enter Try.func72, Try.ntmps72
  go_wp2
  go_loopw [3, 4] (fun o i wr => ∃ (k cap : Nat) (An : Option Addr), k ≤ n ∧ i = .int .i64 k ∧ o = .slice An k cap ∧ Below w.heap.size w wr ∧ OwnL IntR 1 (fun _ => False) wr w.heap.size 3 (.slice An k cap) (numbersL k)) (fun _ i _ => n - (intOf i).toNat)
  case atStart => exact ⟨0, 0, none, Nat.zero_le _, rfl, rfl, Below.refl _ _, OwnL.nil _ _ _ _ _ _⟩
  case round =>
    obtain ⟨k, cap, An, hk, rfl, rfl, hB, hO⟩ := hrel
    by_cases hlt : k < n
    · have hki : (k : Int) < n := by omega
      go_wp2_with (at_builtin; refine wpList_append_n _ rfl (.tmp 10) (.tmp 12) _ rfl IntR.good w.heap.size 3 i0 _ 8 Try.underlying39 hi0 hz0 hz1 hz2 rfl (by omega) _ (numbersL k) (k : Int) k (numbers_len k) rfl (hO.alloc IntR.good _) ⟨wr.heap.size, 0, none⟩ 1 [.int .i64 k] rfl rfl (news_new rfl (by simp)) ?c1 ?c2 ?c3 (fun h => h) ?_)
      case c1 => simp only [maxLen]; omega
      case c2 => omega
      case c3 => have := hB.size; simp; omega
      intro A' cap' w2 hown2 hg2 hat2
      have hB2 : Below w.heap.size w w2 := bl_grown (bl_alloc hB _ (Nat.le_refl _)) (hO.alloc IntR.good _) hg2 (Nat.le_refl _) (Nat.le_refl _)
      rw [← numbers_succ] at hown2
      clear hg2 hat2 hO hB
      go_wp2
      go_roundw
      case rel => exact ⟨k + 1, cap', _, by omega, by go_num, rfl, hB2, hown2⟩
      case measure => simp [intOf]; omega
    · obtain rfl : k = n := by omega
      go_wp2
      go_ret
      refine ⟨⟨An, cap, by rw [numbers_len]; rfl, ?_, by rw [numbers_len]; exact hO.cap8⟩, hB⟩
      rw [numbers_len]
      exact hO.slice IntR.good rfl (by simp only [maxLen]; omega) (fun _ h => h.elim) (fun _ h _ => h)

theorem left_succ {of s : List Int} {k : Nat} {x : Int} (h : of[k]? = some x) : leftL (of.take (k + 1)) s = leftL (of.take k) s ++ (if x ∈ s then [] else [x]) := by
  unfold leftL; rw [take_snoc_get h, List.filter_append]
  by_cases hx : x ∈ s <;> simp [hx]

set_option maxHeartbeats 1000000 in
theorem left_any {S T : Foot} {A B : Option Addr} {n c m d : Nat} {xs ys : List Int} (w : World) (h : Ints S w A n xs) (g : Ints T w B m ys) (hn8 : n ≤ 8) :
    Calls Try.prog 76 #[.slice A n c, .slice B m d] w fun e w' => IsNew w.heap.size (leftL xs ys) e w' ∧ Below w.heap.size w w' := by
  obtain ⟨i0, hi0, hz0, hz1, hz2⟩ := info_parts infoI8
  have Hlx := Lib.hid h.len
  go_enter Try.func76, Try.ntmps76
  go_wp2
  go_loopw [5, 6] (fun o i wr => ∃ (k len cap : Nat) (An : Option Addr), k ≤ n ∧ i = .int .i64 k ∧ o = .slice An len cap ∧ len ≤ k ∧ Below w.heap.size w wr ∧ OwnL IntR 1 (fun _ => False) wr w.heap.size 3 (.slice An len cap) (leftL (xs.take k) ys) ∧ Hid ((leftL (xs.take k) ys).length = len)) (fun _ i _ => n - (intOf i).toNat)
  case atStart => exact ⟨0, 0, 0, none, Nat.zero_le _, rfl, rfl, Nat.le_refl _, Below.refl _ _, OwnL.nil _ _ _ _ _ _, rfl⟩
  case round =>
    obtain ⟨k, len, cap, An, hk, rfl, rfl, hlen, hB, hO, Hlen⟩ := hrel
    have gr := g.keep IntR.good (Keeps.below hB)
    by_cases hlt : k < n
    · have hki : (k : Int) < n := by omega
      obtain ⟨b, off, x, rfl, hcell, Hx⟩ := Ints.get (h.keep IntR.good (Keeps.below hB)) hlt
      have HS := Lib.hid (left_succ (s := ys) Hx.out)
      by_cases hm : x ∈ ys
      · have HS2 : Hid (leftL (xs.take (k + 1)) ys = leftL (xs.take k) ys) := by rw [Hid, HS.out, if_pos hm, List.append_nil]
        have hmb : decide (x ∈ ys) = true := decide_eq_true hm
        clear hm
        go_wp2_with (go_at_call 46; refine (has_any x _ gr).mono ?_; rintro e w' ⟨rfl, rfl⟩; rw [hmb])
        go_roundw
        case rel => exact ⟨k + 1, len, cap, An, by omega, by go_num, rfl, by omega, hB, by rw [HS2.out]; exact hO, by rw [Hid, HS2.out]; exact Hlen.out⟩
        case measure => simp [intOf]; omega
      · have HS2 : Hid (leftL (xs.take (k + 1)) ys = leftL (xs.take k) ys ++ [x]) := by rw [Hid, HS.out, if_neg hm]
        have hmb : decide (x ∈ ys) = false := decide_eq_false hm
        clear hm
        go_wp2_with (first
          | (go_at_call 46; refine (has_any x _ gr).mono ?_; rintro e w' ⟨rfl, rfl⟩; rw [hmb])
          | (at_builtin; refine wpList_append_n _ rfl (.tmp 20) (.tmp 25) _ rfl IntR.good w.heap.size 3 i0 _ 8 Try.underlying39 hi0 hz0 hz1 hz2 rfl (by omega) _ (leftL (xs.take k) ys) x len Hlen.out rfl (hO.alloc IntR.good _) ⟨wr.heap.size, 0, none⟩ 1 [.int .i64 x] rfl rfl (news_new rfl (by simp)) ?c1 ?c2 ?c3 (fun h => h) ?_))
        case c1 => simp only [maxLen]; omega
        case c2 => omega
        case c3 => have := hB.size; simp; omega
        intro A' cap' w2 hown2 hg2 hat2
        have hB2 : Below w.heap.size w w2 := bl_grown (bl_alloc hB _ (Nat.le_refl _)) (hO.alloc IntR.good _) hg2 (Nat.le_refl _) (Nat.le_refl _)
        clear hg2 hat2 hO hB gr hcell
        go_wp2
        go_roundw
        case rel => exact ⟨k + 1, len + 1, cap', _, by omega, by go_num, rfl, by omega, hB2, by rw [HS2.out]; exact hown2, by rw [Hid, HS2.out, List.length_append, Hlen.out]; rfl⟩
        case measure => simp [intOf]; omega
    · obtain rfl : k = n := by omega
      have hall : xs.take k = xs := List.take_of_length_le (by rw [Hlx.out]; exact Nat.le_refl _)
      have HA := Lib.hid hall
      rw [hall] at hO Hlen
      clear hall
      go_wp2
      go_ret
      refine ⟨⟨An, cap, by rw [Hlen.out]; rfl, ?_, by rw [Hlen.out]; exact hO.cap8⟩, hB⟩
      rw [Hlen.out]
      exact hO.slice IntR.good rfl (by simp only [maxLen]; omega) (fun _ h => h.elim) (fun _ h _ => h)

end Go.Proofs.Ytpbimgafafkjgaa
