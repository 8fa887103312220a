/- A part of the proof that TopWorn always answers true. -/
import Derived.Test.YtdbfincinjoppabGreatDoorCBackPure
import Derived.Test.YtdbfincinjoppabGreatDoorCProg16
set_option linter.all false
namespace Go.Proofs.YtdbfincinjoppabGreatDoor
open Go.RowKit Go.Shelf
attribute [local go_sem] Oper.semAt_some
theorem min_again (lo x : Int) : min (min lo x) x = min lo x := by omega
def EndsC (w0 : World) (g : Nat) (lo hi x : Int) (W : World) : Prop := Kept (fun k => k = g) w0 W ∧ ∃ a : Int, (a = lo ∨ a = min lo x) ∧ Blk W g 141 #[.int .i64 a, .int .i64 hi, .bool true]
def EndsLo (g : Nat) (lo hi x : Int) (W : World) : Prop := Blk W g 141 #[.int .i64 (min lo x), .int .i64 hi, .bool true]
def LowV (lo x : Int) (v : Value) (_ : World) : Prop := v = .int .i64 lo ∨ v = .int .i64 (min lo x)
def LowW (g : Nat) (lo hi x : Int) (_ : Value) (W : World) : Prop := EndsLo g lo hi x W
theorem EndsC.drew {w0 : World} {g : Nat} {lo hi x : Int} {W : World} (h : EndsC w0 g lo hi x W) : EndsC w0 g lo hi x { W with drawn := W.drawn + 1 } := by
 obtain ⟨h1, a, h2, h3⟩ := h
 exact ⟨h1.trans (Kept.of_bl (Below.refl _ _).drew), a, h2, h3⟩
theorem EndsC.low {w0 : World} {g : Nat} {lo hi x : Int} {W : World} (h : EndsC w0 g lo hi x W) : EndsC w0 g lo hi x (W.setCell ⟨g, 0, none⟩ (.int .i64 (min lo x))) ∧ EndsLo g lo hi x (W.setCell ⟨g, 0, none⟩ (.int .i64 (min lo x))) := by
 obtain ⟨h1, a, h2, h3⟩ := h
 have h4 := h3.set_ 0 (.int .i64 (min lo x))
 exact ⟨⟨h1.trans (Kept.setCell _ _ _ rfl), _, .inr rfl, h4⟩, h4⟩
set_option maxRecDepth 100000 in
set_option maxHeartbeats 4000000 in
theorem add_any {g : Nat} {lo hi x : Int} {b : Bool} (w : World) (hg : Blk w g 141 #[.int .i64 lo, .int .i64 hi, .bool b]) :
    Calls Tryz.prog 71 #[.pointer (some ⟨g, 0, none⟩), .int .i64 x] w fun e w' => e = .returned (.tuple #[]) ∧ Kept (fun k => k = g) w w' ∧ Blk w' g 141 #[.int .i64 (if b then min lo x else x), .int .i64 (if b then max hi x else x), .bool true] := by
  have hg0 := hg.cell 0
  have hg1 := hg.cell 1
  have hg2 := hg.cell 2
  have hf0 := hg.frozen 0
  have hf1 := hg.frozen 1
  have hf2 := hg.frozen 2
  have hgl := hg.lt
  cases b
  · go_enter Tryz.func71, Tryz.ntmps71
    go_wp2
    obtain ⟨w1, hw1⟩ : ∃ w1, ((w.setCell ⟨g, 0, none⟩ (.int .i64 x)).setCell ⟨g, 1, none⟩ (.int .i64 x)).setCell ⟨g, 2, none⟩ (.bool true) = w1 := ⟨_, rfl⟩
    have hK1 : Kept (fun k => k = g) w w1 := by rw [← hw1]; exact ((Kept.setCell (M := fun k => k = g) _ _ _ rfl).trans (Kept.setCell _ _ _ rfl)).trans (Kept.setCell _ _ _ rfl)
    have HW := Lib.hid hw1
    rw [hw1]; clear hw1
    obtain ⟨lo1, hlo1⟩ : ∃ y, y = x := ⟨_, rfl⟩
    obtain ⟨hi1, hhi1⟩ : ∃ y, y = x := ⟨_, rfl⟩
    have HL := Lib.hid hlo1
    have HH := Lib.hid hhi1
    clear hlo1 hhi1
    have hB1 : Blk w1 g 141 #[.int .i64 lo1, .int .i64 hi1, .bool true] := by rw [HL.out, HH.out, ← HW.out]; exact ((hg.set_ 0 _).set_ 1 _).set_ 2 _
    clear HW
    clear hg0 hg1 hg2 hf0 hf1 hf2 hg
    have hmin := min_if lo1 x
    have hmin2 := min_if (min lo1 x) x
    rw [min_again] at hmin2
    have hmax := max_if hi1 x
    refine (wpIn_wide (n := 0)).1 ?_
    refine wpIn_region_list (F := Fence.wide) (r := none) rfl (EndsC w1 g lo1 hi1 x) (fun W V => EndsLo g lo1 hi1 x W → EndsLo g lo1 hi1 x V)
      [isV (.pointer (some ⟨g, 0, none⟩)), isV (.pointer (some ⟨g, 0, none⟩)), isV (.pointer (some ⟨g, 0, none⟩)), isV (.pointer (some ⟨g, 0, none⟩)), isV (.pointer (some ⟨g, 0, none⟩)), LowV lo1 x, isV (.int .i64 x), isV (.int .i64 (min lo1 x)),
       isV (.pointer (some ⟨g, 0, none⟩)), isV (.pointer (some ⟨g, 0, none⟩)), isV (.pointer (some ⟨g, 1, none⟩)), isV (.int .i64 hi1), isV (.int .i64 x), isV (.int .i64 (max hi1 x)), isV (.pointer (some ⟨g, 0, none⟩)), isV (.pointer (some ⟨g, 0, none⟩)), LowW g lo1 hi1 x]
      (by kernel_rfl) (by kernel_rfl) (by kernel_rfl) (by simp) (EndsC.drew ⟨Kept.refl _ _, _, .inl rfl, hB1⟩) ?stab ?step ?fin
    case stab =>
      exact StabL.is (StabL.is (StabL.is (StabL.is (StabL.is (StabL.cons (fun v W V hC hX h => h) (StabL.is (StabL.is (StabL.is (StabL.is (StabL.is (StabL.is (StabL.is (StabL.is (StabL.is (StabL.is (StabL.cons (fun v W V hC hX h => hX h) StabL.nil))))))))))))))))
    case step =>
      refine StepsL.isA ?_ (StepsL.isA ?_ (StepsL.isA ?_ (StepsL.isA ?_ (StepsL.isA ?_ (StepsL.consA ?_ (StepsL.isA ?_ (StepsL.isA ?_ (StepsL.isA ?_ (StepsL.isA ?_ (StepsL.isA ?_ (StepsL.isA ?_ (StepsL.isA ?_ (StepsL.isA ?_ (StepsL.isA ?_ (StepsL.isA ?_ (StepsL.consA ?_ StepsL.nil))))))))))))))))
      all_goals intro vs a W K ha hC hD hU hK
      all_goals try rw [if_pos (by rfl)]
      ·
        have r0 : a.tmps[0]? = some (.pointer (some ⟨g, 0, none⟩)) := by rw [ha]; kernel_rfl
        clear ha hU
        simp [waits, Region.binds] at hD
        try simp only [envOf, List.getD_cons_succ, List.getD_cons_zero, isV] at hD
        go_simp
        exact hK _ hC id
      ·
        have r0 : a.tmps[0]? = some (.pointer (some ⟨g, 0, none⟩)) := by rw [ha]; kernel_rfl
        clear ha hU
        simp [waits, Region.binds] at hD
        try simp only [envOf, List.getD_cons_succ, List.getD_cons_zero, isV] at hD
        go_simp
        exact hK _ hC id
      ·
        have r0 : a.tmps[0]? = some (.pointer (some ⟨g, 0, none⟩)) := by rw [ha]; kernel_rfl
        clear ha hU
        simp [waits, Region.binds] at hD
        try simp only [envOf, List.getD_cons_succ, List.getD_cons_zero, isV] at hD
        go_simp
        exact hK _ hC id
      ·
        have r16 : a.tmps[16]? = some (vs 2) := by rw [ha]; kernel_rfl
        clear ha hU
        simp [waits, Region.binds] at hD
        try simp only [envOf, List.getD_cons_succ, List.getD_cons_zero, isV] at hD
        go_simp
        exact hK _ hC id
      ·
        have r17 : a.tmps[17]? = some (vs 3) := by rw [ha]; kernel_rfl
        clear ha hU
        simp [waits, Region.binds] at hD
        try simp only [envOf, List.getD_cons_succ, List.getD_cons_zero, isV] at hD
        go_simp
        exact hK _ hC id
      ·
        have r18 : a.tmps[18]? = some (vs 4) := by rw [ha]; kernel_rfl
        clear ha hU
        simp [waits, Region.binds] at hD
        try simp only [envOf, List.getD_cons_succ, List.getD_cons_zero, isV] at hD
        obtain ⟨hKC, y, hy, hB⟩ := hC
        have k0 : W.cell? ⟨g, 0, none⟩ = some (.int .i64 y) := hB.cell 0
        have k1 : W.cell? ⟨g, 1, none⟩ = some (.int .i64 hi1) := hB.cell 1
        go_simp
        exact hK _ _ ⟨hKC, y, hy, hB⟩ id (hy.imp (fun h => by rw [h]) (fun h => by rw [h]))
      ·
        have r1 : a.tmps[1]? = some (.int .i64 x) := by rw [ha]; kernel_rfl
        clear ha hU
        simp [waits, Region.binds] at hD
        try simp only [envOf, List.getD_cons_succ, List.getD_cons_zero, isV] at hD
        go_simp
        exact hK _ hC id
      ·
        have r19 : a.tmps[19]? = some (vs 5) := by rw [ha]; kernel_rfl
        have r20 : a.tmps[20]? = some (vs 6) := by rw [ha]; kernel_rfl
        clear ha hU
        simp [waits, Region.binds] at hD
        try simp only [envOf, List.getD_cons_succ, List.getD_cons_zero, isV] at hD
        obtain ⟨h5, h6⟩ := hD
        rw [h6] at r20
        rcases h5 with h5 | h5
        · rw [h5] at r19
          clear h5 h6
          go_simp
          exact hK _ hC id
        · rw [h5] at r19
          clear h5 h6
          go_simp
          exact hK _ hC id
      ·
        have r0 : a.tmps[0]? = some (.pointer (some ⟨g, 0, none⟩)) := by rw [ha]; kernel_rfl
        clear ha hU
        simp [waits, Region.binds] at hD
        try simp only [envOf, List.getD_cons_succ, List.getD_cons_zero, isV] at hD
        go_simp
        exact hK _ hC id
      ·
        have r22 : a.tmps[22]? = some (vs 8) := by rw [ha]; kernel_rfl
        clear ha hU
        simp [waits, Region.binds] at hD
        try simp only [envOf, List.getD_cons_succ, List.getD_cons_zero, isV] at hD
        go_simp
        exact hK _ hC id
      ·
        have r23 : a.tmps[23]? = some (vs 9) := by rw [ha]; kernel_rfl
        clear ha hU
        simp [waits, Region.binds] at hD
        try simp only [envOf, List.getD_cons_succ, List.getD_cons_zero, isV] at hD
        go_simp
        exact hK _ hC id
      ·
        have r24 : a.tmps[24]? = some (vs 10) := by rw [ha]; kernel_rfl
        clear ha hU
        simp [waits, Region.binds] at hD
        try simp only [envOf, List.getD_cons_succ, List.getD_cons_zero, isV] at hD
        obtain ⟨hKC, y, hy, hB⟩ := hC
        have k0 : W.cell? ⟨g, 0, none⟩ = some (.int .i64 y) := hB.cell 0
        have k1 : W.cell? ⟨g, 1, none⟩ = some (.int .i64 hi1) := hB.cell 1
        go_simp
        exact hK _ ⟨hKC, y, hy, hB⟩ id
      ·
        have r1 : a.tmps[1]? = some (.int .i64 x) := by rw [ha]; kernel_rfl
        clear ha hU
        simp [waits, Region.binds] at hD
        try simp only [envOf, List.getD_cons_succ, List.getD_cons_zero, isV] at hD
        go_simp
        exact hK _ hC id
      ·
        have r25 : a.tmps[25]? = some (vs 11) := by rw [ha]; kernel_rfl
        have r26 : a.tmps[26]? = some (vs 12) := by rw [ha]; kernel_rfl
        clear ha hU
        simp [waits, Region.binds] at hD
        try simp only [envOf, List.getD_cons_succ, List.getD_cons_zero, isV] at hD
        go_simp
        exact hK _ hC id
      ·
        have r14 : a.tmps[14]? = some (vs 0) := by rw [ha]; kernel_rfl
        clear ha hU
        simp [waits, Region.binds] at hD
        try simp only [envOf, List.getD_cons_succ, List.getD_cons_zero, isV] at hD
        go_simp
        exact hK _ hC id
      ·
        have r28 : a.tmps[28]? = some (vs 14) := by rw [ha]; kernel_rfl
        clear ha hU
        simp [waits, Region.binds] at hD
        try simp only [envOf, List.getD_cons_succ, List.getD_cons_zero, isV] at hD
        go_simp
        exact hK _ hC id
      have r29 : a.tmps[29]? = some (vs 15) := by rw [ha]; kernel_rfl
      have r21 : a.tmps[21]? = some (vs 7) := by rw [ha]; kernel_rfl
      clear ha hU
      simp [waits, Region.binds] at hD
      try simp only [envOf, List.getD_cons_succ, List.getD_cons_zero, isV] at hD
      have hL := hC.low
      obtain ⟨hKC, y, hy, hB⟩ := hC
      have k0 : W.cell? ⟨g, 0, none⟩ = some (.int .i64 y) := hB.cell 0
      have kf := hB.frozen 0
      have kl := hB.lt
      go_simp
      exact hK undef _ hL.1 (fun _ => hL.2) hL.2
    case fin =>
      intro vs W hC hE hU
      have e1 := hE 1 (by simp)
      have e13 := hE 13 (by simp)
      have e16 := hE 16 (by simp)
      simp only [envOf, List.getD_cons_succ, List.getD_cons_zero, isV, LowW, EndsLo] at e1 e13 e16
      simp only [fillA, Act.put, List.setIfInBounds_toArray, List.set_cons_zero, List.set_cons_succ, Nat.zero_add, Nat.reduceAdd, e1, e13]
      have k0 := e16.cell 0
      have k1 := e16.cell 1
      have kf := e16.frozen 1
      have kl := e16.lt
      have HC := Lib.hid hC.1
      clear hE hU hC e1 e13
      simp [wpOpsIn, show List.range' 17 3 = [17, 18, 19] from rfl, Region.wanted, yielded]
      generalize Value.agg #[.int .i64 x, .int .i64 x, .bool true] = v12
      gi_step
      go_simp
      gi_wp2
      go_end0
      exact ⟨rfl, (hK1.trans HC.out).trans (Kept.setCell _ _ _ rfl), by have := e16.set_ 1 (.int .i64 (max hi1 x)); rw [HL.out, HH.out] at this; rw [HH.out]; simpa using this⟩
  · go_enter Tryz.func71, Tryz.ntmps71
    go_wp2
    have hK1 : Kept (fun k => k = g) w w := Kept.refl _ _
    have HW : Hid True := trivial
    have HL : Hid (lo = lo) := rfl
    have HH : Hid (hi = hi) := rfl
    have hB1 : Blk w g 141 #[.int .i64 lo, .int .i64 hi, .bool true] := hg
    clear HW
    clear hg0 hg1 hg2 hf0 hf1 hf2 hg
    have hmin := min_if lo x
    have hmin2 := min_if (min lo x) x
    rw [min_again] at hmin2
    have hmax := max_if hi x
    refine (wpIn_wide (n := 0)).1 ?_
    refine wpIn_region_list (F := Fence.wide) (r := none) rfl (EndsC w g lo hi x) (fun W V => EndsLo g lo hi x W → EndsLo g lo hi x V)
      [isV (.pointer (some ⟨g, 0, none⟩)), isV (.pointer (some ⟨g, 0, none⟩)), isV (.pointer (some ⟨g, 0, none⟩)), isV (.pointer (some ⟨g, 0, none⟩)), isV (.pointer (some ⟨g, 0, none⟩)), LowV lo x, isV (.int .i64 x), isV (.int .i64 (min lo x)),
       isV (.pointer (some ⟨g, 0, none⟩)), isV (.pointer (some ⟨g, 0, none⟩)), isV (.pointer (some ⟨g, 1, none⟩)), isV (.int .i64 hi), isV (.int .i64 x), isV (.int .i64 (max hi x)), isV (.pointer (some ⟨g, 0, none⟩)), isV (.pointer (some ⟨g, 0, none⟩)), LowW g lo hi x]
      (by kernel_rfl) (by kernel_rfl) (by kernel_rfl) (by simp) (EndsC.drew ⟨Kept.refl _ _, _, .inl rfl, hB1⟩) ?stab ?step ?fin
    case stab =>
      exact StabL.is (StabL.is (StabL.is (StabL.is (StabL.is (StabL.cons (fun v W V hC hX h => h) (StabL.is (StabL.is (StabL.is (StabL.is (StabL.is (StabL.is (StabL.is (StabL.is (StabL.is (StabL.is (StabL.cons (fun v W V hC hX h => hX h) StabL.nil))))))))))))))))
    case step =>
      refine StepsL.isA ?_ (StepsL.isA ?_ (StepsL.isA ?_ (StepsL.isA ?_ (StepsL.isA ?_ (StepsL.consA ?_ (StepsL.isA ?_ (StepsL.isA ?_ (StepsL.isA ?_ (StepsL.isA ?_ (StepsL.isA ?_ (StepsL.isA ?_ (StepsL.isA ?_ (StepsL.isA ?_ (StepsL.isA ?_ (StepsL.isA ?_ (StepsL.consA ?_ StepsL.nil))))))))))))))))
      all_goals intro vs a W K ha hC hD hU hK
      all_goals try rw [if_pos (by rfl)]
      ·
        have r0 : a.tmps[0]? = some (.pointer (some ⟨g, 0, none⟩)) := by rw [ha]; kernel_rfl
        clear ha hU
        simp [waits, Region.binds] at hD
        try simp only [envOf, List.getD_cons_succ, List.getD_cons_zero, isV] at hD
        go_simp
        exact hK _ hC id
      ·
        have r0 : a.tmps[0]? = some (.pointer (some ⟨g, 0, none⟩)) := by rw [ha]; kernel_rfl
        clear ha hU
        simp [waits, Region.binds] at hD
        try simp only [envOf, List.getD_cons_succ, List.getD_cons_zero, isV] at hD
        go_simp
        exact hK _ hC id
      ·
        have r0 : a.tmps[0]? = some (.pointer (some ⟨g, 0, none⟩)) := by rw [ha]; kernel_rfl
        clear ha hU
        simp [waits, Region.binds] at hD
        try simp only [envOf, List.getD_cons_succ, List.getD_cons_zero, isV] at hD
        go_simp
        exact hK _ hC id
      ·
        have r16 : a.tmps[16]? = some (vs 2) := by rw [ha]; kernel_rfl
        clear ha hU
        simp [waits, Region.binds] at hD
        try simp only [envOf, List.getD_cons_succ, List.getD_cons_zero, isV] at hD
        go_simp
        exact hK _ hC id
      ·
        have r17 : a.tmps[17]? = some (vs 3) := by rw [ha]; kernel_rfl
        clear ha hU
        simp [waits, Region.binds] at hD
        try simp only [envOf, List.getD_cons_succ, List.getD_cons_zero, isV] at hD
        go_simp
        exact hK _ hC id
      ·
        have r18 : a.tmps[18]? = some (vs 4) := by rw [ha]; kernel_rfl
        clear ha hU
        simp [waits, Region.binds] at hD
        try simp only [envOf, List.getD_cons_succ, List.getD_cons_zero, isV] at hD
        obtain ⟨hKC, y, hy, hB⟩ := hC
        have k0 : W.cell? ⟨g, 0, none⟩ = some (.int .i64 y) := hB.cell 0
        have k1 : W.cell? ⟨g, 1, none⟩ = some (.int .i64 hi) := hB.cell 1
        go_simp
        exact hK _ _ ⟨hKC, y, hy, hB⟩ id (hy.imp (fun h => by rw [h]) (fun h => by rw [h]))
      ·
        have r1 : a.tmps[1]? = some (.int .i64 x) := by rw [ha]; kernel_rfl
        clear ha hU
        simp [waits, Region.binds] at hD
        try simp only [envOf, List.getD_cons_succ, List.getD_cons_zero, isV] at hD
        go_simp
        exact hK _ hC id
      ·
        have r19 : a.tmps[19]? = some (vs 5) := by rw [ha]; kernel_rfl
        have r20 : a.tmps[20]? = some (vs 6) := by rw [ha]; kernel_rfl
        clear ha hU
        simp [waits, Region.binds] at hD
        try simp only [envOf, List.getD_cons_succ, List.getD_cons_zero, isV] at hD
        obtain ⟨h5, h6⟩ := hD
        rw [h6] at r20
        rcases h5 with h5 | h5
        · rw [h5] at r19
          clear h5 h6
          go_simp
          exact hK _ hC id
        · rw [h5] at r19
          clear h5 h6
          go_simp
          exact hK _ hC id
      ·
        have r0 : a.tmps[0]? = some (.pointer (some ⟨g, 0, none⟩)) := by rw [ha]; kernel_rfl
        clear ha hU
        simp [waits, Region.binds] at hD
        try simp only [envOf, List.getD_cons_succ, List.getD_cons_zero, isV] at hD
        go_simp
        exact hK _ hC id
      ·
        have r22 : a.tmps[22]? = some (vs 8) := by rw [ha]; kernel_rfl
        clear ha hU
        simp [waits, Region.binds] at hD
        try simp only [envOf, List.getD_cons_succ, List.getD_cons_zero, isV] at hD
        go_simp
        exact hK _ hC id
      ·
        have r23 : a.tmps[23]? = some (vs 9) := by rw [ha]; kernel_rfl
        clear ha hU
        simp [waits, Region.binds] at hD
        try simp only [envOf, List.getD_cons_succ, List.getD_cons_zero, isV] at hD
        go_simp
        exact hK _ hC id
      ·
        have r24 : a.tmps[24]? = some (vs 10) := by rw [ha]; kernel_rfl
        clear ha hU
        simp [waits, Region.binds] at hD
        try simp only [envOf, List.getD_cons_succ, List.getD_cons_zero, isV] at hD
        obtain ⟨hKC, y, hy, hB⟩ := hC
        have k0 : W.cell? ⟨g, 0, none⟩ = some (.int .i64 y) := hB.cell 0
        have k1 : W.cell? ⟨g, 1, none⟩ = some (.int .i64 hi) := hB.cell 1
        go_simp
        exact hK _ ⟨hKC, y, hy, hB⟩ id
      ·
        have r1 : a.tmps[1]? = some (.int .i64 x) := by rw [ha]; kernel_rfl
        clear ha hU
        simp [waits, Region.binds] at hD
        try simp only [envOf, List.getD_cons_succ, List.getD_cons_zero, isV] at hD
        go_simp
        exact hK _ hC id
      ·
        have r25 : a.tmps[25]? = some (vs 11) := by rw [ha]; kernel_rfl
        have r26 : a.tmps[26]? = some (vs 12) := by rw [ha]; kernel_rfl
        clear ha hU
        simp [waits, Region.binds] at hD
        try simp only [envOf, List.getD_cons_succ, List.getD_cons_zero, isV] at hD
        go_simp
        exact hK _ hC id
      ·
        have r14 : a.tmps[14]? = some (vs 0) := by rw [ha]; kernel_rfl
        clear ha hU
        simp [waits, Region.binds] at hD
        try simp only [envOf, List.getD_cons_succ, List.getD_cons_zero, isV] at hD
        go_simp
        exact hK _ hC id
      ·
        have r28 : a.tmps[28]? = some (vs 14) := by rw [ha]; kernel_rfl
        clear ha hU
        simp [waits, Region.binds] at hD
        try simp only [envOf, List.getD_cons_succ, List.getD_cons_zero, isV] at hD
        go_simp
        exact hK _ hC id
      have r29 : a.tmps[29]? = some (vs 15) := by rw [ha]; kernel_rfl
      have r21 : a.tmps[21]? = some (vs 7) := by rw [ha]; kernel_rfl
      clear ha hU
      simp [waits, Region.binds] at hD
      try simp only [envOf, List.getD_cons_succ, List.getD_cons_zero, isV] at hD
      have hL := hC.low
      obtain ⟨hKC, y, hy, hB⟩ := hC
      have k0 : W.cell? ⟨g, 0, none⟩ = some (.int .i64 y) := hB.cell 0
      have kf := hB.frozen 0
      have kl := hB.lt
      go_simp
      exact hK undef _ hL.1 (fun _ => hL.2) hL.2
    case fin =>
      intro vs W hC hE hU
      have e1 := hE 1 (by simp)
      have e13 := hE 13 (by simp)
      have e16 := hE 16 (by simp)
      simp only [envOf, List.getD_cons_succ, List.getD_cons_zero, isV, LowW, EndsLo] at e1 e13 e16
      simp only [fillA, Act.put, List.setIfInBounds_toArray, List.set_cons_zero, List.set_cons_succ, Nat.zero_add, Nat.reduceAdd, e1, e13]
      have k0 := e16.cell 0
      have k1 := e16.cell 1
      have kf := e16.frozen 1
      have kl := e16.lt
      have HC := Lib.hid hC.1
      clear hE hU hC e1 e13
      simp [wpOpsIn, show List.range' 17 3 = [17, 18, 19] from rfl, Region.wanted, yielded]
      skip
      gi_wp2
      go_end0
      exact ⟨rfl, HC.out.trans (Kept.setCell _ _ _ rfl), e16.set_ 1 _⟩
end Go.Proofs.YtdbfincinjoppabGreatDoor
