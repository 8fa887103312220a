/- Walks: the law of what must be there. -/
import Derived.Test.YtkbpmcpmcmnfgaaDoorCBackPureD
import Derived.Test.YtkbpmcpmcmnfgaaDoorCHelp1
import Derived.Test.YtkbpmcpmcmnfgaaDoorCLaw6
set_option linter.unusedVariables false
set_option linter.unusedSimpArgs false
set_option linter.all false
namespace Go.Proofs.YtkbpmcpmcmnfgaaDoor
open Go.RowKit

set_option maxRecDepth 100000 in
set_option maxHeartbeats 1000000 in
theorem neededLaw_any {A B C : Option Addr} {n ca m cb q cc : Nat} {c : Claim} (w : World) (htab : TabOk w) (h : ClaimAt (fun _ => True) w A n B m C q c) (hca : n ≤ ca) (hcb : m ≤ cb) :
    Calls Tryd.prog 9 #[.agg #[.slice A n ca, .slice B m cb, .slice C q cc]] w fun e w' => e = .returned (.bool true) ∧ Below w.heap.size w w' := by
  obtain ⟨i0, hi0, hz0, hz1, hz2⟩ := info_parts infoInt
  obtain ⟨W0, hW0⟩ : ∃ W0, w.alloc (.cells #[.slice A n ca, .slice B m cb, .slice C q cc] 26) = W0 := ⟨_, rfl⟩
  have X1 : Blk W0 w.heap.size 26 #[.slice A n ca, .slice B m cb, .slice C q cc] := by rw [← hW0]; exact Blk.new _ _ _ rfl
  have hB0 : Below w.heap.size w W0 := by rw [← hW0]; exact bl_alloc (Below.refl _ _) _ (Nat.le_refl _)
  have e1 := h.keep (Keeps.below hB0)
  have t0 := htab.bl hB0
  have HW0 := Lib.hid hW0
  have Hm := Lib.hid h.cs.len
  clear hW0 h htab
  rcases ways c with he | ⟨he, ha⟩ | ⟨he, ha⟩
  · have hv : ((check c).2.2 == 0) = false := by have he' : (check c).2.2 ≠ 0 := he; simpa using he'
    have HM := Lib.hid (must_bad he)
    have HS := Lib.hid (sets_bad he)
    obtain ⟨e0, hee⟩ : ∃ e0, err c = e0 := ⟨_, rfl⟩
    rw [hee] at he HM HS
    have h1 : (e0 != 0) = true := by simpa using he
    have h2 : (e0 == e0) = true := by simp
    clear he hee
    go_enter Tryd.func9, Tryd.ntmps9
    go_wp2_with fail
    rw [HW0.out]
    refine (bmust_any W0 t0 e1 hca hcb).mono ?_
    rintro e u1 ⟨A1, n1, c1, A2, n2, c2, rfl, hI1, hI2, b1⟩
    rw [HM.out] at hI1 hI2 ⊢
    have q0 : u1.cell? ⟨w.heap.size, 0, none⟩ = some (.slice A n ca) := (X1.bl b1).cell 0
    have q1 : u1.cell? ⟨w.heap.size, 1, none⟩ = some (.slice B m cb) := (X1.bl b1).cell 1
    have q2 : u1.cell? ⟨w.heap.size, 2, none⟩ = some (.slice C q cc) := (X1.bl b1).cell 2
    go_wp2_with fail
    clear q0 q1 q2
    refine (bsets_any u1 (t0.bl b1) (e1.keep (Keeps.below b1)) hca hcb).mono ?_
    rintro e u2 ⟨A3, n3, c3, rfl, hR3, b2⟩
    rw [HS.out] at hR3 ⊢
    have b2 := bl_call b1 b2 (Nat.le_refl _)
    have q0 : u2.cell? ⟨w.heap.size, 0, none⟩ = some (.slice A n ca) := (X1.bl b2).cell 0
    have q1 : u2.cell? ⟨w.heap.size, 1, none⟩ = some (.slice B m cb) := (X1.bl b2).cell 1
    have q2 : u2.cell? ⟨w.heap.size, 2, none⟩ = some (.slice C q cc) := (X1.bl b2).cell 2
    go_wp2_with fail
    clear q0 q1 q2
    refine (valid_any u2 (e1.keep (Keeps.below b2))).mono ?_
    rintro e u3 ⟨rfl, b3⟩
    rw [hv]
    have b3 := bl_call b2 b3 (Nat.le_refl _)
    go_wp2_with fail
    refine (awake_any _ (t0.bl b3)).mono ?_
    rintro e u4 ⟨rfl, b4⟩
    go_wp2
    go_ret
    exact ⟨rfl, bl_call (bl_call hB0 b3 (Nat.le_refl _)) b4 (Nat.le_refl _)⟩
  · have hv : ((check c).2.2 == 0) = true := by have he' : (check c).2.2 = 0 := he; simpa using he'
    have HM := Lib.hid (must_none he ha)
    have HS := Lib.hid (sets_ok he)
    have hnil : setsL c = [] := (sets_nil (okC_of he)).2 ha
    rw [hnil] at HS
    clear he ha hnil
    go_enter Tryd.func9, Tryd.ntmps9
    go_wp2_with fail
    rw [HW0.out]
    refine (bmust_any W0 t0 e1 hca hcb).mono ?_
    rintro e u1 ⟨A1, n1, c1, A2, n2, c2, rfl, hI1, hI2, b1⟩
    rw [HM.out] at hI1 hI2 ⊢
    obtain rfl : 0 = n1 := hI1.len
    obtain rfl : 0 = n2 := hI2.len
    have q0 : u1.cell? ⟨w.heap.size, 0, none⟩ = some (.slice A n ca) := (X1.bl b1).cell 0
    have q1 : u1.cell? ⟨w.heap.size, 1, none⟩ = some (.slice B m cb) := (X1.bl b1).cell 1
    have q2 : u1.cell? ⟨w.heap.size, 2, none⟩ = some (.slice C q cc) := (X1.bl b1).cell 2
    go_wp2_with fail
    clear q0 q1 q2
    refine (bsets_any u1 (t0.bl b1) (e1.keep (Keeps.below b1)) hca hcb).mono ?_
    rintro e u2 ⟨A3, n3, c3, rfl, hR3, b2⟩
    rw [HS.out] at hR3 ⊢
    obtain rfl : 0 = n3 := hR3.len
    have b2 := bl_call b1 b2 (Nat.le_refl _)
    have q0 : u2.cell? ⟨w.heap.size, 0, none⟩ = some (.slice A n ca) := (X1.bl b2).cell 0
    have q1 : u2.cell? ⟨w.heap.size, 1, none⟩ = some (.slice B m cb) := (X1.bl b2).cell 1
    have q2 : u2.cell? ⟨w.heap.size, 2, none⟩ = some (.slice C q cc) := (X1.bl b2).cell 2
    go_wp2_with fail
    clear q0 q1 q2
    refine (valid_any u2 (e1.keep (Keeps.below b2))).mono ?_
    rintro e u3 ⟨rfl, b3⟩
    rw [hv]
    have b3 := bl_call b2 b3 (Nat.le_refl _)
    go_wp2_with fail
    refine (awake_any _ (t0.bl b3)).mono ?_
    rintro e u4 ⟨rfl, b4⟩
    go_wp2
    go_ret
    exact ⟨rfl, bl_call (bl_call hB0 b3 (Nat.le_refl _)) b4 (Nat.le_refl _)⟩
  · have hv : ((check c).2.2 == 0) = true := by have he' : (check c).2.2 = 0 := he; simpa using he'
    have HM := Lib.hid (must_ok he ha)
    have HS := Lib.hid (sets_ok he)
    have hok := okC_of he
    have hm5 : m ≤ 5 := by rw [← Hm.out]; exact hok.nc
    have Hne : Hid (setsL c ≠ []) := fun e => ha ((sets_nil hok).1 e)
    have Has1 : Hid (ascL (mustL c) m = true) := by rw [Hid, ← Hm.out]; exact asc_must c
    have Has2 : Hid (ascL (mayL c) m = true) := by rw [Hid, ← Hm.out]; exact asc_may c
    have Hset : Hid (∀ s, s ∈ setsL c → partL (mustL c) s = true ∧ partL s (mayL c) = true) := fun s hs => need_sets hok hs
    have Hrest : Hid (∀ i : Nat, i < m → (mustR (onlyC c (restL i m))).2.2 = if decide ((i : Int) ∈ mustL c) then 8 else 0) := fun i hi => by
      rw [← Hm.out] at hi ⊢
      rw [must_only he]
      simp only [need_rest hok hi, decide_eq_true_eq]
    have Ham : Hid (∀ i : Nat, i < m → ∃ lo hi, amountR c i = ((lo, hi), 0) ∧ (0 < lo ↔ (i : Int) ∈ mustL c) ∧ (0 < hi ↔ (i : Int) ∈ mayL c)) := fun i hi => need_amount he ha (by rw [Hm.out]; exact hi)
    clear he ha hok
    go_enter Tryd.func9, Tryd.ntmps9
    go_wp2_with fail
    rw [HW0.out]
    refine (bmust_any W0 t0 e1 hca hcb).mono ?_
    rintro e u1 ⟨A1, n1, c1, A2, n2, c2, rfl, hI1, hI2, b1⟩
    rw [HM.out] at hI1 hI2 ⊢
    have q0 : u1.cell? ⟨w.heap.size, 0, none⟩ = some (.slice A n ca) := (X1.bl b1).cell 0
    have q1 : u1.cell? ⟨w.heap.size, 1, none⟩ = some (.slice B m cb) := (X1.bl b1).cell 1
    have q2 : u1.cell? ⟨w.heap.size, 2, none⟩ = some (.slice C q cc) := (X1.bl b1).cell 2
    go_wp2_with fail
    clear q0 q1 q2
    refine (bsets_any u1 (t0.bl b1) (e1.keep (Keeps.below b1)) hca hcb).mono ?_
    rintro e u2 ⟨A3, n3, c3, rfl, hR3, k2⟩
    rw [HS.out] at hR3 ⊢
    have hI1 := hI1.keep IntR.good (Keeps.below k2)
    have hI2 := hI2.keep IntR.good (Keeps.below k2)
    have b2 := bl_call b1 k2 (Nat.le_refl _)
    clear b1 k2
    have q0 : u2.cell? ⟨w.heap.size, 0, none⟩ = some (.slice A n ca) := (X1.bl b2).cell 0
    have q1 : u2.cell? ⟨w.heap.size, 1, none⟩ = some (.slice B m cb) := (X1.bl b2).cell 1
    have q2 : u2.cell? ⟨w.heap.size, 2, none⟩ = some (.slice C q cc) := (X1.bl b2).cell 2
    go_wp2_with fail
    clear q0 q1 q2
    refine (valid_any u2 (e1.keep (Keeps.below b2))).mono ?_
    rintro e u3 ⟨rfl, k3⟩
    rw [hv]
    have hI1 := hI1.keep IntR.good (Keeps.below k3)
    have hI2 := hI2.keep IntR.good (Keeps.below k3)
    have hR3 := hR3.keep (SlR.good IntR.good) (Keeps.below k3)
    have b3 := bl_call b2 k3 (Nat.le_refl _)
    clear b2 k3
    have q1 : u3.cell? ⟨w.heap.size, 1, none⟩ = some (.slice B m cb) := (X1.bl b3).cell 1
    have hn3 : (((n3 : Nat) : Int) == 0) = false := by
      have := hR3.len
      have h0 : 0 < (setsL c).length := List.length_pos_iff.2 Hne.out
      simp; omega
    go_wp2_with fail
    refine (ascending_any (m : Int) u3 hI1).mono ?_
    rintro e u4 ⟨rfl, z4, rfl⟩
    rw [Has1.out]
    have hI1 := hI1.keep IntR.good (Keeps.drewN u3 z4)
    have hI2 := hI2.keep IntR.good (Keeps.drewN u3 z4)
    have hR3 := hR3.keep (SlR.good IntR.good) (Keeps.drewN u3 z4)
    have b4 := bl_drewN b3 z4
    obtain ⟨u4, hu4⟩ : ∃ u4, u3.drewN z4 = u4 := ⟨_, rfl⟩
    rw [hu4] at hI1 hI2 hR3 b4 ⊢
    clear hu4 b3 q1
    have q1 : u4.cell? ⟨w.heap.size, 1, none⟩ = some (.slice B m cb) := (X1.bl b4).cell 1
    go_wp2_with fail
    refine (ascending_any (m : Int) u4 hI2).mono ?_
    rintro e u5 ⟨rfl, z5, rfl⟩
    rw [Has2.out]
    have hI1 := hI1.keep IntR.good (Keeps.drewN u4 z5)
    have hI2 := hI2.keep IntR.good (Keeps.drewN u4 z5)
    have hR3 := hR3.keep (SlR.good IntR.good) (Keeps.drewN u4 z5)
    have b5 := bl_drewN b4 z5
    obtain ⟨u5, hu5⟩ : ∃ u5, u4.drewN z5 = u5 := ⟨_, rfl⟩
    rw [hu5] at hI1 hI2 hR3 b5 ⊢
    clear hu5 b4 q1
    have hle3 := hR3.le
    go_wp2
    go_loop [8] (fun i => ∃ k : Nat, k ≤ n3 ∧ i = .int .i64 k) (fun i => n3 - (intOf i).toNat)
    case atStart => exact ⟨0, Nat.zero_le _, rfl⟩
    case round =>
      obtain ⟨k, hk, rfl⟩ := hrel
      by_cases hlt : k < n3
      · have hki : (k : Int) < n3 := by omega
        obtain ⟨b, off, x, Ax, nx, cx, rfl, hcell, hX, Hx⟩ := Rows.get hR3 hlt
        obtain ⟨p1, p2⟩ := Hset.out x (List.mem_of_getElem? Hx.out)
        go_wp2_with fail
        refine (lawpart_any _ hI1 hX).mono ?_
        rintro e w' ⟨rfl, rfl⟩
        rw [p1]
        go_wp2_with fail
        refine (lawpart_any _ hX hI2).mono ?_
        rintro e w' ⟨rfl, rfl⟩
        rw [p2]
        go_wp2
        go_round
        case rel => exact ⟨k + 1, by omega, by go_num⟩
        case measure => simp [intOf]; omega
      · have hki : ¬ (k : Int) < n3 := by omega
        clear hR3
        have hmle : (m : Int) ≤ 5 := by omega
        go_wp2
        go_loopw [9] (fun i wr => ∃ k : Nat, k ≤ m ∧ i = .int .i64 k ∧ Below u5.heap.size u5 wr) (fun i _ => m - (intOf i).toNat)
        case atStart => exact ⟨0, Nat.zero_le _, rfl, Below.refl _ _⟩
        case round =>
          obtain ⟨i, hi, rfl, hB⟩ := hrel
          have hBr := bl_call b5 hB (Nat.le_refl _)
          have X2 := X1.bl hBr
          obtain ⟨wo, rfl⟩ : ∃ wo : World, wo = wr := ⟨_, rfl⟩
          have q1 : wo.cell? ⟨w.heap.size, 1, none⟩ = some (.slice B m cb) := X2.cell 1
          by_cases hlt : i < m
          · have hii : (i : Int) < m := by omega
            go_wp2
            go_loopw [10, 11] (fun v j wr => ∃ (k n' cap : Nat) (A' : Option Addr) (l : List Int), k ≤ m ∧ j = .int .i64 k ∧ v = .slice A' n' cap ∧ n' ≤ k ∧ Hid (l.length = n') ∧ OwnL IntR 1 (fun _ => False) wr wo.heap.size 3 (.slice A' n' cap) l ∧ Below wo.heap.size wo wr ∧ Hid (l = ((List.range k).filter fun x => decide (x ≠ i)).map fun x : Nat => (x : Int))) (fun _ j _ => m - (intOf j).toNat)
            case atStart => exact ⟨0, 0, 0, none, [], Nat.zero_le _, rfl, rfl, Nat.le_refl _, rfl, OwnL.nil _ _ _ _ _ _, Below.refl _ _, rfl⟩
            case round =>
              obtain ⟨k, n', cap, A', l, hk, rfl, rfl, hn', Hl, hO, hB2, Hf⟩ := hrel
              clear q1
              have X3 := X2.bl hB2
              have q1 : wr.cell? ⟨w.heap.size, 1, none⟩ = some (.slice B m cb) := X3.cell 1
              by_cases hlt2 : k < m
              · have hki2 : (k : Int) < m := by omega
                by_cases hki : k = i
                · have hb : ((k : Int) != (i : Int)) = false := by simp [hki]
                  have Hs : Hid (l = ((List.range (k + 1)).filter fun x => decide (x ≠ i)).map fun x : Nat => (x : Int)) := by
                    rw [Hid, range_filter_succ, ← Hf.out, if_neg (by simp [hki]), List.append_nil]
                  clear hki
                  go_wp2
                  go_roundw
                  case rel => exact ⟨k + 1, n', cap, _, _, by omega, by go_num, rfl, by omega, Hl, hO, hB2, Hs⟩
                  case measure => simp [intOf]; omega
                · have hb : ((k : Int) != (i : Int)) = true := by simp; omega
                  have Hs : Hid (l ++ [(k : Int)] = ((List.range (k + 1)).filter fun x => decide (x ≠ i)).map fun x : Nat => (x : Int)) := by
                    rw [Hid, range_filter_succ, ← Hf.out, if_pos (decide_eq_true hki)]
                  clear hki
                  go_wp2_with (at_builtin; refine wpList_append_n _ rfl _ _ _ rfl IntR.good wo.heap.size 3 i0 _ 8 Tryd.underlying34 hi0 hz0 hz1 hz2 rfl (by omega) _ l (k : Int) n' Hl.out rfl (hO.alloc IntR.good _) ⟨_, 0, none⟩ 1 [.int .i64 k] rfl rfl (news_new rfl rfl) ?c1 ?c2 ?c3 (fun h => h) ?_)
                  case c1 => simp only [maxLen]; omega
                  case c2 => omega
                  case c3 => have := hB2.size; simp; omega
                  intro A2 cap2 w2 hO2 hg2 _
                  have hB3 : Below wo.heap.size wo w2 := bl_grown (bl_alloc hB2 _ (Nat.le_refl _)) (hO.alloc IntR.good _) hg2 (Nat.le_refl _) (Nat.le_refl _)
                  clear hg2 hO
                  go_wp2
                  go_roundw
                  case rel => exact ⟨k + 1, n' + 1, cap2, _, _, by omega, by go_num, rfl, by omega, by rw [Hid, List.length_append, Hl.out]; rfl, hO2, hB3, Hs⟩
                  case measure => simp [intOf]; omega
              · obtain rfl : m = k := by omega
                have hki2 : ¬ (m : Int) < m := by omega
                have hL : Ints (fun k => wo.heap.size ≤ k) wr A' n' (restL i m) := by
                  have hS := hO.slice (T := fun k => wo.heap.size ≤ k) IntR.good rfl (by simp only [maxLen]; omega) (fun _ h => h.elim) (fun _ h _ => h)
                  rw [Hf.out] at hS
                  exact hS
                clear hO Hf Hl
                have hB4 := bl_call hB hB2 (Nat.le_refl _)
                have b6 := bl_call b5 hB4 (Nat.le_refl _)
                have q0 : wr.cell? ⟨w.heap.size, 0, none⟩ = some (.slice A n ca) := X3.cell 0
                have q2 : wr.cell? ⟨w.heap.size, 2, none⟩ = some (.slice C q cc) := X3.cell 2
                go_wp2_with fail
                clear q0 q1 q2
                refine (only_any wr (e1.keep (Keeps.below b6)) hm5 hL).mono ?_
                rintro e w1 ⟨B', m', cb', rfl, hm', hC', k1⟩
                have hB5 := bl_call hB4 k1 (by have := hB4.size; omega)
                have b7 := bl_call b5 hB5 (Nat.le_refl _)
                go_wp2_with fail
                refine (bmust_any w1 (t0.bl b7) hC' hca hm').mono ?_
                rintro e w2 ⟨A4, n4, c4, A5, n5, c5, rfl, _, _, k2⟩
                rw [Hrest.out i hlt]
                obtain ⟨lo, hi', ham, hlo, hhi⟩ := Ham.out i hlt
                obtain ⟨g, hg⟩ : ∃ g : Int, (if decide ((i : Int) ∈ mustL c) = true then (8 : Int) else 0) = g := ⟨_, rfl⟩
                rw [hg]
                have Hg := Lib.hid hg
                have Hlo := Lib.hid hlo
                have Hhi := Lib.hid hhi
                clear hg hlo hhi
                have hB6 := bl_call hB5 k2 (by have := hB5.size; omega)
                have b8 := bl_call b5 hB6 (Nat.le_refl _)
                have X4 := X1.bl b8
                have q0 : w2.cell? ⟨w.heap.size, 0, none⟩ = some (.slice A n ca) := X4.cell 0
                have q1 : w2.cell? ⟨w.heap.size, 1, none⟩ = some (.slice B m cb) := X4.cell 1
                have q2 : w2.cell? ⟨w.heap.size, 2, none⟩ = some (.slice C q cc) := X4.cell 2
                go_wp2_with fail
                clear q0 q1 q2
                refine (bamount_any (i : Int) w2 (e1.keep (Keeps.below b8)) hca hcb).mono ?_
                rintro e w3 ⟨rfl, k3⟩
                rw [ham]
                have hB7 := bl_call hB6 k3 (by have := hB6.size; omega)
                have hB8 := bl_alloc hB7 (.cells #[.int .i64 lo, .int .i64 hi'] 44) (Nat.le_refl _)
                have Y1 : Blk (w3.alloc (.cells #[.int .i64 lo, .int .i64 hi'] 44)) w3.heap.size 44 #[.int .i64 lo, .int .i64 hi'] := Blk.new _ _ _ rfl
                have j1 := hI1.keep IntR.good (Keeps.below hB8)
                have j2 := hI2.keep IntR.good (Keeps.below hB8)
                go_wp2
                obtain ⟨w4, hw4⟩ : ∃ w4, w3.alloc (.cells #[.int .i64 lo, .int .i64 hi'] 44) = w4 := ⟨_, rfl⟩
                rw [hw4] at hB8 Y1 j1 j2 ⊢
                clear hw4 hB7 hB6 hB5 k1 k2 k3 X4 b7 b8 b6
                have y0 := Y1.c0
                have y1 := Y1.c1
                obtain ⟨d1, hd1⟩ : ∃ d1, decide ((i : Int) ∈ mustL c) = d1 := ⟨_, rfl⟩
                obtain ⟨d2, hd2⟩ : ∃ d2, decide ((i : Int) ∈ mayL c) = d2 := ⟨_, rfl⟩
                have HH1 : Hid (∀ z, Calls Tryd.prog 46 #[.slice A1 n1 c1, .int .i64 i] (w4.drewN z) (fun e w' => e = .returned (.bool d1) ∧ w' = w4.drewN z)) := fun z => (has_any (c := c1) (i : Int) _ (j1.keep IntR.good (Keeps.drewN _ _))).mono fun e w' hh => ⟨by rw [hh.1, hd1], hh.2.symm⟩
                have HH2 : Hid (∀ z, Calls Tryd.prog 46 #[.slice A2 n2 c2, .int .i64 i] (w4.drewN z) (fun e w' => e = .returned (.bool d2) ∧ w' = w4.drewN z)) := fun z => (has_any (c := c2) (i : Int) _ (j2.keep IntR.good (Keeps.drewN _ _))).mono fun e w' hh => ⟨by rw [hh.1, hd2], hh.2.symm⟩
                have hg1 : (g == 8) = d1 := by
                  rw [← Hg.out, hd1]; cases d1 <;> rfl
                have hlo1 : decide (0 < lo) = d1 := by rw [← hd1, decide_eq_decide]; exact Hlo.out
                have hhi1 : decide (0 < hi') = d2 := by rw [← hd2, decide_eq_decide]; exact Hhi.out
                have hlo2 : decide (lo > 0) = d1 := hlo1
                have hhi2 : decide (hi' > 0) = d2 := hhi1
                have n1' : (d1 != d1) = false := by simp
                have n2' : (d2 != d2) = false := by simp
                clear hd1 hd2 Hg Hlo Hhi j1 j2 Y1
                go_quiet (first | (go_at_call 46; first | (with_reducible refine Calls.quiet_of_same (n := _) (HH1.out _)) | (with_reducible refine Calls.quiet_of_same (n := _) (HH2.out _))))
                go_wp2
                go_roundw
                case rel => exact ⟨i + 1, by omega, by go_num, bl_drewN hB8 _⟩
                case measure => simp [intOf]; omega
          · have hii : ¬ (i : Int) < m := by omega
            go_wp2_with fail
            refine (awake_any _ (t0.bl hBr)).mono ?_
            rintro e u4 ⟨rfl, b4⟩
            go_wp2
            go_ret
            exact ⟨rfl, bl_call (bl_call hB0 hBr (Nat.le_refl _)) b4 (Nat.le_refl _)⟩

end Go.Proofs.YtkbpmcpmcmnfgaaDoor
