/- Walks: the reference of layer 12: truths that agree; open. -/
import Derived.Test.YtkbpmcpmcmnfgaaDoorCRefB3
set_option linter.unusedVariables false
set_option linter.unusedSimpArgs false
set_option linter.all false
namespace Go.Proofs.YtkbpmcpmcmnfgaaDoor
open Go.RowKit

theorem filter_take_succ {α : Type} {l : List α} {k : Nat} {x : α} (h : l[k]? = some x) (p : α → Bool) : (l.take (k + 1)).filter p = (l.take k).filter p ++ (if p x then [x] else []) := by
  rw [List.take_add_one, h, List.filter_append]
  by_cases hp : p x <;> simp [hp]

set_option maxRecDepth 100000 in
set_option maxHeartbeats 2000000 in
theorem agree_any {A B C : Option Addr} {n ca m cb q cc : Nat} {c : Claim} {S : Foot} (w : World) (h : ClaimAt S w A n B m C q c) (hok : OkC c) :
    Calls Tryd.prog 48 #[.agg #[.slice A n ca, .slice B m cb, .slice C q cc]] w fun e w' => ∃ A' n' c', e = .returned (.slice A' n' c') ∧ Rows (fun _ => True) w' A' n' (agreeL c) ∧ Below w.heap.size w w' := by
  obtain ⟨i1, hi1, hy0, hy1, hy2⟩ := info_parts infoInts
  obtain ⟨W, hW⟩ : ∃ W, w.alloc (.cells #[.slice A n ca, .slice B m cb, .slice C q cc] 26) = W := ⟨_, rfl⟩
  have hx0 : W.cell? ⟨w.heap.size, 0, none⟩ = some (.slice A n ca) := by rw [← hW]; exact newc rfl rfl
  have hx1 : W.cell? ⟨w.heap.size, 1, none⟩ = some (.slice B m cb) := by rw [← hW]; exact newc rfl rfl
  have hx2 : W.cell? ⟨w.heap.size, 2, none⟩ = some (.slice C q cc) := by rw [← hW]; exact newc rfl rfl
  have hc : ClaimAt S W A n B m C q c := by rw [← hW]; exact h.keep (Keeps.alloc _ _)
  have hBW : Below w.heap.size w W := by rw [← hW]; exact bl_alloc (Below.refl _ _) _ (Nat.le_refl _)
  have hWs : W.heap.size = w.heap.size + 1 := by rw [← hW]; simp
  have HW := Lib.hid hW
  have HWs := Lib.hid hWs
  clear hW hWs h
  go_enter Tryd.func48, Tryd.ntmps48
  go_wp2_with fail
  rw [HW.out]
  refine (all_any W hc hok).mono ?_
  rintro e wa ⟨Aa, na, caa, rfl, hR, hBa⟩
  have hna : na ≤ 32768 := by rw [← hR.len]; exact (allT_len hok).1
  have Hna := Lib.hid hR.len
  have hRb := hR.bound (SlR.good IntR.good)
  have hc := hc.keep (Keeps.below hBa)
  have hx0 := getc hBa hx0
  have hx1 := getc hBa hx1
  have hx2 := getc hBa hx2
  clear hR
  go_wp2
  go_loopw [4, 5] (fun v i wr => ∃ (k n' cap : Nat) (A' : Option Addr) (l : List (List Int)), k ≤ na ∧ i = .int .i64 k ∧ v = .slice A' n' cap ∧ n' ≤ k ∧ Hid (l.length = n') ∧ OwnL (SlR IntR 1) 1 (fun k => k < wa.heap.size) wr wa.heap.size 34 (.slice A' n' cap) l ∧ Below wa.heap.size wa wr ∧ Hid (l = ((allT c.causes).take k).filter fun t => (untrueL c t).isEmpty)) (fun _ i _ => na - (intOf i).toNat)
  case atStart => exact ⟨0, 0, 0, none, [], Nat.zero_le _, rfl, rfl, Nat.le_refl _, rfl, OwnL.nil _ _ _ _ _ _, Below.refl _ _, rfl⟩
  case round =>
    obtain ⟨k, n', cap, A', l, hk, rfl, rfl, hn', Hl, hO, hB, Hf⟩ := hrel
    by_cases hlt : k < na
    · have hy0' := getc hB hx0
      have hy1' := getc hB hx1
      have hy2' := getc hB hx2
      have hcr := hc.keep (Keeps.below hB)
      have hRr := hRb.keep (SlR.good IntR.good) (Keeps.below hB)
      obtain ⟨bo, oo, u, Au, nu, cu, rfl, hco, hU, Hou⟩ := Rows.get hRr hlt
      have hbo := World.block_lt_of_cell? wr _ hco
      dsimp only at hbo
      obtain ⟨_, hT⟩ := allT_ok hok (List.mem_of_getElem? Hou.out)
      have Hstep := Lib.hid (filter_take_succ Hou.out fun t => (untrueL c t).isEmpty)
      go_wp2
      go_still_tail 5, (by kernel_rfl)
      go_wp2_with fail
      refine (untrue_any _ (hcr.keep (Keeps.drew _)) hok (hU.keep IntR.good (Keeps.drew _)) hT).mono ?_
      rintro e w1 ⟨A1, n1, c1, rfl, hU1, hb1⟩
      have hco1 := getc hb1 (show wr.drew.cell? _ = _ from hco)
      have hB1 := bl_call hB.drew hb1 (Nat.le_refl _)
      have hO1 := (hO.keep (SlR.good IntR.good) (Keeps.drew _)).below (SlR.good IntR.good) hb1
      have hU2 := (hU.keep IntR.good (Keeps.drew _)).keep IntR.good (Keeps.below hb1)
      have hlen1 := hU1.len
      have hlt1 : wa.heap.size ≤ w1.heap.size := hB1.size
      clear hRr hcr hy0' hy1' hy2' hU hco hO hB hb1
      by_cases h0 : n1 = 0
      · subst h0
        have hem : untrueL c u = [] := List.eq_nil_of_length_eq_zero hlen1
        have Hs : Hid (l ++ [u] = ((allT c.causes).take (k + 1)).filter fun t => (untrueL c t).isEmpty) := by rw [Hid, Hstep.out, ← Hf.out, hem]; rfl
        clear hem hlen1
        go_wp2_with (at_builtin; refine wpList_append_n _ rfl _ _ _ rfl (SlR.good IntR.good) wa.heap.size 34 i1 _ 24 Tryd.underlying30 hi1 hy0 hy1 hy2 rfl (by omega) _ l u n' Hl.out rfl (hO1.alloc (SlR.good IntR.good) _) ⟨_, 0, none⟩ 1 [.slice Au nu cu] rfl ⟨_, _, _, rfl, (hU2.keep IntR.good (Keeps.alloc _ _)).mono IntR.good (fun g hg => hg.2)⟩ (news_new rfl rfl) ?c1 ?c2 ?c3 (fun h => by simp at h; omega) ?_)
        case c1 => simp only [maxLen]; omega
        case c2 => omega
        case c3 => simp; omega
        intro A2 cap2 w2 hO3 hg2 _
        have hB3 : Below wa.heap.size wa w2 := bl_grown (bl_alloc hB1 _ (Nat.le_refl _)) (hO1.alloc (SlR.good IntR.good) _) hg2 (Nat.le_refl _) (Nat.le_refl _)
        clear hg2 hO1 hB1
        go_wp2
        go_roundw
        case rel => exact ⟨k + 1, n' + 1, cap2, _, _, by omega, by go_num, rfl, by omega, by rw [Hid, List.length_append, Hl.out]; rfl, hO3, hB3, Hs⟩
        case measure => simp [intOf]; omega
      · have hbe : ((n1 : Int) == 0) = false := by simp; omega
        have Hs : Hid (l = ((allT c.causes).take (k + 1)).filter fun t => (untrueL c t).isEmpty) := by
          rw [Hid, Hstep.out, ← Hf.out, if_neg, List.append_nil]
          intro he; rw [List.isEmpty_iff] at he; rw [he] at hlen1; simp at hlen1; omega
        clear h0 hlen1
        go_wp2
        go_roundw
        case rel => exact ⟨k + 1, n', cap, _, _, by omega, by go_num, rfl, by omega, Hl, hO1, hB1, Hs⟩
        case measure => simp [intOf]; omega
    · obtain rfl : k = na := by omega
      go_wp2
      go_ret
      refine ⟨A', n', cap, rfl, ?_, bl_call (bl_call hBW hBa (Nat.le_refl _)) hB (Nat.le_refl _)⟩
      have hS := hO.slice (T := fun _ => True) (SlR.good IntR.good) rfl (by simp only [maxLen]; omega) (fun _ _ => trivial) (fun _ _ _ => trivial)
      rw [Hf.out, List.take_of_length_le (by rw [Hna.out]; exact Nat.le_refl _)] at hS
      exact hS

set_option maxHeartbeats 1000000 in
theorem open_bad {A B C : Option Addr} {n ca m cb q cc : Nat} {c : Claim} (w : World) (h : ClaimAt (fun _ => True) w A n B m C q c) (he : (check c).2.2 ≠ 0) :
    Calls Tryd.prog 68 #[.agg #[.slice A n ca, .slice B m cb, .slice C q cc]] w fun e w' => e = .returned (.tuple #[.slice none 0 0, .int .i64 (check c).2.2]) ∧ Below w.heap.size w w' := by
  have hbe : ((check c).2.2 != 0) = true := by simpa using he
  have HE := Lib.hid he
  clear he
  go_enter Tryd.func68, Tryd.ntmps68
  go_wp2_with (go_at_call 16; refine (check12_any _ (h.keep (Keeps.alloc _ _))).mono ?_; rintro e w1 ⟨rfl, hb1⟩)
  go_ret2
  exact ⟨rfl, bl_call (bl_alloc (Below.refl _ _) _ (Nat.le_refl _)) hb1 (Nat.le_refl _)⟩

set_option maxHeartbeats 1000000 in
theorem open_none {A B C : Option Addr} {n ca m cb q cc : Nat} {c : Claim} (w : World) (h : ClaimAt (fun _ => True) w A n B m C q c) (he : (check c).2.2 = 0) (ha : agreeL c = []) :
    Calls Tryd.prog 68 #[.agg #[.slice A n ca, .slice B m cb, .slice C q cc]] w fun e w' => e = .returned (.tuple #[.slice none 0 0, .int .i64 8]) ∧ Below w.heap.size w w' := by
  have hok := okC_of he
  have hbe : ((check c).2.2 != 0) = false := by simpa using he
  have HA := Lib.hid ha
  clear he ha
  have hx : ∀ {w1 : World} {i : Nat} {v : Value}, Below (w.alloc (.cells #[.slice A n ca, .slice B m cb, .slice C q cc] 26)).heap.size (w.alloc (.cells #[.slice A n ca, .slice B m cb, .slice C q cc] 26)) w1 → #[Value.slice A n ca, .slice B m cb, .slice C q cc][i]? = some v → w1.cell? ⟨w.heap.size, i, none⟩ = some v := fun hb hi => getc hb (newc hi rfl)
  go_enter Tryd.func68, Tryd.ntmps68
  go_wp2_with fail
  refine (check12_any _ (h.keep (Keeps.alloc _ _))).mono ?_
  rintro e w1 ⟨rfl, hb1⟩
  have h0 := hx hb1 (i := 0) rfl
  have h1 := hx hb1 (i := 1) rfl
  have h2 := hx hb1 (i := 2) rfl
  clear hx
  go_wp2_with fail
  refine (agree_any _ ((h.keep (Keeps.alloc _ _)).keep (Keeps.below hb1)) hok).mono ?_
  rintro e w2 ⟨A2, n2, c2, rfl, hR, hb2⟩
  have hn2 : n2 = 0 := by rw [← hR.len, HA.out]; rfl
  subst hn2
  go_wp2
  go_ret2
  exact ⟨rfl, bl_call (bl_call (bl_alloc (Below.refl _ _) _ (Nat.le_refl _)) hb1 (Nat.le_refl _)) hb2 (Nat.le_refl _)⟩

set_option maxHeartbeats 1000000 in
theorem open_ok {A B C : Option Addr} {n ca m cb q cc : Nat} {c : Claim} (w : World) (h : ClaimAt (fun _ => True) w A n B m C q c) (he : (check c).2.2 = 0) (ha : agreeL c ≠ []) :
    Calls Tryd.prog 68 #[.agg #[.slice A n ca, .slice B m cb, .slice C q cc]] w fun e w' => ∃ A' n' c', e = .returned (.tuple #[.slice A' n' c', .int .i64 0]) ∧ Rows (fun _ => True) w' A' n' (agreeL c) ∧ Below w.heap.size w w' := by
  have hok := okC_of he
  have hbe : ((check c).2.2 != 0) = false := by simpa using he
  have HA := Lib.hid ha
  clear he ha
  have hx : ∀ {w1 : World} {i : Nat} {v : Value}, Below (w.alloc (.cells #[.slice A n ca, .slice B m cb, .slice C q cc] 26)).heap.size (w.alloc (.cells #[.slice A n ca, .slice B m cb, .slice C q cc] 26)) w1 → #[Value.slice A n ca, .slice B m cb, .slice C q cc][i]? = some v → w1.cell? ⟨w.heap.size, i, none⟩ = some v := fun hb hi => getc hb (newc hi rfl)
  go_enter Tryd.func68, Tryd.ntmps68
  go_wp2_with fail
  refine (check12_any _ (h.keep (Keeps.alloc _ _))).mono ?_
  rintro e w1 ⟨rfl, hb1⟩
  have h0 := hx hb1 (i := 0) rfl
  have h1 := hx hb1 (i := 1) rfl
  have h2 := hx hb1 (i := 2) rfl
  clear hx
  go_wp2_with fail
  refine (agree_any _ ((h.keep (Keeps.alloc _ _)).keep (Keeps.below hb1)) hok).mono ?_
  rintro e w2 ⟨A2, n2, c2, rfl, hR, hb2⟩
  have hn2 : n2 ≠ 0 := by rw [← hR.len]; intro h; exact HA.out (List.eq_nil_of_length_eq_zero h)
  have hbn : ((n2 : Int) == 0) = false := by simp; omega
  clear hn2
  go_wp2
  go_ret2
  exact ⟨A2, n2, c2, rfl, hR, bl_call (bl_call (bl_alloc (Below.refl _ _) _ (Nat.le_refl _)) hb1 (Nat.le_refl _)) hb2 (Nat.le_refl _)⟩

end Go.Proofs.YtkbpmcpmcmnfgaaDoor
