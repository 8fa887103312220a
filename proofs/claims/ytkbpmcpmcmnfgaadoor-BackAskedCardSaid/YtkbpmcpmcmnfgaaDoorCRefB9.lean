/- Walks: the reference of layer 12: Plainest, Wrong. -/
import Derived.Test.YtkbpmcpmcmnfgaaDoorCRefB8
set_option linter.unusedVariables false
set_option linter.unusedSimpArgs false
set_option linter.all false
namespace Go.Proofs.YtkbpmcpmcmnfgaaDoor
open Go.RowKit

theorem plainOf_snoc {l : List (List Int)} (h : l ≠ []) (t : List Int) : plainOf (l ++ [t]) = better (plainOf l) t := by
  cases l with
  | nil => exact absurd rfl h
  | cons x l => simp [plainOf, List.foldl_append]
theorem plainOf_mem {l : List (List Int)} (h : l ≠ []) : plainOf l ∈ l := by
  cases l with
  | nil => exact absurd rfl h
  | cons x l =>
    have key : ∀ (l : List (List Int)) (x : List Int), l.foldl better x = x ∨ l.foldl better x ∈ l := by
      intro l
      induction l with
      | nil => intro x; exact .inl rfl
      | cons y l ih =>
        intro x
        rw [List.foldl_cons]
        rcases ih (better x y) with h | h
        · rw [h]; unfold better; split
          · exact .inr (List.mem_cons_self)
          · exact .inl rfl
        · exact .inr (List.mem_cons_of_mem _ h)
    rcases key l x with h | h
    · rw [plainOf, h]; exact List.mem_cons_self
    · exact List.mem_cons_of_mem _ h
theorem fewOf_snoc {l : List (List Int)} (h : l ≠ []) (t : List Int) : fewOf (l ++ [t]) = fewer (fewOf l) t := by
  cases l with
  | nil => exact absurd rfl h
  | cons x l => simp [fewOf, List.foldl_append]
theorem take_ne {α : Type} {l : List α} {k : Nat} (hk : 1 ≤ k) (h : l ≠ []) : l.take k ≠ [] := by
  intro e; rw [List.take_eq_nil_iff] at e; rcases e with e | e
  · omega
  · exact h e
theorem take_one {α : Type} {l : List α} {x : α} (h : l[0]? = some x) : l.take 1 = [x] := by
  cases l with
  | nil => simp at h
  | cons y l => simp at h; simp [h]

set_option maxRecDepth 100000 in
set_option maxHeartbeats 4000000 in
theorem plain12_any {A B C : Option Addr} {n ca m cb q cc : Nat} {c : Claim} (w : World) (h : ClaimAt (fun _ => True) w A n B m C q c) :
    Calls Tryd.prog 21 #[.agg #[.slice A n ca, .slice B m cb, .slice C q cc]] w fun e w' => ∃ A1 n1 c1, e = .returned (.tuple #[.slice A1 n1 c1, .int .i64 (plainR c).2]) ∧ Ints (fun _ => True) w' A1 n1 (plainR c).1 ∧ Below w.heap.size w w' := by
  rcases ways c with he | ⟨he, ha⟩ | ⟨he, ha⟩
  · have hbe : ((check c).2.2 != 0) = true := by simpa [err] using he
    have HR : Hid (plainR c = ([], err c)) := by rw [Hid, plainR, err8_bad he, if_pos he]
    have he' : (check c).2.2 ≠ 0 := he
    have Hop := Lib.hid fun w0 h0 => open_bad (A := A) (n := n) (ca := ca) (B := B) (m := m) (cb := cb) (C := C) (q := q) (cc := cc) (c := c) w0 h0 he'
    clear he he'
    go_enter Tryd.func21, Tryd.ntmps21
    go_wp2_with (go_at_call 68; refine (Hop.out _ (h.keep (Keeps.alloc _ _))).mono ?_; rintro e w1 ⟨rfl, hb1⟩)
    go_ret2
    exact ⟨none, 0, 0, by rw [HR.out]; rfl, by rw [HR.out]; exact SliceOf.nil _ _ _ _ _, bl_call (bl_alloc (Below.refl _ _) _ (Nat.le_refl _)) hb1 (Nat.le_refl _)⟩
  · have HR : Hid (plainR c = ([], 8)) := by rw [Hid, plainR, err8_none he ha, if_pos (by decide)]
    have he' : (check c).2.2 = 0 := he
    have Hop := Lib.hid fun w0 h0 => open_none (A := A) (n := n) (ca := ca) (B := B) (m := m) (cb := cb) (C := C) (q := q) (cc := cc) (c := c) w0 h0 he' ha
    clear he he' ha
    go_enter Tryd.func21, Tryd.ntmps21
    go_wp2_with (go_at_call 68; refine (Hop.out _ (h.keep (Keeps.alloc _ _))).mono ?_; rintro e w1 ⟨rfl, hb1⟩)
    go_ret2
    exact ⟨none, 0, 0, by rw [HR.out]; rfl, by rw [HR.out]; exact SliceOf.nil _ _ _ _ _, bl_call (bl_alloc (Below.refl _ _) _ (Nat.le_refl _)) hb1 (Nat.le_refl _)⟩
  · have hok := okC_of he
    have HR : Hid (plainR c = (plainOf (agreeL c), 0)) := by rw [Hid, plainR, err8_ok he ha, if_neg (by decide)]
    have he' : (check c).2.2 = 0 := he
    have Hop := Lib.hid fun w0 h0 => open_ok (A := A) (n := n) (ca := ca) (B := B) (m := m) (cb := cb) (C := C) (q := q) (cc := cc) (c := c) w0 h0 he' ha
    have Ha := Lib.hid ha
    have Hshort : Hid (∀ t ∈ agreeL c, t.length ≤ 5) := fun t ht => by rw [(allT_ok hok (List.mem_filter.1 ht).1).1]; exact hok.nc
    clear he he' ha
    go_enter Tryd.func21, Tryd.ntmps21
    go_wp2_with (go_at_call 68; refine (Hop.out _ (h.keep (Keeps.alloc _ _))).mono ?_; rintro e wa ⟨At, nt, ct, rfl, hT, hb1⟩)
    have hBwa : Below w.heap.size w wa := bl_call (bl_alloc (Below.refl _ _) _ (Nat.le_refl _)) hb1 (Nat.le_refl _)
    have hntl : nt ≤ 32768 := by rw [← hT.len]; exact Nat.le_trans (List.length_filter_le _ _) (allT_len hok).1
    have Hnt := Lib.hid hT.len
    have hnt1 : 0 < nt := by rw [← hT.len]; exact List.length_pos_iff.2 Ha.out
    have hnt1i : (0 : Int) < nt := by omega
    clear h hb1 Hop
    obtain ⟨bt, ot, t0, A0, n0, c0, rfl, hc0, hV0, H0⟩ := Rows.get hT hnt1
    simp only [Nat.add_zero] at hc0
    go_wp2
    go_simp
    go_wp2
    go_loopw [6, 7] (fun v i wr => ∃ (k nb cb : Nat) (Ab : Option Addr) (bst : List Int), 1 ≤ k ∧ k ≤ nt ∧ i = .int .i64 k ∧ v = .slice Ab nb cb ∧ Ints (fun _ => True) wr Ab nb bst ∧ Below wa.heap.size wa wr ∧ Hid (bst = plainOf ((agreeL c).take k))) (fun _ i _ => nt - (intOf i).toNat)
    case atStart => exact ⟨1, n0, c0, A0, t0, Nat.le_refl _, hnt1, rfl, rfl, hV0, Below.refl _ _, by rw [Hid, take_one H0.out]; rfl⟩
    case round =>
      obtain ⟨k, nb, cb, Ab, bst, hk1, hk, rfl, rfl, hbst, hB, Hb⟩ := hrel
      by_cases hlt : k < nt
      · obtain ⟨b2, o2, t, Av, nv, cv, hAe, hct, hV, Hot⟩ := Rows.get (hT.keep (SlR.good IntR.good) (Keeps.below hB)) hlt
        obtain ⟨rfl, rfl⟩ : bt = b2 ∧ ot = o2 := by injection hAe with hAe; injection hAe with e1 e2; exact ⟨e1, e2⟩
        have hnv : nv ≤ 1000000 := by rw [← hV.len]; have := Hshort.out t (List.mem_of_getElem? Hot.out); omega
        have hnb : nb ≤ 1000000 := by
          rw [← hbst.len, Hb.out]
          have := Hshort.out _ (List.mem_of_mem_take (plainOf_mem (take_ne hk1 Ha.out))); omega
        have Hs : Hid (plainOf ((agreeL c).take (k + 1)) = if lessL (setL t) (setL bst) then t else bst) := by
          rw [Hid, take_snoc_get Hot.out, plainOf_snoc (take_ne hk1 Ha.out), ← Hb.out]; rfl
        go_wp2_with fail
        refine (set_any _ hV hnv).mono ?_
        rintro e w1 ⟨A1, n1, c1, rfl, hW1, hb1⟩
        go_wp2_with fail
        refine (set_any _ (hbst.keep IntR.good (Keeps.below hb1)) hnb).mono ?_
        rintro e w2 ⟨A2, n2, c2, rfl, hW2, hb2⟩
        go_wp2_with fail
        refine (less_any _ (hW1.keep IntR.good (Keeps.below hb2)) hW2).mono ?_
        rintro e w3 ⟨rfl, q3, rfl⟩
        have hB3 := bl_drewN (bl_call (bl_call hB hb1 (Nat.le_refl _)) hb2 (Nat.le_refl _)) q3
        have hV3 := ((hV.keep IntR.good (Keeps.below hb1)).keep IntR.good (Keeps.below hb2)).keep IntR.good (Keeps.drewN _ q3)
        have hbst3 := ((hbst.keep IntR.good (Keeps.below hb1)).keep IntR.good (Keeps.below hb2)).keep IntR.good (Keeps.drewN _ q3)
        have hct3 := getc (bl_drewN hb2 q3) (getc hb1 hct)
        have hbt3 := World.block_lt_of_cell? _ _ hct3
        dsimp only at hbt3
        clear hV hbst hct hb1 hb2 hB hW1 hW2
        cases hl : lessL (setL t) (setL bst)
        · go_wp2
          go_roundw
          case rel => exact ⟨k + 1, nb, cb, Ab, bst, by omega, by omega, by go_num, rfl, hbst3, hB3, by rw [Hid, Hs.out, hl]; rfl⟩
          case measure => simp [intOf]; omega
        · go_wp2
          go_roundw
          case rel => exact ⟨k + 1, nv, cv, Av, t, by omega, by omega, by go_num, rfl, hV3, hB3, by rw [Hid, Hs.out, hl]; rfl⟩
          case measure => simp [intOf]; omega
      · obtain rfl : k = nt := by omega
        go_wp2
        go_ret2
        refine ⟨Ab, nb, cb, by rw [HR.out]; rfl, ?_, bl_call hBwa hB (Nat.le_refl _)⟩
        rw [HR.out]
        have : bst = plainOf (agreeL c) := by rw [Hb.out, List.take_of_length_le (by rw [Hnt.out]; exact Nat.le_refl _)]
        rw [← this]; exact hbst

theorem fewOf_mem {l : List (List Int)} (h : l ≠ []) : fewOf l ∈ l := by
  cases l with
  | nil => exact absurd rfl h
  | cons x l =>
    have key : ∀ (l : List (List Int)) (x : List Int), l.foldl fewer x = x ∨ l.foldl fewer x ∈ l := by
      intro l
      induction l with
      | nil => intro x; exact .inl rfl
      | cons y l ih =>
        intro x
        rw [List.foldl_cons]
        rcases ih (fewer x y) with h | h
        · rw [h]; unfold fewer; split
          · exact .inr (List.mem_cons_self)
          · exact .inl rfl
        · exact .inr (List.mem_cons_of_mem _ h)
    rcases key l x with h | h
    · rw [fewOf, h]; exact List.mem_cons_self
    · exact List.mem_cons_of_mem _ h

set_option maxRecDepth 100000 in
set_option maxHeartbeats 4000000 in
theorem wrong12_any {A B C : Option Addr} {n ca m cb q cc : Nat} {c : Claim} (w : World) (h : ClaimAt (fun _ => True) w A n B m C q c) :
    Calls Tryd.prog 24 #[.agg #[.slice A n ca, .slice B m cb, .slice C q cc]] w fun e w' => ∃ A1 n1 c1, e = .returned (.tuple #[.slice A1 n1 c1, .int .i64 (wrongR c).2]) ∧ Ints (fun _ => True) w' A1 n1 (wrongR c).1 ∧ Below w.heap.size w w' := by
  by_cases he : err c = 0
  · have hok := okC_of he
    have hbe : ((check c).2.2 != 0) = false := by simpa [err] using he
    have HR : Hid (wrongR c = (fewOf ((allT c.causes).map (untrueL c)), 0)) := by rw [Hid, wrongR, if_neg (by simp [he])]
    clear he
    go_enter Tryd.func24, Tryd.ntmps24
    go_wp2_with fail
    refine (check12_any _ (h.keep (Keeps.alloc _ _))).mono ?_
    rintro e w1 ⟨rfl, hb1⟩
    have h0 := box_cell hb1 (i := 0) rfl
    have h1 := box_cell hb1 (i := 1) rfl
    have h2 := box_cell hb1 (i := 2) rfl
    have hc1 := (h.keep (Keeps.alloc _ _)).keep (Keeps.below hb1)
    have hB1 := bl_call (bl_alloc (Below.refl _ _) _ (Nat.le_refl _)) hb1 (Nat.le_refl _)
    clear h hb1
    go_wp2_with fail
    refine (all_any w1 hc1 hok).mono ?_
    rintro e wa ⟨At, nt, ct, rfl, hT, hBa⟩
    have hBwa := bl_call hB1 hBa (Nat.le_refl _)
    have hntl : nt ≤ 32768 := by rw [← hT.len]; exact (allT_len hok).1
    have hnt1 : 0 < nt := by rw [← hT.len]; exact (allT_len hok).2
    have hnt1i : (0 : Int) < nt := by omega
    have Hnt := Lib.hid hT.len
    have hca := hc1.keep (Keeps.below hBa)
    have h0a := getc hBa h0
    have h1a := getc hBa h1
    have h2a := getc hBa h2
    have Hne : Hid (allT c.causes ≠ []) := fun e => by have := (allT_len hok).2; rw [e] at this; simp at this
    clear h0 h1 h2 hc1 hB1 hBa
    obtain ⟨bt, ot, t0, A0, n0, c0, rfl, hc0, hV0, H0⟩ := Rows.get hT hnt1
    simp only [Nat.add_zero] at hc0
    obtain ⟨_, hT0⟩ := allT_ok hok (List.mem_of_getElem? H0.out)
    go_wp2
    go_still_tail 4, (by kernel_rfl)
    go_wp2_with fail
    refine (untrue_any _ (hca.keep (Keeps.drew _)) hok (hV0.keep IntR.good (Keeps.drew _)) hT0).mono ?_
    rintro e wb ⟨Au0, nu0, cu0, rfl, hU0, hBb⟩
    have hBab : Below wa.heap.size wa wb := bl_call (Below.refl _ _).drew hBb (Nat.le_refl _)
    clear hBb hV0 hc0
    go_wp2
    go_loopw [8, 9] (fun v i wr => ∃ (k nb cb : Nat) (Ab : Option Addr) (bst : List Int), 1 ≤ k ∧ k ≤ nt ∧ i = .int .i64 k ∧ v = .slice Ab nb cb ∧ Ints (fun _ => True) wr Ab nb bst ∧ Below wa.heap.size wa wr ∧ Hid (bst = fewOf (((allT c.causes).take k).map (untrueL c)))) (fun _ i _ => nt - (intOf i).toNat)
    case atStart => exact ⟨1, nu0, cu0, Au0, _, Nat.le_refl _, hnt1, rfl, rfl, hU0.mono IntR.good (fun _ _ => trivial), hBab, by rw [Hid, take_one H0.out]; rfl⟩
    case round =>
      obtain ⟨k, nb, cb, Ab, bst, hk1, hk, rfl, rfl, hbst, hB, Hb⟩ := hrel
      by_cases hlt : k < nt
      · obtain ⟨b2, o2, t, Av, nv, cv, hAe, hct, hV, Hot⟩ := Rows.get (hT.keep (SlR.good IntR.good) (Keeps.below hB)) hlt
        obtain ⟨rfl, rfl⟩ : bt = b2 ∧ ot = o2 := by injection hAe with hAe; injection hAe with e1 e2; exact ⟨e1, e2⟩
        obtain ⟨_, hTt⟩ := allT_ok hok (List.mem_of_getElem? Hot.out)
        have hbt := World.block_lt_of_cell? _ _ hct
        dsimp only at hbt
        have h0r := getc hB h0a
        have h1r := getc hB h1a
        have h2r := getc hB h2a
        have hcr := hca.keep (Keeps.below hB)
        have Hs : Hid (fewOf (((allT c.causes).take (k + 1)).map (untrueL c)) = if lessL (untrueL c t) bst then untrueL c t else bst) := by
          rw [Hid, take_snoc_get Hot.out, List.map_append, List.map_cons, List.map_nil, fewOf_snoc (by simp only [ne_eq, List.map_eq_nil_iff]; exact take_ne hk1 Hne.out), ← Hb.out]; rfl
        go_wp2
        go_still_tail 5, (by kernel_rfl)
        go_wp2_with fail
        refine (untrue_any _ (hcr.keep (Keeps.drew _)) hok (hV.keep IntR.good (Keeps.drew _)) hTt).mono ?_
        rintro e w1 ⟨A1, n1, c1, rfl, hU, hb1⟩
        have hbst1 := (hbst.keep IntR.good (Keeps.drew _)).keep IntR.good (Keeps.below hb1)
        have hB1 := bl_call hB.drew hb1 (Nat.le_refl _)
        clear hb1 hB hbst h0r h1r h2r hcr hV hct
        go_wp2_with fail
        refine (less_any _ hU hbst1).mono ?_
        rintro e w3 ⟨rfl, q3, rfl⟩
        have hB3 := bl_drewN hB1 q3
        have hU3 := (hU.mono IntR.good (T := fun _ => True) (fun _ _ => trivial)).keep IntR.good (Keeps.drewN _ q3)
        have hbst3 := hbst1.keep IntR.good (Keeps.drewN _ q3)
        clear hU hbst1 hB1
        cases hl : lessL (untrueL c t) bst
        · go_wp2
          go_roundw
          case rel => exact ⟨k + 1, nb, cb, Ab, bst, by omega, by omega, by go_num, rfl, hbst3, hB3, by rw [Hid, Hs.out, hl]; rfl⟩
          case measure => simp [intOf]; omega
        · go_wp2
          go_roundw
          case rel => exact ⟨k + 1, n1, c1, A1, _, by omega, by omega, by go_num, rfl, hU3, hB3, by rw [Hid, Hs.out, hl]; rfl⟩
          case measure => simp [intOf]; omega
      · obtain rfl : k = nt := by omega
        go_wp2
        go_ret2
        refine ⟨Ab, nb, cb, by rw [HR.out]; rfl, ?_, bl_call hBwa hB (Nat.le_refl _)⟩
        rw [HR.out]
        have : bst = fewOf ((allT c.causes).map (untrueL c)) := by rw [Hb.out, List.take_of_length_le (by rw [Hnt.out]; exact Nat.le_refl _)]
        rw [← this]; exact hbst
  · have hbe : ((check c).2.2 != 0) = true := by simpa [err] using he
    have HR : Hid (wrongR c = ([], err c)) := by rw [Hid, wrongR, if_pos he]
    clear he
    go_enter Tryd.func24, Tryd.ntmps24
    go_wp2_with (go_at_call 16; refine (check12_any _ (h.keep (Keeps.alloc _ _))).mono ?_; rintro e w1 ⟨rfl, hb1⟩)
    go_ret2
    exact ⟨none, 0, 0, by rw [HR.out]; rfl, by rw [HR.out]; exact SliceOf.nil _ _ _ _ _, bl_call (bl_alloc (Below.refl _ _) _ (Nat.le_refl _)) hb1 (Nat.le_refl _)⟩

end Go.Proofs.YtkbpmcpmcmnfgaaDoor
