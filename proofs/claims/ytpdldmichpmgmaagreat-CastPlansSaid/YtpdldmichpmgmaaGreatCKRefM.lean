/- Walks, layer 7, the reference: Order. -/
import Derived.Test.YtpdldmichpmgmaaGreatCKRefs2
set_option linter.unusedVariables false
set_option linter.unusedSimpArgs false
set_option linter.all false
namespace Go.Proofs.YtpdldmichpmgmaaGreat
open Go.RowKit Go.Shelf

def spanE7 (p : List (Int × Int)) (k : Nat) : Int := rangeE ⟨(p.getD k (0, 0)).1, (p.getD k (0, 0)).2⟩ 0 20000
/-- the error of an order, but for truths that agree -/
def ord0 (s : Shop) (l : List SeenC) (p : List (Int × Int)) : Int :=
  if (seen7 s l).2 ≠ 0 then (seen7 s l).2 else if ¬ (1 ≤ p.length ∧ p.length ≤ 6) then 3 else
  match firstErr (spanE7 p) p.length with
  | some (_, e) => e
  | none => 0
theorem ord0_bad {s : Shop} {l : List SeenC} {p : List (Int × Int)} (e : (seen7 s l).2 ≠ 0) : ord0 s l p = (seen7 s l).2 := by rw [ord0, if_pos e]
theorem ord0_long {s : Shop} {l : List SeenC} {p : List (Int × Int)} (e : (seen7 s l).2 = 0) (h : ¬ (1 ≤ p.length ∧ p.length ≤ 6)) : ord0 s l p = 3 := by rw [ord0, if_neg (by simp [e]), if_pos h]
theorem ord0_n {s : Shop} {l : List SeenC} {p : List (Int × Int)} (e : (seen7 s l).2 = 0) (h : 1 ≤ p.length ∧ p.length ≤ 6) : ord0 s l p = match firstErr (spanE7 p) p.length with
    | some (_, e) => e
    | none => 0 := by rw [ord0, if_neg (by simp [e]), if_neg (by simp [h])]
theorem ord0_err {s : Shop} {l : List SeenC} {p : List (Int × Int)} {k : Nat} (e : (seen7 s l).2 = 0) (h : 1 ≤ p.length ∧ p.length ≤ 6) (hk : k < p.length) (hz : ∀ j, j < k → spanE7 p j = 0) (hne : spanE7 p k ≠ 0) : ord0 s l p = spanE7 p k := by
  rw [ord0_n e h, firstErr_some hk hz hne]
theorem ord0_ok {s : Shop} {l : List SeenC} {p : List (Int × Int)} (e : (seen7 s l).2 = 0) (h : 1 ≤ p.length ∧ p.length ≤ 6) (hz : ∀ j, j < p.length → spanE7 p j = 0) : ord0 s l p = 0 := by
  rw [ord0_n e h, firstErr_none hz]
theorem orderE_eq (s : Shop) (l : List SeenC) (p : List (Int × Int)) : orderE s l p = agreeE7 s l (ord0 s l p) := by
  by_cases e : (seen7 s l).2 = 0
  · by_cases h : 1 ≤ p.length ∧ p.length ≤ 6
    · unfold orderE
      rw [if_neg (by simp [e]), if_neg (by simp [h])]
      rw [ord0_n e h]
      show (match firstErr (spanE7 p) p.length with | some (_, e) => e | none => if known7 s l = [] then 9 else 0) = _
      rcases firstErr_cases (spanE7 p) p.length with ⟨h4, h5⟩ | ⟨k, _, h4, h5, _⟩
      · rw [h4]
        unfold agreeE7
        by_cases hk : known7 s l = []
        · simp [hk]
        · simp [hk]
      · rw [h4]
        dsimp only
        unfold agreeE7
        rw [if_neg (fun hh => h5 hh.1)]
    · unfold orderE
      rw [if_neg (by simp [e]), if_pos h, ord0_long e h]
      unfold agreeE7
      rw [if_neg (by simp)]
  · unfold orderE
    rw [if_pos e, ord0_bad e]
    unfold agreeE7
    rw [if_neg (by simp [e])]

set_option maxRecDepth 100000 in
set_option maxHeartbeats 4000000 in
theorem rorder7_any {A C P : Option Addr} {n ca q cc m pc : Nat} {s : Shop} {l : List SeenC} {p : List (Int × Int)} {klo khi : Int} (w : World) (g : Moulds (fun _ => True) w A n s.moulds) (gs : SeenCs (fun _ => True) w C q l) (gp : Pairs (fun _ => True) w P m p) (h1 : s.klo = klo) (h2 : s.khi = khi) :
    Calls Tryz.prog 19 #[.agg #[.int .i64 klo, .int .i64 khi, .slice A n ca], .slice C q cc, .slice P m pc] w fun e w' => e = .returned (.int .i64 (orderE s l p)) ∧ Below w.heap.size w w' := by
  have hml := gp.le
  have Hm := Lib.hid gp.len
  obtain ⟨W, hW⟩ : ∃ W, w.alloc (.cells #[.int .i64 klo, .int .i64 khi, .slice A n ca] 26) = W := ⟨_, rfl⟩
  have X : Blk W w.heap.size 26 #[.int .i64 klo, .int .i64 khi, .slice A n ca] := by rw [← hW]; exact Blk.new _ _ _ rfl
  have hBW : Below w.heap.size w W := by rw [← hW]; exact bl_alloc (Below.refl _ _) _ (Nat.le_refl _)
  have hWs := hBW.size
  have HC : Hid (∀ V, Below W.heap.size W V → Moulds (fun _ => True) V A n s.moulds) := fun V hb => (g.keep MouldR.good (Keeps.below hBW)).keep MouldR.good (Keeps.below hb)
  have HS : Hid (∀ V, Below W.heap.size W V → SeenCs (fun _ => True) V C q l) := fun V hb => (gs.keep SeenCR.good (Keeps.below hBW)).keep SeenCR.good (Keeps.below hb)
  have HP : Hid (∀ V, Below W.heap.size W V → Pairs (fun _ => True) V P m p) := fun V hb => (gp.keep PairR.good (Keeps.below hBW)).keep PairR.good (Keeps.below hb)
  have kk : Hid (∀ V, Below W.heap.size W V → V.cell? ⟨w.heap.size, 0, none⟩ = some (.int .i64 klo) ∧ V.cell? ⟨w.heap.size, 1, none⟩ = some (.int .i64 khi) ∧ V.cell? ⟨w.heap.size, 2, none⟩ = some (.slice A n ca)) := fun V hb => ⟨(X.bl hb).cell 0, (X.bl hb).cell 1, (X.bl hb).cell 2⟩
  clear X g gs gp
  obtain ⟨x0, x1, x2⟩ := kk.out W (Below.refl _ _)
  obtain ⟨F, hF⟩ : ∃ F, ord0 s l p = F := ⟨_, rfl⟩
  have HF := Lib.hid hF
  clear hF
  go_enter Tryz.func19, Tryz.ntmps19
  go_wp2_with fail
  clear hW x0 x1 x2
  refine (rseen7_any W (HC.out W (Below.refl _ _)) (HS.out W (Below.refl _ _)) h1 h2).mono ?_
  rintro e W1 ⟨rfl, b1⟩
  obtain ⟨es, hes⟩ : ∃ es, (seen7 s l).2 = es := ⟨_, rfl⟩
  obtain ⟨ei, hei⟩ : ∃ ei, (seen7 s l).1 = ei := ⟨_, rfl⟩
  rw [hes, hei]
  have HES := Lib.hid hes
  clear hei hes
  -- the end: agree
  have HEND : Hid (∀ V, Below W.heap.size W V → Calls Tryz.prog 52 #[.agg #[.int .i64 klo, .int .i64 khi, .slice A n ca], .slice C q cc, .int .i64 F] V fun e w' => e = .returned (.int .i64 (orderE s l p)) ∧ Below V.heap.size V w') := fun V hb => by
    have := ragree7_any (ca := ca) (cc := cc) F V (HC.out V hb) (HS.out V hb) h1 h2 (fun h => by
      by_cases e : (seen7 s l).2 = 0
      · exact e
      · rw [← HF.out, ord0_bad e] at h; exact h)
    rw [← HF.out, ← orderE_eq] at this
    rw [← HF.out]
    exact this
  by_cases he : es = 0
  · subst he
    by_cases hm6 : 1 ≤ m ∧ m ≤ 6
    · have hin : inB (m : Int) 1 6 = true := by simp only [inB, Bool.and_eq_true, decide_eq_true_eq]; omega
      have hm6' : 1 ≤ p.length ∧ p.length ≤ 6 := by rw [Hm.out]; exact hm6
      go_wp2_with fail
      refine (in7_any (m : Int) 1 6 W1).mono ?_
      rintro e W1' ⟨rfl, rfl⟩
      rw [hin]
      have HB1 := Lib.hid b1
      clear b1 hin
      go_wp2_with fail
      go_loopw [8, 9] (fun e i wr => ∃ (k : Nat) (ev : Int), k ≤ m ∧ i = .int .i64 k ∧ e = .int .i64 ev ∧ Hid (Below W.heap.size W wr) ∧ Hid ((ev = 0 ∧ ∀ j, j < k → spanE7 p j = 0) ∨ (ev ≠ 0 ∧ F = ev))) (fun _ i _ => m - (intOf i).toNat)
      case atStart => exact ⟨0, 0, Nat.zero_le _, rfl, rfl, HB1.out, .inl ⟨rfl, fun j hj => by omega⟩⟩
      case round =>
        obtain ⟨k, ev, hk, rfl, rfl, HB, HR⟩ := hrel
        by_cases hst : k < m ∧ ev = 0
        · obtain ⟨hlt, hev⟩ := hst
          subst hev
          have hki : (k : Int) < m := by omega
          obtain ⟨b, off, a, z, rfl, hbb, hc0, hc1, Hx⟩ := Pairs.get (HP.out wr HB.out) hlt
          have HZ : Hid (∀ j, j < k → spanE7 p j = 0) := by
            rcases HR.out with h | h
            · exact h.2
            · exact absurd rfl h.1
          have HE : Hid (spanE7 p k = rangeE ⟨a, z⟩ 0 20000) := by rw [Hid, spanE7, getD_of Hx.out]
          clear hbb
          go_wp2_with fail
          refine (range_any a z 0 20000 wr).mono ?_
          rintro e V ⟨rfl, hb⟩
          have HB2 : Hid (Below W.heap.size W V) := bl_call HB.out hb (Nat.le_refl _)
          obtain ⟨er, her⟩ : ∃ x, rangeE ⟨a, z⟩ 0 20000 = x := ⟨_, rfl⟩
          rw [her] at HE
          rw [her]
          have HR2 : Hid ((er = 0 ∧ ∀ j, j < k + 1 → spanE7 p j = 0) ∨ (er ≠ 0 ∧ F = er)) := by
            by_cases h0 : er = 0
            · exact .inl ⟨h0, upto7 HZ.out (HE.out.trans h0)⟩
            · exact .inr ⟨h0, by rw [← HF.out, ord0_err HES.out hm6' (k := k) (by rw [Hm.out]; exact hlt) HZ.out (by rw [HE.out]; exact h0), HE.out]⟩
          clear her hc0 hc1 hb
          go_wp2_with fail
          go_roundw
          case rel => exact ⟨k + 1, er, by omega, by go_num, rfl, HB2.out, HR2.out⟩
          case measure => simp [intOf]; omega
        · have HFE : Hid (F = ev) := by
            rcases HR.out with h | h
            · have : k = m := by
                by_cases h9 : k < m
                · exact absurd ⟨h9, h.1⟩ hst
                · omega
              subst this
              rw [Hid, h.1, ← HF.out, ord0_ok HES.out hm6' (by rw [Hm.out]; exact h.2)]
            · exact h.2
          have hcall := HEND.out wr HB.out
          rw [HFE.out] at hcall
          obtain ⟨x0, x1, x2⟩ := kk.out wr HB.out
          have hBl : Hid (Below w.heap.size w wr) := hBW.trans (HB.out.mono hWs)
          have hdec : ((decide ((k : Int) < m)) && (ev == 0)) = false := by
            by_cases h9 : k < m
            · have : ev ≠ 0 := fun h => hst ⟨h9, h⟩
              simp [this]
            · simp; omega
          by_cases h9 : (k : Int) < m
          · have h8 : (ev == 0) = false := by simpa [h9] using hdec
            clear hst hdec
            go_wp2_with fail
            refine hcall.mono ?_
            rintro e V ⟨rfl, hb⟩
            clear x0 x1 x2 hcall
            have B := bl_call hBl.out hb (Nat.le_refl _)
            go_wp2_with fail
            go_ret
            exact ⟨by rfl, B⟩
          · clear hst hdec
            go_wp2_with fail
            refine hcall.mono ?_
            rintro e V ⟨rfl, hb⟩
            clear x0 x1 x2 hcall
            have B := bl_call hBl.out hb (Nat.le_refl _)
            go_wp2_with fail
            go_ret
            exact ⟨by rfl, B⟩
    · have hin : inB (m : Int) 1 6 = false := by
        rw [← Bool.not_eq_true]
        simp only [inB, Bool.and_eq_true, decide_eq_true_eq]; omega
      have HF3 : Hid (F = 3) := by rw [Hid, ← HF.out, ord0_long HES.out (by rw [Hm.out]; exact hm6)]
      rw [HF3.out] at HEND
      go_wp2_with fail
      refine (in7_any (m : Int) 1 6 W1).mono ?_
      rintro e W1' ⟨rfl, rfl⟩
      rw [hin]
      have HB1 := Lib.hid b1
      have hBl : Hid (Below w.heap.size w W1) := hBW.trans (b1.mono hWs)
      clear b1 hin hm6
      go_wp2_with fail
      go_loopw [8, 9] (fun e i wr => e = .int .i64 3 ∧ i = .int .i64 0 ∧ wr = W1) (fun _ _ _ => 0)
      case atStart => exact ⟨rfl, rfl, rfl⟩
      case round =>
        obtain ⟨rfl, rfl, rfl⟩ := hrel
        have hcall := HEND.out wr HB1.out
        obtain ⟨x0, x1, x2⟩ := kk.out wr HB1.out
        rcases Nat.eq_zero_or_pos m with h0 | h0
        · subst h0
          go_wp2_with fail
          refine hcall.mono ?_
          rintro e V ⟨rfl, hb⟩
          clear x0 x1 x2 hcall
          have B := bl_call hBl.out hb (Nat.le_refl _)
          go_wp2_with fail
          go_ret
          exact ⟨by rfl, B⟩
        · go_wp2_with fail
          refine hcall.mono ?_
          rintro e V ⟨rfl, hb⟩
          clear x0 x1 x2 hcall
          have B := bl_call hBl.out hb (Nat.le_refl _)
          go_wp2_with fail
          go_ret
          exact ⟨by rfl, B⟩
  · have heb : (es == 0) = false := by simpa using he
    have HF3 : Hid (F = es) := by rw [Hid, ← HF.out, ord0_bad (by rw [HES.out]; exact he), HES.out]
    rw [HF3.out] at HEND
    have HB1 := Lib.hid b1
    have hBl : Hid (Below w.heap.size w W1) := hBW.trans (b1.mono hWs)
    clear b1 he
    go_wp2_with fail
    go_loopw [8, 9] (fun e i wr => e = .int .i64 es ∧ i = .int .i64 0 ∧ wr = W1) (fun _ _ _ => 0)
    case atStart => exact ⟨rfl, rfl, rfl⟩
    case round =>
      obtain ⟨rfl, rfl, rfl⟩ := hrel
      have hcall := HEND.out wr HB1.out
      obtain ⟨x0, x1, x2⟩ := kk.out wr HB1.out
      rcases Nat.eq_zero_or_pos m with h0 | h0
      · subst h0
        go_wp2_with fail
        refine hcall.mono ?_
        rintro e V ⟨rfl, hb⟩
        clear x0 x1 x2 hcall
        have B := bl_call hBl.out hb (Nat.le_refl _)
        go_wp2_with fail
        go_ret
        exact ⟨by rfl, B⟩
      · go_wp2_with fail
        refine hcall.mono ?_
        rintro e V ⟨rfl, hb⟩
        clear x0 x1 x2 hcall
        have B := bl_call hBl.out hb (Nat.le_refl _)
        go_wp2_with fail
        go_ret
        exact ⟨by rfl, B⟩
end Go.Proofs.YtpdldmichpmgmaaGreat
