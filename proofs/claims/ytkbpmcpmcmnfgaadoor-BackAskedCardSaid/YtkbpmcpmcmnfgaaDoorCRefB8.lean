/- Walks: the reference of layer 12: Must. -/
import Derived.Test.YtkbpmcpmcmnfgaaDoorCRefB7
set_option linter.unusedVariables false
set_option linter.unusedSimpArgs false
set_option linter.all false
namespace Go.Proofs.YtkbpmcpmcmnfgaaDoor
open Go.RowKit

theorem OwnL.grown {α : Type} {R : Rd α} {m : Nat} {S : Foot} {w w' : World} {base : Nat} {e : TypeId} {v : Value} {xs : List α} (g : R.Good m) (h : OwnL R m S w base e v xs) {row : Option Nat} (hg : w.grownBy w' row) (hr : ∀ k, row = some k → ¬ S k ∧ v.ownBlock ≠ some k) : OwnL R m S w' base e v xs :=
  h.keep g (Keeps.grown hg fun k hk hc => by rcases hc with hc | hc; exact (hr k hk).1 hc; exact (hr k hk).2 hc)

theorem isMust_snoc (l : List (List Int)) (t : List Int) (i : Nat) : isMust (l ++ [t]) i = (isMust l i && decide (0 < t.getD i 0)) := by simp [isMust]

/-- how many truths have a cause -/
def manyOf (l : List (List Int)) (i : Nat) : Nat := l.countP fun t => decide (0 < t.getD i 0)
theorem manyOf_snoc (l : List (List Int)) (t : List Int) (i : Nat) : manyOf (l ++ [t]) i = manyOf l i + if 0 < t.getD i 0 then 1 else 0 := by
  unfold manyOf; rw [List.countP_append, List.countP_singleton]; simp
theorem manyOf_le (l : List (List Int)) (i : Nat) : manyOf l i ≤ l.length := List.countP_le_length
theorem manyOf_must (l : List (List Int)) (i : Nat) : decide (manyOf l i = l.length) = isMust l i := by
  unfold manyOf isMust
  rw [Bool.eq_iff_iff, decide_eq_true_iff, List.countP_eq_length, List.all_eq_true]
theorem manyOf_may (l : List (List Int)) (i : Nat) : decide (0 < manyOf l i) = isMay l i := by
  unfold manyOf isMay
  rw [Bool.eq_iff_iff, decide_eq_true_iff, List.countP_pos_iff, List.any_eq_true]

set_option maxRecDepth 100000 in
set_option maxHeartbeats 4000000 in
theorem must12_any {A B C : Option Addr} {n ca m cb q cc : Nat} {c : Claim} (w : World) (h : ClaimAt (fun _ => True) w A n B m C q c) :
    Calls Tryd.prog 27 #[.agg #[.slice A n ca, .slice B m cb, .slice C q cc]] w fun e w' => ∃ A1 n1 c1 A2 n2 c2, e = .returned (.tuple #[.slice A1 n1 c1, .slice A2 n2 c2, .int .i64 (mustR c).2.2]) ∧ Ints (fun _ => True) w' A1 n1 (mustR c).1 ∧ Ints (fun _ => True) w' A2 n2 (mustR c).2.1 ∧ Below w.heap.size w w' := by
  obtain ⟨i0, hi0, hz0, hz1, hz2⟩ := info_parts infoInt
  rcases ways c with he | ⟨he, ha⟩ | ⟨he, ha⟩
  · have hbe : ((check c).2.2 != 0) = true := by simpa [err] using he
    have HR : Hid (mustR c = ([], [], err c)) := by rw [Hid, mustR, err8_bad he, if_pos he]
    have he' : (check c).2.2 ≠ 0 := he
    have Hop := Lib.hid fun w0 h0 => open_bad (A := A) (n := n) (ca := ca) (B := B) (m := m) (cb := cb) (C := C) (q := q) (cc := cc) (c := c) w0 h0 he'
    clear he he'
    go_enter Tryd.func27, Tryd.ntmps27
    go_wp2_with (go_at_call 68; refine (Hop.out _ (h.keep (Keeps.alloc _ _))).mono ?_; rintro e w1 ⟨rfl, hb1⟩)
    go_ret3
    exact ⟨none, 0, 0, none, 0, 0, by rw [HR.out]; rfl, by rw [HR.out]; exact SliceOf.nil _ _ _ _ _, by rw [HR.out]; exact SliceOf.nil _ _ _ _ _, bl_call (bl_alloc (Below.refl _ _) _ (Nat.le_refl _)) hb1 (Nat.le_refl _)⟩
  · have HR : Hid (mustR c = ([], [], 8)) := by rw [Hid, mustR, err8_none he ha, if_pos (by decide)]
    have he' : (check c).2.2 = 0 := he
    have Hop := Lib.hid fun w0 h0 => open_none (A := A) (n := n) (ca := ca) (B := B) (m := m) (cb := cb) (C := C) (q := q) (cc := cc) (c := c) w0 h0 he' ha
    clear he he' ha
    go_enter Tryd.func27, Tryd.ntmps27
    go_wp2_with (go_at_call 68; refine (Hop.out _ (h.keep (Keeps.alloc _ _))).mono ?_; rintro e w1 ⟨rfl, hb1⟩)
    go_ret3
    exact ⟨none, 0, 0, none, 0, 0, by rw [HR.out]; rfl, by rw [HR.out]; exact SliceOf.nil _ _ _ _ _, by rw [HR.out]; exact SliceOf.nil _ _ _ _ _, bl_call (bl_alloc (Below.refl _ _) _ (Nat.le_refl _)) hb1 (Nat.le_refl _)⟩
  · have hok := okC_of he
    have HR : Hid (mustR c = (mustL c, mayL c, 0)) := by rw [Hid, mustR, err8_ok he ha, if_neg (by decide)]
    have he' : (check c).2.2 = 0 := he
    have Hop := Lib.hid fun w0 h0 => open_ok (A := A) (n := n) (ca := ca) (B := B) (m := m) (cb := cb) (C := C) (q := q) (cc := cc) (c := c) w0 h0 he' ha
    have hm5 : m ≤ 5 := by rw [← h.cs.len]; exact hok.nc
    have Hm := Lib.hid h.cs.len
    clear he he' ha
    go_enter Tryd.func27, Tryd.ntmps27
    go_wp2_with (go_at_call 68; refine (Hop.out _ (h.keep (Keeps.alloc _ _))).mono ?_; rintro e wa ⟨At, nt, ct, rfl, hT, hb1⟩)
    have hx1 := box_cell hb1 (i := 1) rfl
    have hBwa : Below w.heap.size w wa := bl_call (bl_alloc (Below.refl _ _) _ (Nat.le_refl _)) hb1 (Nat.le_refl _)
    have hntl : nt ≤ 32768 := by rw [← hT.len]; exact Nat.le_trans (List.length_filter_le _ _) (allT_len hok).1
    have Hnt := Lib.hid hT.len
    have hwlt : w.heap.size < wa.heap.size := by have := hb1.size; simp at this; omega
    clear h hb1 Hop
    go_loopw [7, 8, 9] (fun v1 v2 i wr => ∃ (p n1 c1 n2 c2 : Nat) (A1 A2 : Option Addr) (l1 l2 : List Int), p ≤ m ∧ i = .int .i64 p ∧ v1 = .slice A1 n1 c1 ∧ v2 = .slice A2 n2 c2 ∧ n1 ≤ p ∧ n2 ≤ p ∧ Hid (l1.length = n1) ∧ Hid (l2.length = n2) ∧
      OwnL IntR 1 (fun _ => False) wr wa.heap.size 3 (.slice A1 n1 c1) l1 ∧ OwnL IntR 1 (fun _ => False) wr wa.heap.size 3 (.slice A2 n2 c2) l2 ∧ Hid (∀ k, (Value.slice A1 n1 c1).ownBlock = some k → (Value.slice A2 n2 c2).ownBlock ≠ some k) ∧ Below wa.heap.size wa wr ∧
      Hid (l1 = ((List.range p).filter (isMust (agreeL c))).map fun i : Nat => (i : Int)) ∧ Hid (l2 = ((List.range p).filter (isMay (agreeL c))).map fun i : Nat => (i : Int))) (fun _ _ i _ => m - (intOf i).toNat)
    case atStart => exact ⟨0, 0, 0, 0, 0, none, none, [], [], Nat.zero_le _, rfl, rfl, rfl, Nat.le_refl _, Nat.le_refl _, rfl, rfl, OwnL.nil _ _ _ _ _ _, OwnL.nil _ _ _ _ _ _, fun k hk => by simp [Value.ownBlock] at hk, Below.refl _ _, rfl, rfl⟩
    case round =>
      obtain ⟨p, n1, c1, n2, c2, A1, A2, l1, l2, hp, rfl, rfl, rfl, hn1, hn2, Hl1, Hl2, hO1, hO2, Hne, hB, Hf1, Hf2⟩ := hrel
      have hx1r := getc hB hx1
      by_cases hlt : p < m
      · have hTr := hT.keep (SlR.good IntR.good) (Keeps.below hB)
        have Hs1 := Lib.hid (range_filter_succ (p := isMust (agreeL c)) (k := p))
        have Hs2 := Lib.hid (range_filter_succ (p := isMay (agreeL c)) (k := p))
        go_wp2
        obtain ⟨wo, rfl⟩ : ∃ wo : World, wo = wr := ⟨_, rfl⟩
        go_loop [10, 11] (fun v i => ∃ (k x : Nat), k ≤ nt ∧ i = .int .i64 k ∧ v = .int .i64 x ∧ x ≤ k ∧ Hid (x = manyOf ((agreeL c).take k) p)) (fun v i => nt - (intOf i).toNat)
        case atStart => exact ⟨0, 0, Nat.zero_le _, rfl, rfl, Nat.le_refl _, rfl⟩
        case round =>
          obtain ⟨k, x, hk, rfl, rfl, hx, Hx⟩ := hrel
          by_cases hlt2 : k < nt
          · obtain ⟨bt, ot, t, Av, nv, cv, rfl, hct, hV, Hot⟩ := Rows.get hTr hlt2
            have hmem : t ∈ allT c.causes := (List.mem_filter.1 (List.mem_of_getElem? Hot.out)).1
            have hpv : p < nv := by rw [← hV.len, (allT_ok hok hmem).1, Hm.out]; exact hlt
            have hpvi : (p : Int) < nv := by omega
            obtain ⟨bv, ov, y, rfl, hcv, Hy⟩ := Ints.get hV hpv
            have hbt := World.block_lt_of_cell? _ _ hct
            have hbv := World.block_lt_of_cell? _ _ hcv
            dsimp only at hbt hbv
            clear hmem
            have Hstep : Hid (manyOf ((agreeL c).take (k + 1)) p = x + if 0 < y then 1 else 0) := by rw [Hid, take_snoc_get Hot.out, manyOf_snoc, ← Hx.out, getD_of Hy.out]
            by_cases hy0 : 0 < y
            · go_wp2
              go_round
              case rel => exact ⟨k + 1, x + 1, by omega, by go_num, by go_num, by omega, by rw [Hid, Hstep.out, if_pos hy0]⟩
              case measure => simp [intOf]; omega
            · go_wp2
              go_round
              case rel => exact ⟨k + 1, x, by omega, by go_num, rfl, by omega, by rw [Hid, Hstep.out, if_neg (by omega)]; rfl⟩
              case measure => simp [intOf]; omega
          · obtain rfl : k = nt := by omega
            have Hall : Hid (x = manyOf (agreeL c) p) := by have := Hx.out; rwa [List.take_of_length_le (by rw [Hnt.out]; exact Nat.le_refl _)] at this
            have Hmust : Hid (isMust (agreeL c) p = decide (x = k)) := by rw [Hid, ← manyOf_must, ← Hall.out, Hnt.out]
            have Hmay : Hid (isMay (agreeL c) p = decide (0 < x)) := by rw [Hid, ← manyOf_may, ← Hall.out]
            have hb1 := OwnL.block hO1
            have hb2 := OwnL.block hO2
            have hsz := hB.size
            have hbk1 : ∀ k, (Value.slice A1 n1 c1).ownBlock = some k → k < wo.heap.size := fun k hk => (hb1 k hk).2
            have hbk2 : ∀ k, (Value.slice A2 n2 c2).ownBlock = some k → k < wo.heap.size := fun k hk => (hb2 k hk).2
            have Hbk1 := Lib.hid hbk1
            have Hbk2 := Lib.hid hbk2
            clear hb1 hb2 hbk1 hbk2 hTr hx1r
            by_cases hm1 : x = k
            · have hbm : ((x : Int) == k) = true := by rw [hm1]; simp
              have HS1 : Hid (l1 ++ [(p : Int)] = ((List.range (p + 1)).filter (isMust (agreeL c))).map fun i : Nat => (i : Int)) := by rw [Hid, Hs1.out, if_pos (by rw [Hmust.out]; exact decide_eq_true hm1), ← Hf1.out]
              have HM1 := Lib.hid hm1
              clear hm1
              by_cases hm2 : 0 < x
              · have hbx : (0 : Int) < x := by omega
                have HS2 : Hid (l2 ++ [(p : Int)] = ((List.range (p + 1)).filter (isMay (agreeL c))).map fun i : Nat => (i : Int)) := by rw [Hid, Hs2.out, if_pos (by rw [Hmay.out]; exact decide_eq_true hm2), ← Hf2.out]
                go_wp2_with (at_builtin; refine wpList_append_n _ rfl _ _ _ rfl IntR.good wa.heap.size 3 i0 _ 8 Tryd.underlying34 hi0 hz0 hz1 hz2 rfl (by omega) _ l1 (p : Int) n1 Hl1.out rfl (hO1.alloc IntR.good _) ⟨_, 0, none⟩ 1 [.int .i64 p] rfl rfl (news_new rfl rfl) (by simp only [maxLen]; omega) (by omega) (by first | omega | (simp; omega)) (fun h => h) ?_)
                intro Xa capa wA1 hPa hga hata
                have hBa : Below wa.heap.size wa wA1 := bl_grown (bl_alloc hB _ (Nat.le_refl _)) (hO1.alloc IntR.good _) hga (Nat.le_refl _) (Nat.le_refl _)
                have hQa := OwnL.grown IntR.good (hO2.alloc IntR.good _) hga (fun k hk => ⟨fun h => h, fun e => Hne.out k hk e⟩)
                have hboa := OwnL.block hO2
                have Hnea : Hid (∀ k, (Value.slice (some ⟨Xa, 0, none⟩) (n1 + 1) capa).ownBlock = some k → (Value.slice A2 n2 c2).ownBlock ≠ some k) := by
                  intro k hk e
                  have e1 : Xa = k := by simpa [Value.ownBlock] using hk
                  subst e1
                  rcases hata with h | h
                  · exact Hne.out _ h e
                  · have := Hbk2.out _ e; first | omega | (simp at h; omega)
                have hszb := hBa.size
                clear hga hata hO1 hO2 hB
                go_wp2_with (at_builtin; refine wpList_append_n _ rfl _ _ _ rfl IntR.good wa.heap.size 3 i0 _ 8 Tryd.underlying34 hi0 hz0 hz1 hz2 rfl (by omega) _ l2 (p : Int) n2 Hl2.out rfl (hQa.alloc IntR.good _) ⟨_, 0, none⟩ 1 [.int .i64 p] rfl rfl (news_new rfl rfl) (by simp only [maxLen]; omega) (by omega) (by first | omega | (simp; omega)) (fun h => h) ?_)
                intro Xb capb wB1 hPb hgb hatb
                have hBb : Below wa.heap.size wa wB1 := bl_grown (bl_alloc hBa _ (Nat.le_refl _)) (hQa.alloc IntR.good _) hgb (Nat.le_refl _) (Nat.le_refl _)
                have hQb := OwnL.grown IntR.good (hPa.alloc IntR.good _) hgb (fun k hk => ⟨fun h => h, fun e => Hnea.out k e hk⟩)
                have hbob := OwnL.block hPa
                have Hneb : Hid (∀ k, (Value.slice (some ⟨Xa, 0, none⟩) (n1 + 1) capa).ownBlock = some k → (Value.slice (some ⟨Xb, 0, none⟩) (n2 + 1) capb).ownBlock ≠ some k) := by
                  intro k hk e
                  have e1 : Xb = k := by simpa [Value.ownBlock] using e
                  subst e1
                  rcases hatb with h | h
                  · exact Hnea.out _ hk h
                  · have := (hbob _ hk).2; first | omega | (simp at h; omega)
                clear hgb hatb hPa hQa hBa
                go_wp2
                go_roundw
                case rel => exact ⟨p + 1, n1 + 1, capa, n2 + 1, capb, some ⟨Xa, 0, none⟩, some ⟨Xb, 0, none⟩, _, _, by omega, by go_num, rfl, rfl, by omega, by omega, (by rw [Hid, List.length_append, Hl1.out]; rfl), (by rw [Hid, List.length_append, Hl2.out]; rfl), hQb, hPb, Hneb, hBb, HS1, HS2⟩
                case measure => simp [intOf]; omega
              · have hbx : ¬ (0 : Int) < x := by omega
                have HS2 : Hid (l2 = ((List.range (p + 1)).filter (isMay (agreeL c))).map fun i : Nat => (i : Int)) := by rw [Hid, Hs2.out, if_neg (by rw [Hmay.out]; simpa using hm2), List.append_nil, ← Hf2.out]
                go_wp2_with (at_builtin; refine wpList_append_n _ rfl _ _ _ rfl IntR.good wa.heap.size 3 i0 _ 8 Tryd.underlying34 hi0 hz0 hz1 hz2 rfl (by omega) _ l1 (p : Int) n1 Hl1.out rfl (hO1.alloc IntR.good _) ⟨_, 0, none⟩ 1 [.int .i64 p] rfl rfl (news_new rfl rfl) (by simp only [maxLen]; omega) (by omega) (by first | omega | (simp; omega)) (fun h => h) ?_)
                intro Xa capa wA1 hPa hga hata
                have hBa : Below wa.heap.size wa wA1 := bl_grown (bl_alloc hB _ (Nat.le_refl _)) (hO1.alloc IntR.good _) hga (Nat.le_refl _) (Nat.le_refl _)
                have hQa := OwnL.grown IntR.good (hO2.alloc IntR.good _) hga (fun k hk => ⟨fun h => h, fun e => Hne.out k hk e⟩)
                have hboa := OwnL.block hO2
                have Hnea : Hid (∀ k, (Value.slice (some ⟨Xa, 0, none⟩) (n1 + 1) capa).ownBlock = some k → (Value.slice A2 n2 c2).ownBlock ≠ some k) := by
                  intro k hk e
                  have e1 : Xa = k := by simpa [Value.ownBlock] using hk
                  subst e1
                  rcases hata with h | h
                  · exact Hne.out _ h e
                  · have := Hbk2.out _ e; first | omega | (simp at h; omega)
                have hszb := hBa.size
                clear hga hata hO1 hO2 hB
                go_wp2
                go_roundw
                case rel => exact ⟨p + 1, n1 + 1, capa, n2, c2, some ⟨Xa, 0, none⟩, A2, _, _, by omega, by go_num, rfl, rfl, by omega, by omega, (by rw [Hid, List.length_append, Hl1.out]; rfl), Hl2, hPa, hQa, Hnea, hBa, HS1, HS2⟩
                case measure => simp [intOf]; omega
            · have hbm : ((x : Int) == k) = false := by simp; omega
              have HS1 : Hid (l1 = ((List.range (p + 1)).filter (isMust (agreeL c))).map fun i : Nat => (i : Int)) := by rw [Hid, Hs1.out, if_neg (by rw [Hmust.out]; simpa using hm1), List.append_nil, ← Hf1.out]
              have HM1 := Lib.hid hm1
              clear hm1
              by_cases hm2 : 0 < x
              · have hbx : (0 : Int) < x := by omega
                have HS2 : Hid (l2 ++ [(p : Int)] = ((List.range (p + 1)).filter (isMay (agreeL c))).map fun i : Nat => (i : Int)) := by rw [Hid, Hs2.out, if_pos (by rw [Hmay.out]; exact decide_eq_true hm2), ← Hf2.out]
                go_wp2_with (at_builtin; refine wpList_append_n _ rfl _ _ _ rfl IntR.good wa.heap.size 3 i0 _ 8 Tryd.underlying34 hi0 hz0 hz1 hz2 rfl (by omega) _ l2 (p : Int) n2 Hl2.out rfl (hO2.alloc IntR.good _) ⟨_, 0, none⟩ 1 [.int .i64 p] rfl rfl (news_new rfl rfl) (by simp only [maxLen]; omega) (by omega) (by first | omega | (simp; omega)) (fun h => h) ?_)
                intro Xb capb wB1 hPb hgb hatb
                have hBb : Below wa.heap.size wa wB1 := bl_grown (bl_alloc hB _ (Nat.le_refl _)) (hO2.alloc IntR.good _) hgb (Nat.le_refl _) (Nat.le_refl _)
                have hQb := OwnL.grown IntR.good (hO1.alloc IntR.good _) hgb (fun k hk => ⟨fun h => h, fun e => Hne.out k e hk⟩)
                have hbob := OwnL.block hO1
                have Hneb : Hid (∀ k, (Value.slice (A1) (n1) c1).ownBlock = some k → (Value.slice (some ⟨Xb, 0, none⟩) (n2 + 1) capb).ownBlock ≠ some k) := by
                  intro k hk e
                  have e1 : Xb = k := by simpa [Value.ownBlock] using e
                  subst e1
                  rcases hatb with h | h
                  · exact Hne.out _ hk h
                  · have := (hbob _ hk).2; first | omega | (simp at h; omega)
                clear hgb hatb hO1 hO2 hB
                go_wp2
                go_roundw
                case rel => exact ⟨p + 1, n1, c1, n2 + 1, capb, A1, some ⟨Xb, 0, none⟩, _, _, by omega, by go_num, rfl, rfl, by omega, by omega, Hl1, (by rw [Hid, List.length_append, Hl2.out]; rfl), hQb, hPb, Hneb, hBb, HS1, HS2⟩
                case measure => simp [intOf]; omega
              · have hbx : ¬ (0 : Int) < x := by omega
                have HS2 : Hid (l2 = ((List.range (p + 1)).filter (isMay (agreeL c))).map fun i : Nat => (i : Int)) := by rw [Hid, Hs2.out, if_neg (by rw [Hmay.out]; simpa using hm2), List.append_nil, ← Hf2.out]
                go_wp2
                go_roundw
                case rel => exact ⟨p + 1, n1, c1, n2, c2, A1, A2, _, _, by omega, by go_num, rfl, rfl, by omega, by omega, Hl1, Hl2, hO1, hO2, Hne, hB, HS1, HS2⟩
                case measure => simp [intOf]; omega
      · obtain rfl : p = m := by omega
        go_wp2
        go_ret3
        refine ⟨A1, n1, c1, A2, n2, c2, by rw [HR.out]; rfl, ?_, ?_, bl_call hBwa hB (Nat.le_refl _)⟩
        · rw [HR.out]
          have := hO1.slice (T := fun _ => True) IntR.good rfl (by simp only [maxLen]; omega) (fun _ h => h.elim) (fun _ _ _ => trivial)
          rw [Hf1.out] at this
          rw [show (mustL c, mayL c, (0 : Int)).1 = mustL c from rfl, mustL, Hm.out]; exact this
        · rw [HR.out]
          have := hO2.slice (T := fun _ => True) IntR.good rfl (by simp only [maxLen]; omega) (fun _ h => h.elim) (fun _ _ _ => trivial)
          rw [Hf2.out] at this
          rw [show (mustL c, mayL c, (0 : Int)).2.1 = mayL c from rfl, mayL, Hm.out]; exact this

end Go.Proofs.YtkbpmcpmcmnfgaaDoor
