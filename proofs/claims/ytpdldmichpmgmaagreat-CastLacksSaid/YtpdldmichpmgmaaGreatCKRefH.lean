/- Walks, layer 7, the reference: Twos. -/
import Derived.Test.YtpdldmichpmgmaaGreatCKRefs1
set_option linter.unusedVariables false
set_option linter.unusedSimpArgs false
set_option linter.all false
namespace Go.Proofs.YtpdldmichpmgmaaGreat
open Go.RowKit Go.Shelf

def up7 (l : List SeenC) (m : Nat) (k a w : Int) (n : Nat) : Bool := twoOk7 (l.take n) m k a w
theorem up7_snoc {l : List SeenC} {m : Nat} {k a w : Int} {n : Nat} {y : SeenC} (h : l[n]? = some y) : up7 l m k a w (n + 1) = (up7 l m k a w n && (!(y.mould == (m : Int)) || inB (made7 a w y.cast k) y.lo y.hi)) := by
  unfold up7 twoOk7
  rw [take_snoc_get h, List.all_append]
  simp
theorem up7_all {l : List SeenC} {q : Nat} (h : l.length ≤ q) (m : Nat) (k a w : Int) : up7 l m k a w q = twoOk7 l m k a w := by
  unfold up7; rw [List.take_of_length_le h]
theorem tK_len (s : Shop) (l : List SeenC) (m : Nat) (k : Int) (n : Nat) : (tK s l m k n).length ≤ n := by
  unfold tK
  exact Nat.le_trans (List.length_filter_le _ _) (by simp)
theorem tK_snoc {s : Shop} {l : List SeenC} {m : Nat} {k : Int} {n : Nat} {x w : Int} (hp : pairC (s.moulds.getD m dMould) n = (x, w)) : tK s l m k (n + 1) = if twoOk7 l m k x w then tK s l m k n ++ [(x, w)] else tK s l m k n := by
  split
  · rename_i h; exact tK_yes hp h
  · rename_i h; exact tK_no hp (Bool.eq_false_iff.2 h)
theorem pairC_at {x : Mould} {i j : Nat} (hj : j < wearN x) : pairC x (i * wearN x + j) = (x.slo + i, x.wlo + j) := by
  unfold pairC
  have h0 : 0 < wearN x := by omega
  rw [Nat.add_comm, Nat.add_mul_div_right _ _ h0, Nat.div_eq_of_lt hj, Nat.add_mul_mod_self_right, Nat.mod_eq_of_lt hj, Nat.zero_add]
theorem infoTwo7 : (Tryz.prog.info? 95).map (fun i => (i.zero, i.size, i.bytes)) = some (some (.agg #[.int .i64 0, .int .i64 0]), 2, 16) := by kernel_rfl
def IsPairs7 (w0 : Nat) (xs : List (Int × Int)) (e : Ending) (w' : World) : Prop := ∃ (A' : Option Addr) (k c : Nat), e = .returned (.slice A' k c) ∧ Pairs (fun k => w0 ≤ k) w' A' k xs

set_option maxHeartbeats 8000000 in
set_option maxRecDepth 100000 in
theorem twos7_any {A C : Option Addr} {n ca q cc m : Nat} {s : Shop} {l : List SeenC} {klo khi k0 : Int} (w : World) (g : Moulds (fun _ => True) w A n s.moulds) (gs : SeenCs (fun _ => True) w C q l)
    (hk : OkS s) (hm : m < s.moulds.length) (hq6 : l.length ≤ 6) (hk0 : 0 ≤ k0 ∧ k0 ≤ 100) (hsn : ∀ (j : Nat) (y : SeenC), l[j]? = some y → 0 ≤ y.cast ∧ y.cast ≤ 8) :
    Calls Tryz.prog 87 #[.agg #[.int .i64 klo, .int .i64 khi, .slice A n ca], .slice C q cc, .int .i64 m, .int .i64 k0] w fun e w' => IsPairs7 w.heap.size (twosC s l m k0) e w' ∧ Below w.heap.size w w' := by
  have hlq := gs.le
  have hq6' : q ≤ 6 := by have := gs.len; omega
  have htn : m < n := by have := g.len; omega
  obtain ⟨i0, hi0, hz0, hz1, hz2⟩ := info_parts infoTwo7
  obtain ⟨W0, hW0⟩ : ∃ W, w.alloc (.cells #[.int .i64 klo, .int .i64 khi, .slice A n ca] 26) = W := ⟨_, rfl⟩
  have X0 : Blk W0 w.heap.size 26 #[.int .i64 klo, .int .i64 khi, .slice A n ca] := by rw [← hW0]; exact Blk.new _ _ _ rfl
  have hBW0 : Below w.heap.size w W0 := by rw [← hW0]; exact bl_alloc (Below.refl _ _) _ (Nat.le_refl _)
  have g0 : Moulds (fun _ => True) W0 A n s.moulds := g.keep MouldR.good (Keeps.below hBW0)
  have gs0 : SeenCs (fun _ => True) W0 C q l := gs.keep SeenCR.good (Keeps.below hBW0)
  obtain ⟨b, off, sn, a, z, y, u, ct, rfl, hbb, hc0, hc1, hc2, hc3, hc4, hc5, hss, Hx⟩ := Moulds.get g0 htn
  have x2 := X0.cell 2
  have hxl := X0.lt
  have hbd := mouldE_zero Hx.out (hk.mould hm)
  dsimp only at hbd
  obtain ⟨⟨hb1, hb2, hb3, hb4⟩, ⟨hb5, hb6, hb7, hb8⟩, hb9, hb10⟩ := hbd
  have hti : (m : Int) < n := by omega
  obtain ⟨x, hx⟩ : ∃ x : Mould, x = ⟨sn.data.toList, a, z, y, u, ct⟩ := ⟨_, rfl⟩
  have HX : Hid (s.moulds.getD m dMould = x) := by rw [Hid, getD_of Hx.out, hx]
  have HT : Hid (twosC s l m k0 = tK s l m k0 (sizeN x * wearN x)) := by rw [Hid, twosC, HX.out, tK, HX.out]
  obtain ⟨sN, hsN⟩ : ∃ sN : Nat, wearN x = sN := ⟨_, rfl⟩
  obtain ⟨wN, hwN⟩ : ∃ wN : Nat, sizeN x = wN := ⟨_, rfl⟩
  have hsN' : y + (sN : Int) = u + 1 := by rw [← hsN, hx, wearN]; dsimp only; omega
  have hwN' : a + (wN : Int) = z + 1 := by rw [← hwN, hx, sizeN]; dsimp only; omega
  have HP : Hid (∀ i j : Nat, j < sN → pairC (s.moulds.getD m dMould) (i * sN + j) = (a + i, y + j)) := fun i j hj => by rw [HX.out, ← hsN, pairC_at (by rw [hsN]; exact hj), hx]
  rw [hsN, hwN] at HT
  have Hss := Lib.hid hss
  clear hsN hwN hx Hx hss HX
  have hsN8 : sN ≤ 4 := by omega
  have hwN8 : wN ≤ 13 := by omega
  rw [← hW0] at hc0 hc1 hc2 hc3 hc4 hc5
  have HW0 := Lib.hid hW0
  clear hW0 g gs X0
  go_enter Tryz.func87, Tryz.ntmps87
  go_wp2_with fail
  rw [HW0.out]
  obtain ⟨W2, hW2⟩ : ∃ W2, W0.alloc (.cells #[.string sn, .int .i64 a, .int .i64 z, .int .i64 y, .int .i64 u, .int .i64 ct] 93) = W2 := ⟨_, rfl⟩
  have X2 : Blk W2 (w.heap.size + 1) 93 #[.string sn, .int .i64 a, .int .i64 z, .int .i64 y, .int .i64 u, .int .i64 ct] := by rw [← hW2]; exact Blk.new _ _ _ (by rw [← HW0.out]; simp)
  have hs2 : SeenCs (fun _ => True) W2 C q l := by rw [← hW2]; exact gs0.keep SeenCR.good (Keeps.alloc _ _)
  have hBW2 : Below w.heap.size w W2 := by rw [← hW2]; exact bl_alloc hBW0 _ (Nat.le_refl _)
  have hWs2 : w.heap.size ≤ W2.heap.size := hBW2.size
  rw [hW2]
  clear hW2 gs0 g0 x2 hc0 hc1 hc2 hc3 hc4 hc5 hbb hxl hBW0
  have z1 := X2.cell 1
  have z2 := X2.cell 2
  have z3 := X2.cell 3
  have z4 := X2.cell 4
  go_wp2_with fail
  clear X2
  go_loopw [9, 11] (fun o i wr => ∃ (k len cap : Nat) (An : Option Addr), k ≤ wN ∧ i = .int .i64 (a + k) ∧ o = .slice An len cap ∧ Below W2.heap.size W2 wr ∧ OwnL PairR 2 (fun _ => False) wr W2.heap.size 95 (.slice An len cap) (tK s l m k0 (k * sN)) ∧ Hid ((tK s l m k0 (k * sN)).length = len)) (fun _ i _ => (z + 1 - intOf i).toNat)
  case atStart => exact ⟨0, 0, 0, none, Nat.zero_le _, by simp, rfl, Below.refl _ _, by rw [Nat.zero_mul]; exact OwnL.nil _ _ _ _ _ _, by rw [Nat.zero_mul]; rfl⟩
  case round =>
    obtain ⟨i, len, cap, An, hi, rfl, rfl, hB, hO, Hlen⟩ := hrel
    have y1 := getc hB z1
    have y2 := getc hB z2
    have y3 := getc hB z3
    have y4 := getc hB z4
    by_cases hlt : i < wN
    · have hle : a + (i : Int) ≤ z := by omega
      go_wp2_with fail
      clear y1 y2 y3 y4
      go_loopw [9, 12] (fun o j wr => ∃ (k len cap : Nat) (An : Option Addr), k ≤ sN ∧ j = .int .i64 (y + k) ∧ o = .slice An len cap ∧ Below W2.heap.size W2 wr ∧ OwnL PairR 2 (fun _ => False) wr W2.heap.size 95 (.slice An len cap) (tK s l m k0 (i * sN + k)) ∧ Hid ((tK s l m k0 (i * sN + k)).length = len)) (fun _ j _ => (u + 1 - intOf j).toNat)
      case atStart => exact ⟨0, len, cap, An, Nat.zero_le _, by simp, rfl, hB, hO, Hlen⟩
      case round =>
        clear hB hO Hlen
        obtain ⟨j, len, cap, An, hj, rfl, rfl, hB, hO, Hlen⟩ := hrel
        have y1 := getc hB z1
        have y2 := getc hB z2
        have y3 := getc hB z3
        have y4 := getc hB z4
        by_cases hlt2 : j < sN
        · have hle2 : y + (j : Int) ≤ u := by omega
          go_wp2_with fail
          clear y1 y2 y3 y4
          go_loopw [13, 14] (fun is kv wr' => ∃ kk r : Nat, kk ≤ q ∧ kv = .int .i64 kk ∧ is = .bool (up7 l m k0 (a + i) (y + j) kk) ∧ wr' = wr.drewN r) (fun _ kv _ => q - (intOf kv).toNat)
          case atStart => exact ⟨0, 0, Nat.zero_le _, rfl, rfl, rfl⟩
          case round =>
            obtain ⟨kk, r, hkk, rfl, rfl, rfl⟩ := hrel
            by_cases hlt3 : kk < q
            · obtain ⟨bs, os, ta, ai, lo, hi', rfl, hbs, hs0, hs1, hs2', hs3, Hy⟩ := SeenCs.get (hs2.keep SeenCR.good (Keeps.below hB)) hlt3
              have hki : (kk : Int) < q := by omega
              have hair := hsn kk _ Hy.out
              dsimp only at hair
              have HN := Lib.hid (up7_snoc (m := m) (k := k0) (a := a + i) (w := y + j) Hy.out)
              cases hu : up7 l m k0 (a + i) (y + j) kk
              · rw [hu] at HN
                go_wp2
                go_quiet (fail)
                go_wp2
                go_roundw
                case rel => exact ⟨kk + 1, r + nq, by omega, by go_num, by rw [HN.out]; rfl, rfl⟩
                case measure => simp [intOf]; omega
              · rw [hu] at HN
                by_cases hta : ta = (m : Int)
                · have htb : (ta != (m : Int)) = false := by simp [hta]
                  have HN2 : Hid (up7 l m k0 (a + i) (y + j) (kk + 1) = inB (made7 (a + i) (y + j) ai k0) lo hi') := by rw [Hid, HN.out]; simp [hta]
                  have HMa : Hid (∀ V, Calls Tryz.prog 88 #[.int .i64 (a + (i : Int)), .int .i64 (y + (j : Int)), .int .i64 ai, .int .i64 k0] V fun e w' => e = .returned (.int .i64 (made7 (a + i) (y + j) ai k0)) ∧ V = w') := fun V => rmade_any (by omega) (by omega) hair hk0 V
                  generalize made7 (a + (i : Int)) (y + (j : Int)) ai k0 = mm at HMa HN2
                  clear hta hair
                  go_wp2
                  go_quiet ((first | (go_at_call 88; exact (HMa.out _).mono fun _ _ h => ⟨h.1, _, h.2.symm⟩) | (go_at_call 50; exact (in7_any _ _ _ _).mono fun _ _ h => ⟨h.1, _, h.2.symm⟩)))
                  go_wp2
                  go_roundw
                  case rel => exact ⟨kk + 1, r + nq, by omega, by go_num, by rw [HN2.out], rfl⟩
                  case measure => simp [intOf]; omega
                · have htb : (ta != (m : Int)) = true := by simpa using hta
                  have HN2 : Hid (up7 l m k0 (a + i) (y + j) (kk + 1) = true) := by rw [Hid, HN.out]; simp [hta]
                  clear hta
                  go_wp2
                  go_quiet (fail)
                  go_wp2
                  go_roundw
                  case rel => exact ⟨kk + 1, r + nq, by omega, by go_num, by rw [HN2.out], rfl⟩
                  case measure => simp [intOf]; omega
            · obtain rfl : kk = q := by omega
              have hlen44 : (tK s l m k0 (i * sN + j)).length ≤ i * sN + j := tK_len _ _ _ _ _
              have hmul : i * sN ≤ 12 * 4 := Nat.mul_le_mul (by omega) hsN8
              have hlen : len ≤ 52 := by rw [← Hlen.out]; omega
              clear hlen44 hmul
              rw [up7_all (by have := hs2.len; omega)]
              have HSn := Lib.hid (tK_snoc (l := l) (k := k0) (HP.out i j hlt2))
              cases hto : twoOk7 l m k0 (a + (i : Int)) (y + (j : Int))
              · have HS2 : Hid (tK s l m k0 (i * sN + j + 1) = tK s l m k0 (i * sN + j)) := by rw [Hid, HSn.out]; simp [hto]
                go_wp2
                go_roundw
                case rel => exact ⟨j + 1, len, cap, An, by omega, by go_num, rfl, bl_drewN hB _, by rw [← Nat.add_assoc, HS2.out]; exact hO.keep PairR.good (Keeps.drewN _ _), by rw [Hid, ← Nat.add_assoc, HS2.out]; exact Hlen.out⟩
                case measure => simp [intOf]; omega
              · have HS2 : Hid (tK s l m k0 (i * sN + j + 1) = tK s l m k0 (i * sN + j) ++ [(a + (i : Int), y + (j : Int))]) := by rw [Hid, HSn.out]; simp [hto]
                go_wp2_with (at_builtin; refine wpList_append_n _ rfl (.tmp 81) (.tmp 85) _ rfl PairR.good W2.heap.size 95 i0 _ 16 Tryz.underlying46 hi0 hz0 hz1 hz2 rfl (by omega) _ (tK s l m k0 (i * sN + j)) (a + (i : Int), y + (j : Int)) len Hlen.out rfl ((hO.keep PairR.good (Keeps.drewN _ _)).alloc PairR.good _) ⟨wr.heap.size, 0, none⟩ 1 [.int .i64 (a + (i : Int)), .int .i64 (y + (j : Int))] rfl rfl (news_new rfl (by simp)) ?c1 ?c2 ?c3 (fun h => h) ?_)
                case c1 => simp only [maxLen]; omega
                case c2 => omega
                case c3 => have := hB.size; simp; omega
                intro A' cap' w2 hown2 hg2 hat2
                have hB2 : Below W2.heap.size W2 w2 := bl_grown (bl_alloc (bl_drewN hB _) _ (Nat.le_refl _)) ((hO.keep PairR.good (Keeps.drewN _ _)).alloc PairR.good _) hg2 (Nat.le_refl _) (Nat.le_refl _)
                clear hg2 hat2 hO hB
                go_wp2
                go_roundw
                case rel => exact ⟨j + 1, len + 1, cap', _, by omega, by go_num, rfl, hB2, by rw [← Nat.add_assoc, HS2.out]; exact hown2, by rw [Hid, ← Nat.add_assoc, HS2.out, List.length_append, Hlen.out]; rfl⟩
                case measure => simp [intOf]; omega
        · obtain rfl : j = sN := by omega
          have hle2 : ¬ y + (j : Int) ≤ u := by omega
          go_wp2
          go_roundw
          case rel => exact ⟨i + 1, len, cap, An, by omega, by go_num, rfl, hB, by rw [Nat.succ_mul]; exact hO, by rw [Nat.succ_mul]; exact Hlen⟩
          case measure => simp [intOf]; omega
    · obtain rfl : i = wN := by omega
      have hle : ¬ a + (i : Int) ≤ z := by omega
      go_wp2
      go_ret
      refine ⟨⟨An, len, cap, by rfl, ?_⟩, hBW2.trans (hB.mono hWs2)⟩
      rw [HT.out]
      exact hO.slice PairR.good rfl (by have h1 := tK_len s l m k0 (i * sN); rw [Hlen.out] at h1; have h2 := Nat.mul_le_mul hwN8 hsN8; simp only [maxLen]; omega) (fun _ h => h.elim) (fun _ h _ => Nat.le_trans hWs2 h)

end Go.Proofs.YtpdldmichpmgmaaGreat
