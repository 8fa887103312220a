/- A part of the proof that TopMeasured always answers true. -/
import Derived.Test.YtcnebekkbfajbaaGreatCCastOk
import Derived.Test.YtcnebekkbfajbaaGreatCKOut1
set_option linter.all false
namespace Go.Proofs.YtcnebekkbfajbaaGreat
open Go.RowKit Go.Shelf
def up7 (l : List SeenC) (m : Nat) (k a w : Int) (n : Nat) : Bool := twoOk7 (l.take n) m k a w
theorem up7_snoc {l : List SeenC} {m : Nat} {k a w : Int} {n : Nat} {y : SeenC} (h : l[n]? = some y) : up7 l m k a w (n + 1) = (up7 l m k a w n && (!(y.mould == (m : Int)) || inB (made7 a w y.cast k) y.lo y.hi)) := by
 unfold up7 twoOk7
 rw [take_snoc_get h, List.all_append]
 simp
theorem up7_all {l : List SeenC} {q : Nat} (h : l.length ≤ q) (m : Nat) (k a w : Int) : up7 l m k a w q = twoOk7 l m k a w := by
 unfold up7; rw [List.take_of_length_le h]
theorem tK_len (s : Shop) (l : List SeenC) (m : Nat) (k : Int) (n : Nat) : (tK s l m k n).length ≤ n := by
 unfold tK
 exact Nat.le_trans (List.length_filter_le _ _) (by simp)
theorem tK_snoc {s : Shop} {l : List SeenC} {m : Nat} {k : Int} {n : Nat} {x w : Int} (hp : pairC (s.moulds.getD m dMould) n = (x, w)) : tK s l m k (n + 1) = if twoOk7 l m k x w then tK s l m k n ++ [(x, w)] else tK s l m k n := by
 split
 ·rename_i h; exact tK_yes hp h
 rename_i h; exact tK_no hp (Bool.eq_false_iff.2 h)
theorem pairC_at {x : Mould} {i j : Nat} (hj : j < wearN x) : pairC x (i * wearN x + j) = (x.slo + i, x.wlo + j) := by
 unfold pairC
 have h0 : 0 < wearN x := by omega
 rw [Nat.add_comm, Nat.add_mul_div_right _ _ h0, Nat.div_eq_of_lt hj, Nat.add_mul_mod_self_right, Nat.mod_eq_of_lt hj, Nat.zero_add]
theorem infoTwo7 : (Tryz.prog.info? 115).map (fun i => (i.zero, i.size, i.bytes)) = some (some (.agg #[.int .i64 0, .int .i64 0]), 2, 16) := by kernel_rfl
def IsPairs7 (w0 : Nat) (xs : List (Int × Int)) (e : Ending) (w' : World) : Prop := ∃ (A' : Option Addr) (k c : Nat), e = .returned (.slice A' k c) ∧ Pairs (fun k => w0 ≤ k) w' A' k xs
set_option maxHeartbeats 8000000 in
set_option maxRecDepth 100000 in
theorem twos7_any {A C : Option Addr} {n ca q cc m : Nat} {s : Shop} {l : List SeenC} {klo khi k0 : Int} (w : World) (g : Moulds (fun _ => True) w A n s.moulds) (gs : SeenCs (fun _ => True) w C q l)
  (hk : OkS s) (hm : m < s.moulds.length) (hq6 : l.length ≤ 6) (hk0 : 0 ≤ k0 ∧ k0 ≤ 100) (hsn : ∀ (j : Nat) (y : SeenC), l[j]? = some y → 0 ≤ y.cast ∧ y.cast ≤ 8) :
  Calls Tryz.prog 118 #[.agg #[.int .i64 klo, .int .i64 khi, .slice A n ca], .slice C q cc, .int .i64 m, .int .i64 k0] w fun e w' => IsPairs7 w.heap.size (twosC s l m k0) e w' ∧ Below w.heap.size w w' := by
 have hlq := gs.le
 have hq6' : q ≤ 6 := by have := gs.len; omega
 have htn : m < n := by have := g.len; omega
 obtain ⟨i0, hi0, hz0, hz1, hz2⟩ := info_parts infoTwo7
 obtain ⟨W0, hW0⟩ : ∃ W, w.alloc (.cells #[.int .i64 klo, .int .i64 khi, .slice A n ca] 30) = W := ⟨_, rfl⟩
 have X0 : Blk W0 w.heap.size 30 #[.int .i64 klo, .int .i64 khi, .slice A n ca] := by rw [← hW0]; exact Blk.new _ _ _ rfl
 have hBW0 : Below w.heap.size w W0 := by rw [← hW0]; exact bl_alloc (Below.refl _ _) _ (Nat.le_refl _)
 have g0 : Moulds (fun _ => True) W0 A n s.moulds := g.keep MouldR.good (Keeps.below hBW0)
 have gs0 : SeenCs (fun _ => True) W0 C q l := gs.keep SeenCR.good (Keeps.below hBW0)
 obtain ⟨b, off, sn, a, z, y, u, ct, rfl, hbb, hc0, hc1, hc2, hc3, hc4, hc5, hss, Hx⟩ := Moulds.get g0 htn
 have x2 := X0.cell 2
 have hxl := X0.lt
 have hbd := mouldE_zero Hx.out (hk.mould hm)
 dsimp only at hbd
 obtain ⟨⟨hb1, hb2, hb3, hb4⟩, ⟨hb5, hb6, hb7, hb8⟩, hb9, hb10⟩ := hbd
 have hti : (m : Int) < n := by omega
 obtain ⟨x, hx⟩ : ∃ x : Mould, x = ⟨sn.data.toList, a, z, y, u, ct⟩ := ⟨_, rfl⟩
 have HX : Hid (s.moulds.getD m dMould = x) := by rw [Hid, getD_of Hx.out, hx]
 have HT : Hid (twosC s l m k0 = tK s l m k0 (sizeN x * wearN x)) := by rw [Hid, twosC, HX.out, tK, HX.out]
 obtain ⟨sN, hsN⟩ : ∃ sN : Nat, wearN x = sN := ⟨_, rfl⟩
 obtain ⟨wN, hwN⟩ : ∃ wN : Nat, sizeN x = wN := ⟨_, rfl⟩
 have hsN' : y + (sN : Int) = u + 1 := by rw [← hsN, hx, wearN]; dsimp only; omega
 have hwN' : a + (wN : Int) = z + 1 := by rw [← hwN, hx, sizeN]; dsimp only; omega
 have HP : Hid (∀ i j : Nat, j < sN → pairC (s.moulds.getD m dMould) (i * sN + j) = (a + i, y + j)) := fun i j hj => by rw [HX.out, ← hsN, pairC_at (by rw [hsN]; exact hj), hx]
 rw [hsN, hwN] at HT
 have Hss := Lib.hid hss
 clear hsN hwN hx Hx hss HX
 have hsN8 : sN ≤ 4 := by omega
 have hwN8 : wN ≤ 13 := by omega
 rw [← hW0] at hc0 hc1 hc2 hc3 hc4 hc5
 have HW0 := Lib.hid hW0
 clear hW0 g gs X0
 go_enter Tryz.func118, Tryz.ntmps118
 go_wp2_with fail
 rw [HW0.out]
 obtain ⟨W2, hW2⟩ : ∃ W2, W0.alloc (.cells #[.string sn, .int .i64 a, .int .i64 z, .int .i64 y, .int .i64 u, .int .i64 ct] 77) = W2 := ⟨_, rfl⟩
 have X2 : Blk W2 (w.heap.size + 1) 77 #[.string sn, .int .i64 a, .int .i64 z, .int .i64 y, .int .i64 u, .int .i64 ct] := by rw [← hW2]; exact Blk.new _ _ _ (by rw [← HW0.out]; simp)
 have hs2 : SeenCs (fun _ => True) W2 C q l := by rw [← hW2]; exact gs0.keep SeenCR.good (Keeps.alloc _ _)
 have hBW2 : Below w.heap.size w W2 := by rw [← hW2]; exact bl_alloc hBW0 _ (Nat.le_refl _)
 have hWs2 : w.heap.size ≤ W2.heap.size := hBW2.size
 rw [hW2]
 clear hW2 gs0 g0 x2 hc0 hc1 hc2 hc3 hc4 hc5 hbb hxl hBW0
 have z1 := X2.cell 1
 have z2 := X2.cell 2
 have z3 := X2.cell 3
 have z4 := X2.cell 4
 go_wp2_with fail
 clear X2
 go_loopw [9, 11] (fun o i wr => ∃ (k len cap : Nat) (An : Option Addr), k ≤ wN ∧ i = .int .i64 (a + k) ∧ o = .slice An len cap ∧ Below W2.heap.size W2 wr ∧ OwnL PairR 2 (fun _ => False) wr W2.heap.size 115 (.slice An len cap) (tK s l m k0 (k * sN)) ∧ Hid ((tK s l m k0 (k * sN)).length = len)) (fun _ i _ => (z + 1 - intOf i).toNat)
 case atStart => exact ⟨0, 0, 0, none, Nat.zero_le _, by simp, rfl, Below.refl _ _, by rw [Nat.zero_mul]; exact OwnL.nil _ _ _ _ _ _, by rw [Nat.zero_mul]; rfl⟩
 case round =>
  obtain ⟨i, len, cap, An, hi, rfl, rfl, hB, hO, Hlen⟩ := hrel
  have y1 := getc hB z1
  have y2 := getc hB z2
  have y3 := getc hB z3
  have y4 := getc hB z4
  by_cases hlt : i < wN
  ·have hle : a + (i : Int) ≤ z := by omega
   go_wp2_with fail
   clear y1 y2 y3 y4
   go_loopw [9, 12] (fun o j wr => ∃ (k len cap : Nat) (An : Option Addr), k ≤ sN ∧ j = .int .i64 (y + k) ∧ o = .slice An len cap ∧ Below W2.heap.size W2 wr ∧ OwnL PairR 2 (fun _ => False) wr W2.heap.size 115 (.slice An len cap) (tK s l m k0 (i * sN + k)) ∧ Hid ((tK s l m k0 (i * sN + k)).length = len)) (fun _ j _ => (u + 1 - intOf j).toNat)
   case atStart => exact ⟨0, len, cap, An, Nat.zero_le _, by simp, rfl, hB, hO, Hlen⟩
   case round =>
    clear hB hO Hlen
    obtain ⟨j, len, cap, An, hj, rfl, rfl, hB, hO, Hlen⟩ := hrel
    have y1 := getc hB z1
    have y2 := getc hB z2
    have y3 := getc hB z3
    have y4 := getc hB z4
    by_cases hlt2 : j < sN
    ·have hle2 : y + (j : Int) ≤ u := by omega
     go_wp2_with fail
     clear y1 y2 y3 y4
     go_loopw [13, 14] (fun is kv wr' => ∃ kk r : Nat, kk ≤ q ∧ kv = .int .i64 kk ∧ is = .bool (up7 l m k0 (a + i) (y + j) kk) ∧ wr' = wr.drewN r) (fun _ kv _ => q - (intOf kv).toNat)
     case atStart => exact ⟨0, 0, Nat.zero_le _, rfl, rfl, rfl⟩
     case round =>
      obtain ⟨kk, r, hkk, rfl, rfl, rfl⟩ := hrel
      by_cases hlt3 : kk < q
      ·obtain ⟨bs, os, ta, ai, lo, hi', rfl, hbs, hs0, hs1, hs2', hs3, Hy⟩ := SeenCs.get (hs2.keep SeenCR.good (Keeps.below hB)) hlt3
       have hki : (kk : Int) < q := by omega
       have hair := hsn kk _ Hy.out
       dsimp only at hair
       have HN := Lib.hid (up7_snoc (m := m) (k := k0) (a := a + i) (w := y + j) Hy.out)
       cases hu : up7 l m k0 (a + i) (y + j) kk
       ·rw [hu] at HN
        go_wp2
        go_quiet (fail)
        go_wp2
        go_roundw
        case rel => exact ⟨kk + 1, r + nq, by omega, by go_num, by rw [HN.out]; rfl, rfl⟩
        case measure => simp [intOf]; omega
       rw [hu] at HN
       by_cases hta : ta = (m : Int)
       ·have htb : (ta != (m : Int)) = false := by simp [hta]
        have HN2 : Hid (up7 l m k0 (a + i) (y + j) (kk + 1) = inB (made7 (a + i) (y + j) ai k0) lo hi') := by rw [Hid, HN.out]; simp [hta]
        have HMa : Hid (∀ V, Calls Tryz.prog 136 #[.int .i64 (a + (i : Int)), .int .i64 (y + (j : Int)), .int .i64 ai, .int .i64 k0] V fun e w' => e = .returned (.int .i64 (made7 (a + i) (y + j) ai k0)) ∧ V = w') := fun V => rmade_any (by omega) (by omega) hair hk0 V
        generalize made7 (a + (i : Int)) (y + (j : Int)) ai k0 = mm at HMa HN2
        clear hta hair
        go_wp2
        go_quiet ((first | (go_at_call 136; exact (HMa.out _).mono fun _ _ h => ⟨h.1, _, h.2.symm⟩) | (go_at_call 20; exact (in7_any _ _ _ _).mono fun _ _ h => ⟨h.1, _, h.2.symm⟩)))
        go_wp2
        go_roundw
        case rel => exact ⟨kk + 1, r + nq, by omega, by go_num, by rw [HN2.out], rfl⟩
        case measure => simp [intOf]; omega
       have htb : (ta != (m : Int)) = true := by simpa using hta
       have HN2 : Hid (up7 l m k0 (a + i) (y + j) (kk + 1) = true) := by rw [Hid, HN.out]; simp [hta]
       clear hta
       go_wp2
       go_quiet (fail)
       go_wp2
       go_roundw
       case rel => exact ⟨kk + 1, r + nq, by omega, by go_num, by rw [HN2.out], rfl⟩
       case measure => simp [intOf]; omega
      obtain rfl : kk = q := by omega
      have hlen44 : (tK s l m k0 (i * sN + j)).length ≤ i * sN + j := tK_len _ _ _ _ _
      have hmul : i * sN ≤ 12 * 4 := Nat.mul_le_mul (by omega) hsN8
      have hlen : len ≤ 52 := by rw [← Hlen.out]; omega
      clear hlen44 hmul
      rw [up7_all (by have := hs2.len; omega)]
      have HSn := Lib.hid (tK_snoc (l := l) (k := k0) (HP.out i j hlt2))
      cases hto : twoOk7 l m k0 (a + (i : Int)) (y + (j : Int))
      ·have HS2 : Hid (tK s l m k0 (i * sN + j + 1) = tK s l m k0 (i * sN + j)) := by rw [Hid, HSn.out]; simp [hto]
       go_wp2
       go_roundw
       case rel => exact ⟨j + 1, len, cap, An, by omega, by go_num, rfl, bl_drewN hB _, by rw [← Nat.add_assoc, HS2.out]; exact hO.keep PairR.good (Keeps.drewN _ _), by rw [Hid, ← Nat.add_assoc, HS2.out]; exact Hlen.out⟩
       case measure => simp [intOf]; omega
      have HS2 : Hid (tK s l m k0 (i * sN + j + 1) = tK s l m k0 (i * sN + j) ++ [(a + (i : Int), y + (j : Int))]) := by rw [Hid, HSn.out]; simp [hto]
      go_wp2_with (at_builtin; refine wpList_append_n _ rfl (.tmp 81) (.tmp 85) _ rfl PairR.good W2.heap.size 115 i0 _ 16 Tryz.underlying49 hi0 hz0 hz1 hz2 rfl (by omega) _ (tK s l m k0 (i * sN + j)) (a + (i : Int), y + (j : Int)) len Hlen.out rfl ((hO.keep PairR.good (Keeps.drewN _ _)).alloc PairR.good _) ⟨wr.heap.size, 0, none⟩ 1 [.int .i64 (a + (i : Int)), .int .i64 (y + (j : Int))] rfl rfl (news_new rfl (by simp)) ?c1 ?c2 ?c3 (fun h => h) ?_)
      case c1 => simp only [maxLen]; omega
      case c2 => omega
      case c3 => have := hB.size; simp; omega
      intro A' cap' w2 hown2 hg2 hat2
      have hB2 : Below W2.heap.size W2 w2 := bl_grown (bl_alloc (bl_drewN hB _) _ (Nat.le_refl _)) ((hO.keep PairR.good (Keeps.drewN _ _)).alloc PairR.good _) hg2 (Nat.le_refl _) (Nat.le_refl _)
      clear hg2 hat2 hO hB
      go_wp2
      go_roundw
      case rel => exact ⟨j + 1, len + 1, cap', _, by omega, by go_num, rfl, hB2, by rw [← Nat.add_assoc, HS2.out]; exact hown2, by rw [Hid, ← Nat.add_assoc, HS2.out, List.length_append, Hlen.out]; rfl⟩
      case measure => simp [intOf]; omega
    obtain rfl : j = sN := by omega
    have hle2 : ¬ y + (j : Int) ≤ u := by omega
    go_wp2
    go_roundw
    case rel => exact ⟨i + 1, len, cap, An, by omega, by go_num, rfl, hB, by rw [Nat.succ_mul]; exact hO, by rw [Nat.succ_mul]; exact Hlen⟩
    case measure => simp [intOf]; omega
  obtain rfl : i = wN := by omega
  have hle : ¬ a + (i : Int) ≤ z := by omega
  go_wp2
  go_ret
  refine ⟨⟨An, len, cap, by rfl, ?_⟩, hBW2.trans (hB.mono hWs2)⟩
  rw [HT.out]
  exact hO.slice PairR.good rfl (by have h1 := tK_len s l m k0 (i * sN); rw [Hlen.out] at h1; have h2 := Nat.mul_le_mul hwN8 hsN8; simp only [maxLen]; omega) (fun _ h => h.elim) (fun _ h _ => Nat.le_trans hWs2 h)
theorem ends_at7 (L : List Int) : ∀ lo hi : Int, ((ends lo hi L).1 = lo ∨ (ends lo hi L).1 ∈ L) ∧ ((ends lo hi L).2 = hi ∨ (ends lo hi L).2 ∈ L) ∧ (ends lo hi L).1 ≤ lo ∧ hi ≤ (ends lo hi L).2 ∧ ∀ x ∈ L, (ends lo hi L).1 ≤ x ∧ x ≤ (ends lo hi L).2 := by
 induction L with
 | nil => intro lo hi; exact ⟨.inl rfl, .inl rfl, Int.le_refl _, Int.le_refl _, fun x h => by cases h⟩
 | cons y L ih =>
  intro lo hi
  obtain ⟨h1, h2, h3, h4, h5⟩ := ih (min lo y) (max hi y)
  simp only [ends]
  refine ⟨?_, ?_, by omega, by omega, fun x hx => ?_⟩
  ·rcases h1 with h1 | h1
   ·rw [h1]
    by_cases hm : lo ≤ y
    ·left; omega
    right; rw [show min lo y = y by omega]; exact List.mem_cons_self
   exact .inr (List.mem_cons_of_mem _ h1)
  ·rcases h2 with h2 | h2
   ·rw [h2]
    by_cases hm : y ≤ hi
    ·left; omega
    right; rw [show max hi y = y by omega]; exact List.mem_cons_self
   exact .inr (List.mem_cons_of_mem _ h2)
  rcases List.mem_cons.1 hx with rfl | hx
  ·omega
  exact h5 x hx
theorem endsOf_at7 {L : List Int} (h : L ≠ []) : (endsOf L).1 ∈ L ∧ (endsOf L).2 ∈ L ∧ ∀ x ∈ L, (endsOf L).1 ≤ x ∧ x ≤ (endsOf L).2 := by
 cases L with
 | nil => exact absurd rfl h
 | cons y L =>
  obtain ⟨h1, h2, h3, h4, h5⟩ := ends_at7 L y y
  simp only [endsOf]
  refine ⟨?_, ?_, fun x hx => ?_⟩
  ·rcases h1 with h1 | h1
   ·rw [h1]; exact List.mem_cons_self
   exact List.mem_cons_of_mem _ h1
  ·rcases h2 with h2 | h2
   ·rw [h2]; exact List.mem_cons_self
   exact List.mem_cons_of_mem _ h2
  rcases List.mem_cons.1 hx with rfl | hx
  ·exact ⟨h3, h4⟩
  exact h5 x hx
def InM (x : Mould) (p : Int × Int) : Prop := x.slo ≤ p.1 ∧ p.1 ≤ x.shi ∧ x.wlo ≤ p.2 ∧ p.2 ≤ x.whi
theorem twoOk_iff {l : List SeenC} {m : Nat} {k a w : Int} : twoOk7 l m k a w = true ↔ ∀ y ∈ l, y.mould = (m : Int) → y.lo ≤ made7 a w y.cast k ∧ made7 a w y.cast k ≤ y.hi := by
 unfold twoOk7
 rw [List.all_eq_true]
 constructor
 ·intro h y hy e
  have := h y hy
  simpa [e, inB] using this
 intro h y hy
 by_cases e : y.mould = (m : Int)
 ·have := h y hy e
  simp [e, inB, this]
 simp [e]
theorem twos_mem {s : Shop} {l : List SeenC} {m : Nat} {k : Int} {p : Int × Int} (hk : OkS s) (hm : m < s.moulds.length) : p ∈ twosC s l m k ↔ InM (s.moulds.getD m dMould) p ∧ twoOk7 l m k p.1 p.2 = true := by
 have hx : s.moulds[m]? = some s.moulds[m] := List.getElem?_eq_getElem hm
 have hz := mouldE_zero hx (hk.mould hm)
 unfold twosC
 rw [getD_of hx]
 generalize s.moulds[m] = x at *
 have hs : 0 < wearN x := by unfold wearN; omega
 rw [List.mem_filter]
 refine and_congr_left fun _ => ?_
 constructor
 ·intro hm1
  obtain ⟨j, hk2, rfl⟩ := List.mem_map.1 hm1
  have hk3 := List.mem_range.1 hk2
  have hd : j / wearN x < sizeN x := by rw [Nat.mul_comm] at hk3; exact Nat.div_lt_of_lt_mul hk3
  have hm2 : j % wearN x < wearN x := Nat.mod_lt _ hs
  unfold pairC InM
  dsimp only
  generalize j / wearN x = d at *
  generalize j % wearN x = e at *
  unfold sizeN at hd
  unfold wearN at hm2
  omega
 rintro ⟨h1, h2, h3, h4⟩
 have hd : (p.1 - x.slo).toNat < sizeN x := by unfold sizeN; omega
 have hw : (p.2 - x.wlo).toNat < wearN x := by unfold wearN; omega
 refine List.mem_map.2 ⟨(p.1 - x.slo).toNat * wearN x + (p.2 - x.wlo).toNat, List.mem_range.2 ?_, ?_⟩
 ·have : ((p.1 - x.slo).toNat + 1) * wearN x ≤ sizeN x * wearN x := Nat.mul_le_mul_right _ (by omega)
  rw [Nat.succ_mul] at this
  omega
 unfold pairC
 rw [Nat.add_comm, Nat.add_mul_div_right _ _ hs, Nat.div_eq_of_lt hw, Nat.add_mul_mod_self_right, Nat.mod_eq_of_lt hw, Nat.zero_add]
 exact Prod.ext (by dsimp only; omega) (by dsimp only; omega)
theorem shrink_mem {s : Shop} {k : Int} : k ∈ shrinkL s ↔ s.klo ≤ k ∧ k ≤ s.khi := by
 unfold shrinkL
 rw [List.mem_map]
 constructor
 ·rintro ⟨i, hi, rfl⟩
  have := List.mem_range.1 hi
  omega
 rintro ⟨h1, h2⟩
 exact ⟨(k - s.klo).toNat, List.mem_range.2 (by omega), by omega⟩
theorem knownB_iff {s : Shop} {l : List SeenC} {k : Int} : knownB s l k = true ↔ ∀ m, m < s.moulds.length → ∃ p, p ∈ twosC s l m k := by
 unfold knownB
 rw [List.all_eq_true]
 constructor
 ·intro h m hm
  have := h m (List.mem_range.2 hm)
  exact List.exists_mem_of_ne_nil _ (by simpa using this)
 intro h m hm
 obtain ⟨p, hp⟩ := h m (List.mem_range.1 hm)
 have := List.ne_nil_of_mem hp
 simpa using this
theorem known_iff {s : Shop} {l : List SeenC} {k : Int} : k ∈ known7 s l ↔ (s.klo ≤ k ∧ k ≤ s.khi) ∧ ∀ m, m < s.moulds.length → ∃ p, p ∈ twosC s l m k := by
 unfold known7
 rw [List.mem_filter, shrink_mem, knownB_iff]
theorem made_mem {s : Shop} {l : List SeenC} {m : Nat} {c n : Int} : n ∈ madeL s l m c ↔ ∃ k ∈ known7 s l, ∃ p ∈ twosC s l m k, made7 p.1 p.2 c k = n := by
 unfold madeL
 simp only [List.mem_flatMap, List.mem_map]
theorem made_ne {s : Shop} {l : List SeenC} {m : Nat} {c : Int} (hm : m < s.moulds.length) (h : known7 s l ≠ []) : madeL s l m c ≠ [] := by
 obtain ⟨k, hk⟩ := List.exists_mem_of_ne_nil _ h
 obtain ⟨p, hp⟩ := (known_iff.1 hk).2 m hm
 exact List.ne_nil_of_mem (made_mem.2 ⟨k, hk, p, hp, rfl⟩)
theorem size_at {s : Shop} {l : List SeenC} {m : Nat} {c : Int} (hm : m < s.moulds.length) (h : known7 s l ≠ []) : (size7 s l m c).1 ∈ madeL s l m c ∧ (size7 s l m c).2 ∈ madeL s l m c ∧ ∀ x ∈ madeL s l m c, (size7 s l m c).1 ≤ x ∧ x ≤ (size7 s l m c).2 :=
 endsOf_at7 (made_ne hm h)
theorem seen7_ok {s : Shop} {l : List SeenC} (h1 : (check7 s).2.2 = 0) (h2 : l.length ≤ 6) (h3 : ∀ k, k < l.length → seenE7 s l k = 0) : seen7 s l = (0, 0) := by
 rw [seen7_n h1 (by omega)]
 rw [firstErr_none h3]
theorem seenE_of {s : Shop} {l : List SeenC} {k : Nat} {y : SeenC} (h : l[k]? = some y) (h1 : 0 ≤ y.mould ∧ y.mould < s.moulds.length) (h2 : 0 ≤ y.cast ∧ y.cast < (s.moulds.getD y.mould.toNat dMould).casts) (h3 : 0 ≤ y.lo ∧ y.lo ≤ y.hi ∧ y.hi ≤ 20000) : seenE7 s l k = 0 := by
 unfold seenE7
 rw [getD_of h]
 dsimp only
 have ht : there7 s y.mould y.cast = true := by
  unfold there7
  simp only [inB, Bool.and_eq_true, decide_eq_true_eq]
  omega
 rw [ht]
 unfold rangeE
 simp [inB]
 omega
end Go.Proofs.YtcnebekkbfajbaaGreat
