/- Walks: the reference's Twos. -/
import Derived.Test.YtnaadjhiahjlfaaCTEnter0
import Derived.Test.YtnaadjhiahjlfaaCTRefC
import Derived.Test.YtnaadjhiahjlfaaCTTruths
set_option linter.unusedVariables false
set_option linter.unusedSimpArgs false
set_option linter.all false
namespace Go.Proofs.Ytnaadjhiahjlfaa
open Go.RowKit

def TwoR : Rd (Int × Int) := fun _ _ x vs => vs = [.int .i64 x.1, .int .i64 x.2]
theorem TwoR.good : TwoR.Good 2 where
  len := by rintro S w x vs rfl; rfl
  one := by rintro S w x vs rfl v hv; simp at hv; rcases hv with rfl | rfl <;> rfl
  keep := by rintro S w w' x vs h hk; exact h
  mono := by rintro S T w x vs h hk; exact h
  bound := by rintro S w x vs h; exact h
abbrev TwosAt := SliceOf TwoR 2
theorem TwosAt.get {S : Foot} {w : World} {A : Option Addr} {n k : Nat} {xs : List (Int × Int)} (h : TwosAt S w A n xs) (hk : k < n) :
    ∃ b off a z, A = some ⟨b, off, none⟩ ∧ b < w.heap.size ∧ w.cell? ⟨b, off + k * 2, none⟩ = some (.int .i64 a) ∧ w.cell? ⟨b, off + k * 2 + 1, none⟩ = some (.int .i64 z) ∧ Hid (xs[k]? = some (a, z)) := by
  have hlt : k < xs.length := by rw [h.1]; exact hk
  obtain ⟨b, off, vs, hA, _, hb, rfl, hc⟩ := h.2.2 k xs[k] (List.getElem?_eq_getElem hlt)
  exact ⟨b, off, xs[k].1, xs[k].2, hA, hb, by simpa using hc 0 _ rfl, by simpa using hc 1 _ rfl, List.getElem?_eq_getElem hlt⟩
def IsTwos (w0 : Nat) (xs : List (Int × Int)) (e : Ending) (w' : World) : Prop := ∃ (A' : Option Addr) (k c : Nat), e = .returned (.slice A' k c) ∧ TwosAt (fun k => w0 ≤ k) w' A' k xs
theorem infoTwo : (Try.prog.info? 217).map (fun i => (i.zero, i.size, i.bytes)) = some (some (.agg #[.int .i64 0, .int .i64 0]), 2, 16) := by kernel_rfl
theorem twosK_len (l : List Seen) (t : Nat) (x : Tile) (k : Nat) : (twosK l t x k).length ≤ k := by
  unfold twosK
  exact Nat.le_trans (List.length_filter_le _ _) (by simp)
theorem twosK_snoc (l : List Seen) (t : Nat) (x : Tile) (k : Nat) : twosK l t x (k + 1) = if twoOk l t (pairN x k).1 (pairN x k).2 then twosK l t x k ++ [pairN x k] else twosK l t x k := by
  split
  · rename_i h; exact twosK_yes h
  · rename_i h; exact twosK_no (Bool.eq_false_iff.2 h)
theorem twoUpto_all {l : List Seen} {q : Nat} (h : l.length ≤ q) (t : Nat) (w s : Int) : twoUpto l t w s q = twoOk l t w s := by
  unfold twoUpto twoOk; rw [List.take_of_length_le h]
theorem pairN_at {x : Tile} {i j : Nat} (hj : j < swellN x) : pairN x (i * swellN x + j) = (x.wlo + i, x.slo + j) := by
  unfold pairN
  have h0 : 0 < swellN x := by omega
  rw [Nat.add_comm, Nat.add_mul_div_right _ _ h0, Nat.div_eq_of_lt hj, Nat.add_mul_mod_self_right, Nat.mod_eq_of_lt hj, Nat.zero_add]

set_option maxHeartbeats 4000000 in
set_option maxRecDepth 100000 in
theorem twos_any {A B C : Option Addr} {n ca m cb q cc t : Nat} {h : Hall} {l : List Seen} {v1 v2 v3 : Value} (w : World) (g : HallAt (fun _ => True) w A n B m h) (gs : Seens (fun _ => True) w C q l)
    (hv1 : v1.oneCell' = true) (hv2 : v2.oneCell' = true) (hv3 : v3.oneCell' = true) (hk : OkH h) (ht : t < h.tiles.length) (hq6 : l.length ≤ 6) (hsn : ∀ (k : Nat) (y : Seen), l[k]? = some y → 0 ≤ y.air ∧ y.air ≤ 40) :
    Calls Try.prog 101 #[.agg #[v1, v2, v3, .slice A n ca, .slice B m cb], .slice C q cc, .int .i64 t] w fun e w' => IsTwos w.heap.size (twosL h l t) e w' ∧ Below w.heap.size w w' := by
  have hlq := gs.le
  have hq6' : q ≤ 6 := by have := gs.len; omega
  have htn : t < n := by have := g.ts.len; omega
  obtain ⟨i0, hi0, hz0, hz1, hz2⟩ := info_parts infoTwo
  obtain ⟨b, off, s, a, z, y, u, rfl, hbb, hc0, hc1, hc2, hc3, hc4, hss, Hx⟩ := Tiles.get g.ts htn
  have x3 : (w.alloc (.cells #[v1, v2, v3, .slice (some ⟨b, off, none⟩) n ca, .slice B m cb] 27)).cell? ⟨w.heap.size, 3, none⟩ = some (.slice (some ⟨b, off, none⟩) n ca) := newc rfl rfl
  have hc0 := oldc (o := .cells #[v1, v2, v3, .slice (some ⟨b, off, none⟩) n ca, .slice B m cb] 27) hc0
  have hc1 := oldc (o := .cells #[v1, v2, v3, .slice (some ⟨b, off, none⟩) n ca, .slice B m cb] 27) hc1
  have hc2 := oldc (o := .cells #[v1, v2, v3, .slice (some ⟨b, off, none⟩) n ca, .slice B m cb] 27) hc2
  have hc3 := oldc (o := .cells #[v1, v2, v3, .slice (some ⟨b, off, none⟩) n ca, .slice B m cb] 27) hc3
  have hc4 := oldc (o := .cells #[v1, v2, v3, .slice (some ⟨b, off, none⟩) n ca, .slice B m cb] 27) hc4
  have hbd := tileE_zero Hx.out (hk.tile ht)
  dsimp only at hbd
  obtain ⟨hb1, hb2, hb3, hb4, hb5, hb6, hb7, hb8⟩ := hbd
  have hti : (t : Int) < n := by omega
  obtain ⟨x, hx⟩ : ∃ x : Tile, x = ⟨s.data.toList, a, z, y, u⟩ := ⟨_, rfl⟩
  have HT : Hid (twosL h l t = twosK l t x (wideN x * swellN x)) := by rw [Hid, twosL, getD_of Hx.out, hx]
  obtain ⟨sN, hsN⟩ : ∃ sN : Nat, swellN x = sN := ⟨_, rfl⟩
  obtain ⟨wN, hwN⟩ : ∃ wN : Nat, wideN x = wN := ⟨_, rfl⟩
  have hsN' : y + (sN : Int) = u + 1 := by rw [← hsN, hx, swellN]; dsimp only; omega
  have hwN' : a + (wN : Int) = z + 1 := by rw [← hwN, hx, wideN]; dsimp only; omega
  have HP : Hid (∀ i j : Nat, j < sN → pairN x (i * sN + j) = (a + i, y + j)) := fun i j hj => by rw [← hsN, pairN_at (by rw [hsN]; exact hj), hx]
  rw [hsN, hwN] at HT
  have Hss := Lib.hid hss
  clear hsN hwN hx Hx hss
  have hsN8 : sN ≤ 4 := by omega
  have hwN8 : wN ≤ 11 := by omega
  go_enter Try.func101, Try.ntmps101
  go_wp2_with fail
  obtain ⟨W2, hW2⟩ : ∃ W2, (w.alloc (.cells #[v1, v2, v3, .slice (some ⟨b, off, none⟩) n ca, .slice B m cb] 27)).alloc (.cells #[.string s, .int .i64 a, .int .i64 z, .int .i64 y, .int .i64 u] 159) = W2 := ⟨_, rfl⟩
  have X2 : Blk W2 (w.heap.size + 1) 159 #[.string s, .int .i64 a, .int .i64 z, .int .i64 y, .int .i64 u] := by rw [← hW2]; exact Blk.new _ _ _ (by simp)
  have hs2 : Seens (fun _ => True) W2 C q l := by rw [← hW2]; exact (gs.keep SeenR.good (Keeps.alloc _ _)).keep SeenR.good (Keeps.alloc _ _)
  have hBW2 : Below w.heap.size w W2 := by rw [← hW2]; exact bl_alloc (bl_alloc (Below.refl _ _) _ (Nat.le_refl _)) _ (by simp)
  have hWs2 : w.heap.size ≤ W2.heap.size := hBW2.size
  rw [hW2]
  clear hW2 gs g x3 hc0 hc1 hc2 hc3 hc4 hbb
  have z1 := X2.cell 1
  have z2 := X2.cell 2
  have z3 := X2.cell 3
  have z4 := X2.cell 4
  go_wp2_with fail
  clear X2
  go_loopw [7, 9] (fun o i wr => ∃ (k len cap : Nat) (An : Option Addr), k ≤ wN ∧ i = .int .i64 (a + k) ∧ o = .slice An len cap ∧ Below W2.heap.size W2 wr ∧ OwnL TwoR 2 (fun _ => False) wr W2.heap.size 217 (.slice An len cap) (twosK l t x (k * sN)) ∧ Hid ((twosK l t x (k * sN)).length = len)) (fun _ i _ => (z + 1 - intOf i).toNat)
  case atStart => exact ⟨0, 0, 0, none, Nat.zero_le _, by simp, rfl, Below.refl _ _, by rw [Nat.zero_mul]; exact OwnL.nil _ _ _ _ _ _, by rw [Nat.zero_mul]; rfl⟩
  case round =>
    obtain ⟨i, len, cap, An, hi, rfl, rfl, hB, hO, Hlen⟩ := hrel
    have y1 := getc hB z1
    have y2 := getc hB z2
    have y3 := getc hB z3
    have y4 := getc hB z4
    by_cases hlt : i < wN
    · have hle : a + (i : Int) ≤ z := by omega
      go_wp2_with fail
      clear y1 y2 y3 y4
      go_loopw [7, 10] (fun o j wr => ∃ (k len cap : Nat) (An : Option Addr), k ≤ sN ∧ j = .int .i64 (y + k) ∧ o = .slice An len cap ∧ Below W2.heap.size W2 wr ∧ OwnL TwoR 2 (fun _ => False) wr W2.heap.size 217 (.slice An len cap) (twosK l t x (i * sN + k)) ∧ Hid ((twosK l t x (i * sN + k)).length = len)) (fun _ j _ => (u + 1 - intOf j).toNat)
      case atStart => exact ⟨0, len, cap, An, Nat.zero_le _, by simp, rfl, hB, hO, Hlen⟩
      case round =>
        clear hB hO Hlen
        obtain ⟨j, len, cap, An, hj, rfl, rfl, hB, hO, Hlen⟩ := hrel
        have y1 := getc hB z1
        have y2 := getc hB z2
        have y3 := getc hB z3
        have y4 := getc hB z4
        by_cases hlt2 : j < sN
        · have hle2 : y + (j : Int) ≤ u := by omega
          go_wp2_with fail
          clear y1 y2 y3 y4
          go_loopw [11, 12] (fun is kv wr' => ∃ kk r : Nat, kk ≤ q ∧ kv = .int .i64 kk ∧ is = .bool (twoUpto l t (a + i) (y + j) kk) ∧ wr' = wr.drewN r) (fun _ kv _ => q - (intOf kv).toNat)
          case atStart => exact ⟨0, 0, Nat.zero_le _, rfl, rfl, rfl⟩
          case round =>
            obtain ⟨kk, r, hkk, rfl, rfl, rfl⟩ := hrel
            by_cases hlt3 : kk < q
            · obtain ⟨bs, os, ta, ai, lo, hi', rfl, hbs, hs0, hs1, hs2', hs3, Hy⟩ := Seens.get (hs2.keep SeenR.good (Keeps.below hB)) hlt3
              have hki : (kk : Int) < q := by omega
              have hair := hsn kk _ Hy.out
              dsimp only at hair
              obtain ⟨ha0, ha40⟩ := hair
              have HN := Lib.hid (twoUpto_snoc (t := t) (w := a + i) (s := y + j) Hy.out)
              have hmul : 0 ≤ (y + (j : Int)) * ai ∧ (y + (j : Int)) * ai ≤ 800 := ⟨Int.mul_nonneg (by omega) ha0, Int.le_trans (Int.mul_le_mul (a := y + (j : Int)) (b := ai) (c := 20) (d := 40) (by omega) ha40 ha0 (by omega)) (by omega)⟩
              have hw1 : IntKind.i64.wrap ((y + (j : Int)) * ai) = (y + (j : Int)) * ai := by rw [IntKind.wrap_i64]; omega
              have hw2 : IntKind.i64.wrap (a + (i : Int) + (y + (j : Int)) * ai) = a + (i : Int) + (y + (j : Int)) * ai := by rw [IntKind.wrap_i64]; omega
              clear hmul
              cases hu : twoUpto l t (a + i) (y + j) kk
              · rw [hu] at HN
                go_wp2
                go_quiet (fail)
                go_wp2
                go_roundw
                case rel => exact ⟨kk + 1, r + nq, by omega, by go_num, by rw [HN.out]; rfl, rfl⟩
                case measure => simp [intOf]; omega
              · rw [hu] at HN
                by_cases hta : ta = (t : Int)
                · have htb : (ta != (t : Int)) = false := by simp [hta]
                  have HN2 : Hid (twoUpto l t (a + i) (y + j) (kk + 1) = inB (a + i + (y + j) * ai) lo hi') := by rw [Hid, HN.out]; simp [hta]
                  clear hta
                  go_wp2
                  go_quiet ((go_at_call 93; exact (in8_any _ _ _ _).mono fun _ _ h => ⟨h.1, _, h.2.symm⟩))
                  go_wp2
                  go_roundw
                  case rel => exact ⟨kk + 1, r + nq, by omega, by go_num, by rw [HN2.out], rfl⟩
                  case measure => simp [intOf]; omega
                · have htb : (ta != (t : Int)) = true := by simpa using hta
                  have HN2 : Hid (twoUpto l t (a + i) (y + j) (kk + 1) = true) := by rw [Hid, HN.out]; simp [hta]
                  clear hta
                  go_wp2
                  go_quiet (fail)
                  go_wp2
                  go_roundw
                  case rel => exact ⟨kk + 1, r + nq, by omega, by go_num, by rw [HN2.out], rfl⟩
                  case measure => simp [intOf]; omega
            · obtain rfl : kk = q := by omega
              have hlen44 : (twosK l t x (i * sN + j)).length ≤ i * sN + j := twosK_len _ _ _ _
              have hmul : i * sN ≤ 10 * 4 := Nat.mul_le_mul (by omega) hsN8
              have hlen : len ≤ 44 := by rw [← Hlen.out]; omega
              clear hlen44 hmul
              rw [twoUpto_all (by have := hs2.len; omega)]
              have HSn := Lib.hid (twosK_snoc l t x (i * sN + j))
              rw [HP.out i j hlt2] at HSn
              cases hto : twoOk l t (a + (i : Int)) (y + (j : Int))
              · have HS2 : Hid (twosK l t x (i * sN + j + 1) = twosK l t x (i * sN + j)) := by rw [Hid, HSn.out]; simp [hto]
                go_wp2
                go_roundw
                case rel => exact ⟨j + 1, len, cap, An, by omega, by go_num, rfl, bl_drewN hB _, by rw [← Nat.add_assoc, HS2.out]; exact hO.keep TwoR.good (Keeps.drewN _ _), by rw [Hid, ← Nat.add_assoc, HS2.out]; exact Hlen.out⟩
                case measure => simp [intOf]; omega
              · have HS2 : Hid (twosK l t x (i * sN + j + 1) = twosK l t x (i * sN + j) ++ [(a + (i : Int), y + (j : Int))]) := by rw [Hid, HSn.out]; simp [hto]
                go_wp2_with (at_builtin; refine wpList_append_n _ rfl (.tmp 79) (.tmp 83) _ rfl TwoR.good W2.heap.size 217 i0 _ 16 Try.underlying172 hi0 hz0 hz1 hz2 rfl (by omega) _ (twosK l t x (i * sN + j)) (a + (i : Int), y + (j : Int)) len Hlen.out rfl ((hO.keep TwoR.good (Keeps.drewN _ _)).alloc TwoR.good _) ⟨wr.heap.size, 0, none⟩ 1 [.int .i64 (a + (i : Int)), .int .i64 (y + (j : Int))] rfl rfl (news_new rfl (by simp)) ?c1 ?c2 ?c3 (fun h => h) ?_)
                case c1 => simp only [maxLen]; omega
                case c2 => omega
                case c3 => have := hB.size; simp; omega
                intro A' cap' w2 hown2 hg2 hat2
                have hB2 : Below W2.heap.size W2 w2 := bl_grown (bl_alloc (bl_drewN hB _) _ (Nat.le_refl _)) ((hO.keep TwoR.good (Keeps.drewN _ _)).alloc TwoR.good _) hg2 (Nat.le_refl _) (Nat.le_refl _)
                clear hg2 hat2 hO hB
                go_wp2
                go_roundw
                case rel => exact ⟨j + 1, len + 1, cap', _, by omega, by go_num, rfl, hB2, by rw [← Nat.add_assoc, HS2.out]; exact hown2, by rw [Hid, ← Nat.add_assoc, HS2.out, List.length_append, Hlen.out]; rfl⟩
                case measure => simp [intOf]; omega
        · obtain rfl : j = sN := by omega
          have hle2 : ¬ y + (j : Int) ≤ u := by omega
          go_wp2
          go_roundw
          case rel => exact ⟨i + 1, len, cap, An, by omega, by go_num, rfl, hB, by rw [Nat.succ_mul]; exact hO, by rw [Nat.succ_mul]; exact Hlen⟩
          case measure => simp [intOf]; omega
    · obtain rfl : i = wN := by omega
      have hle : ¬ a + (i : Int) ≤ z := by omega
      go_wp2
      go_ret
      refine ⟨⟨An, len, cap, by rfl, ?_⟩, hBW2.trans (hB.mono hWs2)⟩
      rw [HT.out]
      exact hO.slice TwoR.good rfl (by have h1 := twosK_len l t x (i * sN); rw [Hlen.out] at h1; have h2 := Nat.mul_le_mul hwN8 hsN8; simp only [maxLen]; omega) (fun _ h => h.elim) (fun _ h _ => Nat.le_trans hWs2 h)

end Go.Proofs.Ytnaadjhiahjlfaa
