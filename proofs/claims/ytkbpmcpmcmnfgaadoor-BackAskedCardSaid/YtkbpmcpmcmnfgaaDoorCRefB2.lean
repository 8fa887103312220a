/- Walks: the reference of layer 12: lengths, sets of truths. -/
import Derived.Test.YtkbpmcpmcmnfgaaDoorCPlain
import Derived.Test.YtkbpmcpmcmnfgaaDoorCRefB1
set_option linter.unusedVariables false
set_option linter.unusedSimpArgs false
set_option linter.all false
namespace Go.Proofs.YtkbpmcpmcmnfgaaDoor
open Go.RowKit

theorem infoInt : (Tryd.prog.info? 3).map (fun i => (i.zero, i.size, i.bytes)) = some (some (.int .i64 0), 1, 8) := by kernel_rfl

set_option maxHeartbeats 1000000 in
theorem length_any {A B C D : Option Addr} {n ca m cb q cc nt ct : Nat} {c : Claim} {t : List Int} {S T : Foot} (f : Nat) (w : World) (h : ClaimAt S w A n B m C q c) (hok : OkC c) (ht : Ints T w D nt t) (hT : TruthOk c t) (hf : f < c.feats.length) :
    Calls Tryd.prog 43 #[.agg #[.slice A n ca, .slice B m cb, .slice C q cc], .slice D nt ct, .int .i64 f] w fun e w' => e = .returned (.int .i64 (len c t f)) ∧ Below w.heap.size w w' := by
  have hnf := hok.nf.2
  have hfn : f < n := by rw [← h.fs.len]; exact hf
  have hfi : (f : Int) < n := by omega
  have hf0 : (0 : Int) ≤ f := by omega
  have hn5 : n ≤ 5 := by rw [← h.fs.len]; exact hnf
  have hntm : nt ≤ m := by rw [← ht.len, ← h.cs.len]; exact hT.1
  have hm5 : m ≤ 5 := by rw [← h.cs.len]; exact hok.nc
  obtain ⟨bf, of, sf, nom, er, hAe, hbf, hcf0, hcf1, hcf2, _, HF⟩ := h.fs.get hfn
  have HA := Lib.hid hAe
  clear hAe
  have Hnt := Lib.hid ht.len
  have hnom := hok.feat HF.out
  obtain ⟨hn1, hn2, _, _⟩ := hnom
  subst HA
  go_enter Tryd.func43, Tryd.ntmps43
  go_wp2
  go_loopw [7, 8] (fun v i wr => ∃ (k : Nat) (x : Int), k ≤ nt ∧ i = .int .i64 k ∧ v = .int .i64 x ∧ -10000 ≤ x ∧ x ≤ 110000 ∧ Hid (x = lenUpto c t f k) ∧ ∃ p, wr = (w.alloc (.cells #[.slice (some ⟨bf, of, none⟩) n ca, .slice B m cb, .slice C q cc] 26)).drewN p) (fun _ i _ => nt - (intOf i).toNat)
  case atStart => exact ⟨0, nom, Nat.zero_le _, rfl, rfl, by omega, by omega, by rw [Hid, lenUpto, getD_of HF.out], 0, rfl⟩
  case round =>
    obtain ⟨k, x, hk, rfl, rfl, hx1, hx2, Hx, p, rfl⟩ := hrel
    by_cases hlt : k < nt
    · obtain ⟨bt, ot, y, rfl, hct, Hy⟩ := ht.get hlt
      obtain ⟨bc, oc, sc, lo, hi, P, np, cp, per, rfl, hbc, hcc0, hcc1, hcc2, hcc3, _, hper, Hc⟩ := h.cs.get (k := k) (by omega)
      have hcause := hok.cause Hc.out
      have hnp : np = n := by rw [← hper.len, hcause.1, h.fs.len]
      have HNP := Lib.hid hnp
      clear hnp
      obtain ⟨bp, op, z, rfl, hcp, Hz⟩ := hper.get (k := f) (by rw [HNP.out]; exact hfn)
      have hfp : (f : Int) < np := by rw [HNP.out]; exact hfi
      have hbt := World.block_lt_of_cell? w _ hct
      have hbp := World.block_lt_of_cell? w _ hcp
      dsimp only at hbt hbp
      have hterm := term_bd hok hT hf (k := k) (by rw [Hnt.out]; exact hlt)
      rw [getD_of Hy.out] at hterm
      have hper' : perOf c f k = z := by unfold perOf; rw [getD_of Hc.out, getD_of Hz.out]
      rw [hper'] at hterm
      have Hstep : Hid (lenUpto c t f (k + 1) = x + y * z) := by rw [Hid, lenUpto, ← Hx.out, getD_of Hy.out, hper']
      obtain ⟨ht1, ht2⟩ := hterm
      have hlen2 := lenUpto_bd hok hT hf (k := k + 1) (by rw [Hnt.out]; exact hlt)
      rw [Hstep.out] at hlen2
      have hbound : -10000 ≤ x + y * z ∧ x + y * z ≤ 110000 := by omega
      obtain ⟨hq1, hq2⟩ := hbound
      clear hper' hlen2 hcause
      go_wp2
      go_quiet (fail)
      go_wp2
      go_roundw
      case rel => exact ⟨k + 1, _, by omega, by go_num, rfl, hq1, hq2, Hstep.symm, _, rfl⟩
      case measure => simp [intOf]; omega
    · obtain rfl : k = nt := by omega
      go_wp2
      go_ret
      exact ⟨ret_int (by rw [Hx.out, len, Hnt.out]), bl_drewN (bl_alloc (Below.refl _ _) _ (Nat.le_refl _)) _⟩

set_option maxHeartbeats 400000 in
theorem part_any {S T : Foot} {A B : Option Addr} {n c m d : Nat} {xs ys : List Int} (w : World) (h : Ints S w A n xs) (g : Ints T w B m ys) :
    Calls Tryd.prog 67 #[.slice A n c, .slice B m d] w fun e w' => e = .returned (.bool (partL xs ys)) ∧ w = w' := by
  have hle := h.le
  go_enter Tryd.func67, Tryd.ntmps67
  go_wp2
  go_loop [5] (fun i => ∃ k : Nat, k ≤ n ∧ i = .int .i64 k ∧ Hid (partL (xs.take k) ys = true)) (fun i => n - (intOf i).toNat)
  case atStart => exact ⟨0, Nat.zero_le _, rfl, rfl⟩
  case round =>
    obtain ⟨k, hk, rfl, Hn⟩ := hrel
    by_cases hlt : k < n
    · obtain ⟨b, off, x, rfl, hcell, Hx⟩ := h.get hlt
      by_cases hm : x ∈ ys
      · have HM := Lib.hid hm
        have hmb := decide_eq_true hm
        clear hm
        go_wp2_with (go_at_call 46; refine (has_any _ _ g).mono ?_; rintro e w' ⟨rfl, rfl⟩)
        go_round
        case rel => exact ⟨k + 1, by omega, by go_num, by rw [Hid, take_snoc_get Hx.out, partL, List.all_append, ← partL, Hn.out]; simp [HM.out]⟩
        case measure => simp [intOf]; omega
      · have HM := Lib.hid hm
        have hmb := decide_eq_false hm
        clear hm
        go_wp2_with (go_at_call 46; refine (has_any _ _ g).mono ?_; rintro e w' ⟨rfl, rfl⟩)
        go_ret
        refine ⟨ret_bool ?_, rfl⟩
        symm; rw [← Bool.not_eq_true, partL, List.all_eq_true]
        intro hall
        have := hall x (List.mem_of_getElem? Hx.out)
        exact HM.out (of_decide_eq_true this)
    · go_wp2
      go_ret
      exact ⟨ret_bool (by have := Hn.out; rw [List.take_of_length_le (by rw [h.len]; omega)] at this; exact this.symm), rfl⟩

set_option maxHeartbeats 400000 in
theorem set_any {S : Foot} {A : Option Addr} {n c : Nat} {xs : List Int} (w : World) (h : Ints S w A n xs) (hn : n ≤ 1000000) :
    Calls Tryd.prog 40 #[.slice A n c] w fun e w' => ∃ A' n' c', e = .returned (.slice A' n' c') ∧ Ints (fun k => w.heap.size ≤ k) w' A' n' (setL xs) ∧ Below w.heap.size w w' := by
  obtain ⟨i0, hi0, hz0, hz1, hz2⟩ := info_parts infoInt
  have Hlen := Lib.hid h.len
  go_enter Tryd.func40, Tryd.ntmps40
  go_wp2
  go_loopw [3, 4] (fun v i wr => ∃ (k n' cap : Nat) (A' : Option Addr) (l : List Int), k ≤ n ∧ i = .int .i64 k ∧ v = .slice A' n' cap ∧ n' ≤ k ∧ Hid (l.length = n') ∧ OwnL IntR 1 (fun _ => False) wr w.heap.size 3 (.slice A' n' cap) l ∧ Below w.heap.size w wr ∧ Hid (l = ((List.range k).filter fun i => decide (0 < xs.getD i 0)).map fun i : Nat => (i : Int))) (fun _ i _ => n - (intOf i).toNat)
  case atStart => exact ⟨0, 0, 0, none, [], Nat.zero_le _, rfl, rfl, Nat.le_refl _, rfl, OwnL.nil _ _ _ _ _ _, Below.refl _ _, rfl⟩
  case round =>
    obtain ⟨k, n', cap, A', l, hk, rfl, rfl, hn', Hl, hO, hB, Hf⟩ := hrel
    by_cases hlt : k < n
    · obtain ⟨b, off, x, rfl, hcell, Hx⟩ := Ints.get (h.keep IntR.good (Keeps.below hB)) hlt
      by_cases hx : 0 < x
      · have Hs : Hid (l ++ [(k : Int)] = ((List.range (k + 1)).filter fun i => decide (0 < xs.getD i 0)).map fun i : Nat => (i : Int)) := by
          rw [Hid, range_filter_succ, ← Hf.out, if_pos (by rw [getD_of Hx.out]; exact decide_eq_true hx)]
        go_wp2_with (at_builtin; refine wpList_append_n _ rfl _ _ _ rfl IntR.good w.heap.size 3 i0 _ 8 Tryd.underlying34 hi0 hz0 hz1 hz2 rfl (by omega) _ l (k : Int) n' Hl.out rfl (hO.alloc IntR.good _) ⟨_, 0, none⟩ 1 [.int .i64 k] rfl rfl (news_new rfl rfl) ?c1 ?c2 ?c3 (fun h => h) ?_)
        case c1 => simp only [maxLen]; omega
        case c2 => omega
        case c3 => have := hB.size; simp; omega
        intro A2 cap2 w2 hO2 hg2 _
        have hB2 : Below w.heap.size w w2 := bl_grown (bl_alloc hB _ (Nat.le_refl _)) (hO.alloc IntR.good _) hg2 (Nat.le_refl _) (Nat.le_refl _)
        clear hg2 hO
        go_wp2
        go_roundw
        case rel => exact ⟨k + 1, n' + 1, cap2, _, _, by omega, by go_num, rfl, by omega, by rw [Hid, List.length_append, Hl.out]; rfl, hO2, hB2, Hs⟩
        case measure => simp [intOf]; omega
      · have Hs : Hid (l = ((List.range (k + 1)).filter fun i => decide (0 < xs.getD i 0)).map fun i : Nat => (i : Int)) := by
          rw [Hid, range_filter_succ, ← Hf.out, if_neg (by rw [getD_of Hx.out]; simpa using hx), List.append_nil]
        go_wp2
        go_roundw
        case rel => exact ⟨k + 1, n', cap, _, _, by omega, by go_num, rfl, by omega, Hl, hO, hB, Hs⟩
        case measure => simp [intOf]; omega
    · obtain rfl : k = n := by omega
      go_wp2
      go_ret
      refine ⟨A', n', cap, rfl, ?_, hB⟩
      have hS := hO.slice (T := fun k => w.heap.size ≤ k) IntR.good rfl (by simp only [maxLen]; omega) (fun _ h => h.elim) (fun _ h _ => h)
      rw [Hf.out, ← Hlen.out] at hS
      exact hS

set_option maxHeartbeats 400000 in
theorem less_any {S T : Foot} {A B : Option Addr} {n c m d : Nat} {xs ys : List Int} (w : World) (h : Ints S w A n xs) (g : Ints T w B m ys) :
    Calls Tryd.prog 69 #[.slice A n c, .slice B m d] w fun e w' => e = .returned (.bool (lessL xs ys)) ∧ ∃ q, w' = w.drewN q := by
  have hle := h.le
  have gle := g.le
  by_cases hnm : n = m
  · obtain rfl : n = m := hnm
    have hb : ((n : Int) != (n : Int)) = false := by simp
    have Hless : Hid (lessL xs ys = lexLt xs ys) := by rw [Hid, lessL, if_neg (by rw [h.len, g.len]; simp)]
    go_enter Tryd.func69, Tryd.ntmps69
    go_wp2
    go_loopw [5] (fun i wr => ∃ k : Nat, k ≤ n ∧ i = .int .i64 k ∧ Hid (lexLt xs ys = lexLt (xs.drop k) (ys.drop k)) ∧ ∃ q, wr = w.drewN q) (fun i _ => n - (intOf i).toNat)
    case atStart => exact ⟨0, Nat.zero_le _, rfl, rfl, 0, rfl⟩
    case round =>
      obtain ⟨k, hk, rfl, Hn, q, rfl⟩ := hrel
      by_cases hlt : k < n
      · obtain ⟨b, off, x, rfl, hcell, Hx⟩ := h.get hlt
        obtain ⟨b', off', y, rfl, hcell', Hy⟩ := g.get hlt
        have hdx := drop_cons Hx.out
        have hdy := drop_cons Hy.out
        have Hstep : Hid (lexLt xs ys = if x = y then lexLt (xs.drop (k + 1)) (ys.drop (k + 1)) else decide (x < y)) := by rw [Hid, Hn.out, hdx, hdy, lexLt]
        clear hdx hdy
        by_cases hm : x = y
        · have hmb : (x != y) = false := by simpa using hm
          have HM := Lib.hid hm
          clear hm
          go_wp2
          go_quiet (fail)
          go_wp2
          go_roundw
          case rel => exact ⟨k + 1, by omega, by go_num, by rw [Hid, Hstep.out, if_pos HM.out], _, rfl⟩
          case measure => simp [intOf]; omega
        · have hmb : (x != y) = true := by simpa using hm
          have HM := Lib.hid hm
          clear hm
          go_wp2
          go_quiet (fail)
          go_wp2
          go_quiet (fail)
          go_wp2
          go_ret
          exact ⟨ret_bool (by rw [Hless.out, Hstep.out, if_neg HM.out]), _, by simp only [World.drewN_drewN]; exact rfl⟩
      · go_wp2
        go_ret
        exact ⟨ret_bool (by rw [Hless.out, Hn.out, List.drop_of_length_le (by rw [h.len]; omega)]; rfl), _, rfl⟩
  · have hb : ((n : Int) != (m : Int)) = true := by simp; omega
    have HM : Hid (lessL xs ys = decide ((n : Int) < m)) := by rw [Hid, lessL, h.len, g.len, if_pos hnm]; simp
    clear hnm
    go_enter Tryd.func69, Tryd.ntmps69
    go_wp2
    go_ret
    exact ⟨ret_bool (by rw [HM.out, decide_eq_decide]; omega), 0, rfl⟩

end Go.Proofs.YtkbpmcpmcmnfgaaDoor
