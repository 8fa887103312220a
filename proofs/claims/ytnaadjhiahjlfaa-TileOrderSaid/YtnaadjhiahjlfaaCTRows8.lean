/- Walks: the reference's Rows. -/
import Derived.Test.YtnaadjhiahjlfaaCTRefsE
set_option linter.unusedVariables false
set_option linter.unusedSimpArgs false
set_option linter.all false
namespace Go.Proofs.Ytnaadjhiahjlfaa
open Go.RowKit

theorem infoI8 : (Try.prog.info? 3).map (fun i => (i.zero, i.size, i.bytes)) = some (some (.int .i64 0), 1, 8) := by kernel_rfl

set_option maxHeartbeats 1000000 in
theorem rows_any {S T : Foot} {A B : Option Addr} {n c m d : Nat} {xs ys : List (List Int)} (w : World) (h : Rows S w A n xs) (g : Rows T w B m ys) :
    Calls Try.prog 16 #[.slice A n c, .slice B m d] w fun e w' => e = .returned (.bool (decide (xs = ys))) ∧ ∃ q, w' = w.drewN q := by
  have hle := h.le
  have gle := g.le
  have Hlx := Lib.hid h.len
  have Hly := Lib.hid g.len
  by_cases hnm : n = m
  · obtain rfl : n = m := hnm
    have hb : ((n : Int) != (n : Int)) = false := by simp
    go_enter Try.func16, Try.ntmps16
    go_wp2
    go_loopw [5] (fun i wr => ∃ k q : Nat, k ≤ n ∧ i = .int .i64 k ∧ Hid (xs.take k = ys.take k) ∧ wr = w.drewN q) (fun i _ => n - (intOf i).toNat)
    case atStart => exact ⟨0, 0, Nat.zero_le _, rfl, by simp [Hid], rfl⟩
    case round =>
      obtain ⟨k, q, hk, rfl, Hn, rfl⟩ := hrel
      by_cases hlt : k < n
      · have hki : (k : Int) < n := by omega
        obtain ⟨b, off, x, A', n', c', rfl, hcell, hX, Hx⟩ := Rows.get h hlt
        obtain ⟨b', off', y, B', m', d', rfl, hcell', hY, Hy⟩ := Rows.get g hlt
        have HC : Hid (∀ q z0, Calls Try.prog 25 #[.slice A' n' c', .slice B' m' d'] (w.drewN (q + z0)) fun e w' => e = .returned (.bool (decide (x = y))) ∧ ∃ z, w' = w.drewN (q + z)) := fun q z0 =>
          (ints_any (w.drewN (q + z0)) (hX.keep IntR.good (Keeps.drewN _ _)) (hY.keep IntR.good (Keeps.drewN _ _))).mono fun _ _ ⟨h1, z, h2⟩ => ⟨h1, z0 + z, by rw [h2, World.drewN_drewN, Nat.add_assoc]⟩
        obtain ⟨v, hv⟩ : ∃ v, decide (x = y) = v := ⟨_, rfl⟩
        rw [hv] at HC
        cases v
        · have hne : x ≠ y := of_decide_eq_false hv
          have HR : Hid (decide (xs = ys) = false) := by
            rw [Hid, decide_eq_false_iff_not]; rintro rfl
            have h1 := Hx.out; rw [Hy.out] at h1; exact hne (Option.some.inj h1).symm
          clear hv hne hX hY
          go_wp2
          go_quiet ((go_at_call 25; exact HC.out _ _))
          go_wp2
          go_ret
          exact ⟨ret_bool HR.out.symm, _, by rw [World.drewN_drewN]⟩
        · have HE := Lib.hid (of_decide_eq_true hv)
          clear hv hX hY
          go_wp2
          go_quiet ((go_at_call 25; exact HC.out _ _))
          go_wp2
          go_roundw
          case rel => exact ⟨k + 1, q + nq, by omega, by go_num, by rw [Hid, take_snoc_get Hx.out, take_snoc_get Hy.out, Hn.out, HE.out], rfl⟩
          case measure => simp [intOf]; omega
      · go_wp2
        go_ret
        refine ⟨ret_bool ?_, _, rfl⟩
        symm; rw [decide_eq_true_iff]
        have := Hn.out
        rwa [List.take_of_length_le (by rw [Hlx.out]; omega), List.take_of_length_le (by rw [Hly.out]; omega)] at this
  · have hb : ((n : Int) != (m : Int)) = true := by simp; omega
    have HM := Lib.hid hnm
    clear hnm
    go_enter Try.func16, Try.ntmps16
    go_wp2
    go_ret
    exact ⟨ret_bool (by symm; rw [decide_eq_false_iff_not]; rintro rfl; exact HM.out (Hlx.out.symm.trans Hly.out)), 0, rfl⟩

theorem OwnL.cap8 {α : Type} {R : Rd α} {m : Nat} {S : Foot} {w : World} {base : Nat} {e : TypeId} {xs : List α} {A : Option Addr} {n cap : Nat} (h : OwnL R m S w base e (.slice A n cap) xs) : n ≤ cap := by
  obtain ⟨_, cells, ho, _⟩ := h
  rcases ho.2 with ⟨e, h0⟩ | ⟨gb, cap', cur, e, _, _, hc, _⟩
  · injection e with _ e1 e2; omega
  · injection e with _ e1 e2; omega

theorem seen_air {h : Hall} {l : List Seen} (e : (seen8 h l).2 = 0) : OkH h ∧ l.length ≤ 6 ∧ ∀ (k : Nat) (y : Seen), l[k]? = some y → 0 ≤ y.air ∧ y.air ≤ 40 := by
  obtain ⟨h1, h2, h3⟩ := seen_zero e
  refine ⟨okH_of h1, h2, fun k y hy => ?_⟩
  have := h3 k (of_getq hy)
  rw [seenE_ref (a := y.tile) (z := y.air) (y := y.lo) (u := y.hi) hy] at this
  split at this
  · cases this
  · split at this
    · cases this
    · rename_i g; simp [inB] at g; omega

end Go.Proofs.Ytnaadjhiahjlfaa
