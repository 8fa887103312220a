/- Walks, layer 7: what the outright laws call first: good, turn, among, Made, in, Has. -/
import Derived.Test.YtpdldmichpmgmaaGreatCKLaw3
import Derived.Test.YtpdldmichpmgmaaGreatCTTurP
set_option linter.unusedVariables false
set_option linter.unusedSimpArgs false
set_option linter.all false
namespace Go.Proofs.YtpdldmichpmgmaaGreat
open Go.RowKit Go.Shelf

/-- a byte -/
def ByteR : Rd Nat := fun _ _ x vs => vs = [.int .u8 (x : Int)] ∧ x < 256
theorem ByteR.good : ByteR.Good 1 where
  len := by rintro S w x vs ⟨rfl, _⟩; rfl
  one := by rintro S w x vs ⟨rfl, _⟩ v hv; simp at hv; subst hv; rfl
  keep := by rintro S w w' x vs h hk; exact h
  mono := by rintro S T w x vs h hk; exact h
  bound := by rintro S w x vs h; exact h
abbrev Bytes := SliceOf ByteR 1
theorem Bytes.get {S : Foot} {w : World} {A : Option Addr} {n : Nat} {xs : List Nat} {k : Nat} (h : Bytes S w A n xs) (hk : k < n) :
    ∃ b off x, A = some ⟨b, off, none⟩ ∧ w.cell? ⟨b, off + k, none⟩ = some (.int .u8 ((x : Nat) : Int)) ∧ Hid (xs[k]? = some x) ∧ x < 256 := by
  have hlt : k < xs.length := by rw [h.1]; exact hk
  obtain ⟨b, off, vs, hA, _, _, ⟨rfl, hx⟩, hc⟩ := h.2.2 k xs[k] (List.getElem?_eq_getElem hlt)
  exact ⟨b, off, xs[k], hA, by simpa using hc 0 _ rfl, List.getElem?_eq_getElem hlt, hx⟩
theorem Bytes.all {S : Foot} {w : World} {A : Option Addr} {n : Nat} {xs : List Nat} (h : Bytes S w A n xs) : ∀ x ∈ xs, x < 256 := by
  intro x hx
  obtain ⟨k, hk, rfl⟩ := List.getElem_of_mem hx
  obtain ⟨_, _, _, _, _, _, ⟨_, h1⟩, _⟩ := h.2.2 k _ (List.getElem?_eq_getElem hk)
  exact h1
theorem turn_lt {xs : List Nat} (h : ∀ x ∈ xs, x < 256) (k : Nat) : turnL xs k ≤ 255 := by
  unfold turnL
  split
  · omega
  · rename_i hl
    have hlt : k % xs.length < xs.length := Nat.mod_lt _ (by omega)
    rw [getD_of (List.getElem?_eq_getElem hlt)]
    have := h _ (List.getElem_mem hlt)
    omega
theorem turn7_any {S : Foot} {A : Option Addr} {n c : Nat} {xs : List Nat} (k : Nat) (w : World) (h : Bytes S w A n xs) :
    Calls Tryz.prog 48 #[.slice A n c, .int .i64 k] w fun e w' => e = .returned (.int .i64 (turnL xs k)) ∧ w' = w := by
  have hle := h.le
  have Hl := Lib.hid h.len
  by_cases h0 : n = 0
  · subst h0
    have HR : Hid (turnL xs k = 0) := by rw [Hid, turnL, if_pos Hl.out]
    go_enter Tryz.func48, Tryz.ntmps48
    go_wp2
    go_ret
    exact ⟨ret_int (by rw [HR.out]; rfl), rfl⟩
  · obtain ⟨r, hr⟩ : ∃ r, k % n = r := ⟨_, rfl⟩
    have hrn : r < n := by rw [← hr]; exact Nat.mod_lt _ (by omega)
    obtain ⟨b, off, x, rfl, hcell, Hx, hx⟩ := Bytes.get h hrn
    have HR : Hid (turnL xs k = x) := by rw [Hid, turnL, if_neg (by rw [Hl.out]; exact h0), Hl.out, hr, getD_of Hx.out]
    have hmod : ((k : Int)).tmod (n : Int) = (r : Int) := by rw [Int.tmod_eq_emod_of_nonneg (by omega), ← hr]; rfl
    have hnz : ¬ (n : Int) = 0 := by omega
    have hnz2 : ((n : Int) == 0) = false := by simp; omega
    have hrni : (r : Int) < n := by omega
    have hcv : IntKind.i64.wrap (x : Int) = x := by rw [IntKind.wrap_i64]; omega
    clear hr h
    go_enter Tryz.func48, Tryz.ntmps48
    go_wp2
    go_ret
    exact ⟨ret_int (by rw [HR.out]), rfl⟩
def amongC (a z n : Int) : Int := a + n.tmod (z - a + 1)
theorem amongC_bd {a z : Int} {n : Nat} (h : a ≤ z) : a ≤ amongC a z n ∧ amongC a z n ≤ z := by
  unfold amongC
  obtain ⟨d, hd⟩ := Int.eq_ofNat_of_zero_le (show 0 ≤ z - a + 1 by omega)
  rw [Int.tmod_eq_emod_of_nonneg (by omega), hd]
  have e1 : (n : Int) % (d : Int) = ((n % d : Nat) : Int) := rfl
  have e2 : n % d < d := Nat.mod_lt _ (by omega)
  omega
theorem among7_any (a z : Int) (n : Nat) (w : World) (h0 : 0 ≤ a) (h1 : a ≤ z) (h2 : z ≤ 100000) (hn : n ≤ 255) :
    Calls Tryz.prog 47 #[.agg #[.int .i64 a, .int .i64 z], .int .i64 n] w fun e w' => e = .returned (.int .i64 (amongC a z n)) ∧ Below w.heap.size w w' := by
  have hx1 : IntKind.i64.wrap (z - a) = z - a := by rw [IntKind.wrap_i64]; omega
  have hx2 : IntKind.i64.wrap (z - a + 1) = z - a + 1 := by rw [IntKind.wrap_i64]; omega
  have hnz : ¬ z - a + 1 = 0 := by omega
  have hnz2 : (z - a + 1 == 0) = false := by simp; omega
  obtain ⟨r, hr⟩ : ∃ r, (n : Int).tmod (z - a + 1) = r := ⟨_, rfl⟩
  have hrb : 0 ≤ r ∧ r ≤ 255 := by
    obtain ⟨d, hd⟩ := Int.eq_ofNat_of_zero_le (show 0 ≤ z - a + 1 by omega)
    rw [← hr, Int.tmod_eq_emod_of_nonneg (by omega), hd]
    have e1 : (n : Int) % (d : Int) = ((n % d : Nat) : Int) := rfl
    have e2 := Nat.mod_le n d
    omega
  have hx3 : IntKind.i64.wrap r = r := by rw [IntKind.wrap_i64]; omega
  have hx4 : IntKind.i64.wrap (a + r) = a + r := by rw [IntKind.wrap_i64]; omega
  have HR : Hid (amongC a z n = a + r) := by rw [Hid, amongC, hr]
  have hB := bl_alloc (Below.refl w.heap.size w) (.cells #[.int .i64 a, .int .i64 z] 23) (Nat.le_refl _)
  go_enter Tryz.func47, Tryz.ntmps47
  go_wp2_with fail
  go_quiet (fail)
  go_wp2
  go_ret
  exact ⟨ret_int HR.out.symm, bl_drewN hB _⟩
set_option maxHeartbeats 1000000 in
theorem has7_any {S : Foot} {A : Option Addr} {n c : Nat} {xs : List Pl} (p : Pl) (w : World) (h : Pls S w A n xs) :
    Calls Tryz.prog 21 #[.slice A n c, .agg #[.int .i64 (p.1 : Int), .int .i64 (p.2 : Int)]] w fun e w' => e = .returned (.bool (decide (p ∈ xs))) ∧ Below w.heap.size w w' := by
  have hle := h.le
  obtain ⟨p1, p2⟩ := p
  dsimp only
  obtain ⟨W, hW⟩ : ∃ W, w.alloc (.cells #[.int .i64 (p1 : Int), .int .i64 (p2 : Int)] 54) = W := ⟨_, rfl⟩
  have X : Blk W w.heap.size 54 #[.int .i64 (p1 : Int), .int .i64 (p2 : Int)] := by rw [← hW]; exact Blk.new _ _ _ rfl
  have hBW : Below w.heap.size w W := by rw [← hW]; exact bl_alloc (Below.refl _ _) _ (Nat.le_refl _)
  have hp : Pls S W A n xs := h.keep PlR.good (Keeps.below hBW)
  have x0 := X.cell 0
  have x1 := X.cell 1
  have Hn := Lib.hid h.len
  clear X h
  go_enter Tryz.func21, Tryz.ntmps21
  go_wp2_with fail
  clear hW
  go_loopw [5] (fun i wr => ∃ k : Nat, k ≤ n ∧ i = .int .i64 k ∧ Hid ((p1, p2) ∉ xs.take k) ∧ ∃ q, wr = W.drewN q) (fun i _ => n - (intOf i).toNat)
  case atStart => exact ⟨0, Nat.zero_le _, rfl, by simp [Hid], 0, rfl⟩
  case round =>
    obtain ⟨k, hk, rfl, Hm, q, rfl⟩ := hrel
    by_cases hlt : k < n
    · have hki : (k : Int) < n := by omega
      obtain ⟨b, off, y1, y2, rfl, _, hd0, hd1, Hy⟩ := hp.get hlt
      by_cases hm : y1 = p1
      · subst hm
        by_cases hm2 : y2 = p2
        · subst hm2
          go_wp2_with fail
          go_quiet (fail)
          go_wp2
          go_ret
          exact ⟨ret_bool (decide_eq_true (List.mem_of_getElem? Hy.out)).symm, bl_drewN (bl_drewN hBW _) _⟩
        · have hmb : ¬ (y2 : Int) = (p2 : Int) := by omega
          have HM2 : Hid ((y1, p2) ∉ xs.take (k + 1)) := by
            rw [Hid, take_snoc_get Hy.out]
            intro hh
            rcases List.mem_append.1 hh with hh | hh
            · exact Hm.out hh
            · exact hm2 (congrArg Prod.snd (List.mem_singleton.1 hh)).symm
          clear hm2
          go_wp2_with fail
          go_quiet (fail)
          go_wp2
          go_roundw
          case rel => exact ⟨k + 1, by omega, by go_num, HM2, _, rfl⟩
          case measure => simp [intOf]; omega
      · have hmb : ¬ (y1 : Int) = (p1 : Int) := by omega
        have HM2 : Hid ((p1, p2) ∉ xs.take (k + 1)) := by
          rw [Hid, take_snoc_get Hy.out]
          intro hh
          rcases List.mem_append.1 hh with hh | hh
          · exact Hm.out hh
          · exact hm (congrArg Prod.fst (List.mem_singleton.1 hh)).symm
        clear hm
        go_wp2_with fail
        go_quiet (fail)
        go_wp2
        go_roundw
        case rel => exact ⟨k + 1, by omega, by go_num, HM2, _, rfl⟩
        case measure => simp [intOf]; omega
    · have hki : ¬ (k : Int) < n := by omega
      go_wp2_with fail
      go_ret
      refine ⟨ret_bool ?_, bl_drewN hBW _⟩
      symm; rw [decide_eq_false_iff_not]
      have := Hm.out
      rwa [List.take_of_length_le (by rw [Hn.out]; omega)] at this
/-- the size of a cast in a truth, cast by cast -/
theorem made7_loop (a w k : Int) (c : Nat) : made7 a w (c : Int) k = (a + w * c) - ((a + w * c) * k).tdiv 1000 := rfl
set_option maxHeartbeats 2000000 in
theorem lmade7_any {S : Foot} {T : Option Addr} {n tc m c : Nat} {tw : List (Int × Int)} {k a v : Int} (w : World) (h : Pairs S w T n tw) (hm : tw[m]? = some (a, v)) (h1 : 1 ≤ a ∧ a ≤ 20000) (h2 : 0 ≤ v ∧ v ≤ 20) (h3 : c ≤ 8) (h4 : 0 ≤ k ∧ k ≤ 100) :
    Calls Tryz.prog 24 #[.agg #[.int .i64 k, .slice T n tc], .agg #[.int .i64 m, .int .i64 c]] w fun e w' => e = .returned (.int .i64 (made7 a v c k)) ∧ Below w.heap.size w w' := by
  have hle := h.le
  have hmn : m < n := by rw [← h.len]; exact of_getq hm
  have hmi : (m : Int) < n := by omega
  obtain ⟨q1, q2, q3, q4, q5, q6⟩ := made7_bd (c := (c : Int)) h1 h2 (by omega) h4
  obtain ⟨W, hW⟩ : ∃ W, (w.alloc (.cells #[.int .i64 k, .slice T n tc] 48)).alloc (.cells #[.int .i64 m, .int .i64 c] 54) = W := ⟨_, rfl⟩
  have X : Blk W w.heap.size 48 #[.int .i64 k, .slice T n tc] := by rw [← hW]; exact (Blk.new _ _ _ rfl).alloc _
  have Y : Blk W (w.heap.size + 1) 54 #[.int .i64 m, .int .i64 c] := by rw [← hW]; exact Blk.new _ _ _ (by simp)
  have hBW : Below w.heap.size w W := by rw [← hW]; exact bl_alloc (bl_alloc (Below.refl _ _) _ (Nat.le_refl _)) _ (Nat.le_refl _)
  obtain ⟨b, off, a', v', rfl, hb, hc0, hc1, Ha⟩ := Pairs.get (h.keep PairR.good (Keeps.below hBW)) hmn
  obtain ⟨rfl, rfl⟩ : a' = a ∧ v' = v := by
    have := Ha.out; rw [hm] at this
    injection this with this; injection this with e1 e2; exact ⟨e1.symm, e2.symm⟩
  have x0 := X.cell 0
  have x1 := X.cell 1
  have y0 := Y.cell 0
  have y1 := Y.cell 1
  clear X Y h hb hm Ha
  go_enter Tryz.func24, Tryz.ntmps24
  go_wp2_with fail
  clear hW
  go_loopw [5, 6] (fun nv i wr => ∃ (j : Nat), j ≤ c ∧ i = .int .i64 j ∧ nv = .int .i64 (a' + v' * j) ∧ wr = W) (fun _ i _ => c - (intOf i).toNat)
  case atStart => exact ⟨0, Nat.zero_le _, rfl, by simp, rfl⟩
  case round =>
    obtain ⟨j, hj, rfl, rfl, rfl⟩ := hrel
    have hvj : 0 ≤ v' * (j : Int) := Int.mul_nonneg h2.1 (by omega)
    have hvj2 : v' * (j : Int) ≤ 20 * 8 := Int.mul_le_mul h2.2 (by omega) (by omega) (by decide)
    by_cases hlt : j < c
    · have hji : (j : Int) < c := by omega
      obtain ⟨x, hx⟩ : ∃ x, v' * (j : Int) = x := ⟨_, rfl⟩
      have hxs : v' * ((j + 1 : Nat) : Int) = x + v' := by rw [← hx, Int.natCast_add, Int.mul_add]; simp
      have hw1 : IntKind.i64.wrap (a' + x + v') = a' + (x + v') := by rw [IntKind.wrap_i64]; omega
      rw [hx]
      have HXS := Lib.hid hxs
      have HXX := Lib.hid hx
      rw [hx] at hvj hvj2
      clear hx hxs
      go_wp2_with fail
      go_roundw
      case rel => exact ⟨j + 1, by omega, by go_num, by rw [HXS.out], trivial⟩
      case measure => simp [intOf]; omega
    · obtain rfl : j = c := by omega
      have hji : ¬ (j : Int) < j := by omega
      have HM : Hid (made7 a' v' j k = (a' + v' * j) - ((a' + v' * j) * k).tdiv 1000) := rfl
      obtain ⟨nn, hnn⟩ : ∃ nn, a' + v' * (j : Int) = nn := ⟨_, rfl⟩
      rw [hnn] at q3 q4 HM
      rw [hnn]
      have hx3 : IntKind.i64.wrap (nn * k) = nn * k := by rw [IntKind.wrap_i64]; omega
      obtain ⟨d, hd⟩ : ∃ d, (nn * k).tdiv 1000 = d := ⟨_, rfl⟩
      have hd2 : (nn * k) / 1000 = d := by rw [← hd, Int.tdiv_eq_ediv_of_nonneg q3]
      have hx4 : IntKind.i64.wrap ((nn * k).tdiv 1000) = d := by rw [hd, IntKind.wrap_i64]; omega
      have hx5 : IntKind.i64.wrap (nn - d) = nn - d := by rw [IntKind.wrap_i64]; omega
      have HM2 : Hid (made7 a' v' j k = nn - d) := by rw [Hid, HM.out, hd]
      clear hnn q1 q2 q3 q4 q5 q6 hd hd2 h1 h2 h4 hvj hvj2 HM
      go_wp2_with fail
      go_ret
      exact ⟨by rw [HM2.out]; rfl, hBW⟩
end Go.Proofs.YtpdldmichpmgmaaGreat
