/- Walks: the laws' Truth. -/
import Derived.Test.YtkbpmcpmcmnfgaaDoorCLaw1
import Derived.Test.YtkbpmcpmcmnfgaaDoorCOwn
set_option linter.unusedVariables false
set_option linter.unusedSimpArgs false
set_option linter.all false
namespace Go.Proofs.YtkbpmcpmcmnfgaaDoor
open Go.RowKit

/-- how much of the cause x stands in the truth that the bytes draw -/
def truthAt (x : List Int) (i : Nat) (a : Cause) : Int := if turnR x i % 2 = 0 then 0 else a.lo + (turnR x i / 2) % (a.hi - a.lo + 1)
def truthR (c : Claim) (x : List Int) : List Int := c.causes.mapIdx fun i a => truthAt x i a

theorem turnR_byte {S : Foot} {w : World} {A : Option Addr} {n : Nat} {xs : List Int} (h : Bytes S w A n xs) (i : Nat) : ∃ y : Nat, turnR xs i = y ∧ y < 256 := by
  by_cases h0 : n = 0
  · have : xs = [] := List.eq_nil_of_length_eq_zero (h.len.trans h0)
    subst this
    exact ⟨0, rfl, by omega⟩
  · have hl := h.len
    obtain ⟨b, off, x, rfl, hcell, hx0, hx1, Hx⟩ := h.get (k := i % n) (Nat.mod_lt _ (by omega))
    obtain ⟨y, rfl⟩ := Int.eq_ofNat_of_zero_le hx0
    exact ⟨y, by rw [turnR, hl, List.getD_eq_getElem?_getD, Hx.out]; rfl, by omega⟩

set_option maxRecDepth 100000 in
set_option maxHeartbeats 1000000 in
theorem truth_any {S : Foot} {A B C X : Option Addr} {n ca m cb q cc nx cx : Nat} {c : Claim} {x : List Int} (w : World) (h : ClaimAt (fun _ => True) w A n B m C q c) (hok : OkC c) (hX : Bytes S w X nx x) :
    Calls Tryd.prog 38 #[.agg #[.slice A n ca, .slice B m cb, .slice C q cc], .slice X nx cx] w fun e w' => ∃ A' n' c', e = .returned (.slice A' n' c') ∧ Ints (fun k => w.heap.size ≤ k) w' A' n' (truthR c x) ∧ Below w.heap.size w w' := by
  obtain ⟨i0, hi0, hz0, hz1, hz2⟩ := info_parts infoInt
  have Hm := Lib.hid h.cs.len
  have hm5 : m ≤ 5 := by rw [← Hm.out]; exact hok.nc
  go_enter Tryd.func38, Tryd.ntmps38
  go_wp2
  go_loopw [5, 6] (fun v i wr => ∃ (k cap : Nat) (A' : Option Addr) (l : List Int), k ≤ m ∧ i = .int .i64 k ∧ v = .slice A' k cap ∧ Hid (l.length = k) ∧ OwnL IntR 1 (fun _ => False) wr (w.heap.size + 1) 3 (.slice A' k cap) l ∧ Below (w.heap.size + 1) (w.alloc (.cells #[.slice A n ca, .slice B m cb, .slice C q cc] 26)) wr ∧ Hid (l = (c.causes.take k).mapIdx fun i a => truthAt x i a)) (fun _ i _ => m - (intOf i).toNat)
  case atStart => exact ⟨0, 0, none, [], Nat.zero_le _, rfl, rfl, rfl, OwnL.nil _ _ _ _ _ _, Below.refl _ _, rfl⟩
  case round =>
    obtain ⟨k, cap, A', l, hk, rfl, rfl, Hl, hO, hB, Hf⟩ := hrel
    have hs1 : (w.alloc (.cells #[.slice A n ca, .slice B m cb, .slice C q cc] 26)).heap.size = w.heap.size + 1 := by simp
    have hg1 : wr.cell? ⟨w.heap.size, 1, none⟩ = some (.slice B m cb) := getc (hs1.symm ▸ hB) (newc rfl rfl)
    by_cases hlt : k < m
    · have hki : (k : Int) < m := by omega
      have hB0 : Below w.heap.size w wr := bl_call (bl_alloc (Below.refl _ _) _ (Nat.le_refl _)) (hs1.symm ▸ hB) (by omega)
      have hcl := h.keep (Keeps.below hB0)
      have hXl := hX.keep U8R.good (Keeps.below hB0)
      obtain ⟨y, hy, hy256⟩ := turnR_byte hX k
      have HY := Lib.hid hy
      obtain ⟨b, off, s, lo, hi, P, np, cp, per, rfl, hbl, hc0, hc1, hc2, hc3, hss, hper, Hx⟩ := Causes.get hcl.cs hlt
      obtain ⟨_, _, hlo1, hlohi, hhi, hdf⟩ := hok.cause Hx.out
      dsimp only at hlo1 hlohi hhi hdf
      clear hy hc0 hc3 hper hss
      have hgl : w.heap.size < wr.heap.size := by have := hB.size; omega
      have hk64 : (k : Int) < 9223372036854775808 := by omega
      have kk : Hid (∀ W', Below wr.heap.size wr W' → W'.cell? ⟨w.heap.size, 1, none⟩ = some (.slice (some ⟨b, off, none⟩) m cb) ∧ W'.cell? ⟨b, off + k * 4 + 1, none⟩ = some (.int .i64 lo) ∧ W'.cell? ⟨b, off + k * 4 + 2, none⟩ = some (.int .i64 hi) ∧ Below wr.heap.size wr W') := fun W' hb => ⟨getc hb hg1, getc hb hc1, getc hb hc2, hb⟩
      go_wp2
      go_region_held3 (fun w' => w'.cell? ⟨w.heap.size, 1, none⟩ = some (.slice (some ⟨b, off, none⟩) m cb) ∧ w'.cell? ⟨b, off + k * 4 + 1, none⟩ = some (.int .i64 lo) ∧ w'.cell? ⟨b, off + k * 4 + 2, none⟩ = some (.int .i64 hi) ∧ Below wr.heap.size wr w')
        (first | exact kk.out _ (Below.refl _ _).drew | exact kk.out _ (Below.refl _ _) | exact kk.out _ (bl_alloc (Below.refl _ _) _ (Nat.le_refl _)) | exact kk.out _ (bl_alloc (Below.refl _ _) _ (Nat.le_refl _)).drew | exact kk.out _ (bl_alloc (Below.refl _ _).drew _ (Nat.le_refl _)))
        (first | (go_at_call 49; have hh := ‹_ ∧ _ ∧ _ ∧ Below wr.heap.size wr _›; have hp := hh.2.2.2; clear hh; refine (turn_any k _ (hXl.keep U8R.good (Keeps.below hp)) hk64).mono ?_; rintro e w' ⟨rfl, rfl⟩; rw [HY.out]))
      all_goals
        rename_i hHeld
        clear hHeld
        first | (obtain ⟨Wb, hgN, hBN, hWb⟩ : ∃ Wb, Blk Wb wr.heap.size 44 #[.int .i64 lo, .int .i64 hi] ∧ Below wr.heap.size wr Wb ∧ (wr.alloc (.cells #[.int .i64 lo, .int .i64 hi] 44)).drew = Wb := ⟨_, (Blk.new _ _ _ rfl).drew, (bl_alloc (Below.refl _ _) _ (Nat.le_refl _)).drew, rfl⟩; rw [hWb]; clear hWb) | (obtain ⟨Wb, hgN, hBN, hWb⟩ : ∃ Wb, Blk Wb wr.heap.size 44 #[.int .i64 lo, .int .i64 hi] ∧ Below wr.heap.size wr Wb ∧ wr.drew.alloc (.cells #[.int .i64 lo, .int .i64 hi] 44) = Wb := ⟨_, Blk.new _ _ _ rfl, bl_alloc (Below.refl _ _).drew _ (Nat.le_refl _), rfl⟩; rw [hWb]; clear hWb)
        have hOb := hO.below IntR.good hBN
        have hBb : Below (w.heap.size + 1) (w.alloc (.cells #[.slice A n ca, .slice (some ⟨b, off, none⟩) m cb, .slice C q cc] 26)) Wb := bl_call hB hBN (by have := hB.size; omega)
        have hg0 := hgN.c0
        have hg1' := hgN.c1
        have hsz : w.heap.size + 1 ≤ Wb.heap.size := by have := hBb.size; omega
        have hne : some wr.heap.size ≠ (Value.slice A' k cap).ownBlock := hO.ne (Or.inr (Nat.le_refl _))
        have hgl2 := hgN.lt
        clear hg1 hc1 hc2 kk hcl h hXl hO hbl hBN hB
        by_cases hpar : (y : Int) % 2 = 0
        · have hpb : (((y : Int) % 2) == 0) = true := by simpa using hpar
          have Hs : Hid (l ++ [(0 : Int)] = (c.causes.take (k + 1)).mapIdx fun i a => truthAt x i a) := by
            rw [Hid, take_snoc_get Hx.out, List.mapIdx_concat, ← Hf.out, List.length_take, Nat.min_eq_left (by rw [Hm.out]; omega), truthAt, HY.out, if_pos hpar]
          clear hpar
          go_wp2_with (at_builtin; refine wpList_append_n _ rfl _ _ _ rfl IntR.good (w.heap.size + 1) 3 i0 _ 8 Tryd.underlying34 hi0 hz0 hz1 hz2 rfl (by omega) _ l (0 : Int) k Hl.out rfl (hOb.alloc IntR.good _) ⟨_, 0, none⟩ 1 [.int .i64 0] rfl rfl (news_new rfl rfl) (by simp only [maxLen]; omega) (by omega) (by simp; omega) (fun h => h) ?_)
          intro A2 cap2 w2 hO2 hg2 _
          have hB2 := bl_grown (bl_alloc hBb _ (by rw [hs1]; exact Nat.le_refl _)) (hOb.alloc IntR.good _) hg2 (Nat.le_refl _) (by rw [hs1]; exact Nat.le_refl _)
          clear hg2 hOb
          go_wp2
          go_roundw
          case rel => exact ⟨k + 1, cap2, _, _, by omega, by go_num, rfl, by rw [Hid, List.length_append, Hl.out]; rfl, hO2, hB2, Hs⟩
          case measure => simp [intOf]; omega
        · have hpb : (((y : Int) % 2) == 0) = false := by simpa using hpar
          obtain ⟨d, hd⟩ := Int.eq_ofNat_of_zero_le (a := hi - lo + 1) (by omega)
          have hd0 : ((d : Int) == 0) = false := by simp; omega
          have hd1 : ¬ d = 0 := by omega
          have hd2 : 0 < d := by omega
          have Hs : Hid (l ++ [lo + (y : Int) / 2 % d] = (c.causes.take (k + 1)).mapIdx fun i a => truthAt x i a) := by
            rw [Hid, take_snoc_get Hx.out, List.mapIdx_concat, ← Hf.out, List.length_take, Nat.min_eq_left (by rw [Hm.out]; omega), truthAt, HY.out, if_neg hpar, hd]
          clear hpar
          have hbd : 0 ≤ (y : Int) / 2 % d ∧ (y : Int) / 2 % d < 128 := ⟨Int.emod_nonneg _ (by omega), by have := Int.emod_lt_of_pos ((y : Int) / 2) (show (0 : Int) < d by omega); omega⟩
          have hbd1 := hbd.1
          have hbd2 := hbd.2
          clear hbd
          have hw1 : IntKind.i64.wrap ((y : Int) / 2) = (y : Int) / 2 := by rw [IntKind.wrap_i64]; omega
          have hw2 : IntKind.i64.wrap (hi - lo) = hi - lo := by rw [IntKind.wrap_i64]; omega
          have hw3 : IntKind.i64.wrap (hi - lo + 1) = d := by rw [hd]; rw [IntKind.wrap_i64]; omega
          have hw4 : IntKind.i64.wrap ((y : Int) / 2 % d) = (y : Int) / 2 % d := by rw [IntKind.wrap_i64]; omega
          have hw5 : IntKind.i64.wrap (lo + (y : Int) / 2 % d) = lo + (y : Int) / 2 % d := by rw [IntKind.wrap_i64]; omega
          have hw6 : Int.tmod ((y : Int) / 2) d = (y : Int) / 2 % d := Int.tmod_eq_emod_of_nonneg (by omega)
          clear hd
          go_wp2
          go_region_held3 (fun w' => w'.cell? ⟨wr.heap.size, 0, none⟩ = some (.int .i64 lo) ∧ w'.cell? ⟨wr.heap.size, 1, none⟩ = some (.int .i64 hi))
            (first | exact ⟨hg0, hg1'⟩ | exact ⟨oldc hg0, oldc hg1'⟩ | exact ⟨(hg2.cell_far _ (by simp; omega) hne).trans (oldc hg0), (hg2.cell_far _ (by simp; omega) hne).trans (oldc hg1')⟩)
            (first | (refine step_append_n _ rfl _ _ _ rfl IntR.good (w.heap.size + 1) 3 i0 _ 8 Tryd.underlying34 hi0 hz0 hz1 hz2 rfl (by omega) _ l (lo + (y : Int) / 2 % d) k Hl.out rfl (hOb.alloc IntR.good _) ⟨_, 0, none⟩ 1 [.int .i64 (lo + (y : Int) / 2 % d)] rfl rfl (news_new rfl rfl) (by simp only [maxLen]; omega) (by omega) (by simp; omega) (fun h => h) ?_; intro A2 cap2 w2 hO2 hg2 hat2) | (refine step_append_n _ rfl _ _ _ rfl IntR.good (w.heap.size + 1) 3 i0 _ 8 Tryd.underlying34 hi0 hz0 hz1 hz2 rfl (by omega) _ l (lo + (y : Int) / 2 % d) k Hl.out rfl ((hOb.keep IntR.good (Keeps.drew _)).alloc IntR.good _) ⟨_, 0, none⟩ 1 [.int .i64 (lo + (y : Int) / 2 % d)] rfl rfl (news_new rfl rfl) (by simp only [maxLen]; omega) (by omega) (by simp; omega) (fun h => h) ?_; intro A2 cap2 w2 hO2 hg2 hat2))
          all_goals
            rename_i hHeld
            clear hHeld
            have hB2 : Below (w.heap.size + 1) (w.alloc (.cells #[.slice A n ca, .slice (some ⟨b, off, none⟩) m cb, .slice C q cc] 26)) w2 := by first | exact bl_grown (bl_alloc hBb _ (by rw [hs1]; exact Nat.le_refl _)) (hOb.alloc IntR.good _) hg2 (Nat.le_refl _) (by rw [hs1]; exact Nat.le_refl _) | exact bl_grown (bl_alloc hBb.drew _ (by rw [hs1]; exact Nat.le_refl _)) ((hOb.keep IntR.good (Keeps.drew _)).alloc IntR.good _) hg2 (Nat.le_refl _) (by rw [hs1]; exact Nat.le_refl _)
            clear hg2 hOb hat2
            go_wp2
            go_roundw
            case rel => exact ⟨k + 1, cap2, _, _, by omega, by go_num, rfl, by rw [Hid, List.length_append, Hl.out]; rfl, hO2, hB2, Hs⟩
            case measure => simp [intOf]; omega
    · obtain rfl : k = m := by omega
      go_wp2
      go_ret
      refine ⟨A', k, cap, rfl, ?_, bl_call (bl_alloc (Below.refl _ _) _ (Nat.le_refl _)) (hs1.symm ▸ hB) (by omega)⟩
      have hS := hO.slice (T := fun k => w.heap.size ≤ k) IntR.good rfl (by simp only [maxLen]; omega) (fun _ h => h.elim) (fun _ h _ => by omega)
      rw [Hf.out, List.take_of_length_le (by rw [Hm.out]; exact Nat.le_refl _)] at hS
      exact hS

end Go.Proofs.YtkbpmcpmcmnfgaaDoor

namespace Go.Proofs.YtkbpmcpmcmnfgaaDoor
open Go.RowKit

def ascAt (xs : List Int) (m : Int) (k : Nat) : Bool := decide (0 ≤ xs.getD k 0) && decide (xs.getD k 0 < m) && (k == 0 || decide (xs.getD (k - 1) 0 < xs.getD k 0))
def ascL (xs : List Int) (m : Int) : Bool := (List.range xs.length).all (ascAt xs m)

theorem asc_no {xs : List Int} {m : Int} {k : Nat} (hk : k < xs.length) (h : ascAt xs m k = false) : ascL xs m = false := by
  rw [ascL, List.all_eq_false]
  exact ⟨k, List.mem_range.2 hk, by rw [h]; decide⟩
theorem asc_snoc {xs : List Int} {m : Int} {k : Nat} (hn : (List.range k).all (ascAt xs m) = true) (h : ascAt xs m k = true) : (List.range (k + 1)).all (ascAt xs m) = true := by
  rw [List.range_succ, List.all_append, hn]; simp [h]

set_option maxRecDepth 100000 in
set_option maxHeartbeats 1000000 in
theorem ascending_any {S : Foot} {A : Option Addr} {n c : Nat} {xs : List Int} (m : Int) (w : World) (h : Ints S w A n xs) :
    Calls Tryd.prog 45 #[.slice A n c, .int .i64 m] w fun e w' => e = .returned (.bool (ascL xs m)) ∧ ∃ q, w' = w.drewN q := by
  have hle := h.le
  have Hn0 := Lib.hid h.len
  go_enter Tryd.func45, Tryd.ntmps45
  go_wp2
  go_loopw [5] (fun i wr => ∃ k q : Nat, k ≤ n ∧ i = .int .i64 k ∧ wr = w.drewN q ∧ Hid ((List.range k).all (ascAt xs m) = true)) (fun i _ => n - (intOf i).toNat)
  case atStart => exact ⟨0, 0, Nat.zero_le _, rfl, rfl, rfl⟩
  case round =>
    obtain ⟨k, q, hk, rfl, rfl, Hn⟩ := hrel
    by_cases hlt : k < n
    · have hki : (k : Int) < n := by omega
      have hkl : k < xs.length := by rw [Hn0.out]; exact hlt
      obtain ⟨b, off, x, rfl, hcell, Hx⟩ := h.get hlt
      by_cases h1 : x < 0
      · have HR : Hid (ascL xs m = false) := asc_no hkl (by rw [ascAt, getD_of Hx.out, decide_eq_false (by omega)]; simp)
        go_wp2
        go_quiet (fail)
        go_wp2
        go_ret
        exact ⟨ret_bool HR.out.symm, _, World.drewN_drewN _ _ _⟩
      · have h1b : decide (x < 0) = false := decide_eq_false h1
        by_cases h2 : m ≤ x
        · have h2b : decide (m ≤ x) = true := decide_eq_true h2
          have HR : Hid (ascL xs m = false) := asc_no hkl (by rw [ascAt, getD_of Hx.out, decide_eq_false (by omega : ¬ x < m)]; simp)
          go_wp2
          go_quiet (fail)
          go_wp2
          go_ret
          exact ⟨ret_bool HR.out.symm, _, World.drewN_drewN _ _ _⟩
        · have h2b : decide (m ≤ x) = false := decide_eq_false h2
          cases k with
          | zero =>
            have HR : Hid ((List.range (0 + 1)).all (ascAt xs m) = true) := asc_snoc Hn.out (by rw [ascAt, getD_of Hx.out, decide_eq_true (by omega : 0 ≤ x), decide_eq_true (by omega : x < m)]; rfl)
            simp only [Nat.add_zero] at hcell
            go_wp2
            go_quiet (fail)
            go_wp2
            go_roundw
            case rel => exact ⟨1, _, by omega, by go_num, rfl, HR⟩
            case measure => simp [intOf]; omega
          | succ j =>
            obtain ⟨b2, o2, y, hAe, hcell2, Hy⟩ := h.get (show j < n by omega)
            obtain ⟨rfl, rfl⟩ : b = b2 ∧ off = o2 := by injection hAe with hAe; injection hAe with e1 e2; exact ⟨e1, e2⟩
            have hji : (j : Int) < n := by omega
            have hjp : (((j + 1 : Nat) : Int) > 0) := by omega
            by_cases h3 : x ≤ y
            · have h3b : decide (x ≤ y) = true := decide_eq_true h3
              have HR : Hid (ascL xs m = false) := asc_no hkl (by rw [ascAt, getD_of Hx.out, Nat.add_sub_cancel, getD_of Hy.out, decide_eq_false (by omega : ¬ y < x)]; simp)
              go_wp2
              go_quiet (fail)
              go_wp2
              go_ret
              exact ⟨ret_bool HR.out.symm, _, World.drewN_drewN _ _ _⟩
            · have h3b : decide (x ≤ y) = false := decide_eq_false h3
              have HR : Hid ((List.range (j + 1 + 1)).all (ascAt xs m) = true) := asc_snoc Hn.out (by rw [ascAt, getD_of Hx.out, Nat.add_sub_cancel, getD_of Hy.out, decide_eq_true (by omega : 0 ≤ x), decide_eq_true (by omega : x < m), decide_eq_true (by omega : y < x)]; simp)
              go_wp2
              go_quiet (fail)
              go_wp2
              go_roundw
              case rel => exact ⟨j + 2, _, by omega, by go_num, rfl, HR⟩
              case measure => simp [intOf]; omega
    · obtain rfl : k = n := by omega
      have HR : Hid (ascL xs m = true) := by rw [Hid, ascL, Hn0.out]; exact Hn.out
      go_wp2
      go_ret
      exact ⟨ret_bool HR.out.symm, q, rfl⟩

end Go.Proofs.YtkbpmcpmcmnfgaaDoor

namespace Go.Proofs.YtkbpmcpmcmnfgaaDoor
open Go.RowKit

theorem one_any (f z : Int) (w : World) :
    Calls Tryd.prog 35 #[.int .i64 f, .int .i64 z] w fun e w' => ∃ A' c', e = .returned (.slice A' 1 c') ∧ Meass (fun k => w.heap.size ≤ k) w' A' 1 [⟨f, z⟩] ∧ Below w.heap.size w w' := by
  have hr : Blk (w.alloc (.cells #[.int .i64 f, .int .i64 z] 62)) w.heap.size 62 #[.int .i64 f, .int .i64 z] := Blk.new _ _ _ rfl
  go_enter Tryd.func35, Tryd.ntmps35
  go_wp2
  go_ret
  refine ⟨_, _, rfl, ?_, bl_alloc (Below.refl _ _) _ (Nat.le_refl _)⟩
  refine ⟨rfl, by decide, ?_⟩
  intro k y hy
  have hk : k = 0 := by have := of_getq' hy; simp at this; omega
  subst hk
  simp at hy; subst hy
  exact ⟨_, _, [.int .i64 f, .int .i64 z], rfl, Nat.le_refl _, hr.lt, rfl, fun j u hu => by
    have hj : j = 0 ∨ j = 1 := by have := of_getq' hu; simp at this; omega
    rcases hj with rfl | rfl
    · simp at hu; subst hu; simpa using hr.c0
    · simp at hu; subst hu; simpa using hr.c1⟩

end Go.Proofs.YtkbpmcpmcmnfgaaDoor
