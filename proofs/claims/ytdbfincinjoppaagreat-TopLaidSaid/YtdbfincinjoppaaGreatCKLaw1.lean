/- A part of the proof that TopLaid always answers true. -/
import Derived.Test.YtdbfincinjoppaaGreatCKPlan2
set_option linter.all false
namespace Go.Proofs.YtdbfincinjoppaaGreat
open Go.RowKit
theorem wp_frameT {c : Code} {P : Program} {Q : Exit → Act → World → Prop} {a : Act} {w : World} (h : ∀ a0 : Act, a0 = a → c.wp P Q a0 w) : c.wp P Q a w := h a rfl
def exShop : Shop := ⟨10, 12, [⟨[104, 105, 108, 108], 1000, 1002, 2, 3, 4⟩, ⟨[118, 97, 108, 101], 1010, 1010, 0, 0, 2⟩]⟩
def exSeen7 : List SeenC := [⟨1, 0, 998, 998⟩]
theorem ex7_sizes : sizesR exShop [] 0 3 = ((994, 1001), 0) := by decide +kernel
theorem ex7_sizes2 : sizesR exShop exSeen7 0 3 = ((994, 999), 0) := by decide +kernel
theorem ex7_shrinks : shrinksR exShop exSeen7 = ([12], 0) := by decide +kernel
theorem ex7_fits : fitsR exShop [] 990 1000 = ([(0, 1), (0, 2), (1, 0), (1, 1)], 0) := by decide +kernel
theorem ex7_plan : planR exShop [] [(990, 1000), (990, 998), (998, 1000)] = ([(0, 1), (0, 2), (1, 0)], [0, 1], 0) := by decide +kernel
theorem ex7_lacks : lacksR exShop [] [(990, 998), (992, 998), (990, 998)] = ([0, 1, 2], 0) := by decide +kernel
theorem ex7_some : someR exShop [] [(990, 998), (992, 998), (990, 998)] = ([0, 1], 0) := by decide +kernel
theorem ex7_none : planR exShop [] [(990, 1000), (999, 1000)] = ([], [], 8) := by decide +kernel
theorem slice_blk7 {α : Type} {R : Rd α} {m : Nat} {S : Foot} {w : World} {g : Nat} {t : TypeId} {cs : Array Value} (hB : Blk w g t cs) (hS : S g) {xs : List α} {n : Nat} (hl : xs.length = n) (hn : n ≤ maxLen)
  (h : ∀ (k : Nat) (x : α), xs[k]? = some x → ∃ vs, R S w x vs ∧ ∀ (j : Nat) (u : Value), vs[j]? = some u → cs[k * m + j]? = some u) : SliceOf R m S w (some ⟨g, 0, none⟩) n xs := by
 refine ⟨hl, hn, fun k x hk => ?_⟩
 obtain ⟨vs, h1, h2⟩ := h k x hk
 exact ⟨g, 0, vs, rfl, hS, hB.lt, h1, fun j u hu => by rw [Nat.zero_add, hB.cell]; exact h2 j u hu⟩
theorem ret_two7 {fn : Func} {p : Tmp} {t : TypeId} (h : fn.results = #[.cell p t]) (ht : t = 23 ∨ t = 49) {tmps : Array Value} {g : Nat} {lo hi : Int} {w : World} (hp : tmps.getD p undef = .pointer (some ⟨g, 0, none⟩))
  (h0 : w.cell? ⟨g, 0, none⟩ = some (.int .i64 lo)) (h1 : w.cell? ⟨g, 1, none⟩ = some (.int .i64 hi)) : (results fn tmps).run Tryz.prog w = .ok (.agg #[.int .i64 lo, .int .i64 hi]) w := by
 have hp' : tmps[p]?.getD undef = .pointer (some ⟨g, 0, none⟩) := by simpa using hp
 rcases ht with rfl | rfl
 all_goals simp [results, h, hp', asAddr, go_sem, h0, h1]
theorem ret_shop7 {fn : Func} {p : Tmp} (h : fn.results = #[.cell p 26]) {tmps : Array Value} {g : Nat} {v0 v1 v2 : Value} {w : World} (hp : tmps.getD p undef = .pointer (some ⟨g, 0, none⟩))
  (hB : Blk w g 26 #[v0, v1, v2]) : (results fn tmps).run Tryz.prog w = .ok (.agg #[v0, v1, v2]) w := by
 have hp' : tmps[p]?.getD undef = .pointer (some ⟨g, 0, none⟩) := by simpa using hp
 have h0 : w.cell? ⟨g, 0, none⟩ = some v0 := hB.cell 0
 have h1 : w.cell? ⟨g, 1, none⟩ = some v1 := hB.cell 1
 have h2 : w.cell? ⟨g, 2, none⟩ = some v2 := hB.cell 2
 simp [results, h, hp', asAddr, go_sem, h0, h1, h2]
theorem span7_any (a z : Int) (w : World) :
  Calls Tryz.prog 26 #[.int .i64 a, .int .i64 z] w fun e w' => e = .returned (.agg #[.int .i64 a, .int .i64 z]) ∧ Below w.heap.size w w' := by
 obtain ⟨W, hW⟩ : ∃ W, w.alloc (.cells #[.int .i64 0, .int .i64 0] 23) = W := ⟨_, rfl⟩
 have X : Blk W w.heap.size 23 #[.int .i64 0, .int .i64 0] := by rw [← hW]; exact Blk.new _ _ _ rfl
 have hBW : Below w.heap.size w W := by rw [← hW]; exact bl_alloc (Below.refl _ _) _ (Nat.le_refl _)
 have z0 := X.cell 0
 have z1 := X.cell 1
 have fz0 := X.frozen 0
 have fz1 := X.frozen 1
 have hl := X.lt
 go_enter Tryz.func26, Tryz.ntmps26
 go_wp2_with fail
 exact bodyPost_ret (ret_two7 rfl (.inl rfl) rfl (X.set2 _ _).c0 (X.set2 _ _).c1) rfl ⟨rfl, bl_set (bl_set hBW (Nat.le_refl _) _) (Nat.le_refl _) _⟩
theorem at7_any (a z : Int) (w : World) :
  Calls Tryz.prog 22 #[.int .i64 a, .int .i64 z] w fun e w' => e = .returned (.agg #[.int .i64 a, .int .i64 z]) ∧ Below w.heap.size w w' := by
 obtain ⟨W, hW⟩ : ∃ W, w.alloc (.cells #[.int .i64 0, .int .i64 0] 49) = W := ⟨_, rfl⟩
 have X : Blk W w.heap.size 49 #[.int .i64 0, .int .i64 0] := by rw [← hW]; exact Blk.new _ _ _ rfl
 have hBW : Below w.heap.size w W := by rw [← hW]; exact bl_alloc (Below.refl _ _) _ (Nat.le_refl _)
 have z0 := X.cell 0
 have z1 := X.cell 1
 have fz0 := X.frozen 0
 have fz1 := X.frozen 1
 have hl := X.lt
 go_enter Tryz.func22, Tryz.ntmps22
 go_wp2_with fail
 exact bodyPost_ret (ret_two7 rfl (.inr rfl) rfl (X.set2 _ _).c0 (X.set2 _ _).c1) rfl ⟨rfl, bl_set (bl_set hBW (Nat.le_refl _) _) (Nat.le_refl _) _⟩
theorem exSeen7_at {w : World} {g w0 : Nat} {t : TypeId} (hB : Blk w g t #[.int .i64 1, .int .i64 0, .int .i64 998, .int .i64 998]) (h0 : w0 ≤ g) : SeenCs (fun k => w0 ≤ k) w (some ⟨g, 0, none⟩) 1 exSeen7 := by
 refine slice_blk7 hB h0 rfl (by decide) ?_
 intro k x hk
 have hk2 : k < 1 := of_getq hk
 have hc : k = 0 := by omega
 subst hc
 have hx := (Option.some.inj hk).symm
 subst hx
 refine ⟨_, rfl, ?_⟩
 intro j u hu
 have hj : j < 4 := of_getq hu
 have hc : j = 0 ∨ j = 1 ∨ j = 2 ∨ j = 3 := by omega
 rcases hc with rfl | rfl | rfl | rfl <;> exact hu
theorem exMoulds_at {w : World} {g w0 : Nat} {t : TypeId} (hB : Blk w g t #[.string ⟨#[104, 105, 108, 108]⟩, .int .i64 1000, .int .i64 1002, .int .i64 2, .int .i64 3, .int .i64 4, .string ⟨#[118, 97, 108, 101]⟩, .int .i64 1010, .int .i64 1010, .int .i64 0, .int .i64 0, .int .i64 2]) (h0 : w0 ≤ g) : Moulds (fun k => w0 ≤ k) w (some ⟨g, 0, none⟩) 2 exShop.moulds := by
 refine slice_blk7 hB h0 rfl (by decide) ?_
 intro k x hk
 have hk2 : k < 2 := of_getq hk
 have hc : k = 0 ∨ k = 1 := by omega
 rcases hc with rfl | rfl
 all_goals
  have hx := (Option.some.inj hk).symm
  subst hx
 ·refine ⟨[.string ⟨#[104, 105, 108, 108]⟩, .int .i64 1000, .int .i64 1002, .int .i64 2, .int .i64 3, .int .i64 4], ⟨_, rfl, rfl, by decide⟩, ?_⟩
  intro j u hu
  have hj : j < 6 := of_getq hu
  have hc : j = 0 ∨ j = 1 ∨ j = 2 ∨ j = 3 ∨ j = 4 ∨ j = 5 := by omega
  rcases hc with rfl | rfl | rfl | rfl | rfl | rfl <;> exact hu
 refine ⟨[.string ⟨#[118, 97, 108, 101]⟩, .int .i64 1010, .int .i64 1010, .int .i64 0, .int .i64 0, .int .i64 2], ⟨_, rfl, rfl, by decide⟩, ?_⟩
 intro j u hu
 have hj : j < 6 := of_getq hu
 have hc : j = 0 ∨ j = 1 ∨ j = 2 ∨ j = 3 ∨ j = 4 ∨ j = 5 := by omega
 rcases hc with rfl | rfl | rfl | rfl | rfl | rfl <;> exact hu
def IsShop (w0 : Nat) (v : Value) (w' : World) : Prop := ∃ (A ca : Nat), v = .agg #[.int .i64 10, .int .i64 12, .slice (some ⟨A, 0, none⟩) 2 ca] ∧ Moulds (fun k => w0 ≤ k) w' (some ⟨A, 0, none⟩) 2 exShop.moulds ∧ 2 ≤ ca
def IsSeen7 (w0 : Nat) (v : Value) (w' : World) : Prop := ∃ (A c : Nat), v = .slice (some ⟨A, 0, none⟩) 1 c ∧ SeenCs (fun k => w0 ≤ k) w' (some ⟨A, 0, none⟩) 1 exSeen7
set_option maxHeartbeats 1000000 in
theorem seen32_any (w : World) :
  Calls Tryz.prog 23 #[] w fun e w' => (∃ v, e = .returned v ∧ IsSeen7 w.heap.size v w') ∧ Below w.heap.size w w' := by
 go_enter Tryz.func23, Tryz.ntmps23
 go_wp2_with fail
 refine (span7_any 998 998 w).mono ?_
 rintro e W1 ⟨rfl, b1⟩
 go_wp2
 go_ret
 exact ⟨⟨_, by rfl, _, _, rfl, exSeen7_at (Blk.new _ _ _ rfl) b1.size⟩, bl_alloc b1 _ (Nat.le_refl _)⟩
open Go.RowKit
set_option maxHeartbeats 1000000 in
theorem shop30_any (w : World) :
  Calls Tryz.prog 21 #[] w fun e w' => (∃ v, e = .returned v ∧ IsShop w.heap.size v w') ∧ Below w.heap.size w w' := by
 obtain ⟨W, hW⟩ : ∃ W, w.alloc (.cells #[.int .i64 0, .int .i64 0, .slice none 0 0] 26) = W := ⟨_, rfl⟩
 have X : Blk W w.heap.size 26 #[.int .i64 0, .int .i64 0, .slice none 0 0] := by rw [← hW]; exact Blk.new _ _ _ rfl
 have hBW : Below w.heap.size w W := by rw [← hW]; exact bl_alloc (Below.refl _ _) _ (Nat.le_refl _)
 go_enter Tryz.func21, Tryz.ntmps21
 go_wp2_with fail
 refine (span7_any 10 12 W).mono ?_
 rintro e W1 ⟨rfl, b1⟩
 have B1 := bl_call hBW b1 (Nat.le_refl _)
 have X1 := X.bl b1
 clear hW X
 go_wp2_with fail
 refine (span7_any 1000 1002 W1).mono ?_
 rintro e W2 ⟨rfl, b2⟩
 have B2 := bl_call B1 b2 (Nat.le_refl _)
 have X2 := X1.bl b2
 go_wp2_with fail
 refine (span7_any 2 3 W2).mono ?_
 rintro e W3 ⟨rfl, b3⟩
 have B3 := bl_call B2 b3 (Nat.le_refl _)
 have X3 := X2.bl b3
 go_wp2_with fail
 refine (span7_any 1010 1010 W3).mono ?_
 rintro e W5 ⟨rfl, b5⟩
 have B5 := bl_call B3 b5 (Nat.le_refl _)
 have X5 := X3.bl b5
 have z0 := X5.cell 0
 have z1 := X5.cell 1
 have z2 := X5.cell 2
 have fz0 := X5.frozen 0
 have fz1 := X5.frozen 1
 have fz2 := X5.frozen 2
 have hl := X5.lt
 clear X1 X2 X3 b1 b2 b3 b5 B1 B2 B3
 go_wp2_with fail
 obtain ⟨V, hV⟩ : ∃ V, (((W5.setCell ⟨w.heap.size, 0, none⟩ (.int .i64 10)).setCell ⟨w.heap.size, 1, none⟩ (.int .i64 12)).setCell ⟨w.heap.size, 2, none⟩ (.slice (some ⟨W5.heap.size, 0, none⟩) 2 2)) = V := ⟨_, rfl⟩
 have hsz : V.heap.size = W5.heap.size := by rw [← hV]; simp
 have XF : Blk V w.heap.size 26 #[.int .i64 10, .int .i64 12, .slice (some ⟨W5.heap.size, 0, none⟩) 2 2] := by rw [← hV]; exact (((X5.set_ 0 (.int .i64 10)).set_ 1 (.int .i64 12)).set_ 2 (.slice (some ⟨W5.heap.size, 0, none⟩) 2 2))
 have BV : Below w.heap.size w V := by rw [← hV]; exact (bl_set (bl_set (bl_set B5 (Nat.le_refl _) _) (Nat.le_refl _) _) (Nat.le_refl _) _)
 have hwl : w.heap.size ≤ W5.heap.size := by omega
 rw [hV]
 exact bodyPost_ret (ret_shop7 rfl rfl (XF.alloc _)) rfl ⟨⟨_, rfl, _, _, rfl, exMoulds_at (Blk.new _ _ _ hsz.symm) hwl, Nat.le_refl _⟩, bl_alloc BV _ (Nat.le_refl _)⟩
open Go.RowKit Go.Shelf
set_option maxHeartbeats 400000 in
theorem same7_any {S T : Foot} {A B : Option Addr} {n c m d : Nat} {xs ys : List (Nat × Nat)} (w : World) (h : Pls S w A n xs) (g : Pls T w B m ys) :
  Calls Tryz.prog 31 #[.slice A n c, .slice B m d] w fun e w' => e = .returned (.bool (decide (xs = ys))) ∧ ∃ q, w' = w.drewN q := by
 have hle := h.le
 have gle := g.le
 by_cases hnm : n = m
 ·obtain rfl : n = m := hnm
  have hb : ((n : Int) != (n : Int)) = false := by simp
  go_enter Tryz.func31, Tryz.ntmps31
  go_wp2
  go_loopw [5] (fun i wr => ∃ k : Nat, k ≤ n ∧ i = .int .i64 k ∧ Hid (xs.take k = ys.take k) ∧ ∃ q, wr = w.drewN q) (fun i _ => n - (intOf i).toNat)
  case atStart => exact ⟨0, Nat.zero_le _, rfl, by simp [Hid], 0, rfl⟩
  case round =>
   obtain ⟨k, hk, rfl, Hn, q, rfl⟩ := hrel
   by_cases hlt : k < n
   ·obtain ⟨b, off, x1, x2, rfl, _, hc0, hc1, Hx⟩ := h.get hlt
    obtain ⟨b', off', y1, y2, rfl, _, hd0, hd1, Hy⟩ := g.get hlt
    by_cases hm : x1 = y1
    ·subst hm
     by_cases hm2 : x2 = y2
     ·subst hm2
      go_wp2
      go_quiet (fail)
      go_wp2
      go_roundw
      case rel => exact ⟨k + 1, by omega, by go_num, by rw [Hid, take_snoc_get Hx.out, take_snoc_get Hy.out, Hn.out], _, rfl⟩
      case measure => simp [intOf]; omega
     have hmb : ¬ (x2 : Int) = (y2 : Int) := by omega
     have HM := Lib.hid hm2
     clear hm2
     go_wp2
     go_quiet (fail)
     go_wp2
     go_ret
     refine ⟨ret_bool ?_, q + nq, by rw [World.drewN_drewN]⟩
     symm; rw [decide_eq_false_iff_not]; rintro rfl
     have h1 := Hx.out; rw [Hy.out] at h1
     exact HM.out (congrArg Prod.snd (Option.some.inj h1)).symm
    have hmb : ¬ (x1 : Int) = (y1 : Int) := by omega
    have HM := Lib.hid hm
    clear hm
    go_wp2
    go_quiet (fail)
    go_wp2
    go_ret
    refine ⟨ret_bool ?_, q + nq, by rw [World.drewN_drewN]⟩
    symm; rw [decide_eq_false_iff_not]; rintro rfl
    have h1 := Hx.out; rw [Hy.out] at h1
    exact HM.out (congrArg Prod.fst (Option.some.inj h1)).symm
   go_wp2
   go_ret
   refine ⟨ret_bool ?_, _, rfl⟩
   symm; rw [decide_eq_true_iff]
   have := Hn.out
   rwa [List.take_of_length_le (by rw [h.len]; omega), List.take_of_length_le (by rw [g.len]; omega)] at this
 have hb : ((n : Int) != (m : Int)) = true := by simp; omega
 have HM := Lib.hid hnm
 clear hnm
 go_enter Tryz.func31, Tryz.ntmps31
 go_wp2
 go_ret
 exact ⟨ret_bool (by symm; rw [decide_eq_false_iff_not]; rintro rfl; exact HM.out (h.len.symm.trans g.len)), 0, rfl⟩
open Go.RowKit Go.Shelf
theorem in7_any (n lo hi : Int) (w : World) :
  Calls Tryz.prog 16 #[.int .i64 n, .int .i64 lo, .int .i64 hi] w fun e w' => e = .returned (.bool (inB n lo hi)) ∧ w = w' := by
 go_enter Tryz.func16, Tryz.ntmps16
 go_wp2
 all_goals
  go_ret
  exact ⟨ret_bool (by simp [inB, *]; try omega), rfl⟩
def narrowE (a z lo hi wide : Int) : Int := if rangeE ⟨a, z⟩ lo hi = 0 ∧ a + wide < z then 2 else rangeE ⟨a, z⟩ lo hi
theorem range_bd {a z lo hi : Int} (h : rangeE ⟨a, z⟩ lo hi = 0) : lo ≤ a ∧ a ≤ z ∧ z ≤ hi := by
 simp [rangeE, inB] at h; omega
set_option maxHeartbeats 1000000 in
theorem narrow7_any (a z lo hi wide : Int) (hl : 0 ≤ lo) (hh : hi ≤ 100000) (hw : 0 ≤ wide ∧ wide ≤ 100000) (w : World) :
  Calls Tryz.prog 15 #[.agg #[.int .i64 a, .int .i64 z], .int .i64 lo, .int .i64 hi, .int .i64 wide] w fun e w' => e = .returned (.int .i64 (narrowE a z lo hi wide)) ∧ Below w.heap.size w w' := by
 obtain ⟨W, hW⟩ : ∃ W, w.alloc (.cells #[.int .i64 a, .int .i64 z] 23) = W := ⟨_, rfl⟩
 have X : Blk W w.heap.size 23 #[.int .i64 a, .int .i64 z] := by rw [← hW]; exact Blk.new _ _ _ rfl
 have hBW : Below w.heap.size w W := by rw [← hW]; exact bl_alloc (Below.refl _ _) _ (Nat.le_refl _)
 have x0 := X.cell 0
 have x1 := X.cell 1
 have xl := X.lt
 go_enter Tryz.func15, Tryz.ntmps15
 go_wp2_with fail
 refine (range_any a z lo hi W).mono ?_
 rintro e W1 ⟨rfl, b1⟩
 have B1 := bl_call hBW b1 (Nat.le_refl _)
 have X1 := X.bl b1
 have y0 := X1.cell 0
 have y1 := X1.cell 1
 have yl := X1.lt
 obtain ⟨e0, he0⟩ : ∃ e0, rangeE ⟨a, z⟩ lo hi = e0 := ⟨_, rfl⟩
 rw [he0]
 have HE := Lib.hid he0
 clear x0 x1 xl X X1 hW
 by_cases hz : e0 = 0
 ·have hb := range_bd (he0.trans hz)
  have hwr : IntKind.i64.wrap (a + wide) = a + wide := by rw [IntKind.wrap_i64]; omega
  subst hz
  clear he0
  by_cases hg : a + wide < z
  ·have HR : Hid (narrowE a z lo hi wide = 2) := by rw [Hid, narrowE, HE.out, if_pos ⟨rfl, hg⟩]
   go_wp2_with fail
   go_ret
   exact ⟨by rw [HR.out]; rfl, B1⟩
  have HR : Hid (narrowE a z lo hi wide = 0) := by rw [Hid, narrowE, HE.out, if_neg (fun h => hg h.2)]
  go_wp2_with fail
  go_ret
  exact ⟨by rw [HR.out]; rfl, B1⟩
 have hzb : (e0 == 0) = false := by simpa using hz
 have HR : Hid (narrowE a z lo hi wide = e0) := by rw [Hid, narrowE, HE.out, if_neg (fun h => hz h.1)]
 clear he0
 go_wp2_with fail
 go_ret
 exact ⟨by rw [HR.out]; rfl, B1⟩
open Go.RowKit Go.Shelf
theorem narrow_form (a z lo hi wide : Int) : narrowE a z lo hi wide = if !inB a lo hi || !inB z lo hi then 7 else if !inB z a (a + wide) then 2 else 0 := by
 unfold narrowE rangeE
 dsimp only
 by_cases h1 : (!inB a lo hi || !inB z lo hi) = true
 ·rw [if_pos h1, if_pos h1, if_neg (fun h => by cases h.1)]
 rw [if_neg h1, if_neg h1]
 by_cases h2 : a > z
 ·rw [if_pos h2, if_neg (fun h => by cases h.1), if_pos (by simp [inB]; omega)]
 rw [if_neg h2]
 by_cases h3 : a + wide < z
 ·rw [if_pos ⟨rfl, h3⟩, if_pos (by simp [inB]; omega)]
 rw [if_neg (fun h => h3 h.2), if_neg (by simp [inB]; omega)]
def mouldS (x : Mould) (names : List (List UInt8)) : Int := if fresh x.name names ≠ 0 then fresh x.name names else mouldN x
theorem mouldN_form (x : Mould) : mouldN x = if narrowE x.slo x.shi 1 20000 12 = 7 ∨ narrowE x.wlo x.whi 0 20 3 = 7 ∨ inB x.casts 1 8 = false then 7 else if narrowE x.slo x.shi 1 20000 12 ≠ 0 then narrowE x.slo x.shi 1 20000 12 else narrowE x.wlo x.whi 0 20 3 := by
 rw [narrow_form, narrow_form, mouldN]
 cases inB x.slo 1 20000 <;> cases inB x.shi 1 20000 <;> cases inB x.wlo 0 20 <;> cases inB x.whi 0 20 <;> cases inB x.casts 1 8 <;> cases inB x.shi x.slo (x.slo + 12) <;> cases inB x.whi x.wlo (x.wlo + 3) <;> simp
set_option maxHeartbeats 1000000 in
theorem rmould_any {S : Foot} {A : Option Addr} {n c : Nat} {xs : List (List UInt8)} (s : ByteArray) (a z y u q : Int) (w : World) (h : Strs S w A n xs) (hs : s.size ≤ 9223372036854775807) :
  Calls Tryz.prog 17 #[.agg #[.string s, .int .i64 a, .int .i64 z, .int .i64 y, .int .i64 u, .int .i64 q], .slice A n c] w fun e w' => e = .returned (.int .i64 (mouldS ⟨s.data.toList, a, z, y, u, q⟩ xs)) ∧ Below w.heap.size w w' := by
 obtain ⟨W, hW⟩ : ∃ W, w.alloc (.cells #[.string s, .int .i64 a, .int .i64 z, .int .i64 y, .int .i64 u, .int .i64 q] 51) = W := ⟨_, rfl⟩
 have X : Blk W w.heap.size 51 #[.string s, .int .i64 a, .int .i64 z, .int .i64 y, .int .i64 u, .int .i64 q] := by rw [← hW]; exact Blk.new _ _ _ rfl
 have hr : Strs S W A n xs := by rw [← hW]; exact h.keep StrR.good (Keeps.alloc _ _)
 have hBW : Below w.heap.size w W := by rw [← hW]; exact bl_alloc (Below.refl _ _) _ (Nat.le_refl _)
 have HW := Lib.hid hW
 have x0 := X.cell 0
 have x1 := X.cell 1
 have x2 := X.cell 2
 have x3 := X.cell 3
 have x4 := X.cell 4
 have x5 := X.cell 5
 have xl := X.lt
 clear hW h
 go_enter Tryz.func17, Tryz.ntmps17
 go_wp2_with fail
 rw [HW.out]
 refine (fresh_any s _ hr hs).mono ?_
 rintro e w' ⟨rfl, rfl⟩
 obtain ⟨f0, hf0⟩ : ∃ f0, fresh s.data.toList xs = f0 := ⟨_, rfl⟩
 rw [hf0]
 by_cases hf : f0 = 0
 ·have hfb : (f0 != 0) = false := by rw [hf]; rfl
  have HE : Hid (mouldS ⟨s.data.toList, a, z, y, u, q⟩ xs = mouldN ⟨s.data.toList, a, z, y, u, q⟩) := by rw [Hid, mouldS]; dsimp only; rw [hf0, if_neg (by simp [hf])]
  clear hf0
  go_wp2_with fail
  refine (narrow7_any a z 1 20000 12 (by omega) (by omega) (by omega) W).mono ?_
  rintro e W1 ⟨rfl, b1⟩
  have B1 := bl_call hBW b1 (Nat.le_refl _)
  have X1 := X.bl b1
  have y3 := X1.cell 3
  have y4 := X1.cell 4
  have yl := X1.lt
  obtain ⟨s1, hs1⟩ : ∃ s1, narrowE a z 1 20000 12 = s1 := ⟨_, rfl⟩
  rw [hs1]
  have HS1 := Lib.hid hs1
  clear x0 x1 x2 x3 x4 x5 xl hs1
  go_wp2_with fail
  refine (narrow7_any y u 0 20 3 (by omega) (by omega) (by omega) W1).mono ?_
  rintro e W2 ⟨rfl, b2⟩
  have B2 := bl_call B1 b2 (Nat.le_refl _)
  have X2 := X1.bl b2
  have z5 := X2.cell 5
  have zl := X2.lt
  obtain ⟨s2, hs2⟩ : ∃ s2, narrowE y u 0 20 3 = s2 := ⟨_, rfl⟩
  rw [hs2]
  have HM : Hid (mouldS ⟨s.data.toList, a, z, y, u, q⟩ xs = if s1 = 7 ∨ s2 = 7 ∨ inB q 1 8 = false then 7 else if s1 ≠ 0 then s1 else s2) := by rw [Hid, HE.out, mouldN_form]; dsimp only; rw [HS1.out, hs2]
  clear hs2 y3 y4 yl X1 X2 HE
  by_cases h1 : s1 = 7
  ·have hb : (s1 == 7) = true := by rw [h1]; rfl
   have HR : Hid (mouldS ⟨s.data.toList, a, z, y, u, q⟩ xs = 7) := by rw [Hid, HM.out, if_pos (.inl h1)]
   go_wp2_with fail
   go_ret
   exact ⟨by rw [HR.out]; rfl, B2⟩
  have hb : (s1 == 7) = false := by simpa using h1
  by_cases h2 : s2 = 7
  ·have hb2 : (s2 == 7) = true := by rw [h2]; rfl
   have HR : Hid (mouldS ⟨s.data.toList, a, z, y, u, q⟩ xs = 7) := by rw [Hid, HM.out, if_pos (.inr (.inl h2))]
   go_wp2_with fail
   go_ret
   exact ⟨by rw [HR.out]; rfl, B2⟩
  have hb2 : (s2 == 7) = false := by simpa using h2
  have H1 := Lib.hid h1
  have H2 := Lib.hid h2
  clear h1 h2
  go_wp2_with fail
  refine (in7_any q 1 8 W2).mono ?_
  rintro e w' ⟨rfl, rfl⟩
  cases hq : inB q 1 8 with
  | false =>
   have HR : Hid (mouldS ⟨s.data.toList, a, z, y, u, q⟩ xs = 7) := by rw [Hid, HM.out, if_pos (.inr (.inr hq))]
   clear hq
   go_wp2_with fail
   go_ret
   exact ⟨by rw [HR.out]; rfl, B2⟩
  | true =>
   have HR : Hid (mouldS ⟨s.data.toList, a, z, y, u, q⟩ xs = if s1 ≠ 0 then s1 else s2) := by rw [Hid, HM.out, if_neg (by rw [hq]; simp; exact ⟨H1.out, H2.out⟩)]
   clear hq
   by_cases h3 : s1 = 0
   ·have hb3 : (s1 != 0) = false := by rw [h3]; rfl
    have HR2 : Hid (mouldS ⟨s.data.toList, a, z, y, u, q⟩ xs = s2) := by rw [Hid, HR.out, if_neg (by simp [h3])]
    go_wp2_with fail
    go_ret
    exact ⟨by rw [HR2.out]; rfl, B2⟩
   have hb3 : (s1 != 0) = true := by simpa using h3
   have HR2 : Hid (mouldS ⟨s.data.toList, a, z, y, u, q⟩ xs = s1) := by rw [Hid, HR.out, if_pos h3]
   go_wp2_with fail
   go_ret
   exact ⟨by rw [HR2.out]; rfl, B2⟩
 have hfb : (f0 != 0) = true := by simpa using hf
 have HR : Hid (mouldS ⟨s.data.toList, a, z, y, u, q⟩ xs = f0) := by rw [Hid, mouldS]; dsimp only; rw [hf0, if_pos hf]
 clear hf0
 go_wp2_with fail
 go_ret
 exact ⟨by rw [HR.out]; rfl, hBW⟩
open Go.RowKit Go.Shelf
theorem infoStr7 : (Tryz.prog.info? 9).map (fun i => (i.zero, i.size, i.bytes)) = some (some (.string ByteArray.empty), 1, 16) := by kernel_rfl
section
variable {s : Shop}
theorem c7_bad (h : narrowE s.klo s.khi 0 100 6 ≠ 0) : check7 s = (1, 0, narrowE s.klo s.khi 0 100 6) := by
 rw [narrow_form] at h ⊢
 unfold check7
 split
 ·rfl
 split
 ·rfl
 rename_i h1 h2
 rw [if_neg h1, if_neg h2] at h
 exact absurd rfl h
theorem c7_ok (h : narrowE s.klo s.khi 0 100 6 = 0) : check7 s = if ¬ (1 ≤ s.moulds.length ∧ s.moulds.length ≤ 4) then ((1, 0, 3) : Int × Int × Int) else match firstErr (mouldE s.moulds) s.moulds.length with
  | some (k, e) => (2, (k : Int), e)
  | none => (0, 0, 0) := by
 rw [narrow_form] at h
 unfold check7
 split
 ·rename_i h1; rw [if_pos h1] at h; cases h
 split
 ·rename_i h1 h2; rw [if_neg h1, if_pos h2] at h; cases h
 rfl
theorem mouldE_ref {l : List Mould} {k : Nat} {x : Mould} (h : l[k]? = some x) : mouldE l k = mouldS x ((l.take k).map (·.name)) := by
 unfold mouldE mouldS
 rw [getD_of h]
end
theorem upto7 {f : Nat → Int} {k : Nat} (h : ∀ j, j < k → f j = 0) (he : f k = 0) : ∀ j, j < k + 1 → f j = 0 := fun j hj => by
 by_cases e : j = k
 ·rw [e]; exact he
 exact h j (by omega)
set_option maxHeartbeats 4000000 in
set_option maxRecDepth 100000 in
theorem rcheck7_any {A : Option Addr} {n ca : Nat} {s : Shop} {klo khi : Int} (w : World) (g : Moulds (fun _ => True) w A n s.moulds) (h1 : s.klo = klo) (h2 : s.khi = khi) :
  Calls Tryz.prog 4 #[.agg #[.int .i64 klo, .int .i64 khi, .slice A n ca]] w fun e w' => e = .returned (.tuple #[.int .i64 (check7 s).1, .int .i64 (check7 s).2.1, .int .i64 (check7 s).2.2]) ∧ Below w.heap.size w w' := by
 have hle := g.le
 have Hn := Lib.hid g.len
 obtain ⟨i0, hi0, hz0, hz1, hz2⟩ := info_parts infoStr7
 obtain ⟨W, hW⟩ : ∃ W, w.alloc (.cells #[.int .i64 klo, .int .i64 khi, .slice A n ca] 26) = W := ⟨_, rfl⟩
 have X : Blk W w.heap.size 26 #[.int .i64 klo, .int .i64 khi, .slice A n ca] := by rw [← hW]; exact Blk.new _ _ _ rfl
 have hc : Moulds (fun _ => True) W A n s.moulds := by rw [← hW]; exact g.keep MouldR.good (Keeps.alloc _ _)
 have hBW : Below w.heap.size w W := by rw [← hW]; exact bl_alloc (Below.refl _ _) _ (Nat.le_refl _)
 have hWs : w.heap.size ≤ W.heap.size := hBW.size
 have HW := Lib.hid hW
 have HX := Lib.hid X
 clear hW g X
 subst h1 h2
 go_enter Tryz.func4, Tryz.ntmps4
 go_wp2_with fail
 rw [HW.out]
 refine (narrow7_any _ _ 0 100 6 (by omega) (by omega) (by omega) W).mono ?_
 rintro e W1 ⟨rfl, b1⟩
 obtain ⟨e0, he0⟩ : ∃ e0, narrowE s.klo s.khi 0 100 6 = e0 := ⟨_, rfl⟩
 rw [he0]
 have HE0 := Lib.hid he0
 have X1 := HX.out.bl b1
 have y2 := X1.cell 2
 have yl := X1.lt
 clear X1 he0
 by_cases hz : e0 = 0
 ·have C := Lib.hid (c7_ok (HE0.out.trans hz))
  subst hz
  go_wp2_with fail
  refine (in7_any (n : Int) 1 4 W1).mono ?_
  rintro e w' ⟨rfl, rfl⟩
  cases hin : inB (n : Int) 1 4 with
  | false =>
   have HC : Hid (check7 s = (1, 0, 3)) := by rw [Hid, C.out, if_pos (by rw [Hn.out]; simp [inB] at hin; omega)]
   clear hin
   go_wp2_with fail
   go_ret3
   exact ⟨by rw [HC.out]; rfl, hBW.trans (b1.mono hWs)⟩
  | true =>
   have hn4 : 1 ≤ n ∧ n ≤ 4 := by simp [inB] at hin; omega
   have D : Hid (check7 s = match firstErr (mouldE s.moulds) s.moulds.length with
    | some (k, e) => (2, (k : Int), e)
    | none => (0, 0, 0)) := by rw [Hid, C.out, if_neg (by rw [Hn.out]; omega)]
   clear hin C
   go_wp2_with fail
   clear y2 yl
   go_loopw [5, 6, 7] (fun _ nm i wr => ∃ (k cap : Nat) (An : Option Addr), k ≤ n ∧ i = .int .i64 k ∧ nm = .slice An k cap ∧ Below W.heap.size W wr ∧ (∃ nms, OwnL StrR 1 (fun _ => False) wr W.heap.size 9 (.slice An k cap) nms ∧ Hid (nms = (s.moulds.take k).map (·.name))) ∧ Hid (∀ j, j < k → mouldE s.moulds j = 0)) (fun _ _ i _ => n - (intOf i).toNat)
   case atStart => exact ⟨0, 0, none, Nat.zero_le _, rfl, rfl, b1, ⟨[], OwnL.nil _ _ _ _ _ _, rfl⟩, fun j h => by omega⟩
   case round =>
    clear b1
    obtain ⟨k, cap, An, hk, rfl, rfl, hB, ⟨nms, hO, Hnm⟩, Hz⟩ := hrel
    have hcr := hc.keep MouldR.good (Keeps.below hB)
    have X3 := HX.out.bl hB
    have y2 := X3.cell 2
    have yl := X3.lt
    clear X3
    have hkl : nms.length = k := by rw [Hnm.out, List.length_map, List.length_take, Hn.out]; omega
    have Hkl := Lib.hid hkl
    clear hkl
    by_cases hlt : k < n
    ·obtain ⟨b, off, sn, a, z, y, u, q, rfl, hbb, hc0, hc1, hc2, hc3, hc4, hc5, hs, Hx⟩ := Moulds.get hcr hlt
     have HE : Hid (mouldE s.moulds k = mouldS ⟨sn.data.toList, a, z, y, u, q⟩ nms) := by rw [Hid, Hnm.out]; exact mouldE_ref Hx.out
     have HL : Hid (∀ e, e ≠ 0 → mouldE s.moulds k = e → check7 s = (2, (k : Int), e)) := fun e he hh => by rw [D.out, firstErr_some (by rw [Hn.out]; exact hlt) Hz.out (by rw [hh]; exact he), hh]
     have hki : (k : Int) < n := by omega
     have hstr : Strs (fun _ => True) wr An k nms := hO.slice StrR.good rfl (by simp only [maxLen]; omega) (fun _ h => h.elim) (fun _ _ _ => trivial)
     go_wp2_with fail
     refine (rmould_any sn a z y u q _ hstr hs).mono ?_
     rintro e w1 ⟨rfl, hb1⟩
     generalize hfr : mouldS ⟨sn.data.toList, a, z, y, u, q⟩ nms = fr at HE ⊢
     have hB1 : Below W.heap.size W w1 := bl_call hB hb1 (Nat.le_refl _)
     have hO1 := hO.below StrR.good hb1
     have q0 := getc hb1 hc0
     have q3 := getc hb1 y2
     clear hfr hB hO hb1 hc0 hc1 hc2 hc3 hc4 hc5 y2 yl hstr hcr
     by_cases he : fr = 0
     ·obtain rfl : fr = 0 := he
      go_wp2_with (at_builtin; refine wpList_append_n _ rfl (.tmp 41) (.tmp 48) _ rfl StrR.good W.heap.size 9 i0 _ 16 Tryz.underlying70 hi0 hz0 hz1 hz2 rfl (by omega) _ nms sn.data.toList k Hkl.out rfl (hO1.alloc StrR.good _) ⟨w1.heap.size, 0, none⟩ 1 [.string sn] rfl ⟨sn, rfl, rfl, hs⟩ (news_new rfl (by simp)) ?c1 ?c2 ?c3 (fun h => h) ?_)
      case c1 => simp only [maxLen]; omega
      case c2 => omega
      case c3 => have := hB1.size; simp; omega
      intro A' cap' w2 hown2 hg2 hat2
      have hB2 : Below W.heap.size W w2 := bl_grown (bl_alloc hB1 _ (Nat.le_refl _)) (hO1.alloc StrR.good _) hg2 (Nat.le_refl _) (Nat.le_refl _)
      have Hnm2 : Hid (nms ++ [sn.data.toList] = (s.moulds.take (k + 1)).map (·.name)) := by rw [Hid, take_snoc_get Hx.out, List.map_append, Hnm.out]; rfl
      clear hg2 hat2 hO1 hB1 q0 q3
      go_wp2
      go_roundw
      case rel => exact ⟨k + 1, _, _, by omega, by go_num, rfl, hB2, ⟨_, hown2, Hnm2⟩, upto7 Hz.out HE.out⟩
      case measure => simp [intOf]; omega
     have hbe2 : (fr != 0) = true := by simpa using he
     have HC := Lib.hid (HL.out fr he HE.out)
     clear he
     go_wp2
     go_ret3
     exact ⟨by rw [HC.out]; rfl, hBW.trans (hB1.mono hWs)⟩
    obtain rfl : k = n := by omega
    have HC : Hid (check7 s = (0, 0, 0)) := by rw [Hid, D.out, firstErr_none (by rw [Hn.out]; exact Hz.out)]
    go_wp2
    go_ret3
    exact ⟨by rw [HC.out]; rfl, hBW.trans (hB.mono hWs)⟩
 have hzb : (e0 == 0) = false := by simpa using hz
 have hzb2 : (e0 != 0) = true := by simpa using hz
 have HC : Hid (check7 s = (1, 0, e0)) := by rw [Hid, c7_bad (by rw [HE0.out]; exact hz), HE0.out]
 go_wp2_with fail
 go_ret3
 exact ⟨by rw [HC.out]; rfl, hBW.trans (b1.mono hWs)⟩
end Go.Proofs.YtdbfincinjoppaaGreat

