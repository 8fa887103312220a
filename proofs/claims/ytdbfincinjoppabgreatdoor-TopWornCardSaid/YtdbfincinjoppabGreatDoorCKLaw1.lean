/- A part of the proof that TopWorn always answers true. -/
import Derived.Test.YtdbfincinjoppabGreatDoorCKPlan2
set_option linter.all false
namespace Go.Proofs.YtdbfincinjoppabGreatDoor
open Go.RowKit
theorem wp_frameT {c : Code} {P : Program} {Q : Exit → Act → World → Prop} {a : Act} {w : World} (h : ∀ a0 : Act, a0 = a → c.wp P Q a0 w) : c.wp P Q a w := h a rfl
def exShop : Shop := ⟨10, 12, [⟨[104, 105, 108, 108], 1000, 1002, 2, 3, 4⟩, ⟨[118, 97, 108, 101], 1010, 1010, 0, 0, 2⟩]⟩
def exSeen7 : List SeenC := [⟨1, 0, 998, 998⟩]
theorem ex7_sizes : sizesR exShop [] 0 3 = ((994, 1001), 0) := by decide +kernel
theorem ex7_sizes2 : sizesR exShop exSeen7 0 3 = ((994, 999), 0) := by decide +kernel
theorem ex7_shrinks : shrinksR exShop exSeen7 = ([12], 0) := by decide +kernel
theorem ex7_fits : fitsR exShop [] 990 1000 = ([(0, 1), (0, 2), (1, 0), (1, 1)], 0) := by decide +kernel
theorem ex7_plan : planR exShop [] [(990, 1000), (990, 998), (998, 1000)] = ([(0, 1), (0, 2), (1, 0)], [0, 1], 0) := by decide +kernel
theorem ex7_lacks : lacksR exShop [] [(990, 998), (992, 998), (990, 998)] = ([0, 1, 2], 0) := by decide +kernel
theorem ex7_some : someR exShop [] [(990, 998), (992, 998), (990, 998)] = ([0, 1], 0) := by decide +kernel
theorem ex7_none : planR exShop [] [(990, 1000), (999, 1000)] = ([], [], 8) := by decide +kernel
theorem slice_blk7 {α : Type} {R : Rd α} {m : Nat} {S : Foot} {w : World} {g : Nat} {t : TypeId} {cs : Array Value} (hB : Blk w g t cs) (hS : S g) {xs : List α} {n : Nat} (hl : xs.length = n) (hn : n ≤ maxLen)
  (h : ∀ (k : Nat) (x : α), xs[k]? = some x → ∃ vs, R S w x vs ∧ ∀ (j : Nat) (u : Value), vs[j]? = some u → cs[k * m + j]? = some u) : SliceOf R m S w (some ⟨g, 0, none⟩) n xs := by
 refine ⟨hl, hn, fun k x hk => ?_⟩
 obtain ⟨vs, h1, h2⟩ := h k x hk
 exact ⟨g, 0, vs, rfl, hS, hB.lt, h1, fun j u hu => by rw [Nat.zero_add, hB.cell]; exact h2 j u hu⟩
theorem ret_two7 {fn : Func} {p : Tmp} {t : TypeId} (h : fn.results = #[.cell p t]) (ht : t = 23 ∨ t = 37) {tmps : Array Value} {g : Nat} {lo hi : Int} {w : World} (hp : tmps.getD p undef = .pointer (some ⟨g, 0, none⟩))
  (h0 : w.cell? ⟨g, 0, none⟩ = some (.int .i64 lo)) (h1 : w.cell? ⟨g, 1, none⟩ = some (.int .i64 hi)) : (results fn tmps).run Tryz.prog w = .ok (.agg #[.int .i64 lo, .int .i64 hi]) w := by
 have hp' : tmps[p]?.getD undef = .pointer (some ⟨g, 0, none⟩) := by simpa using hp
 rcases ht with rfl | rfl
 all_goals simp [results, h, hp', asAddr, go_sem, h0, h1]
theorem ret_shop7 {fn : Func} {p : Tmp} (h : fn.results = #[.cell p 26]) {tmps : Array Value} {g : Nat} {v0 v1 v2 : Value} {w : World} (hp : tmps.getD p undef = .pointer (some ⟨g, 0, none⟩))
  (hB : Blk w g 26 #[v0, v1, v2]) : (results fn tmps).run Tryz.prog w = .ok (.agg #[v0, v1, v2]) w := by
 have hp' : tmps[p]?.getD undef = .pointer (some ⟨g, 0, none⟩) := by simpa using hp
 have h0 : w.cell? ⟨g, 0, none⟩ = some v0 := hB.cell 0
 have h1 : w.cell? ⟨g, 1, none⟩ = some v1 := hB.cell 1
 have h2 : w.cell? ⟨g, 2, none⟩ = some v2 := hB.cell 2
 simp [results, h, hp', asAddr, go_sem, h0, h1, h2]
theorem span7_any (a z : Int) (w : World) :
  Calls Tryz.prog 21 #[.int .i64 a, .int .i64 z] w fun e w' => e = .returned (.agg #[.int .i64 a, .int .i64 z]) ∧ Below w.heap.size w w' := by
 obtain ⟨W, hW⟩ : ∃ W, w.alloc (.cells #[.int .i64 0, .int .i64 0] 23) = W := ⟨_, rfl⟩
 have X : Blk W w.heap.size 23 #[.int .i64 0, .int .i64 0] := by rw [← hW]; exact Blk.new _ _ _ rfl
 have hBW : Below w.heap.size w W := by rw [← hW]; exact bl_alloc (Below.refl _ _) _ (Nat.le_refl _)
 have z0 := X.cell 0
 have z1 := X.cell 1
 have fz0 := X.frozen 0
 have fz1 := X.frozen 1
 have hl := X.lt
 go_enter Tryz.func21, Tryz.ntmps21
 go_wp2_with fail
 exact bodyPost_ret (ret_two7 rfl (.inl rfl) rfl (X.set2 _ _).c0 (X.set2 _ _).c1) rfl ⟨rfl, bl_set (bl_set hBW (Nat.le_refl _) _) (Nat.le_refl _) _⟩
theorem at7_any (a z : Int) (w : World) :
  Calls Tryz.prog 17 #[.int .i64 a, .int .i64 z] w fun e w' => e = .returned (.agg #[.int .i64 a, .int .i64 z]) ∧ Below w.heap.size w w' := by
 obtain ⟨W, hW⟩ : ∃ W, w.alloc (.cells #[.int .i64 0, .int .i64 0] 37) = W := ⟨_, rfl⟩
 have X : Blk W w.heap.size 37 #[.int .i64 0, .int .i64 0] := by rw [← hW]; exact Blk.new _ _ _ rfl
 have hBW : Below w.heap.size w W := by rw [← hW]; exact bl_alloc (Below.refl _ _) _ (Nat.le_refl _)
 have z0 := X.cell 0
 have z1 := X.cell 1
 have fz0 := X.frozen 0
 have fz1 := X.frozen 1
 have hl := X.lt
 go_enter Tryz.func17, Tryz.ntmps17
 go_wp2_with fail
 exact bodyPost_ret (ret_two7 rfl (.inr rfl) rfl (X.set2 _ _).c0 (X.set2 _ _).c1) rfl ⟨rfl, bl_set (bl_set hBW (Nat.le_refl _) _) (Nat.le_refl _) _⟩
theorem exSeen7_at {w : World} {g w0 : Nat} {t : TypeId} (hB : Blk w g t #[.int .i64 1, .int .i64 0, .int .i64 998, .int .i64 998]) (h0 : w0 ≤ g) : SeenCs (fun k => w0 ≤ k) w (some ⟨g, 0, none⟩) 1 exSeen7 := by
 refine slice_blk7 hB h0 rfl (by decide) ?_
 intro k x hk
 have hk2 : k < 1 := of_getq hk
 have hc : k = 0 := by omega
 subst hc
 have hx := (Option.some.inj hk).symm
 subst hx
 refine ⟨_, rfl, ?_⟩
 intro j u hu
 have hj : j < 4 := of_getq hu
 have hc : j = 0 ∨ j = 1 ∨ j = 2 ∨ j = 3 := by omega
 rcases hc with rfl | rfl | rfl | rfl <;> exact hu
theorem exMoulds_at {w : World} {g w0 : Nat} {t : TypeId} (hB : Blk w g t #[.string ⟨#[104, 105, 108, 108]⟩, .int .i64 1000, .int .i64 1002, .int .i64 2, .int .i64 3, .int .i64 4, .string ⟨#[118, 97, 108, 101]⟩, .int .i64 1010, .int .i64 1010, .int .i64 0, .int .i64 0, .int .i64 2]) (h0 : w0 ≤ g) : Moulds (fun k => w0 ≤ k) w (some ⟨g, 0, none⟩) 2 exShop.moulds := by
 refine slice_blk7 hB h0 rfl (by decide) ?_
 intro k x hk
 have hk2 : k < 2 := of_getq hk
 have hc : k = 0 ∨ k = 1 := by omega
 rcases hc with rfl | rfl
 all_goals
  have hx := (Option.some.inj hk).symm
  subst hx
 ·refine ⟨[.string ⟨#[104, 105, 108, 108]⟩, .int .i64 1000, .int .i64 1002, .int .i64 2, .int .i64 3, .int .i64 4], ⟨_, rfl, rfl, by decide⟩, ?_⟩
  intro j u hu
  have hj : j < 6 := of_getq hu
  have hc : j = 0 ∨ j = 1 ∨ j = 2 ∨ j = 3 ∨ j = 4 ∨ j = 5 := by omega
  rcases hc with rfl | rfl | rfl | rfl | rfl | rfl <;> exact hu
 refine ⟨[.string ⟨#[118, 97, 108, 101]⟩, .int .i64 1010, .int .i64 1010, .int .i64 0, .int .i64 0, .int .i64 2], ⟨_, rfl, rfl, by decide⟩, ?_⟩
 intro j u hu
 have hj : j < 6 := of_getq hu
 have hc : j = 0 ∨ j = 1 ∨ j = 2 ∨ j = 3 ∨ j = 4 ∨ j = 5 := by omega
 rcases hc with rfl | rfl | rfl | rfl | rfl | rfl <;> exact hu
def IsShop (w0 : Nat) (v : Value) (w' : World) : Prop := ∃ (A ca : Nat), v = .agg #[.int .i64 10, .int .i64 12, .slice (some ⟨A, 0, none⟩) 2 ca] ∧ Moulds (fun k => w0 ≤ k) w' (some ⟨A, 0, none⟩) 2 exShop.moulds ∧ 2 ≤ ca
def IsSeen7 (w0 : Nat) (v : Value) (w' : World) : Prop := ∃ (A c : Nat), v = .slice (some ⟨A, 0, none⟩) 1 c ∧ SeenCs (fun k => w0 ≤ k) w' (some ⟨A, 0, none⟩) 1 exSeen7
set_option maxHeartbeats 1000000 in
theorem seen32_any (w : World) :
  Calls Tryz.prog 18 #[] w fun e w' => (∃ v, e = .returned v ∧ IsSeen7 w.heap.size v w') ∧ Below w.heap.size w w' := by
 go_enter Tryz.func18, Tryz.ntmps18
 go_wp2_with fail
 refine (span7_any 998 998 w).mono ?_
 rintro e W1 ⟨rfl, b1⟩
 go_wp2
 go_ret
 exact ⟨⟨_, by rfl, _, _, rfl, exSeen7_at (Blk.new _ _ _ rfl) b1.size⟩, bl_alloc b1 _ (Nat.le_refl _)⟩
open Go.RowKit
set_option maxHeartbeats 1000000 in
theorem shop30_any (w : World) :
  Calls Tryz.prog 16 #[] w fun e w' => (∃ v, e = .returned v ∧ IsShop w.heap.size v w') ∧ Below w.heap.size w w' := by
 obtain ⟨W, hW⟩ : ∃ W, w.alloc (.cells #[.int .i64 0, .int .i64 0, .slice none 0 0] 26) = W := ⟨_, rfl⟩
 have X : Blk W w.heap.size 26 #[.int .i64 0, .int .i64 0, .slice none 0 0] := by rw [← hW]; exact Blk.new _ _ _ rfl
 have hBW : Below w.heap.size w W := by rw [← hW]; exact bl_alloc (Below.refl _ _) _ (Nat.le_refl _)
 go_enter Tryz.func16, Tryz.ntmps16
 go_wp2_with fail
 refine (span7_any 10 12 W).mono ?_
 rintro e W1 ⟨rfl, b1⟩
 have B1 := bl_call hBW b1 (Nat.le_refl _)
 have X1 := X.bl b1
 clear hW X
 go_wp2_with fail
 refine (span7_any 1000 1002 W1).mono ?_
 rintro e W2 ⟨rfl, b2⟩
 have B2 := bl_call B1 b2 (Nat.le_refl _)
 have X2 := X1.bl b2
 go_wp2_with fail
 refine (span7_any 2 3 W2).mono ?_
 rintro e W3 ⟨rfl, b3⟩
 have B3 := bl_call B2 b3 (Nat.le_refl _)
 have X3 := X2.bl b3
 go_wp2_with fail
 refine (span7_any 1010 1010 W3).mono ?_
 rintro e W5 ⟨rfl, b5⟩
 have B5 := bl_call B3 b5 (Nat.le_refl _)
 have X5 := X3.bl b5
 have z0 := X5.cell 0
 have z1 := X5.cell 1
 have z2 := X5.cell 2
 have fz0 := X5.frozen 0
 have fz1 := X5.frozen 1
 have fz2 := X5.frozen 2
 have hl := X5.lt
 clear X1 X2 X3 b1 b2 b3 b5 B1 B2 B3
 go_wp2_with fail
 obtain ⟨V, hV⟩ : ∃ V, (((W5.setCell ⟨w.heap.size, 0, none⟩ (.int .i64 10)).setCell ⟨w.heap.size, 1, none⟩ (.int .i64 12)).setCell ⟨w.heap.size, 2, none⟩ (.slice (some ⟨W5.heap.size, 0, none⟩) 2 2)) = V := ⟨_, rfl⟩
 have hsz : V.heap.size = W5.heap.size := by rw [← hV]; simp
 have XF : Blk V w.heap.size 26 #[.int .i64 10, .int .i64 12, .slice (some ⟨W5.heap.size, 0, none⟩) 2 2] := by rw [← hV]; exact (((X5.set_ 0 (.int .i64 10)).set_ 1 (.int .i64 12)).set_ 2 (.slice (some ⟨W5.heap.size, 0, none⟩) 2 2))
 have BV : Below w.heap.size w V := by rw [← hV]; exact (bl_set (bl_set (bl_set B5 (Nat.le_refl _) _) (Nat.le_refl _) _) (Nat.le_refl _) _)
 have hwl : w.heap.size ≤ W5.heap.size := by omega
 rw [hV]
 exact bodyPost_ret (ret_shop7 rfl rfl (XF.alloc _)) rfl ⟨⟨_, rfl, _, _, rfl, exMoulds_at (Blk.new _ _ _ hsz.symm) hwl, Nat.le_refl _⟩, bl_alloc BV _ (Nat.le_refl _)⟩
open Go.RowKit Go.Shelf
set_option maxHeartbeats 400000 in
theorem same7_any {S T : Foot} {A B : Option Addr} {n c m d : Nat} {xs ys : List (Nat × Nat)} (w : World) (h : Pls S w A n xs) (g : Pls T w B m ys) :
  Calls Tryz.prog 26 #[.slice A n c, .slice B m d] w fun e w' => e = .returned (.bool (decide (xs = ys))) ∧ ∃ q, w' = w.drewN q := by
 have hle := h.le
 have gle := g.le
 by_cases hnm : n = m
 ·obtain rfl : n = m := hnm
  have hb : ((n : Int) != (n : Int)) = false := by simp
  go_enter Tryz.func26, Tryz.ntmps26
  go_wp2
  go_loopw [5] (fun i wr => ∃ k : Nat, k ≤ n ∧ i = .int .i64 k ∧ Hid (xs.take k = ys.take k) ∧ ∃ q, wr = w.drewN q) (fun i _ => n - (intOf i).toNat)
  case atStart => exact ⟨0, Nat.zero_le _, rfl, by simp [Hid], 0, rfl⟩
  case round =>
   obtain ⟨k, hk, rfl, Hn, q, rfl⟩ := hrel
   by_cases hlt : k < n
   ·obtain ⟨b, off, x1, x2, rfl, _, hc0, hc1, Hx⟩ := h.get hlt
    obtain ⟨b', off', y1, y2, rfl, _, hd0, hd1, Hy⟩ := g.get hlt
    by_cases hm : x1 = y1
    ·subst hm
     by_cases hm2 : x2 = y2
     ·subst hm2
      go_wp2
      go_quiet (fail)
      go_wp2
      go_roundw
      case rel => exact ⟨k + 1, by omega, by go_num, by rw [Hid, take_snoc_get Hx.out, take_snoc_get Hy.out, Hn.out], _, rfl⟩
      case measure => simp [intOf]; omega
     have hmb : ¬ (x2 : Int) = (y2 : Int) := by omega
     have HM := Lib.hid hm2
     clear hm2
     go_wp2
     go_quiet (fail)
     go_wp2
     go_ret
     refine ⟨ret_bool ?_, q + nq, by rw [World.drewN_drewN]⟩
     symm; rw [decide_eq_false_iff_not]; rintro rfl
     have h1 := Hx.out; rw [Hy.out] at h1
     exact HM.out (congrArg Prod.snd (Option.some.inj h1)).symm
    have hmb : ¬ (x1 : Int) = (y1 : Int) := by omega
    have HM := Lib.hid hm
    clear hm
    go_wp2
    go_quiet (fail)
    go_wp2
    go_ret
    refine ⟨ret_bool ?_, q + nq, by rw [World.drewN_drewN]⟩
    symm; rw [decide_eq_false_iff_not]; rintro rfl
    have h1 := Hx.out; rw [Hy.out] at h1
    exact HM.out (congrArg Prod.fst (Option.some.inj h1)).symm
   go_wp2
   go_ret
   refine ⟨ret_bool ?_, _, rfl⟩
   symm; rw [decide_eq_true_iff]
   have := Hn.out
   rwa [List.take_of_length_le (by rw [h.len]; omega), List.take_of_length_le (by rw [g.len]; omega)] at this
 have hb : ((n : Int) != (m : Int)) = true := by simp; omega
 have HM := Lib.hid hnm
 clear hnm
 go_enter Tryz.func26, Tryz.ntmps26
 go_wp2
 go_ret
 exact ⟨ret_bool (by symm; rw [decide_eq_false_iff_not]; rintro rfl; exact HM.out (h.len.symm.trans g.len)), 0, rfl⟩
end Go.Proofs.YtdbfincinjoppabGreatDoor
