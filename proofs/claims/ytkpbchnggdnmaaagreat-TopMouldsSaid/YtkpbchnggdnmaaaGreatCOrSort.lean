/- A part of the proof that TopMoulds always answers true. -/
import Derived.Test.YtkpbchnggdnmaaaGreatCKRefC
import Derived.Test.YtkpbchnggdnmaaaGreatCOrTopP
set_option linter.all false
namespace Go.Proofs.YtkpbchnggdnmaaaGreat
open Go.RowKit Go.Shelf Go.Maps
def cmpO (a b : Int × Int) : Int := if a = b then 0 else if a.2 = b.2 then a.1 - b.1 else a.2 - b.2
theorem eg_plan1 : Enters Tryz.prog 86 := enters_of Tryz.func86 (by kernel_rfl) rfl
theorem oplan1_any {a1 a2 b1 b2 : Int} (ha : (0 ≤ a1 ∧ a1 ≤ 100) ∧ 0 ≤ a2 ∧ a2 ≤ 100) (hb : (0 ≤ b1 ∧ b1 ≤ 100) ∧ 0 ≤ b2 ∧ b2 ≤ 100) (w : World) :
  Calls Tryz.prog 86 #[.agg #[.int .i64 a1, .int .i64 a2], .agg #[.int .i64 b1, .int .i64 b2]] w fun e w' => e = .returned (.int .i64 (cmpO (a1, a2) (b1, b2))) ∧ Below w.heap.size w w' := by
 have w1 : IntKind.i64.wrap (a1 - b1) = a1 - b1 := by rw [IntKind.wrap_i64]; omega
 have w2 : IntKind.i64.wrap (a2 - b2) = a2 - b2 := by rw [IntKind.wrap_i64]; omega
 have hB : Below w.heap.size w ((w.alloc (.cells #[.int .i64 a1, .int .i64 a2] 166)).alloc (.cells #[.int .i64 b1, .int .i64 b2] 166)) := bl_alloc (bl_alloc (Below.refl _ _) _ (Nat.le_refl _)) _ (Nat.le_refl _)
 have HB := Lib.hid hB
 clear hB ha hb
 by_cases e2 : a2 = b2
 ·subst e2
  by_cases e1 : a1 = b1
  ·subst e1
   have HC : Hid (cmpO (a1, a2) (a1, a2) = 0) := if_pos rfl
   go_enter Tryz.func86, Tryz.ntmps86
   go_wp2
   go_ret
   exact ⟨by rw [HC.out]; rfl, HB.out⟩
  have HC : Hid (cmpO (a1, a2) (b1, a2) = a1 - b1) := by rw [Hid, cmpO, if_neg (fun h => e1 (by injection h)), if_pos rfl]
  have h1 : (a1 == b1) = false := by simpa using e1
  clear e1
  go_enter Tryz.func86, Tryz.ntmps86
  go_wp2
  go_ret
  exact ⟨by rw [HC.out]; rfl, HB.out⟩
 have HC : Hid (cmpO (a1, a2) (b1, b2) = a2 - b2) := by rw [Hid, cmpO, if_neg (fun h => e2 (by injection h)), if_neg e2]
 have h2 : (a2 == b2) = false := by simpa using e2
 clear e2
 go_enter Tryz.func86, Tryz.ntmps86
 go_wp2
 go_ret
 exact ⟨by rw [HC.out]; rfl, HB.out⟩
structure InO (xs : List (Int × Int)) : Prop where
 bd : ∀ x ∈ xs, (0 ≤ x.1 ∧ x.1 ≤ 100) ∧ 0 ≤ x.2 ∧ x.2 ≤ 100
 ord : ∀ (k : Nat) (a b : Int × Int), xs[k]? = some b → xs[k + 1]? = some a → 0 ≤ cmpO a b
set_option maxRecDepth 100000 in
set_option maxHeartbeats 2000000 in
theorem oinsert_any {S : Foot} {A : Option Addr} {n c : Nat} {xs : List (Int × Int)} (hx : InO xs) (hn : n ≤ 19) (w : World) (h : Pairs S w A n xs) :
  Calls Tryz.prog 124 #[.slice A n c, .int .i64 0, .int .i64 (n : Int), .func (.func 86) #[] #[]] w fun e w' => (∃ v, e = .returned v) ∧ Below w.heap.size w w' := by
 have hle := h.le
 have HX := Lib.hid hx
 have w01 : IntKind.i64.wrap ((0 : Int) + 1) = ((1 : Nat) : Int) := by decide
 clear hx
 go_enter Tryz.func124, Tryz.ntmps124
 go_wp2
 go_loopw [8, 9] (fun i _ wr => ∃ k : Nat, (k ≤ n ∨ k = 1) ∧ 1 ≤ k ∧ i = .int .i64 k ∧ Below w.heap.size w wr) (fun i _ _ => n + 1 - (intOf i).toNat)
 case atStart => exact ⟨1, .inr rfl, Nat.le_refl _, rfl, Below.refl _ _⟩
 case round =>
  obtain ⟨wo, hwo⟩ : ∃ V, V = wr := ⟨_, rfl⟩
  rw [← hwo] at hrel ⊢
  clear hwo
  obtain ⟨k, hk, hk1, rfl, hB⟩ := hrel
  by_cases hlt : k < n
  ·have hki : (k : Int) < n := by omega
   obtain ⟨kp, hkp⟩ : ∃ kp : Nat, (k : Int) - 1 = kp := ⟨k - 1, by omega⟩
   have wk : IntKind.i64.wrap ((k : Int) - 1) = (kp : Int) := by rw [hkp, IntKind.wrap_i64]; omega
   have hr := h.keep PairR.good (Keeps.below hB)
   obtain ⟨b, off, a, z, rfl, hb0, hc0, hc1, Hx⟩ := Pairs.get hr hlt
   have hkpt : kp < n := by omega
   have hkpi : (kp : Int) < n := by omega
   obtain ⟨b3, off3, a3, z3, h3, hb3, hd0, hd1, Hy⟩ := Pairs.get hr hkpt
   injection h3 with h3
   injection h3 with h3 h4 _
   subst h3 h4
   have ba := HX.out.bd _ (List.mem_of_getElem? Hx.out)
   have bb := HX.out.bd _ (List.mem_of_getElem? Hy.out)
   have hord := HX.out.ord kp (a, z) (a3, z3) Hy.out (by rw [show kp + 1 = k by omega]; exact Hx.out)
   obtain ⟨cv, hcv⟩ : ∃ v, cmpO (a, z) (a3, z3) = v := ⟨_, rfl⟩
   have hcall := fun V => oplan1_any ba bb V
   rw [hcv] at hcall hord
   have HC := Lib.hid hcall
   have hc0n : ¬ cv < 0 := by omega
   have hkg : (0 : Int) < k := by omega
   have hk0 : 0 < k := hk1
   have HB := Lib.hid hB
   clear hr ba bb hcv hcall hkp hord hB
   go_wp2
   go_loopw [9] (fun j wr' => j = .int .i64 (k : Int) ∧ Below w.heap.size w wr' ∧ Hid (wr' = wo)) (fun _ _ => 0)
   case atStart => exact ⟨rfl, HB.out, rfl⟩
   case round =>
    obtain ⟨rfl, _, hw⟩ := hrel
    rw [hw.out]
    go_wp2
    go_still_tail 14, (by kernel_rfl)
    have eg1 := eg_plan1
    go_wp2_with fail
    refine (HC.out _).mono ?_
    rintro e w2 ⟨rfl, hb2⟩
    have HB2 : Hid (Below w.heap.size w w2) := bl_call HB.out.drew hb2 (Nat.le_refl _)
    clear hb2 hc0 hc1 hd0 hd1
    go_wp2
    go_roundw
    case rel => exact ⟨k + 1, by omega, by omega, by go_num, HB2.out⟩
    case measure => simp [intOf]; omega
  have hge : ¬ (k : Int) < n := by omega
  go_wp2
  go_end0
  exact ⟨⟨_, rfl⟩, hB⟩
set_option maxRecDepth 100000 in
theorem ostable_any {S : Foot} {A : Option Addr} {n c : Nat} {xs : List (Int × Int)} (hx : InO xs) (hn : n ≤ 19) (w : World) (h : Pairs S w A n xs) :
  Calls Tryz.prog 104 #[.slice A n c, .int .i64 (n : Int), .func (.func 86) #[] #[]] w fun e w' => (∃ v, e = .returned v) ∧ Below w.heap.size w w' := by
 have h20 : ¬ (20 : Int) ≤ n := by omega
 have h20b : ¬ (20 : Int) < n := by omega
 have HC := Lib.hid (oinsert_any (c := c) hx hn w h)
 have hle := h.le
 clear hx h
 go_enter Tryz.func104, Tryz.ntmps104
 go_wp2
 go_loopw [7, 8] (fun v7 v8 wr => v7 = .int .i64 0 ∧ v8 = .int .i64 20 ∧ Hid (wr = w)) (fun _ _ _ => 0)
 case atStart => exact ⟨rfl, rfl, rfl⟩
 case round =>
  obtain ⟨rfl, rfl, hw⟩ := hrel
  rw [hw.out]
  go_wp2_with fail
  go_wp2_with fail
  refine HC.out.mono ?_
  rintro e w1 ⟨⟨v, rfl⟩, hb⟩
  have HB := Lib.hid hb
  clear hb
  go_wp2
  go_loopw [6, 7, 8, 9] (fun v6 _ _ _ wr => v6 = .int .i64 20 ∧ Hid (wr = w1)) (fun _ _ _ _ _ => 0)
  case atStart => exact ⟨rfl, rfl⟩
  case round =>
   obtain ⟨rfl, hw1⟩ := hrel
   rw [hw1.out]
   go_wp2
   go_end0
   exact ⟨⟨_, rfl⟩, HB.out⟩
theorem osort_any {S : Foot} {A : Option Addr} {n c : Nat} {xs : List (Int × Int)} (hx : InO xs) (hn : n ≤ 19) (w : World) (h : Pairs S w A n xs) :
  Calls Tryz.prog 85 #[.slice A n c, .func (.func 86) #[] #[]] w fun e w' => (∃ v, e = .returned v) ∧ Below w.heap.size w w' := by
 have HC := Lib.hid (ostable_any (c := c) hx hn w h)
 have hle := h.le
 clear hx h
 go_enter Tryz.func85, Tryz.ntmps85
 go_wp2_with fail
 refine HC.out.mono ?_
 rintro e w1 ⟨⟨v, rfl⟩, hb⟩
 go_wp2
 go_end0
 exact ⟨⟨_, rfl⟩, hb⟩
open Go.RowKit Go.Shelf Go.Maps
attribute [local go_sem] Oper.semAt_some
def castsD (day : Nat) (b c : List Int) (n : Nat) : List (Int × Int) := (List.range n).flatMap fun i => List.replicate (c.getD i 0 - b.getD i 0).toNat ((i : Int), (day : Int))
theorem castsD_succ (day : Nat) (b c : List Int) (n : Nat) : castsD day b c (n + 1) = castsD day b c n ++ List.replicate (c.getD n 0 - b.getD n 0).toNat ((n : Int), (day : Int)) := by
 unfold castsD
 rw [List.range_succ, List.flatMap_append]; simp
theorem castsD_same (day : Nat) (b c : List Int) (n : Nat) (h : ∀ i, i < n → c.getD i 0 = b.getD i 0) : castsD day b c n = [] := by
 induction n with
 | zero => rfl
 | succ n ih =>
  rw [castsD_succ, ih (fun i hi => h i (by omega)), h n (by omega), Int.sub_self]; rfl
def listP (s : Shop11) (l : List Ord11) : Nat → List (Int × Int)
 | 0 => []
 | k + 1 => listP s l k ++ castsD k (lastD s l k) (castP s (dueK l k)) s.parts.length
theorem listP_mono (s : Shop11) (l : List Ord11) {i j : Nat} (h : i ≤ j) : (listP s l i).length ≤ (listP s l j).length := by
 induction j with
 | zero =>
  obtain rfl : i = 0 := by omega
  exact Nat.le_refl _
 | succ j ih =>
  by_cases e : i = j + 1
  ·subst e; exact Nat.le_refl _
  have := ih (by omega)
  rw [listP, List.length_append]
  omega
theorem castsD_mono (day : Nat) (b c : List Int) {i j : Nat} (h : i ≤ j) : (castsD day b c i).length ≤ (castsD day b c j).length := by
 induction j with
 | zero =>
  obtain rfl : i = 0 := by omega
  exact Nat.le_refl _
 | succ j ih =>
  by_cases e : i = j + 1
  ·subst e; exact Nat.le_refl _
  have := ih (by omega)
  rw [castsD_succ, List.length_append]
  omega
def sumLong (s : Shop11) (xs : List (Int × Int)) : Int := xs.foldl (fun n x => n + (s.parts.getD x.1.toNat dPart).long) 0
def planO (s : Shop11) (xs : List (Int × Int)) : List (Int × Int) :=
 (List.range xs.length).map fun k => ((xs.getD k (0, 0)).1, (leastN (fun d => decide (sumLong s (xs.take (k + 1)) ≤ upN s d)) s.hours.length : Nat))
def PlanJ (s : Shop11) (l : List Ord11) (base g5 g6 : Nat) (i : Nat) (O : Foot) (A : World) : Prop :=
 ∃ O1 : Foot, ColSt PairR 2 A g5 164 base 166 (listP s l i) O1 ∧ (∀ k, O k ↔ (O1 k ∨ k = g6)) ∧ ¬ O1 g6 ∧ Blk A g6 94 #[.int .i64 ((lastD s l i).getD 0 0), .int .i64 ((lastD s l i).getD 1 0), .int .i64 ((lastD s l i).getD 2 0)]
theorem infoCasting : (Tryz.prog.info? 166).map (fun i => (i.zero, i.size, i.bytes)) = some (some (.agg #[.int .i64 0, .int .i64 0]), 2, 16) := by kernel_rfl
theorem infoOrCast : (Tryz.prog.info? 88).map (fun i => (i.zero, i.size, i.bytes)) = some (some (.agg #[.int .i64 0, .int .i64 0]), 2, 16) := by kernel_rfl
theorem eg_plan2 : Enters Tryz.prog 87 := enters_of Tryz.func87 (by kernel_rfl) rfl
theorem ColSt.grow {α : Type} {R : Rd α} {m : Nat} (g : R.Good m) {wr w3 : World} {gs base n cap A3 cap3 : Nat} {T e : TypeId} {xs : List α} {y : α} {O2 : Foot} {Ad : Option Addr} (hgs : gs < base) (hb : Blk wr gs T #[.slice Ad n cap]) (hn : xs.length = n) (ho : OwnL R m (fun _ => False) wr base e (.slice Ad n cap) xs) (hO : ∀ k, O2 k ↔ k = gs ∨ (Value.slice Ad n cap).ownBlock = some k) (hne : (Value.slice Ad n cap).ownBlock ≠ some gs) (o : Obj)
  (hO3 : OwnL R m (fun _ => False) w3 base e (.slice (some ⟨A3, 0, none⟩) (n + 1) cap3) (xs ++ [y])) (hg3 : (wr.alloc o).grownBy w3 (Value.slice Ad n cap).ownBlock) (hat3 : (Value.slice Ad n cap).ownBlock = some A3 ∨ A3 = wr.heap.size + 1) :
  ∃ O3 : Foot, ColSt R m (w3.setCell ⟨gs, 0, none⟩ (.slice (some ⟨A3, 0, none⟩) (n + 1) cap3)) gs T base e (xs ++ [y]) O3 ∧ (∀ k, O3 k → O2 k ∨ (wr.heap.size ≤ k ∧ k < (w3.setCell ⟨gs, 0, none⟩ (.slice (some ⟨A3, 0, none⟩) (n + 1) cap3)).heap.size)) ∧ Kept O2 wr (w3.setCell ⟨gs, 0, none⟩ (.slice (some ⟨A3, 0, none⟩) (n + 1) cap3)) := by
 have hBg : Blk w3 gs T #[.slice Ad n cap] := (hb.alloc _).grown hg3 (Ne.symm hne)
 have hA3l : A3 < w3.heap.size := (OwnL.block hO3 A3 rfl).2
 have hA3b : base ≤ A3 := (OwnL.block hO3 A3 rfl).1
 have hne3 : A3 ≠ gs := by omega
 refine ⟨fun k => k = gs ∨ A3 = k, ⟨some ⟨A3, 0, none⟩, cap3, ?_, ?_, fun k => by simp [Value.ownBlock], by simp [Value.ownBlock]; exact hne3⟩, ?_, ?_⟩
 ·rw [List.length_append, hn]; exact hBg.set_ 0 _
 ·rw [List.length_append, hn]
  exact hO3.keep g (Keeps.setCell _ _ _ (fun h => h.elim (fun h => h) (fun h => hne3 (by simpa [Value.ownBlock] using h))))
 ·rintro k (rfl | rfl)
  ·exact .inl ((hO _).2 (.inl rfl))
  rcases hat3 with h | h
  ·exact .inl ((hO _).2 (.inr h))
  refine .inr ⟨?_, by simpa [World.setCell] using hA3l⟩
  omega
 exact (((Kept.alloc _ _ _).trans (Kept.grown hg3 (fun k hk => (hO k).2 (.inr hk))))).trans (Kept.setCell _ _ _ ((hO _).2 (.inl rfl)))
set_option maxHeartbeats 1000000 in
theorem eq_pieces (a0 a1 a2 b0 b1 b2 : Int) (w : World) : (Op.equalIn 10000 94 (.agg #[.int .i64 a0, .int .i64 a1, .int .i64 a2]) (.agg #[.int .i64 b0, .int .i64 b1, .int .i64 b2])).run Tryz.prog w = .ok (decide (a0 = b0 ∧ a1 = b1 ∧ a2 = b2)) w := by
 have u3 := Tryz.underlying3
 have a3' := Tryz.isAgg3
 have z3 := Tryz.sizeOf3
 rw [show (10000 : Nat) = 9999 + 1 from rfl, Op.equalIn]
 simp only [Sem.run_bind, run_underlying Tryz.underlying94, Result.andThen_ok]
 simp only [Std.Legacy.Range.forIn_eq_forIn_range', Std.Legacy.Range.size, Nat.sub_zero, Nat.add_sub_cancel, Nat.div_one, List.range'_succ, List.range'_zero, List.forIn_cons, List.forIn_nil]
 go_simp
 by_cases h0 : a0 = b0 <;> by_cases h1 : a1 = b1 <;> by_cases h2 : a2 = b2 <;> simp [h0, h1, h2]
theorem sumLong_snoc (s : Shop11) {xs : List (Int × Int)} {k : Nat} {x : Int × Int} (h : xs[k]? = some x) : sumLong s (xs.take (k + 1)) = sumLong s (xs.take k) + (s.parts.getD x.1.toNat dPart).long := by
 unfold sumLong
 rw [take_snoc_get h, List.foldl_append]; rfl
theorem sumLong_bd {s : Shop11} (hok : Ok11 s) {xs : List (Int × Int)} (h : ∀ x ∈ xs, 0 ≤ x.1 ∧ x.1 < (s.parts.length : Int)) : 0 ≤ sumLong s xs ∧ sumLong s xs ≤ 48 * (xs.length : Int) := by
 have key : ∀ (xs : List (Int × Int)) (a : Int), (∀ x ∈ xs, 0 ≤ x.1 ∧ x.1 < (s.parts.length : Int)) → a ≤ xs.foldl (fun n x => n + (s.parts.getD x.1.toNat dPart).long) a ∧ xs.foldl (fun n x => n + (s.parts.getD x.1.toNat dPart).long) a ≤ a + 48 * (xs.length : Int) := by
  intro xs
  induction xs with
  | nil => intro a _; simp
  | cons x l ih =>
   intro a h
   have h1 := ih (a + (s.parts.getD x.1.toNat dPart).long) (fun y hy => h y (by simp [hy]))
   have h2 := h x (by simp)
   have hlt : x.1.toNat < s.parts.length := by omega
   have h3 := (hok.parts _ (List.getElem_mem hlt)).2.1
   rw [getD_of (List.getElem?_eq_getElem hlt)] at h1
   rw [List.foldl_cons, List.length_cons, getD_of (List.getElem?_eq_getElem hlt)]
   push_cast
   omega
 have := key xs 0 h
 unfold sumLong
 omega
def planP (s : Shop11) (xs : List (Int × Int)) (k : Nat) : List (Int × Int) :=
 (List.range k).map fun k => ((xs.getD k (0, 0)).1, (leastN (fun d => decide (sumLong s (xs.take (k + 1)) ≤ upN s d)) s.hours.length : Nat))
theorem planP_succ (s : Shop11) (xs : List (Int × Int)) (k : Nat) : planP s xs (k + 1) = planP s xs k ++ [((xs.getD k (0, 0)).1, ((leastN (fun d => decide (sumLong s (xs.take (k + 1)) ≤ upN s d)) s.hours.length : Nat) : Int))] := by
 unfold planP
 rw [List.range_succ, List.map_append]; rfl
theorem planP_len (s : Shop11) (xs : List (Int × Int)) (k : Nat) : (planP s xs k).length = k := by simp [planP]
set_option maxRecDepth 100000 in
set_option maxHeartbeats 1000000 in
theorem oplan2_any {s : Shop11} {B g kb d gS gH : Nat} {hv : Int} {H P Q : Option Addr} {hn hc pn pc on oc : Nat} (w : World) (L : LookK w B g kb H hn hc P pn pc Q on oc s) (hd : d < hn) (hS : w.cell? ⟨gS, 0, none⟩ = some (.pointer (some ⟨g, 0, none⟩))) (hH : w.cell? ⟨gH, 0, none⟩ = some (.int .i64 hv)) :
  Calls Tryz.prog 87 #[.int .i64 (d : Int), .pointer (some ⟨gS, 0, none⟩), .pointer (some ⟨gH, 0, none⟩)] w fun e w' => e = .returned (.bool (decide (hv ≤ upN s d))) ∧ Below w.heap.size w w' := by
 have hcl : Hid (∀ V, Below w.heap.size w V → Calls Tryz.prog 84 #[.pointer (some ⟨g, 0, none⟩), .int .i64 (d : Int)] V fun e w' => e = .returned (.int .i64 (upN s d)) ∧ w' = V) := fun V hb => oworked_any V (L.bl hb) hd
 have kk : Hid (∀ V, Below w.heap.size w V → V.cell? ⟨gS, 0, none⟩ = some (.pointer (some ⟨g, 0, none⟩)) ∧ V.cell? ⟨gH, 0, none⟩ = some (.int .i64 hv)) := fun V hb => ⟨getc hb hS, getc hb hH⟩
 clear L hS hH
 obtain ⟨up, hup⟩ : ∃ v, upN s d = v := ⟨_, rfl⟩
 rw [hup] at hcl ⊢
 obtain ⟨bo, hbo⟩ : ∃ b, decide (hv ≤ up) = b := ⟨_, rfl⟩
 have HBO := Lib.hid hbo
 rw [hbo]
 have eg7 := eg_worked
 clear hup hbo
 go_enter Tryz.func87, Tryz.ntmps87
 go_wp2
 refine wp_region_inva (InvV w (fun i => [.pointer (some ⟨g, 0, none⟩), .int .i64 (d : Int), .int .i64 up, .int .i64 hv, .bool bo, .bool bo].getD i undef)) (by kernel_rfl) (by kernel_rfl) (by kernel_rfl) InvV.zero ?step ?fin
 case step =>
  refine StepsI.cons ?_ (StepsI.cons ?_ (StepsI.cons ?_ (StepsI.cons ?_ (StepsI.cons ?_ (StepsI.cons ?_ StepsI.nil)))))
  all_goals
   refine StepI.of ?_
   intro ls vs W9 K hI hl hw hU hK
   simp only [fillA, Act.put, List.setIfInBounds_toArray, List.set_cons_zero, List.set_cons_succ, Nat.zero_add, Nat.reduceAdd] at hK ⊢
   have hC := hI.1
  ·
   obtain ⟨k0, k1⟩ := kk.out W9 hC
   go_simp
   exact hK _ _ (hI.step (Below.refl _ _) rfl)
  ·
   go_simp
   exact hK _ _ (hI.step (Below.refl _ _) rfl)
  ·
   have q0 : vs 0 = .pointer (some ⟨g, 0, none⟩) := hI.2 0 (hw 0 (by simp [waits, Region.binds]))
   have q1 : vs 1 = .int .i64 (d : Int) := hI.2 1 (hw 1 (by simp [waits, Region.binds]))
   simp only [q0, q1] at hK ⊢
   go_simp
   refine (hcl.out W9 hC).mono ?_
   rintro e w2 ⟨rfl, rfl⟩
   exact hK _ _ (hI.step (Below.refl _ _) rfl)
  ·
   obtain ⟨k0, k1⟩ := kk.out W9 hC
   go_simp
   exact hK _ _ (hI.step (Below.refl _ _) rfl)
  ·
   have q2 : vs 2 = .int .i64 up := hI.2 2 (hw 2 (by simp [waits, Region.binds]))
   have q3 : vs 3 = .int .i64 hv := hI.2 3 (hw 3 (by simp [waits, Region.binds]))
   simp only [q2, q3] at hK ⊢
   go_simp
   exact hK _ _ (hI.step (Below.refl _ _) (congrArg Value.bool HBO.out))
  have q4 : vs 4 = .bool bo := hI.2 4 (hw 4 (by simp [waits, Region.binds]))
  simp only [q4] at hK ⊢
  go_simp
  exact hK _ _ (hI.step (Below.refl _ _) rfl)
 intro ls vs W9 hI hl
 have hC := hI.1
 have q0 : vs 0 = .pointer (some ⟨g, 0, none⟩) := hI.2 0 (hl 0 (by decide))
 have q1 : vs 1 = .int .i64 (d : Int) := hI.2 1 (hl 1 (by decide))
 have q2 : vs 2 = .int .i64 up := hI.2 2 (hl 2 (by decide))
 have q3 : vs 3 = .int .i64 hv := hI.2 3 (hl 3 (by decide))
 have q4 : vs 4 = .bool bo := hI.2 4 (hl 4 (by decide))
 have q5 : vs 5 = .bool bo := hI.2 5 (hl 5 (by decide))
 simp only [fillA, Act.put, List.setIfInBounds_toArray, List.set_cons_zero, List.set_cons_succ, Nat.zero_add, Nat.reduceAdd, q0, q1, q2, q3, q4, q5]
 clear q0 q1 q2 q3 q4 q5 hI hl
 have HC := Lib.hid hC
 clear hC
 go_wp2
 go_ret
 exact ⟨rfl, HC.out⟩
end Go.Proofs.YtkpbchnggdnmaaaGreat
