/- A part of the proof that TopMeasured always answers true. -/
import Derived.Test.YtcnebekkbfajbaaGreatCIter2
import Derived.Test.YtcnebekkbfajbaaGreatCKLaw4
import Derived.Test.YtcnebekkbfajbaaGreatCScBase
import Derived.Test.YtcnebekkbfajbaaGreatCScEnter
import Derived.Test.YtcnebekkbfajbaaGreatCScLeast
set_option linter.all false
namespace Go.Proofs.YtcnebekkbfajbaaGreat
open Go.RowKit Go.Shelf
theorem indexM_any {S : Foot} {A : Option Addr} {n c : Nat} {xs : List Mark5} (p : Mark5 → Bool) (g : Nat) (lb : Array Value) (eg : ∀ args w, (callFunc g args).run Tryz.prog w = .ok (.enter g args) w) (w : World) (h : Marks S w A n xs)
  (hp : ∀ (k : Nat) (a z y : Int) (W : World), Below w.heap.size w W → Hid (xs[k]? = some ⟨a, z, y⟩) → Calls Tryz.prog g (#[.agg #[.int .i64 a, .int .i64 z, .int .i64 y]] ++ lb) W fun e W' => e = .returned (.bool (p ⟨a, z, y⟩)) ∧ Below W.heap.size W W') :
  Calls Tryz.prog 93 #[.slice A n c, .func (.func g) #[] lb] w fun e w' => (∃ r : Int, e = .returned (.int .i64 r) ∧ Hid (decide (0 ≤ r) = xs.any p)) ∧ Below w.heap.size w w' := by
 have hle := h.le
 have Hn0 := Lib.hid h.len
 have HP := Lib.hid hp
 have HG := Lib.hid eg
 clear hp eg
 go_enter Tryz.func93, Tryz.ntmps93
 go_wp2
 go_loopw [5, 8] (fun _ i wr => ∃ k : Nat, k ≤ n ∧ i = .int .i64 k ∧ Below w.heap.size w wr ∧ Hid ((xs.take k).any p = false)) (fun _ i _ => n - (intOf i).toNat)
 case atStart => exact ⟨0, Nat.zero_le _, rfl, Below.refl _ _, rfl⟩
 case round =>
  obtain ⟨k, hk, rfl, hB, Hk⟩ := hrel
  by_cases hlt : k < n
  ·have hki : (k : Int) < n := by omega
   have hr := h.keep MarkR.good (Keeps.below hB)
   obtain ⟨b, off, a, z, y, rfl, hb0, hc0, hc1, hc2, Hx⟩ := Marks.get hr hlt
   have hcall := HP.out k a z y wr hB Hx
   have eg : ∀ args w, (callFunc g args).run Tryz.prog w = .ok (.enter g args) w := HG.out
   clear hr
   cases hq : p ⟨a, z, y⟩ with
   | true =>
    have HQ := Lib.hid hq
    rw [hq] at hcall
    clear hq
    go_wp2_with (go_at_fn g; refine hcall.mono ?_; rintro e w2 ⟨rfl, hb2⟩)
    have hB2 := bl_call hB hb2 (Nat.le_refl _)
    go_ret
    exact ⟨⟨_, rfl, by rw [Hid, any_yes Hx.out HQ.out]; simp⟩, hB2⟩
   | false =>
    have HQ := Lib.hid hq
    rw [hq] at hcall
    clear hq
    go_wp2_with (go_at_fn g; refine hcall.mono ?_; rintro e w2 ⟨rfl, hb2⟩)
    have hB2 := bl_call hB hb2 (Nat.le_refl _)
    go_roundw
    case rel => exact ⟨k + 1, by omega, by go_num, hB2, any_take_no Hx.out Hk.out HQ.out⟩
    case measure => simp [intOf]; omega
  obtain rfl : k = n := by omega
  go_wp2
  go_ret
  refine ⟨⟨_, rfl, ?_⟩, hB⟩
  have := Hk.out
  rw [List.take_of_length_le (by rw [Hn0.out]; exact Nat.le_refl _)] at this
  rw [Hid, this]; rfl
theorem containsM_any {S : Foot} {A : Option Addr} {n c : Nat} {xs : List Mark5} (p : Mark5 → Bool) (g : Nat) (lb : Array Value) (eg : ∀ args w, (callFunc g args).run Tryz.prog w = .ok (.enter g args) w) (w : World) (h : Marks S w A n xs)
  (hp : ∀ (k : Nat) (a z y : Int) (W : World), Below w.heap.size w W → Hid (xs[k]? = some ⟨a, z, y⟩) → Calls Tryz.prog g (#[.agg #[.int .i64 a, .int .i64 z, .int .i64 y]] ++ lb) W fun e W' => e = .returned (.bool (p ⟨a, z, y⟩)) ∧ Below W.heap.size W W') :
  Calls Tryz.prog 61 #[.slice A n c, .func (.func g) #[] lb] w fun e w' => e = .returned (.bool (xs.any p)) ∧ Below w.heap.size w w' := by
 have hle := h.le
 have HP := Lib.hid hp
 have HG := Lib.hid eg
 clear hp eg
 go_enter Tryz.func61, Tryz.ntmps61
 go_wp2_with (go_at_call 93; refine (indexM_any p g lb HG.out _ h HP.out).mono ?_; rintro e w' ⟨⟨r, rfl, Hr⟩, hb⟩)
 go_ret
 exact ⟨ret_bool Hr.out, hb⟩
set_option maxRecDepth 100000 in
set_option maxHeartbeats 1000000 in
theorem sagree_any {gC p : Nat} {lo hi x : Int} (hp : p < 8) (w : World) (hx : w.cell? ⟨gC, p, none⟩ = some (.int .i64 x)) :
  Calls Tryz.prog 62 #[.agg #[.int .i64 (p : Int), .int .i64 lo, .int .i64 hi], .pointer (some ⟨gC, 0, none⟩)] w fun e w' => e = .returned (.bool (outB lo hi x)) ∧ Below w.heap.size w w' := by
 obtain ⟨W0, hW⟩ : ∃ W, w.alloc (.cells #[.int .i64 (p : Int), .int .i64 lo, .int .i64 hi] 65) = W := ⟨_, rfl⟩
 have X : Blk W0 w.heap.size 65 #[.int .i64 (p : Int), .int .i64 lo, .int .i64 hi] := by rw [← hW]; exact Blk.new _ _ _ rfl
 have hBW : Below w.heap.size w W0 := by rw [← hW]; exact bl_alloc (Below.refl _ _) _ (Nat.le_refl _)
 have kk : Hid (∀ V, Below W0.heap.size W0 V → V.cell? ⟨w.heap.size, 0, none⟩ = some (.int .i64 (p : Int)) ∧ V.cell? ⟨w.heap.size, 1, none⟩ = some (.int .i64 lo) ∧ V.cell? ⟨w.heap.size, 2, none⟩ = some (.int .i64 hi) ∧ V.cell? ⟨gC, p, none⟩ = some (.int .i64 x)) := fun V hb =>
  ⟨(X.bl hb).cell 0, (X.bl hb).cell 1, (X.bl hb).cell 2, getc hb (getc hBW hx)⟩
 have hpi : (p : Int) < 8 := by omega
 have hxe : outB lo hi x = [x].any (outB lo hi) := by simp
 rw [hxe]
 have hp0 := (World.block_lt_of_cell? w _ hx)
 clear hx X hxe
 go_enter Tryz.func62, Tryz.ntmps62
 go_wp2_with fail
 clear hW
 refine wp_frame5 ?_
 intro a0 ha0
 have tb1 : a0.tmps[1]? = some (.pointer (some ⟨gC, 0, none⟩)) := by rw [ha0]; kernel_rfl
 have tb2 : a0.tmps[2]? = some (.pointer (some ⟨w.heap.size, 0, none⟩)) := by rw [ha0]; kernel_rfl
 have hsz : a0.tmps.size = 16 := by rw [ha0]; kernel_rfl
 refine wp_region_list (fun W => Below W0.heap.size W0 W) (fun w w' => Below w.heap.size w w')
  [isV (.pointer (some ⟨w.heap.size, 1, none⟩)), isV (.pointer (some ⟨w.heap.size, 1, none⟩)), isV (.int .i64 lo), isV (.pointer (some ⟨w.heap.size, 1, none⟩)), isV (.pointer (some ⟨w.heap.size, 2, none⟩)), isV (.int .i64 hi), isV (.pointer (some ⟨w.heap.size, 0, none⟩)), isV (.int .i64 (p : Int)), isV (.pointer (some ⟨gC, p, none⟩)), isV (.int .i64 x), IsIntsV W0.heap.size [x], isV (.bool ([x].any (outB lo hi)))]
  (by kernel_rfl) (by kernel_rfl) (by kernel_rfl) (by simp) (by simp) (Below.refl _ _).drew ?stabA ?stepA ?finA
 case stabA => exact (StabL.is (StabL.is (StabL.is (StabL.is (StabL.is (StabL.is (StabL.is (StabL.is (StabL.is (StabL.is (StabL.cons (fun v W V hC hX h => h.bl hX) (StabL.is StabL.nil))))))))))))
 case stepA =>
  refine StepsL.isA ?_ (StepsL.isA ?_ (StepsL.isA ?_ (StepsL.isA ?_ (StepsL.isA ?_ (StepsL.isA ?_ (StepsL.isA ?_ (StepsL.isA ?_ (StepsL.isA ?_ (StepsL.isA ?_ (StepsL.consA ?_ (StepsL.isA ?_ StepsL.nil)))))))))))
  all_goals intro vs a W K ha hC hD hU hK
  all_goals try rw [if_pos (by rfl)]
  ·have r2 := fb ha (by kernel_rfl) tb2
   clear ha hU hD ha0
   go_simp
   exact hK _ hC (Below.refl _ _)
  ·have r4 := fq 4 0 ha hsz (by kernel_rfl) (by decide) (hD 0 (by simp [waits, Region.binds]))
   clear ha hU hD ha0
   go_simp
   exact hK _ hC (Below.refl _ _)
  ·have r5 := fq 5 1 ha hsz (by kernel_rfl) (by decide) (hD 1 (by simp [waits, Region.binds]))
   clear ha hU hD ha0
   obtain ⟨k0, k1, k2, kx⟩ := kk.out W hC
   go_simp
   exact hK _ hC (Below.refl _ _)
  ·have r2 := fb ha (by kernel_rfl) tb2
   clear ha hU hD ha0
   go_simp
   exact hK _ hC (Below.refl _ _)
  ·have r7 := fq 7 3 ha hsz (by kernel_rfl) (by decide) (hD 3 (by simp [waits, Region.binds]))
   clear ha hU hD ha0
   go_simp
   exact hK _ hC (Below.refl _ _)
  ·have r8 := fq 8 4 ha hsz (by kernel_rfl) (by decide) (hD 4 (by simp [waits, Region.binds]))
   clear ha hU hD ha0
   obtain ⟨k0, k1, k2, kx⟩ := kk.out W hC
   go_simp
   exact hK _ hC (Below.refl _ _)
  ·have r2 := fb ha (by kernel_rfl) tb2
   clear ha hU hD ha0
   go_simp
   exact hK _ hC (Below.refl _ _)
  ·have r10 := fq 10 6 ha hsz (by kernel_rfl) (by decide) (hD 6 (by simp [waits, Region.binds]))
   clear ha hU hD ha0
   obtain ⟨k0, k1, k2, kx⟩ := kk.out W hC
   go_simp
   exact hK _ hC (Below.refl _ _)
  ·have r1 := fb ha (by kernel_rfl) tb1
   have r11 := fq 11 7 ha hsz (by kernel_rfl) (by decide) (hD 7 (by simp [waits, Region.binds]))
   clear ha hU hD ha0
   go_simp
   exact hK _ hC (Below.refl _ _)
  ·have r12 := fq 12 8 ha hsz (by kernel_rfl) (by decide) (hD 8 (by simp [waits, Region.binds]))
   clear ha hU hD ha0
   obtain ⟨k0, k1, k2, kx⟩ := kk.out W hC
   go_simp
   exact hK _ hC (Below.refl _ _)
  ·have r13 := fq 13 9 ha hsz (by kernel_rfl) (by decide) (hD 9 (by simp [waits, Region.binds]))
   clear ha hU hD ha0
   go_simp
   exact hK _ _ (bl_alloc hC _ (Nat.le_refl _)) (bl_alloc (Below.refl _ _) _ (Nat.le_refl _)) (IsIntsV.new [x] _ (by show 1 ≤ maxLen; decide) hC.size)
  have r6 := fq 6 2 ha hsz (by kernel_rfl) (by decide) (hD 2 (by simp [waits, Region.binds]))
  have r9 := fq 9 5 ha hsz (by kernel_rfl) (by decide) (hD 5 (by simp [waits, Region.binds]))
  have r14 := fg 14 10 ha hsz (by kernel_rfl) (by decide)
  have P10 : IsIntsV W0.heap.size [x] (vs 10) W := hD 10 (by simp [waits, Region.binds])
  obtain ⟨B14, d14, e14, hI14⟩ := P10
  rw [e14] at r14
  clear ha hU hD ha0
  go_simp
  refine (sout_any lo hi W hI14).mono ?_
  rintro e w' ⟨rfl, hb⟩
  exact hK _ (bl_call hC hb (Nat.le_refl _)) hb
 intro vs W hC hE hU
 rw [ha0]
 clear hU hsz tb1 tb2
 have e15 : vs 11 = .bool ([x].any (outB lo hi)) := hE 11 (by simp)
 simp only [fillA, Act.put, List.setIfInBounds_toArray, List.set_cons_zero, List.set_cons_succ, Nat.zero_add, Nat.reduceAdd, e15]
 generalize vs 0 = u0, vs 1 = u1, vs 2 = u2, vs 3 = u3, vs 4 = u4, vs 5 = u5, vs 6 = u6, vs 7 = u7, vs 8 = u8, vs 9 = u9, vs 10 = u10
 have HBW : Hid (Below w.heap.size w W) := bl_call hBW hC (Nat.le_refl _)
 clear hE e15 hC
 go_simp
 go_wp2
 go_ret
 exact ⟨ret_bool (by simp), HBW.out⟩
structure MarksOk (c : Case5) (l : List Mark5) : Prop where
 n : l.length ≤ 8
 each : ∀ x ∈ l, (0 ≤ x.point ∧ x.point < c.hts.length) ∧ (0 ≤ x.lo ∧ x.lo ≤ x.hi ∧ x.hi ≤ 100000)
set_option maxHeartbeats 1000000 in
theorem smark_any {gc n ca : Nat} {A : Option Addr} {a z y : Int} (w : World) (h3 : w.cell? ⟨gc, 3, none⟩ = some (.slice A n ca)) (hn : 1 ≤ n ∧ n ≤ 8) (ha : 0 ≤ a ∧ a < n) (hz : 0 ≤ z ∧ z ≤ y ∧ y ≤ 100000) :
  Calls Tryz.prog 58 #[.agg #[.int .i64 a, .int .i64 z, .int .i64 y], .pointer (some ⟨gc, 0, none⟩)] w fun e w' => e = .returned (.int .i64 0) ∧ Below w.heap.size w w' := by
 have e1 : outB 0 ((n : Int) - 1) a = false := by unfold outB; simp; omega
 have e2 : (outB 0 100000 z || outB 0 100000 y) = false := by unfold outB; simp; omega
 obtain ⟨W0, hW⟩ : ∃ W, w.alloc (.cells #[.int .i64 a, .int .i64 z, .int .i64 y] 65) = W := ⟨_, rfl⟩
 have X : Blk W0 w.heap.size 65 #[.int .i64 a, .int .i64 z, .int .i64 y] := by rw [← hW]; exact Blk.new _ _ _ rfl
 have hBW : Below w.heap.size w W0 := by rw [← hW]; exact bl_alloc (Below.refl _ _) _ (Nat.le_refl _)
 have kk : Hid (∀ V, Below W0.heap.size W0 V → V.cell? ⟨w.heap.size, 0, none⟩ = some (.int .i64 a) ∧ V.cell? ⟨w.heap.size, 1, none⟩ = some (.int .i64 z) ∧ V.cell? ⟨w.heap.size, 2, none⟩ = some (.int .i64 y) ∧ V.cell? ⟨gc, 3, none⟩ = some (.slice A n ca)) := fun V hb =>
  ⟨(X.bl hb).cell 0, (X.bl hb).cell 1, (X.bl hb).cell 2, getc hb (getc hBW h3)⟩
 have HE1 := Lib.hid e1
 have HE2 := Lib.hid e2
 obtain ⟨x0, x1, x2, x3⟩ := kk.out W0 (Below.refl _ _)
 have HBW := Lib.hid hBW
 clear X h3 e1 e2 hBW
 go_enter Tryz.func58, Tryz.ntmps58
 go_wp2_with fail
 refine (sout1 _ (newc rfl rfl) HE1.out).mono ?_
 rintro e w1 ⟨rfl, b1⟩
 have HB1 : Hid (Below W0.heap.size W0 w1) := bl_call (bl_alloc (Below.refl _ _) _ (Nat.le_refl _)) b1 (Nat.le_refl _)
 clear x0 x1 x2 x3 b1 hW
 obtain ⟨x0, x1, x2, x3⟩ := kk.out w1 HB1.out
 go_wp2_with fail
 refine (sout2 _ (newc rfl rfl) (newc rfl rfl) HE2.out).mono ?_
 rintro e w2 ⟨rfl, b2⟩
 have HB2 : Hid (Below W0.heap.size W0 w2) := bl_call (bl_alloc HB1.out _ (Nat.le_refl _)) b2 (Nat.le_refl _)
 clear x0 x1 x2 x3 b2
 obtain ⟨x0, x1, x2, x3⟩ := kk.out w2 HB2.out
 have HBE : Hid (Below w.heap.size w w2) := bl_call HBW.out HB2.out (Nat.le_refl _)
 go_wp2_with fail
 go_ret
 exact ⟨rfl, HBE.out⟩
open Go.RowKit Go.Shelf
attribute [local go_sem] Oper.semAt_some
theorem infoSc5 : (Tryz.prog.info? 42).map (fun i => (i.zero, i.size, i.bytes)) = some (some (.agg #[.int .i64 0, .int .i64 0]), 2, 16) := by kernel_rfl
theorem scales_len : scalesN.length ≤ 1000 := by decide +kernel
def agreeZ (c : Case5) (l : List Mark5) (z : Nat × Nat) : Bool := fits5 c (z.1, z.2) && marked c l z
def agreeF (c : Case5) (l : List Mark5) (i : Nat) : List (Nat × Nat) := (scalesN.take i).filter (agreeZ c l)
theorem agreeF_all (c : Case5) (l : List Mark5) : agreeF c l scalesN.length = scalesN.filter (agreeZ c l) := by unfold agreeF; rw [List.take_length]
theorem agreeF_yes {c : Case5} {l : List Mark5} {i : Nat} {z : Nat × Nat} (h : scalesN[i]? = some z) (hz : agreeZ c l z = true) : agreeF c l (i + 1) = agreeF c l i ++ [z] := by
 unfold agreeF; rw [take_snoc_get h, List.filter_append]; simp [hz]
theorem agreeF_no {c : Case5} {l : List Mark5} {i : Nat} {z : Nat × Nat} (h : scalesN[i]? = some z) (hz : agreeZ c l z = false) : agreeF c l (i + 1) = agreeF c l i := by
 unfold agreeF; rw [take_snoc_get h, List.filter_append]; simp [hz]
theorem agreeF_len (c : Case5) (l : List Mark5) (i : Nat) : (agreeF c l i).length ≤ 1000 := by
 have h1 := List.length_filter_le (agreeZ c l) (scalesN.take i)
 have h2 := List.length_take_le i scalesN
 have h3 := scales_len
 have h4 := List.length_take_le' i scalesN
 unfold agreeF
 omega
theorem setCell_noop5 {w : World} {g : Nat} {t : TypeId} {v : Value} (h : Blk w g t #[v]) : w.setCell ⟨g, 0, none⟩ v = w := by
 have hh : (w.setCell ⟨g, 0, none⟩ v).heap = w.heap := by
  apply Array.ext_getElem?
  intro k
  by_cases e : k = g
  ·subst e
   have h2 := h.set_ 0 v
   exact h2.trans h.symm
  exact Below.heap_setCell w ⟨g, 0, none⟩ v k e
 show ({ w with heap := (w.setCell ⟨g, 0, none⟩ v).heap } : World) = w
 rw [hh]
theorem eg_smark : Enters Tryz.prog 58 := enters_of Tryz.func58 (by kernel_rfl) rfl
theorem eg_sagree : Enters Tryz.prog 62 := enters_of Tryz.func62 (by kernel_rfl) rfl
theorem ret_sscales {tmps : Array Value} {g : Nat} {a : Option Addr} {n k : Nat} {e : Int} {w : World} (hp : tmps.getD 4 undef = .pointer (some ⟨g, 0, none⟩)) (hu : tmps.getD 5 undef = .int .i64 e)
  (h0 : w.cell? ⟨g, 0, none⟩ = some (.slice a n k)) : (results Tryz.f17 tmps).run Tryz.prog w = .ok (.tuple #[.slice a n k, .int .i64 e]) w := by
 rw [results_cell_tmp Tryz.results17, hp, hu]
 simp [go_sem, h0]
set_option maxRecDepth 100000 in
set_option maxHeartbeats 4000000 in
theorem sScales_any {c : Case5} {l : List Mark5} {A B L : Option Addr} {n ca m cb q cl : Nat} {kd ba mo : Int} (hok : Ok5 c) (hml : MarksOk c l) (w : World) (g : CaseAt (fun _ => True) w A n B m c) (gl : Marks (fun _ => True) w L q l) (h1 : c.kind = kd) (h2 : c.base = ba) (h3 : c.most = mo) :
  Calls Tryz.prog 17 #[.agg #[.int .i64 kd, .int .i64 ba, .int .i64 mo, .slice A n ca, .slice B m cb], .slice L q cl] w fun e w' => (∃ A' k c', e = .returned (.tuple #[.slice A' k c', .int .i64 0]) ∧ Pls (fun _ => True) w' A' k (scalesN.filter (agreeZ c l))) ∧ Below w.heap.size w w' := by
 have HOK := Lib.hid hok
 have HML := Lib.hid hml
 have hn8 : 1 ≤ n ∧ n ≤ 8 := by have := hok.nh; have := g.hs.len; omega
 have HNL : Hid (c.hts.length = n) := g.hs.len
 have hq8 : q ≤ 8 := by rw [← gl.len]; exact hml.n
 obtain ⟨iP, hiP, hzP0, hzP1, hzP2⟩ := info_parts infoSc5
 have HM : Hid (modelV c A n ca B m cb = .agg #[.int .i64 kd, .int .i64 ba, .int .i64 mo, .slice A n ca, .slice B m cb, .func (.func (roundF c.kind)) #[] #[]]) := by rw [Hid, modelV, h1, h2, h3]
 obtain ⟨fr, hfr⟩ : ∃ f, roundF c.kind = f := ⟨_, rfl⟩
 rw [hfr] at HM
 obtain ⟨W, hW⟩ : ∃ W, ((w.alloc (.cells #[.int .i64 kd, .int .i64 ba, .int .i64 mo, .slice A n ca, .slice B m cb] 25)).alloc (.cells #[.slice L q cl] 59)).alloc (.cells #[.slice none 0 0] 66) = W := ⟨_, rfl⟩
 have X : Blk W w.heap.size 25 #[.int .i64 kd, .int .i64 ba, .int .i64 mo, .slice A n ca, .slice B m cb] := by rw [← hW]; exact ((Blk.new _ _ _ rfl).alloc _).alloc _
 have Y : Blk W (w.heap.size + 1) 59 #[.slice L q cl] := by rw [← hW]; exact (Blk.new _ _ _ (by simp)).alloc _
 have E : Blk W (w.heap.size + 1 + 1) 66 #[.slice none 0 0] := by rw [← hW]; exact Blk.new _ _ _ (by simp)
 have hBW : Below w.heap.size w W := by rw [← hW]; exact bl_alloc (bl_alloc (bl_alloc (Below.refl _ _) _ (Nat.le_refl _)) _ (Nat.le_refl _)) _ (Nat.le_refl _)
 have HG : Hid (∀ V, Below w.heap.size w V → CaseAt (fun _ => True) V A n B m c) := fun V hb => g.bl hb
 have HGL : Hid (∀ V, Below w.heap.size w V → Marks (fun _ => True) V L q l) := fun V hb => gl.keep MarkR.good (Keeps.below hb)
 have x0 := X.cell 0
 have x1 := X.cell 1
 have x2 := X.cell 2
 have x3 := X.cell 3
 have x4 := X.cell 4
 have y0 := Y.cell 0
 have HX := Lib.hid X
 have HY := Lib.hid Y
 have HE := Lib.hid E
 have hXl := X.lt
 have hYl := Y.lt
 have hEl := E.lt
 clear g gl X Y E hok hml hfr
 refine (callsIn_wide (n := 1)).1 ?_
 refine callsIn_of_wp_marks Tryz.func17 rfl trivial ?_ rfl
 simp only [Tryz.ntmps17, List.size_toArray, List.length_cons, List.length_nil, Nat.reduceAdd, Nat.reduceSub, Array.replicate_succ, Array.replicate_zero, List.push_toArray, List.append_toArray, List.nil_append, List.cons_append]
 gi_wp2_with fail
 refine ⟨trivial, ?_⟩
 refine (callsIn_wide.2 (senter_any (L := none) (q := 0) (cl := 0) HOK.out (fun y hy => by cases hy) W (HG.out W hBW) (SliceOf.nil _ _ _ _ _) h1 h2 h3)).mono ?_
 rintro e V1 ⟨rfl, b1⟩
 rw [HM.out]
 have HB1 : Hid (Below W.heap.size W V1) := b1
 clear b1 x0 x1 x2 x3 x4 y0 hW
 obtain ⟨gM, hgM⟩ : ∃ g, V1.heap.size = g := ⟨_, rfl⟩
 obtain ⟨U0, hU0⟩ : ∃ U, V1.alloc (.cells #[.int .i64 kd, .int .i64 ba, .int .i64 mo, .slice A n ca, .slice B m cb, .func (.func fr) #[] #[]] 104) = U := ⟨_, rfl⟩
 have HBU0 : Hid (Below W.heap.size W U0) := by rw [Hid, ← hU0]; exact bl_alloc HB1.out _ (Nat.le_refl _)
 have MU0 : Hid (Blk U0 gM 104 #[.int .i64 kd, .int .i64 ba, .int .i64 mo, .slice A n ca, .slice B m cb, .func (.func fr) #[] #[]]) := by rw [Hid, ← hU0]; exact Blk.new _ _ _ hgM.symm
 have y0 := (HY.out.bl HBU0.out).cell 0
 gi_wp2_with fail
 refine ⟨trivial, ?_⟩
 refine (callsIn_wide.2 (sfirstM_any 58 #[.pointer (some ⟨w.heap.size, 0, none⟩)] eg_smark _ (HGL.out U0 (bl_call hBW HBU0.out (Nat.le_refl _))) ?hpm)).mono ?_
 case hpm =>
  intro k a z y V hb hk
  have hx := HML.out.each _ (List.mem_of_getElem? hk.out)
  exact smark_any V ((HX.out.bl (bl_call HBU0.out hb (Nat.le_refl _))).cell 3) hn8 ⟨hx.1.1, by have := hx.1.2; have := HNL.out; simp only at *; omega⟩ hx.2
 rintro e U1 ⟨rfl, b2⟩
 have HBU : Hid (Below W.heap.size W U1) := bl_call HBU0.out b2 (Nat.le_refl _)
 have MU : Hid (Blk U1 gM 104 #[.int .i64 kd, .int .i64 ba, .int .i64 mo, .slice A n ca, .slice B m cb, .func (.func fr) #[] #[]]) := MU0.out.bl b2
 clear b2 y0 HBU0 MU0 hU0
 gi_wp2_with fail
 refine ⟨trivial, ?_⟩
 refine (callsIn_wide.2 (sscales_any _)).mono ?_
 rintro e w' ⟨rfl, hw'⟩
 rw [hw']
 clear hw'
 have hsW := hBW.size
 have hsU := HBU.out.size
 have hgMs : W.heap.size ≤ gM := by rw [← hgM]; exact HB1.out.size
 have hgMl := MU.out.lt
 clear hgM
 gi_wp2_with fail
 obtain ⟨g3, hg3⟩ : ∃ g, w.heap.size + 1 = g := ⟨_, rfl⟩
 obtain ⟨g4, hg4⟩ : ∃ g, w.heap.size + 1 + 1 = g := ⟨_, rfl⟩
 have hg34 : g3 + 1 = g4 := by omega
 rw [hg4, hg3]
 rw [hg3] at HY hYl
 rw [hg4] at HE hEl
 have hg3w : w.heap.size + 1 ≤ g3 := by omega
 have HEU : Hid (Blk U1 g4 66 #[.slice none 0 0]) := HE.out.bl HBU.out
 have HYU : Hid (Blk U1 g3 59 #[.slice L q cl]) := HY.out.bl HBU.out
 have h3U : g3 < U1.heap.size := by omega
 have h4U : g4 < U1.heap.size := by omega
 clear hg3 hg4
 have hbig : ∀ {A : World}, Kept (fun k => k = g4 ∨ U1.heap.size ≤ k) U1 A → Below w.heap.size w A := fun hK => (bl_call hBW HBU.out (Nat.le_refl _)).trans (hK.below (by omega) (fun k h => by omega))
 have HOW0 : Hid (OwnL PlR 2 (fun _ => False) U1 W.heap.size 42 (.slice none 0 0) []) := OwnL.nil _ _ _ _ _ _
 refine rangeFunc_outer (m := 1) (gf := 91) (lb := #[]) rfl eg_scales scales_seq (fun _ => rfl) (fun k => k = g4) (fun i O A => ColSt PlR 2 A g4 66 W.heap.size 42 (agreeF c l i) O) (fun _ _ _ => False) (fun k h => by omega) (fun A hK => trivial) (fun i O A B h _ hK => h.stay PlR.good hK) (fun _ _ _ _ h _ _ => h) ⟨none, 0, HEU.out, HOW0.out, fun k => by simp [Value.ownBlock], by simp [Value.ownBlock]⟩ ?round ?done (fun _ _ _ _ h _ _ _ _ _ => h.elim)
 case round =>
  intro l' i x O A1 hx hj hlt hsub hK hnl hlA hWl
  have hxz : x ∈ scalesN := List.mem_of_getElem? hx
  obtain ⟨za, hza⟩ : ∃ a, x.1 = a := ⟨_, rfl⟩
  obtain ⟨zb, hzb⟩ : ∃ a, x.2 = a := ⟨_, rfl⟩
  obtain rfl : x = (za, zb) := Prod.ext hza hzb
  have HX' := Lib.hid hx
  have HXZ := Lib.hid hxz
  have HJ := Lib.hid hj
  have HK := Lib.hid hK
  clear hx hxz hj hK hza hzb
  have hzv : zV (za, zb) = .agg #[.int .i64 (za : Int), .int .i64 (zb : Int)] := rfl
  rw [fold1, hzv]
  dsimp only
  simp only [List.setIfInBounds_toArray]
  try simp only [List.set_cons_zero, List.set_cons_succ]
  clear hzv
  gi_wp2
  refine ⟨Kept.alloc _ _ _, fun A2 hK2 hs2' r2 hr2 => ?_⟩
  clear hr2
  try simp only [World.size_alloc] at hs2'
  have hs2a : A1.heap.size + 1 ≤ A2.heap.size := by omega
  have hs2b : A2.heap.size ≤ A1.heap.size + 1 := by omega
  clear hs2'
  have kA : Kept (fun k => k = l') A1 A2 := (Kept.alloc (fun k => k = l') A1 (.cells #[.int .i64 (za : Int), .int .i64 (zb : Int)] 42)).trans hK2
  have hS2 : Blk A2 A1.heap.size 42 #[.int .i64 (za : Int), .int .i64 (zb : Int)] := (hK2.block A1.heap.size (by simp) (by omega)).trans (Blk.new _ _ _ rfl)
  have hK3 : Kept (fun k => k = g4 ∨ U1.heap.size ≤ k) U1 A2 := HK.out.seq kA (fun k _ h => .inr (h ▸ hWl))
  have HJ2 : Hid (ColSt PlR 2 A2 g4 66 W.heap.size 42 (agreeF c l i) O) := HJ.out.stay PlR.good (kA.mono fun k _ h hO => hnl (h ▸ hO))
  have hM2 : Blk A2 gM 104 #[.int .i64 kd, .int .i64 ba, .int .i64 mo, .slice A n ca, .slice B m cb, .func (.func fr) #[] #[]] := (hK3.block _ hgMl (by omega)).trans MU.out
  have hY2 : Blk A2 g3 59 #[.slice L q cl] := (hK3.block _ h3U (by omega)).trans HYU.out
  have hUA2 : U1.heap.size ≤ A2.heap.size := hK3.size
  have hA2w := hbig hK3
  have HA2W := Lib.hid hA2w
  obtain ⟨gS, hgS⟩ : ∃ g, A1.heap.size = g := ⟨_, rfl⟩
  rw [hgS] at hS2 hs2a hs2b
  rw [hgS]
  have HGS := Lib.hid hgS
  have HY2 := Lib.hid hY2
  have HM2 := Lib.hid hM2
  have HS2 := Lib.hid hS2
  have m0 := hM2.cell 0
  have m1 := hM2.cell 1
  have m2 := hM2.cell 2
  have m3 := hM2.cell 3
  have m4 := hM2.cell 4
  have m5 := hM2.cell 5
  have s0 := hS2.cell 0
  have s1 := hS2.cell 1
  clear hK2 hK3 kA hM2 hS2 hY2 hA2w hgS
  gi_wp2_with fail
  refine ⟨trivial, ?_⟩
  have hcut := scut_any HOK.out HXZ.out A2 (HG.out A2 HA2W.out) (ca := ca) (cb := cb)
  rw [HM.out] at hcut
  refine (CallsIn.inRound l' (callsIn_wide.2 hcut)).mono ?_
  rintro e V2 ⟨rfl, b2⟩
  obtain ⟨v0, v1, v2, v3, v4, v5, v6, v7, hv⟩ := cutV_8 (cut5 c (za, zb))
  have HVI : Hid (∀ k, k < 8 → (#[.int .i64 v0, .int .i64 v1, .int .i64 v2, .int .i64 v3, .int .i64 v4, .int .i64 v5, .int .i64 v6, .int .i64 v7] : Array Value)[k]? = some (.int .i64 ((cut5 c (za, zb)).getD k 0))) := fun k hk => by
   have h := hv
   unfold cutV at h
   injection h with h
   rw [← h, List.getElem?_toArray, List.getElem?_map, List.getElem?_range hk]; rfl
  rw [hv]
  have HC2 : Hid (Below A2.heap.size A2 V2) := b2
  clear b2 hcut hv m0 m1 m2 m3 m4 m5 s0 s1
  obtain ⟨fb, hfb⟩ : ∃ x, fits5 c ((((za, zb) : Nat × Nat).1 : Int), (((za, zb) : Nat × Nat).2 : Int)) = x := ⟨_, rfl⟩
  rw [hfb]
  obtain ⟨mb, hmb⟩ : ∃ x, (l.any fun x => outB x.lo x.hi ((cut5 c (za, zb)).getD x.point.toNat 0)) = x := ⟨_, rfl⟩
  have HMB := Lib.hid hmb
  have HFB : Hid (agreeZ c l (za, zb) = (fb && !mb)) := by rw [Hid, ← hfb, ← hmb]; rfl
  clear hfb hmb
  obtain ⟨gC, hgC⟩ : ∃ g, V2.heap.size = g := ⟨_, rfl⟩
  obtain ⟨U2, hU2⟩ : ∃ U, V2.alloc (.cells #[.int .i64 v0, .int .i64 v1, .int .i64 v2, .int .i64 v3, .int .i64 v4, .int .i64 v5, .int .i64 v6, .int .i64 v7] 108) = U := ⟨_, rfl⟩
  have HBV : Hid (Below A2.heap.size A2 U2) := by rw [Hid, ← hU2]; exact bl_alloc HC2.out _ (Nat.le_refl _)
  have CU : Hid (Blk U2 gC 108 #[.int .i64 v0, .int .i64 v1, .int .i64 v2, .int .i64 v3, .int .i64 v4, .int .i64 v5, .int .i64 v6, .int .i64 v7]) := by rw [Hid, ← hU2]; exact Blk.new _ _ _ hgC.symm
  have y0 := (HY2.out.bl HBV.out).cell 0
  have HBW2 : Hid (Below w.heap.size w U2) := bl_call HA2W.out HBV.out (by have := HA2W.out.size; omega)
  have hsU2 : A2.heap.size ≤ U2.heap.size := HBV.out.size
  have hwA2 : w.heap.size ≤ A2.heap.size := HA2W.out.size
  have HNO : Hid (∀ V, Below U2.heap.size U2 V → agreeZ c l (za, zb) = false → Kept O A2 V ∧ ∃ O' : Foot, (∀ k, O' k → O k ∨ (A1.heap.size ≤ k ∧ k < V.heap.size)) ∧ ColSt PlR 2 V g4 66 W.heap.size 42 (agreeF c l (i + 1)) O') := by
   intro V hb hf
   have hbV : Below A2.heap.size A2 V := bl_call HBV.out hb (Nat.le_refl _)
   refine ⟨Kept.of_bl hbV, O, fun k h => .inl h, ?_⟩
   rw [agreeF_no HX'.out hf]
   exact HJ2.out.stay PlR.good (Kept.of_bl hbV)
  have HHAS : Hid (∀ V, V = U2 → Calls Tryz.prog 61 #[.slice L q cl, .func (.func 62) #[] #[.pointer (some ⟨gC, 0, none⟩)]] V fun e w' => e = .returned (.bool mb) ∧ Below V.heap.size V w') := by
   rintro V rfl
   have h := containsM_any (c := cl) (fun x => outB x.lo x.hi ((cut5 c (za, zb)).getD x.point.toNat 0)) 62 #[.pointer (some ⟨gC, 0, none⟩)] eg_sagree V (HGL.out V HBW2.out) (fun k a z y V' hb hk => ?_)
   ·rwa [HMB.out] at h
   have hx := HML.out.each _ (List.mem_of_getElem? hk.out)
   obtain ⟨p, rfl⟩ : ∃ p : Nat, a = p := ⟨a.toNat, by have := hx.1.1; simp only at *; omega⟩
   have hp8 : p < 8 := by have := hx.1.2; have := HNL.out; simp only at *; omega
   have h := sagree_any (lo := z) (hi := y) hp8 V' (((CU.out.bl hb).cell p).trans (HVI.out p hp8))
   exact h
  by_cases hf0 : fb = true
  ·subst hf0
   gi_wp2_with fail
   refine ⟨trivial, ?_⟩
   refine (CallsIn.inRound l' (callsIn_wide.2 (HHAS.out U2 rfl))).mono ?_
   rintro e V3 ⟨rfl, b3⟩
   have HB3' := Lib.hid b3
   clear b3 y0 hU2 hgC HHAS
   cases hmc : mb with
   | true =>
    have HNN := Lib.hid (HNO.out V3 HB3'.out (by rw [HFB.out, hmc]; rfl))
    clear HNO hmc
    gi_wp2_with fail
    exact HNN.out
   | false =>
    have HYE : Hid (agreeF c l (i + 1) = agreeF c l i ++ [(za, zb)]) := agreeF_yes HX'.out (by rw [HFB.out, hmc]; rfl)
    clear HNO hmc
    have hbV : Below A2.heap.size A2 V3 := bl_call HBV.out HB3'.out (Nat.le_refl _)
    have HBV3 := Lib.hid hbV
    have hj3 : ColSt PlR 2 V3 g4 66 W.heap.size 42 (agreeF c l i) O := HJ2.out.stay PlR.good (Kept.of_bl hbV)
    obtain ⟨Ad, cap, hB, hO, hOO, hne⟩ := hj3.st
    have hlen := agreeF_len c l i
    obtain ⟨kl, hkl⟩ : ∃ k, (agreeF c l i).length = k := ⟨_, rfl⟩
    rw [hkl] at hB hO hOO hne hlen
    have HKL := Lib.hid hkl
    have SV3 := HS2.out.bl hbV
    have s0 := SV3.cell 0
    have s1 := SV3.cell 1
    have hc := hB.cell 0
    have hgl := hB.lt
    have hOO' := Lib.hid hOO
    have hne' := Lib.hid hne
    have HO := Lib.hid hO
    have HB := Lib.hid hB
    have hs3 : A2.heap.size ≤ V3.heap.size := hbV.size
    clear hbV hj3 hB hO hOO hne hkl SV3
    gi_wp2_with (gi_at_builtin; refine wpListIn_append_n _ rfl (.tmp 47) (.tmp 49) _ rfl PlR.good W.heap.size 42 iP _ 16 Tryz.underlying66 hiP hzP0 hzP1 hzP2 rfl (by omega) _ (agreeF c l i) (za, zb) kl HKL.out rfl (HO.out.alloc PlR.good _) ⟨_, 0, none⟩ 1 [.int .i64 (za : Int), .int .i64 (zb : Int)] rfl rfl (news_new rfl rfl) ?c1 ?c2 ?c3 (fun h => h) ?_)
    case c1 => simp only [maxLen]; omega
    case c2 => omega
    case c3 => simp; omega
    intro A3 cap3 w3 hO3 hg3 hat3
    have hBg : Blk w3 g4 66 #[.slice Ad kl cap] := (HB.out.alloc _).grown hg3 (Ne.symm hne'.out)
    have hgc := hBg.cell 0
    have hgf := hBg.frozen 0
    have hgl3 := hBg.lt
    have hA3l : A3 < w3.heap.size := (OwnL.block hO3 A3 rfl).2
    have hA3b : W.heap.size ≤ A3 := (OwnL.block hO3 A3 rfl).1
    have hne3 : A3 ≠ g4 := by omega
    have hs3b : V3.heap.size + 1 ≤ w3.heap.size := by have := hg3.size; simpa using this
    have hat4 : (Value.slice Ad kl cap).ownBlock = some A3 ∨ A3 = V3.heap.size + 1 := hat3.imp id (fun h => by simpa using h)
    have hke : Kept O A2 (w3.setCell ⟨g4, 0, none⟩ (.slice (some ⟨A3, 0, none⟩) (kl + 1) cap3)) :=
     (((Kept.of_bl HBV3.out).trans (Kept.alloc _ _ _)).trans (Kept.grown hg3 (fun k hk => (hOO'.out k).2 (.inr hk)))).trans (Kept.setCell _ _ _ ((hOO'.out _).2 (.inl rfl)))
    have hfin : ColSt PlR 2 (w3.setCell ⟨g4, 0, none⟩ (.slice (some ⟨A3, 0, none⟩) (kl + 1) cap3)) g4 66 W.heap.size 42 (agreeF c l (i + 1)) (fun k => k = g4 ∨ A3 = k) := by
     rw [HYE.out]
     refine ⟨some ⟨A3, 0, none⟩, cap3, ?_, ?_, fun k => by simp [Value.ownBlock], by simp [Value.ownBlock]; exact hne3⟩
     ·rw [List.length_append, HKL.out]; exact hBg.set_ 0 _
     rw [List.length_append, HKL.out]
     exact hO3.keep PlR.good (Keeps.setCell _ _ _ (fun h => h.elim (fun h => h) (fun h => hne3 (by simpa [Value.ownBlock] using h))))
    have HFO : Hid (∀ k, (k = g4 ∨ A3 = k) → O k ∨ (A1.heap.size ≤ k ∧ k < (w3.setCell ⟨g4, 0, none⟩ (.slice (some ⟨A3, 0, none⟩) (kl + 1) cap3)).heap.size)) := by
     rintro k (rfl | rfl)
     ·exact .inl ((hOO'.out _).2 (.inl rfl))
     rcases hat4 with h | h
     ·exact .inl ((hOO'.out _).2 (.inr h))
     refine .inr ⟨by have := HGS.out; omega, ?_⟩
     simpa [World.setCell] using hA3l
    have HKE := Lib.hid hke
    have HFIN := Lib.hid hfin
    clear hke hfin hO3 hg3 hc hat3 hat4 hA3b hBg HO HB s0 s1
    gi_wp2_with fail
    exact ⟨HKE.out, _, HFO.out, HFIN.out⟩
  obtain rfl : fb = false := by simpa using hf0
  have HNN := Lib.hid (HNO.out U2 (Below.refl _ _) (by rw [HFB.out]; rfl))
  clear HNO HHAS
  gi_wp2_with fail
  refine ⟨trivial, ?_⟩
  gi_wp2
  exact HNN.out
 rintro O W' D hj hOs hK hD hnD hDb
 rw [agreeF_all] at hj
 obtain ⟨Ad, cap, hB, hO, hOO, hne⟩ := hj.st
 have hBel := hbig hK
 have HBEL := Lib.hid hBel
 have hlen : (scalesN.filter (agreeZ c l)).length ≤ 1000 := by rw [← agreeF_all]; exact agreeF_len c l _
 obtain ⟨kl, hkl⟩ : ∃ k, (scalesN.filter (agreeZ c l)).length = k := ⟨_, rfl⟩
 rw [hkl] at hB hO hOO hne hlen
 have hO9 : OwnL PlR 2 (fun _ => False) (W'.putObj D (.deferred none)) W.heap.size 42 (.slice Ad kl cap) (scalesN.filter (agreeZ c l)) := hO.keep PlR.good ⟨by simp, fun k hk _ => World.putObj_heap_other (show k ≠ D from fun e => hnD (e ▸ (hOO k).2 (.inr (hk.elim (fun h => h.elim) id))))⟩
 have HR : Hid (Pls (fun _ => True) (W'.putObj D (.deferred none)) Ad kl (scalesN.filter (agreeZ c l))) := hO9.slice (T := fun _ => True) PlR.good rfl (by simp only [maxLen]; omega) (fun _ h => h.elim) (fun _ _ _ => trivial)
 have HC9 : Hid (Blk (W'.putObj D (.deferred none)) g4 66 #[.slice Ad kl cap]) := (World.putObj_heap_other (show g4 ≠ D from fun e => hnD (e ▸ (hOO _).2 (.inl rfl)))).trans hB
 have HN4 : Hid (g4 ≠ D) := fun e => hnD (e ▸ (hOO _).2 (.inl rfl))
 have HB := Lib.hid hB
 have HDB := Lib.hid hDb
 have s4 := setCell_noop5 hB
 have c4 := hB.cell 0
 have f4 := hB.frozen 0
 have l4 := hB.lt
 have hwg : w.heap.size ≤ D := by omega
 clear hO9 hBel hB hO hOO hne hK hOs hj hDb hkl
 gi_wp2
 refine ⟨by simp, .inl ⟨_, _, rfl, run_takeDeferred HDB.out, ?_⟩⟩
 refine ⟨_, ret_sscales rfl rfl (HC9.out.cell 0), ⟨Ad, kl, cap, rfl, HR.out⟩, bl_put5 HBEL.out hwg _⟩
end Go.Proofs.YtcnebekkbfajbaaGreat
