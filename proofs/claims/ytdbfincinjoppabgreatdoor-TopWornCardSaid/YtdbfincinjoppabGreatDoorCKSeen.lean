/- A part of the proof that TopWorn always answers true. -/
import Derived.Laws.EntriesVeiled
import Derived.RangeFuncKeeps
import Derived.OwnWalkIn
import Derived.TacticsInMore
import Derived.LoopNIn
import Derived.LoopIn
import Derived.Test.YtdbfincinjoppabGreatDoorCIter
import Derived.Test.YtdbfincinjoppabGreatDoorCIter3
import Derived.Test.YtdbfincinjoppabGreatDoorCKCheck
import Derived.Test.YtdbfincinjoppabGreatDoorCRegion
set_option linter.all false
namespace Go.Proofs.YtdbfincinjoppabGreatDoor
open Go.RowKit Go.Shelf
theorem there_no {s : Shop} {m c : Int} (h : outB 0 ((s.moulds.length : Int) - 1) m = true) : (!there7 s m c) = true := by
 rw [outB_inB] at h
 unfold there7
 simp at h
 simp [h]
theorem there_at {s : Shop} {j : Nat} {x : Mould} {c : Int} (hx : s.moulds[j]? = some x) : (!there7 s (j : Int) c) = outB 0 (x.casts - 1) c := by
 have hj := (List.getElem?_eq_some_iff.1 hx).1
 unfold there7
 have h1 : inB (j : Int) 0 ((s.moulds.length : Int) - 1) = true := by simp [inB]; omega
 rw [h1, Int.toNat_natCast, getD_of hx, outB_inB, Bool.true_and]
set_option maxHeartbeats 2000000 in
theorem knone_any {A : Option Addr} {n ca : Nat} {s : Shop} {klo khi : Int} (hk : OkS s) (m c : Int) (w : World) (g : Moulds (fun _ => True) w A n s.moulds) :
  Calls Tryz.prog 35 #[.agg #[.int .i64 klo, .int .i64 khi, .slice A n ca], .int .i64 m, .int .i64 c] w fun e w' => e = .returned (.bool (!there7 s m c)) ∧ Below w.heap.size w w' := by
 have hle := g.le
 have Hn := Lib.hid g.len
 have hn4 : 1 ≤ n ∧ n ≤ 4 := by have := hk.nm; have := g.len; omega
 obtain ⟨W, hW⟩ : ∃ W, w.alloc (.cells #[.int .i64 klo, .int .i64 khi, .slice A n ca] 26) = W := ⟨_, rfl⟩
 have X : Blk W w.heap.size 26 #[.int .i64 klo, .int .i64 khi, .slice A n ca] := by rw [← hW]; exact Blk.new _ _ _ rfl
 have hBW : Below w.heap.size w W := by rw [← hW]; exact bl_alloc (Below.refl _ _) _ (Nat.le_refl _)
 have hc := g.keep MouldR.good (Keeps.below hBW)
 have HWs : Hid (w.heap.size + 1 = W.heap.size) := by rw [Hid, ← hW]; simp
 have HW := Lib.hid hW
 have HX := Lib.hid X
 have x2 := X.cell 2
 have HK := Lib.hid hk
 clear hW g X hk
 have hwn : IntKind.i64.wrap ((n : Int) - 1) = (n : Int) - 1 := by rw [IntKind.wrap_i64]; omega
 go_enter Tryz.func35, Tryz.ntmps35
 go_wp2_with fail
 rw [HW.out]
 cases o1 : outB 0 ((n : Int) - 1) m
 ·go_wp2_with fail
  refine (kout1 _ (by exact newc rfl HWs.out) o1).mono ?_
  rintro e W1 ⟨rfl, c1⟩
  have b1 : Below W.heap.size W W1 := bl_call (bl_alloc (Below.refl _ _) _ (Nat.le_refl _)) c1 (Nat.le_refl _)
  obtain ⟨hm0, hm1⟩ := outB_iff.1 o1
  obtain ⟨j, rfl⟩ : ∃ j : Nat, m = (j : Int) := ⟨m.toNat, by omega⟩
  have hjn : j < n := by omega
  obtain ⟨b, off, sn, a, z, y, u, c5, rfl, hb0, hc0, hc1, hc2, hc3, hc4, hc5, hs, Hx⟩ := Moulds.get (hc.keep MouldR.good (Keeps.below b1)) hjn
  have hz := (mouldE_zero Hx.out (HK.out.mould (by rw [Hn.out]; exact hjn))).2.2
  dsimp only at hz
  have hw5 : IntKind.i64.wrap (c5 - 1) = c5 - 1 := by rw [IntKind.wrap_i64]; omega
  have hji : (j : Int) < n := by omega
  have HT : Hid ((!there7 s (j : Int) c) = outB 0 (c5 - 1) c) := there_at Hx.out
  obtain ⟨ob, hob⟩ : ∃ ob, outB 0 (c5 - 1) c = ob := ⟨_, rfl⟩
  have HT2 : Hid ((!there7 s (j : Int) c) = ob) := by rw [Hid, HT.out, hob]
  have x2 := (HX.out.bl b1).cell 2
  clear c1 o1 hm0 hm1 hz hc0 hc1 hc2 hc3 hc4
  go_wp2_with fail
  refine (kout1 _ (by exact newc rfl rfl) hob).mono ?_
  rintro e W2 ⟨rfl, c2⟩
  have b2 : Below W.heap.size W W2 := bl_call (bl_alloc b1 _ (Nat.le_refl _)) c2 (Nat.le_refl _)
  clear hob c2 x2 hc5
  go_wp2
  go_ret
  exact ⟨ret_bool HT2.out.symm, bl_call hBW b2 (Nat.le_refl _)⟩
 have HT : Hid ((!there7 s m c) = true) := there_no (by rw [Hn.out]; exact o1)
 go_wp2_with fail
 refine (kout1 _ (by exact newc rfl HWs.out) o1).mono ?_
 rintro e W1 ⟨rfl, c1⟩
 have b1 : Below W.heap.size W W1 := bl_call (bl_alloc (Below.refl _ _) _ (Nat.le_refl _)) c1 (Nat.le_refl _)
 clear o1 c1
 go_wp2
 go_ret
 exact ⟨ret_bool HT.out.symm, bl_call hBW b1 (Nat.le_refl _)⟩
set_option maxHeartbeats 2000000 in
theorem kseen1_any {A : Option Addr} {n ca : Nat} {s : Shop} {l : List SeenC} {klo khi : Int} (hk : OkS s) (gs k : Nat) (a z y u : Int) (w : World) (g : Moulds (fun _ => True) w A n s.moulds) (hb : Blk w gs 26 #[.int .i64 klo, .int .i64 khi, .slice A n ca]) (hx : Hid (l[k]? = some ⟨a, z, y, u⟩)) :
  Calls Tryz.prog 94 #[.int .i64 k, .agg #[.int .i64 a, .int .i64 z, .int .i64 y, .int .i64 u], .pointer (some ⟨gs, 0, none⟩)] w fun e w' => e = .returned (.int .i64 (seenE7 s l k)) ∧ Below w.heap.size w w' := by
 obtain ⟨W, hW⟩ : ∃ W, w.alloc (.cells #[.int .i64 a, .int .i64 z, .int .i64 y, .int .i64 u] 109) = W := ⟨_, rfl⟩
 have X : Blk W w.heap.size 109 #[.int .i64 a, .int .i64 z, .int .i64 y, .int .i64 u] := by rw [← hW]; exact Blk.new _ _ _ rfl
 have hBW : Below w.heap.size w W := by rw [← hW]; exact bl_alloc (Below.refl _ _) _ (Nat.le_refl _)
 have hc := g.keep MouldR.good (Keeps.below hBW)
 have Y := hb.bl hBW
 have HW := Lib.hid hW
 have HX := Lib.hid X
 have y0 := oldc (o := .cells #[.int .i64 a, .int .i64 z, .int .i64 y, .int .i64 u] 109) (hb.cell 0)
 have y1 := oldc (o := .cells #[.int .i64 a, .int .i64 z, .int .i64 y, .int .i64 u] 109) (hb.cell 1)
 have y2 := oldc (o := .cells #[.int .i64 a, .int .i64 z, .int .i64 y, .int .i64 u] 109) (hb.cell 2)
 have HE : Hid (seenE7 s l k = if (!there7 s a z) = true then 4 else rangeE ⟨y, u⟩ 0 20000) := by
  rw [Hid, seenE7, getD_of hx.out]
 clear hW g X Y hb hx
 go_enter Tryz.func94, Tryz.ntmps94
 go_wp2_with fail
 rw [HW.out]
 refine (knone_any hk a z _ hc).mono ?_
 rintro e W1 ⟨rfl, b1⟩
 clear y0 y1 y2
 obtain ⟨tb, htb⟩ : ∃ tb, (!there7 s a z) = tb := ⟨_, rfl⟩
 rw [htb]
 cases tb with
 | true =>
  have HE2 : Hid (seenE7 s l k = 4) := by rw [Hid, HE.out, if_pos htb]
  clear htb
  go_wp2
  go_ret
  exact ⟨by rw [HE2.out]; rfl, bl_call hBW b1 (Nat.le_refl _)⟩
 | false =>
  have HE2 : Hid (seenE7 s l k = rangeE ⟨y, u⟩ 0 20000) := by rw [Hid, HE.out, if_neg (by rw [htb]; decide)]
  have x2 := (HX.out.bl b1).cell 2
  have x3 := (HX.out.bl b1).cell 3
  clear htb
  go_wp2_with fail
  refine (ksize_any y u _).mono ?_
  rintro e W2 ⟨rfl, c2⟩
  have b2 := bl_call b1 c2 (Nat.le_refl _)
  clear x2 x3
  go_wp2
  go_ret
  exact ⟨by rw [HE2.out]; rfl, bl_call hBW b2 (Nat.le_refl _)⟩
set_option maxHeartbeats 2000000 in
theorem kseen_any {A C : Option Addr} {n ca q cc : Nat} {s : Shop} {l : List SeenC} {klo khi : Int} (w : World) (g : Moulds (fun _ => True) w A n s.moulds) (gs : SeenCs (fun _ => True) w C q l) (hca : n ≤ ca) (h1 : s.klo = klo) (h2 : s.khi = khi) :
  Calls Tryz.prog 62 #[.agg #[.int .i64 klo, .int .i64 khi, .slice A n ca], .slice C q cc] w fun e w' => e = .returned (.tuple #[.int .i64 (seen7 s l).1, .int .i64 (seen7 s l).2]) ∧ Below w.heap.size w w' := by
 have hlq := gs.le
 have Hq := Lib.hid gs.len
 obtain ⟨W, hW⟩ : ∃ W, w.alloc (.cells #[.int .i64 klo, .int .i64 khi, .slice A n ca] 26) = W := ⟨_, rfl⟩
 have X : Blk W w.heap.size 26 #[.int .i64 klo, .int .i64 khi, .slice A n ca] := by rw [← hW]; exact Blk.new _ _ _ rfl
 have hBW : Below w.heap.size w W := by rw [← hW]; exact bl_alloc (Below.refl _ _) _ (Nat.le_refl _)
 have hc := g.keep MouldR.good (Keeps.below hBW)
 have hsn := gs.keep SeenCR.good (Keeps.below hBW)
 have HW := Lib.hid hW
 have HX := Lib.hid X
 clear hW g X gs
 go_enter Tryz.func62, Tryz.ntmps62
 go_wp2_with fail
 rw [HW.out]
 refine (kcheck_any W hc hca h1 h2).mono ?_
 rintro e W1 ⟨rfl, b1⟩
 by_cases he : (check7 s).2.2 = 0
 ·have heb : ((check7 s).2.2 != 0) = false := by rw [he]; rfl
  have he' : err7 s = 0 := he
  have HOK : Hid (OkS s) := okS_of he
  by_cases h6 : 6 < q
  ·have HC : Hid (seen7 s l = (0, 3)) := seen7_long he' (by rw [Hq.out]; exact h6)
   have h6i : (q : Int) > 6 := by omega
   clear he he'
   go_wp2
   go_ret2
   exact ⟨by rw [HC.out]; rfl, bl_call hBW b1 (Nat.le_refl _)⟩
  have hC : seen7 s l = _ := seen7_n he' (by rw [Hq.out]; exact h6)
  rw [Hq.out] at hC
  have HC := Lib.hid hC
  have h6i : ¬ (q : Int) > 6 := by omega
  clear he he' hC
  go_wp2_with fail
  refine (kfirstS_any (seenE7 s l) 94 #[.pointer (some ⟨w.heap.size, 0, none⟩)] eg_KS _ (hsn.keep SeenCR.good (Keeps.below b1)) (fun k a z y u V hV hx => by
   have hVW : Below W.heap.size W V := bl_call b1 hV (Nat.le_refl _)
   exact kseen1_any HOK.out w.heap.size k a z y u V (hc.keep MouldR.good (Keeps.below hVW)) (HX.out.bl hVW) hx)).mono ?_
  rintro e W2 ⟨rfl, c2⟩
  have b2 := bl_call b1 c2 (Nat.le_refl _)
  have HP : Hid (seen7 s l = firstP (seenE7 s l) q) := HC.out
  clear c2
  go_wp2
  go_ret2
  exact ⟨by rw [HP.out]; rfl, bl_call hBW b2 (Nat.le_refl _)⟩
 have HC : Hid (seen7 s l = (0, (check7 s).2.2)) := seen7_bad he
 have heb : ((check7 s).2.2 != 0) = true := by simpa using he
 clear he
 go_wp2
 go_ret2
 exact ⟨by rw [HC.out]; rfl, bl_call hBW b1 (Nat.le_refl _)⟩
open Go.RowKit Go.Shelf
attribute [local go_sem] Oper.semAt_some
set_option maxHeartbeats 1000000 in
theorem kmade_any {a w k c : Int} (h1 : 1 ≤ a ∧ a ≤ 20000) (h2 : 0 ≤ w ∧ w ≤ 20) (h3 : 0 ≤ c ∧ c ≤ 8) (h4 : 0 ≤ k ∧ k ≤ 100) (W : World) :
  Calls Tryz.prog 65 #[.agg #[.int .i64 a, .int .i64 w, .int .i64 k], .int .i64 c] W fun e W' => e = .returned (.int .i64 (made7 a w c k)) ∧ Below W.heap.size W W' := by
 obtain ⟨q1, q2, q3, q4, q5, q6⟩ := made7_bd h1 h2 h3 h4
 have HM : Hid (made7 a w c k = (a + w * c) - ((a + w * c) * k).tdiv 1000) := rfl
 have hx1 : IntKind.i64.wrap (w * c) = w * c := by rw [IntKind.wrap_i64]; omega
 obtain ⟨n, hn⟩ : ∃ n, a + w * c = n := ⟨_, rfl⟩
 have hx2 : IntKind.i64.wrap (a + w * c) = n := by rw [hn, IntKind.wrap_i64]; omega
 rw [hn] at q3 q4
 have hx3 : IntKind.i64.wrap (n * k) = n * k := by rw [IntKind.wrap_i64]; omega
 obtain ⟨d, hd⟩ : ∃ d, (n * k).tdiv 1000 = d := ⟨_, rfl⟩
 have hd2 : (n * k) / 1000 = d := by rw [← hd, Int.tdiv_eq_ediv_of_nonneg q3]
 have hx4 : IntKind.i64.wrap ((n * k).tdiv 1000) = d := by rw [hd, IntKind.wrap_i64]; omega
 have hx5 : IntKind.i64.wrap (n - d) = n - d := by rw [IntKind.wrap_i64]; omega
 have HM2 : Hid (made7 a w c k = n - d) := by rw [Hid, HM.out, hn, hd]
 clear hn q1 q2 q3 q4 q5 q6 hd hd2 h1 h2 h3 h4
 go_enter Tryz.func65, Tryz.ntmps65
 go_wp2
 go_ret
 exact ⟨by rw [HM2.out]; rfl, bl_alloc (Below.refl _ _) _ (Nat.le_refl _)⟩
def OneI (B : Nat) (x : Int) (v : Value) (W : World) : Prop := ∃ g, B ≤ g ∧ v = .slice (some ⟨g, 0, none⟩) 1 1 ∧ Blk W g 3 #[.int .i64 x]
theorem OneI.bl {B : Nat} {x : Int} {v : Value} {W V : World} (h : OneI B x v W) (hb : Below W.heap.size W V) : OneI B x v V := by
 obtain ⟨g, h0, h1, h2⟩ := h
 exact ⟨g, h0, h1, h2.bl hb⟩
theorem eg_clo : Enters Tryz.prog 98 := enters_of Tryz.func98 (by kernel_rfl) rfl
abbrev madeV : Value := .func (.func 65) #[] #[]
set_option maxHeartbeats 4000000 in
set_option maxRecDepth 100000 in
theorem kclo_any {mm c lo hi a w k m : Int} {gm gf gt : Nat} (h1 : 1 ≤ a ∧ a ≤ 20000) (h2 : 0 ≤ w ∧ w ≤ 20) (h3 : mm = m → 0 ≤ c ∧ c ≤ 8) (h4 : 0 ≤ k ∧ k ≤ 100) (W0 : World) (c4 : W0.cell? ⟨gm, 0, none⟩ = some (.int .i64 m)) (c5 : W0.cell? ⟨gf, 0, none⟩ = some madeV) (c6 : W0.cell? ⟨gt, 0, none⟩ = some (.int .i64 a)) (c7 : W0.cell? ⟨gt, 1, none⟩ = some (.int .i64 w)) (c8 : W0.cell? ⟨gt, 2, none⟩ = some (.int .i64 k)) :
  Calls Tryz.prog 98 #[.agg #[.int .i64 mm, .int .i64 c, .int .i64 lo, .int .i64 hi], .pointer (some ⟨gm, 0, none⟩), .pointer (some ⟨gf, 0, none⟩), .pointer (some ⟨gt, 0, none⟩)] W0 fun e W' => e = .returned (.bool ((mm == m) && outB lo hi (made7 a w c k))) ∧ Below W0.heap.size W0 W' := by
 obtain ⟨V0, hW⟩ : ∃ V, W0.alloc (.cells #[.int .i64 mm, .int .i64 c, .int .i64 lo, .int .i64 hi] 109) = V := ⟨_, rfl⟩
 obtain ⟨g, hg⟩ : ∃ g, W0.heap.size = g := ⟨_, rfl⟩
 have X : Blk V0 g 109 #[.int .i64 mm, .int .i64 c, .int .i64 lo, .int .i64 hi] := by rw [← hW, ← hg]; exact Blk.new _ _ _ rfl
 have HBW : Hid (Below W0.heap.size W0 V0) := by rw [Hid, ← hW]; exact bl_alloc (Below.refl _ _) _ (Nat.le_refl _)
 have kk : Hid (∀ V, Below V0.heap.size V0 V → V.cell? ⟨g, 0, none⟩ = some (.int .i64 mm) ∧ V.cell? ⟨g, 1, none⟩ = some (.int .i64 c) ∧ V.cell? ⟨g, 2, none⟩ = some (.int .i64 lo) ∧ V.cell? ⟨g, 3, none⟩ = some (.int .i64 hi) ∧ V.cell? ⟨gm, 0, none⟩ = some (.int .i64 m) ∧ V.cell? ⟨gf, 0, none⟩ = some (madeV) ∧ V.cell? ⟨gt, 0, none⟩ = some (.int .i64 a) ∧ V.cell? ⟨gt, 1, none⟩ = some (.int .i64 w) ∧ V.cell? ⟨gt, 2, none⟩ = some (.int .i64 k)) :=
  fun V hb => ⟨(X.bl hb).cell 0, (X.bl hb).cell 1, (X.bl hb).cell 2, (X.bl hb).cell 3, getc hb (getc HBW.out c4), getc hb (getc HBW.out c5), getc hb (getc HBW.out c6), getc hb (getc HBW.out c7), getc hb (getc HBW.out c8)⟩
 clear X c4 c5 c6 c7 c8
 go_enter Tryz.func98, Tryz.ntmps98
 go_wp2_with fail
 clear hW hg
 by_cases hm : mm = m
 ·have hmb : (mm == m) = true := by simpa using hm
  have h3 := h3 hm
  obtain ⟨md, hmd⟩ : ∃ x, made7 a w c k = x := ⟨_, rfl⟩
  have HMD := Lib.hid hmd
  obtain ⟨ob, hob⟩ : ∃ x, outB lo hi md = x := ⟨_, rfl⟩
  have HOB := Lib.hid hob
  clear hm hmd hob
  refine wp_region_list (fun W => Below V0.heap.size V0 W) (fun w w' => Below w.heap.size w w')
   [isV (.pointer (some ⟨g, 0, none⟩)), isV (.int .i64 mm), isV (.int .i64 m), isV (.bool true), isV (.bool true), isV (.pointer (some ⟨g, 2, none⟩)), isV (.pointer (some ⟨g, 2, none⟩)), isV (.int .i64 lo), isV (.pointer (some ⟨g, 2, none⟩)), isV (.pointer (some ⟨g, 3, none⟩)), isV (.int .i64 hi), isV (madeV), isV (.agg #[.int .i64 a, .int .i64 w, .int .i64 k]), isV (.pointer (some ⟨g, 1, none⟩)), isV (.int .i64 c), isV (.int .i64 md), OneI V0.heap.size md, isV (.bool ob), isV (.bool ob), isV (.bool ob)]
   (by kernel_rfl) (by kernel_rfl) (by kernel_rfl) (by simp) (by simp) (Below.refl _ _).drew ?stab ?step ?fin
  case stab => exact (StabL.is (StabL.is (StabL.is (StabL.is (StabL.is (StabL.is (StabL.is (StabL.is (StabL.is (StabL.is (StabL.is (StabL.is (StabL.is (StabL.is (StabL.is (StabL.is (StabL.cons (fun v W V hC hX hq => OneI.bl hq hX) (StabL.is (StabL.is (StabL.is StabL.nil))))))))))))))))))))
  case step =>
   refine StepsL.is ?_ (StepsL.is ?_ (StepsL.is ?_ (StepsL.is ?_ (StepsL.is ?_ (StepsL.is ?_ (StepsL.is ?_ (StepsL.is ?_ (StepsL.is ?_ (StepsL.is ?_ (StepsL.is ?_ (StepsL.is ?_ (StepsL.is ?_ (StepsL.is ?_ (StepsL.is ?_ (StepsL.is ?_ (StepsL.cons ?_ (StepsL.is ?_ (StepsL.is ?_ (StepsL.is ?_ StepsL.nil)))))))))))))))))))
   all_goals
    intro vs W K hC hD hU hK
    simp only [fillA, Act.put, List.setIfInBounds_toArray, List.set_cons_zero, List.set_cons_succ, Nat.zero_add, Nat.reduceAdd] at hK ⊢
    simp [waits, Region.binds] at hD
    try simp only [envOf, List.getD_cons_succ, List.getD_cons_zero, isV] at hD
    try simp only [hD] at hK ⊢
   ·go_simp; exact hK _ hC (Below.refl _ _)
   ·obtain ⟨x0, x1, x2, x3, x4, x5, x6, x7, x8⟩ := kk.out W hC
    go_simp; exact hK _ hC (Below.refl _ _)
   ·obtain ⟨x0, x1, x2, x3, x4, x5, x6, x7, x8⟩ := kk.out W hC
    go_simp; exact hK _ hC (Below.refl _ _)
   ·go_simp; exact hK _ hC (Below.refl _ _)
   ·go_simp; exact hK _ hC (Below.refl _ _)
   ·go_simp; exact hK _ hC (Below.refl _ _)
   ·go_simp; exact hK _ hC (Below.refl _ _)
   ·obtain ⟨x0, x1, x2, x3, x4, x5, x6, x7, x8⟩ := kk.out W hC
    go_simp; exact hK _ hC (Below.refl _ _)
   ·go_simp; exact hK _ hC (Below.refl _ _)
   ·go_simp; exact hK _ hC (Below.refl _ _)
   ·obtain ⟨x0, x1, x2, x3, x4, x5, x6, x7, x8⟩ := kk.out W hC
    go_simp; exact hK _ hC (Below.refl _ _)
   ·obtain ⟨x0, x1, x2, x3, x4, x5, x6, x7, x8⟩ := kk.out W hC
    go_simp; exact hK _ hC (Below.refl _ _)
   ·obtain ⟨x0, x1, x2, x3, x4, x5, x6, x7, x8⟩ := kk.out W hC
    go_simp; exact hK _ hC (Below.refl _ _)
   ·go_simp; exact hK _ hC (Below.refl _ _)
   ·obtain ⟨x0, x1, x2, x3, x4, x5, x6, x7, x8⟩ := kk.out W hC
    go_simp; exact hK _ hC (Below.refl _ _)
   ·go_simp
    refine (kmade_any h1 h2 h3 h4 W).mono ?_
    rintro e w' ⟨rfl, hb⟩
    rw [HMD.out]
    exact hK _ (bl_call hC hb (Nat.le_refl _)) hb
   ·go_simp
    exact hK _ _ (bl_alloc hC _ (Nat.le_refl _)) (bl_alloc (Below.refl _ _) _ (Nat.le_refl _)) ⟨_, hC.size, rfl, Blk.new _ _ _ rfl⟩
   ·obtain ⟨q0, q1, ⟨g9, hg9, q2, hB9⟩, _, q4⟩ := hD
    simp only [q0, q1, q2, q4] at hK ⊢
    go_simp
    refine (kout1 W (hB9.cell 0) HOB.out).mono ?_
    rintro e w' ⟨rfl, hb⟩
    exact hK _ (bl_call hC hb (Nat.le_refl _)) hb
   ·go_simp; exact hK _ hC (Below.refl _ _)
   go_simp; exact hK _ hC (Below.refl _ _)
  case fin =>
   intro vs W hC hE hU
   have e19 := hE 19 (by simp)
   simp only [envOf, List.getD_cons_succ, List.getD_cons_zero, isV] at e19
   simp only [fillA, Act.put, List.setIfInBounds_toArray, List.set_cons_zero, List.set_cons_succ, Nat.zero_add, Nat.reduceAdd, e19]
   generalize vs 0 = u0, vs 1 = u1, vs 2 = u2, vs 3 = u3, vs 4 = u4, vs 5 = u5, vs 6 = u6, vs 7 = u7, vs 8 = u8, vs 9 = u9, vs 10 = u10, vs 11 = u11, vs 12 = u12, vs 13 = u13, vs 14 = u14, vs 15 = u15, vs 16 = u16, vs 17 = u17, vs 18 = u18
   clear hE hU e19
   go_simp
   go_wp2_with fail
   go_ret
   exact ⟨by rw [hmb, HMD.out, HOB.out]; rfl, bl_call HBW.out hC (Nat.le_refl _)⟩
 have hmb : (mm == m) = false := by simpa using hm
 clear hm h3
 refine wp_region_list (fun W => Below V0.heap.size V0 W) (fun w w' => Below w.heap.size w w')
  [isV (.pointer (some ⟨g, 0, none⟩)), isV (.int .i64 mm), isV (.int .i64 m), isV (.bool false), isV (.bool false), isV (undef), isV (undef), isV (undef), isV (undef), isV (undef), isV (undef), isV (undef), isV (undef), isV (undef), isV (undef), isV (undef), isV (undef), isV (undef), isV (.bool false), isV (.bool false)]
  (by kernel_rfl) (by kernel_rfl) (by kernel_rfl) (by simp) (by simp) (Below.refl _ _).drew ?stab ?step ?fin
 case stab => exact (StabL.is (StabL.is (StabL.is (StabL.is (StabL.is (StabL.is (StabL.is (StabL.is (StabL.is (StabL.is (StabL.is (StabL.is (StabL.is (StabL.is (StabL.is (StabL.is (StabL.is (StabL.is (StabL.is (StabL.is StabL.nil))))))))))))))))))))
 case step =>
  refine StepsL.is ?_ (StepsL.is ?_ (StepsL.is ?_ (StepsL.is ?_ (StepsL.is ?_ (StepsL.is ?_ (StepsL.is ?_ (StepsL.is ?_ (StepsL.is ?_ (StepsL.is ?_ (StepsL.is ?_ (StepsL.is ?_ (StepsL.is ?_ (StepsL.is ?_ (StepsL.is ?_ (StepsL.is ?_ (StepsL.is ?_ (StepsL.is ?_ (StepsL.is ?_ (StepsL.is ?_ StepsL.nil)))))))))))))))))))
  all_goals
   intro vs W K hC hD hU hK
   simp only [fillA, Act.put, List.setIfInBounds_toArray, List.set_cons_zero, List.set_cons_succ, Nat.zero_add, Nat.reduceAdd] at hK ⊢
   simp [waits, Region.binds] at hD
   try simp only [envOf, List.getD_cons_succ, List.getD_cons_zero, isV] at hD
   try simp only [hD] at hK ⊢
  ·go_simp; exact hK _ hC (Below.refl _ _)
  ·obtain ⟨x0, x1, x2, x3, x4, x5, x6, x7, x8⟩ := kk.out W hC
   go_simp; exact hK _ hC (Below.refl _ _)
  ·obtain ⟨x0, x1, x2, x3, x4, x5, x6, x7, x8⟩ := kk.out W hC
   go_simp; exact hK _ hC (Below.refl _ _)
  ·go_simp; exact hK _ hC (Below.refl _ _)
  ·go_simp; exact hK _ hC (Below.refl _ _)
  ·simp [Region.wanted, yielded]
  ·simp [Region.wanted, yielded]
  ·simp [Region.wanted, yielded]
  ·simp [Region.wanted, yielded]
  ·simp [Region.wanted, yielded]
  ·simp [Region.wanted, yielded]
  ·simp [Region.wanted, yielded]
  ·simp [Region.wanted, yielded]
  ·simp [Region.wanted, yielded]
  ·simp [Region.wanted, yielded]
  ·simp [Region.wanted, yielded]
  ·simp [Region.wanted, yielded]
  ·simp [Region.wanted, yielded]
  ·go_simp; exact hK _ hC (Below.refl _ _)
  go_simp; exact hK _ hC (Below.refl _ _)
 case fin =>
  intro vs W hC hE hU
  have e19 := hE 19 (by simp)
  simp only [envOf, List.getD_cons_succ, List.getD_cons_zero, isV] at e19
  simp only [fillA, Act.put, List.setIfInBounds_toArray, List.set_cons_zero, List.set_cons_succ, Nat.zero_add, Nat.reduceAdd, e19]
  generalize vs 0 = u0, vs 1 = u1, vs 2 = u2, vs 3 = u3, vs 4 = u4, vs 5 = u5, vs 6 = u6, vs 7 = u7, vs 8 = u8, vs 9 = u9, vs 10 = u10, vs 11 = u11, vs 12 = u12, vs 13 = u13, vs 14 = u14, vs 15 = u15, vs 16 = u16, vs 17 = u17, vs 18 = u18
  clear hE hU e19
  go_simp
  go_wp2_with fail
  go_ret
  exact ⟨by rw [hmb]; rfl, bl_call HBW.out hC (Nat.le_refl _)⟩
set_option maxHeartbeats 1000000 in
theorem kindexS_any {S : Foot} {A : Option Addr} {n c : Nat} {xs : List SeenC} (p : SeenC → Bool) (g : Nat) (lb : Array Value) (eg : ∀ args w, (callFunc g args).run Tryz.prog w = .ok (.enter g args) w) (w : World) (h : SeenCs S w A n xs)
  (hp : ∀ (k : Nat) (a z y u : Int) (W : World), Below w.heap.size w W → Hid (xs[k]? = some ⟨a, z, y, u⟩) → Calls Tryz.prog g (#[.agg #[.int .i64 a, .int .i64 z, .int .i64 y, .int .i64 u]] ++ lb) W fun e W' => e = .returned (.bool (p ⟨a, z, y, u⟩)) ∧ Below W.heap.size W W') :
  Calls Tryz.prog 125 #[.slice A n c, .func (.func g) #[] lb] w fun e w' => (∃ r : Int, e = .returned (.int .i64 r) ∧ Hid (decide (0 ≤ r) = xs.any p)) ∧ Below w.heap.size w w' := by
 have hle := h.le
 have Hn0 := Lib.hid h.len
 have HP := Lib.hid hp
 clear hp
 go_enter Tryz.func125, Tryz.ntmps125
 go_wp2
 go_loopw [5, 8] (fun _ i wr => ∃ k : Nat, k ≤ n ∧ i = .int .i64 k ∧ Below w.heap.size w wr ∧ Hid ((xs.take k).any p = false)) (fun _ i _ => n - (intOf i).toNat)
 case atStart => exact ⟨0, Nat.zero_le _, rfl, Below.refl _ _, rfl⟩
 case round =>
  obtain ⟨k, hk, rfl, hB, Hk⟩ := hrel
  by_cases hlt : k < n
  ·have hki : (k : Int) < n := by omega
   obtain ⟨b, off, a, z, y, u, rfl, hb0, hc0, hc1, hc2, hc3, Hx⟩ := SeenCs.get (h.keep SeenCR.good (Keeps.below hB)) hlt
   have hcall := HP.out k a z y u wr hB Hx
   cases hq : p ⟨a, z, y, u⟩ with
   | true =>
    have HQ := Lib.hid hq
    rw [hq] at hcall
    clear hq
    go_wp2_with (go_at_fn g; refine hcall.mono ?_; rintro e w' ⟨rfl, hb2⟩)
    go_ret
    exact ⟨⟨_, rfl, by rw [Hid, any_yes Hx.out HQ.out]; simp⟩, bl_call hB hb2 (Nat.le_refl _)⟩
   | false =>
    have HQ := Lib.hid hq
    rw [hq] at hcall
    clear hq
    go_wp2_with (go_at_fn g; refine hcall.mono ?_; rintro e w' ⟨rfl, hb2⟩)
    go_roundw
    case rel => exact ⟨k + 1, by omega, by go_num, bl_call hB hb2 (Nat.le_refl _), any_take_no Hx.out Hk.out HQ.out⟩
    case measure => simp [intOf]; omega
  obtain rfl : k = n := by omega
  go_wp2
  go_ret
  refine ⟨⟨_, rfl, ?_⟩, hB⟩
  have := Hk.out
  rw [List.take_of_length_le (by rw [Hn0.out]; exact Nat.le_refl _)] at this
  rw [Hid, this]; rfl
theorem khasS_any {S : Foot} {A : Option Addr} {n c : Nat} {xs : List SeenC} (p : SeenC → Bool) (g : Nat) (lb : Array Value) (eg : ∀ args w, (callFunc g args).run Tryz.prog w = .ok (.enter g args) w) (w : World) (h : SeenCs S w A n xs)
  (hp : ∀ (k : Nat) (a z y u : Int) (W : World), Below w.heap.size w W → Hid (xs[k]? = some ⟨a, z, y, u⟩) → Calls Tryz.prog g (#[.agg #[.int .i64 a, .int .i64 z, .int .i64 y, .int .i64 u]] ++ lb) W fun e W' => e = .returned (.bool (p ⟨a, z, y, u⟩)) ∧ Below W.heap.size W W') :
  Calls Tryz.prog 97 #[.slice A n c, .func (.func g) #[] lb] w fun e w' => e = .returned (.bool (xs.any p)) ∧ Below w.heap.size w w' := by
 have hle := h.le
 have HP := Lib.hid hp
 have HG := Lib.hid eg
 clear hp eg
 go_enter Tryz.func97, Tryz.ntmps97
 go_wp2_with (go_at_call 125; refine (kindexS_any p g lb HG.out _ h HP.out).mono ?_; rintro e w' ⟨⟨r, rfl, Hr⟩, hb⟩)
 go_ret
 exact ⟨ret_bool Hr.out, hb⟩
open Go.RowKit Go.Shelf
attribute [local go_sem] Oper.semAt_some
theorem eg_num : Enters Tryz.prog 95 := enters_of Tryz.func95 (by kernel_rfl) rfl
def rangeZ (lo hi : Int) : List Int := (List.range (hi - lo + 1).toNat).map fun i : Nat => lo + (i : Int)
theorem rangeZ_len {lo hi : Int} : (rangeZ lo hi).length = (hi - lo + 1).toNat := by simp [rangeZ]
theorem rangeZ_get {lo hi : Int} {k : Nat} (h : (k : Int) < hi - lo + 1) : (rangeZ lo hi)[k]? = some (lo + (k : Int)) := by
 unfold rangeZ
 rw [List.getElem?_map, List.getElem?_range (by omega)]; rfl
theorem knumbers_call (lo hi : Int) (w : World) : Calls Tryz.prog 63 #[.agg #[.int .i64 lo, .int .i64 hi]] w fun e w' =>
  e = .returned (.func (.func 95) #[] #[.pointer (some ⟨w.heap.size, 0, none⟩)]) ∧ w' = w.alloc (.cells #[.int .i64 lo, .int .i64 hi] 23) := by
 go_enter Tryz.func63, Tryz.ntmps63
 go_wp2
 go_ret
 exact ⟨rfl, rfl⟩
set_option maxRecDepth 100000 in
set_option maxHeartbeats 4000000 in
theorem numbers_seq {lo hi : Int} (gs : Nat) (hb : 0 ≤ lo ∧ lo ≤ hi + 1 ∧ hi ≤ 100000) :
  SeqL Tryz.prog 95 #[.pointer (some ⟨gs, 0, none⟩)] (fun x : Int => #[.int .i64 x]) (rangeZ lo hi) (fun A => ∃ t, Blk A gs t #[.int .i64 lo, .int .i64 hi]) := by
 intro lp O0 J Jx W hO0 hInv hJ hJx hR h0
 obtain ⟨t0, hI0⟩ := hInv W (Kept.refl _ _)
 have hgs := hI0.lt
 have c0 := hI0.cell 0
 have c1 := hI0.cell 1
 have HR := Lib.hid hR
 have HJ0 := Lib.hid h0
 obtain ⟨N, hN⟩ : ∃ N : Nat, hi - lo + 1 = N := ⟨(hi - lo + 1).toNat, by omega⟩
 have hw1 : IntKind.i64.wrap (hi - lo) = hi - lo := by rw [IntKind.wrap_i64]; omega
 have hw2 : IntKind.i64.wrap (hi - lo + 1) = (N : Int) := by rw [hN, IntKind.wrap_i64]; omega
 have HN := Lib.hid hN
 have hNb : N ≤ 100001 := by omega
 have hlen : (rangeZ lo hi).length = N := by rw [rangeZ_len]; omega
 have HL := Lib.hid hlen
 clear hI0 hR h0 hN hlen
 rw [app11]
 refine (callsIn_wide (n := 1)).1 ?_
 refine callsIn_of_wp Tryz.func95 rfl trivial ?_ rfl
 simp only [Tryz.ntmps95, List.size_toArray, List.length_cons, List.length_nil, Nat.reduceAdd, Nat.reduceSub, Array.replicate_succ, Array.replicate_zero, List.push_toArray, List.append_toArray, List.nil_append, List.cons_append]
 gi_wp2_with fail
 clear c0 c1 hw1 hw2
 gi_loopw [3, 10] (fun _ i' wr => ∃ (k : Nat) (O1 : Foot), i' = .int .i64 k ∧ k ≤ N ∧ Hid (Kept (fun k => O0 k ∨ W.heap.size ≤ k) W wr) ∧ Hid (∀ k, O1 k → O0 k ∨ (W.heap.size ≤ k ∧ k < wr.heap.size)) ∧ Hid (J k O1 wr)) (fun _ i' _ => N - (intOf i').toNat)
 case atStart => exact ⟨0, O0, rfl, Nat.zero_le _, Kept.refl _ _, fun k hk => .inl hk, HJ0.out⟩
 case round =>
  obtain ⟨k, O1, rfl, hk, HK, HO, HJ⟩ := hrel
  by_cases hlt : k < N
  ·have hki : (k : Int) < N := by omega
   obtain ⟨t1, hI1⟩ := hInv wr HK.out
   have c0 := hI1.cell 0
   have hg1 := hI1.lt
   obtain ⟨x, hx⟩ : ∃ x : Int, lo + (k : Int) = x := ⟨_, rfl⟩
   have hv : IntKind.i64.wrap (lo + (k : Int)) = x := by rw [hx, IntKind.wrap_i64]; omega
   have hget : (rangeZ lo hi)[k]? = some x := by rw [← hx]; exact rangeZ_get (by rw [HN.out]; omega)
   obtain ⟨fn, tmps, assign, body, hy, hRd⟩ := HR.out k x O1 wr hget HJ.out (fun j hj => (HO.out j hj).elim (fun h => by have := hO0 j h; have := HK.out.size; omega) (fun h => h.2)) (fun j hj => (HO.out j hj).imp id (fun h => h.1)) HK.out 0
   have HRD := Lib.hid hRd
   clear hRd hI1 hx hget
   gi_wp2_with fail
   refine HRD.out.mono ?_
   clear HRD
   rintro e B ⟨O2, hO2, hKB, hcase⟩
   have HKB : Hid (Kept (fun k => O0 k ∨ W.heap.size ≤ k) W B) := HK.out.trans (hKB.mono fun j _ h => (HO.out j h).imp id (fun h => h.1))
   have HOB : Hid (∀ j, O2 j → O0 j ∨ (W.heap.size ≤ j ∧ j < B.heap.size)) := fun j hj => (hO2 j hj).elim (fun h => (HO.out j h).imp id (fun h => ⟨h.1, by have := hKB.size; omega⟩)) (fun h => .inr ⟨by have := HK.out.size; omega, h.2⟩)
   clear hO2 hKB
   rcases hcase with ⟨rfl, hj'⟩ | ⟨rfl, hx'⟩
   ·have HJB := Lib.hid hj'
    clear hj'
    gi_wp2
    exact ⟨⟨k + 1, O2, by go_num, by omega, HKB, HOB, HJB⟩, by simp [intOf]; omega⟩
   gi_wp2
   refine bodyPost_ret (results_none rfl _ _ _) rfl ?_
   exact ⟨⟨_, rfl⟩, HKB.out, O2, HOB.out, .inr hx'⟩
  obtain rfl : k = N := by omega
  gi_wp2
  go_end0
  refine ⟨⟨_, rfl⟩, HK.out, O1, HO.out, .inl ?_⟩
  rw [HL.out]
  exact HJ.out
end Go.Proofs.YtdbfincinjoppabGreatDoor
