/- A part of the proof that TopMoulds always answers true. -/
import Derived.RangeFuncKeeps
import Derived.OwnWalkIn
import Derived.TacticsInMore
import Derived.LoopNIn
import Derived.LoopIn
import Derived.Laws.EntriesVeiled
import Derived.Test.YtkpbchnggdnmaaaGreatCIterM
import Derived.Test.YtkpbchnggdnmaaaGreatCOrReg
set_option linter.all false
namespace Go.Proofs.YtkpbchnggdnmaaaGreat
open Go.RowKit Go.Shelf Go.Maps
attribute [local go_sem] Oper.semAt_some
theorem eg_days1 : Enters Tryz.prog 65 := enters_of Tryz.func65 (by kernel_rfl) rfl
def dueB (l : List Ord11) : Nat → List Int
 | 0 => [0, 0, 0]
 | k + 1 => dueK l k
theorem dueK_eq (l : List Ord11) (k : Nat) : dueK l k = l.foldl (stepO k) (dueB l k) := by cases k <;> rfl
theorem dueB_len (l : List Ord11) (k : Nat) : (dueB l k).length = 3 := by
 cases k with
 | zero => rfl
 | succ k => exact dueK_len l k
theorem dueB_bd {s : Shop11} (hs : Ok11 s) {l : List Ord11} (hl : ∀ o ∈ l, OrdOk s o) (h9 : l.length ≤ 9) (k i : Nat) : 0 ≤ (dueB l k).getD i 0 := by
 cases k with
 | zero =>
  show 0 ≤ ([0, 0, 0] : List Int).getD i 0
  rcases i with _ | _ | _ | i <;> simp
 | succ k => exact (due_bd hs hl h9 k i).1
theorem due_mid {s : Shop11} (hs : Ok11 s) {l : List Ord11} (hl : ∀ o ∈ l, OrdOk s o) (h9 : l.length ≤ 9) (k j i : Nat) (hi : i < 3) : 0 ≤ ((l.take j).foldl (stepO k) (dueB l k)).getD i 0 ∧ ((l.take j).foldl (stepO k) (dueB l k)).getD i 0 ≤ 450 := by
 have hp : ∀ o ∈ l, 0 ≤ o.part ∧ o.part < 3 := fun o ho => by
  obtain ⟨h1, _⟩ := hl o ho
  have := hs.np
  exact ⟨h1.1, by omega⟩
 have h1 := foldO_get (n := 0) (day := k) hi (l.take j) (dueB l k) (dueB_len l k) (fun o ho => hp o (List.mem_of_mem_take ho))
 have h2 := foldO_get (n := 0) (day := k) hi (l.drop j) ((l.take j).foldl (stepO k) (dueB l k)) h1.2 (fun o ho => hp o (List.mem_of_mem_drop ho))
 rw [← List.foldl_append, List.take_append_drop, ← dueK_eq] at h2
 have h3 := due_bd hs hl h9 k i
 have h4 := dueB_bd hs hl h9 k i
 have h5 := sumO_bd (p := fun o => decide (o.due = (k : Int)) && decide (o.part = (i : Int))) (l := l.take j) (fun o ho => (hl o (List.mem_of_mem_take ho)).2.1)
 have h6 := sumO_bd (p := fun o => decide (o.due = (k : Int)) && decide (o.part = (i : Int))) (l := l.drop j) (fun o ho => (hl o (List.mem_of_mem_drop ho)).2.1)
 have h7 := h1.1
 have h8 := h2.1
 omega
theorem list3 {d : List Int} (h : d.length = 3) : d = [d.getD 0 0, d.getD 1 0, d.getD 2 0] := by
 match d, h with
 | [a, b, c], _ => rfl
def encD (x : Nat × List Int) : Array Value := #[.int .i64 (x.1 : Int), kv3 (x.2.getD 0 0) (x.2.getD 1 0) (x.2.getD 2 0)]
theorem days_len (s : Shop11) (l : List Ord11) : (daysL s l).length = s.hours.length := by simp [daysL]
theorem days_get (s : Shop11) (l : List Ord11) {k : Nat} (h : k < s.hours.length) : (daysL s l)[k]? = some (k, castP s (dueK l k)) := by
 unfold daysL
 rw [List.getElem?_map, List.getElem?_range h]; rfl
def DaysInv (gS gL B g kb : Nat) (H : Option Addr) (hn hc : Nat) (P : Option Addr) (pn pc : Nat) (Q : Option Addr) (on oc : Nat) (s : Shop11) (L : Option Addr) (ln lc : Nat) (l : List Ord11) (w : World) : Prop :=
 Blk w gS 90 #[.pointer (some ⟨g, 0, none⟩)] ∧ Blk w gL 29 #[.slice L ln lc] ∧ LookK w B g kb H hn hc P pn pc Q on oc s ∧ Ords11 (fun k => k ≠ kb ∧ k < B) w L ln l
theorem odays_any {g : Nat} {L : Option Addr} {ln lc : Nat} (w : World) : Calls Tryz.prog 40 #[.pointer (some ⟨g, 0, none⟩), .slice L ln lc] w fun e w' => e = .returned (.func (.func 65) #[] #[.pointer (some ⟨w.heap.size, 0, none⟩), .pointer (some ⟨w.heap.size + 1, 0, none⟩)]) ∧ w' = (w.alloc (.cells #[.pointer (some ⟨g, 0, none⟩)] 90)).alloc (.cells #[.slice L ln lc] 29) := by
 go_enter Tryz.func40, Tryz.ntmps40
 go_wp2
 go_ret
 exact ⟨by simp, rfl⟩
set_option maxRecDepth 100000 in
set_option maxHeartbeats 4000000 in
theorem days_seq {s : Shop11} {l : List Ord11} {gS gL B g kb N : Nat} {H : Option Addr} {hn hc : Nat} {P : Option Addr} {pn pc : Nat} {Q : Option Addr} {on oc : Nat} {L : Option Addr} {ln lc : Nat} (hok : Ok11 s) (hl : ∀ o ∈ l, OrdOk s o) (h9 : l.length ≤ 9) (hN : N ≤ 900000) :
  SeqM Tryz.prog 65 #[.pointer (some ⟨gS, 0, none⟩), .pointer (some ⟨gL, 0, none⟩)] encD (daysL s l) (DaysInv gS gL B g kb H hn hc P pn pc Q on oc s L ln lc l) (fun k => k = kb) (fun w => MapC s w kb N) (fun w => MapC s w kb (N + 20)) := by
 intro lp O0 J Jx W hO0 hOM hMl hS0 hInv hJ hJx hR h0
 obtain ⟨I1, I2, I3, I4⟩ := hInv W (Kept.refl _ _)
 have hhn : s.hours.length = hn := by obtain ⟨U, uc, _, h2, _⟩ := I3.st; exact h2.hs.len
 have hhb : 1 ≤ hn ∧ hn ≤ 20 := by have := hok.nh; omega
 have hln : l.length = ln := I4.len
 have hll : ln ≤ 9 := by omega
 have hkb : kb < W.heap.size := hS0.lt
 have HR := Lib.hid hR
 have HJ0 := Lib.hid h0
 have HH := Lib.hid hhn
 have HLN := Lib.hid hln
 obtain ⟨W1, hW1⟩ : ∃ V, W.alloc (.cells #[.int .i64 0, .int .i64 0, .int .i64 0] 94) = V := ⟨_, rfl⟩
 have K1 : Kept (fun _ => False) W W1 := by rw [← hW1]; exact Kept.alloc _ _ _
 have D1 : Blk W1 W.heap.size 94 (rowC 3 (fun i => .int .i64 ((dueB l 0).getD i 0))) := by rw [← hW1]; exact Blk.new _ _ _ rfl
 have S1 : MapC s W1 kb (N + 0) := hS0.at (K1.block kb hkb (fun h => h))
 have hs1 : W1.heap.size = W.heap.size + 1 := by rw [← hW1]; simp
 obtain ⟨J1, J2, J3, J4⟩ := hInv W1 K1.any
 obtain ⟨U, uc, J5, _, _⟩ := J3.st
 have c1 := J1.cell 0
 have c2 := J5.cell 0
 have hj1 : J 0 O0 W1 := hJ 0 O0 W W1 h0 hO0 K1.any
 have HJ1 := Lib.hid hj1
 have HK1 := Lib.hid K1
 have HD1 := Lib.hid D1
 have HS1 := Lib.hid S1
 obtain ⟨gd, hgd⟩ : ∃ q, W.heap.size = q := ⟨_, rfl⟩
 have hOd : ¬ O0 gd := fun h => by have := hO0 _ h; omega
 clear hR h0 hhn hln K1 D1 S1 hj1 I1 I2 I3 I4 J1 J2 J3 J4 J5
 rw [app12]
 refine (callsIn_wide (n := 1)).1 ?_
 refine callsIn_of_wp Tryz.func65 rfl trivial ?_ rfl
 simp only [Tryz.ntmps65, List.size_toArray, List.length_cons, List.length_nil, Nat.reduceAdd, Nat.reduceSub, Array.replicate_succ, Array.replicate_zero, List.push_toArray, List.append_toArray, List.nil_append, List.cons_append]
 gi_wp2_with fail
 clear c1 c2 hW1
 gi_loopw [5, 7, 14] (fun _ _ i' wr => ∃ (k : Nat) (O1 : Foot), i' = .int .i64 k ∧ k ≤ hn ∧ Hid (Kept (fun k => O0 k ∨ k = kb ∨ W.heap.size ≤ k) W wr) ∧ Hid (∀ k, O1 k → O0 k ∨ (W.heap.size ≤ k ∧ k < wr.heap.size)) ∧ Hid (J k O1 wr) ∧ Hid (Blk wr gd 94 (rowC 3 (fun i => .int .i64 ((dueB l k).getD i 0)))) ∧ Hid (MapC s wr kb (N + k)) ∧ Hid (¬ O1 gd)) (fun _ _ i' _ => hn - (intOf i').toNat)
 case atStart => exact ⟨0, O0, rfl, Nat.zero_le _, HK1.out.any, fun k hk => .inl hk, HJ1.out, hgd ▸ HD1.out, HS1.out, hOd⟩
 case round =>
  obtain ⟨wo, hwo⟩ : ∃ V, V = wr := ⟨_, rfl⟩
  rw [← hwo] at hrel ⊢
  clear hwo
  obtain ⟨k, O1, rfl, hk, HK, HO, HJ, HD, HM, HOD⟩ := hrel
  by_cases hlt : k < hn
  ·have hki : (k : Int) < hn := by omega
   have hlt2 := Lib.hid hlt
   obtain ⟨J1, J2, J3, J4⟩ := hInv wo HK.out
   have c2 := J2.cell 0
   clear J1 J2 J3 J4
   refine wpIn_wide.2 ?_
   go_wp2
   clear c2
   go_loopw [7, 19] (fun _ i wr => ∃ j : Nat, j ≤ ln ∧ i = .int .i64 j ∧ Hid (Kept (fun k => k = gd) wo wr) ∧ Hid (Blk wr gd 94 (rowC 3 (fun i => .int .i64 (((l.take j).foldl (stepO k) (dueB l k)).getD i 0))))) (fun _ i _ => ln - (intOf i).toNat)
   case atStart => exact ⟨0, Nat.zero_le _, rfl, Kept.refl _ _, HD.out⟩
   case round =>
    obtain ⟨wi, hwi⟩ : ∃ V, V = wr := ⟨_, rfl⟩
    rw [← hwi] at hrel ⊢
    clear hwi
    obtain ⟨j, hj, rfl, HKi, HDi⟩ := hrel
    by_cases hlt : j < ln
    ·have hji : (j : Int) < ln := by omega
     obtain ⟨b, off, a, z, y, u, rfl, hbb, hc0, hc1, hc2, hc3, Hx⟩ := Ords11.get (hInv wi (HK.out.seq HKi.out (fun q _ h => .inr (.inr (by omega))))).2.2.2 hlt
     obtain ⟨⟨o1, o2⟩, ⟨o3, o4⟩, _, _⟩ := hl _ (List.mem_of_getElem? Hx.out)
     have hnp := hok.np
     dsimp only at o1 o2 o3 o4
     obtain ⟨p, rfl⟩ : ∃ p : Nat, a = p := ⟨a.toNat, by omega⟩
     have hp3 : p < 3 := by omega
     have hp3i : (p : Int) < 3 := by omega
     obtain ⟨v, hv⟩ : ∃ v, ((l.take j).foldl (stepO k) (dueB l k)).getD p 0 = v := ⟨_, rfl⟩
     have hvb := due_mid hok hl h9 k j p hp3
     rw [hv] at hvb
     have hwv : IntKind.i64.wrap (v + z) = v + z := by rw [IntKind.wrap_i64]; omega
     have HST : Hid ((l.take (j + 1)).foldl (stepO k) (dueB l k) = stepO k ((l.take j).foldl (stepO k) (dueB l k)) ⟨(p : Int), z, y, u⟩) := by rw [Hid, take_snoc_get Hx.out, List.foldl_append]; rfl
     have HLEN : Hid (((l.take j).foldl (stepO k) (dueB l k)).length = 3) := by
      rw [Hid]
      exact (foldO_get (n := 0) (day := k) hp3 (l.take j) (dueB l k) (dueB_len l k) (fun o ho => by
       obtain ⟨h1, _⟩ := hl o (List.mem_of_mem_take ho)
       exact ⟨h1.1, by omega⟩)).2
     obtain ⟨V, hV⟩ : ∃ V, wi.alloc (.cells #[.int .i64 (p : Int), .int .i64 z, .int .i64 y, .int .i64 u] 61) = V := ⟨_, rfl⟩
     have XV : Blk V wi.heap.size 61 #[.int .i64 (p : Int), .int .i64 z, .int .i64 y, .int .i64 u] := by rw [← hV]; exact Blk.new _ _ _ rfl
     have HKV : Hid (Kept (fun k => k = gd) wo V) := by rw [Hid, ← hV]; exact HKi.out.trans (Kept.alloc _ _ _)
     have HDV : Hid (Blk V gd 94 (rowC 3 (fun i => .int .i64 (((l.take j).foldl (stepO k) (dueB l k)).getD i 0)))) := by rw [Hid, ← hV]; exact HDi.out.alloc _
     have v0 := XV.cell 0
     have v1 := XV.cell 1
     have v2 := XV.cell 2
     have cd : V.cell? ⟨gd, p, none⟩ = some (.int .i64 v) := by rw [← hv]; exact HDV.out.row hp3
     have fd := HDV.out.frozen p
     have hgl := HDV.out.lt
     have HV := Lib.hid hv
     clear hv o1 o2 o3 o4 hvb hnp XV
     by_cases hy : y = (k : Int)
     ·have hyb : (y == (k : Int)) = true := by simpa using hy
      have HY := Lib.hid hy
      clear hy
      go_wp2
      clear hc0 hc1 hc2 hc3 hV
      go_still_tail 8, (by kernel_rfl)
      go_wp2
      go_roundw
      case rel =>
       refine ⟨j + 1, by omega, by go_num, (HKV.out.trans (Kept.setCell (M := fun k => k = gd) V ⟨gd, p, none⟩ (.int .i64 (v + z)) rfl)).trans (Kept.drew _ _), ?_⟩
       refine Blk.rowEq (HDV.out.rowSet p (.int .i64 (v + z))).drew fun i hi => ?_
       rw [HST.out, stepO, if_pos HY.out, Int.toNat_natCast]
       by_cases e : i = p
       ·subst e
        rw [if_pos rfl, HV.out, List.getD_eq_getElem?_getD, List.getElem?_set, if_pos rfl, if_pos (by rw [HLEN.out]; exact hi)]
        rfl
       rw [if_neg e, List.getD_eq_getElem?_getD, List.getD_eq_getElem?_getD, List.getElem?_set, if_neg (fun h => e h.symm)]
      case measure => simp [intOf]; omega
     have hyb : (y == (k : Int)) = false := by simpa using hy
     have HY := Lib.hid hy
     clear hy
     go_wp2
     clear hc0 hc1 hc2 hc3 hV
     go_roundw
     case rel =>
      refine ⟨j + 1, by omega, by go_num, HKV.out, ?_⟩
      rw [HST.out, stepO, if_neg HY.out]
      exact HDV.out
     case measure => simp [intOf]; omega
    obtain rfl : j = ln := by omega
    have HKW : Hid (Kept (fun k => O0 k ∨ k = kb ∨ W.heap.size ≤ k) W wi) := HK.out.seq HKi.out (fun q _ h => .inr (.inr (by omega)))
    obtain ⟨J1, J2, J3, J4⟩ := hInv wi HKW.out
    have HDK : Hid ((l.take j).foldl (stepO k) (dueB l k) = dueK l k) := by rw [Hid, List.take_of_length_le (by rw [HLN.out]; exact Nat.le_refl _), ← dueK_eq]
    rw [HDK.out] at HDi
    obtain ⟨d0, hd0⟩ : ∃ d, (dueK l k).getD 0 0 = d := ⟨_, rfl⟩
    obtain ⟨d1, hd1⟩ : ∃ d, (dueK l k).getD 1 0 = d := ⟨_, rfl⟩
    obtain ⟨d2, hd2⟩ : ∃ d, (dueK l k).getD 2 0 = d := ⟨_, rfl⟩
    have x0 : wi.cell? ⟨gd, 0, none⟩ = some (.int .i64 d0) := by rw [← hd0]; exact HDi.out.row (by decide)
    have x1 : wi.cell? ⟨gd, 1, none⟩ = some (.int .i64 d1) := by rw [← hd1]; exact HDi.out.row (by decide)
    have x2 : wi.cell? ⟨gd, 2, none⟩ = some (.int .i64 d2) := by rw [← hd2]; exact HDi.out.row (by decide)
    have b0 := due_bd hok hl h9 k 0
    have b1 := due_bd hok hl h9 k 1
    have b2 := due_bd hok hl h9 k 2
    rw [hd0] at b0
    rw [hd1] at b1
    rw [hd2] at b2
    have j1 := J1.cell 0
    have hMi : MapC s wi kb (N + k) := HM.out.at (HKi.out.block kb HM.out.lt (fun e => by omega))
    have hcall := ocast_any hok wi J3 hMi (by omega) b0 b1 b2
    have HEN : Hid (encD (k, castP s (dueK l k)) = #[.int .i64 (k : Int), kv3 (castI s 0 d0) (castI s 1 d1) (castI s 2 d2)]) := by
     rw [Hid, list3 (dueK_len l k), hd0, hd1, hd2]; rfl
    have HC := Lib.hid hcall
    have HJi : Hid (J k O1 wi) := hJ k O1 wo wi HJ.out (fun q hq => (HO.out q hq).elim (fun h => by have := hO0 q h; have := HK.out.size; omega) (fun h => h.2)) (HKi.out.mono fun q _ h hq => HOD.out (h ▸ hq))
    clear hcall b0 b1 b2 hd0 hd1 hd2 hMi J1 J2 J3 J4
    refine (wpIn_wide (n := 1)).1 ?_
    gi_wp2_with fail
    refine (wpIn_wide (n := 1)).1 ?_
    gi_wp2_with fail
    refine ⟨trivial, ?_⟩
    refine (callsIn_wide.2 HC.out).mono ?_
    rintro e V ⟨rfl, hKV, hMV⟩
    have HKV := Lib.hid hKV
    have HMV := Lib.hid hMV
    clear hKV hMV HC x0 x1 x2 j1
    have HKA : Hid (Kept (fun k => O0 k ∨ k = kb ∨ W.heap.size ≤ k) W V) := HKW.out.seq HKV.out (fun q _ h => .inr (.inl h))
    have HON : Hid (∀ q, O1 q → q ≠ kb) := fun q hq e => (HO.out q hq).elim (fun h => hOM q h e) (fun h => by omega)
    have hz1 := HKi.out.size
    have hz2 := HKV.out.size
    have HJV : Hid (J k O1 V) := hJ k O1 wi V HJi.out (fun q hq => (HO.out q hq).elim (fun h => by have := hO0 q h; have := HK.out.size; omega) (fun h => by omega)) (HKV.out.mono fun q _ h hq => HON.out q hq h)
    have hgdl : gd < wi.heap.size := HDi.out.lt
    have HDV : Hid (Blk V gd 94 (rowC 3 (fun i => .int .i64 ((dueK l k).getD i 0)))) := HDi.out.kept HKV.out (fun e => by omega)
    obtain ⟨fn, tmps, assign, body, hy, hRd⟩ := HR.out k _ O1 V (days_get s l (by rw [HH.out]; exact hlt2.out)) HJV.out (fun q hq => (HO.out q hq).elim (fun h => by have := hO0 q h; have := HK.out.size; omega) (fun h => by omega)) (fun q hq => (HO.out q hq).imp id (fun h => h.1)) HKA.out (HMV.out.mono (by omega)) 0
    rw [HEN.out] at hy
    have HRD := Lib.hid hRd
    clear hRd
    gi_wp2_with fail
    refine HRD.out.mono ?_
    clear HRD hy
    rintro e B ⟨O2, hO2, hKB, hcase⟩
    have hz3 := hKB.size
    have HKB : Hid (Kept (fun k => O0 k ∨ k = kb ∨ W.heap.size ≤ k) W B) := HKA.out.seq hKB (fun q _ h => (HO.out q h).elim .inl (fun h => .inr (.inr h.1)))
    have HOB : Hid (∀ q, O2 q → O0 q ∨ (W.heap.size ≤ q ∧ q < B.heap.size)) := fun q hq => (hO2 q hq).elim (fun h => (HO.out q h).imp id (fun h => ⟨h.1, by omega⟩)) (fun h => .inr ⟨by have := HK.out.size; omega, h.2⟩)
    have HMB : Hid (MapC s B kb (N + (k + 1))) := HMV.out.at (hKB.block kb HMV.out.lt (fun h => HON.out kb h rfl))
    have HDB : Hid (Blk B gd 94 (rowC 3 (fun i => .int .i64 ((dueK l k).getD i 0)))) := HDV.out.kept hKB HOD.out
    have HOD2 : Hid (¬ O2 gd) := fun h => (hO2 gd h).elim HOD.out (fun h => by omega)
    clear hO2 hKB
    rcases hcase with ⟨rfl, hj'⟩ | ⟨rfl, hx'⟩
    ·have HJB := Lib.hid hj'
     clear hj'
     gi_wp2_with fail
     go_wp2
     exact ⟨⟨k + 1, O2, by go_num, by have := hlt2.out; omega, HKB, HOB, HJB, HDB, HMB, HOD2⟩, by simp [intOf]; have := hlt2.out; omega⟩
    gi_wp2
    refine bodyPost_ret (results_none rfl _ _ _) rfl ?_
    exact ⟨⟨_, rfl⟩, HKB.out, HMB.out.mono (by have := hlt2.out; omega), O2, HOB.out, .inr hx'⟩
  obtain rfl : k = hn := by omega
  gi_wp2
  go_end0
  refine ⟨⟨_, rfl⟩, HK.out, HM.out.mono (by omega), O1, HO.out, .inl ?_⟩
  rw [days_len, HH.out]
  exact HJ.out
end Go.Proofs.YtkpbchnggdnmaaaGreat
