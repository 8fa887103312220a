/- A part of the proof that TopMoulds always answers true. -/
import Derived.Deep.OwnRows
import Derived.Test.YtkpbchnggdnmaaaGreatCOrPlan
set_option linter.all false
namespace Go.Proofs.YtkpbchnggdnmaaaGreat
open Go.RowKit Go.Shelf Go.Maps
set_option maxRecDepth 100000 in
set_option maxHeartbeats 1000000 in
theorem oPlan_any {s : Shop11} {l : List Ord11} {xs : List (Int × Int)} {H P Q T : Option Addr} {hn hc pn pc on oc tn tc : Nat} {t : List Int} (hok : Ok11 s) (hpc : pn ≤ pc) (ht : TakenOk s t) (w : World) (g : ShopO (fun _ => True) w H hn P pn Q on s) (gt : Ints (fun _ => True) w T tn t) (hl : ordsL s t = l) (hlo : ∀ o ∈ l, OrdOk s o) (hl9 : l.length ≤ 9) (hcan : (lateR s l).2 = 0) (hx : listP s l hn = xs) (hin : InO xs) (h19 : xs.length ≤ 19) (hpt : ∀ x ∈ xs, 0 ≤ x.1 ∧ x.1 < pn) :
  Calls Tryz.prog 32 #[.agg #[.slice H hn hc, .slice P pn pc, .slice Q on oc], .slice T tn tc] w fun e w' => (∃ A' n' c', e = .returned (.tuple #[.slice A' n' c', .int .i64 0]) ∧ Pairs (fun k => w.heap.size ≤ k) w' A' n' (planO s xs)) ∧ Below w.heap.size w w' := by
 obtain ⟨W, hW⟩ : ∃ W, w.alloc (.cells #[.slice H hn hc, .slice P pn pc, .slice Q on oc] 31) = W := ⟨_, rfl⟩
 have X : Blk W w.heap.size 31 #[.slice H hn hc, .slice P pn pc, .slice Q on oc] := by rw [← hW]; exact Blk.new _ _ _ rfl
 have hBW : Below w.heap.size w W := by rw [← hW]; exact bl_alloc (Below.refl _ _) _ (Nat.le_refl _)
 have HGW : Hid (∀ V, Below w.heap.size w V → ShopO (fun _ => True) V H hn P pn Q on s) := fun V hb => g.bl hb
 have HGT : Hid (Ints (fun _ => True) W T tn t) := gt.keep IntR.good (Keeps.below hBW)
 have HX := Lib.hid X
 have HOK := Lib.hid hok
 have HT := Lib.hid ht
 have HLO := Lib.hid hlo
 have HL := Lib.hid hl
 have HCAN := Lib.hid hcan
 have HIN := Lib.hid hin
 have H19 := Lib.hid h19
 have HPT := Lib.hid hpt
 have x0 := X.cell 0
 have x1 := X.cell 1
 have x2 := X.cell 2
 have hXl := X.lt
 clear g gt X hok ht hlo hl hcan hin h19 hpt
 go_enter Tryz.func32, Tryz.ntmps32
 go_wp2_with fail
 clear x0 x1 x2 hW
 refine (oenter_any HOK.out hpc HT.out W (HGW.out W hBW) HGT.out).mono ?_
 rintro e V1 ⟨⟨gs, kb, L, lc, rfl, hgs, hkb, HLK, HM, HORD⟩, b1⟩
 rw [HL.out] at HORD
 have HLK := Lib.hid HLK
 have HM := Lib.hid HM
 have HORD := Lib.hid HORD
 have HB1 := Lib.hid b1
 have hkl : kb < V1.heap.size := HM.out.lt
 have hz1 := b1.size
 have hzW := hBW.size
 clear b1
 have hcall := ocan_any (lc := lc) HOK.out HLO.out hl9 (by decide) V1 HLK.out HM.out HORD.out
 rw [HCAN.out] at hcall
 have HC := Lib.hid hcall
 clear hcall
 go_wp2_with fail
 refine HC.out.mono ?_
 rintro e V2 ⟨rfl, hk2, hm2⟩
 rw [← hx] at HIN H19 HPT
 have hcall := oplan_any (lc := lc) HOK.out HLO.out hl9 (by decide) HIN.out H19.out HPT.out V2 (HLK.out.keptM hk2 (fun _ _ h => h)) hm2 (HORD.out.keep OrR11.good ⟨hk2.size, fun k hs hlt => hk2.block k hlt (fun h => hs.1 h)⟩)
 rw [hx] at hcall
 have HP := Lib.hid hcall
 have hz2 := hk2.size
 have HB2 : Hid (Below w.heap.size w V2) := (bl_call hBW HB1.out (Nat.le_refl _)).trans (hk2.below (by omega) (fun k h => by omega))
 clear hcall hk2 hm2 HC
 go_wp2_with fail
 refine HP.out.mono ?_
 rintro e V3 ⟨⟨A', n', c', rfl, hp3⟩, hk3, hm3⟩
 have HB3 : Hid (Below w.heap.size w V3) := HB2.out.trans (hk3.below (by omega) (fun k h => by omega))
 have HP3 : Hid (Pairs (fun k => w.heap.size ≤ k) V3 A' n' (planO s xs)) := hp3.mono PairR.good (fun k h => by omega)
 clear hp3 hk3 hm3 HP
 go_wp2
 go_ret2
 exact ⟨⟨A', n', c', rfl, HP3.out⟩, HB3.out⟩
open Go.RowKit Go.Shelf Go.Maps
def rowI (n : Nat) (a : List Int) : Array Value := rowC n (fun i => .int .i64 (a.getD i 0))
theorem rowI_made (n : Nat) : madeCells #[.int .i64 0] n = rowI n (List.replicate n 0) := by
 apply Array.ext'
 rw [toList_madeCells_one]
 show List.replicate n (Value.int .i64 0) = (List.range n).map (fun i => Value.int .i64 ((List.replicate n (0 : Int)).getD i 0))
 apply List.ext_getElem?
 intro i
 rw [List.getElem?_replicate, List.getElem?_map]
 by_cases h : i < n
 ·rw [if_pos h, List.getElem?_range h]
  simp [h]
 rw [if_neg h, List.getElem?_eq_none (by simp; omega)]; rfl
theorem getD_set (a : List Int) (p : Nat) (v : Int) (i : Nat) : (a.set p v).getD i 0 = if i = p ∧ p < a.length then v else a.getD i 0 := by
 rw [List.getD_eq_getElem?_getD, List.getD_eq_getElem?_getD, List.getElem?_set]
 by_cases h : p = i
 ·subst h
  by_cases hl : p < a.length
  ·simp [hl]
  simp [hl, List.getElem?_eq_none (Nat.le_of_not_lt hl)]
 rw [if_neg h, if_neg (fun e => h e.1.symm)]
theorem Blk.rowI_set {w : World} {g n : Nat} {t : TypeId} {a : List Int} (h : Blk w g t (rowI n a)) (hl : a.length = n) {p : Nat} (hp : p < n) (v : Int) : Blk (w.setCell ⟨g, p, none⟩ (.int .i64 v)) g t (rowI n (a.set p v)) := by
 refine Blk.rowEq (h.rowSet p (.int .i64 v)) fun i hi => ?_
 rw [getD_set]
 by_cases e : i = p
 ·subst e
  rw [if_pos rfl, if_pos ⟨rfl, by omega⟩]
 rw [if_neg e, if_neg (fun h => e h.1)]
def BdI (M : Int) (a : List Int) : Prop := ∀ i, -M ≤ a.getD i 0 ∧ a.getD i 0 ≤ M
theorem BdI.set {M M' : Int} {a : List Int} (h : BdI M a) (hM : M ≤ M') {p : Nat} {v : Int} (hv : -M' ≤ v ∧ v ≤ M') : BdI M' (a.set p v) := fun i => by
 rw [getD_set]
 split
 ·exact hv
 have := h i; omega
theorem BdI.mono {M M' : Int} {a : List Int} (h : BdI M a) (hM : M ≤ M') : BdI M' a := fun i => by have := h i; omega
def stepC (part : Nat) (batch : Int) (a : List Int) (x : Int × Int) : List Int := if x.1 = (part : Int) then a.set x.2.toNat (a.getD x.2.toNat 0 + batch) else a
def stepD (part : Nat) (a : List Int) (o : Ord11) : List Int := if o.part = (part : Int) then a.set o.due.toNat (a.getD o.due.toNat 0 - o.many) else a
def stepS (a : List Int) (d : Nat) : List Int := a.set (d + 1) (a.getD (d + 1) 0 + a.getD d 0)
theorem stepC_bd {part : Nat} {batch M : Int} (hb : 0 ≤ batch ∧ batch ≤ 50) (a : List Int) (x : Int × Int) (h : BdI M a) : BdI (M + 50) (stepC part batch a x) := by
 unfold stepC
 split
 ·have := h x.2.toNat
  exact h.set (by omega) (by omega)
 exact h.mono (by omega)
theorem stepD_bd {part : Nat} {M : Int} (a : List Int) (o : Ord11) (ho : 1 ≤ o.many ∧ o.many ≤ 50) (h : BdI M a) : BdI (M + 50) (stepD part a o) := by
 unfold stepD
 split
 ·have := h o.due.toNat
  exact h.set (by omega) (by omega)
 exact h.mono (by omega)
theorem stepS_bd {M : Int} (a : List Int) (d : Nat) (h : BdI M a) : BdI (2 * M) (stepS a d) := by
 have h0 := h 0
 have h1 := h (d + 1)
 have h2 := h d
 exact h.set (by omega) (by omega)
theorem stepC_len (part : Nat) (batch : Int) (a : List Int) (x : Int × Int) : (stepC part batch a x).length = a.length := by unfold stepC; split <;> simp
theorem stepD_len (part : Nat) (a : List Int) (o : Ord11) : (stepD part a o).length = a.length := by unfold stepD; split <;> simp
theorem stepS_len (a : List Int) (d : Nat) : (stepS a d).length = a.length := by unfold stepS; simp
theorem foldC_bd {part : Nat} {batch : Int} (hb : 0 ≤ batch ∧ batch ≤ 50) : ∀ (l : List (Int × Int)) (a : List Int) (M : Int), BdI M a → BdI (M + 50 * (l.length : Int)) (l.foldl (stepC part batch) a) ∧ (l.foldl (stepC part batch) a).length = a.length
 | [], a, M, h => ⟨h.mono (by simp), rfl⟩
 | x :: l, a, M, h => by
  have h1 := foldC_bd (part := part) hb l _ _ (stepC_bd (part := part) hb a x h)
  rw [List.foldl_cons]
  exact ⟨h1.1.mono (by rw [List.length_cons]; push_cast; omega), h1.2.trans (stepC_len _ _ _ _)⟩
theorem foldD_bd {part : Nat} : ∀ (l : List Ord11) (a : List Int) (M : Int), (∀ o ∈ l, 1 ≤ o.many ∧ o.many ≤ 50) → BdI M a → BdI (M + 50 * (l.length : Int)) (l.foldl (stepD part) a) ∧ (l.foldl (stepD part) a).length = a.length
 | [], a, M, _, h => ⟨h.mono (by simp), rfl⟩
 | x :: l, a, M, ho, h => by
  have h1 := foldD_bd (part := part) l _ _ (fun o h => ho o (List.mem_cons_of_mem _ h)) (stepD_bd (part := part) a x (ho x List.mem_cons_self) h)
  rw [List.foldl_cons]
  exact ⟨h1.1.mono (by rw [List.length_cons]; push_cast; omega), h1.2.trans (stepD_len _ _ _)⟩
def sumS (a : List Int) : Nat → List Int
 | 0 => a
 | k + 1 => stepS (sumS a k) k
theorem sumS_bd {M : Int} {a : List Int} (h : BdI M a) : ∀ k, BdI (M * 2 ^ k) (sumS a k) ∧ (sumS a k).length = a.length
 | 0 => ⟨by rw [Int.pow_zero, Int.mul_one]; exact h, rfl⟩
 | k + 1 => by
  obtain ⟨h1, h2⟩ := sumS_bd h k
  refine ⟨?_, (stepS_len _ _).trans h2⟩
  have := stepS_bd _ k h1
  rwa [show M * 2 ^ (k + 1) = 2 * (M * 2 ^ k) by rw [Int.pow_succ, Int.mul_comm (2 ^ k) 2, ← Int.mul_assoc, Int.mul_comm M 2, Int.mul_assoc]]
theorem rowI_ints {w : World} {g n : Nat} {t : TypeId} {a : List Int} (h : Blk w g t (rowI n a)) (hl : a.length = n) (hn : n ≤ maxLen) : Ints (fun _ => True) w (some ⟨g, 0, none⟩) n a := by
 refine ⟨hl, hn, fun k x hx => ?_⟩
 have hk := of_getq' hx
 refine ⟨g, 0, [.int .i64 x], rfl, trivial, h.lt, rfl, fun j u hu => ?_⟩
 cases j with
 | succ j => simp at hu
 | zero =>
  simp at hu
  subst hu
  have h3 : w.cell? ⟨g, k, none⟩ = some (.int .i64 (a.getD k 0)) := h.row (by omega)
  rw [getD_of hx] at h3
  simpa using h3
def keptR (s : Shop11) (l : List Ord11) (cs : List (Int × Int)) (part n : Nat) : List Int :=
 sumS (l.foldl (stepD part) (cs.foldl (stepC part (s.parts.getD part dPart).batch) ((List.replicate n 0).set 0 (s.parts.getD part dPart).stock))) (n - 1)
set_option maxRecDepth 100000 in
set_option maxHeartbeats 4000000 in
theorem oKept_any {s : Shop11} {l : List Ord11} {xs cs : List (Int × Int)} {H P Q T : Option Addr} {hn hc pn pc on oc tn tc part : Nat} {t : List Int} (hok : Ok11 s) (hpc : pn ≤ pc) (ht : TakenOk s t) (w : World) (g : ShopO (fun _ => True) w H hn P pn Q on s) (gt : Ints (fun _ => True) w T tn t) (hl : ordsL s t = l) (hlo : ∀ o ∈ l, OrdOk s o) (hl9 : l.length ≤ 9) (hcan : (lateR s l).2 = 0) (hx : listP s l hn = xs) (hin : InO xs) (h19 : xs.length ≤ 19) (hpt : ∀ x ∈ xs, 0 ≤ x.1 ∧ x.1 < pn) (hcs : planO s xs = cs) (hcd : ∀ x ∈ cs, 0 ≤ x.2 ∧ x.2 < hn) (hpart : part < pn) :
  Calls Tryz.prog 33 #[.agg #[.slice H hn hc, .slice P pn pc, .slice Q on oc], .slice T tn tc, .int .i64 (part : Int)] w fun e w' => (∃ A' c', e = .returned (.tuple #[.slice A' hn c', .int .i64 0]) ∧ Ints (fun _ => True) w' A' hn (keptR s l cs part hn)) ∧ Below w.heap.size w w' := by
 have hhn := g.hs.len
 have hpnl := g.ps.len
 have hnh := hok.nh
 have hnp := hok.np
 have hn20 : 1 ≤ hn ∧ hn ≤ 20 := by omega
 have hcl : cs.length = xs.length := by rw [← hcs, planO, List.length_map, List.length_range]
 have hcl19 : cs.length ≤ 19 := by omega
 have HCD := Lib.hid hcd
 have hhle := g.hs.le
 have hple := g.ps.le
 obtain ⟨pm, hpm⟩ : ∃ q : Nat, (pn : Int) - 1 = q := ⟨pn - 1, by omega⟩
 have w0 : IntKind.i64.wrap ((pn : Int) - 1) = (pm : Int) := by rw [hpm, IntKind.wrap_i64]; omega
 have hout : outB 0 (pm : Int) (part : Int) = false := outB_f (by omega)
 have HOUT := Lib.hid hout
 have hpi : (part : Int) < pn := by omega
 clear hout hpm hcl hcd
 have hmk := run_make_row' (P := Tryz.prog) 27 3 (.int .i64 0) 8 Tryz.underlying27 infoInt rfl .i64 .i64 hn (by omega) (by omega)
 rw [rowI_made] at hmk
 have HMK := Lib.hid hmk
 clear hmk
 obtain ⟨W, hW⟩ : ∃ W, w.alloc (.cells #[.slice H hn hc, .slice P pn pc, .slice Q on oc] 31) = W := ⟨_, rfl⟩
 have X : Blk W w.heap.size 31 #[.slice H hn hc, .slice P pn pc, .slice Q on oc] := by rw [← hW]; exact Blk.new _ _ _ rfl
 have hBW : Below w.heap.size w W := by rw [← hW]; exact bl_alloc (Below.refl _ _) _ (Nat.le_refl _)
 have HGW : Hid (∀ V, Below w.heap.size w V → ShopO (fun _ => True) V H hn P pn Q on s) := fun V hb => g.bl hb
 have HGT : Hid (Ints (fun _ => True) W T tn t) := gt.keep IntR.good (Keeps.below hBW)
 have HX := Lib.hid X
 have HOK := Lib.hid hok
 have HT := Lib.hid ht
 have HLO := Lib.hid hlo
 have HL := Lib.hid hl
 have HCAN := Lib.hid hcan
 have HIN := Lib.hid hin
 have H19 := Lib.hid h19
 have HPT := Lib.hid hpt
 have x0 := X.cell 0
 have x1 := X.cell 1
 have x2 := X.cell 2
 have hXl := X.lt
 clear g gt X hok ht hlo hl hcan hin h19 hpt
 have HKX : Hid (∀ V, Below w.heap.size w V → True) := fun _ _ => trivial
 go_enter Tryz.func33, Tryz.ntmps33
 go_wp2_with fail
 clear x0 x1 x2 hW
 refine (oenter_any HOK.out hpc HT.out W (HGW.out W hBW) HGT.out).mono ?_
 rintro e V1 ⟨⟨gs, kb, L, lc, rfl, hgs, hkb, HLK, HM, HORD⟩, b1⟩
 rw [HL.out] at HORD
 have HLK := Lib.hid HLK
 have HM := Lib.hid HM
 have HORD := Lib.hid HORD
 have HB1 := Lib.hid b1
 have hkl : kb < V1.heap.size := HM.out.lt
 have hz1 := b1.size
 have hzW := hBW.size
 clear b1
 obtain ⟨gc, hgc⟩ : ∃ q, w.heap.size = q := ⟨_, rfl⟩
 have HGC := Lib.hid hgc
 rw [hgc] at HX hXl
 rw [hgc]
 have HXW : Hid (∀ V, Below W.heap.size W V → Blk V gc 31 #[.slice H hn hc, .slice P pn pc, .slice Q on oc]) := fun V hb => HX.out.bl hb
 have y1 := (HXW.out V1 HB1.out).cell 1
 clear hgc
 go_wp2_with fail
 refine (oout1 _ (by exact newc rfl rfl) HOUT.out).mono ?_
 rintro e V2 ⟨rfl, b2⟩
 have b12 : Below V1.heap.size V1 V2 := bl_call (bl_alloc (Below.refl _ _) _ (Nat.le_refl _)) b2 (Nat.le_refl _)
 have HB12 := Lib.hid b12
 have hz12 := b12.size
 have hLK2 := HLK.out.bl b12
 have hM2 := HM.out.bl b12
 have hO2 : Ords11 (fun k => k ≠ kb ∧ k < V1.heap.size) V2 L tn l := HORD.out.keep OrR11.good (Keeps.below b12)
 have hcall := ocan_any (lc := lc) HOK.out HLO.out hl9 (by decide) V2 hLK2 hM2 hO2
 rw [HCAN.out] at hcall
 have HC := Lib.hid hcall
 have HLK2 := Lib.hid hLK2
 have HO2 := Lib.hid hO2
 clear hcall b2 b12 y1 hLK2 hM2 hO2
 go_wp2_with fail
 refine HC.out.mono ?_
 rintro e V3 ⟨rfl, hk3, hm3⟩
 have hLK3 := HLK2.out.keptM hk3 (fun _ _ h => h)
 have hO3 : Ords11 (fun k => k ≠ kb ∧ k < V1.heap.size) V3 L tn l := HO2.out.keep OrR11.good ⟨hk3.size, fun k hs hlt => hk3.block k hlt (fun h => hs.1 h)⟩
 have hz3 := hk3.size
 have hB3 : Below W.heap.size W V3 := (bl_call HB1.out HB12.out (Nat.le_refl _)).trans (hk3.below (by omega) (fun k h => by have := HGC.out; omega))
 have HB3 := Lib.hid hB3
 have HLK3 := Lib.hid hLK3
 have HO3 := Lib.hid hO3
 have HM3 := Lib.hid hm3
 have X3 := HXW.out V3 hB3
 have y0 := X3.cell 0
 have y1 := X3.cell 1
 have hmk := HMK.out V3
 obtain ⟨gk, hgk⟩ : ∃ q, V3.heap.size = q := ⟨_, rfl⟩
 obtain ⟨V4, hV4⟩ : ∃ V, V3.alloc (.cells (rowI hn (List.replicate hn 0)) 3) = V := ⟨_, rfl⟩
 rw [hV4, hgk] at hmk
 have hB34 : Below V3.heap.size V3 V4 := by rw [← hV4]; exact bl_alloc (Below.refl _ _) _ (Nat.le_refl _)
 have hK4 : Blk V4 gk 3 (rowI hn (List.replicate hn 0)) := by rw [← hV4]; exact Blk.new _ _ _ hgk.symm
 have hB4 : Below W.heap.size W V4 := bl_call hB3 hB34 (Nat.le_refl _)
 have X4 := HXW.out V4 hB4
 have z0 := X4.cell 0
 have z1 := X4.cell 1
 obtain ⟨b, off, sn, pbat, plong, pst, rfl, hbb, p0, p1, p2, p3, hps, Hy⟩ := Parts.get (HGW.out V4 (bl_call hBW hB4 (Nat.le_refl _))).ps hpart
 obtain ⟨⟨pb0, pb1⟩, _, ps0, ps1⟩ := HOK.out.parts _ (List.mem_of_getElem? Hy.out)
 dsimp only at pb0 pb1 ps0 ps1
 have HPB : Hid ((s.parts.getD part dPart).batch = pbat ∧ (s.parts.getD part dPart).stock = pst) := by rw [Hid, getD_of Hy.out]; exact ⟨rfl, rfl⟩
 have hc0 : V4.cell? ⟨gk, 0, none⟩ = some (.int .i64 ((List.replicate hn (0 : Int)).getD 0 0)) := hK4.row (by omega)
 have hf0 := hK4.frozen 0
 have hl0 := hK4.lt
 have HK4 := Lib.hid hK4
 have HB34 := Lib.hid hB34
 have HB4 := Lib.hid hB4
 have HGK := Lib.hid hgk
 have hn0 : (0 : Int) < hn := by omega
 obtain ⟨V5, hV5⟩ : ∃ V, V4.setCell ⟨gk, 0, none⟩ (.int .i64 pst) = V := ⟨_, rfl⟩
 have hk45 : Kept (fun q => q = gk) V4 V5 := by rw [← hV5]; exact Kept.setCell (M := fun q => q = gk) V4 ⟨gk, 0, none⟩ (.int .i64 pst) rfl
 obtain ⟨A0, hA0⟩ : ∃ a, (List.replicate hn (0 : Int)).set 0 pst = a := ⟨_, rfl⟩
 have hK5 : Blk V5 gk 3 (rowI hn A0) := by rw [← hV5, ← hA0]; exact HK4.out.rowI_set (by simp) (by omega) pst
 have hA0l : A0.length = hn := by rw [← hA0]; simp
 have hA0b : BdI 50 A0 := by
  rw [← hA0]
  refine BdI.set (M := 0) (fun i => ?_) (by omega) (by omega)
  rw [List.getD_eq_getElem?_getD, List.getElem?_replicate]
  split <;> simp
 have HA0 : Hid ((List.replicate hn (0 : Int)).set 0 (s.parts.getD part dPart).stock = A0) := by rw [Hid, HPB.out.2]; exact hA0
 have hgkV : V1.heap.size ≤ gk := by have := HGK.out; omega
 have hLK5 : LookK V5 V1.heap.size gs kb H hn hc (some ⟨b, off, none⟩) pn pc Q on oc s := (HLK3.out.bl HB34.out).keptM hk45 (fun q hq h => by omega)
 have hM5 : MapC s V5 kb (0 + 20) := (HM3.out.bl HB34.out).at (hk45.block kb (by have := HM3.out.lt; have := HB34.out.size; omega) (fun h => by omega))
 have hO5 : Ords11 (fun k => k ≠ kb ∧ k < V1.heap.size) V5 L tn l := (HO3.out.keep OrR11.good (Keeps.below HB34.out)).keep OrR11.good ⟨hk45.size, fun q hs hlt => hk45.block q hlt (fun h => by have := hs.2; omega)⟩
 have hpcell : Hid (∀ V, Below w.heap.size w V → V.cell? ⟨b, off + part * 4 + 1, none⟩ = some (.int .i64 pbat)) := fun V hb => by
  obtain ⟨b3, off3, s3, a3, z3, y3, h3, _, _, h4, _, _, _, h5⟩ := Parts.get (HGW.out V hb).ps hpart
  injection h3 with h3
  injection h3 with h3 h6 _
  subst h3 h6
  have e := Hy.out.symm.trans h5.out
  injection e with e
  injection e with _ e1 _ _
  rw [e1]; exact h4
 rw [← hx] at HIN H19 HPT
 have hcall := oplan_any (lc := lc) HOK.out HLO.out hl9 (by decide) HIN.out H19.out HPT.out V5 hLK5 hM5 hO5
 rw [hx, hcs] at hcall
 have HP := Lib.hid hcall
 have hB5 : Below W.heap.size W V5 := HB4.out.trans (hk45.below HB4.out.size (fun q h => by omega))
 have HB5 := Lib.hid hB5
 have HK5 := Lib.hid hK5
 have HO5 := Lib.hid hO5
 have hV5l : gk < V5.heap.size := hK5.lt
 have HA0l := Lib.hid hA0l
 have HA0b := Lib.hid hA0b
 clear hk3 hm3 HC hLK3 hO3 hB3 X3 X4 hK4 hB34 hB4 hgk hcall hk45 hK5 hLK5 hM5 hO5 hB5 hA0 hA0l hA0b
 go_wp2_with fail
 clear p0 p1 p2 p3 y0 y1 z0 z1 hc0 hf0 hl0 hmk hV4 hV5
 refine HP.out.mono ?_
 rintro e V6 ⟨⟨A', n', c', rfl, hp6⟩, hk6, hm6⟩
 have hn' : cs.length = n' := hp6.len
 have HP6 : Hid (∀ V, Kept (fun q => q = gk) V6 V → Pairs (fun _ => True) V A' n' cs) := fun V hk => (hp6.keep PairR.good ⟨hk.size, fun q hs hlt => hk.block q hlt (fun h => by omega)⟩).mono PairR.good (fun _ _ => trivial)
 have hz6 := hk6.size
 have HBX : Hid (∀ V, Kept (fun q => q = gk) V6 V → Below W.heap.size W V) := fun V hk => (HB5.out.trans (hk6.below HB5.out.size (fun q h => by omega))).trans (hk.below (by have := HB5.out.size; omega) (fun q h => by omega))
 have HBw : Hid (∀ V, Kept (fun q => q = gk) V6 V → Below w.heap.size w V) := fun V hk => bl_call hBW (HBX.out V hk) (Nat.le_refl _)
 have HO6 : Hid (∀ V, Kept (fun q => q = gk) V6 V → Ords11 (fun k => k ≠ kb ∧ k < V1.heap.size) V L tn l) := fun V hk => (HO5.out.keep OrR11.good ⟨hk6.size, fun q hs hlt => hk6.block q hlt (fun h => hs.1 h)⟩).keep OrR11.good ⟨hk.size, fun q hs hlt => hk.block q hlt (fun h => by have := hs.2; omega)⟩
 have HK6 : Hid (Blk V6 gk 3 (rowI hn A0)) := HK5.out.kept hk6 (fun h => by omega)
 have hn19 : n' ≤ 19 := by omega
 have hle6 := hp6.le
 have HNN := Lib.hid hn'
 clear hp6 hk6 hm6 HP hn'
 go_wp2
 go_loopw [55] (fun i' wr => ∃ k : Nat, k ≤ n' ∧ i' = .int .i64 k ∧ Hid (Kept (fun q => q = gk) V6 wr) ∧ Hid (Blk wr gk 3 (rowI hn ((cs.take k).foldl (stepC part pbat) A0)))) (fun i' _ => n' - (intOf i').toNat)
 case atStart => exact ⟨0, Nat.zero_le _, rfl, Kept.refl _ _, HK6.out⟩
 case round =>
  obtain ⟨wo, hwo⟩ : ∃ V, V = wr := ⟨_, rfl⟩
  rw [← hwo] at hrel ⊢
  clear hwo
  obtain ⟨k, hk, rfl, HKo, HRo⟩ := hrel
  by_cases hlt : k < n'
  ·have hki : (k : Int) < n' := by omega
   obtain ⟨b4, off4, p, d', rfl, hb4, hc0, hc1, Hx⟩ := Pairs.get (HP6.out wo HKo.out) hlt
   have hdb := HCD.out _ (List.mem_of_getElem? Hx.out)
   dsimp only at hdb
   obtain ⟨d, rfl⟩ : ∃ d : Nat, d' = d := ⟨d'.toNat, by omega⟩
   have hdn : d < hn := by omega
   have hdi : (d : Int) < hn := by omega
   obtain ⟨hbd, hlen⟩ := foldC_bd (part := part) (batch := pbat) (by omega) (cs.take k) A0 50 HA0b.out
   rw [HA0l.out] at hlen
   obtain ⟨AK, hAK⟩ : ∃ a, (cs.take k).foldl (stepC part pbat) A0 = a := ⟨_, rfl⟩
   rw [hAK] at hbd hlen HRo
   have hb1 := hbd d
   have htl : ((cs.take k).length : Int) ≤ 19 := by rw [List.length_take]; omega
   obtain ⟨v, hv⟩ : ∃ v, AK.getD d 0 = v := ⟨_, rfl⟩
   rw [hv] at hb1
   obtain ⟨nv, hnv⟩ : ∃ q, v + pbat = q := ⟨_, rfl⟩
   have w1 : IntKind.i64.wrap (v + pbat) = nv := by rw [hnv, IntKind.wrap_i64]; omega
   have HST : Hid ((cs.take (k + 1)).foldl (stepC part pbat) A0 = if p = (part : Int) then AK.set d nv else AK) := by
    rw [Hid, take_snoc_get Hx.out, List.foldl_append, hAK]
    show stepC part pbat AK (p, (d : Int)) = _
    unfold stepC
    dsimp only
    rw [Int.toNat_natCast, hv, hnv]
   obtain ⟨V, hV⟩ : ∃ V, wo.alloc (.cells #[.int .i64 p, .int .i64 (d : Int)] 88) = V := ⟨_, rfl⟩
   obtain ⟨gx, hgx⟩ : ∃ q, wo.heap.size = q := ⟨_, rfl⟩
   have XV : Blk V gx 88 #[.int .i64 p, .int .i64 (d : Int)] := by rw [← hV]; exact Blk.new _ _ _ hgx.symm
   have hkV : Kept (fun q => q = gk) V6 V := by rw [← hV]; exact HKo.out.trans (Kept.alloc _ _ _)
   have hRV : Blk V gk 3 (rowI hn AK) := by rw [← hV]; exact HRo.out.alloc _
   have v0 := XV.cell 0
   have v1 := XV.cell 1
   have cd : V.cell? ⟨gk, d, none⟩ = some (.int .i64 v) := by rw [← hv]; exact hRV.row hdn
   have fd := hRV.frozen d
   have hgl := hRV.lt
   have HKV := Lib.hid hkV
   have HRV := Lib.hid hRV
   have HLE := Lib.hid hlen
   have gc1 := (HXW.out V (HBX.out V hkV)).cell 1
   have pc1 := hpcell.out V (HBw.out V hkV)
   clear hdb hbd hlen hb1 hv hnv XV hkV hRV htl hAK
   by_cases hp : p = (part : Int)
   ·have hpb : (p == (part : Int)) = true := by simpa using hp
    have HP1 := Lib.hid hp
    clear hp
    go_wp2
    clear hc0 hc1 hV hgx
    go_still_tail 13, (by kernel_rfl)
    go_wp2
    go_roundw
    case rel =>
     refine ⟨k + 1, by omega, by go_num, (HKV.out.trans (Kept.setCell (M := fun q => q = gk) V ⟨gk, d, none⟩ (.int .i64 nv) rfl)).trans (Kept.drew _ _), ?_⟩
     rw [Hid, HST.out, if_pos HP1.out]
     exact (HRV.out.rowI_set HLE.out hdn nv).drew
    case measure => simp [intOf]; omega
   have hpb : (p == (part : Int)) = false := by simpa using hp
   have HP1 := Lib.hid hp
   clear hp
   go_wp2
   clear hc0 hc1 hV hgx
   go_roundw
   case rel => exact ⟨k + 1, by omega, by go_num, HKV.out, by rw [HST.out, if_neg HP1.out]; exact HRV.out⟩
   case measure => simp [intOf]; omega
  obtain rfl : k = n' := by omega
  rw [List.take_of_length_le (by rw [HNN.out]; exact Nat.le_refl _)] at HRo
  obtain ⟨hbd, hlen⟩ := foldC_bd (part := part) (batch := pbat) (by omega) cs A0 50 HA0b.out
  rw [HA0l.out] at hlen
  obtain ⟨A1, hA1⟩ : ∃ a, cs.foldl (stepC part pbat) A0 = a := ⟨_, rfl⟩
  rw [hA1] at hbd hlen HRo
  have HA1 := Lib.hid hA1
  have HA1l := Lib.hid hlen
  have HA1b : Hid (BdI 1000 A1) := hbd.mono (by omega)
  have HTN : Hid (l.length = tn) := (HO6.out wo HKo.out).len
  have htle := (HO6.out wo HKo.out).le
  have htn9 : tn ≤ 9 := by have := HTN.out; omega
  clear hA1 hlen hbd
  go_wp2
  go_loopw [79] (fun i' wr => ∃ j : Nat, j ≤ tn ∧ i' = .int .i64 j ∧ Hid (Kept (fun q => q = gk) V6 wr) ∧ Hid (Blk wr gk 3 (rowI hn ((l.take j).foldl (stepD part) A1)))) (fun i' _ => tn - (intOf i').toNat)
  case atStart => exact ⟨0, Nat.zero_le _, rfl, HKo.out, HRo.out⟩
  case round =>
   obtain ⟨wi, hwi⟩ : ∃ V, V = wr := ⟨_, rfl⟩
   rw [← hwi] at hrel ⊢
   clear hwi
   obtain ⟨j, hj, rfl, HKi, HRi⟩ := hrel
   by_cases hjt : j < tn
   ·have hji : (j : Int) < tn := by omega
    obtain ⟨b4, off4, p, m, d', u, rfl, hb4, hc0, hc1, hc2, hc3, Hx⟩ := Ords11.get (HO6.out wi HKi.out) hjt
    obtain ⟨_, ⟨hm0, hm1⟩, ⟨hd0, hd1⟩, _⟩ := HLO.out _ (List.mem_of_getElem? Hx.out)
    dsimp only at hm0 hm1 hd0 hd1
    obtain ⟨d, rfl⟩ : ∃ d : Nat, d' = d := ⟨d'.toNat, by omega⟩
    have hdn : d < hn := by omega
    have hdi : (d : Int) < hn := by omega
    obtain ⟨hbd, hlen⟩ := foldD_bd (part := part) (l.take j) A1 1000 (fun o ho => (HLO.out o (List.mem_of_mem_take ho)).2.1) HA1b.out
    rw [HA1l.out] at hlen
    obtain ⟨AK, hAK⟩ : ∃ a, (l.take j).foldl (stepD part) A1 = a := ⟨_, rfl⟩
    rw [hAK] at hbd hlen HRi
    have hb1 := hbd d
    have htl : ((l.take j).length : Int) ≤ 9 := by rw [List.length_take]; omega
    obtain ⟨v, hv⟩ : ∃ v, AK.getD d 0 = v := ⟨_, rfl⟩
    rw [hv] at hb1
    obtain ⟨nv, hnv⟩ : ∃ q, v - m = q := ⟨_, rfl⟩
    have w1 : IntKind.i64.wrap (v - m) = nv := by rw [hnv, IntKind.wrap_i64]; omega
    have HST : Hid ((l.take (j + 1)).foldl (stepD part) A1 = if p = (part : Int) then AK.set d nv else AK) := by
     rw [Hid, take_snoc_get Hx.out, List.foldl_append, hAK]
     show stepD part AK ⟨p, m, (d : Int), u⟩ = _
     unfold stepD
     dsimp only
     rw [Int.toNat_natCast, hv, hnv]
    obtain ⟨V, hV⟩ : ∃ V, wi.alloc (.cells #[.int .i64 p, .int .i64 m, .int .i64 (d : Int), .int .i64 u] 61) = V := ⟨_, rfl⟩
    obtain ⟨gx, hgx⟩ : ∃ q, wi.heap.size = q := ⟨_, rfl⟩
    have XV : Blk V gx 61 #[.int .i64 p, .int .i64 m, .int .i64 (d : Int), .int .i64 u] := by rw [← hV]; exact Blk.new _ _ _ hgx.symm
    have hkV : Kept (fun q => q = gk) V6 V := by rw [← hV]; exact HKi.out.trans (Kept.alloc _ _ _)
    have hRV : Blk V gk 3 (rowI hn AK) := by rw [← hV]; exact HRi.out.alloc _
    have v0 := XV.cell 0
    have v1 := XV.cell 1
    have v2 := XV.cell 2
    have cd : V.cell? ⟨gk, d, none⟩ = some (.int .i64 v) := by rw [← hv]; exact hRV.row hdn
    have fd := hRV.frozen d
    have hgl := hRV.lt
    have HKV := Lib.hid hkV
    have HRV := Lib.hid hRV
    have HLE := Lib.hid hlen
    clear hm0 hm1 hd0 hd1 hbd hlen hb1 hv hnv XV hkV hRV htl hAK
    by_cases hp : p = (part : Int)
    ·have hpb : (p == (part : Int)) = true := by simpa using hp
     have HP1 := Lib.hid hp
     clear hp
     go_wp2
     clear hc0 hc1 hc2 hc3 hV hgx
     go_still_tail 9, (by kernel_rfl)
     go_wp2
     go_roundw
     case rel =>
      refine ⟨j + 1, by omega, by go_num, (HKV.out.trans (Kept.setCell (M := fun q => q = gk) V ⟨gk, d, none⟩ (.int .i64 nv) rfl)).trans (Kept.drew _ _), ?_⟩
      rw [Hid, HST.out, if_pos HP1.out]
      exact (HRV.out.rowI_set HLE.out hdn nv).drew
     case measure => simp [intOf]; omega
    have hpb : (p == (part : Int)) = false := by simpa using hp
    have HP1 := Lib.hid hp
    clear hp
    go_wp2
    clear hc0 hc1 hc2 hc3 hV hgx
    go_roundw
    case rel => exact ⟨j + 1, by omega, by go_num, HKV.out, by rw [HST.out, if_neg HP1.out]; exact HRV.out⟩
    case measure => simp [intOf]; omega
   obtain rfl : j = tn := by omega
   rw [List.take_of_length_le (by rw [HTN.out]; exact Nat.le_refl _)] at HRi
   obtain ⟨hbd, hlen⟩ := foldD_bd (part := part) l A1 1000 (fun o ho => (HLO.out o ho).2.1) HA1b.out
   rw [HA1l.out] at hlen
   obtain ⟨A2, hA2⟩ : ∃ a, l.foldl (stepD part) A1 = a := ⟨_, rfl⟩
   rw [hA2] at hbd hlen HRi
   have HA2 := Lib.hid hA2
   have HA2l := Lib.hid hlen
   have HA2b : Hid (BdI 1450 A2) := hbd.mono (by omega)
   have HRES : Hid (sumS A2 (hn - 1) = keptR s l cs part hn) := by rw [Hid, keptR, HPB.out.1, HA0.out, HA1.out, HA2.out]
   obtain ⟨hm, hhm⟩ : ∃ q : Nat, (hn : Int) - 1 = q := ⟨hn - 1, by omega⟩
   have w2 : IntKind.i64.wrap ((hn : Int) - 1) = (hm : Int) := by rw [hhm, IntKind.wrap_i64]; omega
   have hhm1 : hm + 1 = hn := by omega
   have HHM := Lib.hid hhm1
   clear hA2 hlen hbd hhm1
   go_wp2
   clear w2
   go_loopw [100] (fun i' wr => ∃ q : Nat, q ≤ hm ∧ i' = .int .i64 q ∧ Hid (Kept (fun q => q = gk) V6 wr) ∧ Hid (Blk wr gk 3 (rowI hn (sumS A2 q)))) (fun i' _ => hm - (intOf i').toNat)
   case atStart => exact ⟨0, Nat.zero_le _, rfl, HKi.out, HRi.out⟩
   case round =>
    obtain ⟨wu, hwu⟩ : ∃ V, V = wr := ⟨_, rfl⟩
    rw [← hwu] at hrel ⊢
    clear hwu
    obtain ⟨q, hq, rfl, HKu, HRu⟩ := hrel
    by_cases hqt : q < hm
    ·have hqi : (q : Int) < hm := by omega
     have hhm1 := HHM.out
     obtain ⟨hbd, hlen⟩ := sumS_bd HA2b.out q
     rw [HA2l.out] at hlen
     obtain ⟨AK, hAK⟩ : ∃ a, sumS A2 q = a := ⟨_, rfl⟩
     rw [hAK] at hbd hlen HRu
     have hpow : (2 : Int) ^ q ≤ 524288 := by
      have h1 : (2 : Nat) ^ q ≤ 2 ^ 19 := Nat.pow_le_pow_right (by decide) (by omega)
      have h2 : ((2 : Int) ^ q) = ((2 ^ q : Nat) : Int) := by push_cast; rfl
      rw [h2]; omega
     have hb1 := hbd q
     have hb2 := hbd (q + 1)
     obtain ⟨PW, hPW⟩ : ∃ x : Int, 2 ^ q = x := ⟨_, rfl⟩
     rw [hPW] at hb1 hb2 hpow
     obtain ⟨v, hv⟩ : ∃ v, AK.getD q 0 = v := ⟨_, rfl⟩
     obtain ⟨u, hu⟩ : ∃ v, AK.getD (q + 1) 0 = v := ⟨_, rfl⟩
     rw [hv] at hb1
     rw [hu] at hb2
     obtain ⟨nv, hnv⟩ : ∃ q, u + v = q := ⟨_, rfl⟩
     have w1 : IntKind.i64.wrap (u + v) = nv := by rw [hnv, IntKind.wrap_i64]; omega
     obtain ⟨q1, hq1e⟩ : ∃ x, q + 1 = x := ⟨_, rfl⟩
     rw [hq1e] at hu
     have HST : Hid (sumS A2 (q + 1) = AK.set q1 nv) := by
      rw [Hid, sumS, hAK, stepS, hv, hq1e, hu, hnv]
     have wq : IntKind.i64.wrap ((q : Int) + 1) = (q1 : Int) := by rw [IntKind.wrap_i64]; omega
     have hq1 : q1 < hn := by omega
     have hq0 : q < hn := by omega
     have hq1i : (q1 : Int) < hn := by omega
     have hq0i : (q : Int) < hn := by omega
     have cd : wu.cell? ⟨gk, q, none⟩ = some (.int .i64 v) := by rw [← hv]; exact HRu.out.row hq0
     have ce : wu.cell? ⟨gk, q1, none⟩ = some (.int .i64 u) := by rw [← hu]; exact HRu.out.row hq1
     have fd := HRu.out.frozen q1
     have hgl := HRu.out.lt
     have HLE := Lib.hid hlen
     have HQ1 := Lib.hid hq1e
     clear hbd hlen hb1 hb2 hpow hPW hv hu hnv hAK hhm1 hq1e
     go_wp2
     go_still_tail 11, (by kernel_rfl)
     go_wp2
     go_roundw
     case rel =>
      rw [HQ1.out] at HST
      refine ⟨q1, by have := HQ1.out; omega, rfl, (HKu.out.trans (Kept.setCell (M := fun q => q = gk) wu ⟨gk, q1, none⟩ (.int .i64 nv) rfl)).trans (Kept.drew _ _), ?_⟩
      rw [Hid, HST.out]
      exact (HRu.out.rowI_set HLE.out hq1 nv).drew
     case measure => simp [intOf]; have := HQ1.out; omega
    obtain rfl : q = hm := by omega
    have HFIN : Hid (Ints (fun _ => True) wu (some ⟨gk, 0, none⟩) hn (keptR s l cs part hn)) := by
     have h1 := rowI_ints HRu.out ((sumS_bd HA2b.out q).2.trans HA2l.out) (by simp only [maxLen]; omega)
     rw [← HRES.out, show hn - 1 = q by have := HHM.out; omega]
     exact h1
    have HBF := Lib.hid (HBw.out wu HKu.out)
    go_wp2
    go_ret2
    exact ⟨⟨_, _, rfl, HFIN.out⟩, HBF.out⟩
end Go.Proofs.YtkpbchnggdnmaaaGreat
