/- A part of the proof that TopWorn always answers true. -/
import Derived.RangeFuncKeeps
import Derived.OwnWalkIn
import Derived.TacticsInMore
import Derived.LoopNIn
import Derived.LoopIn
import Derived.Test.YtdbfincinjoppabGreatDoorCBackPure4
import Derived.Test.YtdbfincinjoppabGreatDoorCProg6
import Derived.Test.YtdbfincinjoppabGreatDoorCRegion
set_option linter.all false
namespace Go.Proofs.YtdbfincinjoppabGreatDoor
open Go.RowKit Go.Shelf
attribute [local go_sem] Oper.semAt_some
def fiveC (ts : List Int) : Array Value := (ts.map (Value.int .i64)).toArray
def tv (t : List Int) : Value := .agg #[.int .i64 (t.getD 0 0), .int .i64 (t.getD 1 0), .int .i64 (t.getD 2 0), .int .i64 (t.getD 3 0), .int .i64 (t.getD 4 0)]
theorem fiveC_set (ts : List Int) (i : Nat) (v : Int) : (fiveC ts).setIfInBounds i (.int .i64 v) = fiveC (ts.set i v) := by
 unfold fiveC; apply Array.ext_getElem?; intro j; simp [List.getElem?_set]
theorem fiveC_get {ts : List Int} {i : Nat} (h : i < ts.length) : ∃ v, (fiveC ts)[i]? = some (.int .i64 v) := ⟨ts[i], by simp [fiveC, h]⟩
structure FillSt (w : World) (O : Foot) (l gc gy gt gf : Nat) (ts : List Int) : Prop where
 y : Blk w gy 139 #[.func (.yield l) #[] #[]]
 f : Blk w gf 159 #[.func (.func 88) #[] #[.pointer (some ⟨gc, 0, none⟩), .pointer (some ⟨gy, 0, none⟩), .pointer (some ⟨gt, 0, none⟩), .pointer (some ⟨gf, 0, none⟩)]]
 t : Blk w gt 98 (fiveC ts)
 oy : ¬ O gy
 of : ¬ O gf
 ot : ¬ O gt
 yt : gy ≠ gt
 ft : gf ≠ gt
theorem FillSt.kept {w w' : World} {O O' : Foot} {l gc gy gt gf : Nat} {ts : List Int} (h : FillSt w O l gc gy gt gf ts) (hk : Kept O w w') (hO : ∀ k, O' k → O k ∨ (w.heap.size ≤ k ∧ k < w'.heap.size)) : FillSt w' O' l gc gy gt gf ts :=
  ⟨(hk.block gy h.y.lt h.oy).trans h.y, (hk.block gf h.f.lt h.of).trans h.f, (hk.block gt h.t.lt h.ot).trans h.t,
   fun hh => (hO _ hh).elim h.oy (fun h2 => by have := h.y.lt; omega), fun hh => (hO _ hh).elim h.of (fun h2 => by have := h.f.lt; omega), fun hh => (hO _ hh).elim h.ot (fun h2 => by have := h.t.lt; omega), h.yt, h.ft⟩
theorem FillSt.put {w : World} {O : Foot} {l gc gy gt gf : Nat} {ts : List Int} (h : FillSt w O l gc gy gt gf ts) (i : Nat) (v : Int) : FillSt (w.setCell ⟨gt, i, none⟩ (.int .i64 v)) O l gc gy gt gf (ts.set i v) :=
 ⟨h.y.far (by exact h.yt) _, h.f.far (by exact h.ft) _, by rw [← fiveC_set]; exact h.t.set_ i _, h.oy, h.of, h.ot, h.yt, h.ft⟩
theorem Kept.orL {M N : Foot} {a b : World} (h : Kept M a b) : Kept (fun k => M k ∨ N k) a b := h.mono fun _ _ h => .inl h
theorem Kept.orR {M N : Foot} {a b : World} (h : Kept N a b) : Kept (fun k => M k ∨ N k) a b := h.mono fun _ _ h => .inr h
structure BoxAt (w : World) (gc : Nat) (A : Option Addr) (n ca : Nat) (B : Option Addr) (m cb : Nat) (C : Option Addr) (q cc : Nat) (c : Claim) : Prop where
 box : Blk w gc 95 #[.slice A n ca, .slice B m cb, .slice C q cc]
 at_ : ClaimAt (fun _ => True) w A n B m C q c
def RoundWord (l : Nat) (O0 : Foot) (J : Nat → Foot → World → Prop) (Jx : Foot → World → Prop) (W : World) (L : List (List Int)) : Prop :=
 ∀ i x O A, L[i]? = some x → J i O A → (∀ k, O k → k < A.heap.size) → (∀ k, O k → O0 k ∨ W.heap.size ≤ k) → Kept (fun k => O0 k ∨ W.heap.size ≤ k) W A →
  ∀ m, YieldAt Fence.wide m Tryz.prog l #[tv x] A fun e B => ∃ O' : Foot, (∀ k, O' k → O k ∨ (A.heap.size ≤ k ∧ k < B.heap.size)) ∧ Kept O A B ∧
   ((e = .returned (.bool true) ∧ J (i + 1) O' B) ∨ (e = .returned (.bool false) ∧ Jx O' B))
def Stays (J : Foot → World → Prop) : Prop := ∀ O A B, J O A → (∀ k, O k → k < A.heap.size) → Kept (fun k => ¬ O k) A B → J O B
def FillPost (J : Nat → Foot → World → Prop) (Jx : Foot → World → Prop) (l gc gy gt gf mm : Nat) (p : List Int) (s : Nat) (O : Foot) (A : World) (e : Ending) (B : World) : Prop :=
 ∃ O' : Foot, (∀ k, O' k → O k ∨ (A.heap.size ≤ k ∧ k < B.heap.size)) ∧ Kept (fun k => O k ∨ k = gt) A B ∧ (∃ ts, Five mm p ts ∧ FillSt B O' l gc gy gt gf ts) ∧
  ((e = .returned (.bool true) ∧ J s O' B) ∨ (e = .returned (.bool false) ∧ Jx O' B))
set_option maxRecDepth 100000 in
set_option maxHeartbeats 4000000 in
theorem fill_in {A0 B0 C0 : Option Addr} {n ca mm cb q cc : Nat} {c : Claim} (hok : OkC c) (l gc gy gt gf : Nat) (O0 : Foot) (J : Nat → Foot → World → Prop) (Jx : Foot → World → Prop) (W : World) (L : List (List Int))
  (hInv : ∀ A, Kept (fun k => O0 k ∨ W.heap.size ≤ k) W A → BoxAt A gc A0 n ca B0 mm cb C0 q cc c) (hgt : W.heap.size ≤ gt)
  (hJ : ∀ i, Stays (J i)) (hR : RoundWord l O0 J Jx W L) (rest : List Cause) :
  ∀ (p : List Int) (i s : Nat) (O : Foot) (A : World) (ts : List Int), c.causes.drop i = rest → p.length = i → i ≤ mm → Five mm p ts → (∀ j u, (exts rest)[j]? = some u → L[s + j]? = some (p ++ u)) →
   J s O A → (∀ k, O k → k < A.heap.size) → (∀ k, O k → O0 k ∨ W.heap.size ≤ k) → Kept (fun k => O0 k ∨ W.heap.size ≤ k) W A → FillSt A O l gc gy gt gf ts →
   ∀ N, CallsIn Fence.wide N Tryz.prog 88 #[.int .i64 i, .pointer (some ⟨gc, 0, none⟩), .pointer (some ⟨gy, 0, none⟩), .pointer (some ⟨gt, 0, none⟩), .pointer (some ⟨gf, 0, none⟩)] A
    (FillPost J Jx l gc gy gt gf mm p (s + (exts rest).length) O A) := by
 induction rest with
 | nil =>
  intro p i s O A ts hdrop hp hi hF hL hj hOlt hOsub hK hS N
  have hbox := hInv A hK
  have hmm : mm = c.causes.length := hbox.at_.cs.len.symm
  have him : i = mm := by
   have := congrArg List.length hdrop
   rw [List.length_drop, List.length_nil] at this
   omega
  obtain ⟨a0, a1, a2, a3, a4, rfl⟩ := five_cases hF.len
  have hx := hL 0 [] rfl
  rw [Nat.add_zero, List.append_nil] at hx
  have htv : tv p = .agg #[.int .i64 a0, .int .i64 a1, .int .i64 a2, .int .i64 a3, .int .i64 a4] := by
   unfold tv
   rw [← hF.getD (hp.trans him) 0, ← hF.getD (hp.trans him) 1, ← hF.getD (hp.trans him) 2, ← hF.getD (hp.trans him) 3, ← hF.getD (hp.trans him) 4]
   rfl
  obtain ⟨fn, tmps, assign, body, hy, hRd⟩ := hR s p O A hx hj hOlt hOsub hK (N - 1)
  rw [htv] at hy
  have hb1 := hbox.box.cell 1
  have hyc := hS.y.cell 0
  have ht0 := hS.t.cell 0
  have ht1 := hS.t.cell 1
  have ht2 := hS.t.cell 2
  have ht3 := hS.t.cell 3
  have ht4 := hS.t.cell 4
  simp only [fiveC, List.map_cons, List.map_nil, List.getElem?_toArray, List.getElem?_cons_zero, List.getElem?_cons_succ] at ht0 ht1 ht2 ht3 ht4
  have HS := Lib.hid hS
  have HF := Lib.hid hF
  have hlm := hbox.at_.cs.le
  clear hS hF hbox hp hdrop hL hx htv hmm
  subst him
  refine callsIn_of_wp Tryz.func88 rfl trivial ?_ rfl
  simp only [Tryz.ntmps88, List.size_toArray, List.length_cons, List.length_nil, Nat.reduceAdd, Nat.reduceSub, Array.replicate_succ, Array.replicate_zero, List.push_toArray, List.append_toArray, List.nil_append, List.cons_append]
  gi_wp2
  refine ⟨(fun h => by cases h), ?_⟩
  refine hRd.mono ?_
  rintro e B ⟨O', hO', hKB, hcase⟩
  have hpost : ∀ e', ((e' = .returned (.bool true) ∧ J (s + (exts []).length) O' B) ∨ (e' = .returned (.bool false) ∧ Jx O' B)) → FillPost J Jx l gc gy gt gf i p (s + (exts []).length) O A e' B := fun e' h =>
   ⟨O', hO', hKB.orL, ⟨_, HF.out, HS.out.kept hKB hO'⟩, h⟩
  rcases hcase with ⟨rfl, hj'⟩ | ⟨rfl, hx'⟩
  ·gi_wp2
   go_ret
   exact hpost _ (.inl ⟨rfl, hj'⟩)
  ·gi_wp2
   go_ret
   exact hpost _ (.inr ⟨rfl, hx'⟩)
 | cons x rest ih =>
  intro p i s O A ts hdrop hp hi hF hL hj hOlt hOsub hK hS N
  have hbox := hInv A hK
  have hmm : mm = c.causes.length := hbox.at_.cs.len.symm
  have hm5 : mm ≤ 5 := by rw [hmm]; exact hok.nc
  have hlt : i < mm := by
   have := congrArg List.length hdrop
   rw [List.length_drop, List.length_cons] at this
   omega
  have hxi : c.causes[i]? = some x := by
   have := congrArg (fun l : List Cause => l[0]?) hdrop
   simpa using this
  have hdrop' : c.causes.drop (i + 1) = rest := by
   have := drop_cons hxi
   rw [hdrop] at this
   injection this with _ h
   exact h.symm
  have hil : i < ts.length := by rw [hF.len]; omega
  obtain ⟨old, hold⟩ := fiveC_get hil
  have hci : A.cell? ⟨gt, i, none⟩ = some (.int .i64 old) := (hS.t.cell i).trans hold
  have hfi := hS.t.frozen i
  have hb1 := hbox.box.cell 1
  have hgc := hbox.box.lt
  have hlm := hbox.at_.cs.le
  have hib : ((i : Int) == (mm : Int)) = false := by simp; omega
  have hi0 : (0 : Int) ≤ (i : Int) := by omega
  have hi5 : (i : Int) < 5 := by omega
  have hgf0 : ∀ v, (A.setCell ⟨gt, i, none⟩ v).cell? ⟨gf, 0, none⟩ = some (.func (.func 88) #[] #[.pointer (some ⟨gc, 0, none⟩), .pointer (some ⟨gy, 0, none⟩), .pointer (some ⟨gt, 0, none⟩), .pointer (some ⟨gf, 0, none⟩)]) := fun v => (hS.f.far (by exact hS.ft) v).cell 0
  have hgf1 := hgf0 (.int .i64 0)
  have HGF := Lib.hid hgf0
  have hgtl := hS.t.lt
  have hK1 : Kept (fun k => k = gt) A (A.setCell ⟨gt, i, none⟩ (.int .i64 0)) := Kept.setCell _ _ _ rfl
  have hs1 : (A.setCell ⟨gt, i, none⟩ (.int .i64 0)).heap.size = A.heap.size := by simp [World.setCell]
  have hcall := ih (p ++ [0]) (i + 1) (s + 0 * (exts rest).length) O (A.setCell ⟨gt, i, none⟩ (.int .i64 0)) (ts.set i 0) hdrop' (by simp [hp]) (by omega) (hF.set hp hlt hm5 0)
   (fun j u hu => by have := hL _ _ (exts_get (vals_zero x) hu); rw [Nat.add_assoc, this]; simp)
   (by rw [Nat.zero_mul, Nat.add_zero]; exact hJ s O _ _ hj hOlt (hK1.mono fun k _ h => h ▸ hS.ot)) (fun k hk => by rw [hs1]; exact hOlt k hk) hOsub (hK.seq hK1 (fun k _ h => .inr (h ▸ hgt))) (hS.put i 0) (N - 1)
  rw [show ((i + 1 : Nat) : Int) = (i : Int) + 1 by omega] at hcall
  have HC := Lib.hid hcall
  have IH := Lib.hid ih
  have HS := Lib.hid hS
  have HF := Lib.hid hF
  have HL := Lib.hid hL
  have HK1 := Lib.hid hK1
  have Hxi := Lib.hid hxi
  have Hmm := Lib.hid hmm
  have Hp := Lib.hid hp
  have Hd := Lib.hid hdrop'
  clear hcall ih hS hF hL hbox hp hdrop hdrop' hK1 hxi hmm hold hil hgf0
  refine callsIn_of_wp Tryz.func88 rfl trivial ?_ rfl
  simp only [Tryz.ntmps88, List.size_toArray, List.length_cons, List.length_nil, Nat.reduceAdd, Nat.reduceSub, Array.replicate_succ, Array.replicate_zero, List.push_toArray, List.append_toArray, List.nil_append, List.cons_append]
  gi_wp2_with fail
  refine ⟨trivial, (fun h => by cases h), ?_⟩
  refine HC.out.mono ?_
  clear HC
  rintro e B ⟨O1, hO1, hKB, ⟨ts1, hF1, hS1⟩, hcase⟩
  have hKA : Kept (fun k => O k ∨ k = gt) A B := HK1.out.orR.seq hKB (fun k _ h => h)
  have hO1' : ∀ k, O1 k → O k ∨ (A.heap.size ≤ k ∧ k < B.heap.size) := fun k hk => by have := hO1 k hk; rw [hs1] at this; exact this
  clear hKB hO1 hci hfi hb1 hgf1 hs1
  have HO1 := Lib.hid hO1'
  have HF1 := Lib.hid hF1.less
  clear hO1' hF1
  have HS1 := Lib.hid hS1
  clear hS1
  rcases hcase with ⟨rfl, hj'⟩ | ⟨rfl, hx'⟩
  ·
   have HJ1 := Lib.hid hj'
   clear hj'
   have hKW : Kept (fun k => O0 k ∨ W.heap.size ≤ k) W B := hK.seq hKA (fun k _ h => h.elim (hOsub k) (fun e => .inr (e ▸ hgt)))
   have hbox := hInv B hKW
   obtain ⟨bc, oc, sc, lo, hi', P, np, cp, per, rfl, hbc, hcc0, hcc1, hcc2, hcc3, _, _, Hx⟩ := Causes.get hbox.at_.cs hlt
   obtain rfl : x = ⟨sc.data.toList, lo, hi', per⟩ := by have := Hxi.out.symm.trans Hx.out; injection this
   obtain ⟨_, _, hlo1, hlohi, hhi, hdf⟩ := hok.cause Hx.out
   dsimp only at hlo1 hlohi hhi hdf
   have hb1 := hbox.box.cell 1
   have hiI : (i : Int) < mm := by omega
   clear hbox hcc0 hcc3 hKW
   gi_wp2
   obtain ⟨ga, hga⟩ : ∃ ga, B.heap.size = ga := ⟨_, rfl⟩
   have hgA : A.heap.size ≤ ga := by rw [← hga]; exact hKA.size
   have hbB : Blk (B.alloc (.cells #[.int .i64 lo, .int .i64 hi'] 23)) ga 23 #[.int .i64 lo, .int .i64 hi'] := Blk.new _ _ _ hga.symm
   have HKB : Hid (Kept (fun k => O k ∨ k = gt) A (B.alloc (.cells #[.int .i64 lo, .int .i64 hi'] 23))) := hKA.trans (Kept.alloc _ _ _)
   have HOB : Hid (∀ k, O1 k → O k ∨ (A.heap.size ≤ k ∧ k < (B.alloc (.cells #[.int .i64 lo, .int .i64 hi'] 23)).heap.size)) := fun k hk => (HO1.out k hk).imp id (fun h => ⟨h.1, by simp; omega⟩)
   have hO1lt : ∀ k, O1 k → k < B.heap.size := fun k hk => (HO1.out k hk).elim (fun h => by have := hOlt k h; have := hKA.size; omega) (fun h => h.2)
   have HSB : Hid (FillSt (B.alloc (.cells #[.int .i64 lo, .int .i64 hi'] 23)) O1 l gc gy gt gf ts1) := HS1.out.kept (Kept.alloc _ _ _) (fun k h => .inl h)
   have HJB : Hid (J (s + (0 + 1) * (exts rest).length) O1 (B.alloc (.cells #[.int .i64 lo, .int .i64 hi'] 23))) := by
    have h := hJ _ O1 B _ HJ1.out hO1lt (Kept.alloc _ _ (.cells #[.int .i64 lo, .int .i64 hi'] 23))
    rw [Nat.zero_mul, Nat.add_zero] at h
    rw [Hid, Nat.zero_add, Nat.one_mul]; exact h
   have HNB : Hid (¬ O1 ga) := fun h => by have := hO1lt ga h; omega
   rw [hga]
   clear hO1lt HJ1 HS1 HO1 hb1 hcc1 hcc2 hbc hga
   gi_loopw [8, 38] (fun _ i' wr => ∃ (nn : Nat) (O2 : Foot) (ts2 : List Int), i' = .int .i64 nn ∧ (nn : Int) ≤ hi' - lo + 1 ∧ Hid (Kept (fun k => O k ∨ k = gt) A wr) ∧ Hid (∀ k, O2 k → O k ∨ (A.heap.size ≤ k ∧ k < wr.heap.size)) ∧ Hid (Five mm p ts2) ∧ Hid (FillSt wr O2 l gc gy gt gf ts2) ∧ Hid (J (s + (nn + 1) * (exts rest).length) O2 wr) ∧ Blk wr ga 23 #[.int .i64 lo, .int .i64 hi'] ∧ Hid (¬ O2 ga)) (fun _ i' _ => (hi' - lo + 1 - intOf i').toNat)
   case atStart => exact ⟨0, O1, ts1, rfl, by omega, HKB, HOB, HF1, HSB, HJB, hbB, HNB⟩
   case round =>
    clear HKB HOB HF1 HSB HJB hbB HNB
    obtain ⟨nn, O2, ts2, rfl, hnn, HK2, HO2, HF2, HS2, HJ2, hb2, HN2⟩ := hrel
    by_cases hlt2 : (nn : Int) < hi' - lo + 1
    ·have hil : i < ts2.length := by rw [HF2.out.len]; omega
     obtain ⟨old2, hold⟩ := fiveC_get hil
     have hci : wr.cell? ⟨gt, i, none⟩ = some (.int .i64 old2) := (HS2.out.t.cell i).trans hold
     have hfi := HS2.out.t.frozen i
     have hgl := HS2.out.t.lt
     have hal := hb2.lt
     have hgf0 : (wr.setCell ⟨gt, i, none⟩ (.int .i64 (lo + nn))).cell? ⟨gf, 0, none⟩ = some (.func (.func 88) #[] #[.pointer (some ⟨gc, 0, none⟩), .pointer (some ⟨gy, 0, none⟩), .pointer (some ⟨gt, 0, none⟩), .pointer (some ⟨gf, 0, none⟩)]) := (HS2.out.f.far (by exact HS2.out.ft) _).cell 0
     have ha0 := hb2.cell 0
     have hK3 : Kept (fun k => k = gt) wr (wr.setCell ⟨gt, i, none⟩ (.int .i64 (lo + nn))) := Kept.setCell _ _ _ rfl
     have hs3 : (wr.setCell ⟨gt, i, none⟩ (.int .i64 (lo + nn))).heap.size = wr.heap.size := by simp [World.setCell]
     have hO2lt : ∀ k, O2 k → k < wr.heap.size := fun k hk => (HO2.out k hk).elim (fun h => by have := hOlt k h; have := HK2.out.size; omega) (fun h => h.2)
     have hWA := hK.size
     have hO2sub : ∀ k, O2 k → O0 k ∨ W.heap.size ≤ k := fun k hk => (HO2.out k hk).elim (hOsub k) (fun h => .inr (by omega))
     have hcall := IH.out (p ++ [lo + nn]) (i + 1) (s + (nn + 1) * (exts rest).length) O2 (wr.setCell ⟨gt, i, none⟩ (.int .i64 (lo + nn))) (ts2.set i (lo + nn)) Hd.out (by simp [Hp.out]) (by omega) (HF2.out.set Hp.out hlt hm5 _)
      (fun j u hu => by have := HL.out _ _ (exts_get (vals_succ (x := ⟨sc.data.toList, lo, hi', per⟩) (n := nn) (by dsimp only; omega)) hu); rw [Nat.add_assoc, this]; simp)
      (hJ _ O2 _ _ HJ2.out hO2lt (hK3.mono fun k _ h => h ▸ HS2.out.ot)) (fun k hk => by rw [hs3]; exact hO2lt k hk) hO2sub ((hK.seq HK2.out (fun k _ h => h.elim (hOsub k) (fun e => .inr (e ▸ hgt)))).seq hK3 (fun k _ h => .inr (h ▸ hgt))) (HS2.out.put i _) (N - 1)
     rw [show ((i + 1 : Nat) : Int) = (i : Int) + 1 by omega] at hcall
     have HC := Lib.hid hcall
     have HK3 := Lib.hid hK3
     clear hcall hold hil hO2lt hO2sub hK3 hWA
     gi_wp2_with fail
     refine ⟨trivial, (fun h => by cases h), ?_⟩
     refine HC.out.mono ?_
     clear HC
     rintro e B3 ⟨O3, hO3, hKB, ⟨ts3, hF3, hS3⟩, hcase⟩
     have HK4 : Hid (Kept (fun k => O k ∨ k = gt) A B3) := (HK2.out.seq HK3.out (fun k _ h => .inr h)).seq hKB (fun k hk h => h.elim (fun h2 => (HO2.out k h2).elim .inl (fun h3 => by omega)) .inr)
     have HO4 : Hid (∀ k, O3 k → O k ∨ (A.heap.size ≤ k ∧ k < B3.heap.size)) := fun k hk => by
      have h1 := hKB.size
      rw [hs3] at h1
      rcases hO3 k hk with h | h
      ·exact (HO2.out k h).imp id (fun h2 => ⟨h2.1, by omega⟩)
      rw [hs3] at h; have := HK2.out.size; exact .inr ⟨by omega, h.2⟩
     have hb4 : Blk B3 ga 23 #[.int .i64 lo, .int .i64 hi'] := (hKB.block ga (by rw [hs3]; exact hal) (fun h => h.elim HN2.out (fun e => by omega))).trans (hb2.far (by dsimp only; omega) _)
     have HN4 : Hid (¬ O3 ga) := fun h => (hO3 ga h).elim HN2.out (fun h2 => by rw [hs3] at h2; omega)
     have HF4 := Lib.hid hF3.less
     have HS4 := Lib.hid hS3
     clear hKB hO3 hF3 hS3 hci hfi hgf0 ha0 hs3
     rcases hcase with ⟨rfl, hj'⟩ | ⟨rfl, hx'⟩
     ·have HJ4 : Hid (J (s + (nn + 1 + 1) * (exts rest).length) O3 B3) := by rw [Hid, Nat.succ_mul, ← Nat.add_assoc]; exact hj'
      clear hj'
      gi_wp2
      go_roundw
      case rel => exact ⟨nn + 1, O3, ts3, by go_num, by omega, HK4, HO4, HF4, HS4, HJ4, hb4, HN4⟩
      case measure => simp [intOf]; omega
     gi_wp2
     go_ret
     exact ⟨O3, HO4.out, HK4.out, ⟨ts3, HF4.out, HS4.out⟩, .inr ⟨rfl, hx'⟩⟩
    have hn : nn + 1 = (vals ⟨sc.data.toList, lo, hi', per⟩).length := by rw [vals_length]; dsimp only; omega
    have HJ5 : Hid (J (s + (exts (⟨sc.data.toList, lo, hi', per⟩ :: rest)).length) O2 wr) := by rw [Hid, exts_len, ← hn]; exact HJ2.out
    clear hn
    gi_wp2
    go_ret
    exact ⟨O2, HO2.out, HK2.out, ⟨ts2, HF2.out, HS2.out⟩, .inl ⟨rfl, HJ5.out⟩⟩
  gi_wp2
  go_ret
  exact ⟨O1, HO1.out, hKA, ⟨ts1, HF1.out, HS1.out⟩, .inr ⟨rfl, hx'⟩⟩
end Go.Proofs.YtdbfincinjoppabGreatDoor
