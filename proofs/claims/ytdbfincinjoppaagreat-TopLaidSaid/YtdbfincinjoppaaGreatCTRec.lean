/- A part of the proof that TopLaid always answers true. -/
import Derived.OwnWalkIn
import Derived.TacticsInMore
import Derived.LoopNIn
import Derived.LoopIn
import Derived.Laws.EntriesVeiled
import Derived.Test.YtdbfincinjoppaaGreatCIterG
import Derived.Test.YtdbfincinjoppaaGreatCTSort2
set_option linter.all false
namespace Go.Proofs.YtdbfincinjoppaaGreat
open Go.RowKit Go.Shelf
attribute [local go_sem] Oper.semAt_some
theorem i64_and_nat (a b : Nat) (ha : a < 256) (hb : b < 256) : bits .and .i64 (a : Int) (b : Int) = ((a &&& b : Nat) : Int) := by
 have hx : a &&& b < 2 ^ 8 := Nat.and_lt_two_pow _ (by omega)
 have h1 : (BitVec.ofInt 64 (a : Int)).toNat = a := by rw [BitVec.ofInt_natCast, BitVec.toNat_ofNat]; exact Nat.mod_eq_of_lt (by omega)
 have h2 : (BitVec.ofInt 64 (b : Int)).toNat = b := by rw [BitVec.ofInt_natCast, BitVec.toNat_ofNat]; exact Nat.mod_eq_of_lt (by omega)
 show IntKind.i64.wrap ((BitVec.ofInt 64 (a : Int) &&& BitVec.ofInt 64 (b : Int)).toNat : Int) = _
 rw [BitVec.toNat_and, h1, h2, IntKind.wrap_i64]
 omega
theorem i64_or_nat (a b : Nat) (ha : a < 256) (hb : b < 256) : bits .or .i64 (a : Int) (b : Int) = ((a ||| b : Nat) : Int) := by
 have hx : a ||| b < 2 ^ 8 := Nat.or_lt_two_pow (by omega) (by omega)
 have h1 : (BitVec.ofInt 64 (a : Int)).toNat = a := by rw [BitVec.ofInt_natCast, BitVec.toNat_ofNat]; exact Nat.mod_eq_of_lt (by omega)
 have h2 : (BitVec.ofInt 64 (b : Int)).toNat = b := by rw [BitVec.ofInt_natCast, BitVec.toNat_ofNat]; exact Nat.mod_eq_of_lt (by omega)
 show IntKind.i64.wrap ((BitVec.ofInt 64 (a : Int) ||| BitVec.ofInt 64 (b : Int)).toNat : Int) = _
 rw [BitVec.toNat_or, h1, h2, IntKind.wrap_i64]
 omega
def Hdr (W0 : World) (v : Value) (y : List Int) : Prop := ∃ A n c, v = .slice A n c ∧ Ints (fun k => k < W0.heap.size) W0 A n y
def RowsV (W0 : World) (m : Nat) (cs : Array Value) (ys : List (List Int)) : Prop := cs.size = m ∧ ∀ (r : Nat) (y : List Int), ys[r]? = some y → ∃ v, cs[r]? = some v ∧ Hdr W0 v y
def LayEnc (W0 : World) (m : Nat) (x : List (List Int) × Int) (args : Array Value) (Y : Foot) (A : World) : Prop :=
 Y = (fun _ => False) ∧ ∃ gR T cs, args = #[.slice (some ⟨gR, 0, none⟩) m m, .int .i64 x.2] ∧ Blk A gR T cs ∧ x.1.length = m ∧ RowsV W0 m cs x.1
structure FitRow (W0 : World) (gF : Nat) (h : Hall) (l : List Seen) (r : Nat) (A : Option Addr) (cap : Nat) : Prop where
 cell : W0.cell? ⟨gF, r, none⟩ = some (.slice A (fitS h l r).length cap)
 el : ∀ t x, (fitS h l r)[t]? = some x → ∃ g A' n' c', A = some ⟨g, 0, none⟩ ∧ W0.cell? ⟨g, t * 3, none⟩ = some (.slice A' n' c') ∧ W0.cell? ⟨g, t * 3 + 1, none⟩ = some (.int .i64 x.1) ∧ W0.cell? ⟨g, t * 3 + 2, none⟩ = some (.int .i64 x.2) ∧ Ints (fun k => k < W0.heap.size) W0 A' n' (bitL x.1)
theorem LayBox.row {W : World} {h : Hall} {l : List Seen} {gh g2 g5 g3 gF base m cb wo : Nat} {B : Option Addr} (lb : LayBox W h l gh g2 g5 g3 gF base m cb wo B) {r : Nat} (hr : r < m) : ∃ A cap, FitRow W gF h l r A cap := by
 obtain ⟨_, _, cs, S, hB, hs, hS, hrs, _⟩ := lb.fit
 obtain ⟨v, hv, A, cap, rfl, hx⟩ := hrs r hr
 refine ⟨A, cap, (hB.cell r).trans hv, fun t x ht => ?_⟩
 obtain ⟨g, vs, rfl, _, _, _, ⟨A', n', c', rfl, hI⟩, hc⟩ := hx t x ht
 exact ⟨g, A', n', c', rfl, by simpa using (hc 0 _ rfl).1, (hc 1 _ rfl).1, (hc 2 _ rfl).1, hI.mono IntR.good (fun k hk => (hS k hk).2)⟩
structure RecSt (A : World) (gB gY gL gR g5 lp m : Nat) (cs : Array Value) : Prop where
 b : ∃ T, Blk A gB T #[.slice (some ⟨gR, 0, none⟩) m m]
 y : ∃ T, Blk A gY T #[.func (.yield lp) #[] #[]]
 f : ∃ T, Blk A gL T #[.func (.func 82) #[] #[.pointer (some ⟨gB, 0, none⟩), .pointer (some ⟨gY, 0, none⟩), .pointer (some ⟨g5, 0, none⟩), .pointer (some ⟨gL, 0, none⟩)]]
 r : ∃ T, Blk A gR T cs
 s : cs.size = m
theorem eg_lay : Enters Tryz.prog 82 := enters_of Tryz.func82 (by kernel_rfl) rfl
def LayPost (m row : Nat) (gR : Nat) (J : Nat → Foot → World → Prop) (Jx : Foot → World → Prop) (O : Foot) (A : World) (cs : Array Value) (i d : Nat) (e : Ending) (B : World) : Prop :=
 Kept (fun j => O j ∨ j = gR) A B ∧ (∃ T cs', Blk B gR T cs' ∧ cs'.size = m ∧ ∀ r, r < row → cs'[r]? = cs[r]?) ∧ ∃ O' : Foot, (∀ j, O' j → O j ∨ (A.heap.size ≤ j ∧ j < B.heap.size)) ∧ ((e = .returned (.bool true) ∧ J (i + d) O' B) ∨ (e = .returned (.bool false) ∧ Jx O' B))
set_option maxRecDepth 100000 in
set_option maxHeartbeats 2000000 in
theorem lay_zero {W0 W : World} {h : Hall} {l : List Seen} {m gB gY gL gR g5 lp : Nat} (O0 : Foot) (J : Nat → Foot → World → Prop) (Jx : Foot → World → Prop) (L : List (List (List Int) × Int)) (hm9 : m ≤ 3)
  (hR : ∀ i x args Y O A, L[i]? = some x → LayEnc W0 m x args Y A → (∀ k, Y k → ¬ O k ∧ W.heap.size ≤ k ∧ k < A.heap.size) → J i O A → (∀ k, O k → k < A.heap.size) → (∀ k, O k → O0 k ∨ W.heap.size ≤ k) → Kept (fun k => O0 k ∨ W.heap.size ≤ k) W A →
   ∀ mm, YieldAt Fence.wide mm Tryz.prog lp args A fun e B => ∃ O' : Foot, (∀ k, O' k → O k ∨ Y k ∨ (A.heap.size ≤ k ∧ k < B.heap.size)) ∧ Kept O A B ∧ ((e = .returned (.bool true) ∧ J (i + 1) O' B) ∨ (e = .returned (.bool false) ∧ Jx O' B)))
  (u : Nat) (g : Int) (i : Nat) (O : Foot) (A : World) (cs : Array Value) (pre : List (List Int)) (hpre : pre.length = m) (hrow : RowsV W0 m cs pre) (hst : RecSt A gB gY gL gR g5 lp m cs) (hK : Kept (fun k => O0 k ∨ W.heap.size ≤ k) W A)
  (hj : J i O A) (hO : ∀ j, O j → j < A.heap.size) (hO2 : ∀ j, O j → O0 j ∨ W.heap.size ≤ j) (hnR : ¬ O gR) (hL : L[i]? = some (pre, g)) :
  Calls Tryz.prog 82 #[.int .i64 m, .int .i64 u, .int .i64 g, .pointer (some ⟨gB, 0, none⟩), .pointer (some ⟨gY, 0, none⟩), .pointer (some ⟨g5, 0, none⟩), .pointer (some ⟨gL, 0, none⟩)] A (LayPost m m gR J Jx O A cs i 1) := by
 obtain ⟨⟨T1, h1⟩, ⟨T2, h2⟩, ⟨T3, h3⟩, ⟨T4, h4⟩, h5⟩ := hst
 have b0 := h1.cell 0
 have y0 := h2.cell 0
 obtain ⟨fn, tmps, assign, body, hy, hRd⟩ := hR i (pre, g) #[.slice (some ⟨gR, 0, none⟩) m m, .int .i64 g] (fun _ => False) O A hL ⟨rfl, gR, T4, cs, rfl, h4, hpre, hrow⟩ (fun _ h => h.elim) hj hO hO2 hK 0
 have HRD := Lib.hid hRd
 have H4 := Lib.hid h4
 clear hRd h1 h2 h3 h4
 refine (callsIn_wide (n := 1)).1 ?_
 refine callsIn_of_wp Tryz.func82 rfl trivial ?_ rfl
 simp only [Tryz.ntmps82, List.size_toArray, List.length_cons, List.length_nil, Nat.reduceAdd, Nat.reduceSub, Array.replicate_succ, Array.replicate_zero, List.push_toArray, List.append_toArray, List.nil_append, List.cons_append]
 gi_wp2_with fail
 refine HRD.out.mono ?_
 clear HRD
 rintro e B ⟨O2, hO2', hKB, hcase⟩
 have hpost : ∀ b : Bool, (e = .returned (.bool b) ∧ (if b then J (i + 1) O2 B else Jx O2 B)) → LayPost m m gR J Jx O A cs i 1 (.returned (.bool b)) B := fun b hb => by
  refine ⟨hKB.mono fun _ _ h => .inl h, ⟨T4, cs, (hKB.block gR H4.out.lt hnR).trans H4.out, h5, fun r _ => rfl⟩, O2, fun j hj => (hO2' j hj).elim .inl (fun h => h.elim (fun h => h.elim) .inr), ?_⟩
  cases b
  ·exact .inr ⟨rfl, hb.2⟩
  exact .inl ⟨rfl, hb.2⟩
 have HP := Lib.hid hpost
 clear hpost hO2' hKB
 rcases hcase with ⟨rfl, hj'⟩ | ⟨rfl, hx'⟩
 ·have HF := Lib.hid (HP.out true ⟨rfl, hj'⟩)
  clear hj'
  gi_wp2_with fail
  refine bodyPost_ret (results_tmp rfl _ _ _) rfl ?_
  exact HF.out
 have HF := Lib.hid (HP.out false ⟨rfl, hx'⟩)
 clear hx'
 gi_wp2_with fail
 refine bodyPost_ret (results_tmp rfl _ _ _) rfl ?_
 exact HF.out
open Go.RowKit Go.Shelf
attribute [local go_sem] Oper.semAt_some
def layG (h : Hall) (l : List Seen) (k u : Nat) (g : Int) (x : Nat × Int) : List (List (List Int) × Int) := if u &&& x.1 = 0 then (layP h l k (u ||| x.1) (max g x.2)).map (headL (bitL x.1)) else []
theorem layP_succ {h : Hall} {l : List Seen} {k u row : Nat} {g : Int} (hr : h.rows.length - (k + 1) = row) : layP h l (k + 1) u g = (fitS h l row).flatMap (layG h l k u g) := by rw [layP, hr]; rfl
theorem flat_snoc {α β : Type} {F : List α} {t : Nat} {x : α} {G : α → List β} (h : F[t]? = some x) : (F.take (t + 1)).flatMap G = (F.take t).flatMap G ++ G x := by rw [take_snoc_get h, List.flatMap_append]; simp
theorem flat_get {α β : Type} {F : List α} {t : Nat} {x : α} {G : α → List β} (h : F[t]? = some x) {j : Nat} {y : β} (hj : (G x)[j]? = some y) : (F.flatMap G)[((F.take t).flatMap G).length + j]? = some y := by
 have e : F.flatMap G = (F.take t).flatMap G ++ (G x ++ (F.drop (t + 1)).flatMap G) := by
  conv => lhs; rw [← List.take_append_drop t F, drop_cons h]
  rw [List.flatMap_append, List.flatMap_cons]
 rw [e, List.getElem?_append_right (Nat.le_add_right _ _), Nat.add_sub_cancel_left, List.getElem?_append_left (of_getq hj)]
 exact hj
set_option maxRecDepth 100000 in
set_option maxHeartbeats 4000000 in
theorem lay_step {W0 W : World} {h : Hall} {l : List Seen} {gh g2 g5 g3 gF base m cb wo row k gB gY gL gR lp : Nat} {B' : Option Addr} (lb : LayBox W0 h l gh g2 g5 g3 gF base m cb wo B') (hk : row + (k + 1) = m) (hm : h.rows.length = m) (hm3 : m ≤ 3)
  (hF256 : ∀ x ∈ fitS h l row, x.1 < 256) (hFl : (fitS h l row).length ≤ 256)
  (O0 : Foot) (J : Nat → Foot → World → Prop) (Jx : Foot → World → Prop) (L : List (List (List Int) × Int))
  (hO0 : ∀ k, O0 k → k < W.heap.size) (hInv : ∀ A, Kept (fun k => O0 k ∨ W.heap.size ≤ k) W A → Below W0.heap.size W0 A)
  (hJ : ∀ i O A B, J i O A → (∀ k, O k → k < A.heap.size) → Kept (fun k => ¬ O k) A B → J i O B)
  (hg : W.heap.size ≤ gB ∧ W.heap.size ≤ gY ∧ W.heap.size ≤ gL ∧ W.heap.size ≤ gR) (hgne : gR ≠ gB ∧ gR ≠ gY ∧ gR ≠ gL)
  (hIH : ∀ (u : Nat) (g : Int) (i : Nat) (O : Foot) (A : World) (cs : Array Value) (pre : List (List Int)), u < 256 → pre.length = row + 1 → RowsV W0 m cs pre → RecSt A gB gY gL gR g5 lp m cs → Kept (fun k => O0 k ∨ W.heap.size ≤ k) W A →
   J i O A → (∀ j, O j → j < A.heap.size) → (∀ j, O j → O0 j ∨ W.heap.size ≤ j) → (¬ O gB ∧ ¬ O gY ∧ ¬ O gL ∧ ¬ O gR) → (∀ t x, (layP h l k u g)[t]? = some x → L[i + t]? = some (pre ++ x.1, x.2)) →
   Calls Tryz.prog 82 #[.int .i64 ((row : Int) + 1), .int .i64 u, .int .i64 g, .pointer (some ⟨gB, 0, none⟩), .pointer (some ⟨gY, 0, none⟩), .pointer (some ⟨g5, 0, none⟩), .pointer (some ⟨gL, 0, none⟩)] A (LayPost m (row + 1) gR J Jx O A cs i (layP h l k u g).length))
  (u : Nat) (g : Int) (i : Nat) (O : Foot) (A : World) (cs : Array Value) (pre : List (List Int)) (hu : u < 256) (hpre : pre.length = row) (hrow : RowsV W0 m cs pre) (hst : RecSt A gB gY gL gR g5 lp m cs) (hK : Kept (fun k => O0 k ∨ W.heap.size ≤ k) W A)
  (hj : J i O A) (hO : ∀ j, O j → j < A.heap.size) (hO2 : ∀ j, O j → O0 j ∨ W.heap.size ≤ j) (hnO : ¬ O gB ∧ ¬ O gY ∧ ¬ O gL ∧ ¬ O gR) (hL : ∀ t x, (layP h l (k + 1) u g)[t]? = some x → L[i + t]? = some (pre ++ x.1, x.2)) :
  Calls Tryz.prog 82 #[.int .i64 row, .int .i64 u, .int .i64 g, .pointer (some ⟨gB, 0, none⟩), .pointer (some ⟨gY, 0, none⟩), .pointer (some ⟨g5, 0, none⟩), .pointer (some ⟨gL, 0, none⟩)] A (LayPost m row gR J Jx O A cs i (layP h l (k + 1) u g).length) := by
 obtain ⟨Af, capf, fr⟩ := lb.row (r := row) (by omega)
 have hA0 := hInv A hK
 have c5 := hA0.cell (World.block_lt_of_cell? _ _ lb.c5)
 rw [lb.c5] at c5
 have cF := hA0.cell (World.block_lt_of_cell? _ _ fr.cell)
 rw [fr.cell] at cF
 have HB0 := Lib.hid hst.b
 have b0 : A.cell? ⟨gB, 0, none⟩ = some (.slice (some ⟨gR, 0, none⟩) m m) := by obtain ⟨T, hb⟩ := hst.b; exact hb.cell 0
 obtain ⟨len, hlen⟩ : ∃ len, (fitS h l row).length = len := ⟨_, rfl⟩
 rw [hlen] at cF hFl
 have HLN := Lib.hid hlen
 have hrm : (row : Int) < m := by omega
 have hne : ((row : Int) == (m : Int)) = false := by simp; omega
 have HDL : Hid (layP h l (k + 1) u g = (fitS h l row).flatMap (layG h l k u g)) := layP_succ (by omega)
 have HFR := Lib.hid fr
 have HST := Lib.hid hst
 have HK := Lib.hid hK
 have HJ := Lib.hid hj
 have HINV := Lib.hid hInv
 clear fr hlen hst hK hj hA0 hInv
 refine (callsIn_wide (n := 1)).1 ?_
 refine callsIn_of_wp Tryz.func82 rfl trivial ?_ rfl
 simp only [Tryz.ntmps82, List.size_toArray, List.length_cons, List.length_nil, Nat.reduceAdd, Nat.reduceSub, Array.replicate_succ, Array.replicate_zero, List.push_toArray, List.append_toArray, List.nil_append, List.cons_append]
 gi_wp2_with fail
 clear b0 c5 cF
 gi_loopw [12, 26] (fun _ i' wr => ∃ (t : Nat) (O1 : Foot) (cs1 : Array Value), i' = .int .i64 t ∧ t ≤ len ∧ Hid (RecSt wr gB gY gL gR g5 lp m cs1) ∧ Hid (∀ r, r < row → cs1[r]? = cs[r]?) ∧ Hid (Kept (fun j => O j ∨ j = gR) A wr) ∧ Hid (∀ j, O1 j → O j ∨ (A.heap.size ≤ j ∧ j < wr.heap.size)) ∧ Hid (J (i + (((fitS h l row).take t).flatMap (layG h l k u g)).length) O1 wr)) (fun _ i' _ => len - (intOf i').toNat)
 case atStart => exact ⟨0, O, cs, rfl, Nat.zero_le _, HST.out, fun r _ => rfl, Kept.refl _ _, fun j hj => .inl hj, HJ.out⟩
 case round =>
  obtain ⟨t, O1, cs1, rfl, ht, HS, HC, HKr, HO1, HJ1⟩ := hrel
  have HKW : Hid (Kept (fun k => O0 k ∨ W.heap.size ≤ k) W wr) := HK.out.trans (HKr.out.mono fun j _ hj => hj.elim (fun h => hO2 j h) (fun h => .inr (by omega)))
  have hBw := HINV.out wr HKW.out
  by_cases hlt : t < len
  ·have hti : (t : Int) < len := by omega
   have hx : (fitS h l row)[t]? = some ((fitS h l row)[t]'(by rw [HLN.out]; exact hlt)) := List.getElem?_eq_getElem (by rw [HLN.out]; exact hlt)
   obtain ⟨⟨s, gp⟩, hxe⟩ : ∃ x, (fitS h l row)[t]'(by rw [HLN.out]; exact hlt) = x := ⟨_, rfl⟩
   rw [hxe] at hx
   clear hxe
   have hs256 : s < 256 := hF256 (s, gp) (List.mem_of_getElem? hx)
   obtain ⟨gE, A', n', c', rfl, e0, e1, e2, hI⟩ := HFR.out.el t (s, gp) hx
   have f0 := (hBw.cell (World.block_lt_of_cell? _ _ e0)).trans e0
   have f1 := (hBw.cell (World.block_lt_of_cell? _ _ e1)).trans e1
   have f2 := (hBw.cell (World.block_lt_of_cell? _ _ e2)).trans e2
   dsimp only at f1 f2
   obtain ⟨⟨T1, h1⟩, ⟨T2, h2⟩, ⟨T3, h3⟩, ⟨T4, h4⟩, h5⟩ := HS.out
   have b0 := h1.cell 0
   have l0 := h3.cell 0
   have r0 : wr.cell? ⟨gR, row, none⟩ = some (cs1[row]'(by omega)) := by rw [h4.cell row]; exact Array.getElem?_eq_getElem (by omega)
   have fr0 := h4.frozen row
   have hgRl := h4.lt
   have hgBl := h1.lt
   have hgLl := h3.lt
   have hand := i64_and_nat u s hu hs256
   have hor := i64_or_nat u s hu hs256
   have hol := or_lt256 hu hs256
   have hmax := max_if g gp
   obtain ⟨cR, hcR⟩ : ∃ v, cs1[row]'(by omega) = v := ⟨_, rfl⟩
   rw [hcR] at r0
   have HX := Lib.hid hx
   have HI := Lib.hid hI
   have HCS5 := Lib.hid h5
   clear hcR e0 e1 e2 h1 h2 h3 h5 hx hI hBw
   obtain ⟨z, hz⟩ : ∃ z, u &&& s = z := ⟨_, rfl⟩
   obtain ⟨o, ho⟩ : ∃ o, u ||| s = o := ⟨_, rfl⟩
   rw [hz] at hand
   rw [ho] at hor hol
   have HZ := Lib.hid hz
   have HOR := Lib.hid ho
   clear hz ho
   have hgRA : gR < A.heap.size := by obtain ⟨T, hT⟩ := HST.out.r; exact hT.lt
   have hgBA : gB < A.heap.size := by obtain ⟨T, hT⟩ := HST.out.b; exact hT.lt
   have hgYA : gY < A.heap.size := by obtain ⟨T, hT⟩ := HST.out.y; exact hT.lt
   have hgLA : gL < A.heap.size := by obtain ⟨T, hT⟩ := HST.out.f; exact hT.lt
   have hO1n : Hid (¬ O1 gB ∧ ¬ O1 gY ∧ ¬ O1 gL ∧ ¬ O1 gR) := by
    refine ⟨fun hh => ?_, fun hh => ?_, fun hh => ?_, fun hh => ?_⟩
    ·rcases HO1.out _ hh with h | h; exact hnO.1 h; omega
    ·rcases HO1.out _ hh with h | h; exact hnO.2.1 h; omega
    ·rcases HO1.out _ hh with h | h; exact hnO.2.2.1 h; omega
    rcases HO1.out _ hh with h | h; exact hnO.2.2.2 h; omega
   have hO1lt : Hid (∀ j, O1 j → j < wr.heap.size) := fun j hj => by
    rcases HO1.out j hj with h | h
    ·have := hO j h; have := HKr.out.size; omega
    exact h.2
   have hO1s : Hid (∀ j, O1 j → O0 j ∨ W.heap.size ≤ j) := fun j hj => by
    rcases HO1.out j hj with h | h
    ·exact hO2 j h
    exact .inr (by have := HK.out.size; omega)
   obtain ⟨wb, hwb⟩ : ∃ wb, (wr.setCell ⟨gR, row, none⟩ (.slice A' n' c')).alloc (.cells #[.slice A' n' c', .int .i64 s, .int .i64 gp] 171) = wb := ⟨_, rfl⟩
   have HKwb : Hid (Kept (fun j => j = gR) wr wb) := by rw [Hid, ← hwb]; exact (Kept.setCell (M := fun j => j = gR) wr _ _ rfl).trans (Kept.alloc _ _ _)
   have HSB : Hid (RecSt wb gB gY gL gR g5 lp m (cs1.setIfInBounds row (.slice A' n' c'))) := by
    obtain ⟨⟨T1, h1⟩, ⟨T2, h2⟩, ⟨T3, h3⟩, _, h5⟩ := HS.out
    refine ⟨⟨T1, (HKwb.out.block _ h1.lt (fun e => hgne.1 e.symm)).trans h1⟩, ⟨T2, (HKwb.out.block _ h2.lt (fun e => hgne.2.1 e.symm)).trans h2⟩, ⟨T3, (HKwb.out.block _ h3.lt (fun e => hgne.2.2 e.symm)).trans h3⟩, ⟨T4, by rw [← hwb]; exact (h4.set_ row _).alloc _⟩, by simpa using h5⟩
   have HJB : Hid (J (i + (((fitS h l row).take t).flatMap (layG h l k u g)).length) O1 wb) := hJ _ _ _ _ HJ1.out hO1lt.out (HKwb.out.mono fun j _ e hh => by rw [e] at hh; exact hO1n.out.2.2.2 hh)
   have HKWB : Hid (Kept (fun k => O0 k ∨ W.heap.size ≤ k) W wb) := HKW.out.trans (HKwb.out.mono fun j _ e => .inr (by omega))
   have HKAB : Hid (Kept (fun j => O j ∨ j = gR) A wb) := HKr.out.trans (HKwb.out.mono fun j _ e => .inr e)
   have HCB : Hid (∀ r, r < row → (cs1.setIfInBounds row (Value.slice A' n' c'))[r]? = cs[r]?) := fun r hr => by rw [Array.getElem?_setIfInBounds_ne (by omega)]; exact HC.out r hr
   have hRV : RowsV W0 m (cs1.setIfInBounds row (.slice A' n' c')) (pre ++ [bitL s]) := by
    refine ⟨by simpa using HCS5.out, fun r y hr => ?_⟩
    by_cases e : r < row
    ·rw [List.getElem?_append_left (by rw [hpre]; exact e)] at hr
     obtain ⟨v, hv, hd⟩ := hrow.2 r y hr
     exact ⟨v, (HCB.out r e).trans hv, hd⟩
    have e2 : r = row := by have := of_getq hr; rw [List.length_append, hpre] at this; simp at this; omega
    subst e2
    rw [List.getElem?_append_right (by omega), hpre, Nat.sub_self] at hr
    have hr : bitL s = y := by simpa using hr
    subst hr
    exact ⟨_, by rw [Array.getElem?_setIfInBounds_self_of_lt (by rw [HCS5.out]; omega)], A', n', c', rfl, HI.out⟩
   have HWB := Lib.hid hwb
   have HRV := Lib.hid hRV
   clear hwb hRV
   by_cases h0 : z = 0
   ·have hzb : ((z : Int) == 0) = true := by simp [h0]
    have H0 := Lib.hid h0
    clear h0
    gi_wp2_with fail
    rw [HWB.out]
    have hGl : layG h l k u g (s, gp) = (layP h l k o (max g gp)).map (headL (bitL s)) := by unfold layG; rw [if_pos (by rw [HZ.out, H0.out]), HOR.out]
    have HGL := Lib.hid hGl
    have HNX : Hid (i + (((fitS h l row).take (t + 1)).flatMap (layG h l k u g)).length = i + (((fitS h l row).take t).flatMap (layG h l k u g)).length + (layP h l k o (max g gp)).length) := by
     rw [Hid, flat_snoc HX.out, List.length_append, hGl, List.length_map]; omega
    refine ⟨trivial, ?_⟩
    refine (callsIn_wide.2 (hIH o (max g gp) _ O1 wb _ (pre ++ [bitL s]) hol (by simp [hpre]) HRV.out HSB.out HKWB.out HJB.out (fun j hj => by have := hO1lt.out j hj; have := HKwb.out.size; omega) hO1s.out hO1n.out (fun t' x' ht' => ?_))).mono ?_
    ·have hy : (layG h l k u g (s, gp))[t']? = some (headL (bitL s) x') := by rw [hGl, List.getElem?_map, ht']; rfl
     have := flat_get (F := fitS h l row) (G := layG h l k u g) HX.out hy
     rw [← HDL.out] at this
     rw [Nat.add_assoc]
     rw [hL _ _ this]
     simp [headL]
    rintro e B ⟨hKB, ⟨T5, cs2, hR2, hs2, hcs2⟩, O2, hO2', hcase⟩
    have HSB2 : Hid (RecSt B gB gY gL gR g5 lp m cs2) := by
     obtain ⟨⟨T1, h1⟩, ⟨T2, h2⟩, ⟨T3, h3⟩, _, _⟩ := HSB.out
     exact ⟨⟨T1, (hKB.block _ h1.lt (fun hh => hh.elim hO1n.out.1 (fun e => hgne.1 e.symm))).trans h1⟩, ⟨T2, (hKB.block _ h2.lt (fun hh => hh.elim hO1n.out.2.1 (fun e => hgne.2.1 e.symm))).trans h2⟩, ⟨T3, (hKB.block _ h3.lt (fun hh => hh.elim hO1n.out.2.2.1 (fun e => hgne.2.2 e.symm))).trans h3⟩, ⟨T5, hR2⟩, hs2⟩
    have HC2 : Hid (∀ r, r < row → cs2[r]? = cs[r]?) := fun r hr => (hcs2 r (by omega)).trans (HCB.out r hr)
    have HKA2 : Hid (Kept (fun j => O j ∨ j = gR) A B) := HKAB.out.seq hKB (fun j hj hh => by
     rcases hh with hh | hh
     ·rcases HO1.out j hh with h | h
      ·exact .inl h
      omega
     exact .inr hh)
    have HO2 : Hid (∀ j, O2 j → O j ∨ (A.heap.size ≤ j ∧ j < B.heap.size)) := fun j hj => by
     have hs1 := HKAB.out.size
     have hs3 := hKB.size
     rcases hO2' j hj with h | h
     ·rcases HO1.out j h with h | h
      ·exact .inl h
      exact .inr ⟨h.1, by have := HKwb.out.size; omega⟩
     exact .inr ⟨by omega, h.2⟩
    clear hKB hR2 hs2 hcs2 hO2'
    rcases hcase with ⟨rfl, hj'⟩ | ⟨rfl, hx'⟩
    ·have HJ2 : Hid (J (i + (((fitS h l row).take (t + 1)).flatMap (layG h l k u g)).length) O2 B) := by rw [Hid, HNX.out]; exact hj'
     clear hj'
     gi_wp2_with fail
     exact ⟨⟨t + 1, O2, cs2, by go_num, by omega, HSB2, HC2, HKA2, HO2, HJ2⟩, by simp [intOf]; omega⟩
    have HX2 := Lib.hid hx'
    clear hx'
    gi_wp2_with fail
    refine bodyPost_ret (results_tmp rfl _ _ _) rfl ?_
    exact ⟨HKA2.out, by obtain ⟨T, hT⟩ := HSB2.out.r; exact ⟨T, cs2, hT, HSB2.out.s, HC2.out⟩, O2, HO2.out, .inr ⟨rfl, HX2.out⟩⟩
   have hzb : ((z : Int) == 0) = false := by simp; omega
   have H0 := Lib.hid h0
   clear h0
   have HGN : Hid (i + (((fitS h l row).take (t + 1)).flatMap (layG h l k u g)).length = i + (((fitS h l row).take t).flatMap (layG h l k u g)).length) := by
    rw [Hid, flat_snoc HX.out, List.length_append, layG, if_neg (by rw [HZ.out]; exact H0.out)]; rfl
   have HJN : Hid (J (i + (((fitS h l row).take (t + 1)).flatMap (layG h l k u g)).length) O1 wb) := by rw [Hid, HGN.out]; exact HJB.out
   have HON : Hid (∀ j, O1 j → O j ∨ (A.heap.size ≤ j ∧ j < wb.heap.size)) := fun j hj => (HO1.out j hj).imp id (fun h => ⟨h.1, by have := HKwb.out.size; omega⟩)
   gi_wp2_with fail
   all_goals
    rw [HWB.out]
    refine ⟨(fun f hf => by cases hf), ?_⟩
    gi_wp2_with fail
    exact ⟨⟨t + 1, O1, _, by go_num, by omega, HSB, HCB, HKAB, HON, HJN⟩, by simp [intOf]; omega⟩
  obtain rfl : t = len := by omega
  gi_wp2_with fail
  refine bodyPost_ret (results_tmp rfl _ _ _) rfl ?_
  refine ⟨HKr.out, by obtain ⟨T, hT⟩ := HS.out.r; exact ⟨T, cs1, hT, HS.out.s, HC.out⟩, O1, HO1.out, .inl ⟨rfl, ?_⟩⟩
  have := HJ1.out
  rw [List.take_of_length_le (by rw [HLN.out]; exact Nat.le_refl _), ← HDL.out] at this
  exact this
end Go.Proofs.YtdbfincinjoppaaGreat
