/- A part of the proof that TopWorn always answers true. -/
import Derived.Shelf.SlSortCmp.Small
import Derived.Shelf.Small.Bits
import Derived.Test.YtdbfincinjoppabGreatDoorCBackPure6
import Derived.Test.YtdbfincinjoppabGreatDoorCMaps2
import Derived.Test.YtdbfincinjoppabGreatDoorCProg23
set_option linter.all false
namespace Go.Proofs.YtdbfincinjoppabGreatDoor
open Go.RowKit Go.Shelf
theorem askF_zero (g : Nat → Int) : askF g (0 + 1) = (0, g 0) := by simp [askF]
theorem askF_yes {g : Nat → Int} {k : Nat} (h : g k < (askF g k).2) : askF g (k + 1) = ((k : Int), g k) := by rw [askF, if_pos (.inr h)]
theorem askF_no {g : Nat → Int} {k : Nat} (h0 : k ≠ 0) (h : ¬ g k < (askF g k).2) : askF g (k + 1) = askF g k := by rw [askF, if_neg (fun e => e.elim h0 h)]
set_option maxRecDepth 100000 in
set_option maxHeartbeats 4000000 in
theorem bask_any {A B C : Option Addr} {n ca m cb q cc : Nat} {c : Claim} (w : World) (h : ClaimAt (fun _ => True) w A n B m C q c) (hca : n ≤ ca) (hcb : m ≤ cb) :
  Calls Tryz.prog 31 #[.agg #[.slice A n ca, .slice B m cb, .slice C q cc]] w fun e w' => e = .returned (.tuple #[.int .i64 (askR c).1, .int .i64 (askR c).2.1, .int .i64 (askR c).2.2]) ∧ Below w.heap.size w w' := by
 by_cases he : err c = 0
 ·have hok := okC_of he
  have Herr : Hid (errI c 0 1 = 0) := by rw [Hid, errI, if_neg (by simp [he]), if_pos (by rfl)]
  have Hn := Lib.hid h.fs.len
  have hn5 : n ≤ 5 := by rw [← Hn.out]; exact hok.nf.2
  have hHE := Lib.hid he
  clear he
  go_enter Tryz.func31, Tryz.ntmps31
  go_wp2_with fail
  refine (check61_any 0 1 _ (h.keep (Keeps.alloc _ _)) hca hcb (by decide) (by decide)).mono ?_
  rintro e w1 ⟨rfl, hb1⟩
  rw [Herr.out]
  have hcb1 : Blk w1 w.heap.size 44 #[.slice A n ca, .slice B m cb, .slice C q cc] := (Blk.new _ _ _ rfl).bl hb1
  have hBw1 : Below w.heap.size w w1 := bl_call (bl_alloc (Below.refl _ _) _ (Nat.le_refl _)) hb1 (Nat.le_refl _)
  have hc1 := h.keep (Keeps.below hBw1)
  have hb0 := hcb1.cell 0
  have hb1' := hcb1.cell 1
  have hb2 := hcb1.cell 2
  have hbl := hcb1.lt
  clear hb1
  go_wp2_with (go_at_call 37; refine (btruths_any _).mono ?_; rintro e w' ⟨rfl, rfl⟩)
  obtain ⟨W2, hW2⟩ : ∃ W2, (w1.alloc (.cells #[.slice A n ca, .slice B m cb, .slice C q cc] 95)).alloc (.cells #[.slice A n ca, .slice B m cb, .slice C q cc] 95) = W2 := ⟨_, rfl⟩
  have hB12 : Below w1.heap.size w1 W2 := by rw [← hW2]; exact bl_alloc (bl_alloc (Below.refl _ _) _ (Nat.le_refl _)) _ (Nat.le_refl _)
  have hX2 : Blk W2 w1.heap.size 95 #[.slice A n ca, .slice B m cb, .slice C q cc] := by rw [← hW2]; exact (Blk.new _ _ _ rfl).alloc _
  have hY2 : Blk W2 (w1.heap.size + 1) 95 #[.slice A n ca, .slice B m cb, .slice C q cc] := by rw [← hW2]; exact Blk.new _ _ _ (by simp)
  rw [hW2]
  have hc2 := hc1.keep (Keeps.below hB12)
  have hcb2 := hcb1.bl hB12
  have hBW2 := bl_call hBw1 hB12 (Nat.le_refl _)
  clear hW2 hb0 hb1' hb2 hbl
  refine (collectT_any eg_truths (truths_seq (A0 := A) (B0 := B) (C0 := C) (n := n) (ca := ca) (mm := m) (cb := cb) (q := q) (cc := cc) hok (w1.heap.size + 1)) W2 (fun A' hb => ⟨hY2.bl hb, hc2.keep (Keeps.below hb)⟩) (Nat.le_trans (List.length_filter_le _ _) (Nat.le_trans (allT_len hok).1 (by decide)))).mono ?_
  rintro e W3 ⟨T, nT, cT, rfl, hT, hb3⟩
  have hX3 := hX2.bl hb3
  have hc3 := hc2.keep (Keeps.below hb3)
  have hcb3 := hcb2.bl hb3
  have hBW3 := bl_call hBW2 hb3 (Nat.le_refl _)
  have HTn := Lib.hid hT.len
  have hnT : nT ≤ 100000 := by rw [← HTn.out]; exact Nat.le_trans (List.length_filter_le _ _) (Nat.le_trans (allT_len hok).1 (by decide))
  clear hX2 hY2 hc2 hcb2 hb3 hB12
  by_cases ha : agreeL c = []
  ·have hn0 : nT = 0 := by rw [← HTn.out, ha]; rfl
   have HR : Hid (askR c = (0, 0, 8)) := by rw [Hid, askR, err8_none hHE.out ha, if_pos (by decide)]
   subst hn0
   go_wp2
   go_ret3
   exact ⟨by rw [HR.out]; rfl, hBW3⟩
  have hn0 : ((nT : Int) == 0) = false := by
   have : 0 < nT := by rw [← HTn.out]; exact List.length_pos_iff.2 ha
   simp; omega
  obtain ⟨g, hg⟩ : ∃ g : Nat → Int, leftR c (agreeL c) = g := ⟨_, rfl⟩
  have HR : Hid (askR c = ((askF g n).1, (askF g n).2, 0)) := by rw [Hid, askR, err8_ok hHE.out ha, if_neg (by decide), hg, Hn.out]
  have hg0 := hcb3.cell 0
  clear ha
  go_wp2
  clear hg0 hn0
  go_loopw [2, 3, 7, 8, 25] (fun b l _ _ i wr => ∃ (k : Nat) (fz lz : Int), k ≤ n ∧ i = .int .i64 k ∧ b = .int .i64 fz ∧ l = .int .i64 lz ∧ Hid (askF g k = (fz, lz)) ∧ Below W3.heap.size W3 wr) (fun _ _ _ _ i _ => n - (intOf i).toNat)
  case atStart => exact ⟨0, 0, 0, Nat.zero_le _, rfl, rfl, rfl, rfl, Below.refl _ _⟩
  case round =>
   obtain ⟨k, fz, lz, hk, rfl, rfl, rfl, HA, hB⟩ := hrel
   by_cases hlt : k < n
   ·have hki : (k : Int) < n := by omega
    have hXr := hX3.bl hB
    have hx0 := hXr.cell 0
    have hx1 := hXr.cell 1
    have hx2 := hXr.cell 2
    have HLF := Lib.hid (left_any (ca := ca) (cb := cb) (cc := cc) (cT := cT) (L := agreeL c) k wr (hc3.keep (Keeps.below hB)) hok (hT.keep TrR.good (Keeps.below hB)) (fun t ht => (List.mem_filter.1 ht).1) (by rw [Hn.out]; exact hlt) hnT)
    rw [hg] at HLF
    clear hXr
    obtain ⟨z, hz⟩ : ∃ z, g k = z := ⟨_, rfl⟩
    rw [hz] at HLF
    by_cases h0 : k = 0
    ·subst h0
     have HA2 : Hid (askF g (0 + 1) = (0, z)) := by rw [Hid, askF_zero, hz]
     clear hz
     go_wp2_with (go_at_call 61; refine HLF.out.mono ?_; rintro e w' ⟨rfl, hb⟩; have hB2 := bl_call hB hb (Nat.le_refl _); clear hb)
     go_roundw
     case rel => exact ⟨0 + 1, _, _, by omega, by go_num, rfl, rfl, HA2, hB2⟩
     case measure => simp [intOf]; omega
    have h0b : ((k : Int) == 0) = false := by simp; omega
    by_cases hzl : z < lz
    ·have HA2 : Hid (askF g (k + 1) = ((k : Int), z)) := by rw [Hid, askF_yes (by rw [hz, HA.out]; exact hzl), hz]
     clear hz h0
     go_wp2_with (go_at_call 61; refine HLF.out.mono ?_; rintro e w' ⟨rfl, hb⟩; have hB2 := bl_call hB hb (Nat.le_refl _); clear hb)
     go_roundw
     case rel => exact ⟨k + 1, _, _, by omega, by go_num, rfl, rfl, HA2, hB2⟩
     case measure => simp [intOf]; omega
    have HA2 : Hid (askF g (k + 1) = (fz, lz)) := by rw [Hid, askF_no h0 (by rw [hz, HA.out]; exact hzl), HA.out]
    clear hz h0
    go_wp2_with (go_at_call 61; refine HLF.out.mono ?_; rintro e w' ⟨rfl, hb⟩; have hB2 := bl_call hB hb (Nat.le_refl _); clear hb)
    go_roundw
    case rel => exact ⟨k + 1, _, _, by omega, by go_num, rfl, rfl, HA2, hB2⟩
    case measure => simp [intOf]; omega
   obtain rfl : k = n := by omega
   have HR2 : Hid (askR c = (fz, lz, 0)) := by rw [Hid, HR.out, HA.out]
   go_wp2
   go_ret3
   exact ⟨by rw [HR2.out]; rfl, bl_call hBW3 hB (Nat.le_refl _)⟩
 have HR : Hid (askR c = (0, 0, err c)) := by rw [Hid, askR, err8_bad he, if_pos he]
 have Herr : Hid (errI c 0 1 = err c) := by rw [Hid, errI, if_pos he]
 have hbe : (err c != 0) = true := by simpa using he
 clear he
 generalize err c = ec at HR Herr hbe
 go_enter Tryz.func31, Tryz.ntmps31
 go_wp2_with fail
 refine (check61_any 0 1 _ (h.keep (Keeps.alloc _ _)) hca hcb (by decide) (by decide)).mono ?_
 rintro e w1 ⟨rfl, hb1⟩
 rw [Herr.out]
 have hBw1 : Below w.heap.size w w1 := bl_call (bl_alloc (Below.refl _ _) _ (Nat.le_refl _)) hb1 (Nat.le_refl _)
 go_wp2
 go_ret3
 exact ⟨by rw [HR.out]; rfl, hBw1⟩
def ord5 : List Nat := [0, 1, 2, 4, 8, 16, 3, 5, 9, 17, 6, 10, 18, 12, 20, 24, 7, 11, 19, 13, 21, 25, 14, 22, 26, 28, 15, 23, 27, 29, 30, 31]
def rankN (v : Nat) : Nat := ord5.idxOf v
def chainN (v : Nat) : Nat := ([0, 1, 2, 3, 4, 5, 6, 6, 7, 8, 9, 9, 7, 8, 7, 7, 0, 1, 2, 3, 4, 5, 4, 4, 0, 1, 2, 2, 0, 1, 0, 0] : List Nat).getD v 0
theorem base_ord : ∀ n, n < 6 → (List.range (n + 1)).flatMap (fun many => listsL n many 0) = (ord5.filter fun v => decide (v < 2 ^ n)).map listN := by decide +kernel
theorem less_rank : ∀ a, a < 32 → ∀ b, b < 32 → lessL (listN a) (listN b) = decide (rankN a < rankN b) := by decide +kernel
theorem ord_sorted : ord5.Pairwise fun a b => rankN a < rankN b := by decide +kernel
theorem mem_ord : ∀ v, v < 32 → v ∈ ord5 := by decide +kernel
theorem ord_lt : ∀ v ∈ ord5, v < 32 := by decide +kernel
theorem rank_inj : ∀ a, a < 32 → ∀ b, b < 32 → rankN a = rankN b → a = b := by decide +kernel
theorem listN_inj : ∀ a, a < 32 → ∀ b, b < 32 → listN a = listN b → a = b := by decide +kernel
theorem smaller_bits : ∀ a, a < 32 → ∀ b, b < 32 → (decide ((listN a).length < (listN b).length) && partL (listN a) (listN b)) = decide (a ≠ b ∧ a - (a &&& b) = 0) := by decide +kernel
theorem chain_cmp : ∀ a, a < 32 → ∀ b, b < 32 → chainN a = chainN b → a - (a &&& b) = 0 ∨ b - (b &&& a) = 0 := by decide +kernel
theorem chain_lt : ∀ a, a < 32 → chainN a < 10 := by decide +kernel
theorem nodup_lt : ∀ (n : Nat) (l : List Nat), l.Nodup → (∀ x ∈ l, x < n) → l.length ≤ n := by
 intro n
 induction n with
 | zero => intro l _ h; cases l with
  | nil => exact Nat.le_refl _
  | cons x l => exact absurd (h x List.mem_cons_self) (by omega)
 | succ n ih =>
  intro l hd h
  by_cases hm : n ∈ l
  ·have h1 := ih (l.erase n) (hd.erase n) (fun x hx => by
    have := (hd.mem_erase_iff).1 hx
    have := h x this.2
    omega)
   rw [List.length_erase_of_mem hm] at h1
   omega
  have := ih l hd (fun x hx => by
   have h1 := h x hx
   have h2 : x ≠ n := fun e => hm (e ▸ hx)
   omega)
  omega
theorem anti_len {vs : List Nat} (hd : vs.Nodup) (hlt : ∀ v ∈ vs, v < 32) (ha : ∀ a ∈ vs, ∀ b ∈ vs, a ≠ b → a - (a &&& b) ≠ 0) : vs.length ≤ 10 := by
 have h : (vs.map chainN).Nodup := by
  rw [List.Nodup, List.pairwise_map]
  refine List.Pairwise.imp_of_mem (fun {a b} hm hm' hne he => ?_) hd
  rcases chain_cmp a (hlt a hm) b (hlt b hm') he with h | h
  ·exact ha a hm b hm' hne h
  exact ha b hm' a hm (Ne.symm hne) h
 have := nodup_lt 10 _ h (fun x hx => by obtain ⟨a, hm, rfl⟩ := List.mem_map.1 hx; exact chain_lt a (hlt a hm))
 simpa using this
def leastB (c : Claim) (v : Nat) : Bool := (agreeL c).any (fun t => decide (setN t = v)) && (agreeL c).all (fun t => decide (setN t = v) || decide (setN t - (setN t &&& v) ≠ 0))
theorem setN_small {t : List Int} {n : Nat} (h : t.length = n) (hn : n ≤ 5) : setN t < 2 ^ n := by
 refine Nat.lt_pow_two_of_testBit _ (fun i hi => ?_)
 by_cases h5 : i < 5
 ·rw [setN_bit t i h5, List.getD_eq_getElem?_getD, List.getElem?_eq_none (by omega)]; rfl
 have := setN_lt t
 exact Nat.testBit_lt_two_pow (Nat.lt_of_lt_of_le this (by have := Nat.pow_le_pow_right (show 1 ≤ 2 by decide) (show 5 ≤ i by omega); omega))
theorem isSet_bits {c : Claim} (h : OkC c) {v : Nat} (hv : v < 32) : isSet (agreeL c) (listN v) = (agreeL c).any fun t => decide (setN t = v) := by
 unfold isSet
 apply Bool.eq_iff_iff.2
 simp only [List.any_eq_true, decide_eq_true_eq]
 constructor
 ·rintro ⟨t, ht, he⟩
  have hl := (allT_ok h (List.mem_filter.1 ht).1).1
  rw [← listN_set (by rw [hl]; exact h.nc)] at he
  exact ⟨t, ht, listN_inj _ (setN_lt t) _ hv he⟩
 rintro ⟨t, ht, rfl⟩
 have hl := (allT_ok h (List.mem_filter.1 ht).1).1
 exact ⟨t, ht, (listN_set (by rw [hl]; exact h.nc)).symm⟩
theorem explains_ord {c : Claim} (h : OkC c) : explainsL c = (ord5.filter fun v => (agreeL c).any fun t => decide (setN t = v)).map listN := by
 have h1 : explainsL c = ((List.range (c.causes.length + 1)).flatMap (fun many => listsL c.causes.length many 0)).filter (isSet (agreeL c)) := by
  unfold explainsL; rw [List.filter_flatMap]
 rw [h1, base_ord _ (by have := h.nc; omega), List.filter_map, List.filter_filter]
 congr 1
 refine List.filter_congr fun v hv => ?_
 have hv32 := ord_lt v hv
 simp only [Function.comp_apply]
 rw [isSet_bits h hv32]
 cases ha : (agreeL c).any fun t => decide (setN t = v)
 ·rfl
 obtain ⟨t, ht, he⟩ := List.any_eq_true.1 ha
 have hl := (allT_ok h (List.mem_filter.1 ht).1).1
 have := setN_small hl h.nc
 rw [of_decide_eq_true he] at this
 simp [this]
theorem sets_ord {c : Claim} (h : OkC c) : setsLB c = (ord5.filter (leastB c)).map listN := by
 unfold setsLB
 rw [explains_ord h, List.filter_map, List.filter_filter]
 congr 1
 refine List.filter_congr fun v hv => ?_
 have hv32 := ord_lt v hv
 simp only [Function.comp_apply]
 have hs : smallerIn ((ord5.filter fun v => (agreeL c).any fun t => decide (setN t = v)).map listN) (listN v) = !(agreeL c).all (fun t => decide (setN t = v) || decide (setN t - (setN t &&& v) ≠ 0)) := by
  apply Bool.eq_iff_iff.2
  unfold smallerIn
  rw [List.any_map, List.any_eq_true, Bool.not_eq_true', ← Bool.not_eq_true, List.all_eq_true]
  constructor
  ·rintro ⟨u, hu, hb⟩ hall
   obtain ⟨hu1, hu2⟩ := List.mem_filter.1 hu
   obtain ⟨t, ht, he⟩ := List.any_eq_true.1 hu2
   have he := of_decide_eq_true he
   simp only [Function.comp_apply] at hb
   rw [smaller_bits u (ord_lt u hu1) v hv32] at hb
   have hb := of_decide_eq_true hb
   have h2 := hall t ht
   rw [he] at h2
   simp [hb.1, hb.2] at h2
  intro hn
  obtain ⟨t, ht, hb⟩ : ∃ t ∈ agreeL c, ¬ (decide (setN t = v) || decide (setN t - (setN t &&& v) ≠ 0)) = true := by
   refine Classical.byContradiction fun hc => hn fun t ht => Classical.byContradiction fun h2 => hc ⟨t, ht, h2⟩
  simp only [Bool.or_eq_true, decide_eq_true_eq, not_or, Classical.not_not] at hb
  refine ⟨setN t, List.mem_filter.2 ⟨mem_ord _ (setN_lt t), List.any_eq_true.2 ⟨t, ht, by simp⟩⟩, ?_⟩
  simp only [Function.comp_apply]
  rw [smaller_bits _ (setN_lt t) v hv32]
  exact decide_eq_true ⟨hb.1, hb.2⟩
 rw [hs, Bool.not_not, leastB, Bool.and_comm]
theorem sorted_least {c : Claim} (h : OkC c) {X : List Nat} (hX : X.Pairwise fun a b => rankN a < rankN b) (hm : ∀ v, v ∈ X ↔ (v < 32 ∧ leastB c v = true)) : setsLB c = X.map listN := by
 rw [sets_ord h]
 congr 1
 have hn : ∀ {l : List Nat}, (l.Pairwise fun a b => rankN a < rankN b) → l.Nodup := fun hp => hp.imp (fun {a b} hlt he => by rw [he] at hlt; omega)
 have hp : (ord5.filter (leastB c)).Perm X := by
  rw [List.perm_ext_iff_of_nodup (hn (ord_sorted.filter _)) (hn hX)]
  intro v
  rw [List.mem_filter, hm v]
  exact ⟨fun h => ⟨ord_lt v h.1, h.2⟩, fun h => ⟨mem_ord v h.1, h.2⟩⟩
 exact List.Perm.eq_of_pairwise (fun a b _ _ h1 h2 => by omega) (ord_sorted.filter _) hX hp
theorem least_anti {c : Claim} {a b : Nat} (ha : leastB c a = true) (hb : leastB c b = true) (hne : a ≠ b) : a - (a &&& b) ≠ 0 := by
 unfold leastB at ha hb
 simp only [Bool.and_eq_true, List.any_eq_true, List.all_eq_true, decide_eq_true_eq, Bool.or_eq_true] at ha hb
 obtain ⟨t, ht, rfl⟩ := ha.1
 exact (hb.2 t ht).resolve_left hne
end Go.Proofs.YtdbfincinjoppabGreatDoor
namespace Go.Proofs
open Go.Shelf Go.RowKit
def Tryz.sortSets_ren : Go.Shelf.Ren := ⟨fun | 6 => 43 | 15 => 73 | 14 => 72 | 28 => 117 | 29 => 118 | 20 => 109 | 21 => 110 | 22 => 111 | 23 => 112 | 24 => 113 | 25 => 114 | 26 => 115 | 27 => 116 | 46 => 129 | 47 => 130 | 48 => 131 | 49 => 132 | 50 => 133 | 57 => 144 | n => n, fun | 22 => 54 | 24 => 45 | 25 => 105 | 3 => 3 | 39 => 119 | 0 => 0 | 53 => 156 | 55 => 158 | 4 => 4 | 46 => 177 | 45 => 176 | 50 => 153 | 5 => 5 | 9 => 9 | 66 => 193 | 70 => 197 | 76 => 205 | 77 => 206 | n => n, fun n => n⟩
theorem Tryz.sortSets : SlLaysF.n6 Tryz.prog Tryz.sortSets_ren where
 mixed := by kernel_rfl
 f6 := ⟨Tryz.f43.name, by kernel_rfl, Tryz.func43.trans (congrArg some (by kernel_rfl))⟩
 f14 := ⟨Tryz.f72.name, by kernel_rfl, Tryz.func72.trans (congrArg some (by kernel_rfl))⟩
 f15 := Tryz.func73.trans (congrArg some (by kernel_rfl))
 f20 := ⟨Tryz.f109.name, by kernel_rfl, Tryz.func109.trans (congrArg some (by kernel_rfl))⟩
 f21 := ⟨Tryz.f110.name, by kernel_rfl, Tryz.func110.trans (congrArg some (by kernel_rfl))⟩
 f22 := ⟨Tryz.f111.name, by kernel_rfl, Tryz.func111.trans (congrArg some (by kernel_rfl))⟩
 f23 := ⟨Tryz.f112.name, by kernel_rfl, Tryz.func112.trans (congrArg some (by kernel_rfl))⟩
 f24 := ⟨Tryz.f113.name, by kernel_rfl, Tryz.func113.trans (congrArg some (by kernel_rfl))⟩
 f25 := ⟨Tryz.f114.name, by kernel_rfl, Tryz.func114.trans (congrArg some (by kernel_rfl))⟩
 f26 := ⟨Tryz.f115.name, by kernel_rfl, Tryz.func115.trans (congrArg some (by kernel_rfl))⟩
 f27 := ⟨Tryz.f116.name, by kernel_rfl, Tryz.func116.trans (congrArg some (by kernel_rfl))⟩
 f28 := Tryz.func117.trans (congrArg some (by kernel_rfl))
 f29 := Tryz.func118.trans (congrArg some (by kernel_rfl))
 f46 := ⟨Tryz.f129.name, by kernel_rfl, Tryz.func129.trans (congrArg some (by kernel_rfl))⟩
 f47 := Tryz.func130.trans (congrArg some (by kernel_rfl))
 f48 := Tryz.func131.trans (congrArg some (by kernel_rfl))
 f49 := ⟨Tryz.f132.name, by kernel_rfl, Tryz.func132.trans (congrArg some (by kernel_rfl))⟩
 f50 := ⟨Tryz.f133.name, by kernel_rfl, Tryz.func133.trans (congrArg some (by kernel_rfl))⟩
 f57 := ⟨Tryz.f144.name, by kernel_rfl, Tryz.func144.trans (congrArg some (by kernel_rfl))⟩
 t0 := Tryz.underlying0
 a0 := Tryz.isAgg0
 z0 := Tryz.sizeOf0
 v0 := Tryz.zeroValue0
 t3 := Tryz.underlying3
 a3 := Tryz.isAgg3
 z3 := Tryz.sizeOf3
 v3 := Tryz.zeroValue3
 t4 := Tryz.underlying4
 a4 := Tryz.isAgg4
 z4 := Tryz.sizeOf4
 v4 := Tryz.zeroValue4
 t5 := Tryz.underlying5
 a5 := Tryz.isAgg5
 z5 := Tryz.sizeOf5
 v5 := Tryz.zeroValue5
 t9 := Tryz.underlying9
 a9 := Tryz.isAgg9
 z9 := Tryz.sizeOf9
 v9 := Tryz.zeroValue9
 t22 := Tryz.underlying54
 a22 := Tryz.isAgg54
 z22 := Tryz.sizeOf54
 v22 := Tryz.zeroValue54
 a24 := Tryz.isAgg45
 z24 := Tryz.sizeOf45
 t25 := Tryz.underlying105
 a25 := Tryz.isAgg105
 z25 := Tryz.sizeOf105
 v25 := Tryz.zeroValue105
 t39 := Tryz.underlying119
 a39 := Tryz.isAgg119
 z39 := Tryz.sizeOf119
 v39 := Tryz.zeroValue119
 t45 := Tryz.underlying176
 a45 := Tryz.isAgg176
 z45 := Tryz.sizeOf176
 v45 := Tryz.zeroValue176
 t46 := Tryz.underlying177
 a46 := Tryz.isAgg177
 z46 := Tryz.sizeOf177
 v46 := Tryz.zeroValue177
 t50 := Tryz.underlying153
 a50 := Tryz.isAgg153
 z50 := Tryz.sizeOf153
 v50 := Tryz.zeroValue153
 t53 := Tryz.underlying156
 a53 := Tryz.isAgg156
 z53 := Tryz.sizeOf156
 v53 := Tryz.zeroValue156
 t55 := Tryz.underlying158
 a55 := Tryz.isAgg158
 z55 := Tryz.sizeOf158
 v55 := Tryz.zeroValue158
 t66 := Tryz.underlying193
 a66 := Tryz.isAgg193
 z66 := Tryz.sizeOf193
 v66 := Tryz.zeroValue193
 t70 := Tryz.underlying197
 a70 := Tryz.isAgg197
 z70 := Tryz.sizeOf197
 v70 := Tryz.zeroValue197
 t76 := Tryz.underlying205
 a76 := Tryz.isAgg205
 z76 := Tryz.sizeOf205
 v76 := Tryz.zeroValue205
 t77 := Tryz.underlying206
 a77 := Tryz.isAgg206
 z77 := Tryz.sizeOf206
 v77 := Tryz.zeroValue206
end Go.Proofs
namespace Go.Proofs.YtdbfincinjoppabGreatDoor
open Go.RowKit Go.Shelf Go.Sort
structure RowH (S : Foot) (w : World) where
 A : Option Addr
 n : Nat
 c : Nat
 v : Nat
 hv : v < 32
 h : Ints S w A n (listN v)
def RowH.zero (S : Foot) (w : World) : RowH S w := ⟨none, 0, 0, 0, by decide, SliceOf.nil _ _ _ _ _⟩
instance (S : Foot) (w : World) : Inhabited (RowH S w) := ⟨RowH.zero S w⟩
def encR {S : Foot} {w : World} (r : RowH S w) : Value := .slice r.A r.n r.c
def cmpR {S : Foot} {w : World} (x y : RowH S w) : Int := orderL (listN x.v) (listN y.v)
theorem ltR {S : Foot} {w : World} (x y : RowH S w) : ltOf cmpR x y = decide (rankN x.v < rankN y.v) := by
 rw [← less_rank x.v x.hv y.v y.hv, ← order_less]; rfl
theorem swoR (S : Foot) (w : World) : SWO (ltOf (cmpR (S := S) (w := w))) := by
 refine ⟨fun x => ?_, fun x y z => ?_, fun x y z => ?_⟩ <;> simp only [ltR] <;> simp <;> omega
theorem keeps_sort {S : Foot} {w : World} {blk m : Nat} {dk : Array (RowH S w)} {os : Array Obj} (hS : ¬ S blk) : Keeps S w (sortWorld encR w blk 0 m dk os) := by
 refine ⟨by simp [sortWorld, Sort.grow, putRow, mapBlock, Sort.ahead], fun k hk hlt => ?_⟩
 unfold sortWorld
 rw [Sort.heap_grow_old _ _ (by simpa [putRow, mapBlock, Sort.ahead] using hlt)]
 simp only [putRow, mapBlock, Sort.ahead]
 rw [Array.getElem?_modify, if_neg (fun e => hS (by rw [e]; exact hk))]
theorem eg_order : Enters Tryz.prog 44 := enters_of Tryz.func44 (by kernel_rfl) rfl
theorem hlen12 (n : Nat) (W : World) (h : n ≤ 12) : Calls Tryz.prog 73 #[.int .u64 n] W fun e w' => (∃ l : Int, e = .returned (.int .i64 l)) ∧ w' = W :=
 (Any.bits_Len Tryz.bitsLen n W (by omega) (by omega)).mono fun _ _ ⟨he, hw⟩ => ⟨⟨_, he⟩, hw⟩
theorem sort_rows {S : Foot} {w : World} {blk cap : Nat} {xs : List Nat} (hS : ¬ S blk) (hblk : blk < w.heap.size) (hrows : ∀ (k v : Nat), xs[k]? = some v → v < 32 ∧ ∃ A n c, w.cell? ⟨blk, k, none⟩ = some (.slice A n c) ∧ Ints S w A n (listN v))
  (hfro : ∀ k, k < xs.length → w.frozen? ⟨blk, k, none⟩ = false) (h12 : xs.length ≤ 12) (hnd : xs.Nodup) :
  Calls Tryz.prog 43 #[.slice (some ⟨blk, 0, none⟩) xs.length cap, .func (.func 44) #[] #[]] w fun e w' => e = .returned (.tuple #[]) ∧
   ∃ Y : List Nat, (Y.Pairwise fun a b => rankN a < rankN b) ∧ (∀ v, v ∈ Y ↔ v ∈ xs) ∧ Rows (fun k => S k ∨ k = blk) w' (some ⟨blk, 0, none⟩) xs.length (Y.map listN) ∧ Kept (fun k => k = blk) w w' := by
 have hex : ∀ k, ∃ r : RowH S w, k < xs.length → xs[k]? = some r.v ∧ w.cell? ⟨blk, k, none⟩ = some (encR r) := fun k => by
  by_cases hk : k < xs.length
  ·obtain ⟨hv, A, n, c, hc, hi⟩ := hrows k xs[k] (List.getElem?_eq_getElem hk)
   exact ⟨⟨A, n, c, xs[k], hv, hi⟩, fun _ => ⟨List.getElem?_eq_getElem hk, hc⟩⟩
  exact ⟨default, fun h => absurd h hk⟩
 obtain ⟨F, hF⟩ := Classical.axiomOfChoice hex
 obtain ⟨d, hd⟩ : ∃ d : Array (RowH S w), d = ((List.range xs.length).map F).toArray := ⟨_, rfl⟩
 have hds : d.size = xs.length := by rw [hd]; simp
 have hdv : d.toList.map (·.v) = xs := by
  rw [hd]
  apply List.ext_getElem?
  intro k
  simp only [List.map_map, List.getElem?_map]
  by_cases hk : k < xs.length
  ·rw [List.getElem?_range hk, (hF k hk).1]; rfl
  rw [List.getElem?_eq_none (by simp; omega), List.getElem?_eq_none (by omega)]; rfl
 have hget : ∀ j, j < d.size → d[j]! = F j := fun j hj => by
  rw [getElem!_pos d j hj]; simp [hd]
 have hH : Holds encR w blk 0 d := fun j hj => by
  rw [hget j hj, Nat.zero_add]
  exact ⟨(hF j (by omega)).2, hfro j (by omega)⟩
 have hcon := Any.slices_SortFunc_small_sorted Tryz.sortSets encR (fun _ => rfl) cmpR (swoR S w) 44 #[] blk 0 cap d w eg_order
  (fun m os dk _ x y => by
   refine (order_any _ (x.h.keep IntR.good (keeps_sort hS)) (y.h.keep IntR.good (keeps_sort hS))).mono ?_
   rintro e w' ⟨he, rfl⟩
   exact ⟨he, 0, rfl⟩) hH (by omega) hlen12
 rw [hds] at hcon
 refine Calls.mono hcon ?_
 rintro e w' ⟨he, d', q, hp, hs, rfl⟩
 obtain ⟨hsz, _, hpm⟩ := hp
 have hsz' : d'.size = xs.length := by rw [hsz, hds]
 have hpm' : (d'.toList.map (·.v)).Perm xs := by
  rw [← hdv]
  refine List.Perm.map _ ?_
  have e1 : d'.extract 0 xs.length = d' := by rw [← hsz']; simp
  have e2 : d.extract 0 xs.length = d := by rw [← hds]; simp
  rw [e1, e2] at hpm
  exact hpm
 have hndY : (d'.toList.map (·.v)).Nodup := hpm'.nodup_iff.2 hnd
 have hK : Kept (fun k => k = blk) w ((putRow encR w blk 0 d').drewN q) := by
  refine ⟨rfl, rfl, rfl, by simp [putRow, mapBlock], fun k hk hne => ?_⟩
  simp only [World.drewN, putRow, mapBlock]
  rw [Array.getElem?_modify, if_neg (fun e => hne e.symm)]
 refine ⟨he, d'.toList.map (·.v), ?_, fun v => hpm'.mem_iff, ?_, hK⟩
 ·rw [List.pairwise_iff_getElem]
  intro i j hi hj hij
  simp only [List.length_map, Array.length_toList] at hi hj
  have h1 := hs i j (Nat.zero_le _) hij (by omega)
  rw [getElem!_pos d' i (by omega), getElem!_pos d' j (by omega), ltR] at h1
  have h1 := of_decide_eq_false h1
  have h2 : d'[i].v ≠ d'[j].v := by
   have := (List.pairwise_iff_getElem.1 hndY) i j (by simp; omega) (by simp; omega) hij
   simpa using this
  have h3 : rankN d'[i].v ≠ rankN d'[j].v := fun e => h2 (rank_inj _ d'[i].hv _ d'[j].hv e)
  simp only [List.getElem_map, Array.getElem_toList]
  omega
 refine ⟨by simp [hsz'], by unfold maxLen; omega, fun k x hx => ?_⟩
 have hk : k < d'.size := by have := of_getq' hx; simpa using this
 rw [List.getElem?_map, List.getElem?_map, Array.getElem?_toList, Array.getElem?_eq_getElem hk] at hx
 have hx : listN d'[k].v = x := by simpa using hx
 subst hx
 have hh := (holds_putRow encR w blk 0 d d' hH hsz k hk).1
 rw [getElem!_pos d' k hk] at hh
 refine ⟨blk, 0, [encR d'[k]], rfl, .inr rfl, Nat.lt_of_lt_of_le hblk hK.size, ⟨d'[k].A, d'[k].n, d'[k].c, rfl, (d'[k].h.keep IntR.good (hK.keeps (fun j hj e => hS (by rw [← e]; exact hj)))).mono IntR.good (fun _ h => .inl h)⟩, fun j u hu => ?_⟩
 cases j with
 | zero => simp at hu; subst hu; simpa using hh
 | succ j => simp at hu
theorem ins_nil (w : World) : Calls Tryz.prog 109 #[.slice none 0 0, .int .i64 0, .int .i64 0, .func (.func 44) #[] #[]] w fun e w' => e = .returned (.tuple #[]) ∧ w = w' := by
 go_enter Tryz.func109, Tryz.ntmps109
 go_wp2
 refine wp_loop_rounds 1 ?_
 rw [rounds_succ]
 go_wp2
 go_end0
 exact ⟨rfl, rfl⟩
theorem pdq_nil (l : Int) (w : World) : Calls Tryz.prog 72 #[.slice none 0 0, .int .i64 0, .int .i64 0, .int .i64 l, .func (.func 44) #[] #[]] w fun e w' => e = .returned (.tuple #[]) ∧ w = w' := by
 go_enter Tryz.func72, Tryz.ntmps72
 go_wp2
 refine wp_loop_rounds 1 ?_
 rw [rounds_succ]
 go_wp2_with (go_at_call 109; refine (ins_nil _).mono ?_; rintro e w' ⟨rfl, rfl⟩)
 (try simp only [Exit.inBlock, Exit.then]); refine bodyPost_ret (results_none rfl _ _ _) rfl ?_
 exact ⟨rfl, rfl⟩
theorem sort_nil (w : World) : Calls Tryz.prog 43 #[.slice none 0 0, .func (.func 44) #[] #[]] w fun e w' => e = .returned (.tuple #[]) ∧ w = w' := by
 have hl := hlen12 0 w (by decide)
 go_enter Tryz.func43, Tryz.ntmps43
 go_wp2_with (first | (go_at_call 73; refine hl.mono ?_; rintro e w' ⟨⟨l, rfl⟩, rfl⟩) | (go_at_call 72; refine (pdq_nil _ _).mono ?_; rintro e w' ⟨rfl, rfl⟩))
 go_end0
 exact ⟨rfl, rfl⟩
end Go.Proofs.YtdbfincinjoppabGreatDoor
