/- A part of the proof that TopWorn always answers true. -/
import Derived.Shelf.SlSortCmp.NoneTotal
import Derived.Test.YtdbfincinjoppabGreatDoorCIter
import Derived.Test.YtdbfincinjoppabGreatDoorCIter3
import Derived.Test.YtdbfincinjoppabGreatDoorCKList
set_option linter.all false
namespace Go.Proofs
open Go.Shelf Go.RowKit
def Tryz.sortInts_ren : Go.Shelf.Ren := ⟨fun | 6 => 81 | 15 => 73 | 14 => 120 | 28 => 117 | 29 => 118 | 20 => 135 | 21 => 136 | 22 => 137 | 23 => 138 | 24 => 139 | 25 => 140 | 26 => 141 | 27 => 142 | 46 => 145 | 47 => 130 | 48 => 131 | 49 => 146 | 50 => 147 | 57 => 148 | n => n, fun | 22 => 45 | 24 => 3 | 25 => 150 | 3 => 3 | 39 => 119 | 0 => 0 | 53 => 156 | 55 => 158 | 4 => 4 | 46 => 177 | 45 => 176 | 50 => 153 | 5 => 5 | 9 => 9 | 66 => 193 | 70 => 197 | 76 => 205 | 77 => 206 | n => n, fun n => n⟩
theorem Tryz.sortInts : SlLaysF.n6 Tryz.prog Tryz.sortInts_ren where
 mixed := by kernel_rfl
 f6 := ⟨Tryz.f81.name, by kernel_rfl, Tryz.func81.trans (congrArg some (by kernel_rfl))⟩
 f14 := ⟨Tryz.f120.name, by kernel_rfl, Tryz.func120.trans (congrArg some (by kernel_rfl))⟩
 f15 := Tryz.func73.trans (congrArg some (by kernel_rfl))
 f20 := ⟨Tryz.f135.name, by kernel_rfl, Tryz.func135.trans (congrArg some (by kernel_rfl))⟩
 f21 := ⟨Tryz.f136.name, by kernel_rfl, Tryz.func136.trans (congrArg some (by kernel_rfl))⟩
 f22 := ⟨Tryz.f137.name, by kernel_rfl, Tryz.func137.trans (congrArg some (by kernel_rfl))⟩
 f23 := ⟨Tryz.f138.name, by kernel_rfl, Tryz.func138.trans (congrArg some (by kernel_rfl))⟩
 f24 := ⟨Tryz.f139.name, by kernel_rfl, Tryz.func139.trans (congrArg some (by kernel_rfl))⟩
 f25 := ⟨Tryz.f140.name, by kernel_rfl, Tryz.func140.trans (congrArg some (by kernel_rfl))⟩
 f26 := ⟨Tryz.f141.name, by kernel_rfl, Tryz.func141.trans (congrArg some (by kernel_rfl))⟩
 f27 := ⟨Tryz.f142.name, by kernel_rfl, Tryz.func142.trans (congrArg some (by kernel_rfl))⟩
 f28 := Tryz.func117.trans (congrArg some (by kernel_rfl))
 f29 := Tryz.func118.trans (congrArg some (by kernel_rfl))
 f46 := ⟨Tryz.f145.name, by kernel_rfl, Tryz.func145.trans (congrArg some (by kernel_rfl))⟩
 f47 := Tryz.func130.trans (congrArg some (by kernel_rfl))
 f48 := Tryz.func131.trans (congrArg some (by kernel_rfl))
 f49 := ⟨Tryz.f146.name, by kernel_rfl, Tryz.func146.trans (congrArg some (by kernel_rfl))⟩
 f50 := ⟨Tryz.f147.name, by kernel_rfl, Tryz.func147.trans (congrArg some (by kernel_rfl))⟩
 f57 := ⟨Tryz.f148.name, by kernel_rfl, Tryz.func148.trans (congrArg some (by kernel_rfl))⟩
 t0 := Tryz.underlying0
 a0 := Tryz.isAgg0
 z0 := Tryz.sizeOf0
 v0 := Tryz.zeroValue0
 t3 := Tryz.underlying3
 a3 := Tryz.isAgg3
 z3 := Tryz.sizeOf3
 v3 := Tryz.zeroValue3
 t4 := Tryz.underlying4
 a4 := Tryz.isAgg4
 z4 := Tryz.sizeOf4
 v4 := Tryz.zeroValue4
 t5 := Tryz.underlying5
 a5 := Tryz.isAgg5
 z5 := Tryz.sizeOf5
 v5 := Tryz.zeroValue5
 t9 := Tryz.underlying9
 a9 := Tryz.isAgg9
 z9 := Tryz.sizeOf9
 v9 := Tryz.zeroValue9
 t22 := Tryz.underlying45
 a22 := Tryz.isAgg45
 z22 := Tryz.sizeOf45
 v22 := Tryz.zeroValue45
 a24 := Tryz.isAgg3
 z24 := Tryz.sizeOf3
 t25 := Tryz.underlying150
 a25 := Tryz.isAgg150
 z25 := Tryz.sizeOf150
 v25 := Tryz.zeroValue150
 t39 := Tryz.underlying119
 a39 := Tryz.isAgg119
 z39 := Tryz.sizeOf119
 v39 := Tryz.zeroValue119
 t45 := Tryz.underlying176
 a45 := Tryz.isAgg176
 z45 := Tryz.sizeOf176
 v45 := Tryz.zeroValue176
 t46 := Tryz.underlying177
 a46 := Tryz.isAgg177
 z46 := Tryz.sizeOf177
 v46 := Tryz.zeroValue177
 t50 := Tryz.underlying153
 a50 := Tryz.isAgg153
 z50 := Tryz.sizeOf153
 v50 := Tryz.zeroValue153
 t53 := Tryz.underlying156
 a53 := Tryz.isAgg156
 z53 := Tryz.sizeOf156
 v53 := Tryz.zeroValue156
 t55 := Tryz.underlying158
 a55 := Tryz.isAgg158
 z55 := Tryz.sizeOf158
 v55 := Tryz.zeroValue158
 t66 := Tryz.underlying193
 a66 := Tryz.isAgg193
 z66 := Tryz.sizeOf193
 v66 := Tryz.zeroValue193
 t70 := Tryz.underlying197
 a70 := Tryz.isAgg197
 z70 := Tryz.sizeOf197
 v70 := Tryz.zeroValue197
 t76 := Tryz.underlying205
 a76 := Tryz.isAgg205
 z76 := Tryz.sizeOf205
 v76 := Tryz.zeroValue205
 t77 := Tryz.underlying206
 a77 := Tryz.isAgg206
 z77 := Tryz.sizeOf206
 v77 := Tryz.zeroValue206
end Go.Proofs
namespace Go.Proofs.YtdbfincinjoppabGreatDoor
open Go.RowKit Go.Shelf Go.Sort
def cmpM (a b : Nat) : Int := if ((bitL a).length : Int) - (bitL b).length = 0 then lexC (bitL a) (bitL b) else (bitL a).length - (bitL b).length
theorem cmpM_neg {a b : Nat} : cmpM a b < 0 ↔ (bitL a).length < (bitL b).length ∨ ((bitL a).length = (bitL b).length ∧ lexC (bitL a) (bitL b) < 0) := by
 unfold cmpM
 split <;> omega
theorem cmpM_refl (a : Nat) : ¬ cmpM a a < 0 := by rw [cmpM_neg, lexC_refl]; omega
theorem cmpM_trans {a b c : Nat} (h1 : cmpM a b < 0) (h2 : cmpM b c < 0) : cmpM a c < 0 := by
 rw [cmpM_neg] at *
 rcases h1 with h1 | ⟨h1, h3⟩ <;> rcases h2 with h2 | ⟨h2, h4⟩
 ·left; omega
 ·left; omega
 ·left; omega
 right; exact ⟨by omega, lexC_trans _ _ _ h3 h4⟩
theorem cmpM_ntrans {a b c : Nat} (h1 : ¬ cmpM a b < 0) (h2 : ¬ cmpM b c < 0) : ¬ cmpM a c < 0 := by
 intro h3
 rw [cmpM_neg] at *
 have h1 := not_or.1 h1
 have h2 := not_or.1 h2
 rcases h3 with h3 | ⟨h3, h4⟩
 ·omega
 have e1 : (bitL a).length = (bitL b).length := by omega
 have e2 : (bitL b).length = (bitL c).length := by omega
 have n1 : ¬ lexC (bitL a) (bitL b) < 0 := fun h => h1.2 ⟨e1, h⟩
 have n2 : ¬ lexC (bitL b) (bitL c) < 0 := fun h => h2.2 ⟨e2, h⟩
 by_cases n3 : lexC (bitL b) (bitL a) < 0
 ·exact n2 (lexC_trans _ _ _ n3 h4)
 rw [lexC_tri _ _ n1 n3] at h4; exact n2 h4
def maskL (l : List Int) : Nat := l.foldl (fun m i => m + 2 ^ i.toNat) 0
def setsM (n : Nat) : List Nat := (setsL n).map maskL
theorem setsM_bits : ∀ n, n < 7 → (setsM n).map bitL = setsL n := by decide +kernel
theorem setsM_perm : ∀ n, n < 7 → (setsM n).Perm (List.range (2 ^ n)) := by decide +kernel
theorem setsM_sorted : ∀ n, n < 7 → (setsM n).Pairwise fun a b => cmpM a b < 0 := by decide +kernel
theorem sorted_eq : ∀ (Y Z : List Nat), Y.Perm Z → (Y.Pairwise fun a b => ¬ cmpM b a < 0) → (Z.Pairwise fun a b => cmpM a b < 0) → Y = Z
 | [], Z, hp, _, _ => (List.nil_perm.1 hp).symm
 | y :: Y, [], hp, _, _ => by simpa using hp.length_eq
 | y :: Y, z :: Z, hp, h1, h2 => by
  obtain ⟨a1, a2⟩ := List.pairwise_cons.1 h1
  obtain ⟨b1, b2⟩ := List.pairwise_cons.1 h2
  have hyz : y = z := by
   rcases List.mem_cons.1 (hp.mem_iff.1 List.mem_cons_self) with h | h
   ·exact h
   rcases List.mem_cons.1 (hp.mem_iff.2 (List.mem_cons_self (a := z) (l := Z))) with h3 | h3
   ·exact h3.symm
   exact absurd (b1 y h) (a1 z h3)
  subst hyz
  rw [sorted_eq Y Z (List.perm_cons y |>.1 hp) a2 b2]
open Go.RowKit Go.Shelf
theorem eg_KSet : Enters Tryz.prog 82 := enters_of Tryz.func82 (by kernel_rfl) rfl
set_option maxRecDepth 100000 in
set_option maxHeartbeats 1000000 in
theorem ksets1_any (a b : Nat) (ha : a < 256) (hb : b < 256) (w : World) : Calls Tryz.prog 82 #[.int .i64 (a : Int), .int .i64 (b : Int)] w fun e w' => e = .returned (.int .i64 (cmpM a b)) ∧ Grw w w' := by
 have h8 := bitL_len a ha
 have h9 := bitL_len b hb
 obtain ⟨la, hla⟩ : ∃ l, (bitL a).length = l := ⟨_, rfl⟩
 obtain ⟨lb, hlb⟩ : ∃ l, (bitL b).length = l := ⟨_, rfl⟩
 have HD : Hid (cmpM a b = if (la : Int) - lb = 0 then lexC (bitL a) (bitL b) else la - lb) := by rw [Hid, cmpM, hla, hlb]
 have HO1 : Hid (∀ w, Calls Tryz.prog 54 #[.int .u64 a] w fun e w' => e = .returned (.int .i64 la) ∧ w = w') := fun w => by have := ones_any a ha w; rw [hla] at this; exact this
 have HO2 : Hid (∀ w, Calls Tryz.prog 54 #[.int .u64 b] w fun e w' => e = .returned (.int .i64 lb) ∧ w = w') := fun w => by have := ones_any b hb w; rw [hlb] at this; exact this
 rw [hla] at h8
 rw [hlb] at h9
 have hwr : IntKind.i64.wrap ((la : Int) - lb) = la - lb := by rw [IntKind.wrap_i64]; omega
 obtain ⟨dd, hdd⟩ : ∃ d : Int, (la : Int) - lb = d := ⟨_, rfl⟩
 rw [hdd] at HD hwr
 have hdb : -8 ≤ dd ∧ dd ≤ 8 := by omega
 clear hla hlb
 go_enter Tryz.func82, Tryz.ntmps82
 go_wp2_with fail
 refine (HO1.out _).mono ?_
 rintro e w' ⟨rfl, rfl⟩
 go_wp2_with fail
 refine (HO2.out _).mono ?_
 rintro e w' ⟨rfl, rfl⟩
 by_cases hz : dd = 0
 ·have HR : Hid (cmpM a b = lexC (bitL a) (bitL b)) := by rw [Hid, HD.out, if_pos hz]
  have hdz : (dd != 0) = false := by rw [hz]; rfl
  rw [hz] at hdd
  go_wp2_with fail
  refine (klist_any a w ha).mono ?_
  rintro e w1 ⟨⟨A1, c1, rfl, i1⟩, g1⟩
  go_wp2_with fail
  refine (klist_any b w1 hb).mono ?_
  rintro e w2 ⟨⟨A2, c2, rfl, i2⟩, g2⟩
  go_wp2_with fail
  refine (compare_any w2 (i1.keep IntR.good (Keeps.below g2.2)) i2).mono ?_
  rintro e w3 ⟨rfl, rfl⟩
  go_wp2_with fail
  go_ret
  exact ⟨by rw [HR.out]; rfl, g1.trans g2⟩
 have HR : Hid (cmpM a b = dd) := by rw [Hid, HD.out, if_neg hz]
 have hdz : (dd != 0) = true := by simpa using hz
 go_wp2_with fail
 go_ret
 exact ⟨by rw [HR.out]; rfl, Grw.refl _⟩
open Go.RowKit Go.Shelf Go.Sort
theorem kept_sort1 {α : Type} [Inhabited α] {enc : α → Value} {w : World} {blk n : Nat} {d : Array α} {os : Array Obj} : Kept (fun k => k = blk) w (sortWorld enc w blk 0 n d os) := by
 refine ⟨rfl, rfl, rfl, by simp [sortWorld, Sort.grow, putRow, mapBlock, Sort.ahead], fun k hk hne => ?_⟩
 unfold sortWorld
 rw [Sort.heap_grow_old _ _ (by simpa [putRow, mapBlock, Sort.ahead] using hk)]
 simp only [putRow, mapBlock, Sort.ahead]
 rw [Array.getElem?_modify, if_neg (fun e => hne e.symm)]
structure M8 where
 v : Nat
 h : v < 256
instance : Inhabited M8 := ⟨⟨0, by decide⟩⟩
def encM (x : M8) : Value := .int .i64 (x.v : Int)
def cmpE8 (x y : M8) : Int := cmpM x.v y.v
theorem swo8 : SWO (ltOf cmpE8) := by
 refine ⟨fun x => ?_, fun x y z h1 h2 => ?_, fun x y z h1 h2 => ?_⟩
 ·exact decide_eq_false (cmpM_refl _)
 ·exact decide_eq_true (cmpM_trans (of_decide_eq_true h1) (of_decide_eq_true h2))
 exact decide_eq_false (cmpM_ntrans (of_decide_eq_false h1) (of_decide_eq_false h2))
set_option maxHeartbeats 1000000 in
theorem sort_ints {W : World} {base k cap : Nat} {Ad : Option Addr} {vs : List Nat} (hO : OwnL IntR 1 (fun _ => False) W base 3 (.slice Ad k cap) (vs.map fun v : Nat => (v : Int))) (hk : vs.length = k) (h8 : ∀ v ∈ vs, v < 256) (h0 : 0 < k) (hkb : k ≤ 1000) :
  Calls Tryz.prog 81 #[.slice Ad k cap, .func (.func 82) #[] #[]] W fun e w' => e = .returned (.tuple #[]) ∧
   ∃ Y : List Nat, Y.Perm vs ∧ (Y.Pairwise fun a b => ¬ cmpM b a < 0) ∧ Ints (fun j => base ≤ j) w' Ad k (Y.map fun v : Nat => (v : Int)) ∧ Kept (fun j => base ≤ j) W w' := by
 obtain ⟨hS0, cells, hrow, hcells⟩ := hO
 rcases hrow.2 with ⟨hv, hn⟩ | ⟨g, cap', cur, hv, hb, hg, hnc, _, hsz, htk⟩
 ·rw [List.length_map] at hn; omega
 injection hv with e1 e2 e3
 subst e1 e3
 rw [List.length_map] at e2 htk hnc
 have hgl : g < W.heap.size := (Array.getElem?_eq_some_iff.1 hg).1
 have hB : Blk W g 3 cur := hg
 have hcell : ∀ (j v : Nat), vs[j]? = some v → W.cell? ⟨g, j, none⟩ = some (.int .i64 (v : Int)) := fun j v hj => by
  obtain ⟨us, hus, hc⟩ := hcells j (v : Int) (by rw [List.getElem?_map, hj]; rfl)
  have hus : us = [.int .i64 (v : Int)] := hus
  subst hus
  have h := hc 0 _ rfl
  rw [← htk, List.getElem?_take, if_pos (by have := of_getq' hj; omega)] at h
  rw [hB.cell j]
  simpa using h
 obtain ⟨d, hd⟩ : ∃ d : Array M8, d = (vs.pmap (fun v h => ⟨v, h⟩) h8).toArray := ⟨_, rfl⟩
 have hds : d.size = vs.length := by rw [hd]; simp
 have hdv : d.toList.map (·.v) = vs := by rw [hd]; simp [List.map_pmap]
 have hget : ∀ j, j < d.size → vs[j]? = some (d[j]!).v := fun j hj => by
  rw [getElem!_pos d j hj, ← hdv, List.getElem?_map, Array.getElem?_toList, Array.getElem?_eq_getElem hj]; rfl
 have hH : Holds encM W g 0 d := fun j hj => by
  rw [Nat.zero_add]
  exact ⟨hcell j _ (hget j hj), hB.frozen j⟩
 have hcon := Any.slices_SortFunc Tryz.sortInts encM (fun _ => rfl) cmpE8 swo8 82 #[] g 0 cap d W eg_KSet
  (fun m os dk _ x y => (ksets1_any x.v y.v x.h y.h _).mono fun e w' h => ⟨h.1, h.2.form⟩) hH hgl (by omega)
 rw [hds, hk] at hcon
 refine Calls.mono hcon ?_
 rintro e w' ⟨he, d', n, os, hp, hso, rfl⟩
 obtain ⟨hsz', _, hpm⟩ := hp
 have hsz' : d'.size = k := by rw [hsz', hds, hk]
 have hpm' : (d'.toList.map (·.v)).Perm vs := by
  rw [← hdv]
  refine List.Perm.map _ ?_
  have e1 : d'.extract 0 k = d' := by rw [← hsz']; simp
  have e2 : d.extract 0 k = d := by rw [← hk, ← hds]; simp
  rw [e1, e2] at hpm
  exact hpm
 have hK : Kept (fun j => j = g) W (sortWorld encM W g 0 n d' os) := kept_sort1
 have hH' := holds_sortWorld encM W g 0 n d d' os hgl hH (by rw [hsz', hds, hk])
 refine ⟨he, d'.toList.map (·.v), hpm', ?_, ?_, hK.mono fun j _ e => by rw [e]; exact hb⟩
 ·rw [List.pairwise_iff_getElem]
  intro i j hi hj hij
  simp only [List.length_map, Array.length_toList] at hi hj
  have h1 := hso i j (Nat.zero_le _) hij (by omega)
  rw [getElem!_pos d' i (by omega), getElem!_pos d' j (by omega)] at h1
  have h1 := of_decide_eq_false h1
  simpa [cmpE8] using h1
 refine ⟨by simp [hsz'], by unfold maxLen; omega, fun j x hx => ?_⟩
 have hj : j < d'.size := by have := of_getq' hx; simpa using this
 rw [List.getElem?_map, List.getElem?_map, Array.getElem?_toList, Array.getElem?_eq_getElem hj] at hx
 have hx : ((d'[j].v : Nat) : Int) = x := by simpa using hx
 subst hx
 have hh := (hH' j hj).1
 rw [getElem!_pos d' j hj, Nat.zero_add] at hh
 refine ⟨g, 0, [encM d'[j]], rfl, hb, Nat.lt_of_lt_of_le hgl hK.size, rfl, fun i u hu => ?_⟩
 cases i with
 | zero => simp at hu; subst hu; simpa using hh
 | succ i => simp at hu
open Go.RowKit Go.Shelf
def natI (p : Nat) : List Int := (List.range p).map fun v : Nat => (v : Int)
theorem natI_succ (p : Nat) : natI (p + 1) = natI p ++ [(p : Int)] := by unfold natI; rw [List.range_succ, List.map_append]; rfl
theorem natI_len (p : Nat) : (natI p).length = p := by unfold natI; simp
theorem two_pow6 : ∀ n, n < 7 → IntKind.i64.wrap (2 ^ n) = ((2 ^ n : Nat) : Int) ∧ 1 ≤ 2 ^ n ∧ 2 ^ n ≤ 64 := by decide +kernel
set_option maxRecDepth 100000 in
set_option maxHeartbeats 1000000 in
theorem ksets_any (n : Nat) (hn : n ≤ 6) (w : World) : Calls Tryz.prog 50 #[.int .i64 (n : Int)] w fun e w' => (∃ A c, e = .returned (.slice A (setsM n).length c) ∧ Ints (fun k => w.heap.size ≤ k) w' A (setsM n).length ((setsM n).map fun v : Nat => (v : Int))) ∧ Below w.heap.size w w' := by
 obtain ⟨i0, hi0, hz0, hz1, hz2⟩ := info_parts infoInt
 obtain ⟨hw2, hp1, hp64⟩ := two_pow6 n (by omega)
 have HP := Lib.hid (setsM_perm n (by omega))
 obtain ⟨q, hq⟩ : ∃ q : Nat, 2 ^ n = q := ⟨_, rfl⟩
 rw [hq] at hw2 hp1 hp64
 have hni : (n : Int) < 64 := by omega
 have HQ := Lib.hid hq
 clear hq
 go_enter Tryz.func50, Tryz.ntmps50
 go_wp2_with fail
 go_loopw [2, 3, 6] (fun v _ i' wr => ∃ (k cap : Nat) (A' : Option Addr), i' = .int .i64 k ∧ k ≤ q ∧ v = .slice A' k cap ∧ Hid (OwnL IntR 1 (fun _ => False) wr w.heap.size 3 (.slice A' k cap) (natI k)) ∧ Hid (Below w.heap.size w wr)) (fun _ _ i' _ => q - (intOf i').toNat)
 case atStart => exact ⟨0, 0, none, rfl, Nat.zero_le _, rfl, OwnL.nil _ _ _ _ _ _, Below.refl _ _⟩
 case round =>
  obtain ⟨k, cap, A', rfl, hk, rfl, HO, HB⟩ := hrel
  by_cases hlt : k < q
  ·have hki : (k : Int) < q := by omega
   go_wp2_with (at_builtin; refine wpList_append_n _ rfl (.tmp 9) (.tmp 11) _ rfl IntR.good w.heap.size 3 i0 _ 8 Tryz.underlying45 hi0 hz0 hz1 hz2 rfl (by omega) _ (natI k) (k : Int) k (natI_len k) rfl (HO.out.alloc IntR.good _) ⟨_, 0, none⟩ 1 [.int .i64 k] rfl rfl (news_new rfl rfl) ?c1 ?c2 ?c3 (fun h => h) ?_)
   case c1 => simp only [maxLen]; omega
   case c2 => omega
   case c3 => have := HB.out.size; simp; omega
   intro A2 cap2 w2 hO2 hg2 _
   have HB2 : Hid (Below w.heap.size w w2) := bl_grown (bl_alloc HB.out _ (Nat.le_refl _)) (HO.out.alloc IntR.good _) hg2 (Nat.le_refl _) (Nat.le_refl _)
   have HO2 : Hid (OwnL IntR 1 (fun _ => False) w2 w.heap.size 3 (.slice (some ⟨A2, 0, none⟩) (k + 1) cap2) (natI (k + 1))) := by rw [Hid, natI_succ]; exact hO2
   clear hg2 HO HB hO2
   go_wp2_with fail
   go_roundw
   case rel => exact ⟨k + 1, cap2, _, by go_num, by omega, rfl, HO2, HB2⟩
   case measure => simp [intOf]; omega
  obtain rfl : k = q := by omega
  have hki : ¬ (k : Int) < k := by omega
  go_wp2_with fail
  refine (sort_ints (vs := List.range k) HO.out (by simp) (fun v hv => by have := List.mem_range.1 hv; omega) (by omega) (by omega)).mono ?_
  rintro e w2 ⟨rfl, Y, hp, hs, hI, hK⟩
  have hY : Y = setsM n := sorted_eq Y _ (hp.trans (by rw [← HQ.out]; exact HP.out.symm)) hs (setsM_sorted n (by omega))
  subst hY
  have hl : k = (setsM n).length := by rw [hp.length_eq]; simp
  have HI := Lib.hid hI
  have HL := Lib.hid hl
  have HB2 : Hid (Below w.heap.size w w2) := HB.out.trans (hK.below HB.out.size (fun j h => h))
  clear hI hl hp hs hK HB
  go_wp2_with fail
  go_ret
  exact ⟨⟨A', cap, by rw [← HL.out]; rfl, by rw [← HL.out]; exact HI.out⟩, HB2.out⟩
end Go.Proofs.YtdbfincinjoppabGreatDoor
