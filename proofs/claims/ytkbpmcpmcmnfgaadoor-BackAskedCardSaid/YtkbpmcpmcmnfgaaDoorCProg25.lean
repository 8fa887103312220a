/- Walks: the library's sort, at lists of numbers. -/
import Derived.Shelf.SlSortCmp.Small
import Derived.Shelf.Small.Bits
import Derived.Test.YtkbpmcpmcmnfgaaDoorCPlain
import Derived.Test.YtkbpmcpmcmnfgaaDoorCProg24
set_option linter.unusedVariables false
set_option linter.unusedSimpArgs false
set_option linter.all false
namespace Go.Proofs
open Go.Shelf Go.RowKit
def Tryd.sortSets_ren : Go.Shelf.Ren := ⟨fun | 6 => 65 | 15 => 93 | 14 => 92 | 28 => 114 | 29 => 115 | 20 => 106 | 21 => 107 | 22 => 108 | 23 => 109 | 24 => 110 | 25 => 111 | 26 => 112 | 27 => 113 | 46 => 117 | 47 => 118 | 48 => 119 | 49 => 120 | 50 => 121 | 57 => 123 | n => n, fun | 22 => 30 | 24 => 34 | 25 => 100 | 3 => 3 | 39 => 122 | 0 => 0 | 53 => 136 | 55 => 131 | 4 => 4 | 46 => 139 | 45 => 138 | 50 => 143 | 5 => 5 | 9 => 9 | 66 => 149 | 70 => 153 | 76 => 155 | 77 => 156 | n => n, fun n => n⟩
theorem Tryd.sortSets : SlLaysF.n6 Tryd.prog Tryd.sortSets_ren where
  mixed := by kernel_rfl
  f6 := ⟨Tryd.f65.name, by kernel_rfl, Tryd.func65.trans (congrArg some (by kernel_rfl))⟩
  f14 := ⟨Tryd.f92.name, by kernel_rfl, Tryd.func92.trans (congrArg some (by kernel_rfl))⟩
  f15 := Tryd.func93.trans (congrArg some (by kernel_rfl))
  f20 := ⟨Tryd.f106.name, by kernel_rfl, Tryd.func106.trans (congrArg some (by kernel_rfl))⟩
  f21 := ⟨Tryd.f107.name, by kernel_rfl, Tryd.func107.trans (congrArg some (by kernel_rfl))⟩
  f22 := ⟨Tryd.f108.name, by kernel_rfl, Tryd.func108.trans (congrArg some (by kernel_rfl))⟩
  f23 := ⟨Tryd.f109.name, by kernel_rfl, Tryd.func109.trans (congrArg some (by kernel_rfl))⟩
  f24 := ⟨Tryd.f110.name, by kernel_rfl, Tryd.func110.trans (congrArg some (by kernel_rfl))⟩
  f25 := ⟨Tryd.f111.name, by kernel_rfl, Tryd.func111.trans (congrArg some (by kernel_rfl))⟩
  f26 := ⟨Tryd.f112.name, by kernel_rfl, Tryd.func112.trans (congrArg some (by kernel_rfl))⟩
  f27 := ⟨Tryd.f113.name, by kernel_rfl, Tryd.func113.trans (congrArg some (by kernel_rfl))⟩
  f28 := Tryd.func114.trans (congrArg some (by kernel_rfl))
  f29 := Tryd.func115.trans (congrArg some (by kernel_rfl))
  f46 := ⟨Tryd.f117.name, by kernel_rfl, Tryd.func117.trans (congrArg some (by kernel_rfl))⟩
  f47 := Tryd.func118.trans (congrArg some (by kernel_rfl))
  f48 := Tryd.func119.trans (congrArg some (by kernel_rfl))
  f49 := ⟨Tryd.f120.name, by kernel_rfl, Tryd.func120.trans (congrArg some (by kernel_rfl))⟩
  f50 := ⟨Tryd.f121.name, by kernel_rfl, Tryd.func121.trans (congrArg some (by kernel_rfl))⟩
  f57 := ⟨Tryd.f123.name, by kernel_rfl, Tryd.func123.trans (congrArg some (by kernel_rfl))⟩
  t0 := Tryd.underlying0
  a0 := Tryd.isAgg0
  z0 := Tryd.sizeOf0
  v0 := Tryd.zeroValue0
  t3 := Tryd.underlying3
  a3 := Tryd.isAgg3
  z3 := Tryd.sizeOf3
  v3 := Tryd.zeroValue3
  t4 := Tryd.underlying4
  a4 := Tryd.isAgg4
  z4 := Tryd.sizeOf4
  v4 := Tryd.zeroValue4
  t5 := Tryd.underlying5
  a5 := Tryd.isAgg5
  z5 := Tryd.sizeOf5
  v5 := Tryd.zeroValue5
  t9 := Tryd.underlying9
  a9 := Tryd.isAgg9
  z9 := Tryd.sizeOf9
  v9 := Tryd.zeroValue9
  t22 := Tryd.underlying30
  a22 := Tryd.isAgg30
  z22 := Tryd.sizeOf30
  v22 := Tryd.zeroValue30
  a24 := Tryd.isAgg34
  z24 := Tryd.sizeOf34
  t25 := Tryd.underlying100
  a25 := Tryd.isAgg100
  z25 := Tryd.sizeOf100
  v25 := Tryd.zeroValue100
  t39 := Tryd.underlying122
  a39 := Tryd.isAgg122
  z39 := Tryd.sizeOf122
  v39 := Tryd.zeroValue122
  t45 := Tryd.underlying138
  a45 := Tryd.isAgg138
  z45 := Tryd.sizeOf138
  v45 := Tryd.zeroValue138
  t46 := Tryd.underlying139
  a46 := Tryd.isAgg139
  z46 := Tryd.sizeOf139
  v46 := Tryd.zeroValue139
  t50 := Tryd.underlying143
  a50 := Tryd.isAgg143
  z50 := Tryd.sizeOf143
  v50 := Tryd.zeroValue143
  t53 := Tryd.underlying136
  a53 := Tryd.isAgg136
  z53 := Tryd.sizeOf136
  v53 := Tryd.zeroValue136
  t55 := Tryd.underlying131
  a55 := Tryd.isAgg131
  z55 := Tryd.sizeOf131
  v55 := Tryd.zeroValue131
  t66 := Tryd.underlying149
  a66 := Tryd.isAgg149
  z66 := Tryd.sizeOf149
  v66 := Tryd.zeroValue149
  t70 := Tryd.underlying153
  a70 := Tryd.isAgg153
  z70 := Tryd.sizeOf153
  v70 := Tryd.zeroValue153
  t76 := Tryd.underlying155
  a76 := Tryd.isAgg155
  z76 := Tryd.sizeOf155
  v76 := Tryd.zeroValue155
  t77 := Tryd.underlying156
  a77 := Tryd.isAgg156
  z77 := Tryd.sizeOf156
  v77 := Tryd.zeroValue156
def Tryd.bitsLen_ren : Go.Shelf.Ren := ⟨fun | 125 => 93 | 128 => 114 | 129 => 115 | n => n, fun | 46 => 122 | 3 => 3 | 51 => 136 | 53 => 131 | 4 => 4 | 5 => 5 | 9 => 9 | n => n, fun n => n⟩
theorem Tryd.bitsLen : Lays.n125 Tryd.prog Tryd.bitsLen_ren where
  mixed := by kernel_rfl
  f125 := Tryd.func93.trans (congrArg some (by kernel_rfl))
  f128 := Tryd.func114.trans (congrArg some (by kernel_rfl))
  f129 := Tryd.func115.trans (congrArg some (by kernel_rfl))
  t3 := Tryd.underlying3
  a3 := Tryd.isAgg3
  z3 := Tryd.sizeOf3
  v3 := Tryd.zeroValue3
  t4 := Tryd.underlying4
  a4 := Tryd.isAgg4
  z4 := Tryd.sizeOf4
  v4 := Tryd.zeroValue4
  t5 := Tryd.underlying5
  a5 := Tryd.isAgg5
  z5 := Tryd.sizeOf5
  v5 := Tryd.zeroValue5
  t9 := Tryd.underlying9
  a9 := Tryd.isAgg9
  z9 := Tryd.sizeOf9
  v9 := Tryd.zeroValue9
  t46 := Tryd.underlying122
  a46 := Tryd.isAgg122
  z46 := Tryd.sizeOf122
  v46 := Tryd.zeroValue122
  t51 := Tryd.underlying136
  a51 := Tryd.isAgg136
  z51 := Tryd.sizeOf136
  v51 := Tryd.zeroValue136
  t53 := Tryd.underlying131
  a53 := Tryd.isAgg131
  z53 := Tryd.sizeOf131
  v53 := Tryd.zeroValue131

end Go.Proofs
namespace Go.Proofs.YtkbpmcpmcmnfgaaDoor
open Go.RowKit Go.Shelf Go.Sort

/-- a list of numbers that is read: a set -/
structure RowH (S : Foot) (w : World) where
  A : Option Addr
  n : Nat
  c : Nat
  v : Nat
  hv : v < 32
  h : Ints S w A n (listN v)
def RowH.zero (S : Foot) (w : World) : RowH S w := ⟨none, 0, 0, 0, by decide, SliceOf.nil _ _ _ _ _⟩
instance (S : Foot) (w : World) : Inhabited (RowH S w) := ⟨RowH.zero S w⟩
def encR {S : Foot} {w : World} (r : RowH S w) : Value := .slice r.A r.n r.c
def cmpR {S : Foot} {w : World} (x y : RowH S w) : Int := orderL (listN x.v) (listN y.v)
theorem ltR {S : Foot} {w : World} (x y : RowH S w) : ltOf cmpR x y = decide (rankN x.v < rankN y.v) := by
  rw [← less_rank x.v x.hv y.v y.hv, ← order_less]; rfl
theorem swoR (S : Foot) (w : World) : SWO (ltOf (cmpR (S := S) (w := w))) := by
  refine ⟨fun x => ?_, fun x y z => ?_, fun x y z => ?_⟩ <;> simp only [ltR] <;> simp <;> omega
theorem keeps_sort {S : Foot} {w : World} {blk m : Nat} {dk : Array (RowH S w)} {os : Array Obj} (hS : ¬ S blk) : Keeps S w (sortWorld encR w blk 0 m dk os) := by
  refine ⟨by simp [sortWorld, Sort.grow, putRow, mapBlock, Sort.ahead], fun k hk hlt => ?_⟩
  unfold sortWorld
  rw [Sort.heap_grow_old _ _ (by simpa [putRow, mapBlock, Sort.ahead] using hlt)]
  simp only [putRow, mapBlock, Sort.ahead]
  rw [Array.getElem?_modify, if_neg (fun e => hS (by rw [e]; exact hk))]
theorem eg_order : Enters Tryd.prog 66 := enters_of Tryd.func66 (by kernel_rfl) rfl
theorem hlen12 (n : Nat) (W : World) (h : n ≤ 12) : Calls Tryd.prog 93 #[.int .u64 n] W fun e w' => (∃ l : Int, e = .returned (.int .i64 l)) ∧ w' = W :=
  (Any.bits_Len Tryd.bitsLen n W (by omega) (by omega)).mono fun _ _ ⟨he, hw⟩ => ⟨⟨_, he⟩, hw⟩

theorem sort_rows {S : Foot} {w : World} {blk cap : Nat} {xs : List Nat} (hS : ¬ S blk) (hblk : blk < w.heap.size) (hrows : ∀ (k v : Nat), xs[k]? = some v → v < 32 ∧ ∃ A n c, w.cell? ⟨blk, k, none⟩ = some (.slice A n c) ∧ Ints S w A n (listN v))
    (hfro : ∀ k, k < xs.length → w.frozen? ⟨blk, k, none⟩ = false) (h12 : xs.length ≤ 12) (hnd : xs.Nodup) :
    Calls Tryd.prog 65 #[.slice (some ⟨blk, 0, none⟩) xs.length cap, .func (.func 66) #[] #[]] w fun e w' => e = .returned (.tuple #[]) ∧
      ∃ Y : List Nat, (Y.Pairwise fun a b => rankN a < rankN b) ∧ (∀ v, v ∈ Y ↔ v ∈ xs) ∧ Rows (fun k => S k ∨ k = blk) w' (some ⟨blk, 0, none⟩) xs.length (Y.map listN) ∧ Kept (fun k => k = blk) w w' := by
  have hex : ∀ k, ∃ r : RowH S w, k < xs.length → xs[k]? = some r.v ∧ w.cell? ⟨blk, k, none⟩ = some (encR r) := fun k => by
    by_cases hk : k < xs.length
    · obtain ⟨hv, A, n, c, hc, hi⟩ := hrows k xs[k] (List.getElem?_eq_getElem hk)
      exact ⟨⟨A, n, c, xs[k], hv, hi⟩, fun _ => ⟨List.getElem?_eq_getElem hk, hc⟩⟩
    · exact ⟨default, fun h => absurd h hk⟩
  obtain ⟨F, hF⟩ := Classical.axiomOfChoice hex
  obtain ⟨d, hd⟩ : ∃ d : Array (RowH S w), d = ((List.range xs.length).map F).toArray := ⟨_, rfl⟩
  have hds : d.size = xs.length := by rw [hd]; simp
  have hdv : d.toList.map (·.v) = xs := by
    rw [hd]
    apply List.ext_getElem?
    intro k
    simp only [List.map_map, List.getElem?_map]
    by_cases hk : k < xs.length
    · rw [List.getElem?_range hk, (hF k hk).1]; rfl
    · rw [List.getElem?_eq_none (by simp; omega), List.getElem?_eq_none (by omega)]; rfl
  have hget : ∀ j, j < d.size → d[j]! = F j := fun j hj => by
    rw [getElem!_pos d j hj]; simp [hd]
  have hH : Holds encR w blk 0 d := fun j hj => by
    rw [hget j hj, Nat.zero_add]
    exact ⟨(hF j (by omega)).2, hfro j (by omega)⟩
  have hcon := Any.slices_SortFunc_small_sorted Tryd.sortSets encR (fun _ => rfl) cmpR (swoR S w) 66 #[] blk 0 cap d w eg_order
    (fun m os dk _ x y => by
      refine (order_any _ (x.h.keep IntR.good (keeps_sort hS)) (y.h.keep IntR.good (keeps_sort hS))).mono ?_
      rintro e w' ⟨he, rfl⟩
      exact ⟨he, 0, rfl⟩) hH (by omega) hlen12
  rw [hds] at hcon
  refine Calls.mono hcon ?_
  rintro e w' ⟨he, d', q, hp, hs, rfl⟩
  obtain ⟨hsz, _, hpm⟩ := hp
  have hsz' : d'.size = xs.length := by rw [hsz, hds]
  have hpm' : (d'.toList.map (·.v)).Perm xs := by
    rw [← hdv]
    refine List.Perm.map _ ?_
    have e1 : d'.extract 0 xs.length = d' := by rw [← hsz']; simp
    have e2 : d.extract 0 xs.length = d := by rw [← hds]; simp
    rw [e1, e2] at hpm
    exact hpm
  have hndY : (d'.toList.map (·.v)).Nodup := hpm'.nodup_iff.2 hnd
  have hK : Kept (fun k => k = blk) w ((putRow encR w blk 0 d').drewN q) := by
    refine ⟨rfl, rfl, rfl, by simp [putRow, mapBlock], fun k hk hne => ?_⟩
    simp only [World.drewN, putRow, mapBlock]
    rw [Array.getElem?_modify, if_neg (fun e => hne e.symm)]
  refine ⟨he, d'.toList.map (·.v), ?_, fun v => hpm'.mem_iff, ?_, hK⟩
  · rw [List.pairwise_iff_getElem]
    intro i j hi hj hij
    simp only [List.length_map, Array.length_toList] at hi hj
    have h1 := hs i j (Nat.zero_le _) hij (by omega)
    rw [getElem!_pos d' i (by omega), getElem!_pos d' j (by omega), ltR] at h1
    have h1 := of_decide_eq_false h1
    have h2 : d'[i].v ≠ d'[j].v := by
      have := (List.pairwise_iff_getElem.1 hndY) i j (by simp; omega) (by simp; omega) hij
      simpa using this
    have h3 : rankN d'[i].v ≠ rankN d'[j].v := fun e => h2 (rank_inj _ d'[i].hv _ d'[j].hv e)
    simp only [List.getElem_map, Array.getElem_toList]
    omega
  · refine ⟨by simp [hsz'], by unfold maxLen; omega, fun k x hx => ?_⟩
    have hk : k < d'.size := by have := of_getq' hx; simpa using this
    rw [List.getElem?_map, List.getElem?_map, Array.getElem?_toList, Array.getElem?_eq_getElem hk] at hx
    have hx : listN d'[k].v = x := by simpa using hx
    subst hx
    have hh := (holds_putRow encR w blk 0 d d' hH hsz k hk).1
    rw [getElem!_pos d' k hk] at hh
    refine ⟨blk, 0, [encR d'[k]], rfl, .inr rfl, Nat.lt_of_lt_of_le hblk hK.size, ⟨d'[k].A, d'[k].n, d'[k].c, rfl, (d'[k].h.keep IntR.good (hK.keeps (fun j hj e => hS (by rw [← e]; exact hj)))).mono IntR.good (fun _ h => .inl h)⟩, fun j u hu => ?_⟩
    cases j with
    | zero => simp at hu; subst hu; simpa using hh
    | succ j => simp at hu

theorem ins_nil (w : World) : Calls Tryd.prog 106 #[.slice none 0 0, .int .i64 0, .int .i64 0, .func (.func 66) #[] #[]] w fun e w' => e = .returned (.tuple #[]) ∧ w = w' := by
  go_enter Tryd.func106, Tryd.ntmps106
  go_wp2
  refine wp_loop_rounds 1 ?_
  rw [rounds_succ]
  go_wp2
  go_end0
  exact ⟨rfl, rfl⟩
theorem pdq_nil (l : Int) (w : World) : Calls Tryd.prog 92 #[.slice none 0 0, .int .i64 0, .int .i64 0, .int .i64 l, .func (.func 66) #[] #[]] w fun e w' => e = .returned (.tuple #[]) ∧ w = w' := by
  go_enter Tryd.func92, Tryd.ntmps92
  go_wp2
  refine wp_loop_rounds 1 ?_
  rw [rounds_succ]
  go_wp2_with (go_at_call 106; refine (ins_nil _).mono ?_; rintro e w' ⟨rfl, rfl⟩)
  (try simp only [Exit.inBlock, Exit.then]); refine bodyPost_ret (results_none rfl _ _ _) rfl ?_
  exact ⟨rfl, rfl⟩
theorem sort_nil (w : World) : Calls Tryd.prog 65 #[.slice none 0 0, .func (.func 66) #[] #[]] w fun e w' => e = .returned (.tuple #[]) ∧ w = w' := by
  have hl := hlen12 0 w (by decide)
  go_enter Tryd.func65, Tryd.ntmps65
  go_wp2_with (first | (go_at_call 93; refine hl.mono ?_; rintro e w' ⟨⟨l, rfl⟩, rfl⟩) | (go_at_call 92; refine (pdq_nil _ _).mono ?_; rintro e w' ⟨rfl, rfl⟩))
  go_end0
  exact ⟨rfl, rfl⟩

end Go.Proofs.YtkbpmcpmcmnfgaaDoor
