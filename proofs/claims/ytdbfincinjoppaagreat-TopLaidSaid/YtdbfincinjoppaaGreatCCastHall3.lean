/- A part of the proof that TopLaid always answers true. -/
import Derived.Shelf.SlSortCmp.NoneTotal
import Derived.Test.YtdbfincinjoppaaGreatCBase2
import Derived.Test.YtdbfincinjoppaaGreatCCastHall2
import Derived.Test.YtdbfincinjoppaaGreatCPure
import Derived.Test.YtdbfincinjoppaaGreatCTBits
set_option linter.all false
namespace Go.Proofs.YtdbfincinjoppaaGreat
def unionL (all : List (List Pl)) (pieces : List Int) : List Pl := pieces.foldl (fun some i => (all.getD i.toNat []).foldl (fun some a => if a ∈ some then some else some ++ [a]) some) ([] : List Pl)
theorem lackB_def (all : List (List Pl)) (pieces : List Int) : lackB all pieces = decide ((unionL all pieces).length < pieces.length) := rfl
theorem add_spec (l : List Pl) : ∀ s : List Pl, s.Nodup → (l.foldl (fun some a => if a ∈ some then some else some ++ [a]) s).Nodup ∧ ∀ a, a ∈ l.foldl (fun some a => if a ∈ some then some else some ++ [a]) s ↔ a ∈ s ∨ a ∈ l := by
 induction l with
 | nil => intro s hs; exact ⟨hs, fun a => by simp⟩
 | cons b l ih =>
  intro s hs
  rw [List.foldl_cons]
  by_cases hb : b ∈ s
  ·rw [if_pos hb]
   obtain ⟨h1, h2⟩ := ih s hs
   refine ⟨h1, fun a => ?_⟩
   rw [h2, List.mem_cons]
   constructor
   ·rintro (h | h)
    ·exact .inl h
    exact .inr (.inr h)
   rintro (h | h | h)
   ·exact .inl h
   ·exact .inl (by rw [h]; exact hb)
   exact .inr h
  rw [if_neg hb]
  have hn : (s ++ [b]).Nodup := by
   rw [List.nodup_append]
   refine ⟨hs, by simp, fun x hx y hy e => ?_⟩
   rw [List.mem_singleton] at hy
   rw [e, hy] at hx
   exact hb hx
  obtain ⟨h1, h2⟩ := ih _ hn
  refine ⟨h1, fun a => ?_⟩
  rw [h2, List.mem_append, List.mem_singleton, List.mem_cons, or_assoc]
theorem union_spec (all : List (List Pl)) (pieces : List Int) : (unionL all pieces).Nodup ∧ ∀ a, a ∈ unionL all pieces ↔ ∃ i ∈ pieces, a ∈ all.getD i.toNat [] := by
 have key : ∀ (p : List Int) (s : List Pl), s.Nodup → (p.foldl (fun some i => (all.getD i.toNat []).foldl (fun some a => if a ∈ some then some else some ++ [a]) some) s).Nodup ∧ ∀ a, a ∈ p.foldl (fun some i => (all.getD i.toNat []).foldl (fun some a => if a ∈ some then some else some ++ [a]) some) s ↔ a ∈ s ∨ ∃ i ∈ p, a ∈ all.getD i.toNat [] := by
  intro p
  induction p with
  | nil => intro s hs; exact ⟨hs, fun a => by simp⟩
  | cons i p ih =>
   intro s hs
   rw [List.foldl_cons]
   obtain ⟨g1, g2⟩ := add_spec (all.getD i.toNat []) s hs
   obtain ⟨h1, h2⟩ := ih _ g1
   refine ⟨h1, fun a => ?_⟩
   rw [h2, g2, or_assoc]
   constructor
   ·rintro (h | h | ⟨j, hj, h⟩)
    ·exact .inl h
    ·exact .inr ⟨i, List.mem_cons_self, h⟩
    exact .inr ⟨j, List.mem_cons_of_mem _ hj, h⟩
   rintro (h | ⟨j, hj, h⟩)
   ·exact .inl h
   rcases List.mem_cons.1 hj with e | hj
   ·exact .inr (.inl (by rw [← e]; exact h))
   exact .inr (.inr ⟨j, hj, h⟩)
 obtain ⟨h1, h2⟩ := key pieces [] List.nodup_nil
 exact ⟨h1, fun a => by rw [unionL, h2]; simp⟩
theorem nodup_cast {S : List Nat} (h : S.Nodup) : (S.map fun j : Nat => (j : Int)).Nodup := by
 unfold List.Nodup
 rw [List.pairwise_map]
 exact h.imp fun hne e => hne (by omega)
def IsSet (n : Nat) (set : List Int) : Prop := set.Pairwise (· < ·) ∧ ∀ i ∈ set, 0 ≤ i ∧ i < n
theorem lex_set {n k : Nat} {set : List Int} (h : set ∈ lexL k (numbersL n)) : IsSet n set ∧ set.length = k := by
 obtain ⟨h1, h2⟩ := lex_sub _ _ _ h
 refine ⟨⟨?_, fun i hi => ?_⟩, h2⟩
 ·have : (numbersL n).Pairwise (· < ·) := by
   unfold numbersL
   rw [List.pairwise_map]
   exact List.pairwise_lt_range.imp fun h => by omega
  exact this.sublist h1
 have h3 := h1.subset hi
 unfold numbersL at h3
 obtain ⟨j, hj, rfl⟩ := List.mem_map.1 h3
 have := List.mem_range.1 hj
 omega
theorem set_nodup {n : Nat} {set : List Int} (h : IsSet n set) : set.Nodup := h.1.imp fun h e => by omega
theorem countC_set {n : Nat} {set : List Int} (h : IsSet n set) : countK (fun i => hasN set i) n = set.length := by
 unfold countK
 have h1 : ((List.range n).filter fun i => hasN set i).length ≤ set.length := by
  have := nodup_le (((List.range n).filter fun i => hasN set i).map (fun i : Nat => (i : Int))) set (nodup_cast (List.nodup_range.filter _)) (fun a ha => by
   obtain ⟨i, hi, rfl⟩ := List.mem_map.1 ha
   have := (List.mem_filter.1 hi).2
   simpa [hasN] using this)
  rwa [List.length_map] at this
 have h2 : set.length ≤ ((List.range n).filter fun i => hasN set i).length := by
  have := nodup_le set (((List.range n).filter fun i => hasN set i).map (fun i : Nat => (i : Int))) (set_nodup h) (fun a ha => by
   obtain ⟨a1, a2⟩ := h.2 a ha
   refine List.mem_map.2 ⟨a.toNat, List.mem_filter.2 ⟨List.mem_range.2 (by omega), ?_⟩, by omega⟩
   unfold hasN
   rw [Int.toNat_of_nonneg a1]
   simpa using ha)
  rwa [List.length_map] at this
 omega
theorem lack_of {all : List (List Pl)} {set : List Int} (h : IsSet all.length set) (hl : lackB all set = true) : LackP all (fun _ => true) (fun i => hasN set i) [] all.length := by
 obtain ⟨u1, u2⟩ := union_spec all set
 rw [lackB_def] at hl
 refine ⟨set.map Int.toNat, unionL all set, ?_, fun j hj => ?_, fun j hj c hc _ _ => ?_, by rw [List.length_map]; simpa using hl⟩
 ·have key : ∀ E : List Int, E.Nodup → (∀ i ∈ E, 0 ≤ i) → (E.map Int.toNat).Nodup := by
   intro E
   induction E with
   | nil => intro _ _; exact List.nodup_nil
   | cons a E ih =>
    intro hn h0
    obtain ⟨n1, n2⟩ := List.nodup_cons.1 hn
    rw [List.map_cons, List.nodup_cons]
    refine ⟨fun hm => ?_, ih n2 fun b hb => h0 b (List.mem_cons_of_mem _ hb)⟩
    obtain ⟨b, hb, e⟩ := List.mem_map.1 hm
    have e1 := h0 a List.mem_cons_self
    have e2 := h0 b (List.mem_cons_of_mem _ hb)
    have : b = a := by omega
    rw [this] at hb
    exact n1 hb
  exact key set (set_nodup h) fun i hi => (h.2 i hi).1
 ·obtain ⟨i, hi, e⟩ := List.mem_map.1 hj
  obtain ⟨i1, i2⟩ := h.2 i hi
  refine ⟨by omega, ?_⟩
  show decide (((j : Nat) : Int) ∈ set) = true
  rw [show ((j : Nat) : Int) = i by omega]
  simpa using hi
 obtain ⟨i, hi, e⟩ := List.mem_map.1 hj
 exact (u2 c).2 ⟨i, hi, by rw [e]; exact hc⟩
theorem lack_to {all : List (List Pl)} {set : List Int} (h : IsSet all.length set) (hl : LackP all (fun _ => true) (fun i => hasN set i) [] all.length) : ∃ T : List Int, T.Sublist set ∧ lackB all T = true := by
 obtain ⟨S, D, s1, s2, s3, s4⟩ := hl
 refine ⟨set.filter fun i => decide (i.toNat ∈ S), List.filter_sublist, ?_⟩
 obtain ⟨u1, u2⟩ := union_spec all (set.filter fun i => decide (i.toNat ∈ S))
 have h1 := nodup_le (unionL all (set.filter fun i => decide (i.toNat ∈ S))) D u1 (fun a ha => by
  obtain ⟨i, hi, ha⟩ := (u2 a).1 ha
  have hiS : i.toNat ∈ S := by simpa using (List.mem_filter.1 hi).2
  exact s3 _ hiS a ha rfl (fun hh => by cases hh))
 have h2 := nodup_le (S.map fun j : Nat => (j : Int)) (set.filter fun i => decide (i.toNat ∈ S)) (nodup_cast s1) (fun a ha => by
  obtain ⟨j, hj, rfl⟩ := List.mem_map.1 ha
  have := (s2 j hj).2
  refine List.mem_filter.2 ⟨by simpa [hasN] using this, by simpa using hj⟩)
 rw [List.length_map] at h2
 rw [lackB_def]
 simp only [decide_eq_true_eq]
 omega
theorem lex_of_sub {x of : List Int} (h : x.Sublist of) : x ∈ lexL x.length of := by
 induction h with
 | slnil => simp [lexL]
 | @cons x of a h ih =>
  cases x with
  | nil => simp [lexL]
  | cons y x => rw [List.length_cons, lexL]; exact List.mem_append_right _ ih
 | @cons_cons x of a h ih =>
  rw [List.length_cons, lexL]
  exact List.mem_append_left _ (List.mem_map_of_mem ih)
theorem sets_mem {n : Nat} {x : List Int} : x ∈ setsL n ↔ x.Sublist (numbersL n) := by
 unfold setsL
 rw [List.mem_flatMap]
 constructor
 ·rintro ⟨k, _, hx⟩
  exact (lex_sub _ _ _ hx).1
 intro h
 refine ⟨x.length, List.mem_range.2 ?_, lex_of_sub h⟩
 have := h.length_le
 unfold numbersL at this
 rw [List.length_map, List.length_range] at this
 omega
theorem sets_set {n : Nat} {x : List Int} (h : x ∈ setsL n) : IsSet n x := (lex_set (lex_of_sub (sets_mem.1 h))).1
theorem sets_order (n : Nat) : (setsL n).Pairwise fun a b => a.length ≤ b.length := by
 unfold setsL
 rw [List.pairwise_flatMap]
 refine ⟨fun k _ => ?_, ?_⟩
 ·have key : ∀ E : List (List Int), (∀ a ∈ E, a.length = k) → E.Pairwise fun a b => a.length ≤ b.length := by
   intro E
   induction E with
   | nil => intro _; exact List.Pairwise.nil
   | cons x E ih =>
    intro h
    refine List.Pairwise.cons (fun y hy => ?_) (ih fun a ha => h a (List.mem_cons_of_mem _ ha))
    rw [h x List.mem_cons_self, h y (List.mem_cons_of_mem _ hy)]
    exact Nat.le_refl _
  exact key _ fun a ha => (lex_sub _ _ _ ha).2
 refine List.pairwise_lt_range.imp fun hlt => ?_
 intro a ha b hb
 rw [(lex_sub _ _ _ ha).2, (lex_sub _ _ _ hb).2]
 omega
theorem sets_first (n : Nat) : setsL n = [] :: (List.range n).flatMap fun k => lexL (k + 1) (numbersL n) := by
 unfold setsL
 rw [List.range_succ_eq_map, List.flatMap_cons, List.flatMap_map]
 have : lexL 0 (numbersL n) = [[]] := by cases numbersL n <;> rfl
 rw [this]
 rfl
theorem lacks_find {all : List (List Pl)} {univ : List Pl} {L : Nat} (hu : ∀ j, (all.getD j []).length ≤ L ∧ ∀ a ∈ all.getD j [], a ∈ univ) (hF : L + univ.length * (L + 1) ≤ seekF) :
  (setsL all.length).find? (fun set => decide (giveR all (fun _ => true) (fun i => hasN set i) [] < set.length)) = fewestL all := by
 have h1 : ∀ x ∈ setsL all.length, (giveR all (fun _ => true) (fun i => hasN x i) [] < x.length ↔ LackP all (fun _ => true) (fun i => hasN x i) [] all.length) := fun x hx => by
  have hs := sets_set hx
  have hc := countC_set hs
  have hle := give_le all (fun _ => true) (fun i => hasN x i) [] all.length
  have hi := give_iff (ok := fun _ => true) (is := fun i => hasN x i) (fixed := []) hu hF
  have hle2 : giveR all (fun _ => true) (fun i => hasN x i) [] ≤ x.length := by rw [← hc]; exact hle
  rw [hc] at hi
  constructor
  ·intro h2
   exact Classical.byContradiction fun h3 => by have := hi.2 h3; omega
  intro h2
  have : ¬ giveR all (fun _ => true) (fun i => hasN x i) [] = x.length := fun e => hi.1 e h2
  omega
 have h2 : ∀ x ∈ setsL all.length, lackB all x = true → giveR all (fun _ => true) (fun i => hasN x i) [] < x.length := fun x hx hl => (h1 x hx).2 (lack_of (sets_set hx) hl)
 have hall : (setsL all.length).find? (lackB all) = fewestL all := by
  rw [sets_first, List.find?_cons]
  have : lackB all [] = false := by rw [lackB_def]; rfl
  rw [this]
  rfl
 rw [← hall]
 cases hf : (setsL all.length).find? (fun set => decide (giveR all (fun _ => true) (fun i => hasN set i) [] < set.length)) with
 | none =>
  symm
  rw [List.find?_eq_none] at hf ⊢
  intro x hx hl
  exact hf x hx (by simpa using h2 x hx hl)
 | some X =>
  rw [List.find?_eq_some_iff_append] at hf
  obtain ⟨p1, ls, bs, p2, p3⟩ := hf
  have hX : X ∈ setsL all.length := by rw [p2]; simp
  have hlt : giveR all (fun _ => true) (fun i => hasN X i) [] < X.length := by simpa using p1
  symm
  rw [List.find?_eq_some_iff_append]
  refine ⟨?_, ls, bs, p2, fun a ha => ?_⟩
  ·obtain ⟨T, t1, t2⟩ := lack_to (sets_set hX) ((h1 X hX).1 hlt)
   have hT : T ∈ setsL all.length := sets_mem.2 (t1.trans (sets_mem.1 hX))
   rcases Nat.lt_or_eq_of_le t1.length_le with h4 | h4
   ·exfalso
    have hord := sets_order all.length
    rw [p2] at hord hT
    rcases List.mem_append.1 hT with h5 | h5
    ·have := p3 T h5
     have h6 := h2 T (by rw [p2]; exact List.mem_append_left _ h5) t2
     simp at this
     omega
    rcases List.mem_cons.1 h5 with h5 | h5
    ·rw [h5] at h4; omega
    have := (List.pairwise_cons.1 (List.pairwise_append.1 hord).2.1).1 T h5
    omega
   rw [t1.eq_of_length h4] at t2
   exact t2
  have := p3 a ha
  cases hl : lackB all a with
  | false => rfl
  | true =>
   have h6 := h2 a (by rw [p2]; exact List.mem_append_left _ ha) hl
   simp at this
   omega
end Go.Proofs.YtdbfincinjoppaaGreat
namespace Go.Proofs
open Go.Shelf Go.RowKit
def Tryz.sortInts_ren : Go.Shelf.Ren := ⟨fun | 6 => 89 | 15 => 93 | 14 => 110 | 28 => 111 | 29 => 112 | 20 => 131 | 21 => 132 | 22 => 133 | 23 => 134 | 24 => 135 | 25 => 136 | 26 => 137 | 27 => 138 | 46 => 146 | 47 => 142 | 48 => 143 | 49 => 147 | 50 => 148 | 57 => 150 | n => n, fun | 22 => 47 | 24 => 3 | 25 => 180 | 3 => 3 | 39 => 132 | 0 => 0 | 53 => 186 | 55 => 188 | 4 => 4 | 46 => 209 | 45 => 208 | 50 => 183 | 5 => 5 | 9 => 9 | 66 => 221 | 70 => 225 | 76 => 229 | 77 => 230 | n => n, fun n => n⟩
theorem Tryz.sortInts : SlLaysF.n6 Tryz.prog Tryz.sortInts_ren where
 mixed := by kernel_rfl
 f6 := ⟨Tryz.f89.name, by kernel_rfl, Tryz.func89.trans (congrArg some (by kernel_rfl))⟩
 f14 := ⟨Tryz.f110.name, by kernel_rfl, Tryz.func110.trans (congrArg some (by kernel_rfl))⟩
 f15 := Tryz.func93.trans (congrArg some (by kernel_rfl))
 f20 := ⟨Tryz.f131.name, by kernel_rfl, Tryz.func131.trans (congrArg some (by kernel_rfl))⟩
 f21 := ⟨Tryz.f132.name, by kernel_rfl, Tryz.func132.trans (congrArg some (by kernel_rfl))⟩
 f22 := ⟨Tryz.f133.name, by kernel_rfl, Tryz.func133.trans (congrArg some (by kernel_rfl))⟩
 f23 := ⟨Tryz.f134.name, by kernel_rfl, Tryz.func134.trans (congrArg some (by kernel_rfl))⟩
 f24 := ⟨Tryz.f135.name, by kernel_rfl, Tryz.func135.trans (congrArg some (by kernel_rfl))⟩
 f25 := ⟨Tryz.f136.name, by kernel_rfl, Tryz.func136.trans (congrArg some (by kernel_rfl))⟩
 f26 := ⟨Tryz.f137.name, by kernel_rfl, Tryz.func137.trans (congrArg some (by kernel_rfl))⟩
 f27 := ⟨Tryz.f138.name, by kernel_rfl, Tryz.func138.trans (congrArg some (by kernel_rfl))⟩
 f28 := Tryz.func111.trans (congrArg some (by kernel_rfl))
 f29 := Tryz.func112.trans (congrArg some (by kernel_rfl))
 f46 := ⟨Tryz.f146.name, by kernel_rfl, Tryz.func146.trans (congrArg some (by kernel_rfl))⟩
 f47 := Tryz.func142.trans (congrArg some (by kernel_rfl))
 f48 := Tryz.func143.trans (congrArg some (by kernel_rfl))
 f49 := ⟨Tryz.f147.name, by kernel_rfl, Tryz.func147.trans (congrArg some (by kernel_rfl))⟩
 f50 := ⟨Tryz.f148.name, by kernel_rfl, Tryz.func148.trans (congrArg some (by kernel_rfl))⟩
 f57 := ⟨Tryz.f150.name, by kernel_rfl, Tryz.func150.trans (congrArg some (by kernel_rfl))⟩
 t0 := Tryz.underlying0
 a0 := Tryz.isAgg0
 z0 := Tryz.sizeOf0
 v0 := Tryz.zeroValue0
 t3 := Tryz.underlying3
 a3 := Tryz.isAgg3
 z3 := Tryz.sizeOf3
 v3 := Tryz.zeroValue3
 t4 := Tryz.underlying4
 a4 := Tryz.isAgg4
 z4 := Tryz.sizeOf4
 v4 := Tryz.zeroValue4
 t5 := Tryz.underlying5
 a5 := Tryz.isAgg5
 z5 := Tryz.sizeOf5
 v5 := Tryz.zeroValue5
 t9 := Tryz.underlying9
 a9 := Tryz.isAgg9
 z9 := Tryz.sizeOf9
 v9 := Tryz.zeroValue9
 t22 := Tryz.underlying47
 a22 := Tryz.isAgg47
 z22 := Tryz.sizeOf47
 v22 := Tryz.zeroValue47
 a24 := Tryz.isAgg3
 z24 := Tryz.sizeOf3
 t25 := Tryz.underlying180
 a25 := Tryz.isAgg180
 z25 := Tryz.sizeOf180
 v25 := Tryz.zeroValue180
 t39 := Tryz.underlying132
 a39 := Tryz.isAgg132
 z39 := Tryz.sizeOf132
 v39 := Tryz.zeroValue132
 t45 := Tryz.underlying208
 a45 := Tryz.isAgg208
 z45 := Tryz.sizeOf208
 v45 := Tryz.zeroValue208
 t46 := Tryz.underlying209
 a46 := Tryz.isAgg209
 z46 := Tryz.sizeOf209
 v46 := Tryz.zeroValue209
 t50 := Tryz.underlying183
 a50 := Tryz.isAgg183
 z50 := Tryz.sizeOf183
 v50 := Tryz.zeroValue183
 t53 := Tryz.underlying186
 a53 := Tryz.isAgg186
 z53 := Tryz.sizeOf186
 v53 := Tryz.zeroValue186
 t55 := Tryz.underlying188
 a55 := Tryz.isAgg188
 z55 := Tryz.sizeOf188
 v55 := Tryz.zeroValue188
 t66 := Tryz.underlying221
 a66 := Tryz.isAgg221
 z66 := Tryz.sizeOf221
 v66 := Tryz.zeroValue221
 t70 := Tryz.underlying225
 a70 := Tryz.isAgg225
 z70 := Tryz.sizeOf225
 v70 := Tryz.zeroValue225
 t76 := Tryz.underlying229
 a76 := Tryz.isAgg229
 z76 := Tryz.sizeOf229
 v76 := Tryz.zeroValue229
 t77 := Tryz.underlying230
 a77 := Tryz.isAgg230
 z77 := Tryz.sizeOf230
 v77 := Tryz.zeroValue230
end Go.Proofs
namespace Go.Proofs.YtdbfincinjoppaaGreat
open Go.RowKit Go.Shelf Go.Sort
def cmpM (a b : Nat) : Int := if ((bitL a).length : Int) - (bitL b).length = 0 then lexC (bitL a) (bitL b) else (bitL a).length - (bitL b).length
theorem cmpM_neg {a b : Nat} : cmpM a b < 0 ↔ (bitL a).length < (bitL b).length ∨ ((bitL a).length = (bitL b).length ∧ lexC (bitL a) (bitL b) < 0) := by
 unfold cmpM
 split <;> omega
theorem cmpM_refl (a : Nat) : ¬ cmpM a a < 0 := by rw [cmpM_neg, lexC_refl]; omega
theorem cmpM_trans {a b c : Nat} (h1 : cmpM a b < 0) (h2 : cmpM b c < 0) : cmpM a c < 0 := by
 rw [cmpM_neg] at *
 rcases h1 with h1 | ⟨h1, h3⟩ <;> rcases h2 with h2 | ⟨h2, h4⟩
 ·left; omega
 ·left; omega
 ·left; omega
 right; exact ⟨by omega, lexC_trans _ _ _ h3 h4⟩
theorem cmpM_ntrans {a b c : Nat} (h1 : ¬ cmpM a b < 0) (h2 : ¬ cmpM b c < 0) : ¬ cmpM a c < 0 := by
 intro h3
 rw [cmpM_neg] at *
 have h1 := not_or.1 h1
 have h2 := not_or.1 h2
 rcases h3 with h3 | ⟨h3, h4⟩
 ·omega
 have e1 : (bitL a).length = (bitL b).length := by omega
 have e2 : (bitL b).length = (bitL c).length := by omega
 have n1 : ¬ lexC (bitL a) (bitL b) < 0 := fun h => h1.2 ⟨e1, h⟩
 have n2 : ¬ lexC (bitL b) (bitL c) < 0 := fun h => h2.2 ⟨e2, h⟩
 by_cases n3 : lexC (bitL b) (bitL a) < 0
 ·exact n2 (lexC_trans _ _ _ n3 h4)
 rw [lexC_tri _ _ n1 n3] at h4; exact n2 h4
def maskL (l : List Int) : Nat := l.foldl (fun m i => m + 2 ^ i.toNat) 0
def setsM (n : Nat) : List Nat := (setsL n).map maskL
theorem setsM_bits : ∀ n, n < 7 → (setsM n).map bitL = setsL n := by decide +kernel
theorem setsM_perm : ∀ n, n < 7 → (setsM n).Perm (List.range (2 ^ n)) := by decide +kernel
theorem setsM_sorted : ∀ n, n < 7 → (setsM n).Pairwise fun a b => cmpM a b < 0 := by decide +kernel
theorem sorted_eq : ∀ (Y Z : List Nat), Y.Perm Z → (Y.Pairwise fun a b => ¬ cmpM b a < 0) → (Z.Pairwise fun a b => cmpM a b < 0) → Y = Z
 | [], Z, hp, _, _ => (List.nil_perm.1 hp).symm
 | y :: Y, [], hp, _, _ => by simpa using hp.length_eq
 | y :: Y, z :: Z, hp, h1, h2 => by
  obtain ⟨a1, a2⟩ := List.pairwise_cons.1 h1
  obtain ⟨b1, b2⟩ := List.pairwise_cons.1 h2
  have hyz : y = z := by
   rcases List.mem_cons.1 (hp.mem_iff.1 List.mem_cons_self) with h | h
   ·exact h
   rcases List.mem_cons.1 (hp.mem_iff.2 (List.mem_cons_self (a := z) (l := Z))) with h3 | h3
   ·exact h3.symm
   exact absurd (b1 y h) (a1 z h3)
  subst hyz
  rw [sorted_eq Y Z (List.perm_cons y |>.1 hp) a2 b2]
open Go.RowKit Go.Shelf
theorem eg_KSet : Enters Tryz.prog 90 := enters_of Tryz.func90 (by kernel_rfl) rfl
set_option maxRecDepth 100000 in
set_option maxHeartbeats 1000000 in
theorem ksets1_any (a b : Nat) (ha : a < 256) (hb : b < 256) (w : World) : Calls Tryz.prog 90 #[.int .i64 (a : Int), .int .i64 (b : Int)] w fun e w' => e = .returned (.int .i64 (cmpM a b)) ∧ Grw w w' := by
 have h8 := bitL_len a ha
 have h9 := bitL_len b hb
 obtain ⟨la, hla⟩ : ∃ l, (bitL a).length = l := ⟨_, rfl⟩
 obtain ⟨lb, hlb⟩ : ∃ l, (bitL b).length = l := ⟨_, rfl⟩
 have HD : Hid (cmpM a b = if (la : Int) - lb = 0 then lexC (bitL a) (bitL b) else la - lb) := by rw [Hid, cmpM, hla, hlb]
 have HO1 : Hid (∀ w, Calls Tryz.prog 60 #[.int .u64 a] w fun e w' => e = .returned (.int .i64 la) ∧ w = w') := fun w => by have := ones_any a ha w; rw [hla] at this; exact this
 have HO2 : Hid (∀ w, Calls Tryz.prog 60 #[.int .u64 b] w fun e w' => e = .returned (.int .i64 lb) ∧ w = w') := fun w => by have := ones_any b hb w; rw [hlb] at this; exact this
 rw [hla] at h8
 rw [hlb] at h9
 have hwr : IntKind.i64.wrap ((la : Int) - lb) = la - lb := by rw [IntKind.wrap_i64]; omega
 obtain ⟨dd, hdd⟩ : ∃ d : Int, (la : Int) - lb = d := ⟨_, rfl⟩
 rw [hdd] at HD hwr
 have hdb : -8 ≤ dd ∧ dd ≤ 8 := by omega
 clear hla hlb
 go_enter Tryz.func90, Tryz.ntmps90
 go_wp2_with fail
 refine (HO1.out _).mono ?_
 rintro e w' ⟨rfl, rfl⟩
 go_wp2_with fail
 refine (HO2.out _).mono ?_
 rintro e w' ⟨rfl, rfl⟩
 by_cases hz : dd = 0
 ·have HR : Hid (cmpM a b = lexC (bitL a) (bitL b)) := by rw [Hid, HD.out, if_pos hz]
  have hdz : (dd != 0) = false := by rw [hz]; rfl
  rw [hz] at hdd
  go_wp2_with fail
  refine (klist_any a w ha).mono ?_
  rintro e w1 ⟨⟨A1, c1, rfl, i1⟩, g1⟩
  go_wp2_with fail
  refine (klist_any b w1 hb).mono ?_
  rintro e w2 ⟨⟨A2, c2, rfl, i2⟩, g2⟩
  go_wp2_with fail
  refine (compare_any w2 (i1.keep IntR.good (Keeps.below g2.2)) i2).mono ?_
  rintro e w3 ⟨rfl, rfl⟩
  go_wp2_with fail
  go_ret
  exact ⟨by rw [HR.out]; rfl, g1.trans g2⟩
 have HR : Hid (cmpM a b = dd) := by rw [Hid, HD.out, if_neg hz]
 have hdz : (dd != 0) = true := by simpa using hz
 go_wp2_with fail
 go_ret
 exact ⟨by rw [HR.out]; rfl, Grw.refl _⟩
open Go.RowKit Go.Shelf Go.Sort
theorem kept_sort1 {α : Type} [Inhabited α] {enc : α → Value} {w : World} {blk n : Nat} {d : Array α} {os : Array Obj} : Kept (fun k => k = blk) w (sortWorld enc w blk 0 n d os) := by
 refine ⟨rfl, rfl, rfl, by simp [sortWorld, Sort.grow, putRow, mapBlock, Sort.ahead], fun k hk hne => ?_⟩
 unfold sortWorld
 rw [Sort.heap_grow_old _ _ (by simpa [putRow, mapBlock, Sort.ahead] using hk)]
 simp only [putRow, mapBlock, Sort.ahead]
 rw [Array.getElem?_modify, if_neg (fun e => hne e.symm)]
structure M8 where
 v : Nat
 h : v < 256
instance : Inhabited M8 := ⟨⟨0, by decide⟩⟩
def encM (x : M8) : Value := .int .i64 (x.v : Int)
def cmpE8 (x y : M8) : Int := cmpM x.v y.v
theorem swo8 : SWO (ltOf cmpE8) := by
 refine ⟨fun x => ?_, fun x y z h1 h2 => ?_, fun x y z h1 h2 => ?_⟩
 ·exact decide_eq_false (cmpM_refl _)
 ·exact decide_eq_true (cmpM_trans (of_decide_eq_true h1) (of_decide_eq_true h2))
 exact decide_eq_false (cmpM_ntrans (of_decide_eq_false h1) (of_decide_eq_false h2))
set_option maxHeartbeats 1000000 in
theorem sort_ints {W : World} {base k cap : Nat} {Ad : Option Addr} {vs : List Nat} (hO : OwnL IntR 1 (fun _ => False) W base 3 (.slice Ad k cap) (vs.map fun v : Nat => (v : Int))) (hk : vs.length = k) (h8 : ∀ v ∈ vs, v < 256) (h0 : 0 < k) (hkb : k ≤ 1000) :
  Calls Tryz.prog 89 #[.slice Ad k cap, .func (.func 90) #[] #[]] W fun e w' => e = .returned (.tuple #[]) ∧
   ∃ Y : List Nat, Y.Perm vs ∧ (Y.Pairwise fun a b => ¬ cmpM b a < 0) ∧ Ints (fun j => base ≤ j) w' Ad k (Y.map fun v : Nat => (v : Int)) ∧ Kept (fun j => base ≤ j) W w' := by
 obtain ⟨hS0, cells, hrow, hcells⟩ := hO
 rcases hrow.2 with ⟨hv, hn⟩ | ⟨g, cap', cur, hv, hb, hg, hnc, _, hsz, htk⟩
 ·rw [List.length_map] at hn; omega
 injection hv with e1 e2 e3
 subst e1 e3
 rw [List.length_map] at e2 htk hnc
 have hgl : g < W.heap.size := (Array.getElem?_eq_some_iff.1 hg).1
 have hB : Blk W g 3 cur := hg
 have hcell : ∀ (j v : Nat), vs[j]? = some v → W.cell? ⟨g, j, none⟩ = some (.int .i64 (v : Int)) := fun j v hj => by
  obtain ⟨us, hus, hc⟩ := hcells j (v : Int) (by rw [List.getElem?_map, hj]; rfl)
  have hus : us = [.int .i64 (v : Int)] := hus
  subst hus
  have h := hc 0 _ rfl
  rw [← htk, List.getElem?_take, if_pos (by have := of_getq' hj; omega)] at h
  rw [hB.cell j]
  simpa using h
 obtain ⟨d, hd⟩ : ∃ d : Array M8, d = (vs.pmap (fun v h => ⟨v, h⟩) h8).toArray := ⟨_, rfl⟩
 have hds : d.size = vs.length := by rw [hd]; simp
 have hdv : d.toList.map (·.v) = vs := by rw [hd]; simp [List.map_pmap]
 have hget : ∀ j, j < d.size → vs[j]? = some (d[j]!).v := fun j hj => by
  rw [getElem!_pos d j hj, ← hdv, List.getElem?_map, Array.getElem?_toList, Array.getElem?_eq_getElem hj]; rfl
 have hH : Holds encM W g 0 d := fun j hj => by
  rw [Nat.zero_add]
  exact ⟨hcell j _ (hget j hj), hB.frozen j⟩
 have hcon := Any.slices_SortFunc Tryz.sortInts encM (fun _ => rfl) cmpE8 swo8 90 #[] g 0 cap d W eg_KSet
  (fun m os dk _ x y => (ksets1_any x.v y.v x.h y.h _).mono fun e w' h => ⟨h.1, h.2.form⟩) hH hgl (by omega)
 rw [hds, hk] at hcon
 refine Calls.mono hcon ?_
 rintro e w' ⟨he, d', n, os, hp, hso, rfl⟩
 obtain ⟨hsz', _, hpm⟩ := hp
 have hsz' : d'.size = k := by rw [hsz', hds, hk]
 have hpm' : (d'.toList.map (·.v)).Perm vs := by
  rw [← hdv]
  refine List.Perm.map _ ?_
  have e1 : d'.extract 0 k = d' := by rw [← hsz']; simp
  have e2 : d.extract 0 k = d := by rw [← hk, ← hds]; simp
  rw [e1, e2] at hpm
  exact hpm
 have hK : Kept (fun j => j = g) W (sortWorld encM W g 0 n d' os) := kept_sort1
 have hH' := holds_sortWorld encM W g 0 n d d' os hgl hH (by rw [hsz', hds, hk])
 refine ⟨he, d'.toList.map (·.v), hpm', ?_, ?_, hK.mono fun j _ e => by rw [e]; exact hb⟩
 ·rw [List.pairwise_iff_getElem]
  intro i j hi hj hij
  simp only [List.length_map, Array.length_toList] at hi hj
  have h1 := hso i j (Nat.zero_le _) hij (by omega)
  rw [getElem!_pos d' i (by omega), getElem!_pos d' j (by omega)] at h1
  have h1 := of_decide_eq_false h1
  simpa [cmpE8] using h1
 refine ⟨by simp [hsz'], by unfold maxLen; omega, fun j x hx => ?_⟩
 have hj : j < d'.size := by have := of_getq' hx; simpa using this
 rw [List.getElem?_map, List.getElem?_map, Array.getElem?_toList, Array.getElem?_eq_getElem hj] at hx
 have hx : ((d'[j].v : Nat) : Int) = x := by simpa using hx
 subst hx
 have hh := (hH' j hj).1
 rw [getElem!_pos d' j hj, Nat.zero_add] at hh
 refine ⟨g, 0, [encM d'[j]], rfl, hb, Nat.lt_of_lt_of_le hgl hK.size, rfl, fun i u hu => ?_⟩
 cases i with
 | zero => simp at hu; subst hu; simpa using hh
 | succ i => simp at hu
open Go.RowKit Go.Shelf
def natI (p : Nat) : List Int := (List.range p).map fun v : Nat => (v : Int)
theorem natI_succ (p : Nat) : natI (p + 1) = natI p ++ [(p : Int)] := by unfold natI; rw [List.range_succ, List.map_append]; rfl
theorem natI_len (p : Nat) : (natI p).length = p := by unfold natI; simp
theorem two_pow6 : ∀ n, n < 7 → IntKind.i64.wrap (2 ^ n) = ((2 ^ n : Nat) : Int) ∧ 1 ≤ 2 ^ n ∧ 2 ^ n ≤ 64 := by decide +kernel
set_option maxRecDepth 100000 in
set_option maxHeartbeats 1000000 in
theorem ksets_any (n : Nat) (hn : n ≤ 6) (w : World) : Calls Tryz.prog 56 #[.int .i64 (n : Int)] w fun e w' => (∃ A c, e = .returned (.slice A (setsM n).length c) ∧ Ints (fun k => w.heap.size ≤ k) w' A (setsM n).length ((setsM n).map fun v : Nat => (v : Int))) ∧ Below w.heap.size w w' := by
 obtain ⟨i0, hi0, hz0, hz1, hz2⟩ := info_parts infoInt
 obtain ⟨hw2, hp1, hp64⟩ := two_pow6 n (by omega)
 have HP := Lib.hid (setsM_perm n (by omega))
 obtain ⟨q, hq⟩ : ∃ q : Nat, 2 ^ n = q := ⟨_, rfl⟩
 rw [hq] at hw2 hp1 hp64
 have hni : (n : Int) < 64 := by omega
 have HQ := Lib.hid hq
 clear hq
 go_enter Tryz.func56, Tryz.ntmps56
 go_wp2_with fail
 go_loopw [2, 3, 6] (fun v _ i' wr => ∃ (k cap : Nat) (A' : Option Addr), i' = .int .i64 k ∧ k ≤ q ∧ v = .slice A' k cap ∧ Hid (OwnL IntR 1 (fun _ => False) wr w.heap.size 3 (.slice A' k cap) (natI k)) ∧ Hid (Below w.heap.size w wr)) (fun _ _ i' _ => q - (intOf i').toNat)
 case atStart => exact ⟨0, 0, none, rfl, Nat.zero_le _, rfl, OwnL.nil _ _ _ _ _ _, Below.refl _ _⟩
 case round =>
  obtain ⟨k, cap, A', rfl, hk, rfl, HO, HB⟩ := hrel
  by_cases hlt : k < q
  ·have hki : (k : Int) < q := by omega
   go_wp2_with (at_builtin; refine wpList_append_n _ rfl (.tmp 9) (.tmp 11) _ rfl IntR.good w.heap.size 3 i0 _ 8 Tryz.underlying47 hi0 hz0 hz1 hz2 rfl (by omega) _ (natI k) (k : Int) k (natI_len k) rfl (HO.out.alloc IntR.good _) ⟨_, 0, none⟩ 1 [.int .i64 k] rfl rfl (news_new rfl rfl) ?c1 ?c2 ?c3 (fun h => h) ?_)
   case c1 => simp only [maxLen]; omega
   case c2 => omega
   case c3 => have := HB.out.size; simp; omega
   intro A2 cap2 w2 hO2 hg2 _
   have HB2 : Hid (Below w.heap.size w w2) := bl_grown (bl_alloc HB.out _ (Nat.le_refl _)) (HO.out.alloc IntR.good _) hg2 (Nat.le_refl _) (Nat.le_refl _)
   have HO2 : Hid (OwnL IntR 1 (fun _ => False) w2 w.heap.size 3 (.slice (some ⟨A2, 0, none⟩) (k + 1) cap2) (natI (k + 1))) := by rw [Hid, natI_succ]; exact hO2
   clear hg2 HO HB hO2
   go_wp2_with fail
   go_roundw
   case rel => exact ⟨k + 1, cap2, _, by go_num, by omega, rfl, HO2, HB2⟩
   case measure => simp [intOf]; omega
  obtain rfl : k = q := by omega
  have hki : ¬ (k : Int) < k := by omega
  go_wp2_with fail
  refine (sort_ints (vs := List.range k) HO.out (by simp) (fun v hv => by have := List.mem_range.1 hv; omega) (by omega) (by omega)).mono ?_
  rintro e w2 ⟨rfl, Y, hp, hs, hI, hK⟩
  have hY : Y = setsM n := sorted_eq Y _ (hp.trans (by rw [← HQ.out]; exact HP.out.symm)) hs (setsM_sorted n (by omega))
  subst hY
  have hl : k = (setsM n).length := by rw [hp.length_eq]; simp
  have HI := Lib.hid hI
  have HL := Lib.hid hl
  have HB2 : Hid (Below w.heap.size w w2) := HB.out.trans (hK.below HB.out.size (fun j h => h))
  clear hI hl hp hs hK HB
  go_wp2_with fail
  go_ret
  exact ⟨⟨A', cap, by rw [← HL.out]; rfl, by rw [← HL.out]; exact HI.out⟩, HB2.out⟩
end Go.Proofs.YtdbfincinjoppaaGreat
