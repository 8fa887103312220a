/- A part of the proof that TopWorn always answers true. -/
import Derived.Test.YtdbfincinjoppabGreatDoorCBackPure
import Derived.Test.YtdbfincinjoppabGreatDoorCCard0
set_option linter.all false
namespace Go.Proofs.YtdbfincinjoppabGreatDoor
structure OkS (s : Shop) : Prop where
 shrink : 0 ≤ s.klo ∧ s.klo ≤ s.khi ∧ s.khi ≤ s.klo + 6 ∧ s.khi ≤ 100
 nm : 1 ≤ s.moulds.length ∧ s.moulds.length ≤ 4
 mould : ∀ {k : Nat}, k < s.moulds.length → mouldE s.moulds k = 0
theorem okS_of {s : Shop} (e : (check7 s).2.2 = 0) : OkS s := by
 unfold check7 at e
 split at e
 ·cases e
 split at e
 ·cases e
 split at e
 ·cases e
 rename_i g1 g2 g3
 simp [inB] at g1 g2
 rcases firstErr_cases (mouldE s.moulds) s.moulds.length with ⟨h4, h5⟩ | ⟨k, _, h4, h5, _⟩
 ·exact ⟨by omega, by omega, fun hk => h5 _ hk⟩
 rw [h4] at e; exact absurd e h5
theorem mouldE_zero {l : List Mould} {k : Nat} {x : Mould} (h : l[k]? = some x) (he : mouldE l k = 0) : (1 ≤ x.slo ∧ x.slo ≤ x.shi ∧ x.shi ≤ x.slo + 12 ∧ x.shi ≤ 20000) ∧ (0 ≤ x.wlo ∧ x.wlo ≤ x.whi ∧ x.whi ≤ x.wlo + 3 ∧ x.whi ≤ 20) ∧ 1 ≤ x.casts ∧ x.casts ≤ 8 := by
 unfold mouldE at he
 rw [getD_of h] at he
 dsimp only at he
 split at he
 ·rename_i h1; exact absurd he h1
 unfold mouldN at he
 split at he
 ·cases he
 split at he
 ·cases he
 rename_i h2 h3
 simp [inB] at h2 h3
 omega
theorem seen7_bad {s : Shop} {l : List SeenC} (h : err7 s ≠ 0) : seen7 s l = (0, err7 s) := by rw [seen7, if_pos h]
theorem seen7_long {s : Shop} {l : List SeenC} (h : err7 s = 0) (h2 : 6 < l.length) : seen7 s l = (0, 3) := by rw [seen7, if_neg (by simp [h]), if_pos h2]
theorem seen7_n {s : Shop} {l : List SeenC} (h : err7 s = 0) (h2 : ¬ 6 < l.length) : seen7 s l = match firstErr (seenE7 s l) l.length with
  | some (k, e) => ((k : Int), e)
  | none => (0, 0) := by rw [seen7, if_neg (by simp [h]), if_neg h2]; rfl
theorem seen7_zero {s : Shop} {l : List SeenC} (e : (seen7 s l).2 = 0) : (check7 s).2.2 = 0 ∧ l.length ≤ 6 ∧ ∀ k, k < l.length → seenE7 s l k = 0 := by
 by_cases h1 : err7 s = 0
 ·by_cases h2 : 6 < l.length
  ·rw [seen7_long h1 h2] at e; cases e
  rw [seen7_n h1 h2] at e
  rcases firstErr_cases (seenE7 s l) l.length with ⟨_, h3⟩ | ⟨k, _, h4, h5, _⟩
  ·exact ⟨h1, by omega, h3⟩
  rw [h4] at e; exact absurd e h5
 rw [seen7_bad h1] at e; exact absurd e h1
theorem seen7_one {s : Shop} {l : List SeenC} {k : Nat} {y : SeenC} (h : l[k]? = some y) (e : seenE7 s l k = 0) : (0 ≤ y.mould ∧ y.mould < s.moulds.length) ∧ (0 ≤ y.cast ∧ y.cast < (s.moulds.getD y.mould.toNat dMould).casts) ∧ 0 ≤ y.lo ∧ y.lo ≤ y.hi ∧ y.hi ≤ 20000 := by
 unfold seenE7 at e
 rw [getD_of h] at e
 dsimp only at e
 split at e
 ·cases e
 rename_i g1
 unfold there7 at g1
 simp [inB] at g1
 unfold rangeE at e
 split at e
 ·cases e
 split at e
 ·cases e
 rename_i g2 g3
 simp [inB] at g2 g3
 rw [List.getD_eq_getElem?_getD]
 omega
theorem made7_bd {a w c k : Int} (h1 : 1 ≤ a ∧ a ≤ 20000) (h2 : 0 ≤ w ∧ w ≤ 20) (h3 : 0 ≤ c ∧ c ≤ 8) (h4 : 0 ≤ k ∧ k ≤ 100) : 0 ≤ w * c ∧ w * c ≤ 160 ∧ 0 ≤ (a + w * c) * k ∧ (a + w * c) * k ≤ 2016000 ∧ 1 ≤ made7 a w c k ∧ made7 a w c k ≤ 20160 := by
 have q1 : 0 ≤ w * c := Int.mul_nonneg h2.1 h3.1
 have q2 : w * c ≤ 20 * 8 := Int.mul_le_mul h2.2 h3.2 h3.1 (by decide)
 obtain ⟨n, hn⟩ : ∃ n, a + w * c = n := ⟨_, rfl⟩
 have q3 : 0 ≤ n * k := Int.mul_nonneg (by omega) h4.1
 have q4 : n * k ≤ n * 100 := Int.mul_le_mul_of_nonneg_left h4.2 (by omega)
 have hq : (n * k).tdiv 1000 = (n * k) / 1000 := Int.tdiv_eq_ediv_of_nonneg q3
 unfold made7
 rw [hn, hq]
 omega
theorem twos7_bd {s : Shop} {l : List SeenC} {m : Nat} {k : Int} (hk : OkS s) (hm : m < s.moulds.length) {p : Int × Int} (hp : p ∈ twosC s l m k) : (1 ≤ p.1 ∧ p.1 ≤ 20000) ∧ 0 ≤ p.2 ∧ p.2 ≤ 20 := by
 have hx : s.moulds[m]? = some s.moulds[m] := List.getElem?_eq_getElem hm
 have hz := mouldE_zero hx (hk.mould hm)
 unfold twosC at hp
 rw [getD_of hx] at hp
 obtain ⟨hm1, _⟩ := List.mem_filter.1 hp
 obtain ⟨j, hk2, rfl⟩ := List.mem_map.1 hm1
 have hk3 := List.mem_range.1 hk2
 generalize s.moulds[m] = x at *
 have hs : 0 < wearN x := by unfold wearN; omega
 have hd : j / wearN x < sizeN x := by rw [Nat.mul_comm] at hk3; exact Nat.div_lt_of_lt_mul hk3
 have hm2 : j % wearN x < wearN x := Nat.mod_lt _ hs
 unfold pairC
 dsimp only
 generalize j / wearN x = d at *
 generalize j % wearN x = e at *
 unfold sizeN at hd
 unfold wearN at hm2
 omega
theorem shrinkL_bd {s : Shop} (hk : OkS s) {k : Int} (h : k ∈ shrinkL s) : 0 ≤ k ∧ k ≤ 100 ∧ s.klo ≤ k ∧ k ≤ s.khi := by
 unfold shrinkL at h
 obtain ⟨i, hi, rfl⟩ := List.mem_map.1 h
 have := List.mem_range.1 hi
 have := hk.shrink
 omega
theorem known7_mem {s : Shop} {l : List SeenC} {k : Int} (h : k ∈ known7 s l) : k ∈ shrinkL s ∧ knownB s l k = true := List.mem_filter.1 h
theorem known7_two {s : Shop} {l : List SeenC} {k : Int} {m : Nat} (h : knownB s l k = true) (hm : m < s.moulds.length) : twosC s l m k ≠ [] := by
 unfold knownB at h
 rw [List.all_eq_true] at h
 have := h m (List.mem_range.2 hm)
 simpa using this
theorem places_len {s : Shop} (hk : OkS s) : (placesL s).length ≤ 32 := by
 unfold placesL
 have key : ∀ n : Nat, n ≤ s.moulds.length → ((List.range n).flatMap fun m => (List.range (s.moulds.getD m dMould).casts.toNat).map fun c => (m, c)).length ≤ n * 8 := by
  intro n
  induction n with
  | zero => intro _; simp
  | succ n ih =>
   intro hn
   rw [List.range_succ, List.flatMap_append, List.length_append, List.flatMap_singleton, List.length_map, List.length_range]
   have := ih (by omega)
   have hx : s.moulds[n]? = some s.moulds[n] := List.getElem?_eq_getElem (by omega)
   have hz := (mouldE_zero hx (hk.mould (by omega))).2.2
   rw [getD_of hx]
   omega
 have := key s.moulds.length (Nat.le_refl _)
 have := hk.nm.2
 omega
theorem ends_at7 (L : List Int) : ∀ lo hi : Int, ((ends lo hi L).1 = lo ∨ (ends lo hi L).1 ∈ L) ∧ ((ends lo hi L).2 = hi ∨ (ends lo hi L).2 ∈ L) ∧ (ends lo hi L).1 ≤ lo ∧ hi ≤ (ends lo hi L).2 ∧ ∀ x ∈ L, (ends lo hi L).1 ≤ x ∧ x ≤ (ends lo hi L).2 := by
 induction L with
 | nil => intro lo hi; exact ⟨.inl rfl, .inl rfl, Int.le_refl _, Int.le_refl _, fun x h => by cases h⟩
 | cons y L ih =>
  intro lo hi
  obtain ⟨h1, h2, h3, h4, h5⟩ := ih (min lo y) (max hi y)
  simp only [ends]
  refine ⟨?_, ?_, by omega, by omega, fun x hx => ?_⟩
  ·rcases h1 with h1 | h1
   ·rw [h1]
    by_cases hm : lo ≤ y
    ·left; omega
    right; rw [show min lo y = y by omega]; exact List.mem_cons_self
   exact .inr (List.mem_cons_of_mem _ h1)
  ·rcases h2 with h2 | h2
   ·rw [h2]
    by_cases hm : y ≤ hi
    ·left; omega
    right; rw [show max hi y = y by omega]; exact List.mem_cons_self
   exact .inr (List.mem_cons_of_mem _ h2)
  rcases List.mem_cons.1 hx with rfl | hx
  ·omega
  exact h5 x hx
theorem endsOf_at7 {L : List Int} (h : L ≠ []) : (endsOf L).1 ∈ L ∧ (endsOf L).2 ∈ L ∧ ∀ x ∈ L, (endsOf L).1 ≤ x ∧ x ≤ (endsOf L).2 := by
 cases L with
 | nil => exact absurd rfl h
 | cons y L =>
  obtain ⟨h1, h2, h3, h4, h5⟩ := ends_at7 L y y
  simp only [endsOf]
  refine ⟨?_, ?_, fun x hx => ?_⟩
  ·rcases h1 with h1 | h1
   ·rw [h1]; exact List.mem_cons_self
   exact List.mem_cons_of_mem _ h1
  ·rcases h2 with h2 | h2
   ·rw [h2]; exact List.mem_cons_self
   exact List.mem_cons_of_mem _ h2
  rcases List.mem_cons.1 hx with rfl | hx
  ·exact ⟨h3, h4⟩
  exact h5 x hx
def shopW (nm : List UInt8) (a b k : Int) : Shop := ⟨0, 0, [⟨nm, a, a, b, b, k⟩]⟩
def claimW (a b k s : Int) : Claim := ⟨[⟨[115, 105, 122, 101], a, 0⟩], if 1 < k then [⟨[119, 111, 114, 110], 1, k - 1, [b]⟩] else [], [⟨0, s⟩]⟩
theorem fresh_nil {nm : List UInt8} {l : List (List UInt8)} (h : fresh nm l = 0) : fresh nm [] = 0 := by
 unfold fresh at h ⊢
 split at h
 ·rename_i h1
  rw [if_pos h1, if_neg (by simp)]
 cases h
theorem one_check {nm : List UInt8} {a b k : Int} (h0 : fresh nm [] = 0) (ha : 1 ≤ a ∧ a ≤ 20000) (hb : 0 ≤ b ∧ b ≤ 20) (hk : 1 ≤ k ∧ k ≤ 8) : check7 (shopW nm a b k) = (0, 0, 0) := by
 have hm : mouldE (shopW nm a b k).moulds 0 = 0 := by
  show (if fresh nm [] ≠ 0 then fresh nm [] else mouldN ⟨nm, a, a, b, b, k⟩) = 0
  rw [if_neg (by rw [h0]; simp)]
  unfold mouldN
  rw [if_neg (by simp [inB]; omega), if_neg (by simp [inB]; omega)]
 unfold check7
 rw [if_neg (by simp [inB, shopW]), if_neg (by simp [inB, shopW]), if_neg (by simp [shopW]), firstErr_none (fun j hj => by
  have hj : j < 1 := hj
  obtain rfl : j = 0 := by omega
  exact hm)]
theorem one_sizes {nm : List UInt8} {a b k : Int} (h0 : fresh nm [] = 0) (ha : 1 ≤ a ∧ a ≤ 20000) (hb : 0 ≤ b ∧ b ≤ 20) (hk : 1 ≤ k ∧ k ≤ 8) {n : Int} (hn : 0 ≤ n ∧ n < k) : sizesR (shopW nm a b k) [] 0 n = ((a + b * n, a + b * n), 0) := by
 have e1 : (seen7 (shopW nm a b k) []).2 = 0 := by
  unfold seen7
  rw [if_neg (by unfold err7; rw [one_check h0 ha hb hk]; simp), if_neg (by simp)]
  rfl
 have e2 : there7 (shopW nm a b k) 0 n = true := by
  unfold there7
  show (inB 0 0 (((1 : Nat) : Int) - 1) && inB n 0 (k - 1)) = true
  simp [inB]; omega
 have e3 : twosC (shopW nm a b k) [] 0 0 = [(a, b)] := by
  have h1 : sizeN ((shopW nm a b k).moulds.getD 0 dMould) = 1 := by
   show (a - a + 1).toNat = 1
   omega
  have h2 : wearN ((shopW nm a b k).moulds.getD 0 dMould) = 1 := by
   show (b - b + 1).toNat = 1
   omega
  have h3 : pairC ((shopW nm a b k).moulds.getD 0 dMould) 0 = (a, b) := by
   unfold pairC
   rw [h2]
   show (a + ((0 / 1 : Nat) : Int), b + ((0 % 1 : Nat) : Int)) = (a, b)
   simp
  unfold twosC
  rw [h1, h2]
  show ([0].map (pairC ((shopW nm a b k).moulds.getD 0 dMould))).filter _ = _
  rw [List.map_cons, List.map_nil, h3]
  rfl
 have e4 : known7 (shopW nm a b k) [] = [0] := by
  have h1 : shrinkL (shopW nm a b k) = [0] := by
   unfold shrinkL shopW
   simp [List.range_succ]
  unfold known7
  rw [h1]
  have h2 : knownB (shopW nm a b k) [] 0 = true := by
   unfold knownB
   show (List.range 1).all _ = true
   simp [List.range_succ, e3]
  simp [h2]
 have e5 : madeL (shopW nm a b k) [] 0 n = [a + b * n] := by
  unfold madeL
  rw [e4]
  simp [e3, made7]
 unfold sizesR
 rw [if_neg (by rw [e1]; simp), if_neg (by rw [e2]; simp), if_neg (by rw [e4]; simp)]
 unfold size7
 rw [show (0 : Int).toNat = 0 from rfl, e5]
 rfl
theorem errW {a b k s : Int} (ha : 1 ≤ a ∧ a ≤ 20000) (hb : 0 ≤ b ∧ b ≤ 20) (hk : 1 ≤ k ∧ k ≤ 8) (hs : 0 ≤ s ∧ s ≤ 200000) : err (claimW a b k s) = 0 := by
 unfold err
 rw [check_ok (by simp [claimW]) ?_ ?_ ?_ (by simp [claimW]) ?_]
 ·intro j hj
  have hj : j < 1 := hj
  obtain rfl : j = 0 := by omega
  rw [featE_get (x := ⟨[115, 105, 122, 101], a, 0⟩) rfl]
  rw [if_neg (by show ¬ fresh [115, 105, 122, 101] [] ≠ 0; decide +kernel), if_neg (by simp [inB]; omega)]
 ·unfold claimW; split <;> simp
 ·intro j hj
  unfold claimW at hj ⊢
  by_cases h1 : 1 < k
  ·rw [if_pos h1] at hj ⊢
   have hj : j < 1 := hj
   obtain rfl : j = 0 := by omega
   rw [causeAt_get (x := ⟨[119, 111, 114, 110], 1, k - 1, [b]⟩) rfl]
   rw [if_neg (by show ¬ fresh [119, 111, 114, 110] [] ≠ 0; decide +kernel)]
   unfold causeE
   have hp : perBad [b] = false := by simp [perBad, inB]; omega
   have hr : rangeE ⟨1, k - 1⟩ 1 50 = 0 := by
    unfold rangeE
    rw [if_neg (by simp [inB]; omega), if_neg (by dsimp only; omega)]
   rw [if_neg (by simp)]
   simp only [hp, hr]
   rw [if_neg (by simp; omega)]
   simp
  rw [if_neg h1] at hj
  simp at hj
 intro j hj
 have hj : j < 1 := hj
 obtain rfl : j = 0 := by omega
 rw [measE_get (x := ⟨0, s⟩) rfl]
 rw [if_neg (by show ¬ (!inB 0 0 (((1 : Nat) : Int) - 1)) = true; simp [inB]), if_neg (by simp [inB]; omega)]
theorem valsW {nm : List UInt8} {k : Int} {l : List Int} (hk : 1 < k) (v : Int) : v ∈ vals ⟨nm, 1, k - 1, l⟩ ↔ 0 ≤ v ∧ v < k := by
 unfold vals
 rw [List.mem_cons, List.mem_map]
 constructor
 ·rintro (rfl | ⟨i, hi, rfl⟩)
  ·omega
  have h9 : i < (k - 1 - 1 + 1).toNat := List.mem_range.1 hi
  show 0 ≤ (1 : Int) + (i : Int) ∧ (1 : Int) + (i : Int) < k
  omega
 intro h
 by_cases h0 : v = 0
 ·exact .inl h0
 right
 refine ⟨(v - 1).toNat, List.mem_range.2 ?_, ?_⟩
 ·show (v - 1).toNat < (k - 1 - 1 + 1).toNat; omega
 show (1 : Int) + ((v - 1).toNat : Int) = v; omega
theorem one_filter (p : Nat → Bool) : (((List.range 1).filter p).map fun i : Nat => (i : Int)) = if p 0 then [0] else [] := by
 cases h : p 0 <;> simp [List.range_succ, h]
theorem untrueW {a b k s : Int} {t : List Int} : (untrueL (claimW a b k s) t).isEmpty = true ↔ len (claimW a b k s) t 0 = s := by
 have h1 : untrueL (claimW a b k s) t = if measOk (claimW a b k s) t ⟨0, s⟩ then [] else [0] := by
  unfold untrueL
  show (((List.range 1).filter fun i => !measOk (claimW a b k s) t ((claimW a b k s).meas.getD i dMeas)).map fun i : Nat => (i : Int)) = _
  rw [one_filter]
  show (if (!measOk (claimW a b k s) t ⟨0, s⟩) = true then [0] else []) = _
  cases hm : measOk (claimW a b k s) t ⟨0, s⟩ <;> rfl
 have h2 : measOk (claimW a b k s) t ⟨0, s⟩ = decide (len (claimW a b k s) t 0 = s) := by
  unfold measOk
  show inB s (len (claimW a b k s) t 0 - 0) (len (claimW a b k s) t 0 + 0) = _
  unfold inB
  rw [Bool.eq_iff_iff]
  simp
  omega
 rw [h1, h2]
 by_cases h3 : len (claimW a b k s) t 0 = s <;> simp [h3]
theorem agreeW {a b k s : Int} (t : List Int) : t ∈ agreeL (claimW a b k s) ↔ (1 < k ∧ ∃ v, (0 ≤ v ∧ v < k) ∧ t = [v] ∧ a + v * b = s) ∨ (¬ 1 < k ∧ t = [] ∧ a = s) := by
 unfold agreeL
 rw [List.mem_filter, untrueW]
 by_cases h1 : 1 < k
 ·have hc : (claimW a b k s).causes = [⟨[119, 111, 114, 110], 1, k - 1, [b]⟩] := by unfold claimW; rw [if_pos h1]
  have ha : allT [⟨[119, 111, 114, 110], 1, k - 1, [b]⟩] = (vals ⟨[119, 111, 114, 110], 1, k - 1, [b]⟩).map fun v => [v] := by simp [allT, allGo]
  have hl : ∀ v : Int, len (claimW a b k s) [v] 0 = a + v * b := fun v => by
   show a + v * perOf (claimW a b k s) 0 0 = _
   unfold perOf
   rw [hc]
   rfl
  rw [hc, ha, List.mem_map]
  constructor
  ·rintro ⟨⟨v, hv, rfl⟩, h2⟩
   rw [hl] at h2
   exact .inl ⟨h1, v, (valsW h1 v).1 hv, rfl, h2⟩
  rintro (⟨_, v, hv, rfl, h2⟩ | ⟨h2, _⟩)
  ·exact ⟨⟨v, (valsW h1 v).2 hv, rfl⟩, by rw [hl]; exact h2⟩
  exact absurd h1 h2
 have hc : (claimW a b k s).causes = [] := by unfold claimW; rw [if_neg h1]
 have hl : len (claimW a b k s) [] 0 = a := rfl
 rw [hc]
 constructor
 ·rintro ⟨ht, h2⟩
  have ht : t = [] := by simpa [allT, allGo] using ht
  subst ht
  rw [hl] at h2
  exact .inr ⟨h1, rfl, h2⟩
 rintro (⟨h2, _⟩ | ⟨_, rfl, h2⟩)
 ·exact absurd h2 h1
 exact ⟨by simp [allT, allGo], by rw [hl]; exact h2⟩
theorem mul_cut {b v n : Int} (hb : 0 < b) (h : v * b = b * n) : v = n := by
 rw [Int.mul_comm v b] at h
 exact Int.eq_of_mul_eq_mul_left (by omega) h
theorem err8W {a b k s : Int} (he : err (claimW a b k s) = 0) (hne : agreeL (claimW a b k s) ≠ []) : err8B (claimW a b k s) = 0 := by
 unfold err8B
 rw [if_neg (by rw [he]; simp), if_neg hne]
theorem agreeW_ne {a b k n : Int} (hk : 1 ≤ k) (hn : 0 ≤ n ∧ n < k) : agreeL (claimW a b k (a + b * n)) ≠ [] := by
 by_cases h1 : 1 < k
 ·exact List.ne_nil_of_mem ((agreeW [n]).2 (.inl ⟨h1, n, hn, rfl, by rw [Int.mul_comm]⟩))
 obtain rfl : n = 0 := by omega
 exact List.ne_nil_of_mem ((agreeW []).2 (.inr ⟨h1, rfl, by simp⟩))
theorem wornMust {a b k n : Int} (ha : 1 ≤ a ∧ a ≤ 20000) (hb : 0 ≤ b ∧ b ≤ 20) (hk : 1 ≤ k ∧ k ≤ 8) (hn : 0 ≤ n ∧ n < k) (hs : 0 ≤ a + b * n ∧ a + b * n ≤ 200000) :
  ∃ M Y, mustR (claimW a b k (a + b * n)) = (M, Y, 0) ∧ (0 < M.length ↔ (0 < n ∧ 0 < b)) ∧ (0 < Y.length ↔ (1 < k ∧ (b = 0 ∨ 0 < n))) := by
 have he := errW ha hb hk hs
 have hne := agreeW_ne (a := a) (b := b) hk.1 hn
 refine ⟨mustL (claimW a b k (a + b * n)), mayL (claimW a b k (a + b * n)), ?_, ?_, ?_⟩
 ·unfold mustR
  rw [if_neg (by rw [err8W he hne]; simp)]
 ·unfold mustL
  by_cases h1 : 1 < k
  ·have hc : (claimW a b k (a + b * n)).causes.length = 1 := by unfold claimW; rw [if_pos h1]; rfl
   rw [hc, one_filter]
   by_cases hp : isMust (agreeL (claimW a b k (a + b * n))) 0 = true
   ·rw [if_pos hp]
    refine ⟨fun _ => ?_, fun _ => by simp⟩
    unfold isMust at hp
    rw [List.all_eq_true] at hp
    have h2 := hp [n] ((agreeW [n]).2 (.inl ⟨h1, n, hn, rfl, by rw [Int.mul_comm]⟩))
    have h2 : 0 < n := by simpa using h2
    refine ⟨h2, ?_⟩
    rcases Int.lt_or_eq_of_le hb.1 with h3 | h3
    ·exact h3
    have h4 := hp [0] ((agreeW [0]).2 (.inl ⟨h1, 0, ⟨by omega, by omega⟩, rfl, by rw [← h3]; simp⟩))
    simp at h4
   rw [if_neg hp]
   refine ⟨fun h => by simp at h, fun h => ?_⟩
   exfalso
   apply hp
   unfold isMust
   rw [List.all_eq_true]
   intro t ht
   rcases (agreeW t).1 ht with ⟨_, v, hv, rfl, h2⟩ | ⟨h2, _⟩
   ·have : v = n := mul_cut h.2 (by omega)
    subst this
    simpa using h.1
   exact absurd h1 h2
  have hc : (claimW a b k (a + b * n)).causes.length = 0 := by unfold claimW; rw [if_neg h1]; rfl
  rw [hc]
  refine ⟨fun h => by simp at h, fun h => by omega⟩
 unfold mayL
 by_cases h1 : 1 < k
 ·have hc : (claimW a b k (a + b * n)).causes.length = 1 := by unfold claimW; rw [if_pos h1]; rfl
  rw [hc, one_filter]
  by_cases hp : isMay (agreeL (claimW a b k (a + b * n))) 0 = true
  ·rw [if_pos hp]
   refine ⟨fun _ => ⟨h1, ?_⟩, fun _ => by simp⟩
   unfold isMay at hp
   rw [List.any_eq_true] at hp
   obtain ⟨t, ht, h0⟩ := hp
   rcases (agreeW t).1 ht with ⟨_, v, hv, rfl, h2⟩ | ⟨h2, _⟩
   ·have h0 : 0 < v := by simpa using h0
    by_cases hb0 : b = 0
    ·exact .inl hb0
    have : v = n := mul_cut (b := b) (by omega) (by omega)
    subst this
    exact .inr h0
   exact absurd h1 h2
  rw [if_neg hp]
  refine ⟨fun h => by simp at h, fun h => ?_⟩
  exfalso
  apply hp
  unfold isMay
  rw [List.any_eq_true]
  rcases h.2 with h2 | h2
  ·exact ⟨[1], (agreeW [1]).2 (.inl ⟨h1, 1, ⟨by omega, h1⟩, rfl, by rw [h2]; simp⟩), by simp⟩
  exact ⟨[n], (agreeW [n]).2 (.inl ⟨h1, n, hn, rfl, by rw [Int.mul_comm]⟩), by simpa using h2⟩
 have hc : (claimW a b k (a + b * n)).causes.length = 0 := by unfold claimW; rw [if_neg h1]; rfl
 rw [hc]
 refine ⟨fun h => by simp at h, fun h => absurd h.1 h1⟩
theorem wornAmount {a b k n : Int} (ha : 1 ≤ a ∧ a ≤ 20000) (hb : 0 ≤ b ∧ b ≤ 20) (hk : 1 ≤ k ∧ k ≤ 8) (h1 : 1 < k) (hn : 0 ≤ n ∧ n < k) (hs : 0 ≤ a + b * n ∧ a + b * n ≤ 200000) :
  ∃ p : Int × Int, amountR (claimW a b k (a + b * n)) 0 = (p, 0) ∧ p.1 ≤ n ∧ n ≤ p.2 ∧ (0 < b → p.1 = p.2) := by
 have he := errW ha hb hk hs
 have hne := agreeW_ne (a := a) (b := b) hk.1 hn
 have hc : (claimW a b k (a + b * n)).causes.length = 1 := by unfold claimW; rw [if_pos h1]; rfl
 have hE : errAt (claimW a b k (a + b * n)) 0 1 = 0 := by
  unfold errAt
  rw [if_neg (by rw [he]; simp), if_pos (by simp [inB]), if_neg hne]
 refine ⟨endsOf ((agreeL (claimW a b k (a + b * n))).map fun t => t.getD (0 : Int).toNat 0), ?_, ?_⟩
 ·unfold amountR
  rw [hc, if_neg (by rw [hE]; simp)]
 obtain ⟨p1, p2, p3⟩ := endsOf_at7 (L := (agreeL (claimW a b k (a + b * n))).map fun t => t.getD (0 : Int).toNat 0) (by simpa using hne)
 have h2 := p3 n (List.mem_map.2 ⟨[n], (agreeW [n]).2 (.inl ⟨h1, n, hn, rfl, by rw [Int.mul_comm]⟩), rfl⟩)
 refine ⟨h2.1, h2.2, fun hb0 => ?_⟩
 have key : ∀ x ∈ (agreeL (claimW a b k (a + b * n))).map fun t => t.getD (0 : Int).toNat 0, x = n := by
  intro x hx
  obtain ⟨t, ht, rfl⟩ := List.mem_map.1 hx
  rcases (agreeW t).1 ht with ⟨_, v, hv, rfl, h2⟩ | ⟨h2, _⟩
  ·exact mul_cut hb0 (by show v * b = b * n; omega)
  exact absurd h1 h2
 rw [key _ p1, key _ p2]
theorem wornNone {a b k s : Int} (hb : 0 ≤ b ∧ b ≤ 20) (hk : 1 ≤ k ∧ k ≤ 8) (h : s < a ∨ a + b * (k - 1) < s) : agreeL (claimW a b k s) = [] := by
 refine List.eq_nil_iff_forall_not_mem.2 fun t ht => ?_
 rcases (agreeW t).1 ht with ⟨h1, v, hv, rfl, h2⟩ | ⟨h1, rfl, h2⟩
 ·have h3 : 0 ≤ v * b := Int.mul_nonneg hv.1 hb.1
  have h4 : v * b ≤ (k - 1) * b := Int.mul_le_mul_of_nonneg_right (by omega) hb.1
  rw [Int.mul_comm (k - 1) b] at h4
  omega
 have h3 : 0 ≤ b * (k - 1) := Int.mul_nonneg hb.1 (by omega)
 omega
theorem wornSets {a b k s : Int} (ha : 1 ≤ a ∧ a ≤ 20000) (hb : 0 ≤ b ∧ b ≤ 20) (hk : 1 ≤ k ∧ k ≤ 8) (hs : 0 ≤ s ∧ s ≤ 200000) (h : s < a ∨ a + b * (k - 1) < s) : setsR (claimW a b k s) = ([], 0) ∧ plainR (claimW a b k s) = ([], 8) := by
 have he := errW ha hb hk hs
 have hn := wornNone hb hk h
 refine ⟨?_, ?_⟩
 ·unfold setsR
  rw [if_neg (by rw [he]; simp)]
  have h1 : explainsL (claimW a b k s) = [] := by
   unfold explainsL
   rw [hn]
   simp [isSet]
  unfold setsLB
  rw [h1]
  rfl
 have h8 : err8B (claimW a b k s) = 8 := by
  unfold err8B
  rw [if_neg (by rw [he]; simp), if_pos hn]
 unfold plainR
 rw [if_pos (by rw [h8]; decide), h8]
end Go.Proofs.YtdbfincinjoppabGreatDoor
