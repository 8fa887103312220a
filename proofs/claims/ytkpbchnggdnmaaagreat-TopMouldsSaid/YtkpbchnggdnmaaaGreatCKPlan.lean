/- A part of the proof that TopMoulds always answers true. -/
import Derived.Test.YtkpbchnggdnmaaaGreatCCastHall3
import Derived.Test.YtkpbchnggdnmaaaGreatCCastOk
import Derived.Test.YtkpbchnggdnmaaaGreatCKAsk
import Derived.Test.YtkpbchnggdnmaaaGreatCKHas
import Derived.Test.YtkpbchnggdnmaaaGreatCKOpen
import Derived.Test.YtkpbchnggdnmaaaGreatCKTrueP
import Derived.Test.YtkpbchnggdnmaaaGreatCTBits
set_option linter.all false
namespace Go.Proofs.YtkpbchnggdnmaaaGreat
open Go.RowKit Go.Shelf
theorem all_bits : ∀ m : Nat, m < 7 → ∀ j : Nat, j < m → bits BinOp.and .i64 ((((2 ^ m : Nat) : Int) - 1) / 2 ^ j) 1 = 1 := by decide +kernel
theorem rest_bits : ∀ m : Nat, m < 7 → ∀ k : Nat, k < m → ∀ j : Nat, j < m → bits BinOp.and .i64 ((bits BinOp.andNot .i64 (((2 ^ m : Nat) : Int) - 1) (((2 ^ (k + 1) : Nat) : Int) - 1)) / 2 ^ j) 1 = if decide (k < j) then 1 else 0 := by decide +kernel
def planQ (o : List (List Pl)) (m : Nat) (set : List Int) : Bool := !decide (giveR o (fun a => hasN set a.1) (fun _ => true) [] < m)
def pickQ (o : List (List Pl)) (m : Nat) (set : List Int) (k : Nat) (plan : List Pl) (a : Pl) : Bool := hasN set a.1 && !plan.contains a && decide (giveR o (fun p => hasN set p.1) (fun j => decide (k < j)) (plan ++ [a]) = m - k - 1)
theorem planK_step {o : List (List Pl)} {m : Nat} {set : List Int} {k : Nat} (hm : o.length = m) : planK o set (k + 1) = match (o.getD k []).find? (pickQ o m set k (planK o set k)) with
  | some a => planK o set k ++ [a]
  | none => planK o set k := by
 subst hm; exact planK_succ o set k
theorem planR_bad {s : Shop} {l : List SeenC} {p : List (Int × Int)} (h : orderE s l p ≠ 0) : planR s l p = ([], [], orderE s l p) := by rw [planR, if_pos h]
theorem planR_none {s : Shop} {l : List SeenC} {p : List (Int × Int)} (h : orderE s l p = 0) (hf : (setsL s.moulds.length).find? (planQ (allL s l p) p.length) = none) : planR s l p = ([], [], 8) := by
 rw [planR, if_neg (by simp [h])]
 have : (fun set : List Int => !decide (giveR (allL s l p) (fun a => hasN set a.1) (fun _ => true) [] < p.length)) = planQ (allL s l p) p.length := rfl
 rw [this, hf]
theorem planR_some {s : Shop} {l : List SeenC} {p : List (Int × Int)} {set : List Int} (h : orderE s l p = 0) (hf : (setsL s.moulds.length).find? (planQ (allL s l p) p.length) = some set) : planR s l p = (planK (allL s l p) set p.length, set, 0) := by
 rw [planR, if_neg (by simp [h])]
 have : (fun set : List Int => !decide (giveR (allL s l p) (fun a => hasN set a.1) (fun _ => true) [] < p.length)) = planQ (allL s l p) p.length := rfl
 rw [this, hf]
theorem plan_known {o : List (List Pl)} {m : Nat} {set : List Int} (hu : ∀ j, (o.getD j []).length ≤ 32 ∧ ∀ a ∈ o.getD j [], a ∈ univ8) (hm : o.length = m) (hq : planQ o m set = true) : ∀ k, k ≤ m → (planK o set k).length = k ∧ ∀ a ∈ planK o set k, a ∈ univ8 := by
 subst hm
 have hF : 32 + univ8.length * (32 + 1) ≤ seekF := by rw [univ8_len]; unfold seekF; omega
 have hc : CanP o (fun p => hasN set p.1) (fun _ => true) [] o.length := by
  refine (can_iff hu hF).1 ?_
  rw [count_all]
  have h1 := give_le o (fun p => hasN set p.1) (fun _ => true) [] o.length
  rw [count_all] at h1
  unfold planQ at hq
  simp at hq
  have h2 : giveR o (fun p => hasN set p.1) (fun _ => true) [] ≤ o.length := h1
  omega
 intro k hk
 obtain ⟨h1, _, _, h4⟩ := plan_can hu hF hc k hk
 refine ⟨h1, fun a ha => ?_⟩
 obtain ⟨i, hi, he⟩ := List.getElem_of_mem ha
 exact (hu i).2 a (h4 i a (by rw [List.getElem?_eq_getElem hi, he])).1
def PlanT (B : Nat) (r : List Pl × List Int × Int) (e : Ending) (w' : World) : Prop := ∃ A c A2 c2, e = .returned (.tuple #[.slice A r.1.length c, .slice A2 r.2.1.length c2, .int .i64 r.2.2]) ∧ Pls (fun k => B ≤ k) w' A r.1.length r.1 ∧ Ints (fun k => B ≤ k) w' A2 r.2.1.length r.2.1
theorem PlanT.nil {B : Nat} {e : Int} {w' : World} : PlanT B ([], [], e) (.returned (.tuple #[.slice none 0 0, .slice none 0 0, .int .i64 e])) w' := ⟨none, 0, none, 0, rfl, ⟨rfl, Nat.zero_le _, fun k x hx => by simp at hx⟩, ⟨rfl, Nat.zero_le _, fun k x hx => by simp at hx⟩⟩
theorem make_pl (n : Nat) (hn : n ≤ 10) (w : World) : ∃ (V : World) (cur : Array Value), (Instr.makeSlice 45 (.int .i64 (n : Int)) (.int .i64 (n : Int))).run Tryz.prog w = .ok (.slice (some ⟨w.heap.size, 0, none⟩) n n) V ∧ Below w.heap.size w V ∧ Blk V w.heap.size 50 cur ∧ cur.size = n * 2 := by
 obtain ⟨iP, hiP, hz0, hz1, hz2⟩ := info_parts infoPl7
 have h := run_make (P := Tryz.prog) w 45 50 iP _ Tryz.underlying45 hiP hz0 .i64 .i64 (n : Int) (n : Int) (by omega) (by omega) (by rw [hz2]; omega) (by omega)
 rw [Int.toNat_natCast] at h
 exact ⟨_, _, h, bl_alloc (Below.refl _ _) _ (Nat.le_refl _), Blk.new _ _ _ rfl, by rw [size_madeCells, hz1]⟩
theorem infoPlS2 {x y : Value} : (Tryz.prog.info? 50).map (·.size) = some (#[x, y] : Array Value).size := by kernel_rfl
theorem infoPlS : (Tryz.prog.info? 50).map (·.size) = some 2 := by kernel_rfl
open Go.RowKit Go.Shelf
def spanE7 (p : List (Int × Int)) (k : Nat) : Int := rangeE ⟨(p.getD k (0, 0)).1, (p.getD k (0, 0)).2⟩ 0 20000
def ord0 (s : Shop) (l : List SeenC) (p : List (Int × Int)) : Int :=
 if (seen7 s l).2 ≠ 0 then (seen7 s l).2 else if ¬ (1 ≤ p.length ∧ p.length ≤ 6) then 3 else
 match firstErr (spanE7 p) p.length with
 | some (_, e) => e
 | none => 0
theorem ord0_bad {s : Shop} {l : List SeenC} {p : List (Int × Int)} (e : (seen7 s l).2 ≠ 0) : ord0 s l p = (seen7 s l).2 := by rw [ord0, if_pos e]
theorem ord0_long {s : Shop} {l : List SeenC} {p : List (Int × Int)} (e : (seen7 s l).2 = 0) (h : ¬ (1 ≤ p.length ∧ p.length ≤ 6)) : ord0 s l p = 3 := by rw [ord0, if_neg (by simp [e]), if_pos h]
theorem ord0_n {s : Shop} {l : List SeenC} {p : List (Int × Int)} (e : (seen7 s l).2 = 0) (h : 1 ≤ p.length ∧ p.length ≤ 6) : ord0 s l p = match firstErr (spanE7 p) p.length with
  | some (_, e) => e
  | none => 0 := by rw [ord0, if_neg (by simp [e]), if_neg (by simp [h])]
theorem ord0_ok {s : Shop} {l : List SeenC} {p : List (Int × Int)} (e : (seen7 s l).2 = 0) (h : 1 ≤ p.length ∧ p.length ≤ 6) (hz : ∀ j, j < p.length → spanE7 p j = 0) : ord0 s l p = 0 := by
 rw [ord0_n e h, firstErr_none hz]
theorem orderE_eq (s : Shop) (l : List SeenC) (p : List (Int × Int)) : orderE s l p = agreeE7 s l (ord0 s l p) := by
 by_cases e : (seen7 s l).2 = 0
 ·by_cases h : 1 ≤ p.length ∧ p.length ≤ 6
  ·unfold orderE
   rw [if_neg (by simp [e]), if_neg (by simp [h])]
   rw [ord0_n e h]
   show (match firstErr (spanE7 p) p.length with | some (_, e) => e | none => if known7 s l = [] then 9 else 0) = _
   rcases firstErr_cases (spanE7 p) p.length with ⟨h4, h5⟩ | ⟨k, _, h4, h5, _⟩
   ·rw [h4]
    unfold agreeE7
    by_cases hk : known7 s l = []
    ·simp [hk]
    simp [hk]
   rw [h4]
   dsimp only
   unfold agreeE7
   rw [if_neg (fun hh => h5 hh.1)]
  unfold orderE
  rw [if_neg (by simp [e]), if_pos h, ord0_long e h]
  unfold agreeE7
  rw [if_neg (by simp)]
 unfold orderE
 rw [if_pos e, ord0_bad e]
 unfold agreeE7
 rw [if_neg (by simp [e])]
theorem hF8 : 32 + univ8.length * (32 + 1) ≤ seekF := by rw [univ8_len]; unfold seekF; omega
def CanS (o : List (List Pl)) (set : List Int) : Prop := CanP o (fun a => hasN set a.1) (fun _ => true) [] o.length
theorem test_iff {o : List (List Pl)} {set : List Int} {univ : List Pl} {L : Nat} (hu : ∀ j, (o.getD j []).length ≤ L ∧ ∀ a ∈ o.getD j [], a ∈ univ) (hF : L + univ.length * (L + 1) ≤ seekF) : (!decide (giveR o (fun a => hasN set a.1) (fun _ => true) [] < o.length)) = true ↔ CanS o set := by
 have h1 := can_iff (ok := fun a => hasN set a.1) (is := fun _ => true) (fixed := []) hu hF
 rw [count_all] at h1
 have h2 := give_le o (fun a => hasN set a.1) (fun _ => true) [] o.length
 rw [count_all] at h2
 unfold CanS
 rw [← h1]
 unfold giveR at *
 simp only [Bool.not_eq_true', decide_eq_false_iff_not]
 omega
theorem allL_len (s : Shop) (l : List SeenC) (p : List (Int × Int)) : (allL s l p).length = p.length := by simp [allL]
theorem plan_cases {s : Shop} {l : List SeenC} {p : List (Int × Int)} (h0 : orderE s l p = 0) :
  (∃ A set B, setsL s.moulds.length = A ++ set :: B ∧ (∀ t ∈ A, ¬ CanS (allL s l p) t) ∧ CanS (allL s l p) set ∧ planR s l p = (planK (allL s l p) set p.length, set, 0)) ∨
  ((∀ t ∈ setsL s.moulds.length, ¬ CanS (allL s l p) t) ∧ planR s l p = ([], [], 8)) := by
 obtain ⟨hok, hk, _, _⟩ := order_zero h0
 have hT := fun set => test_iff (set := set) (fun j => all_hu (p := p) hok hk j) hF8
 rw [allL_len] at hT
 unfold planR
 rw [if_neg (by simp [h0])]
 cases hf : (setsL s.moulds.length).find? fun set => !decide (giveR (allL s l p) (fun a => hasN set a.1) (fun _ => true) [] < p.length) with
 | none =>
  right
  rw [List.find?_eq_none] at hf
  exact ⟨fun t ht hc => hf t ht ((hT t).2 hc), rfl⟩
 | some set =>
  left
  obtain ⟨h1, A, B, h2, h3⟩ := List.find?_eq_some_iff_append.1 hf
  refine ⟨A, set, B, h2, fun t ht hc => ?_, (hT set).1 h1, rfl⟩
  have := h3 t ht
  rw [(hT t).2 hc] at this
  cases this
theorem all_in {s : Shop} {l : List SeenC} {p : List (Int × Int)} {j : Nat} {a : Pl} (h : a ∈ (allL s l p).getD j []) : a ∈ placesL s := by
 unfold allL at h
 rw [List.getD_eq_getElem?_getD, List.getElem?_map] at h
 cases hp : p[j]? with
 | none => rw [hp] at h; simp at h
 | some x =>
  rw [hp] at h
  have h' : a ∈ fit7 s l x.1 x.2 := by simpa using h
  exact (List.mem_filter.1 h').1
theorem order_of {s : Shop} {l : List SeenC} {p : List (Int × Int)} (e : (seen7 s l).2 = 0) (hk : known7 s l ≠ []) (h1 : 1 ≤ p.length) (h6 : p.length ≤ 6) (hz : ∀ j, j < p.length → spanE7 p j = 0) : orderE s l p = 0 := by
 rw [orderE_eq, ord0_ok e ⟨h1, h6⟩ hz]
 unfold agreeE7
 rw [if_neg (by simp [hk])]
def BefO (a b : List Int) : Prop := a.length < b.length ∨ (a.length = b.length ∧ lexC a b < 0)
theorem sets_befO {n : Nat} (hn : n < 9) : (setsL n).Pairwise BefO := by
 unfold setsL
 rw [List.pairwise_flatMap]
 refine ⟨fun k hk => ?_, ?_⟩
 ·have hk9 : k < 9 := by have := List.mem_range.1 hk; omega
  have h := lex_pair n hn k hk9
  refine List.Pairwise.imp_of_mem (fun {a b} ha hb hl => .inr ⟨?_, hl⟩) h
  rw [(lex_set ha).2, (lex_set hb).2]
 refine List.Pairwise.imp (fun {i j} hij x hx y hy => .inl ?_) (List.pairwise_lt_range (n := n + 1))
 rw [(lex_set hx).2, (lex_set hy).2]; exact hij
theorem bef_irrO {a b : List Int} (h : BefO a b) (h2 : BefO b a) : False := by
 rcases h with h | ⟨h, h1⟩
 ·rcases h2 with h2 | ⟨h2, _⟩ <;> omega
 rcases h2 with h2 | ⟨_, h3⟩
 ·omega
 have := lexC_trans _ _ _ h1 h3
 rw [lexC_refl] at this
 omega
theorem bef_inO {n : Nat} (hn : n < 9) {A B : List (List Int)} {u t : List Int} (e : setsL n = A ++ u :: B) (ht : t ∈ setsL n) (h : BefO t u) : t ∈ A := by
 have hp := sets_befO hn
 rw [e] at hp ht
 rcases List.mem_append.1 ht with h1 | h1
 ·exact h1
 exfalso
 have hp2 := (List.pairwise_append.1 hp).2.1
 rcases List.mem_cons.1 h1 with h1 | h1
 ·rw [h1] at h; exact bef_irrO h h
 exact bef_irrO h ((List.pairwise_cons.1 hp2).1 t h1)
theorem num_subO : ∀ (n f : Nat) (x : List Int), x.Pairwise (· < ·) → (∀ i ∈ x, (f : Int) ≤ i ∧ i < (f + n : Nat)) → x.Sublist ((List.range' f n).map fun i : Nat => (i : Int))
 | 0, f, [], _, _ => List.Sublist.refl _
 | 0, f, y :: x, _, h => by have := h y (by simp); omega
 | n + 1, f, [], _, _ => by simp
 | n + 1, f, y :: x, hp, h => by
  rw [List.range'_succ, List.map_cons]
  obtain ⟨h1, h2⟩ := List.pairwise_cons.1 hp
  by_cases hy : y = f
  ·rw [hy]
   refine List.Sublist.cons_cons _ (num_subO n (f + 1) x h2 fun i hi => ?_)
   have a1 := h1 i hi
   have a2 := h i (by simp [hi])
   omega
  refine List.Sublist.cons _ (num_subO n (f + 1) (y :: x) hp fun i hi => ?_)
  have a2 := h i hi
  have a3 := h y (by simp)
  rcases List.mem_cons.1 hi with e | e
  ·rw [e]; omega
  have a1 := h1 i e
  omega
theorem set_subO {n : Nat} {x : List Int} (h : IsSet n x) : x.Sublist (numbersL n) := by
 have := num_subO n 0 x h.1 (fun i hi => by have := h.2 i hi; omega)
 unfold numbersL
 rwa [List.range_eq_range']
section
variable {s : Shop} {l l' : List SeenC}
theorem allL_get (s : Shop) (l : List SeenC) (p : List (Int × Int)) (j : Nat) : (allL s l p).getD j [] = if j < p.length then fit7 s l (p.getD j (0, 0)).1 (p.getD j (0, 0)).2 else [] := by
 unfold allL
 rw [List.getD_eq_getElem?_getD, List.getElem?_map]
 split
 ·rename_i h
  rw [getD_of (List.getElem?_eq_getElem h), List.getElem?_eq_getElem h]
  rfl
 rename_i h
 rw [List.getElem?_eq_none (by omega)]
 rfl
end
theorem planned {s : Shop} {l : List SeenC} {p : List (Int × Int)} (h0 : orderE s l p = 0) :
  planR s l p = ([], [], 8) ∨ ∃ P u, planR s l p = (P, u, 0) ∧ P.length = p.length ∧ P.Nodup ∧ (∀ i a, P[i]? = some a → a ∈ fit7 s l (p.getD i (0, 0)).1 (p.getD i (0, 0)).2 ∧ (a.1 : Int) ∈ u) ∧ IsSet s.moulds.length u ∧ ∀ x ∈ u, ∃ a ∈ P, (a.1 : Int) = x := by
 rcases plan_cases h0 with ⟨A, u, B, e1, e2, e3, e4⟩ | ⟨_, e⟩
 ·right
  obtain ⟨hok, hne, _, _⟩ := order_zero h0
  have hlen : (allL s l p).length = p.length := allL_len _ _ _
  have hc := plan_can (fun j => all_hu (p := p) hok hne j) hF8 e3 p.length (by rw [hlen]; exact Nat.le_refl _)
  obtain ⟨c1, _, c3, c4⟩ := hc
  have hu : u ∈ setsL s.moulds.length := by rw [e1]; simp
  refine ⟨_, u, e4, c1, c3, fun i a hi => ?_, sets_set hu, fun x hx => ?_⟩
  ·obtain ⟨d1, d2⟩ := c4 i a hi
   rw [allL_get, if_pos (by have := (List.getElem?_eq_some_iff.1 hi).1; omega)] at d1
   exact ⟨d1, by unfold hasN at d2; simpa using d2⟩
  by_cases hex : ∃ a ∈ planK (allL s l p) u p.length, (a.1 : Int) = x
  ·exact hex
  exfalso
  obtain ⟨u2, hu2⟩ : ∃ u2, u.filter (fun y => decide (y ≠ x)) = u2 := ⟨_, rfl⟩
  have hs2 : u2 ∈ setsL s.moulds.length := sets_mem.2 (by rw [← hu2]; exact List.filter_sublist.trans (sets_mem.1 hu))
  have hl2 : u2.length < u.length := by
   have h1 : u2.length ≤ u.length := by rw [← hu2]; exact List.length_filter_le _ _
   by_cases h2 : u2.length = u.length
   ·have h3 : u2 = u := by
     have hsub : u2.Sublist u := by rw [← hu2]; exact List.filter_sublist
     exact hsub.eq_of_length h2
    rw [← h3, ← hu2] at hx
    simp at hx
   omega
  have hcan : CanS (allL s l p) u2 := by
   refine ⟨fun j => (planK (allL s l p) u p.length).getD j (0, 0), fun j hj _ => ?_, fun i j hi hj _ _ hij => ?_⟩
   ·rw [hlen] at hj
    have hg : (planK (allL s l p) u p.length)[j]? = some ((planK (allL s l p) u p.length)[j]'(by rw [c1]; exact hj)) := List.getElem?_eq_getElem _
    have hM : (planK (allL s l p) u p.length).getD j (0, 0) = (planK (allL s l p) u p.length)[j]'(by rw [c1]; exact hj) := getD_of hg
    dsimp only
    rw [hM]
    obtain ⟨d1, d2⟩ := c4 j _ hg
    refine ⟨d1, ?_, by simp⟩
    unfold hasN at d2 ⊢
    rw [decide_eq_true_eq] at d2 ⊢
    rw [← hu2]
    exact List.mem_filter.2 ⟨d2, by simpa using fun e => hex ⟨_, List.mem_of_getElem? hg, e⟩⟩
   rw [hlen] at hi hj
   have hi' : i < (planK (allL s l p) u p.length).length := by rw [c1]; exact hi
   have hj' : j < (planK (allL s l p) u p.length).length := by rw [c1]; exact hj
   dsimp only at hij
   rw [List.getD_eq_getElem?_getD, List.getD_eq_getElem?_getD, List.getElem?_eq_getElem hi', List.getElem?_eq_getElem hj', Option.getD_some, Option.getD_some] at hij
   exact (List.getElem_inj c3).1 hij
  have ho := sets_order s.moulds.length
  rw [e1] at hs2 ho
  rw [List.pairwise_append] at ho
  rcases List.mem_append.1 hs2 with hm | hm
  ·exact e2 u2 hm hcan
  rcases List.mem_cons.1 hm with hm | hm
  ·rw [hm] at hl2; omega
  have := (List.pairwise_cons.1 ho.2.1).1 u2 hm
  omega
 exact .inl e
def allZ (s : Shop) (i : Nat) : Int × Int := ((size7 s [] i 0).1, (size7 s [] i ((castsN s i : Int) - 1)).2)
def castsQ (nd : List Nat) : List Pl := (List.range nd.length).flatMap fun i => (List.range (nd.getD i 0)).map fun n => (i, n)
def piecesQ (s : Shop) (nd : List Nat) : List (Int × Int) := (castsQ nd).map fun a => allZ s a.1
def mouldsQ (nd : List Nat) : List Int := ((List.range nd.length).filter fun i => decide (0 < nd.getD i 0)).map fun i : Nat => (i : Int)
theorem castsQ_mem {nd : List Nat} {a : Pl} : a ∈ castsQ nd ↔ a.1 < nd.length ∧ a.2 < nd.getD a.1 0 := by
 unfold castsQ
 rw [List.mem_flatMap]
 constructor
 ·rintro ⟨i, hi, h⟩
  obtain ⟨n, hn, rfl⟩ := List.mem_map.1 h
  exact ⟨List.mem_range.1 hi, List.mem_range.1 hn⟩
 rintro ⟨h1, h2⟩
 exact ⟨a.1, List.mem_range.2 h1, List.mem_map.2 ⟨a.2, List.mem_range.2 h2, rfl⟩⟩
theorem castsQ_nodup (nd : List Nat) : (castsQ nd).Nodup := by
 unfold castsQ List.Nodup
 rw [List.pairwise_flatMap]
 refine ⟨fun i _ => ?_, ?_⟩
 ·rw [List.pairwise_map]
  exact List.Pairwise.imp (fun {a b} h e => by injection e with _ e; omega) (List.pairwise_lt_range (n := nd.getD i 0))
 refine List.Pairwise.imp (fun {i j} hij x hx y hy e => ?_) (List.pairwise_lt_range (n := nd.length))
 obtain ⟨n, _, rfl⟩ := List.mem_map.1 hx
 obtain ⟨m, _, rfl⟩ := List.mem_map.1 hy
 injection e with e _
 omega
theorem mouldsQ_set {nd : List Nat} {N : Nat} (h : nd.length ≤ N) : IsSet N (mouldsQ nd) := by
 refine ⟨?_, fun x hx => ?_⟩
 ·unfold mouldsQ
  rw [List.pairwise_map]
  exact List.Pairwise.imp (fun {a b} h => by omega) ((List.pairwise_lt_range (n := nd.length)).filter _)
 obtain ⟨i, hi, rfl⟩ := List.mem_map.1 hx
 have := List.mem_range.1 (List.mem_filter.1 hi).1
 omega
theorem made7_up {a w k : Int} (h1 : 1 ≤ a ∧ a ≤ 20000) (h2 : 0 ≤ w ∧ w ≤ 20) (h4 : 0 ≤ k ∧ k ≤ 100) {c d : Nat} (hcd : c ≤ d) (hd : d ≤ 8) : made7 a w c k ≤ made7 a w d k := by
 induction d with
 | zero =>
  obtain rfl : c = 0 := by omega
  exact Int.le_refl _
 | succ d ih =>
  by_cases e : c = d + 1
  ·subst e; exact Int.le_refl _
  have h := made7_mono (a := a) (w := w) (c := (d : Int)) (k := k) h1 h2 (by omega) h4
  exact Int.le_trans (ih (by omega) (by omega)) h
theorem known_nil {s : Shop} (hk : OkS s) : known7 s [] ≠ [] := List.ne_nil_of_mem (truth_known hk (any_truth hk) (fun y hy => by cases hy))
theorem mades_at {s : Shop} (hk : OkS s) {m : Nat} (hm : m < s.moulds.length) {c d : Nat} (hcd : c ≤ d) (hd : d ≤ 8) :
  (size7 s [] m c).1 ≤ (size7 s [] m d).1 ∧ (size7 s [] m c).2 ≤ (size7 s [] m d).2 := by
 obtain ⟨p1, p2, p3⟩ := size_at (l := []) (c := (c : Int)) hm (known_nil hk)
 obtain ⟨q1, q2, q3⟩ := size_at (l := []) (c := (d : Int)) hm (known_nil hk)
 have bd : ∀ k ∈ known7 s [], ∀ p ∈ twosC s [] m k, (1 ≤ p.1 ∧ p.1 ≤ 20000) ∧ (0 ≤ p.2 ∧ p.2 ≤ 20) ∧ 0 ≤ k ∧ k ≤ 100 := by
  intro k hk' p hp
  have h1 := (twos_mem hk hm).1 hp
  obtain ⟨b1, b2, _⟩ := mould_bd hk hm
  obtain ⟨g1, g2, g3, g4⟩ := h1.1
  have h2 := (known_iff.1 hk').1
  have h3 := hk.shrink
  exact ⟨⟨by omega, by omega⟩, ⟨by omega, by omega⟩, by omega, by omega⟩
 constructor
 ·obtain ⟨k, hk', p, hp, e⟩ := made_mem.1 q1
  obtain ⟨b1, b2, b3⟩ := bd k hk' p hp
  have h1 := (p3 _ (made_mem.2 ⟨k, hk', p, hp, rfl⟩)).1
  have h2 := made7_up b1 b2 b3 hcd hd
  omega
 obtain ⟨k, hk', p, hp, e⟩ := made_mem.1 p2
 obtain ⟨b1, b2, b3⟩ := bd k hk' p hp
 have h1 := (q3 _ (made_mem.2 ⟨k, hk', p, hp, rfl⟩)).2
 have h2 := made7_up b1 b2 b3 hcd hd
 omega
theorem allZ_fit {s : Shop} (hk : OkS s) {m c : Nat} (hm : m < s.moulds.length) (hc : c < castsN s m) : (m, c) ∈ fit7 s [] (allZ s m).1 (allZ s m).2 := by
 have hcs := castsN_bd hk hm
 rw [fit7_iff hk hm hc]
 unfold allZ
 have e : ((castsN s m : Int) - 1) = ((castsN s m - 1 : Nat) : Int) := by omega
 rw [e]
 have h1 := mades_at hk hm (c := 0) (d := c) (by omega) (by omega)
 have h2 := mades_at hk hm (c := c) (d := castsN s m - 1) (by omega) (by omega)
 exact ⟨h1.1, h2.2⟩
theorem allZ_ends {s : Shop} (hk : OkS s) {m : Nat} (hm : m < s.moulds.length) : 0 ≤ (allZ s m).1 ∧ (allZ s m).1 ≤ (allZ s m).2 := by
 have hcs := castsN_bd hk hm
 have e : ((castsN s m : Int) - 1) = ((castsN s m - 1 : Nat) : Int) := by omega
 unfold allZ
 rw [e]
 have h2 := mades_at hk hm (c := 0) (d := castsN s m - 1) (by omega) (by omega)
 obtain ⟨p1, p2, p3⟩ := size_at (l := []) (c := ((0 : Nat) : Int)) hm (known_nil hk)
 have h3 := p3 _ p1
 obtain ⟨k, hk', p, hp, e2⟩ := made_mem.1 p1
 have g1 := (twos_mem hk hm).1 hp
 obtain ⟨b1, b2, _⟩ := mould_bd hk hm
 obtain ⟨f1, f2, f3, f4⟩ := g1.1
 have f5 := (known_iff.1 hk').1
 have f6 := hk.shrink
 have h4 := made7_bd (a := p.1) (w := p.2) (k := k) (c := ((0 : Nat) : Int)) (by omega) (by omega) (by omega) (by omega)
 dsimp only
 have h5 := h4.2.2.2.2
 have h6 := h2.2
 have h7 := h3.2
 simp only [Int.natCast_zero] at *
 omega
theorem moulds_plan {s : Shop} (he : (check7 s).2.2 = 0) {nd : List Nat} (hl : nd.length ≤ s.moulds.length) (hc : ∀ i, i < nd.length → nd.getD i 0 ≤ castsN s i ∧ (allZ s i).2 ≤ 20000) (h1 : 1 ≤ (piecesQ s nd).length) (h6 : (piecesQ s nd).length ≤ 6) :
  ∃ P u, planR s [] (piecesQ s nd) = (P, u, 0) ∧ P.length = (piecesQ s nd).length ∧ u.length ≤ (mouldsQ nd).length ∧ P.Nodup ∧ ∀ a ∈ P, a.1 < s.moulds.length ∧ a.2 < castsN s a.1 := by
 have hk := okS_of he
 have hql : (piecesQ s nd).length = (castsQ nd).length := by simp [piecesQ]
 have hqg : ∀ j, j < (piecesQ s nd).length → ∃ a, (castsQ nd)[j]? = some a ∧ (piecesQ s nd)[j]? = some (allZ s a.1) ∧ a.1 < s.moulds.length ∧ a.2 < castsN s a.1 ∧ a.1 < nd.length ∧ 0 < nd.getD a.1 0 := by
  intro j hj
  obtain ⟨a, ha⟩ : ∃ a, (castsQ nd)[j]? = some a := ⟨_, List.getElem?_eq_getElem (by omega)⟩
  have hm := castsQ_mem.1 (List.mem_of_getElem? ha)
  have h := hc a.1 hm.1
  exact ⟨a, ha, by unfold piecesQ; rw [List.getElem?_map, ha]; rfl, by omega, by omega, hm.1, by omega⟩
 have h0 : orderE s [] (piecesQ s nd) = 0 := by
  refine order_of (by rw [seen_ok he (by simp) (fun y hy => by cases hy) (k := 0) (tw := [])]) (known_nil hk) h1 h6 (fun j hj => ?_)
  obtain ⟨a, _, ha2, ha3, _, ha4, _⟩ := hqg j hj
  have h2 := allZ_ends hk ha3
  have h3 := (hc a.1 ha4).2
  unfold spanE7
  rw [getD_of ha2]
  unfold rangeE
  dsimp only
  rw [if_neg (by simp [inB]; omega), if_neg (by omega)]
 have hS : CanS (allL s [] (piecesQ s nd)) (mouldsQ nd) := by
  refine ⟨fun j => (castsQ nd).getD j (0, 0), fun j hj _ => ?_, fun i j hi hj _ _ e => ?_⟩
  ·rw [allL_len] at hj
   obtain ⟨a, ha, ha2, ha3, ha4, ha5, ha6⟩ := hqg j hj
   dsimp only
   rw [getD_of ha, allL_get, if_pos hj, getD_of ha2]
   refine ⟨allZ_fit hk ha3 ha4, ?_, by simp⟩
   unfold hasN mouldsQ
   rw [decide_eq_true_iff]
   exact List.mem_map.2 ⟨a.1, List.mem_filter.2 ⟨List.mem_range.2 ha5, decide_eq_true ha6⟩, rfl⟩
  rw [allL_len] at hi hj
  obtain ⟨a, ha, _⟩ := hqg i hi
  obtain ⟨b, hb, _⟩ := hqg j hj
  dsimp only at e
  rw [getD_of ha, getD_of hb] at e
  subst e
  exact (List.getElem?_inj (of_getq' ha) (castsQ_nodup nd)).1 (ha.trans hb.symm)
 have hsm := sets_mem.2 (set_subO (mouldsQ_set hl))
 have hpd := planned h0
 rcases plan_cases h0 with ⟨A, u, B, e1, e2, e3, e4⟩ | ⟨e1, _⟩
 ·rcases hpd with hpd | ⟨P, u2, hpd, g1, g2, g3, g4, g5⟩
  ·rw [e4] at hpd
   injection hpd with _ hpd
   injection hpd with _ hpd
   cases hpd
  have hu : u2 = u := by
   rw [hpd] at e4
   injection e4 with _ e4
   injection e4
  refine ⟨P, u2, hpd, g1, ?_, g2, fun a ha => ?_⟩
  ·rw [hu]
   refine Classical.byContradiction fun hn => ?_
   exact e2 _ (bef_inO (by have := hk.nm.2; omega) e1 hsm (.inl (by omega))) hS
  obtain ⟨j, hj⟩ := List.mem_iff_getElem?.1 ha
  have h3 := (g3 j a hj).1
  have hjl : j < (piecesQ s nd).length := by rw [← g1]; exact of_getq' hj
  have := all_in (s := s) (l := []) (p := piecesQ s nd) (j := j) (a := a) (by rw [allL_get, if_pos hjl]; exact h3)
  obtain ⟨q1, q2⟩ := places_mem.1 this
  exact ⟨q1, by have := castsN_bd hk q1; omega⟩
 exact absurd hS (e1 _ hsm)
end Go.Proofs.YtkpbchnggdnmaaaGreat
