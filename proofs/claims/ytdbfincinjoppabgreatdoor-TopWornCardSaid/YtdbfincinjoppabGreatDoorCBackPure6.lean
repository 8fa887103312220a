/- A part of the proof that TopWorn always answers true. -/
import Derived.Shelf.Abstract
import Derived.Test.YtdbfincinjoppabGreatDoorCBackPure
import Derived.Test.YtdbfincinjoppabGreatDoorCBackPure4
import Derived.Test.YtdbfincinjoppabGreatDoorCMaps2
set_option linter.all false
namespace Go.Proofs.YtdbfincinjoppabGreatDoor
def bitOf (a : Int) (i : Nat) : Nat := if 0 < a then 2 ^ i else 0
def setN (t : List Int) : Nat := bitOf (t.getD 0 0) 0 + bitOf (t.getD 1 0) 1 + bitOf (t.getD 2 0) 2 + bitOf (t.getD 3 0) 3 + bitOf (t.getD 4 0) 4
theorem setB_bit : ∀ b0 b1 b2 b3 b4 : Bool, ∀ i : Fin 5, ((if b0 then 1 else 0) + (if b1 then 2 else 0) + (if b2 then 4 else 0) + (if b3 then 8 else 0) + (if b4 then 16 else 0) : Nat).testBit i = [b0, b1, b2, b3, b4].getD i false := by decide +kernel
theorem setN_bools (t : List Int) : setN t = ((if decide (0 < t.getD 0 0) then 1 else 0) + (if decide (0 < t.getD 1 0) then 2 else 0) + (if decide (0 < t.getD 2 0) then 4 else 0) + (if decide (0 < t.getD 3 0) then 8 else 0) + (if decide (0 < t.getD 4 0) then 16 else 0) : Nat) := by
 unfold setN bitOf; simp
theorem setN_bit (t : List Int) (i : Nat) (hi : i < 5) : (setN t).testBit i = decide (0 < t.getD i 0) := by
 rw [setN_bools, setB_bit _ _ _ _ _ ⟨i, hi⟩]
 match i, hi with
 | 0, _ => rfl
 | 1, _ => rfl
 | 2, _ => rfl
 | 3, _ => rfl
 | 4, _ => rfl
theorem setN_lt (t : List Int) : setN t < 32 := by
 rw [setN_bools]
 repeat' split
 all_goals decide
def listN (s : Nat) : List Int := ((List.range 5).filter fun i => s.testBit i).map fun i : Nat => (i : Int)
def allN (l : List (List Int)) (a : Nat) : Nat := l.foldl (fun a t => a &&& setN t) a
def someN (l : List (List Int)) (a : Nat) : Nat := l.foldl (fun a t => a ||| setN t) a
theorem allN_snoc (l : List (List Int)) (a : Nat) (t : List Int) : allN (l ++ [t]) a = allN l a &&& setN t := by simp [allN]
theorem someN_snoc (l : List (List Int)) (a : Nat) (t : List Int) : someN (l ++ [t]) a = someN l a ||| setN t := by simp [someN]
theorem allN_lt (l : List (List Int)) (a : Nat) (h : a < 32) : allN l a < 32 := by
 induction l generalizing a with
 | nil => exact h
 | cons t l ih => exact ih _ (Nat.lt_of_le_of_lt Nat.and_le_left h)
theorem someN_lt (l : List (List Int)) (a : Nat) (h : a < 32) : someN l a < 32 := by
 induction l generalizing a with
 | nil => exact h
 | cons t l ih => exact ih _ (Nat.or_lt_two_pow (n := 5) h (setN_lt t))
theorem allN_bit (l : List (List Int)) (a i : Nat) : (allN l a).testBit i = (a.testBit i && l.all fun t => (setN t).testBit i) := by
 induction l generalizing a with
 | nil => simp [allN]
 | cons t l ih => rw [allN, List.foldl_cons, ← allN, ih, Nat.testBit_and, List.all_cons, Bool.and_assoc]
theorem someN_bit (l : List (List Int)) (a i : Nat) : (someN l a).testBit i = (a.testBit i || l.any fun t => (setN t).testBit i) := by
 induction l generalizing a with
 | nil => simp [someN]
 | cons t l ih => rw [someN, List.foldl_cons, ← someN, ih, Nat.testBit_or, List.any_cons, Bool.or_assoc]
theorem range5 (P : Nat → Bool) {m : Nat} (hm : m ≤ 5) : (List.range 5).filter (fun i => decide (i < m) && P i) = (List.range m).filter P := by
 rcases m with _ | _ | _ | _ | _ | _ | m
 ·rfl
 ·simp [List.range, List.range.loop, List.filter]
 ·simp [List.range, List.range.loop, List.filter]
 ·simp [List.range, List.range.loop, List.filter]
 ·simp [List.range, List.range.loop, List.filter]
 ·simp [List.range, List.range.loop, List.filter]
 omega
theorem filter_congr5 {P Q : Nat → Bool} (h : ∀ i, i < 5 → P i = Q i) : (List.range 5).filter P = (List.range 5).filter Q :=
 List.filter_congr fun i hi => h i (List.mem_range.1 hi)
theorem listN_must {c : Claim} (h : OkC c) : listN (allN (agreeL c) (2 ^ c.causes.length - 1)) = mustL c := by
 unfold listN mustL
 congr 1
 rw [← range5 _ h.nc]
 refine filter_congr5 fun i hi => ?_
 rw [allN_bit, Nat.testBit_two_pow_sub_one]
 congr 1
 unfold isMust
 congr 1
 funext t
 exact setN_bit t i hi
theorem listN_may {c : Claim} (h : OkC c) : listN (someN (agreeL c) 0) = mayL c := by
 unfold listN mayL
 congr 1
 rw [← range5 _ h.nc]
 refine filter_congr5 fun i hi => ?_
 rw [someN_bit, Nat.zero_testBit, Bool.false_or]
 by_cases him : i < c.causes.length
 ·rw [decide_eq_true him, Bool.true_and]
  unfold isMay
  congr 1
  funext t
  exact setN_bit t i hi
 rw [decide_eq_false him, Bool.false_and, List.any_eq_false]
 intro t ht
 have hl := (allT_ok h (List.mem_filter.1 ht).1).1
 rw [setN_bit t i hi, List.getD_eq_getElem?_getD, List.getElem?_eq_none (by omega)]
 decide
theorem listN_set {t : List Int} (h : t.length ≤ 5) : listN (setN t) = setL t := by
 unfold listN setL
 congr 1
 rw [← range5 _ h]
 refine filter_congr5 fun i hi => ?_
 rw [setN_bit t i hi]
 by_cases him : i < t.length
 ·rw [decide_eq_true him, Bool.true_and]
 rw [decide_eq_false him, Bool.false_and, List.getD_eq_getElem?_getD, List.getElem?_eq_none (by omega)]; rfl
def offOf (c : Claim) (f : Nat) : Int := (c.feats.getD f dFeat).err
def hitB (c : Claim) (f : Nat) (n : Int) (t : List Int) : Bool := decide (len c t f - offOf c f ≤ n) && decide (n ≤ len c t f + offOf c f)
def maskN (c : Claim) (f : Nat) (L : List (List Int)) (n : Int) : Nat := L.foldl (fun m t => if hitB c f n t then m ||| 2 ^ setN t else m) 0
theorem maskN_snoc (c : Claim) (f : Nat) (L : List (List Int)) (n : Int) (t : List Int) : maskN c f (L ++ [t]) n = if hitB c f n t then maskN c f L n ||| 2 ^ setN t else maskN c f L n := by simp [maskN]
theorem mask_lt (c : Claim) (f : Nat) (n : Int) : ∀ (L : List (List Int)) (m : Nat), m < 2 ^ 32 → L.foldl (fun m t => if hitB c f n t then m ||| 2 ^ setN t else m) m < 2 ^ 32 := by
 intro L
 induction L with
 | nil => intro m h; exact h
 | cons t L ih =>
  intro m h
  rw [List.foldl_cons]
  refine ih _ ?_
  split
  ·exact Nat.or_lt_two_pow h (Nat.pow_lt_pow_right (by decide) (setN_lt t))
  exact h
theorem maskN_lt (c : Claim) (f : Nat) (L : List (List Int)) (n : Int) : maskN c f L n < 4294967296 := mask_lt c f n L 0 (by decide)
theorem mask_bit (c : Claim) (f : Nat) (n : Int) (i : Nat) : ∀ (L : List (List Int)) (m : Nat), (L.foldl (fun m t => if hitB c f n t then m ||| 2 ^ setN t else m) m).testBit i = (m.testBit i || L.any fun t => hitB c f n t && decide (setN t = i)) := by
 intro L
 induction L with
 | nil => intro m; simp
 | cons t L ih =>
  intro m
  rw [List.foldl_cons, ih, List.any_cons]
  cases hitB c f n t
  ·simp
  simp [Nat.testBit_or, Nat.testBit_two_pow, Bool.or_assoc]
theorem maskN_bit (c : Claim) (f : Nat) (L : List (List Int)) (n : Int) (i : Nat) : (maskN c f L n).testBit i = L.any fun t => hitB c f n t && decide (setN t = i) := by
 unfold maskN; rw [mask_bit, Nat.zero_testBit, Bool.false_or]
theorem maskN_again {c : Claim} {f : Nat} {L : List (List Int)} {t u : List Int} (hu : u ∈ L) (hl : len c u f = len c t f) (hs : setN u = setN t) (n : Int) : maskN c f (L ++ [t]) n = maskN c f L n := by
 rw [maskN_snoc]
 split
 ·rename_i h
  have hb : (maskN c f L n).testBit (setN t) = true := by
   rw [maskN_bit, List.any_eq_true]
   exact ⟨u, hu, by simp [hs]; unfold hitB at h ⊢; rw [hl]; exact h⟩
  apply Nat.eq_of_testBit_eq
  intro i
  rw [Nat.testBit_or, Nat.testBit_two_pow]
  by_cases hi : setN t = i
  ·subst hi; rw [hb]; simp
  simp [hi]
 rfl
theorem maskN_zero {c : Claim} {f : Nat} {L : List (List Int)} {n : Int} : maskN c f L n = 0 ↔ ∀ t ∈ L, hitB c f n t = false := by
 constructor
 ·intro h t ht
  have := maskN_bit c f L n (setN t)
  rw [h, Nat.zero_testBit] at this
  have h2 := List.any_eq_false.1 this.symm t ht
  simpa using h2
 intro h
 apply Nat.eq_of_testBit_eq
 intro i
 rw [maskN_bit, Nat.zero_testBit, List.any_eq_false]
 intro t ht
 simp [h t ht]
def winL (c : Claim) (f : Nat) (t : List Int) : List Int := (List.range (2 * offOf c f + 1).toNat).map fun j : Nat => len c t f - offOf c f + j
theorem mem_winL {c : Claim} {f : Nat} {t : List Int} {n : Int} (h0 : 0 ≤ offOf c f) : n ∈ winL c f t ↔ hitB c f n t = true := by
 unfold winL hitB
 simp only [List.mem_map, List.mem_range, Bool.and_eq_true, decide_eq_true_eq]
 constructor
 ·rintro ⟨j, hj, rfl⟩; omega
 rintro ⟨h1, h2⟩; exact ⟨(n - (len c t f - offOf c f)).toNat, by omega, by omega⟩
def maxOf (l : List Int) : Int := l.foldl max 0
theorem maxOf_go (l : List Int) : ∀ a : Int, a ≤ l.foldl max a ∧ (∀ x ∈ l, x ≤ l.foldl max a) ∧ (l.foldl max a = a ∨ l.foldl max a ∈ l) := by
 induction l with
 | nil => intro a; exact ⟨Int.le_refl _, (fun x h => by cases h), .inl rfl⟩
 | cons y l ih =>
  intro a
  obtain ⟨h1, h2, h3⟩ := ih (max a y)
  rw [List.foldl_cons]
  refine ⟨by omega, fun x hx => ?_, ?_⟩
  ·rcases List.mem_cons.1 hx with rfl | hx
   ·omega
   exact h2 x hx
  rcases h3 with h3 | h3
  ·rcases Int.le_total y a with h | h
   ·exact .inl (by rw [h3]; omega)
   refine .inr ?_
   rw [h3, show max a y = y by omega]; exact List.mem_cons_self
  exact .inr (List.mem_cons_of_mem _ h3)
def leftR (c : Claim) (L : List (List Int)) (f : Nat) : Int := maxOf ((L.flatMap (winL c f)).map fun n => ((pop 32 (maskN c f L n) : Nat) : Int))
theorem left_of {c : Claim} {L : List (List Int)} {f : Nat} {most : Int} (hf : 0 ≤ offOf c f) (h0 : 0 ≤ most) (h1 : ∀ n, maskN c f L n ≠ 0 → ((pop 32 (maskN c f L n) : Nat) : Int) ≤ most)
  (h2 : most = 0 ∨ ∃ n, maskN c f L n ≠ 0 ∧ most = ((pop 32 (maskN c f L n) : Nat) : Int)) : most = leftR c L f := by
 obtain ⟨g1, g2, g3⟩ := maxOf_go ((L.flatMap (winL c f)).map fun n => ((pop 32 (maskN c f L n) : Nat) : Int)) 0
 have hmem : ∀ n, n ∈ L.flatMap (winL c f) ↔ maskN c f L n ≠ 0 := fun n => by
  rw [List.mem_flatMap, Ne, maskN_zero]
  constructor
  ·rintro ⟨t, ht, hn⟩ h
   rw [mem_winL hf, h t ht] at hn; cases hn
  intro h
  refine Classical.byContradiction fun hc => h fun t ht => ?_
  cases hb : hitB c f n t
  ·rfl
  exact absurd ⟨t, ht, (mem_winL hf).2 hb⟩ hc
 have hle : leftR c L f ≤ most := by
  show List.foldl max 0 _ ≤ most
  rcases g3 with g3 | g3
  ·rw [g3]; exact h0
  obtain ⟨n, hn, he⟩ := List.mem_map.1 g3
  rw [← he]; exact h1 n ((hmem n).1 hn)
 have hge : most ≤ leftR c L f := by
  rcases h2 with h2 | ⟨n, hn, h2⟩
  ·rw [h2]; exact g1
  rw [h2]; exact g2 _ (List.mem_map.2 ⟨n, (hmem n).2 hn, rfl⟩)
 omega
def askF (g : Nat → Int) : Nat → Int × Int
 | 0 => (0, 0)
 | k + 1 => if k = 0 ∨ g k < (askF g k).2 then ((k : Int), g k) else askF g k
def askR (c : Claim) : Int × Int × Int :=
 if err8B c ≠ 0 then (0, 0, err8B c) else ((askF (leftR c (agreeL c)) c.feats.length).1, (askF (leftR c (agreeL c)) c.feats.length).2, 0)
open Go.RowKit Go.Shelf
theorem outside1_any (lo hi x : Int) (B1 B2 : Nat) (w : World) (h1 : w.cell? ⟨B1, 0, none⟩ = some (.int .i64 lo)) (h2 : w.cell? ⟨B2, 0, none⟩ = some (.int .i64 hi)) :
  Calls Tryz.prog 106 #[.int .i64 x, .pointer (some ⟨B1, 0, none⟩), .pointer (some ⟨B2, 0, none⟩)] w fun e w' => e = .returned (.bool (outB lo hi x)) ∧ w = w' := by
 have Hb : Hid (outB lo hi x = (decide (x < lo) || decide (hi < x))) := rfl
 by_cases c1 : x < lo
 ·go_enter Tryz.func106, Tryz.ntmps106
  go_wp2
  go_ret
  exact ⟨ret_bool (by rw [Hb.out, decide_eq_true c1]; rfl), rfl⟩
 by_cases c2 : hi < x
 ·go_enter Tryz.func106, Tryz.ntmps106
  go_wp2
  go_ret
  exact ⟨ret_bool (by rw [Hb.out, decide_eq_true c2]; simp), rfl⟩
 go_enter Tryz.func106, Tryz.ntmps106
 go_wp2
 go_ret
 exact ⟨ret_bool (by rw [Hb.out, decide_eq_false (by omega), decide_eq_false (by omega)]; rfl), rfl⟩
theorem eg_outside1 : Enters Tryz.prog 106 := enters_of Tryz.func106 (by kernel_rfl) rfl
theorem outside_any {S : Foot} {A : Option Addr} {n c : Nat} {xs : List Int} (lo hi : Int) (w : World) (h : Ints S w A n xs) :
  Calls Tryz.prog 68 #[.int .i64 lo, .int .i64 hi, .slice A n c] w fun e w' => e = .returned (.bool (xs.any (outB lo hi))) ∧ Below w.heap.size w w' := by
 have H1 : Ints S ((w.alloc (.cells #[.int .i64 lo] 3)).alloc (.cells #[.int .i64 hi] 3)) A n xs := (h.keep IntR.good (Keeps.alloc _ _)).keep IntR.good (Keeps.alloc _ _)
 have EG := Lib.hid eg_outside1
 go_enter Tryz.func68, Tryz.ntmps68
 go_wp2_with (go_at_call 99; refine (containsI_any (outB lo hi) 106 #[.pointer (some ⟨w.heap.size, 0, none⟩), .pointer (some ⟨w.heap.size + 1, 0, none⟩)] EG.out _ H1 (fun x W hb => by rw [app12]; exact outside1_any lo hi x w.heap.size (w.heap.size + 1) W (getc hb (oldc (newc rfl rfl))) (getc hb (newc rfl (by simp))))).mono ?_; rintro e w' ⟨rfl, rfl⟩)
 go_ret
 exact ⟨rfl, bl_alloc (bl_alloc (Below.refl _ _) _ (Nat.le_refl _)) _ (Nat.le_refl _)⟩
open Go.RowKit Go.Shelf
theorem eg_F : Enters Tryz.prog 103 := enters_of Tryz.func103 (by kernel_rfl) rfl
theorem eqF_any (s t : ByteArray) (a z : Int) (g : Nat) (w : World) (hg : w.cell? ⟨g, 0, none⟩ = some (.string t)) :
  Calls Tryz.prog 103 #[.agg #[.string s, .int .i64 a, .int .i64 z], .pointer (some ⟨g, 0, none⟩)] w fun e w' => e = .returned (.bool (decide (s.data.toList = t.data.toList))) ∧ Below w.heap.size w w' := by
 have h1 := oldc (o := .cells #[.string s, .int .i64 a, .int .i64 z] 39) hg
 by_cases hm : s.data.toList = t.data.toList
 ·have hmb := streq_t hm
  have HM := Lib.hid hm
  clear hm
  go_enter Tryz.func103, Tryz.ntmps103
  go_wp2
  go_ret
  exact ⟨ret_bool (by rw [decide_eq_true HM.out]), bl_alloc (Below.refl _ _) _ (Nat.le_refl _)⟩
 have hmb := streq_f hm
 have HM := Lib.hid hm
 clear hm
 go_enter Tryz.func103, Tryz.ntmps103
 go_wp2
 go_ret
 exact ⟨ret_bool (by rw [decide_eq_false HM.out]), bl_alloc (Below.refl _ _) _ (Nat.le_refl _)⟩
set_option maxHeartbeats 1000000 in
theorem indexF_any {S : Foot} {A : Option Addr} {n c : Nat} {xs : List Feat} (t : ByteArray) (g : Nat) (w : World) (h : Feats S w A n xs) (hg : w.cell? ⟨g, 0, none⟩ = some (.string t)) :
  Calls Tryz.prog 127 #[.slice A n c, .func (.func 103) #[] #[.pointer (some ⟨g, 0, none⟩)]] w fun e w' => (∃ r : Int, e = .returned (.int .i64 r) ∧ Hid (decide (0 ≤ r) = decide (t.data.toList ∈ xs.map (·.name)))) ∧ Below w.heap.size w w' := by
 have hle := h.le
 have Hn0 := Lib.hid h.len
 have eg : ∀ args w, (callFunc 103 args).run Tryz.prog w = .ok (.enter 103 args) w := eg_F
 have EG := Lib.hid eg
 clear eg
 go_enter Tryz.func127, Tryz.ntmps127
 go_wp2
 go_loopw [5, 8] (fun _ i wr => ∃ k : Nat, k ≤ n ∧ i = .int .i64 k ∧ Below w.heap.size w wr ∧ Hid (t.data.toList ∉ (xs.take k).map (·.name))) (fun _ i _ => n - (intOf i).toNat)
 case atStart => exact ⟨0, Nat.zero_le _, rfl, Below.refl _ _, by simp [Hid]⟩
 case round =>
  obtain ⟨k, hk, rfl, hB, Hk⟩ := hrel
  by_cases hlt : k < n
  ·have hki : (k : Int) < n := by omega
   have hr := h.keep FeatR.good (Keeps.below hB)
   obtain ⟨b, off, s, a, z, rfl, hb0, hc0, hc1, hc2, hs, Hx⟩ := Feats.get hr hlt
   have hcall := eqF_any s t a z g wr (getc hB hg)
   by_cases hm : s.data.toList = t.data.toList
   ·have HM := Lib.hid hm
    rw [decide_eq_true hm] at hcall
    clear hm
    go_wp2_with (go_at_call 103; refine hcall.mono ?_; rintro e w2 ⟨rfl, hb2⟩)
    go_ret
    refine ⟨⟨_, rfl, ?_⟩, bl_call hB hb2 (Nat.le_refl _)⟩
    have hmem : t.data.toList ∈ xs.map (·.name) := List.mem_map.2 ⟨_, List.mem_of_getElem? Hx.out, HM.out⟩
    rw [Hid, decide_eq_true hmem]; simp
   have HM := Lib.hid hm
   rw [decide_eq_false hm] at hcall
   clear hm
   go_wp2_with (go_at_call 103; refine hcall.mono ?_; rintro e w2 ⟨rfl, hb2⟩)
   go_roundw
   case rel => exact ⟨k + 1, by omega, by go_num, bl_call hB hb2 (Nat.le_refl _), by rw [Hid, take_snoc_get Hx.out, List.map_append, List.mem_append]; exact fun hc => hc.elim Hk.out (fun e => HM.out (List.mem_singleton.1 e).symm)⟩
   case measure => simp [intOf]; omega
  obtain rfl : k = n := by omega
  go_wp2
  go_ret
  refine ⟨⟨_, rfl, ?_⟩, hB⟩
  have := Hk.out
  rw [List.take_of_length_le (by rw [Hn0.out]; exact Nat.le_refl _)] at this
  rw [Hid, decide_eq_false this]; rfl
theorem hasF_any {S : Foot} {A : Option Addr} {n c : Nat} {xs : List Feat} (t : ByteArray) (g : Nat) (w : World) (h : Feats S w A n xs) (hg : w.cell? ⟨g, 0, none⟩ = some (.string t)) :
  Calls Tryz.prog 102 #[.slice A n c, .func (.func 103) #[] #[.pointer (some ⟨g, 0, none⟩)]] w fun e w' => e = .returned (.bool (decide (t.data.toList ∈ xs.map (·.name)))) ∧ Below w.heap.size w w' := by
 have hle := h.le
 go_enter Tryz.func102, Tryz.ntmps102
 go_wp2_with (go_at_call 127; refine (indexF_any t g _ h hg).mono ?_; rintro e w' ⟨⟨r, rfl, Hr⟩, hb⟩)
 go_ret
 exact ⟨ret_bool Hr.out, hb⟩
theorem eg_C : Enters Tryz.prog 105 := enters_of Tryz.func105 (by kernel_rfl) rfl
theorem eqC_any (s t : ByteArray) (lo hi : Int) (P : Option Addr) (np cp : Nat) (g : Nat) (w : World) (hg : w.cell? ⟨g, 0, none⟩ = some (.string t)) :
  Calls Tryz.prog 105 #[.agg #[.string s, .int .i64 lo, .int .i64 hi, .slice P np cp], .pointer (some ⟨g, 0, none⟩)] w fun e w' => e = .returned (.bool (decide (s.data.toList = t.data.toList))) ∧ Below w.heap.size w w' := by
 have h1 := oldc (o := .cells #[.string s, .int .i64 lo, .int .i64 hi, .slice P np cp] 47) hg
 by_cases hm : s.data.toList = t.data.toList
 ·have hmb := streq_t hm
  have HM := Lib.hid hm
  clear hm
  go_enter Tryz.func105, Tryz.ntmps105
  go_wp2
  go_ret
  exact ⟨ret_bool (by rw [decide_eq_true HM.out]), bl_alloc (Below.refl _ _) _ (Nat.le_refl _)⟩
 have hmb := streq_f hm
 have HM := Lib.hid hm
 clear hm
 go_enter Tryz.func105, Tryz.ntmps105
 go_wp2
 go_ret
 exact ⟨ret_bool (by rw [decide_eq_false HM.out]), bl_alloc (Below.refl _ _) _ (Nat.le_refl _)⟩
set_option maxHeartbeats 1000000 in
theorem indexC_any {S : Foot} {A : Option Addr} {n c : Nat} {xs : List Cause} (t : ByteArray) (g : Nat) (w : World) (h : Causes S w A n xs) (hg : w.cell? ⟨g, 0, none⟩ = some (.string t)) :
  Calls Tryz.prog 128 #[.slice A n c, .func (.func 105) #[] #[.pointer (some ⟨g, 0, none⟩)]] w fun e w' => (∃ r : Int, e = .returned (.int .i64 r) ∧ Hid (decide (0 ≤ r) = decide (t.data.toList ∈ xs.map (·.name)))) ∧ Below w.heap.size w w' := by
 have hle := h.le
 have Hn0 := Lib.hid h.len
 have eg : ∀ args w, (callFunc 105 args).run Tryz.prog w = .ok (.enter 105 args) w := eg_C
 have EG := Lib.hid eg
 clear eg
 go_enter Tryz.func128, Tryz.ntmps128
 go_wp2
 go_loopw [5, 8] (fun _ i wr => ∃ k : Nat, k ≤ n ∧ i = .int .i64 k ∧ Below w.heap.size w wr ∧ Hid (t.data.toList ∉ (xs.take k).map (·.name))) (fun _ i _ => n - (intOf i).toNat)
 case atStart => exact ⟨0, Nat.zero_le _, rfl, Below.refl _ _, by simp [Hid]⟩
 case round =>
  obtain ⟨k, hk, rfl, hB, Hk⟩ := hrel
  by_cases hlt : k < n
  ·have hki : (k : Int) < n := by omega
   have hr := h.keep CauseR.good (Keeps.below hB)
   obtain ⟨b, off, s, lo, hi, P, np, cp, per, rfl, hb0, hc0, hc1, hc2, hc3, hs, hper, Hx⟩ := Causes.get hr hlt
   have hcall := eqC_any s t lo hi P np cp g wr (getc hB hg)
   by_cases hm : s.data.toList = t.data.toList
   ·have HM := Lib.hid hm
    rw [decide_eq_true hm] at hcall
    clear hm
    go_wp2_with (go_at_call 105; refine hcall.mono ?_; rintro e w2 ⟨rfl, hb2⟩)
    go_ret
    refine ⟨⟨_, rfl, ?_⟩, bl_call hB hb2 (Nat.le_refl _)⟩
    have hmem : t.data.toList ∈ xs.map (·.name) := List.mem_map.2 ⟨_, List.mem_of_getElem? Hx.out, HM.out⟩
    rw [Hid, decide_eq_true hmem]; simp
   have HM := Lib.hid hm
   rw [decide_eq_false hm] at hcall
   clear hm
   go_wp2_with (go_at_call 105; refine hcall.mono ?_; rintro e w2 ⟨rfl, hb2⟩)
   go_roundw
   case rel => exact ⟨k + 1, by omega, by go_num, bl_call hB hb2 (Nat.le_refl _), by rw [Hid, take_snoc_get Hx.out, List.map_append, List.mem_append]; exact fun hc => hc.elim Hk.out (fun e => HM.out (List.mem_singleton.1 e).symm)⟩
   case measure => simp [intOf]; omega
  obtain rfl : k = n := by omega
  go_wp2
  go_ret
  refine ⟨⟨_, rfl, ?_⟩, hB⟩
  have := Hk.out
  rw [List.take_of_length_le (by rw [Hn0.out]; exact Nat.le_refl _)] at this
  rw [Hid, decide_eq_false this]; rfl
theorem hasC_any {S : Foot} {A : Option Addr} {n c : Nat} {xs : List Cause} (t : ByteArray) (g : Nat) (w : World) (h : Causes S w A n xs) (hg : w.cell? ⟨g, 0, none⟩ = some (.string t)) :
  Calls Tryz.prog 104 #[.slice A n c, .func (.func 105) #[] #[.pointer (some ⟨g, 0, none⟩)]] w fun e w' => e = .returned (.bool (decide (t.data.toList ∈ xs.map (·.name)))) ∧ Below w.heap.size w w' := by
 have hle := h.le
 go_enter Tryz.func104, Tryz.ntmps104
 go_wp2_with (go_at_call 128; refine (indexC_any t g _ h hg).mono ?_; rintro e w' ⟨⟨r, rfl, Hr⟩, hb⟩)
 go_ret
 exact ⟨ret_bool Hr.out, hb⟩
open Go.RowKit Go.Shelf
theorem out1_any {lo hi x : Int} {b : Bool} {g c : Nat} (w : World) (h : w.cell? ⟨g, 0, none⟩ = some (.int .i64 x)) (hb : outB lo hi x = b) :
  Calls Tryz.prog 68 #[.int .i64 lo, .int .i64 hi, .slice (some ⟨g, 0, none⟩) 1 c] w fun e w' => e = .returned (.bool b) ∧ Below w.heap.size w w' :=
 (outside_any lo hi w (Ints.one h)).mono fun _ _ ⟨he, hB⟩ => ⟨by rw [he, ← hb]; simp, hB⟩
theorem out2_any {lo hi x y : Int} {b : Bool} {g c : Nat} (w : World) (h : w.cell? ⟨g, 0, none⟩ = some (.int .i64 x)) (h2 : w.cell? ⟨g, 1, none⟩ = some (.int .i64 y)) (hb : (outB lo hi x || outB lo hi y) = b) :
  Calls Tryz.prog 68 #[.int .i64 lo, .int .i64 hi, .slice (some ⟨g, 0, none⟩) 2 c] w fun e w' => e = .returned (.bool b) ∧ Below w.heap.size w w' :=
 (outside_any lo hi w (Ints.two h h2)).mono fun _ _ ⟨he, hB⟩ => ⟨by rw [he, ← hb]; simp, hB⟩
theorem perBad_out (l : List Int) : perBad l = l.any (outB (-20) 20) := by
 unfold perBad; congr 1; funext n; rw [outB_inB]
theorem featE_back {l : List Feat} {k : Nat} {s : List UInt8} {a z : Int} (h : l[k]? = some ⟨s, a, z⟩) : featE l k = if isName s then (if s ∈ (l.take k).map (·.name) then 5 else if outB 1 100000 a || outB 0 100 z then 7 else 0) else 6 := by
 rw [featE_get h]
 unfold fresh
 dsimp only
 rw [outB_inB, outB_inB]
 cases isName s
 ·simp
 by_cases hm : s ∈ (l.take k).map (·.name)
 ·simp only [if_pos hm]; simp
 simp only [if_neg hm]; simp
theorem causeAt_back {l : List Cause} {k nf : Nat} {s : List UInt8} {lo hi : Int} {per : List Int} (h : l[k]? = some ⟨s, lo, hi, per⟩) : causeAt nf l k = if isName s then (if s ∈ (l.take k).map (·.name) then 5 else if per.length ≠ nf then 3 else if per.any (outB (-20) 20) then 7 else if outB 1 50 lo || outB 1 50 hi then 7 else if outB 0 6 (hi - lo) then 2 else 0) else 6 := by
 rw [causeAt_get h]
 unfold fresh causeE rangeE
 dsimp only
 rw [perBad_out, outB_inB, outB_inB]
 cases isName s
 ·simp
 by_cases hm : s ∈ (l.take k).map (·.name)
 ·simp only [if_pos hm]; simp
 simp only [if_neg hm]
 by_cases hl : per.length = nf
 ·cases hp : per.any (outB (-20) 20)
  ·cases h1 : inB lo 1 50
   ·simp [hl]
   cases h2 : inB hi 1 50
   ·simp [hl]
   by_cases h3 : lo > hi
   ·have : outB 0 6 (hi - lo) = true := by unfold outB; simp; omega
    simp [hl, this, h3]
   by_cases h4 : hi - lo > 6
   ·have : outB 0 6 (hi - lo) = true := by unfold outB; simp; omega
    simp [hl, this, h3, h4]
   have : outB 0 6 (hi - lo) = false := by unfold outB; simp; omega
   simp [hl, this, h3, h4]
  simp [hl]
 simp [hl]
theorem measE_back {l : List Meas} {k nf : Nat} {a z : Int} (h : l[k]? = some ⟨a, z⟩) : measE nf l k = if outB 0 ((nf : Int) - 1) a then 4 else if outB 0 200000 z then 7 else 0 := by
 rw [measE_get h, outB_inB, outB_inB]
end Go.Proofs.YtdbfincinjoppabGreatDoor
