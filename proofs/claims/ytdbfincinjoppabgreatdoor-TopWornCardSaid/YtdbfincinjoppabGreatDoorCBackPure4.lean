/- A part of the proof that TopWorn always answers true. -/
import Derived.Test.YtdbfincinjoppabGreatDoorCBackPure
import Derived.Test.YtdbfincinjoppabGreatDoorCMaps2
set_option linter.all false
namespace Go.Proofs.YtdbfincinjoppabGreatDoor
def exts : List Cause → List (List Int)
 | [] => [[]]
 | x :: l => (vals x).flatMap fun v => (exts l).map (v :: ·)
theorem allGo_exts (l : List Cause) : ∀ out : List (List Int), allGo out l = out.flatMap fun t => (exts l).map (t ++ ·) := by
 induction l with
 | nil => intro out; simp [allGo, exts]
 | cons x l ih =>
  intro out
  rw [allGo, ih]
  induction out with
  | nil => rfl
  | cons t out ih2 =>
   rw [List.flatMap_cons, List.flatMap_append, ih2, List.flatMap_cons]
   congr 1
   rw [exts, List.map_flatMap, List.flatMap_map]
   congr 1
   funext v
   rw [List.map_map]
   congr 1
   funext u
   simp
theorem allT_exts (l : List Cause) : allT l = exts l := by
 rw [allT, allGo_exts]; simp
theorem flat_get {α β : Type} {f : α → List β} {K : Nat} : ∀ {l : List α}, (∀ x ∈ l, (f x).length = K) → ∀ {n j : Nat} {v : α} {x : β}, l[n]? = some v → (f v)[j]? = some x → (l.flatMap f)[n * K + j]? = some x := by
 intro l
 induction l with
 | nil => intro _ n j v x h; simp at h
 | cons y l ih =>
  intro hK n j v x hv hx
  have hjK : j < K := by
   have h1 : j < (f v).length := by
    obtain ⟨h, _⟩ := List.getElem?_eq_some_iff.1 hx; exact h
   rw [hK v (List.mem_of_getElem? hv)] at h1; exact h1
  rw [List.flatMap_cons]
  cases n with
  | zero =>
   simp at hv; subst hv
   rw [Nat.zero_mul, Nat.zero_add, List.getElem?_append_left (by rw [hK _ List.mem_cons_self]; exact hjK)]
   exact hx
  | succ n =>
   simp at hv
   have hy := hK y List.mem_cons_self
   rw [List.getElem?_append_right (by rw [hy, Nat.succ_mul]; omega)]
   rw [hy, show (n + 1) * K + j - K = n * K + j by rw [Nat.succ_mul]; omega]
   exact ih (fun x hx => hK x (List.mem_cons_of_mem _ hx)) hv hx
theorem flat_len {α β : Type} {f : α → List β} {K : Nat} : ∀ {l : List α}, (∀ x ∈ l, (f x).length = K) → (l.flatMap f).length = l.length * K := by
 intro l
 induction l with
 | nil => intro _; simp
 | cons y l ih => intro h; rw [List.flatMap_cons, List.length_append, h y List.mem_cons_self, ih (fun x hx => h x (List.mem_cons_of_mem _ hx)), List.length_cons, Nat.succ_mul]; omega
theorem exts_get {x : Cause} {l : List Cause} {n j : Nat} {v : Int} {u : List Int} (hv : (vals x)[n]? = some v) (hu : (exts l)[j]? = some u) : (exts (x :: l))[n * (exts l).length + j]? = some (v :: u) := by
 rw [exts]
 exact flat_get (fun y _ => by simp) hv (by rw [List.getElem?_map, hu]; rfl)
theorem exts_len (x : Cause) (l : List Cause) : (exts (x :: l)).length = (vals x).length * (exts l).length := by
 rw [exts]; exact flat_len (fun y _ => by simp)
theorem vals_zero (x : Cause) : (vals x)[0]? = some 0 := rfl
theorem vals_succ {x : Cause} {n : Nat} (h : n < (x.hi - x.lo + 1).toNat) : (vals x)[n + 1]? = some (x.lo + n) := by
 unfold vals
 rw [List.getElem?_cons_succ, List.getElem?_map, List.getElem?_range h]; rfl
theorem vals_length (x : Cause) : (vals x).length = (x.hi - x.lo + 1).toNat + 1 := by unfold vals; simp
structure Five (m : Nat) (p ts : List Int) : Prop where
 len : ts.length = 5
 pre : ts.take p.length = p
 rest : ∀ j, m ≤ j → ts.getD j 0 = 0
theorem Five.set {m : Nat} {p ts : List Int} (h : Five m p ts) {i : Nat} (hi : p.length = i) (him : i < m) (hm : m ≤ 5) (v : Int) : Five m (p ++ [v]) (ts.set i v) := by
 have hil : i < ts.length := by rw [h.len]; omega
 refine ⟨by simp [h.len], ?_, fun j hj => ?_⟩
 ·rw [List.length_append, List.length_singleton, hi, List.take_add_one, List.getElem?_set_self hil, List.take_set, List.set_eq_of_length_le (by rw [List.length_take]; omega)]
  have := h.pre
  rw [hi] at this
  rw [this]; rfl
 have hne : i ≠ j := by omega
 rw [List.getD_eq_getElem?_getD, List.getElem?_set_ne hne, ← List.getD_eq_getElem?_getD]
 exact h.rest j hj
theorem Five.less {m : Nat} {p ts : List Int} {v : Int} (h : Five m (p ++ [v]) ts) : Five m p ts := by
 refine ⟨h.len, ?_, h.rest⟩
 have h2 := congrArg (List.take p.length) h.pre
 rw [List.take_take, List.length_append, List.length_singleton, Nat.min_eq_left (Nat.le_succ _), List.take_append_of_le_length (Nat.le_refl _), List.take_of_length_le (Nat.le_refl _)] at h2
 exact h2
theorem Five.getD {m : Nat} {p ts : List Int} (h : Five m p ts) (hp : p.length = m) (j : Nat) : ts.getD j 0 = p.getD j 0 := by
 by_cases hj : j < m
 ·have h2 := congrArg (fun l : List Int => l[j]?) h.pre
  rw [List.getElem?_take, if_pos (by omega)] at h2
  rw [List.getD_eq_getElem?_getD, List.getD_eq_getElem?_getD, h2]
 rw [h.rest j (by omega), List.getD_eq_getElem?_getD, List.getElem?_eq_none (by omega)]; rfl
theorem five_cases {ts : List Int} (h : ts.length = 5) : ∃ a0 a1 a2 a3 a4, ts = [a0, a1, a2, a3, a4] := by
 match ts, h with
 | [a0, a1, a2, a3, a4], _ => exact ⟨a0, a1, a2, a3, a4, rfl⟩
theorem five_take {t : List Int} {m : Nat} (h : t.length = m) (hm : m ≤ 5) : [t.getD 0 0, t.getD 1 0, t.getD 2 0, t.getD 3 0, t.getD 4 0].take m = t := by
 match t, h with
 | [], h => subst h; rfl
 | [a], h => subst h; rfl
 | [a, b], h => subst h; rfl
 | [a, b, c], h => subst h; rfl
 | [a, b, c, d], h => subst h; rfl
 | [a, b, c, d, e], h => subst h; rfl
 | _ :: _ :: _ :: _ :: _ :: _ :: _, h => simp at h; omega
open Go.RowKit
theorem five_get {a0 a1 a2 a3 a4 : Int} {k m : Nat} (hm : m ≤ 5) (hk : k < m) : ∃ y, ([a0, a1, a2, a3, a4].take m)[k]? = some y ∧ (#[Value.int .i64 a0, .int .i64 a1, .int .i64 a2, .int .i64 a3, .int .i64 a4] : Array Value)[k]? = some (.int .i64 y) := by
 rw [List.getElem?_take, if_pos hk]
 rcases k with _ | _ | _ | _ | _ | k
 ·exact ⟨_, rfl, rfl⟩
 ·exact ⟨_, rfl, rfl⟩
 ·exact ⟨_, rfl, rfl⟩
 ·exact ⟨_, rfl, rfl⟩
 ·exact ⟨_, rfl, rfl⟩
 omega
set_option maxRecDepth 100000 in
set_option maxHeartbeats 1000000 in
theorem blength_any {A B C : Option Addr} {n ca m cb q cc : Nat} {c : Claim} {a0 a1 a2 a3 a4 : Int} (f : Nat) (w : World) (h : ClaimAt (fun _ => True) w A n B m C q c) (hok : OkC c) (hT : TruthOk c ([a0, a1, a2, a3, a4].take m)) (hf : f < c.feats.length) :
  Calls Tryz.prog 56 #[.agg #[.slice A n ca, .slice B m cb, .slice C q cc], .agg #[.int .i64 a0, .int .i64 a1, .int .i64 a2, .int .i64 a3, .int .i64 a4], .int .i64 f] w fun e w' => e = .returned (.int .i64 (len c ([a0, a1, a2, a3, a4].take m) f)) ∧ Below w.heap.size w w' := by
 have hnf := hok.nf.2
 have hfn : f < n := by rw [← h.fs.len]; exact hf
 have hfi : (f : Int) < n := by omega
 have hn5 : n ≤ 5 := by rw [← h.fs.len]; exact hnf
 have hm5 : m ≤ 5 := by rw [← h.cs.len]; exact hok.nc
 have Hnt : Hid (([a0, a1, a2, a3, a4].take m).length = m) := by rw [Hid, List.length_take]; simp; omega
 have Hgt := Lib.hid fun (k : Nat) (hk : k < m) => five_get (a0 := a0) (a1 := a1) (a2 := a2) (a3 := a3) (a4 := a4) hm5 hk
 obtain ⟨t, ht⟩ : ∃ t, [a0, a1, a2, a3, a4].take m = t := ⟨_, rfl⟩
 rw [ht] at Hgt Hnt hT ⊢
 clear ht
 obtain ⟨bf, of, sf, nom, er, hAe, hbf, hcf0, hcf1, hcf2, _, HF⟩ := h.fs.get hfn
 have hnom := hok.feat HF.out
 obtain ⟨hn1, hn2, _, _⟩ := hnom
 subst hAe
 go_enter Tryz.func56, Tryz.ntmps56
 go_wp2
 obtain ⟨W0, hW0⟩ : ∃ W0, (w.alloc (.cells #[.slice (some ⟨bf, of, none⟩) n ca, .slice B m cb, .slice C q cc] 95)).alloc (.cells #[.int .i64 a0, .int .i64 a1, .int .i64 a2, .int .i64 a3, .int .i64 a4] 98) = W0 := ⟨_, rfl⟩
 have hB0 : Below w.heap.size w W0 := by rw [← hW0]; exact bl_alloc (bl_alloc (Below.refl _ _) _ (Nat.le_refl _)) _ (Nat.le_refl _)
 have hT0 : Blk W0 (w.heap.size + 1) 98 #[.int .i64 a0, .int .i64 a1, .int .i64 a2, .int .i64 a3, .int .i64 a4] := by rw [← hW0]; exact Blk.new _ _ _ (by simp)
 rw [hW0]
 clear hW0
 have h0 := h.keep (Keeps.below hB0)
 go_loopw [7, 21] (fun v i wr => ∃ (k : Nat) (x : Int), k ≤ m ∧ i = .int .i64 k ∧ v = .int .i64 x ∧ -10000 ≤ x ∧ x ≤ 110000 ∧ Hid (x = lenUpto c t f k) ∧ Below W0.heap.size W0 wr) (fun _ i _ => m - (intOf i).toNat)
 case atStart => exact ⟨0, nom, Nat.zero_le _, rfl, rfl, by omega, by omega, by rw [Hid, lenUpto, getD_of HF.out], Below.refl _ _⟩
 case round =>
  obtain ⟨k, x, hk, rfl, rfl, hx1, hx2, Hx, hB⟩ := hrel
  by_cases hlt : k < m
  ·have hki : (k : Int) < m := by omega
   have hki5 : (k : Int) < 5 := by omega
   obtain ⟨y, hy, hyc⟩ := Hgt.out k hlt
   have Hy := Lib.hid hy
   obtain ⟨bc, oc, sc, lo, hi, P, np, cp, per, rfl, hbc, hcc0, hcc1, hcc2, hcc3, _, hper, Hc⟩ := (h0.keep (Keeps.below hB)).cs.get hlt
   have hcause := hok.cause Hc.out
   have hnp : np = n := by rw [← hper.len, hcause.1, h.fs.len]
   have HNP := Lib.hid hnp
   clear hnp hy
   obtain ⟨bp, op, z, rfl, hcp, Hz⟩ := hper.get (k := f) (by rw [HNP.out]; exact hfn)
   have hfp : (f : Int) < np := by rw [HNP.out]; exact hfi
   have hterm := term_bd hok hT hf (k := k) (by rw [Hnt.out]; exact hlt)
   rw [getD_of Hy.out] at hterm
   have hper' : perOf c f k = z := by unfold perOf; rw [getD_of Hc.out, getD_of Hz.out]
   rw [hper'] at hterm
   have Hstep : Hid (lenUpto c t f (k + 1) = x + y * z) := by rw [Hid, lenUpto, ← Hx.out, getD_of Hy.out, hper']
   obtain ⟨ht1, ht2⟩ := hterm
   have hlen2 := lenUpto_bd hok hT hf (k := k + 1) (by rw [Hnt.out]; exact hlt)
   rw [Hstep.out] at hlen2
   have hbound : -10000 ≤ x + y * z ∧ x + y * z ≤ 110000 := by omega
   obtain ⟨hq1, hq2⟩ := hbound
   have hyt : wr.cell? ⟨w.heap.size + 1, k, none⟩ = some (.int .i64 y) := ((hT0.bl hB).cell k).trans hyc
   have hyl := (hT0.bl hB).lt
   clear hper' hlen2 hcause hyc
   go_wp2
   obtain ⟨Wb, hWb⟩ : ∃ Wb, wr.alloc (.cells #[.string sc, .int .i64 lo, .int .i64 hi, .slice (some ⟨bp, op, none⟩) np cp] 47) = Wb := ⟨_, rfl⟩
   have hBN : Below wr.heap.size wr Wb := by rw [← hWb]; exact bl_alloc (Below.refl _ _) _ (Nat.le_refl _)
   have hgN : Blk Wb wr.heap.size 47 #[.string sc, .int .i64 lo, .int .i64 hi, .slice (some ⟨bp, op, none⟩) np cp] := by rw [← hWb]; exact Blk.new _ _ _ rfl
   rw [hWb]
   clear hWb
   have hg2 : Wb.cell? ⟨wr.heap.size, 3, none⟩ = some (.slice (some ⟨bp, op, none⟩) np cp) := hgN.cell 3
   have hyb := getc hBN hyt
   have hcb := getc hBN hcp
   clear hyt hcp hcc0 hcc1 hcc2 hcc3
   have hB3 : Below W0.heap.size W0 Wb := bl_call hB hBN (Nat.le_refl _)
   go_quiet (fail)
   go_wp2
   go_roundw
   case rel => exact ⟨k + 1, _, by omega, by go_num, rfl, hq1, hq2, Hstep.symm, bl_drewN hB3 _⟩
   case measure => simp [intOf]; omega
  obtain rfl : k = m := by omega
  go_wp2
  go_ret
  exact ⟨ret_int (by rw [Hx.out, len, Hnt.out]), bl_call hB0 hB (by have := hB0.size; omega)⟩
open Go.RowKit
set_option maxHeartbeats 1000000 in
theorem ones_anyB (x : Nat) (w : World) : Calls Tryz.prog 86 #[.int .u64 x] w fun e w' => e = .returned (.int .i64 (onesI x)) ∧ w = w' := by
 go_enter Tryz.func86, Tryz.ntmps86
 go_wp2
 go_ret
 exact ⟨rfl, rfl⟩
theorem lane_and {a b c d : Nat} (ha : a < 256) (hc : c < 256) : (a + 256 * b) &&& (c + 256 * d) = (a &&& c) + 256 * (b &&& d) := by
 apply Nat.eq_of_testBit_eq
 intro i
 have h1 : a + 256 * b = 2 ^ 8 * b + a := by omega
 have h2 : c + 256 * d = 2 ^ 8 * d + c := by omega
 have h4 : a &&& c < 2 ^ 8 := Nat.and_lt_two_pow a hc
 have h3 : (a &&& c) + 256 * (b &&& d) = 2 ^ 8 * (b &&& d) + (a &&& c) := by omega
 rw [h1, h2, h3, Nat.testBit_and, Nat.testBit_two_pow_mul_add _ ha, Nat.testBit_two_pow_mul_add _ hc, Nat.testBit_two_pow_mul_add _ h4]
 split <;> simp [Nat.testBit_and]
theorem bits_and64 (n m : Nat) (hn : n < 18446744073709551616) (hm : m < 18446744073709551616) : bits BinOp.and .u64 (n : Int) (m : Int) = ((n &&& m : Nat) : Int) := by
 have h1 : (BitVec.ofInt 64 (n : Int)).toNat = n := by simp [BitVec.toNat_ofInt]; omega
 have h2 : (BitVec.ofInt 64 (m : Int)).toNat = m := by simp [BitVec.toNat_ofInt]; omega
 have hle : n &&& m ≤ n := Nat.and_le_left
 show IntKind.u64.wrap ((BitVec.ofInt 64 (n : Int) &&& BitVec.ofInt 64 (m : Int)).toNat : Int) = _
 rw [BitVec.toNat_and, h1, h2, IntKind.wrap_u64]
 omega
def v4 (a b c d : Nat) : Nat := a + 256 * (b + 256 * (c + 256 * (d + 256 * 0)))
theorem and_v4 {a b c d m M : Nat} (ha : a < 256) (hb : b < 256) (hc : c < 256) (hd : d < 256) (hm : m < 256) : v4 a b c d &&& (m + 256 * (m + 256 * (m + 256 * (m + 256 * M)))) = v4 (a &&& m) (b &&& m) (c &&& m) (d &&& m) := by
 unfold v4
 rw [lane_and ha hm, lane_and hb hm, lane_and hc hm, lane_and hd hm, Nat.zero_and]
def s1 (a : Nat) : Nat := (a / 2 &&& 85) + (a &&& 85)
def s2 (a : Nat) : Nat := (a / 4 &&& 51) + (a &&& 51)
def s3 (a : Nat) : Nat := (a / 16 + a) &&& 15
theorem m1 : ∀ a, a < 256 → ∀ b, b < 2 → (a / 2 + 128 * b) &&& 85 = (a / 2 &&& 85) := by decide +kernel
theorem m2 : ∀ a, a < 256 → ∀ b, b < 4 → (a / 4 + 64 * b) &&& 51 = (a / 4 &&& 51) := by decide +kernel
theorem m3 : ∀ a, a < 69 → ∀ b, b < 16 → (a / 16 + 16 * b + a) &&& 15 = s3 a := by decide +kernel
theorem s1_lt : ∀ a, a < 256 → s1 a < 171 := by decide +kernel
theorem s2_lt : ∀ a, a < 256 → s2 (s1 a) < 69 := by decide +kernel
def pop : Nat → Nat → Nat
 | 0, _ => 0
 | k + 1, m => m % 2 + pop k (m / 2)
theorem s2_nib : ∀ a, a < 256 → s2 (s1 a) % 16 < 5 := by decide +kernel
theorem s3_pop : ∀ a, a < 256 → s3 (s2 (s1 a)) = pop 8 a := by decide +kernel
theorem pop8_le : ∀ a, a < 256 → pop 8 a ≤ 8 := by decide +kernel
theorem pop_low (j : Nat) : ∀ (a b : Nat), pop j (a + 2 ^ j * b) = pop j a := by
 induction j with
 | zero => intros; rfl
 | succ j ih =>
  intro a b
  rw [pop, pop]
  have h1 : (a + 2 ^ (j + 1) * b) % 2 = a % 2 := by rw [Nat.pow_succ, Nat.mul_comm (2 ^ j) 2, Nat.mul_assoc]; omega
  have h2 : (a + 2 ^ (j + 1) * b) / 2 = a / 2 + 2 ^ j * b := by rw [Nat.pow_succ, Nat.mul_comm (2 ^ j) 2, Nat.mul_assoc]; omega
  rw [h1, h2, ih]
theorem pop_add (j k : Nat) : ∀ m : Nat, pop (j + k) m = pop j m + pop k (m / 2 ^ j) := by
 induction j with
 | zero => intro m; simp [pop]
 | succ j ih =>
  intro m
  rw [show j + 1 + k = (j + k) + 1 by omega, pop, pop, ih, Nat.div_div_eq_div_mul, Nat.pow_succ, Nat.mul_comm 2, Nat.add_assoc]
theorem pop_v4 {a b c d : Nat} (ha : a < 256) (hb : b < 256) (hc : c < 256) (hd : d < 256) : pop 32 (v4 a b c d) = pop 8 a + pop 8 b + pop 8 c + pop 8 d := by
 have e : ∀ (x y k : Nat), x < 256 → pop (8 + k) (x + 256 * y) = pop 8 x + pop k y := fun x y k hx => by
  rw [pop_add, show (256 : Nat) = 2 ^ 8 from rfl, pop_low, show (x + 2 ^ 8 * y) / 2 ^ 8 = y by omega]
 unfold v4
 rw [show (32 : Nat) = 8 + (8 + (8 + 8)) from rfl, e _ _ _ ha, e _ _ _ hb, e _ _ _ hc, show (8 : Nat) = 8 + 0 from rfl, e _ _ _ hd]
 simp [pop]
 omega
theorem st1_v4 {a b c d : Nat} (ha : a < 256) (hb : b < 256) (hc : c < 256) (hd : d < 256) : st1 (v4 a b c d : Nat) = (v4 (s1 a) (s1 b) (s1 c) (s1 d) : Nat) := by
 have hM : (6148914691236517205 : Nat) = 85 + 256 * (85 + 256 * (85 + 256 * (85 + 256 * 1431655765))) := by decide
 have hh : (v4 a b c d : Nat) / 2 = v4 (a / 2 + 128 * (b % 2)) (b / 2 + 128 * (c % 2)) (c / 2 + 128 * (d % 2)) (d / 2 + 128 * 0) := by unfold v4; omega
 have e1 := bits_and64 (v4 a b c d / 2) 6148914691236517205 (by unfold v4; omega) (by omega)
 have e2 := bits_and64 (v4 a b c d) 6148914691236517205 (by unfold v4; omega) (by omega)
 unfold st1
 rw [show ((v4 a b c d : Nat) : Int) / 2 = ((v4 a b c d / 2 : Nat) : Int) by omega, show (6148914691236517205 : Int) = ((6148914691236517205 : Nat) : Int) from rfl, e1, e2, hh, hM,
  and_v4 (by omega) (by omega) (by omega) (by omega) (by omega), and_v4 ha hb hc hd (by omega), m1 a ha _ (by omega), m1 b hb _ (by omega), m1 c hc _ (by omega), m1 d hd _ (by omega), IntKind.wrap_u64]
 have h1 := s1_lt a ha; have h2 := s1_lt b hb; have h3 := s1_lt c hc; have h4 := s1_lt d hd
 unfold s1 at *
 unfold v4
 omega
theorem st2_v4 {a b c d : Nat} (ha : a < 256) (hb : b < 256) (hc : c < 256) (hd : d < 256) (k1 : s2 a < 69) (k2 : s2 b < 69) (k3 : s2 c < 69) (k4 : s2 d < 69) : st2 (v4 a b c d : Nat) = (v4 (s2 a) (s2 b) (s2 c) (s2 d) : Nat) := by
 have hM : (3689348814741910323 : Nat) = 51 + 256 * (51 + 256 * (51 + 256 * (51 + 256 * 858993459))) := by decide
 have hh : (v4 a b c d : Nat) / 4 = v4 (a / 4 + 64 * (b % 4)) (b / 4 + 64 * (c % 4)) (c / 4 + 64 * (d % 4)) (d / 4 + 64 * 0) := by unfold v4; omega
 have e1 := bits_and64 (v4 a b c d / 4) 3689348814741910323 (by unfold v4; omega) (by omega)
 have e2 := bits_and64 (v4 a b c d) 3689348814741910323 (by unfold v4; omega) (by omega)
 unfold st2
 rw [show ((v4 a b c d : Nat) : Int) / 4 = ((v4 a b c d / 4 : Nat) : Int) by omega, show (3689348814741910323 : Int) = ((3689348814741910323 : Nat) : Int) from rfl, e1, e2, hh, hM,
  and_v4 (by omega) (by omega) (by omega) (by omega) (by omega), and_v4 ha hb hc hd (by omega), m2 a ha _ (by omega), m2 b hb _ (by omega), m2 c hc _ (by omega), m2 d hd _ (by omega), IntKind.wrap_u64]
 unfold s2 at *
 unfold v4
 omega
theorem st3_v4 {a b c d : Nat} (ha : a < 69) (hb : b < 69) (hc : c < 69) (hd : d < 69) (na : a % 16 < 5) (nb : b % 16 < 5) (nc : c % 16 < 5) (nd : d % 16 < 5) : st3 (v4 a b c d : Nat) = (v4 (s3 a) (s3 b) (s3 c) (s3 d) : Nat) := by
 have hM : (1085102592571150095 : Nat) = 15 + 256 * (15 + 256 * (15 + 256 * (15 + 256 * 252645135))) := by decide
 have hh : (v4 a b c d : Nat) / 16 + v4 a b c d = v4 (a / 16 + 16 * (b % 16) + a) (b / 16 + 16 * (c % 16) + b) (c / 16 + 16 * (d % 16) + c) (d / 16 + 16 * 0 + d) := by unfold v4; omega
 have e1 := bits_and64 (v4 a b c d / 16 + v4 a b c d) 1085102592571150095 (by unfold v4; omega) (by omega)
 have hw : IntKind.u64.wrap (((v4 a b c d : Nat) : Int) / 16 + (v4 a b c d : Nat)) = ((v4 a b c d / 16 + v4 a b c d : Nat) : Int) := by rw [IntKind.wrap_u64]; unfold v4; omega
 unfold st3
 rw [hw, show (1085102592571150095 : Int) = ((1085102592571150095 : Nat) : Int) from rfl, e1, hh, hM, and_v4 (by omega) (by omega) (by omega) (by omega) (by omega), m3 a ha _ (by omega), m3 b hb _ (by omega), m3 c hc _ (by omega), m3 d hd _ (by omega)]
theorem wrapN (n : Nat) (h : n < 18446744073709551616) : IntKind.u64.wrap (n : Int) = n := by rw [IntKind.wrap_u64]; omega
theorem v4_lt {a b c d : Nat} (ha : a < 256) (hb : b < 256) (hc : c < 256) (hd : d < 256) : v4 a b c d < 4294967296 := by unfold v4; omega
theorem v4_8 {a b c d : Nat} (ha : a < 256) : v4 a b c d / 256 = v4 b c d 0 := by unfold v4; omega
theorem v4_add (a b c d e f g h : Nat) : v4 a b c d + v4 e f g h = v4 (a + e) (b + f) (c + g) (d + h) := by unfold v4; omega
theorem st456 {a b c d : Nat} (ha : a ≤ 8) (hb : b ≤ 8) (hc : c ≤ 8) (hd : d ≤ 8) : ∃ r : Nat, st6 (st5 (st4 (v4 a b c d : Nat))) = ((a + b + c + d) + 256 * r : Nat) ∧ r < 16777216 := by
 have e4 : st4 (v4 a b c d : Nat) = (v4 (a + b) (b + c) (c + d) (d + 0) : Nat) := by
  unfold st4
  rw [show ((v4 a b c d : Nat) : Int) / 256 = ((v4 a b c d / 256 : Nat) : Int) by omega, v4_8 (by omega), ← Int.natCast_add, v4_add]
  exact wrapN _ (Nat.lt_trans (v4_lt (by omega) (by omega) (by omega) (by omega)) (by decide))
 have e5 : st5 (v4 (a + b) (b + c) (c + d) (d + 0) : Nat) = (v4 (a + b + (c + d)) (b + c + (d + 0)) (c + d + 0) (d + 0 + 0) : Nat) := by
  unfold st5
  rw [show ((v4 (a + b) (b + c) (c + d) (d + 0) : Nat) : Int) / 65536 = ((v4 (a + b) (b + c) (c + d) (d + 0) / 256 / 256 : Nat) : Int) by omega, v4_8 (by omega), v4_8 (by omega), ← Int.natCast_add, v4_add]
  exact wrapN _ (Nat.lt_trans (v4_lt (by omega) (by omega) (by omega) (by omega)) (by decide))
 have hl := v4_lt (a := a + b + (c + d)) (b := b + c + (d + 0)) (c := c + d + 0) (d := d + 0 + 0) (by omega) (by omega) (by omega) (by omega)
 have e6 : st6 (v4 (a + b + (c + d)) (b + c + (d + 0)) (c + d + 0) (d + 0 + 0) : Nat) = (v4 (a + b + (c + d)) (b + c + (d + 0)) (c + d + 0) (d + 0 + 0) : Nat) := by
  unfold st6
  generalize v4 (a + b + (c + d)) (b + c + (d + 0)) (c + d + 0) (d + 0 + 0) = x at hl
  rw [IntKind.wrap_u64]; omega
 rw [e4, e5, e6]
 exact ⟨b + c + d + 256 * (c + d + 256 * d), by unfold v4; omega, by omega⟩
theorem bits_and127 : ∀ a, a < 33 → a &&& 127 = a := by decide +kernel
theorem ones_pop (x : Nat) (h : x < 4294967296) : onesI (x : Nat) = (pop 32 x : Nat) := by
 obtain ⟨a, b, c, d, ha, hb, hc, hd, rfl⟩ : ∃ a b c d, a < 256 ∧ b < 256 ∧ c < 256 ∧ d < 256 ∧ x = v4 a b c d :=
  ⟨x % 256, x / 256 % 256, x / 65536 % 256, x / 16777216, by omega, by omega, by omega, by omega, by unfold v4; omega⟩
 unfold onesI
 rw [st1_v4 ha hb hc hd, st2_v4 (by have := s1_lt a ha; omega) (by have := s1_lt b hb; omega) (by have := s1_lt c hc; omega) (by have := s1_lt d hd; omega) (s2_lt a ha) (s2_lt b hb) (s2_lt c hc) (s2_lt d hd),
  st3_v4 (s2_lt a ha) (s2_lt b hb) (s2_lt c hc) (s2_lt d hd) (s2_nib a ha) (s2_nib b hb) (s2_nib c hc) (s2_nib d hd), s3_pop a ha, s3_pop b hb, s3_pop c hc, s3_pop d hd, pop_v4 ha hb hc hd]
 have h1 := pop8_le a ha; have h2 := pop8_le b hb; have h3 := pop8_le c hc; have h4 := pop8_le d hd
 obtain ⟨r, hr, hr2⟩ := st456 h1 h2 h3 h4
 rw [hr]
 have hs : pop 8 a + pop 8 b + pop 8 c + pop 8 d < 33 := by omega
 clear hr h1 h2 h3 h4
 generalize pop 8 a + pop 8 b + pop 8 c + pop 8 d = s at hs ⊢
 have hw : RowKit.wrap64 ((s + 256 * r : Nat) : Int) = ((s + 256 * r : Nat) : Int) := by unfold RowKit.wrap64; omega
 rw [hw]
 have h1 : (BitVec.ofInt 64 ((s + 256 * r : Nat) : Int)).toNat = s + 256 * r := by simp only [BitVec.toNat_ofInt]; omega
 have h2 : (BitVec.ofInt 64 (127 : Int)).toNat = 127 := by decide
 have hl : (s + 256 * r) &&& 127 = s := by
  have := lane_and (a := s) (b := r) (c := 127) (d := 0) (by omega) (by omega)
  simpa [bits_and127 s hs] using this
 show IntKind.i64.wrap ((BitVec.ofInt 64 ((s + 256 * r : Nat) : Int) &&& BitVec.ofInt 64 (127 : Int)).toNat : Int) = _
 rw [BitVec.toNat_and, h1, h2, hl, IntKind.wrap_i64]
 omega
theorem pop_le (k m : Nat) : pop k m ≤ k := by
 induction k generalizing m with
 | zero => exact Nat.le_refl _
 | succ k ih => rw [pop]; have := ih (m / 2); omega
end Go.Proofs.YtdbfincinjoppabGreatDoor
