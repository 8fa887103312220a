/- Walks: the library's count of ones. -/
import Derived.Test.YtkbpmcpmcmnfgaaDoorCPlain
import Derived.Test.YtkbpmcpmcmnfgaaDoorCProg2
set_option linter.unusedVariables false
set_option linter.unusedSimpArgs false
set_option linter.all false
namespace Go.Proofs.YtkbpmcpmcmnfgaaDoor
open Go.RowKit

def st1 (x : Int) : Int := IntKind.u64.wrap (bits BinOp.and IntKind.u64 (x / 2) 6148914691236517205 + bits BinOp.and IntKind.u64 x 6148914691236517205)
def st2 (x : Int) : Int := IntKind.u64.wrap (bits BinOp.and IntKind.u64 (x / 4) 3689348814741910323 + bits BinOp.and IntKind.u64 x 3689348814741910323)
def st3 (x : Int) : Int := bits BinOp.and IntKind.u64 (IntKind.u64.wrap (x / 16 + x)) 1085102592571150095
def st4 (x : Int) : Int := IntKind.u64.wrap (x + x / 256)
def st5 (x : Int) : Int := IntKind.u64.wrap (x + x / 65536)
def st6 (x : Int) : Int := IntKind.u64.wrap (x + x / 4294967296)
/-- what the count of ones reckons -/
def onesI (x : Int) : Int := bits BinOp.and IntKind.i64 (wrap64 (st6 (st5 (st4 (st3 (st2 (st1 x))))))) 127

set_option maxHeartbeats 1000000 in
theorem ones_any (x : Nat) (w : World) : Calls Tryd.prog 101 #[.int .u64 x] w fun e w' => e = .returned (.int .i64 (onesI x)) ∧ w = w' := by
  go_enter Tryd.func101, Tryd.ntmps101
  go_wp2
  go_ret
  exact ⟨rfl, rfl⟩

end Go.Proofs.YtkbpmcpmcmnfgaaDoor

namespace Go.Proofs.YtkbpmcpmcmnfgaaDoor

theorem lane_and {a b c d : Nat} (ha : a < 256) (hc : c < 256) : (a + 256 * b) &&& (c + 256 * d) = (a &&& c) + 256 * (b &&& d) := by
  apply Nat.eq_of_testBit_eq
  intro i
  have h1 : a + 256 * b = 2 ^ 8 * b + a := by omega
  have h2 : c + 256 * d = 2 ^ 8 * d + c := by omega
  have h4 : a &&& c < 2 ^ 8 := Nat.and_lt_two_pow a hc
  have h3 : (a &&& c) + 256 * (b &&& d) = 2 ^ 8 * (b &&& d) + (a &&& c) := by omega
  rw [h1, h2, h3, Nat.testBit_and, Nat.testBit_two_pow_mul_add _ ha, Nat.testBit_two_pow_mul_add _ hc, Nat.testBit_two_pow_mul_add _ h4]
  split <;> simp [Nat.testBit_and]

theorem bits_and64 (n m : Nat) (hn : n < 18446744073709551616) (hm : m < 18446744073709551616) : bits BinOp.and .u64 (n : Int) (m : Int) = ((n &&& m : Nat) : Int) := by
  have h1 : (BitVec.ofInt 64 (n : Int)).toNat = n := by simp [BitVec.toNat_ofInt]; omega
  have h2 : (BitVec.ofInt 64 (m : Int)).toNat = m := by simp [BitVec.toNat_ofInt]; omega
  have hle : n &&& m ≤ n := Nat.and_le_left
  show IntKind.u64.wrap ((BitVec.ofInt 64 (n : Int) &&& BitVec.ofInt 64 (m : Int)).toNat : Int) = _
  rw [BitVec.toNat_and, h1, h2, IntKind.wrap_u64]
  omega

def v4 (a b c d : Nat) : Nat := a + 256 * (b + 256 * (c + 256 * (d + 256 * 0)))
theorem v4_cast (a b c d : Nat) : ((v4 a b c d : Nat) : Int) = a + 256 * b + 65536 * c + 16777216 * d := by unfold v4; omega
theorem and_v4 {a b c d m M : Nat} (ha : a < 256) (hb : b < 256) (hc : c < 256) (hd : d < 256) (hm : m < 256) : v4 a b c d &&& (m + 256 * (m + 256 * (m + 256 * (m + 256 * M)))) = v4 (a &&& m) (b &&& m) (c &&& m) (d &&& m) := by
  unfold v4
  rw [lane_and ha hm, lane_and hb hm, lane_and hc hm, lane_and hd hm, Nat.zero_and]

def s1 (a : Nat) : Nat := (a / 2 &&& 85) + (a &&& 85)
def s2 (a : Nat) : Nat := (a / 4 &&& 51) + (a &&& 51)
def s3 (a : Nat) : Nat := (a / 16 + a) &&& 15
theorem m1 : ∀ a, a < 256 → ∀ b, b < 2 → (a / 2 + 128 * b) &&& 85 = (a / 2 &&& 85) := by decide +kernel
theorem m2 : ∀ a, a < 256 → ∀ b, b < 4 → (a / 4 + 64 * b) &&& 51 = (a / 4 &&& 51) := by decide +kernel
theorem m3 : ∀ a, a < 69 → ∀ b, b < 16 → (a / 16 + 16 * b + a) &&& 15 = s3 a := by decide +kernel
theorem s1_lt : ∀ a, a < 256 → s1 a < 171 := by decide +kernel
theorem s2_lt : ∀ a, a < 256 → s2 (s1 a) < 69 := by decide +kernel
def pop : Nat → Nat → Nat
  | 0, _ => 0
  | k + 1, m => m % 2 + pop k (m / 2)
theorem s2_nib : ∀ a, a < 256 → s2 (s1 a) % 16 < 5 := by decide +kernel
theorem s3_pop : ∀ a, a < 256 → s3 (s2 (s1 a)) = pop 8 a := by decide +kernel
theorem pop8_le : ∀ a, a < 256 → pop 8 a ≤ 8 := by decide +kernel
theorem pop_low (j : Nat) : ∀ (a b : Nat), pop j (a + 2 ^ j * b) = pop j a := by
  induction j with
  | zero => intros; rfl
  | succ j ih =>
    intro a b
    rw [pop, pop]
    have h1 : (a + 2 ^ (j + 1) * b) % 2 = a % 2 := by rw [Nat.pow_succ, Nat.mul_comm (2 ^ j) 2, Nat.mul_assoc]; omega
    have h2 : (a + 2 ^ (j + 1) * b) / 2 = a / 2 + 2 ^ j * b := by rw [Nat.pow_succ, Nat.mul_comm (2 ^ j) 2, Nat.mul_assoc]; omega
    rw [h1, h2, ih]
theorem pop_add (j k : Nat) : ∀ m : Nat, pop (j + k) m = pop j m + pop k (m / 2 ^ j) := by
  induction j with
  | zero => intro m; simp [pop]
  | succ j ih =>
    intro m
    rw [show j + 1 + k = (j + k) + 1 by omega, pop, pop, ih, Nat.div_div_eq_div_mul, Nat.pow_succ, Nat.mul_comm 2, Nat.add_assoc]
theorem pop_v4 {a b c d : Nat} (ha : a < 256) (hb : b < 256) (hc : c < 256) (hd : d < 256) : pop 32 (v4 a b c d) = pop 8 a + pop 8 b + pop 8 c + pop 8 d := by
  have e : ∀ (x y k : Nat), x < 256 → pop (8 + k) (x + 256 * y) = pop 8 x + pop k y := fun x y k hx => by
    rw [pop_add, show (256 : Nat) = 2 ^ 8 from rfl, pop_low, show (x + 2 ^ 8 * y) / 2 ^ 8 = y by omega]
  unfold v4
  rw [show (32 : Nat) = 8 + (8 + (8 + 8)) from rfl, e _ _ _ ha, e _ _ _ hb, e _ _ _ hc, show (8 : Nat) = 8 + 0 from rfl, e _ _ _ hd]
  simp [pop]
  omega

theorem st1_v4 {a b c d : Nat} (ha : a < 256) (hb : b < 256) (hc : c < 256) (hd : d < 256) : st1 (v4 a b c d : Nat) = (v4 (s1 a) (s1 b) (s1 c) (s1 d) : Nat) := by
  have hM : (6148914691236517205 : Nat) = 85 + 256 * (85 + 256 * (85 + 256 * (85 + 256 * 1431655765))) := by decide
  have hh : (v4 a b c d : Nat) / 2 = v4 (a / 2 + 128 * (b % 2)) (b / 2 + 128 * (c % 2)) (c / 2 + 128 * (d % 2)) (d / 2 + 128 * 0) := by unfold v4; omega
  have e1 := bits_and64 (v4 a b c d / 2) 6148914691236517205 (by unfold v4; omega) (by omega)
  have e2 := bits_and64 (v4 a b c d) 6148914691236517205 (by unfold v4; omega) (by omega)
  unfold st1
  rw [show ((v4 a b c d : Nat) : Int) / 2 = ((v4 a b c d / 2 : Nat) : Int) by omega, show (6148914691236517205 : Int) = ((6148914691236517205 : Nat) : Int) from rfl, e1, e2, hh, hM,
    and_v4 (by omega) (by omega) (by omega) (by omega) (by omega), and_v4 ha hb hc hd (by omega), m1 a ha _ (by omega), m1 b hb _ (by omega), m1 c hc _ (by omega), m1 d hd _ (by omega), IntKind.wrap_u64]
  have h1 := s1_lt a ha; have h2 := s1_lt b hb; have h3 := s1_lt c hc; have h4 := s1_lt d hd
  unfold s1 at *
  unfold v4
  omega
theorem st2_v4 {a b c d : Nat} (ha : a < 256) (hb : b < 256) (hc : c < 256) (hd : d < 256) (k1 : s2 a < 69) (k2 : s2 b < 69) (k3 : s2 c < 69) (k4 : s2 d < 69) : st2 (v4 a b c d : Nat) = (v4 (s2 a) (s2 b) (s2 c) (s2 d) : Nat) := by
  have hM : (3689348814741910323 : Nat) = 51 + 256 * (51 + 256 * (51 + 256 * (51 + 256 * 858993459))) := by decide
  have hh : (v4 a b c d : Nat) / 4 = v4 (a / 4 + 64 * (b % 4)) (b / 4 + 64 * (c % 4)) (c / 4 + 64 * (d % 4)) (d / 4 + 64 * 0) := by unfold v4; omega
  have e1 := bits_and64 (v4 a b c d / 4) 3689348814741910323 (by unfold v4; omega) (by omega)
  have e2 := bits_and64 (v4 a b c d) 3689348814741910323 (by unfold v4; omega) (by omega)
  unfold st2
  rw [show ((v4 a b c d : Nat) : Int) / 4 = ((v4 a b c d / 4 : Nat) : Int) by omega, show (3689348814741910323 : Int) = ((3689348814741910323 : Nat) : Int) from rfl, e1, e2, hh, hM,
    and_v4 (by omega) (by omega) (by omega) (by omega) (by omega), and_v4 ha hb hc hd (by omega), m2 a ha _ (by omega), m2 b hb _ (by omega), m2 c hc _ (by omega), m2 d hd _ (by omega), IntKind.wrap_u64]
  unfold s2 at *
  unfold v4
  omega
theorem st3_v4 {a b c d : Nat} (ha : a < 69) (hb : b < 69) (hc : c < 69) (hd : d < 69) (na : a % 16 < 5) (nb : b % 16 < 5) (nc : c % 16 < 5) (nd : d % 16 < 5) : st3 (v4 a b c d : Nat) = (v4 (s3 a) (s3 b) (s3 c) (s3 d) : Nat) := by
  have hM : (1085102592571150095 : Nat) = 15 + 256 * (15 + 256 * (15 + 256 * (15 + 256 * 252645135))) := by decide
  have hh : (v4 a b c d : Nat) / 16 + v4 a b c d = v4 (a / 16 + 16 * (b % 16) + a) (b / 16 + 16 * (c % 16) + b) (c / 16 + 16 * (d % 16) + c) (d / 16 + 16 * 0 + d) := by unfold v4; omega
  have e1 := bits_and64 (v4 a b c d / 16 + v4 a b c d) 1085102592571150095 (by unfold v4; omega) (by omega)
  have hw : IntKind.u64.wrap (((v4 a b c d : Nat) : Int) / 16 + (v4 a b c d : Nat)) = ((v4 a b c d / 16 + v4 a b c d : Nat) : Int) := by rw [IntKind.wrap_u64]; unfold v4; omega
  unfold st3
  rw [hw, show (1085102592571150095 : Int) = ((1085102592571150095 : Nat) : Int) from rfl, e1, hh, hM, and_v4 (by omega) (by omega) (by omega) (by omega) (by omega), m3 a ha _ (by omega), m3 b hb _ (by omega), m3 c hc _ (by omega), m3 d hd _ (by omega)]
theorem wrapN (n : Nat) (h : n < 18446744073709551616) : IntKind.u64.wrap (n : Int) = n := by rw [IntKind.wrap_u64]; omega
theorem v4_lt {a b c d : Nat} (ha : a < 256) (hb : b < 256) (hc : c < 256) (hd : d < 256) : v4 a b c d < 4294967296 := by unfold v4; omega
theorem v4_8 {a b c d : Nat} (ha : a < 256) : v4 a b c d / 256 = v4 b c d 0 := by unfold v4; omega
theorem v4_add (a b c d e f g h : Nat) : v4 a b c d + v4 e f g h = v4 (a + e) (b + f) (c + g) (d + h) := by unfold v4; omega
theorem st456 {a b c d : Nat} (ha : a ≤ 8) (hb : b ≤ 8) (hc : c ≤ 8) (hd : d ≤ 8) : ∃ r : Nat, st6 (st5 (st4 (v4 a b c d : Nat))) = ((a + b + c + d) + 256 * r : Nat) ∧ r < 16777216 := by
  have e4 : st4 (v4 a b c d : Nat) = (v4 (a + b) (b + c) (c + d) (d + 0) : Nat) := by
    unfold st4
    rw [show ((v4 a b c d : Nat) : Int) / 256 = ((v4 a b c d / 256 : Nat) : Int) by omega, v4_8 (by omega), ← Int.natCast_add, v4_add]
    exact wrapN _ (Nat.lt_trans (v4_lt (by omega) (by omega) (by omega) (by omega)) (by decide))
  have e5 : st5 (v4 (a + b) (b + c) (c + d) (d + 0) : Nat) = (v4 (a + b + (c + d)) (b + c + (d + 0)) (c + d + 0) (d + 0 + 0) : Nat) := by
    unfold st5
    rw [show ((v4 (a + b) (b + c) (c + d) (d + 0) : Nat) : Int) / 65536 = ((v4 (a + b) (b + c) (c + d) (d + 0) / 256 / 256 : Nat) : Int) by omega, v4_8 (by omega), v4_8 (by omega), ← Int.natCast_add, v4_add]
    exact wrapN _ (Nat.lt_trans (v4_lt (by omega) (by omega) (by omega) (by omega)) (by decide))
  have hl := v4_lt (a := a + b + (c + d)) (b := b + c + (d + 0)) (c := c + d + 0) (d := d + 0 + 0) (by omega) (by omega) (by omega) (by omega)
  have e6 : st6 (v4 (a + b + (c + d)) (b + c + (d + 0)) (c + d + 0) (d + 0 + 0) : Nat) = (v4 (a + b + (c + d)) (b + c + (d + 0)) (c + d + 0) (d + 0 + 0) : Nat) := by
    unfold st6
    generalize v4 (a + b + (c + d)) (b + c + (d + 0)) (c + d + 0) (d + 0 + 0) = x at hl
    rw [IntKind.wrap_u64]; omega
  rw [e4, e5, e6]
  exact ⟨b + c + d + 256 * (c + d + 256 * d), by unfold v4; omega, by omega⟩
theorem bits_and127 : ∀ a, a < 33 → a &&& 127 = a := by decide +kernel
theorem ones_pop (x : Nat) (h : x < 4294967296) : onesI (x : Nat) = (pop 32 x : Nat) := by
  obtain ⟨a, b, c, d, ha, hb, hc, hd, rfl⟩ : ∃ a b c d, a < 256 ∧ b < 256 ∧ c < 256 ∧ d < 256 ∧ x = v4 a b c d :=
    ⟨x % 256, x / 256 % 256, x / 65536 % 256, x / 16777216, by omega, by omega, by omega, by omega, by unfold v4; omega⟩
  unfold onesI
  rw [st1_v4 ha hb hc hd, st2_v4 (by have := s1_lt a ha; omega) (by have := s1_lt b hb; omega) (by have := s1_lt c hc; omega) (by have := s1_lt d hd; omega) (s2_lt a ha) (s2_lt b hb) (s2_lt c hc) (s2_lt d hd),
    st3_v4 (s2_lt a ha) (s2_lt b hb) (s2_lt c hc) (s2_lt d hd) (s2_nib a ha) (s2_nib b hb) (s2_nib c hc) (s2_nib d hd), s3_pop a ha, s3_pop b hb, s3_pop c hc, s3_pop d hd, pop_v4 ha hb hc hd]
  have h1 := pop8_le a ha; have h2 := pop8_le b hb; have h3 := pop8_le c hc; have h4 := pop8_le d hd
  obtain ⟨r, hr, hr2⟩ := st456 h1 h2 h3 h4
  rw [hr]
  have hs : pop 8 a + pop 8 b + pop 8 c + pop 8 d < 33 := by omega
  clear hr h1 h2 h3 h4
  generalize pop 8 a + pop 8 b + pop 8 c + pop 8 d = s at hs ⊢
  have hw : RowKit.wrap64 ((s + 256 * r : Nat) : Int) = ((s + 256 * r : Nat) : Int) := by unfold RowKit.wrap64; omega
  rw [hw]
  have h1 : (BitVec.ofInt 64 ((s + 256 * r : Nat) : Int)).toNat = s + 256 * r := by simp only [BitVec.toNat_ofInt]; omega
  have h2 : (BitVec.ofInt 64 (127 : Int)).toNat = 127 := by decide
  have hl : (s + 256 * r) &&& 127 = s := by
    have := lane_and (a := s) (b := r) (c := 127) (d := 0) (by omega) (by omega)
    simpa [bits_and127 s hs] using this
  show IntKind.i64.wrap ((BitVec.ofInt 64 ((s + 256 * r : Nat) : Int) &&& BitVec.ofInt 64 (127 : Int)).toNat : Int) = _
  rw [BitVec.toNat_and, h1, h2, hl, IntKind.wrap_i64]
  omega
theorem pop_le (k m : Nat) : pop k m ≤ k := by
  induction k generalizing m with
  | zero => exact Nat.le_refl _
  | succ k ih => rw [pop]; have := ih (m / 2); omega

end Go.Proofs.YtkbpmcpmcmnfgaaDoor

namespace Go.Proofs.YtkbpmcpmcmnfgaaDoor

def offOf (c : Claim) (f : Nat) : Int := (c.feats.getD f dFeat).err
def hitB (c : Claim) (f : Nat) (n : Int) (t : List Int) : Bool := decide (len c t f - offOf c f ≤ n) && decide (n ≤ len c t f + offOf c f)
/-- the sets of the truths in which a number can be shown, as bits -/
def maskN (c : Claim) (f : Nat) (L : List (List Int)) (n : Int) : Nat := L.foldl (fun m t => if hitB c f n t then m ||| 2 ^ setN t else m) 0
theorem maskN_snoc (c : Claim) (f : Nat) (L : List (List Int)) (n : Int) (t : List Int) : maskN c f (L ++ [t]) n = if hitB c f n t then maskN c f L n ||| 2 ^ setN t else maskN c f L n := by simp [maskN]
theorem mask_lt (c : Claim) (f : Nat) (n : Int) : ∀ (L : List (List Int)) (m : Nat), m < 2 ^ 32 → L.foldl (fun m t => if hitB c f n t then m ||| 2 ^ setN t else m) m < 2 ^ 32 := by
  intro L
  induction L with
  | nil => intro m h; exact h
  | cons t L ih =>
    intro m h
    rw [List.foldl_cons]
    refine ih _ ?_
    split
    · exact Nat.or_lt_two_pow h (Nat.pow_lt_pow_right (by decide) (setN_lt t))
    · exact h
theorem maskN_lt (c : Claim) (f : Nat) (L : List (List Int)) (n : Int) : maskN c f L n < 4294967296 := mask_lt c f n L 0 (by decide)
theorem mask_bit (c : Claim) (f : Nat) (n : Int) (i : Nat) : ∀ (L : List (List Int)) (m : Nat), (L.foldl (fun m t => if hitB c f n t then m ||| 2 ^ setN t else m) m).testBit i = (m.testBit i || L.any fun t => hitB c f n t && decide (setN t = i)) := by
  intro L
  induction L with
  | nil => intro m; simp
  | cons t L ih =>
    intro m
    rw [List.foldl_cons, ih, List.any_cons]
    cases hitB c f n t
    · simp
    · simp [Nat.testBit_or, Nat.testBit_two_pow, Bool.or_assoc]
theorem maskN_bit (c : Claim) (f : Nat) (L : List (List Int)) (n : Int) (i : Nat) : (maskN c f L n).testBit i = L.any fun t => hitB c f n t && decide (setN t = i) := by
  unfold maskN; rw [mask_bit, Nat.zero_testBit, Bool.false_or]
/-- a truth that was met before adds nothing -/
theorem maskN_again {c : Claim} {f : Nat} {L : List (List Int)} {t u : List Int} (hu : u ∈ L) (hl : len c u f = len c t f) (hs : setN u = setN t) (n : Int) : maskN c f (L ++ [t]) n = maskN c f L n := by
  rw [maskN_snoc]
  split
  · rename_i h
    have hb : (maskN c f L n).testBit (setN t) = true := by
      rw [maskN_bit, List.any_eq_true]
      exact ⟨u, hu, by simp [hs]; unfold hitB at h ⊢; rw [hl]; exact h⟩
    apply Nat.eq_of_testBit_eq
    intro i
    rw [Nat.testBit_or, Nat.testBit_two_pow]
    by_cases hi : setN t = i
    · subst hi; rw [hb]; simp
    · simp [hi]
  · rfl
theorem maskN_zero {c : Claim} {f : Nat} {L : List (List Int)} {n : Int} : maskN c f L n = 0 ↔ ∀ t ∈ L, hitB c f n t = false := by
  constructor
  · intro h t ht
    have := maskN_bit c f L n (setN t)
    rw [h, Nat.zero_testBit] at this
    have h2 := List.any_eq_false.1 this.symm t ht
    simpa using h2
  · intro h
    apply Nat.eq_of_testBit_eq
    intro i
    rw [maskN_bit, Nat.zero_testBit, List.any_eq_false]
    intro t ht
    simp [h t ht]

def winL (c : Claim) (f : Nat) (t : List Int) : List Int := (List.range (2 * offOf c f + 1).toNat).map fun j : Nat => len c t f - offOf c f + j
theorem mem_winL {c : Claim} {f : Nat} {t : List Int} {n : Int} (h0 : 0 ≤ offOf c f) : n ∈ winL c f t ↔ hitB c f n t = true := by
  unfold winL hitB
  simp only [List.mem_map, List.mem_range, Bool.and_eq_true, decide_eq_true_eq]
  constructor
  · rintro ⟨j, hj, rfl⟩; omega
  · rintro ⟨h1, h2⟩; exact ⟨(n - (len c t f - offOf c f)).toNat, by omega, by omega⟩
def maxOf (l : List Int) : Int := l.foldl max 0
theorem maxOf_go (l : List Int) : ∀ a : Int, a ≤ l.foldl max a ∧ (∀ x ∈ l, x ≤ l.foldl max a) ∧ (l.foldl max a = a ∨ l.foldl max a ∈ l) := by
  induction l with
  | nil => intro a; exact ⟨Int.le_refl _, (fun x h => by cases h), .inl rfl⟩
  | cons y l ih =>
    intro a
    obtain ⟨h1, h2, h3⟩ := ih (max a y)
    rw [List.foldl_cons]
    refine ⟨by omega, fun x hx => ?_, ?_⟩
    · rcases List.mem_cons.1 hx with rfl | hx
      · omega
      · exact h2 x hx
    · rcases h3 with h3 | h3
      · rcases Int.le_total y a with h | h
        · exact .inl (by rw [h3]; omega)
        · refine .inr ?_
          rw [h3, show max a y = y by omega]; exact List.mem_cons_self
      · exact .inr (List.mem_cons_of_mem _ h3)
/-- how many sets are left at worst -/
def leftR (c : Claim) (L : List (List Int)) (f : Nat) : Int := maxOf ((L.flatMap (winL c f)).map fun n => ((pop 32 (maskN c f L n) : Nat) : Int))
theorem left_of {c : Claim} {L : List (List Int)} {f : Nat} {most : Int} (hf : 0 ≤ offOf c f) (h0 : 0 ≤ most) (h1 : ∀ n, maskN c f L n ≠ 0 → ((pop 32 (maskN c f L n) : Nat) : Int) ≤ most)
    (h2 : most = 0 ∨ ∃ n, maskN c f L n ≠ 0 ∧ most = ((pop 32 (maskN c f L n) : Nat) : Int)) : most = leftR c L f := by
  obtain ⟨g1, g2, g3⟩ := maxOf_go ((L.flatMap (winL c f)).map fun n => ((pop 32 (maskN c f L n) : Nat) : Int)) 0
  have hmem : ∀ n, n ∈ L.flatMap (winL c f) ↔ maskN c f L n ≠ 0 := fun n => by
    rw [List.mem_flatMap, Ne, maskN_zero]
    constructor
    · rintro ⟨t, ht, hn⟩ h
      rw [mem_winL hf, h t ht] at hn; cases hn
    · intro h
      refine Classical.byContradiction fun hc => h fun t ht => ?_
      cases hb : hitB c f n t
      · rfl
      · exact absurd ⟨t, ht, (mem_winL hf).2 hb⟩ hc
  have hle : leftR c L f ≤ most := by
    show List.foldl max 0 _ ≤ most
    rcases g3 with g3 | g3
    · rw [g3]; exact h0
    · obtain ⟨n, hn, he⟩ := List.mem_map.1 g3
      rw [← he]; exact h1 n ((hmem n).1 hn)
  have hge : most ≤ leftR c L f := by
    rcases h2 with h2 | ⟨n, hn, h2⟩
    · rw [h2]; exact g1
    · rw [h2]; exact g2 _ (List.mem_map.2 ⟨n, (hmem n).2 hn, rfl⟩)
  omega

/-- the first of the least -/
def askF (g : Nat → Int) : Nat → Int × Int
  | 0 => (0, 0)
  | k + 1 => if k = 0 ∨ g k < (askF g k).2 then ((k : Int), g k) else askF g k
def askR (c : Claim) : Int × Int × Int :=
  if err8 c ≠ 0 then (0, 0, err8 c) else ((askF (leftR c (agreeL c)) c.feats.length).1, (askF (leftR c (agreeL c)) c.feats.length).2, 0)

end Go.Proofs.YtkbpmcpmcmnfgaaDoor
