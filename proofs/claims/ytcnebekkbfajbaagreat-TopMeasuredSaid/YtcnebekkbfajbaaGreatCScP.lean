/- A part of the proof that TopMeasured always answers true. -/
import Derived.Shelf.Small.Bits
import Derived.Test.YtcnebekkbfajbaaGreatCMaps
import Derived.Test.YtcnebekkbfajbaaGreatCRef2
set_option linter.all false
namespace Go.Proofs.YtcnebekkbfajbaaGreat
structure Case5 where
 kind : Int
 base : Int
 most : Int
 hts : List Int
 roads : List (Int × Int)
def heightE (c : Case5) (k : Nat) : Int := if outB c.base 9000 (c.hts.getD k 0) then 7 else 0
def roadE (c : Case5) (k : Nat) : Int :=
 if outB 0 ((c.hts.length : Int) - 1) (c.roads.getD k (0, 0)).1 || outB 0 ((c.hts.length : Int) - 1) (c.roads.getD k (0, 0)).2 then 4 else if (c.roads.getD k (0, 0)).1 = (c.roads.getD k (0, 0)).2 then 2 else 0
def check5 (c : Case5) : Int × Int × Int :=
 if outB 1 3 c.kind then (1, 0, 2) else if outB 0 9000 c.base || outB 0 100000 c.most then (1, 0, 7)
 else if outB 1 8 c.hts.length || decide (8 < c.roads.length) then (1, 0, 3)
 else match firstErr (heightE c) c.hts.length with
 | some (k, e) => (2, k, e)
 | none => match firstErr (roadE c) c.roads.length with
  | some (k, e) => (3, k, e)
  | none => (0, 0, 0)
structure Ok5 (c : Case5) : Prop where
 kind : 1 ≤ c.kind ∧ c.kind ≤ 3
 base : 0 ≤ c.base ∧ c.base ≤ 9000
 most : 0 ≤ c.most ∧ c.most ≤ 100000
 nh : 1 ≤ c.hts.length ∧ c.hts.length ≤ 8
 nr : c.roads.length ≤ 8
 hts : ∀ h ∈ c.hts, c.base ≤ h ∧ h ≤ 9000
 roads : ∀ r ∈ c.roads, (0 ≤ r.1 ∧ r.1 < c.hts.length) ∧ (0 ≤ r.2 ∧ r.2 < c.hts.length) ∧ r.1 ≠ r.2
theorem out_f {lo hi x : Int} (h : outB lo hi x = false) : lo ≤ x ∧ x ≤ hi := by
 unfold outB at h
 simp at h
 omega
theorem ok5_of {c : Case5} (h : (check5 c).2.2 = 0) : Ok5 c := by
 unfold check5 at h
 split at h
 ·cases h
 rename_i h1
 split at h
 ·cases h
 rename_i h2
 split at h
 ·cases h
 rename_i h3
 simp only [Bool.not_eq_true, Bool.or_eq_false_iff] at h1 h2 h3
 have a1 := out_f h1
 have a2 := out_f h2.1
 have a3 := out_f h2.2
 have a4 := out_f h3.1
 have a5 : c.roads.length ≤ 8 := by simpa using h3.2
 rcases firstErr_cases (heightE c) c.hts.length with ⟨h4, g4⟩ | ⟨k, hk, h4, hne, _⟩
 ·rw [h4] at h
  rcases firstErr_cases (roadE c) c.roads.length with ⟨h5, g5⟩ | ⟨k, hk, h5, hne, _⟩
  ·refine ⟨a1, a2, a3, by omega, a5, fun x hx => ?_, fun x hx => ?_⟩
   ·obtain ⟨k, hk, rfl⟩ := List.mem_iff_getElem.1 hx
    have := g4 k hk
    unfold heightE at this
    rw [List.getD_eq_getElem?_getD, List.getElem?_eq_getElem hk] at this
    split at this
    ·cases this
    rename_i g
    exact out_f (by simpa using g)
   obtain ⟨k, hk, rfl⟩ := List.mem_iff_getElem.1 hx
   have := g5 k hk
   unfold roadE at this
   rw [List.getD_eq_getElem?_getD, List.getElem?_eq_getElem hk] at this
   dsimp only [Option.getD_some] at this
   split at this
   ·cases this
   rename_i g
   simp only [Bool.not_eq_true, Bool.or_eq_false_iff] at g
   have g1 := out_f g.1
   have g2 := out_f g.2
   split at this
   ·cases this
   rename_i g3
   exact ⟨by omega, by omega, g3⟩
  rw [h5] at h
  exact absurd h hne
 rw [h4] at h
 exact absurd h hne
def roundK (k n d : Int) : Int := if k = 1 then n.tdiv d else if k = 2 then (2 * n + d).tdiv (2 * d) else (n + d - 1).tdiv d
def cutOf (c : Case5) (h : Int) (z : Int × Int) : Int := roundK c.kind ((h - c.base) * z.1) z.2
def cutL (c : Case5) (z : Int × Int) : List Int := c.hts.map fun h => cutOf c h z
def fits5 (c : Case5) (z : Int × Int) : Bool := (cutL c z).all fun x => decide (x ≤ c.most)
def sbL : Nat → Nat → Nat → Nat → Nat → List (Nat × Nat)
 | 0, _, _, _, _ => []
 | f + 1, a, b, c, d => if 30 < a + c ∨ 30 < b + d then [] else sbL f a b (a + c) (b + d) ++ (a + c, b + d) :: sbL f (a + c) (b + d) c d
def scalesN : List (Nat × Nat) := sbL 120 0 1 1 0
def any5N (a b : Nat) : Nat × Nat := (List.range 29).foldl (fun s i => if s.1 % (30 - i) = 0 ∧ s.2 % (30 - i) = 0 then (s.1 / (30 - i), s.2 / (30 - i)) else s) (1 + a % 30, 1 + b % 30)
theorem any5_mod (a b : Nat) : any5N a b = any5N (a % 30) (b % 30) := by unfold any5N; simp
def hasZ (s : Nat × Nat) : List (Nat × Nat) → Bool
 | [] => false
 | z :: l => (Nat.beq z.1 s.1 && Nat.beq z.2 s.2) || hasZ s l
theorem hasZ_mem {s : Nat × Nat} : ∀ {l : List (Nat × Nat)}, hasZ s l = true → s ∈ l
 | [], h => by cases h
 | z :: l, h => by
  unfold hasZ at h
  rw [Bool.or_eq_true, Bool.and_eq_true] at h
  rcases h with ⟨h1, h2⟩ | h
  ·have h1 := Nat.eq_of_beq_eq_true h1
   have h2 := Nat.eq_of_beq_eq_true h2
   exact List.mem_cons.2 (.inl (Prod.ext h1.symm h2.symm))
  exact List.mem_cons.2 (.inr (hasZ_mem h))
set_option maxRecDepth 100000 in
theorem any5_in0 : ((List.range 30).all fun a => (List.range 30).all fun b => hasZ (any5N a b) scalesN) = true := by decide +kernel
theorem any5_in (a b : Nat) : any5N a b ∈ scalesN := by
 rw [any5_mod]
 have h1 := List.all_eq_true.1 any5_in0 (a % 30) (List.mem_range.2 (Nat.mod_lt _ (by decide)))
 exact hasZ_mem (List.all_eq_true.1 h1 (b % 30) (List.mem_range.2 (Nat.mod_lt _ (by decide))))
set_option maxRecDepth 100000 in
theorem scales_all0 : (scalesN.all fun z => decide (1 ≤ z.1 ∧ z.1 ≤ 30 ∧ 1 ≤ z.2 ∧ z.2 ≤ 30)) = true := by decide +kernel
theorem scales_bd {z : Nat × Nat} (h : z ∈ scalesN) : 1 ≤ z.1 ∧ z.1 ≤ 30 ∧ 1 ≤ z.2 ∧ z.2 ≤ 30 := by simpa using List.all_eq_true.1 scales_all0 z h
set_option maxRecDepth 100000 in
theorem scales_cop0 : (scalesN.all fun z => (List.range 29).all fun i => decide (¬ (z.1 % (i + 2) = 0 ∧ z.2 % (i + 2) = 0))) = true := by decide +kernel
theorem scales_cop {z : Nat × Nat} (h : z ∈ scalesN) {d : Nat} (h2 : 2 ≤ d) (h3 : d ≤ z.1) : ¬ (z.1 % d = 0 ∧ z.2 % d = 0) := by
 have h1 := List.all_eq_true.1 (List.all_eq_true.1 scales_cop0 z h) (d - 2) (List.mem_range.2 (by have := scales_bd h; omega))
 rw [show d - 2 + 2 = d by omega] at h1
 exact of_decide_eq_true h1
structure Mark5 where
 point : Int
 lo : Int
 hi : Int
def marked (c : Case5) (l : List Mark5) (z : Nat × Nat) : Bool := !(l.any fun x => outB x.lo x.hi ((cutL c (z.1, z.2)).getD x.point.toNat 0))
theorem mul_bd {a b : Int} {x y : Int} (h0 : 0 ≤ a) (h1 : a ≤ x) (h2 : 0 ≤ b) (h3 : b ≤ y) : 0 ≤ a * b ∧ a * b ≤ x * y :=
 ⟨Int.mul_nonneg h0 h2, Int.mul_le_mul h1 h3 h2 (by omega)⟩
theorem round_bd {k n d : Int} (hn : 0 ≤ n ∧ n ≤ 270000) (hd : 1 ≤ d ∧ d ≤ 30) : 0 ≤ roundK k n d ∧ roundK k n d ≤ 600000 := by
 have key : ∀ {a b : Int}, 0 ≤ a → 1 ≤ b → 0 ≤ a.tdiv b ∧ a.tdiv b ≤ a := fun {a b} h1 h2 => by
  rw [Int.tdiv_eq_ediv_of_nonneg h1]
  exact ⟨Int.ediv_nonneg h1 (by omega), Int.ediv_le_self b h1⟩
 unfold roundK
 split
 ·have := key (a := n) (b := d) (by omega) (by omega); omega
 split
 ·have := key (a := 2 * n + d) (b := 2 * d) (by omega) (by omega); omega
 have := key (a := n + d - 1) (b := d) (by omega) (by omega); omega
theorem high_bd {c : Case5} (h : Ok5 c) {x : Int} (hx : x ∈ c.hts) {u : Nat} (hu : 1 ≤ u ∧ u ≤ 30) : 0 ≤ (x - c.base) * u ∧ (x - c.base) * u ≤ 270000 := by
 have := h.hts x hx
 have := h.base
 have := mul_bd (a := x - c.base) (b := u) (x := 9000) (y := 30) (by omega) (by omega) (by omega) (by omega)
 omega
theorem cut_bd {c : Case5} (h : Ok5 c) {x : Int} (hx : x ∈ c.hts) {z : Nat × Nat} (hz : z ∈ scalesN) : 0 ≤ cutOf c x (z.1, z.2) ∧ cutOf c x (z.1, z.2) ≤ 600000 := by
 obtain ⟨h1, h2, h3, h4⟩ := scales_bd hz
 exact round_bd (high_bd h hx ⟨h1, h2⟩) (by dsimp only; omega)
theorem cuts_bd {c : Case5} (h : Ok5 c) {z : Nat × Nat} (hz : z ∈ scalesN) (i : Nat) : 0 ≤ (cutL c (z.1, z.2)).getD i 0 ∧ (cutL c (z.1, z.2)).getD i 0 ≤ 600000 := by
 rw [List.getD_eq_getElem?_getD]
 unfold cutL
 rw [List.getElem?_map]
 cases hq : c.hts[i]? with
 | none => simp
 | some x => exact cut_bd h (List.mem_of_getElem? hq) hz
def lexL : Nat → List Int → List (List Int)
 | 0, _ => [[]]
 | _ + 1, [] => []
 | k + 1, x :: of => ((lexL k of).map (x :: ·)) ++ lexL (k + 1) of
def numbersL (n : Nat) : List Int := (List.range n).map fun i : Nat => (i : Int)
theorem lex_sub : ∀ (k : Nat) (of : List Int) (x : List Int), x ∈ lexL k of → x.Sublist of ∧ x.length = k := by
 intro k of
 induction of generalizing k with
 | nil =>
  intro x hx
  cases k with
  | zero => simp [lexL] at hx; subst hx; exact ⟨List.Sublist.refl _, rfl⟩
  | succ k => simp [lexL] at hx
 | cons y of ih =>
  intro x hx
  cases k with
  | zero => simp [lexL] at hx; subst hx; exact ⟨List.nil_sublist _, rfl⟩
  | succ k =>
   rw [lexL, List.mem_append] at hx
   rcases hx with hx | hx
   ·obtain ⟨u, hu, rfl⟩ := List.mem_map.1 hx
    obtain ⟨h1, h2⟩ := ih k u hu
    exact ⟨h1.cons_cons y, by simp [h2]⟩
   obtain ⟨h1, h2⟩ := ih (k + 1) x hx
   exact ⟨h1.cons y, h2⟩
end Go.Proofs.YtcnebekkbfajbaaGreat
namespace Go.Proofs
open Go.RowKit Go.Shelf
def Tryz.bitsLen_ren : Go.Shelf.Ren := ⟨fun | 125 => 86 | 128 => 115 | 129 => 116 | n => n, fun | 46 => 144 | 3 => 3 | 51 => 182 | 53 => 184 | 4 => 4 | 5 => 5 | 9 => 9 | n => n, fun n => n⟩
theorem Tryz.bitsLen : Lays.n125 Tryz.prog Tryz.bitsLen_ren where
 mixed := by kernel_rfl
 f125 := Tryz.func86.trans (congrArg some (by kernel_rfl))
 f128 := Tryz.func115.trans (congrArg some (by kernel_rfl))
 f129 := Tryz.func116.trans (congrArg some (by kernel_rfl))
 t3 := Tryz.underlying3
 a3 := Tryz.isAgg3
 z3 := Tryz.sizeOf3
 v3 := Tryz.zeroValue3
 t4 := Tryz.underlying4
 a4 := Tryz.isAgg4
 z4 := Tryz.sizeOf4
 v4 := Tryz.zeroValue4
 t5 := Tryz.underlying5
 a5 := Tryz.isAgg5
 z5 := Tryz.sizeOf5
 v5 := Tryz.zeroValue5
 t9 := Tryz.underlying9
 a9 := Tryz.isAgg9
 z9 := Tryz.sizeOf9
 v9 := Tryz.zeroValue9
 t46 := Tryz.underlying144
 a46 := Tryz.isAgg144
 z46 := Tryz.sizeOf144
 v46 := Tryz.zeroValue144
 t51 := Tryz.underlying182
 a51 := Tryz.isAgg182
 z51 := Tryz.sizeOf182
 v51 := Tryz.zeroValue182
 t53 := Tryz.underlying184
 a53 := Tryz.isAgg184
 z53 := Tryz.sizeOf184
 v53 := Tryz.zeroValue184
end Go.Proofs
namespace Go.Proofs.YtcnebekkbfajbaaGreat
open Go.RowKit Go.Shelf
def bitU (s k : Nat) : List Int := ((List.range k).filter fun i => s.testBit i).map fun i : Nat => (i : Int)
def bitL (s : Nat) : List Int := bitU s 8
def st1 (x : Int) : Int := IntKind.u64.wrap (bits BinOp.and IntKind.u64 (x / 2) 6148914691236517205 + bits BinOp.and IntKind.u64 x 6148914691236517205)
def st2 (x : Int) : Int := IntKind.u64.wrap (bits BinOp.and IntKind.u64 (x / 4) 3689348814741910323 + bits BinOp.and IntKind.u64 x 3689348814741910323)
def st3 (x : Int) : Int := bits BinOp.and IntKind.u64 (IntKind.u64.wrap (x / 16 + x)) 1085102592571150095
def st4 (x : Int) : Int := IntKind.u64.wrap (x + x / 256)
def st5 (x : Int) : Int := IntKind.u64.wrap (x + x / 65536)
def st6 (x : Int) : Int := IntKind.u64.wrap (x + x / 4294967296)
def onesI (x : Int) : Int := bits BinOp.and IntKind.i64 (wrap64 (st6 (st5 (st4 (st3 (st2 (st1 x))))))) 127
theorem ones_bit : ∀ s : Nat, s < 256 → onesI s = (bitL s).length := by decide +kernel
theorem bitU_succ (s k : Nat) : bitU s (k + 1) = bitU s k ++ if s.testBit k then [(k : Int)] else [] := by
 unfold bitU; rw [List.range_succ, List.filter_append, List.map_append]
 cases h : s.testBit k <;> simp [h]
theorem len_bit : ∀ s : Nat, s < 256 → Lib.bitLen s ≤ 8 ∧ bitU s (Lib.bitLen s) = bitL s := by decide +kernel
theorem bit_test : ∀ s : Nat, s < 256 → ∀ k : Nat, k < 8 → (bits BinOp.and IntKind.i64 ((s : Int) / 2 ^ k) 1 == 1) = s.testBit k := by decide +kernel
theorem bitL_len : ∀ s : Nat, s < 256 → (bitL s).length ≤ 8 := by decide +kernel
set_option maxHeartbeats 1000000 in
theorem ones64_any (x : Nat) (w : World) : Calls Tryz.prog 102 #[.int .u64 x] w fun e w' => e = .returned (.int .i64 (onesI x)) ∧ w = w' := by
 go_enter Tryz.func102, Tryz.ntmps102
 go_wp2
 go_ret
 exact ⟨rfl, rfl⟩
theorem ones_any (s : Nat) (hs : s < 256) (w : World) : Calls Tryz.prog 70 #[.int .u64 s] w fun e w' => e = .returned (.int .i64 (bitL s).length) ∧ w = w' := by
 have h := ones64_any s w
 rw [ones_bit s hs] at h
 go_enter Tryz.func70, Tryz.ntmps70
 go_wp2_with (go_at_call 102; refine h.mono ?_; rintro e w' ⟨rfl, rfl⟩)
 go_ret
 exact ⟨rfl, rfl⟩
theorem infoInt : (Tryz.prog.info? 3).map (fun i => (i.zero, i.size, i.bytes)) = some (some (.int .i64 0), 1, 8) := by kernel_rfl
open Go.RowKit Go.Shelf
def cmpI (x y : Int) : Int := if x < y then -1 else if y < x then 1 else 0
def lexC : List Int → List Int → Int
 | [], [] => 0
 | [], _ :: _ => -1
 | _ :: _, [] => 1
 | x :: xs, y :: ys => if cmpI x y = 0 then lexC xs ys else cmpI x y
theorem cmpI_zero {x y : Int} : cmpI x y = 0 ↔ x = y := by unfold cmpI; split <;> (try split) <;> omega
theorem cmpI_neg {x y : Int} : cmpI x y < 0 ↔ x < y := by unfold cmpI; split <;> (try split) <;> omega
theorem lexC_refl : ∀ xs : List Int, lexC xs xs = 0 := by
 intro xs
 induction xs with
 | nil => rfl
 | cons x xs ih => rw [lexC, if_pos (cmpI_zero.2 rfl), ih]
theorem lexC_neg {x y : Int} {xs ys : List Int} : lexC (x :: xs) (y :: ys) < 0 ↔ x < y ∨ (x = y ∧ lexC xs ys < 0) := by
 rw [lexC]
 by_cases h : x = y
 ·rw [if_pos (cmpI_zero.2 h)]; subst h; simp
 rw [if_neg (fun e => h (cmpI_zero.1 e)), cmpI_neg]; simp [h]
theorem lexC_trans : ∀ xs ys zs : List Int, lexC xs ys < 0 → lexC ys zs < 0 → lexC xs zs < 0 := by
 intro xs
 induction xs with
 | nil =>
  intro ys zs h1 h2
  cases zs with
  | nil => cases ys with
   | nil => exact h1
   | cons y ys => simp [lexC] at h2
  | cons z zs => simp [lexC]
 | cons x xs ih =>
  intro ys zs h1 h2
  cases ys with
  | nil => simp [lexC] at h1
  | cons y ys =>
   cases zs with
   | nil => simp [lexC] at h2
   | cons z zs =>
    rw [lexC_neg] at h1 h2 ⊢
    rcases h1 with h1 | ⟨h1, h1'⟩ <;> rcases h2 with h2 | ⟨h2, h2'⟩
    ·exact .inl (by omega)
    ·exact .inl (by omega)
    ·exact .inl (by omega)
    exact .inr ⟨by omega, ih _ _ h1' h2'⟩
theorem lexC_tri : ∀ xs ys : List Int, ¬ lexC xs ys < 0 → ¬ lexC ys xs < 0 → xs = ys := by
 intro xs
 induction xs with
 | nil =>
  intro ys h1 _
  cases ys with
  | nil => rfl
  | cons y ys => simp [lexC] at h1
 | cons x xs ih =>
  intro ys h1 h2
  cases ys with
  | nil => simp [lexC] at h2
  | cons y ys =>
   rw [lexC_neg] at h1 h2
   have e : x = y := by omega
   subst e
   rw [ih ys (fun h => h1 (.inr ⟨rfl, h⟩)) (fun h => h2 (.inr ⟨rfl, h⟩))]
def cut5 (c : Case5) (z : Nat × Nat) : List Int := cutL c (z.1, z.2)
def riseR (c : Case5) (r : Int × Int) : Int := c.hts.getD r.2.toNat 0 - c.hts.getD r.1.toNat 0
def byR (c : Case5) (z : Nat × Nat) (r : Int × Int) : Int := (cut5 c z).getD r.2.toNat 0 - (cut5 c z).getD r.1.toNat 0
def maxAbs (x : Int) : Int := max x (-x)
def offR (c : Case5) (z : Nat × Nat) (r : Int × Int) : Int :=
 if riseR c r = 0 then 0 else (maxAbs (1000 * (z.2 * byR c z r - z.1 * riseR c r)) + z.1 * maxAbs (riseR c r) - 1).tdiv (z.1 * maxAbs (riseR c r))
def falseZ (c : Case5) (z : Nat × Nat) : List Int := c.roads.map (offR c z)
def flatB (c : Case5) (z : Nat × Nat) (r : Int × Int) : Bool := (riseR c r != 0) && (byR c z r == 0)
def whereL {α : Type} (p : α → Bool) : List α → Nat → List Int
 | [], _ => []
 | x :: xs, k => if p x then (k : Int) :: whereL p xs (k + 1) else whereL p xs (k + 1)
def flatZ (c : Case5) (z : Nat × Nat) : List Int := whereL (flatB c z) c.roads 0
def greatZ (c : Case5) (limit : Int) : List (Nat × Nat) → Nat × Nat → Nat × Nat
 | [], b => b
 | z :: zs, b => if fits5 c (z.1, z.2) then (if c.roads.any (fun r => decide (limit < offR c z r)) then greatZ c limit zs b else greatZ c limit zs z) else b
def leastZ (c : Case5) : Option (Nat × Nat) := scalesN.find? fun z => fits5 c (z.1, z.2) && (flatZ c z).isEmpty
def cut8 (c : Case5) (z : Nat × Nat) : List Int := (List.range 8).map fun i => (cut5 c z).getD i 0
def maskZ (set : Nat) (xs : List Int) : List Int := (List.range 8).map fun i => if set / 2 ^ i % 2 = 0 then 0 else xs.getD i 0
def addNew (acc : List (List Int)) (x : List Int) : List (List Int) := if acc.contains x then acc else acc ++ [x]
def distN (xs : List (List Int)) : Nat := (xs.foldl addNew []).length
theorem mem_addNew (y : List Int) : ∀ (xs acc : List (List Int)), y ∈ xs.foldl addNew acc ↔ y ∈ acc ∨ y ∈ xs
 | [], acc => by simp
 | x :: xs, acc => by
  rw [List.foldl_cons, mem_addNew y xs, addNew]
  by_cases h : acc.contains x
  ·rw [if_pos h]
   have h2 : x ∈ acc := by simpa using h
   constructor
   ·rintro (h | h)
    ·exact .inl h
    exact .inr (List.mem_cons.2 (.inr h))
   rintro (h | h)
   ·exact .inl h
   rcases List.mem_cons.1 h with rfl | h
   ·exact .inl h2
   exact .inr h
  rw [if_neg h]
  simp only [List.mem_append, List.mem_cons, List.not_mem_nil, or_false, or_assoc]
theorem distN_snoc (xs : List (List Int)) (x : List Int) : distN (xs ++ [x]) = if x ∈ xs then distN xs else distN xs + 1 := by
 have h := mem_addNew x xs []
 simp only [List.not_mem_nil, false_or] at h
 have he : (xs ++ [x]).foldl addNew [] = addNew (xs.foldl addNew []) x := by rw [List.foldl_append]; rfl
 unfold distN
 rw [he]
 obtain ⟨acc, ha⟩ : ∃ a, xs.foldl addNew [] = a := ⟨_, rfl⟩
 rw [ha] at h ⊢
 unfold addNew
 by_cases hx : x ∈ xs
 ·rw [if_pos hx, if_pos (List.contains_iff_mem.2 (h.2 hx))]
 rw [if_neg hx, if_neg (fun e => hx (h.1 (List.contains_iff_mem.1 e)))]
 exact List.length_append
def diffB (c : Case5) (l : List (Nat × Nat)) (set : Nat) : Bool := (distN (l.map fun z => maskZ set (cut8 c z)) == l.length)
def tellStep (c : Case5) (l : List (Nat × Nat)) (st : List Int × Nat) (set : Nat) : List Int × Nat :=
 if st.2 < (bitL set).length ∨ diffB c l set = false then st else if (bitL set).length < st.2 ∨ lexC (bitL set) st.1 < 0 then (bitL set, (bitL set).length) else st
def tellZ (c : Case5) (l : List (Nat × Nat)) : List Int × Nat := (List.range (2 ^ c.hts.length)).foldl (tellStep c l) ([], c.hts.length + 1)
def exCase : Case5 := ⟨2, 100, 50, [100, 110, 125, 160], [(0, 1), (1, 2), (3, 2)]⟩
theorem ex5_ok : Ok5 exCase := ok5_of (by decide +kernel)
theorem ex5_in1 : ((1, 2) ∈ scalesN ∧ (2, 3) ∈ scalesN ∧ (1, 30) ∈ scalesN) ∧ (3, 5) ∈ scalesN ∧ (19, 28) ∈ scalesN ∧ (17, 25) ∈ scalesN := by decide +kernel
theorem ex5_cuts : cut5 exCase (1, 2) = [0, 5, 13, 30] := by decide +kernel
theorem ex5_false : falseZ exCase (2, 3) = [50, 0, 15] := by decide +kernel
theorem ex5_flat : flatZ exCase (1, 30) = [0] := by decide +kernel
theorem ex5_great : greatZ exCase 47 scalesN (0, 0) = (5, 6) := by decide +kernel
theorem ex5_least : leastZ exCase = some (1, 16) := by decide +kernel
theorem ex5_scales : (scalesN.filter fun z => fits5 exCase (z.1, z.2) && marked exCase [⟨3, 41, 41⟩] z) = [(19, 28), (17, 25), (15, 22), (13, 19), (11, 16), (20, 29)] := by decide +kernel
theorem ex5_tell : diffB exCase [(1, 2), (3, 5), (2, 3)] 15 = true ∧ (tellZ exCase [(1, 2), (3, 5), (2, 3)]).1 = [1] := by decide +kernel
theorem ex5_twice : diffB exCase [(19, 28), (17, 25)] 15 = false := by decide +kernel
end Go.Proofs.YtcnebekkbfajbaaGreat
