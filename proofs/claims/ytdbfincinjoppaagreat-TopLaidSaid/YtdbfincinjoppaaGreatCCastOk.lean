/- A part of the proof that TopLaid always answers true. -/
import Derived.StillTailTactics
import Derived.Test.YtdbfincinjoppaaGreatCMaps2
import Derived.Test.YtdbfincinjoppaaGreatCTWidth
set_option linter.all false
namespace Go.Proofs.YtdbfincinjoppaaGreat
structure OkS (s : Shop) : Prop where
 shrink : 0 ≤ s.klo ∧ s.klo ≤ s.khi ∧ s.khi ≤ s.klo + 6 ∧ s.khi ≤ 100
 nm : 1 ≤ s.moulds.length ∧ s.moulds.length ≤ 4
 mould : ∀ {k : Nat}, k < s.moulds.length → mouldE s.moulds k = 0
theorem okS_of {s : Shop} (e : (check7 s).2.2 = 0) : OkS s := by
 unfold check7 at e
 split at e
 ·cases e
 split at e
 ·cases e
 split at e
 ·cases e
 rename_i g1 g2 g3
 simp [inB] at g1 g2
 rcases firstErr_cases (mouldE s.moulds) s.moulds.length with ⟨h4, h5⟩ | ⟨k, _, h4, h5, _⟩
 ·exact ⟨by omega, by omega, fun hk => h5 _ hk⟩
 rw [h4] at e; exact absurd e h5
theorem mouldE_zero {l : List Mould} {k : Nat} {x : Mould} (h : l[k]? = some x) (he : mouldE l k = 0) : (1 ≤ x.slo ∧ x.slo ≤ x.shi ∧ x.shi ≤ x.slo + 12 ∧ x.shi ≤ 20000) ∧ (0 ≤ x.wlo ∧ x.wlo ≤ x.whi ∧ x.whi ≤ x.wlo + 3 ∧ x.whi ≤ 20) ∧ 1 ≤ x.casts ∧ x.casts ≤ 8 := by
 unfold mouldE at he
 rw [getD_of h] at he
 dsimp only at he
 split at he
 ·rename_i h1; exact absurd he h1
 unfold mouldN at he
 split at he
 ·cases he
 split at he
 ·cases he
 rename_i h2 h3
 simp [inB] at h2 h3
 omega
theorem seen7_bad {s : Shop} {l : List SeenC} (h : err7 s ≠ 0) : seen7 s l = (0, err7 s) := by rw [seen7, if_pos h]
theorem seen7_long {s : Shop} {l : List SeenC} (h : err7 s = 0) (h2 : 6 < l.length) : seen7 s l = (0, 3) := by rw [seen7, if_neg (by simp [h]), if_pos h2]
theorem seen7_n {s : Shop} {l : List SeenC} (h : err7 s = 0) (h2 : ¬ 6 < l.length) : seen7 s l = match firstErr (seenE7 s l) l.length with
  | some (k, e) => ((k : Int), e)
  | none => (0, 0) := by rw [seen7, if_neg (by simp [h]), if_neg h2]; rfl
theorem seen7_zero {s : Shop} {l : List SeenC} (e : (seen7 s l).2 = 0) : (check7 s).2.2 = 0 ∧ l.length ≤ 6 ∧ ∀ k, k < l.length → seenE7 s l k = 0 := by
 by_cases h1 : err7 s = 0
 ·by_cases h2 : 6 < l.length
  ·rw [seen7_long h1 h2] at e; cases e
  rw [seen7_n h1 h2] at e
  rcases firstErr_cases (seenE7 s l) l.length with ⟨_, h3⟩ | ⟨k, _, h4, h5, _⟩
  ·exact ⟨h1, by omega, h3⟩
  rw [h4] at e; exact absurd e h5
 rw [seen7_bad h1] at e; exact absurd e h1
theorem seen7_one {s : Shop} {l : List SeenC} {k : Nat} {y : SeenC} (h : l[k]? = some y) (e : seenE7 s l k = 0) : (0 ≤ y.mould ∧ y.mould < s.moulds.length) ∧ (0 ≤ y.cast ∧ y.cast < (s.moulds.getD y.mould.toNat dMould).casts) ∧ 0 ≤ y.lo ∧ y.lo ≤ y.hi ∧ y.hi ≤ 20000 := by
 unfold seenE7 at e
 rw [getD_of h] at e
 dsimp only at e
 split at e
 ·cases e
 rename_i g1
 unfold there7 at g1
 simp [inB] at g1
 unfold rangeE at e
 split at e
 ·cases e
 split at e
 ·cases e
 rename_i g2 g3
 simp [inB] at g2 g3
 rw [List.getD_eq_getElem?_getD]
 omega
theorem made7_bd {a w c k : Int} (h1 : 1 ≤ a ∧ a ≤ 20000) (h2 : 0 ≤ w ∧ w ≤ 20) (h3 : 0 ≤ c ∧ c ≤ 8) (h4 : 0 ≤ k ∧ k ≤ 100) : 0 ≤ w * c ∧ w * c ≤ 160 ∧ 0 ≤ (a + w * c) * k ∧ (a + w * c) * k ≤ 2016000 ∧ 1 ≤ made7 a w c k ∧ made7 a w c k ≤ 20160 := by
 have q1 : 0 ≤ w * c := Int.mul_nonneg h2.1 h3.1
 have q2 : w * c ≤ 20 * 8 := Int.mul_le_mul h2.2 h3.2 h3.1 (by decide)
 obtain ⟨n, hn⟩ : ∃ n, a + w * c = n := ⟨_, rfl⟩
 have q3 : 0 ≤ n * k := Int.mul_nonneg (by omega) h4.1
 have q4 : n * k ≤ n * 100 := Int.mul_le_mul_of_nonneg_left h4.2 (by omega)
 have hq : (n * k).tdiv 1000 = (n * k) / 1000 := Int.tdiv_eq_ediv_of_nonneg q3
 unfold made7
 rw [hn, hq]
 omega
theorem twos7_bd {s : Shop} {l : List SeenC} {m : Nat} {k : Int} (hk : OkS s) (hm : m < s.moulds.length) {p : Int × Int} (hp : p ∈ twosC s l m k) : (1 ≤ p.1 ∧ p.1 ≤ 20000) ∧ 0 ≤ p.2 ∧ p.2 ≤ 20 := by
 have hx : s.moulds[m]? = some s.moulds[m] := List.getElem?_eq_getElem hm
 have hz := mouldE_zero hx (hk.mould hm)
 unfold twosC at hp
 rw [getD_of hx] at hp
 obtain ⟨hm1, _⟩ := List.mem_filter.1 hp
 obtain ⟨j, hk2, rfl⟩ := List.mem_map.1 hm1
 have hk3 := List.mem_range.1 hk2
 generalize s.moulds[m] = x at *
 have hs : 0 < wearN x := by unfold wearN; omega
 have hd : j / wearN x < sizeN x := by rw [Nat.mul_comm] at hk3; exact Nat.div_lt_of_lt_mul hk3
 have hm2 : j % wearN x < wearN x := Nat.mod_lt _ hs
 unfold pairC
 dsimp only
 generalize j / wearN x = d at *
 generalize j % wearN x = e at *
 unfold sizeN at hd
 unfold wearN at hm2
 omega
theorem shrinkL_bd {s : Shop} (hk : OkS s) {k : Int} (h : k ∈ shrinkL s) : 0 ≤ k ∧ k ≤ 100 ∧ s.klo ≤ k ∧ k ≤ s.khi := by
 unfold shrinkL at h
 obtain ⟨i, hi, rfl⟩ := List.mem_map.1 h
 have := List.mem_range.1 hi
 have := hk.shrink
 omega
theorem known7_mem {s : Shop} {l : List SeenC} {k : Int} (h : k ∈ known7 s l) : k ∈ shrinkL s ∧ knownB s l k = true := List.mem_filter.1 h
theorem known7_two {s : Shop} {l : List SeenC} {k : Int} {m : Nat} (h : knownB s l k = true) (hm : m < s.moulds.length) : twosC s l m k ≠ [] := by
 unfold knownB at h
 rw [List.all_eq_true] at h
 have := h m (List.mem_range.2 hm)
 simpa using this
theorem places_len {s : Shop} (hk : OkS s) : (placesL s).length ≤ 32 := by
 unfold placesL
 have key : ∀ n : Nat, n ≤ s.moulds.length → ((List.range n).flatMap fun m => (List.range (s.moulds.getD m dMould).casts.toNat).map fun c => (m, c)).length ≤ n * 8 := by
  intro n
  induction n with
  | zero => intro _; simp
  | succ n ih =>
   intro hn
   rw [List.range_succ, List.flatMap_append, List.length_append, List.flatMap_singleton, List.length_map, List.length_range]
   have := ih (by omega)
   have hx : s.moulds[n]? = some s.moulds[n] := List.getElem?_eq_getElem (by omega)
   have hz := (mouldE_zero hx (hk.mould (by omega))).2.2
   rw [getD_of hx]
   omega
 have := key s.moulds.length (Nat.le_refl _)
 have := hk.nm.2
 omega
open Go.RowKit Go.Shelf
theorem koutc_any (lo hi x : Int) (B1 B2 : Nat) (w : World) (h1 : w.cell? ⟨B1, 0, none⟩ = some (.int .i64 lo)) (h2 : w.cell? ⟨B2, 0, none⟩ = some (.int .i64 hi)) :
  Calls Tryz.prog 105 #[.int .i64 x, .pointer (some ⟨B1, 0, none⟩), .pointer (some ⟨B2, 0, none⟩)] w fun e w' => e = .returned (.bool (outB lo hi x)) ∧ w = w' := by
 have Hb : Hid (outB lo hi x = (decide (x < lo) || decide (hi < x))) := rfl
 by_cases c1 : x < lo
 ·go_enter Tryz.func105, Tryz.ntmps105
  go_wp2
  go_ret
  exact ⟨ret_bool (by rw [Hb.out, decide_eq_true c1]; rfl), rfl⟩
 by_cases c2 : hi < x
 ·go_enter Tryz.func105, Tryz.ntmps105
  go_wp2
  go_ret
  exact ⟨ret_bool (by rw [Hb.out, decide_eq_true c2]; simp), rfl⟩
 go_enter Tryz.func105, Tryz.ntmps105
 go_wp2
 go_ret
 exact ⟨ret_bool (by rw [Hb.out, decide_eq_false (by omega), decide_eq_false (by omega)]; rfl), rfl⟩
theorem eg_kout1 : Enters Tryz.prog 105 := enters_of Tryz.func105 (by kernel_rfl) rfl
theorem kout_any {S : Foot} {A : Option Addr} {n c : Nat} {xs : List Int} (lo hi : Int) (w : World) (h : Ints S w A n xs) :
  Calls Tryz.prog 71 #[.int .i64 lo, .int .i64 hi, .slice A n c] w fun e w' => e = .returned (.bool (xs.any (outB lo hi))) ∧ Below w.heap.size w w' := by
 have H1 : Ints S ((w.alloc (.cells #[.int .i64 lo] 3)).alloc (.cells #[.int .i64 hi] 3)) A n xs := (h.keep IntR.good (Keeps.alloc _ _)).keep IntR.good (Keeps.alloc _ _)
 have EG := Lib.hid eg_kout1
 go_enter Tryz.func71, Tryz.ntmps71
 go_wp2_with (go_at_call 96; refine (containsI_any (outB lo hi) 105 #[.pointer (some ⟨w.heap.size, 0, none⟩), .pointer (some ⟨w.heap.size + 1, 0, none⟩)] EG.out _ H1 (fun x W hb => by rw [app12]; exact koutc_any lo hi x w.heap.size (w.heap.size + 1) W (getc hb (oldc (newc rfl rfl))) (getc hb (newc rfl (by simp))))).mono ?_; rintro e w' ⟨rfl, rfl⟩)
 go_ret
 exact ⟨rfl, bl_alloc (bl_alloc (Below.refl _ _) _ (Nat.le_refl _)) _ (Nat.le_refl _)⟩
theorem kout1 {lo hi x : Int} {b : Bool} {g c : Nat} (w : World) (h : w.cell? ⟨g, 0, none⟩ = some (.int .i64 x)) (hb : outB lo hi x = b) :
  Calls Tryz.prog 71 #[.int .i64 lo, .int .i64 hi, .slice (some ⟨g, 0, none⟩) 1 c] w fun e w' => e = .returned (.bool b) ∧ Below w.heap.size w w' :=
 (kout_any lo hi w (Ints.one h)).mono fun _ _ ⟨he, hB⟩ => ⟨by rw [he, ← hb]; simp, hB⟩
theorem kout2 {lo hi x y : Int} {b : Bool} {g c : Nat} (w : World) (h : w.cell? ⟨g, 0, none⟩ = some (.int .i64 x)) (h2 : w.cell? ⟨g, 1, none⟩ = some (.int .i64 y)) (hb : (outB lo hi x || outB lo hi y) = b) :
  Calls Tryz.prog 71 #[.int .i64 lo, .int .i64 hi, .slice (some ⟨g, 0, none⟩) 2 c] w fun e w' => e = .returned (.bool b) ∧ Below w.heap.size w w' :=
 (kout_any lo hi w (Ints.two h h2)).mono fun _ _ ⟨he, hB⟩ => ⟨by rw [he, ← hb]; simp, hB⟩
def spanE (a z lo hi wide : Int) : Int := if outB lo hi a || outB lo hi z then 7 else if outB a (a + wide) z then 2 else 0
theorem outB_iff {lo hi x : Int} : outB lo hi x = false ↔ lo ≤ x ∧ x ≤ hi := by unfold outB; simp
theorem spanE_range (a z : Int) : spanE a z 0 20000 20000 = rangeE ⟨a, z⟩ 0 20000 := by
 unfold spanE rangeE
 rw [outB_inB, outB_inB, outB_inB]
 dsimp only
 by_cases h1 : inB a 0 20000 = true
 ·by_cases h2 : inB z 0 20000 = true
  ·have e1 : (0 ≤ a ∧ a ≤ 20000) := by simpa [inB] using h1
   have e2 : (0 ≤ z ∧ z ≤ 20000) := by simpa [inB] using h2
   by_cases h3 : a ≤ z
   ·have : inB z a (a + 20000) = true := by simp [inB]; omega
    simp [h1, h2, this]; omega
   have : inB z a (a + 20000) = false := by simp [inB]; omega
   simp [h1, h2, this]; omega
  have h2 : inB z 0 20000 = false := by simpa using h2
  simp [h2]
 have h1 : inB a 0 20000 = false := by simpa using h1
 simp [h1]
set_option maxHeartbeats 1000000 in
theorem kspan_any (a z lo hi wide : Int) (hl : 0 ≤ lo) (hh : hi ≤ 100000) (hw : 0 ≤ wide ∧ wide ≤ 100000) (w : World) :
  Calls Tryz.prog 86 #[.agg #[.int .i64 a, .int .i64 z], .int .i64 lo, .int .i64 hi, .int .i64 wide] w fun e w' => e = .returned (.int .i64 (spanE a z lo hi wide)) ∧ Below w.heap.size w w' := by
 have HE : Hid (spanE a z lo hi wide = if outB lo hi a || outB lo hi z then 7 else if outB a (a + wide) z then 2 else 0) := rfl
 obtain ⟨W, hW⟩ : ∃ W, w.alloc (.cells #[.int .i64 a, .int .i64 z] 23) = W := ⟨_, rfl⟩
 have X : Blk W w.heap.size 23 #[.int .i64 a, .int .i64 z] := by rw [← hW]; exact Blk.new _ _ _ rfl
 have hBW : Below w.heap.size w W := by rw [← hW]; exact bl_alloc (Below.refl _ _) _ (Nat.le_refl _)
 have x0 := X.cell 0
 have x1 := X.cell 1
 have HW := Lib.hid hW
 have HWs : Hid (w.heap.size + 1 = W.heap.size) := by rw [Hid, ← hW]; simp
 clear hW
 cases o1 : (outB lo hi a || outB lo hi z)
 ·have hab : (lo ≤ a ∧ a ≤ hi) := by
   have : outB lo hi a = false := by cases h : outB lo hi a <;> simp_all
   exact outB_iff.1 this
  have hwa : IntKind.i64.wrap (a + wide) = a + wide := by rw [IntKind.wrap_i64]; omega
  clear hab
  cases o2 : outB a (a + wide) z
  ·go_enter Tryz.func86, Tryz.ntmps86
   go_wp2_with fail
   rw [HW.out]
   refine (kout2 _ (by exact newc rfl HWs.out) (by exact newc rfl HWs.out) o1).mono ?_
   rintro e W1 ⟨rfl, b1⟩
   have B1 : Below W.heap.size W W1 := bl_call (bl_alloc (Below.refl _ _) _ (Nat.le_refl _)) b1 (Nat.le_refl _)
   have y0 := getc B1 x0
   have y1 := getc B1 x1
   have HE2 : Hid (spanE a z lo hi wide = 0) := by rw [Hid, HE.out, o1, o2]; rfl
   clear b1 o1 x0 x1
   go_wp2_with fail
   refine (kout1 _ (by exact newc rfl rfl) o2).mono ?_
   rintro e W2 ⟨rfl, b2⟩
   have B2 : Below W.heap.size W W2 := bl_call (bl_alloc B1 _ (Nat.le_refl _)) b2 (Nat.le_refl _)
   clear o2 y0 y1
   go_wp2
   go_ret
   exact ⟨by rw [HE2.out]; rfl, bl_call hBW B2 (Nat.le_refl _)⟩
  go_enter Tryz.func86, Tryz.ntmps86
  go_wp2_with fail
  rw [HW.out]
  refine (kout2 _ (by exact newc rfl HWs.out) (by exact newc rfl HWs.out) o1).mono ?_
  rintro e W1 ⟨rfl, b1⟩
  have B1 : Below W.heap.size W W1 := bl_call (bl_alloc (Below.refl _ _) _ (Nat.le_refl _)) b1 (Nat.le_refl _)
  have y0 := getc B1 x0
  have y1 := getc B1 x1
  have HE2 : Hid (spanE a z lo hi wide = 2) := by rw [Hid, HE.out, o1, o2]; rfl
  clear b1 o1 x0 x1
  go_wp2_with fail
  refine (kout1 _ (by exact newc rfl rfl) o2).mono ?_
  rintro e W2 ⟨rfl, b2⟩
  have B2 : Below W.heap.size W W2 := bl_call (bl_alloc B1 _ (Nat.le_refl _)) b2 (Nat.le_refl _)
  clear o2 y0 y1
  go_wp2
  go_ret
  exact ⟨by rw [HE2.out]; rfl, bl_call hBW B2 (Nat.le_refl _)⟩
 have HE2 : Hid (spanE a z lo hi wide = 7) := by rw [Hid, HE.out, o1]; rfl
 go_enter Tryz.func86, Tryz.ntmps86
 go_wp2_with fail
 rw [HW.out]
 refine (kout2 _ (by exact newc rfl HWs.out) (by exact newc rfl HWs.out) o1).mono ?_
 rintro e W1 ⟨rfl, b1⟩
 have B1 : Below W.heap.size W W1 := bl_call (bl_alloc (Below.refl _ _) _ (Nat.le_refl _)) b1 (Nat.le_refl _)
 clear b1 o1 x0 x1
 go_wp2
 go_ret
 exact ⟨by rw [HE2.out]; rfl, bl_call hBW B1 (Nat.le_refl _)⟩
theorem ksize_any (a z : Int) (w : World) :
  Calls Tryz.prog 53 #[.agg #[.int .i64 a, .int .i64 z]] w fun e w' => e = .returned (.int .i64 (rangeE ⟨a, z⟩ 0 20000)) ∧ Below w.heap.size w w' := by
 go_enter Tryz.func53, Tryz.ntmps53
 go_wp2_with (go_at_call 86; refine (kspan_any a z 0 20000 20000 (by decide) (by decide) (by decide) _).mono ?_; rintro e w' ⟨rfl, hb⟩)
 go_ret
 exact ⟨by rw [← spanE_range]; rfl, bl_call (bl_alloc (Below.refl _ _) _ (Nat.le_refl _)) hb (Nat.le_refl _)⟩
def MouldR : Rd Mould := fun _ _ x vs => ∃ s : ByteArray, vs = [.string s, .int .i64 x.slo, .int .i64 x.shi, .int .i64 x.wlo, .int .i64 x.whi, .int .i64 x.casts] ∧ s.data.toList = x.name ∧ s.size ≤ 9223372036854775807
theorem MouldR.good : MouldR.Good 6 where
 len := by rintro S w x vs ⟨s, rfl, _⟩; rfl
 one := by rintro S w x vs ⟨s, rfl, _⟩ v hv; simp at hv; rcases hv with rfl | rfl | rfl | rfl | rfl | rfl <;> rfl
 keep := by rintro S w w' x vs h hk; exact h
 mono := by rintro S T w x vs h hk; exact h
 bound := by rintro S w x vs h; exact h
def SeenCR : Rd SeenC := fun _ _ x vs => vs = [.int .i64 x.mould, .int .i64 x.cast, .int .i64 x.lo, .int .i64 x.hi]
theorem SeenCR.good : SeenCR.Good 4 where
 len := by rintro S w x vs rfl; rfl
 one := by rintro S w x vs rfl v hv; simp at hv; rcases hv with rfl | rfl | rfl | rfl <;> rfl
 keep := by rintro S w w' x vs h hk; exact h
 mono := by rintro S T w x vs h hk; exact h
 bound := by rintro S w x vs h; exact h
def PairR : Rd (Int × Int) := fun _ _ x vs => vs = [.int .i64 x.1, .int .i64 x.2]
theorem PairR.good : PairR.Good 2 where
 len := by rintro S w x vs rfl; rfl
 one := by rintro S w x vs rfl v hv; simp at hv; rcases hv with rfl | rfl <;> rfl
 keep := by rintro S w w' x vs h hk; exact h
 mono := by rintro S T w x vs h hk; exact h
 bound := by rintro S w x vs h; exact h
def PlR : Rd (Nat × Nat) := fun _ _ x vs => vs = [.int .i64 (x.1 : Int), .int .i64 (x.2 : Int)]
theorem PlR.good : PlR.Good 2 where
 len := by rintro S w x vs rfl; rfl
 one := by rintro S w x vs rfl v hv; simp at hv; rcases hv with rfl | rfl <;> rfl
 keep := by rintro S w w' x vs h hk; exact h
 mono := by rintro S T w x vs h hk; exact h
 bound := by rintro S w x vs h; exact h
abbrev Moulds := SliceOf MouldR 6
abbrev SeenCs := SliceOf SeenCR 4
abbrev Pairs := SliceOf PairR 2
abbrev Pls := SliceOf PlR 2
section
variable {S : Foot} {w : World} {A : Option Addr} {n k : Nat}
theorem Moulds.get {xs : List Mould} (h : Moulds S w A n xs) (hk : k < n) :
  ∃ b off s a z y u c, A = some ⟨b, off, none⟩ ∧ b < w.heap.size ∧ w.cell? ⟨b, off + k * 6, none⟩ = some (.string s) ∧ w.cell? ⟨b, off + k * 6 + 1, none⟩ = some (.int .i64 a) ∧ w.cell? ⟨b, off + k * 6 + 2, none⟩ = some (.int .i64 z) ∧ w.cell? ⟨b, off + k * 6 + 3, none⟩ = some (.int .i64 y) ∧ w.cell? ⟨b, off + k * 6 + 4, none⟩ = some (.int .i64 u) ∧ w.cell? ⟨b, off + k * 6 + 5, none⟩ = some (.int .i64 c) ∧ s.size ≤ 9223372036854775807 ∧ Hid (xs[k]? = some ⟨s.data.toList, a, z, y, u, c⟩) := by
 have hlt : k < xs.length := by rw [h.1]; exact hk
 obtain ⟨b, off, vs, hA, _, hb, ⟨s, rfl, hn, hs⟩, hc⟩ := h.2.2 k xs[k] (List.getElem?_eq_getElem hlt)
 exact ⟨b, off, s, xs[k].slo, xs[k].shi, xs[k].wlo, xs[k].whi, xs[k].casts, hA, hb, by simpa using hc 0 _ rfl, by simpa using hc 1 _ rfl, by simpa using hc 2 _ rfl, by simpa using hc 3 _ rfl, by simpa using hc 4 _ rfl, by simpa using hc 5 _ rfl, hs, by rw [Hid, hn]; exact List.getElem?_eq_getElem hlt⟩
theorem SeenCs.get {xs : List SeenC} (h : SeenCs S w A n xs) (hk : k < n) :
  ∃ b off a z y u, A = some ⟨b, off, none⟩ ∧ b < w.heap.size ∧ w.cell? ⟨b, off + k * 4, none⟩ = some (.int .i64 a) ∧ w.cell? ⟨b, off + k * 4 + 1, none⟩ = some (.int .i64 z) ∧ w.cell? ⟨b, off + k * 4 + 2, none⟩ = some (.int .i64 y) ∧ w.cell? ⟨b, off + k * 4 + 3, none⟩ = some (.int .i64 u) ∧ Hid (xs[k]? = some ⟨a, z, y, u⟩) := by
 have hlt : k < xs.length := by rw [h.1]; exact hk
 obtain ⟨b, off, vs, hA, _, hb, rfl, hc⟩ := h.2.2 k xs[k] (List.getElem?_eq_getElem hlt)
 exact ⟨b, off, xs[k].mould, xs[k].cast, xs[k].lo, xs[k].hi, hA, hb, by simpa using hc 0 _ rfl, by simpa using hc 1 _ rfl, by simpa using hc 2 _ rfl, by simpa using hc 3 _ rfl, List.getElem?_eq_getElem hlt⟩
theorem Pairs.get {xs : List (Int × Int)} (h : Pairs S w A n xs) (hk : k < n) :
  ∃ b off a z, A = some ⟨b, off, none⟩ ∧ b < w.heap.size ∧ w.cell? ⟨b, off + k * 2, none⟩ = some (.int .i64 a) ∧ w.cell? ⟨b, off + k * 2 + 1, none⟩ = some (.int .i64 z) ∧ Hid (xs[k]? = some (a, z)) := by
 have hlt : k < xs.length := by rw [h.1]; exact hk
 obtain ⟨b, off, vs, hA, _, hb, rfl, hc⟩ := h.2.2 k xs[k] (List.getElem?_eq_getElem hlt)
 exact ⟨b, off, xs[k].1, xs[k].2, hA, hb, by simpa using hc 0 _ rfl, by simpa using hc 1 _ rfl, List.getElem?_eq_getElem hlt⟩
theorem Pls.get {xs : List (Nat × Nat)} (h : Pls S w A n xs) (hk : k < n) :
  ∃ (b off a z : Nat), A = some ⟨b, off, none⟩ ∧ b < w.heap.size ∧ w.cell? ⟨b, off + k * 2, none⟩ = some (.int .i64 (a : Int)) ∧ w.cell? ⟨b, off + k * 2 + 1, none⟩ = some (.int .i64 (z : Int)) ∧ Hid (xs[k]? = some (a, z)) := by
 have hlt : k < xs.length := by rw [h.1]; exact hk
 obtain ⟨b, off, vs, hA, _, hb, rfl, hc⟩ := h.2.2 k xs[k] (List.getElem?_eq_getElem hlt)
 exact ⟨b, off, xs[k].1, xs[k].2, hA, hb, by simpa using hc 0 _ rfl, by simpa using hc 1 _ rfl, List.getElem?_eq_getElem hlt⟩
end
theorem eg_KF : Enters Tryz.prog 118 := enters_of Tryz.func118 (by kernel_rfl) rfl
theorem eqKF_any (s t : ByteArray) (a z y u c : Int) (g : Nat) (w : World) (hg : w.cell? ⟨g, 0, none⟩ = some (.string t)) :
  Calls Tryz.prog 118 #[.agg #[.string s, .int .i64 a, .int .i64 z, .int .i64 y, .int .i64 u, .int .i64 c], .pointer (some ⟨g, 0, none⟩)] w fun e w' => e = .returned (.bool (decide (s.data.toList = t.data.toList))) ∧ Below w.heap.size w w' := by
 have h1 := oldc (o := .cells #[.string s, .int .i64 a, .int .i64 z, .int .i64 y, .int .i64 u, .int .i64 c] 51) hg
 by_cases hm : s.data.toList = t.data.toList
 ·have hmb := streq_t hm
  have HM := Lib.hid hm
  clear hm
  go_enter Tryz.func118, Tryz.ntmps118
  go_wp2
  go_ret
  exact ⟨ret_bool (by rw [decide_eq_true HM.out]), bl_alloc (Below.refl _ _) _ (Nat.le_refl _)⟩
 have hmb := streq_f hm
 have HM := Lib.hid hm
 clear hm
 go_enter Tryz.func118, Tryz.ntmps118
 go_wp2
 go_ret
 exact ⟨ret_bool (by rw [decide_eq_false HM.out]), bl_alloc (Below.refl _ _) _ (Nat.le_refl _)⟩
set_option maxHeartbeats 1000000 in
theorem indexKF_any {S : Foot} {A : Option Addr} {n c : Nat} {xs : List Mould} (t : ByteArray) (g : Nat) (w : World) (h : Moulds S w A n xs) (hg : w.cell? ⟨g, 0, none⟩ = some (.string t)) :
  Calls Tryz.prog 139 #[.slice A n c, .func (.func 118) #[] #[.pointer (some ⟨g, 0, none⟩)]] w fun e w' => (∃ r : Int, e = .returned (.int .i64 r) ∧ Hid (decide (0 ≤ r) = decide (t.data.toList ∈ xs.map (·.name)))) ∧ Below w.heap.size w w' := by
 have hle := h.le
 have Hn0 := Lib.hid h.len
 have eg : ∀ args w, (callFunc 118 args).run Tryz.prog w = .ok (.enter 118 args) w := eg_KF
 have EG := Lib.hid eg
 clear eg
 go_enter Tryz.func139, Tryz.ntmps139
 go_wp2
 go_loopw [5, 8] (fun _ i wr => ∃ k : Nat, k ≤ n ∧ i = .int .i64 k ∧ Below w.heap.size w wr ∧ Hid (t.data.toList ∉ (xs.take k).map (·.name))) (fun _ i _ => n - (intOf i).toNat)
 case atStart => exact ⟨0, Nat.zero_le _, rfl, Below.refl _ _, by simp [Hid]⟩
 case round =>
  obtain ⟨k, hk, rfl, hB, Hk⟩ := hrel
  by_cases hlt : k < n
  ·have hki : (k : Int) < n := by omega
   have hr := h.keep MouldR.good (Keeps.below hB)
   obtain ⟨b, off, s, a, z, y, u, c5, rfl, hb0, hc0, hc1, hc2, hc3, hc4, hc5, hs, Hx⟩ := Moulds.get hr hlt
   have hcall := eqKF_any s t a z y u c5 g wr (getc hB hg)
   by_cases hm : s.data.toList = t.data.toList
   ·have HM := Lib.hid hm
    rw [decide_eq_true hm] at hcall
    clear hm
    go_wp2_with (go_at_call 118; refine hcall.mono ?_; rintro e w2 ⟨rfl, hb2⟩)
    go_ret
    refine ⟨⟨_, rfl, ?_⟩, bl_call hB hb2 (Nat.le_refl _)⟩
    have hmem : t.data.toList ∈ xs.map (·.name) := List.mem_map.2 ⟨_, List.mem_of_getElem? Hx.out, HM.out⟩
    rw [Hid, decide_eq_true hmem]; simp
   have HM := Lib.hid hm
   rw [decide_eq_false hm] at hcall
   clear hm
   go_wp2_with (go_at_call 118; refine hcall.mono ?_; rintro e w2 ⟨rfl, hb2⟩)
   go_roundw
   case rel => exact ⟨k + 1, by omega, by go_num, bl_call hB hb2 (Nat.le_refl _), by rw [Hid, take_snoc_get Hx.out, List.map_append, List.mem_append]; exact fun hc => hc.elim Hk.out (fun e => HM.out (List.mem_singleton.1 e).symm)⟩
   case measure => simp [intOf]; omega
  obtain rfl : k = n := by omega
  go_wp2
  go_ret
  refine ⟨⟨_, rfl, ?_⟩, hB⟩
  have := Hk.out
  rw [List.take_of_length_le (by rw [Hn0.out]; exact Nat.le_refl _)] at this
  rw [Hid, decide_eq_false this]; rfl
theorem hasKF_any {S : Foot} {A : Option Addr} {n c : Nat} {xs : List Mould} (t : ByteArray) (g : Nat) (w : World) (h : Moulds S w A n xs) (hg : w.cell? ⟨g, 0, none⟩ = some (.string t)) :
  Calls Tryz.prog 117 #[.slice A n c, .func (.func 118) #[] #[.pointer (some ⟨g, 0, none⟩)]] w fun e w' => e = .returned (.bool (decide (t.data.toList ∈ xs.map (·.name)))) ∧ Below w.heap.size w w' := by
 have hle := h.le
 go_enter Tryz.func117, Tryz.ntmps117
 go_wp2_with (go_at_call 139; refine (indexKF_any t g _ h hg).mono ?_; rintro e w' ⟨⟨r, rfl, Hr⟩, hb⟩)
 go_ret
 exact ⟨ret_bool Hr.out, hb⟩
end Go.Proofs.YtdbfincinjoppaaGreat
