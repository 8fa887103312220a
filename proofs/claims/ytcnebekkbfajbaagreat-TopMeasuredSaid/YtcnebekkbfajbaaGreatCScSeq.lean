/- A part of the proof that TopMeasured always answers true. -/
import Derived.RangeFuncKeeps
import Derived.OwnWalkIn
import Derived.TacticsInMore
import Derived.LoopNIn
import Derived.LoopIn
import Derived.Test.YtcnebekkbfajbaaGreatCIter2
import Derived.Test.YtcnebekkbfajbaaGreatCScCut
set_option linter.all false
namespace Go.Proofs.YtcnebekkbfajbaaGreat
open Go.RowKit Go.Shelf
attribute [local go_sem] Oper.semAt_some
theorem eg_scales : Enters Tryz.prog 91 := enters_of Tryz.func91 (by kernel_rfl) rfl
def zV (z : Nat × Nat) : Value := .agg #[.int .i64 (z.1 : Int), .int .i64 (z.2 : Int)]
def BtF (gb gy : Nat) : Value := .func (.func 92) #[] #[.pointer (some ⟨gb, 0, none⟩), .pointer (some ⟨gy, 0, none⟩)]
def RoundZ (l : Nat) (O0 : Foot) (J : Nat → Foot → World → Prop) (Jx : Foot → World → Prop) (W : World) (L : List (Nat × Nat)) : Prop :=
 ∀ i x O A, L[i]? = some x → J i O A → (∀ k, O k → k < A.heap.size) → (∀ k, O k → O0 k ∨ W.heap.size ≤ k) → Kept (fun k => O0 k ∨ W.heap.size ≤ k) W A →
  ∀ m, YieldAt Fence.wide m Tryz.prog l #[zV x] A fun e B => ∃ O' : Foot, (∀ k, O' k → O k ∨ (A.heap.size ≤ k ∧ k < B.heap.size)) ∧ Kept O A B ∧
   ((e = .returned (.bool true) ∧ J (i + 1) O' B) ∨ (e = .returned (.bool false) ∧ Jx O' B))
def StaysZ (J : Foot → World → Prop) : Prop := ∀ O A B, J O A → (∀ k, O k → k < A.heap.size) → Kept (fun k => ¬ O k) A B → J O B
structure BtwSt (w : World) (O : Foot) (l gb gy : Nat) : Prop where
 y : Blk w gy 170 #[.func (.yield l) #[] #[]]
 b : Blk w gb 171 #[BtF gb gy]
 oy : ¬ O gy
 ob : ¬ O gb
theorem BtwSt.kept {w w' : World} {O O' : Foot} {l gb gy : Nat} (h : BtwSt w O l gb gy) (hk : Kept O w w') (hO : ∀ k, O' k → O k ∨ (w.heap.size ≤ k ∧ k < w'.heap.size)) : BtwSt w' O' l gb gy :=
 ⟨(hk.block gy h.y.lt h.oy).trans h.y, (hk.block gb h.b.lt h.ob).trans h.b, fun hh => (hO _ hh).elim h.oy (fun h2 => by have := h.y.lt; omega), fun hh => (hO _ hh).elim h.ob (fun h2 => by have := h.b.lt; omega)⟩
def BtwPost (J : Nat → Foot → World → Prop) (Jx : Foot → World → Prop) (s : Nat) (O : Foot) (A : World) (e : Ending) (B : World) : Prop :=
 ∃ O' : Foot, (∀ k, O' k → O k ∨ (A.heap.size ≤ k ∧ k < B.heap.size)) ∧ Kept O A B ∧ ((e = .returned (.bool true) ∧ J s O' B) ∨ (e = .returned (.bool false) ∧ Jx O' B))
theorem sb_stop {f a b c d : Nat} (h : 30 < a + c ∨ 30 < b + d) : sbL f a b c d = [] := by
 cases f with
 | zero => rfl
 | succ f => unfold sbL; rw [if_pos h]
theorem sb_go {f a b c d : Nat} (h : ¬ (30 < a + c ∨ 30 < b + d)) : sbL (f + 1) a b c d = sbL f a b (a + c) (b + d) ++ (a + c, b + d) :: sbL f (a + c) (b + d) c d := by
 rw [sbL, if_neg h]
set_option maxRecDepth 100000 in
set_option maxHeartbeats 4000000 in
theorem btw_in (l gb gy : Nat) (O0 : Foot) (J : Nat → Foot → World → Prop) (Jx : Foot → World → Prop) (W : World) (L : List (Nat × Nat))
  (hJ : ∀ i, StaysZ (J i)) (hR : RoundZ l O0 J Jx W L) (f : Nat) :
  ∀ (a b c d i : Nat) (O : Foot) (A : World), 122 ≤ f + (a + b + c + d) → 1 ≤ a + b → 1 ≤ c + d → a ≤ 30 ∧ b ≤ 30 ∧ c ≤ 30 ∧ d ≤ 30 → (∀ j u, (sbL f a b c d)[j]? = some u → L[i + j]? = some u) →
   J i O A → (∀ k, O k → k < A.heap.size) → (∀ k, O k → O0 k ∨ W.heap.size ≤ k) → Kept (fun k => O0 k ∨ W.heap.size ≤ k) W A → BtwSt A O l gb gy →
   ∀ N, CallsIn Fence.wide N Tryz.prog 92 #[zV (a, b), zV (c, d), .pointer (some ⟨gb, 0, none⟩), .pointer (some ⟨gy, 0, none⟩)] A
    (BtwPost J Jx (i + (sbL f a b c d).length) O A) := by
 induction f with
 | zero =>
  intro a b c d i O A hf _ _ hb hL hj hOlt hOsub hK hS N
  exact absurd hf (by omega)
 | succ f ih =>
  intro a b c d i O A hf hab hcd hb hL hj hOlt hOsub hK hS N
  obtain ⟨A1, hA1⟩ : ∃ A1, ((A.alloc (.cells #[.int .i64 (a : Int), .int .i64 (b : Int)] 42)).alloc (.cells #[.int .i64 (c : Int), .int .i64 (d : Int)] 42)).alloc (.cells #[.int .i64 ((a + c : Nat) : Int), .int .i64 ((b + d : Nat) : Int)] 42) = A1 := ⟨_, rfl⟩
  have w1 : IntKind.i64.wrap (((a + c : Nat) : Int)) = ((a + c : Nat) : Int) := by rw [IntKind.wrap_i64]; omega
  have w2 : IntKind.i64.wrap (((b + d : Nat) : Int)) = ((b + d : Nat) : Int) := by rw [IntKind.wrap_i64]; omega
  have e1 : (a : Int) + (c : Int) = ((a + c : Nat) : Int) := by omega
  have e2 : (b : Int) + (d : Int) = ((b + d : Nat) : Int) := by omega
  have hKA : Kept (fun _ => False) A A1 := by rw [← hA1]; exact ((Kept.alloc _ _ _).trans (Kept.alloc _ _ _)).trans (Kept.alloc _ _ _)
  have hs1 : A1.heap.size = A.heap.size + 3 := by rw [← hA1]; simp
  have XA : Blk A1 A.heap.size 42 #[.int .i64 (a : Int), .int .i64 (b : Int)] := by rw [← hA1]; exact ((Blk.new _ _ _ rfl).alloc _).alloc _
  have XB : Blk A1 (A.heap.size + 1) 42 #[.int .i64 (c : Int), .int .i64 (d : Int)] := by rw [← hA1]; exact (Blk.new _ _ _ (by simp)).alloc _
  have XS : Blk A1 (A.heap.size + 1 + 1) 42 #[.int .i64 ((a + c : Nat) : Int), .int .i64 ((b + d : Nat) : Int)] := by rw [← hA1]; exact Blk.new _ _ _ (by simp)
  have hj1 : J i O A1 := hJ i O A A1 hj hOlt hKA.any
  have hOlt1 : ∀ k, O k → k < A1.heap.size := fun k hk => by have := hOlt k hk; omega
  have hK1 : Kept (fun k => O0 k ∨ W.heap.size ≤ k) W A1 := hK.seq hKA (fun _ _ h => h.elim)
  have hS1 : BtwSt A1 O l gb gy := hS.kept hKA.any (fun _ h => .inl h)
  obtain ⟨p, hp⟩ : ∃ p, a + c = p := ⟨_, rfl⟩
  obtain ⟨q, hq⟩ : ∃ q, b + d = q := ⟨_, rfl⟩
  rw [hp] at e1 w1 XS
  rw [hq] at e2 w2 XS
  rw [hp, hq] at hA1
  have HP := Lib.hid hp
  have HQ := Lib.hid hq
  have za0 := (show Blk ((A.alloc (.cells #[.int .i64 (a : Int), .int .i64 (b : Int)] 42)).alloc (.cells #[.int .i64 (c : Int), .int .i64 (d : Int)] 42)) A.heap.size 42 #[.int .i64 (a : Int), .int .i64 (b : Int)] from (Blk.new _ _ _ rfl).alloc _)
  have zb0 := (show Blk ((A.alloc (.cells #[.int .i64 (a : Int), .int .i64 (b : Int)] 42)).alloc (.cells #[.int .i64 (c : Int), .int .i64 (d : Int)] 42)) (A.heap.size + 1) 42 #[.int .i64 (c : Int), .int .i64 (d : Int)] from Blk.new _ _ _ (by simp))
  have xa0 := za0.cell 0
  have xa1 := za0.cell 1
  have xb0 := zb0.cell 0
  have xb1 := zb0.cell 1
  have xs0 := XS.cell 0
  have xs1 := XS.cell 1
  have xA0 := XA.cell 0
  have xA1 := XA.cell 1
  have xbt := hS1.b.cell 0
  unfold BtF at xbt
  by_cases hst : 30 < p ∨ 30 < q
  ·rw [sb_stop (by omega)]
   clear ih hL
   by_cases h9 : 30 < p
   ·have h9i : (30 : Int) < (p : Int) := by omega
    clear hp hq
    refine callsIn_of_wp Tryz.func92 rfl trivial ?_ rfl
    simp only [Tryz.ntmps92, zV, List.size_toArray, List.length_cons, List.length_nil, Nat.reduceAdd, Nat.reduceSub, Array.replicate_succ, Array.replicate_zero, List.push_toArray, List.append_toArray, List.nil_append, List.cons_append]
    gi_wp2
    go_ret
    exact ⟨O, fun _ h => .inl h, hKA.any, .inl ⟨rfl, hj1⟩⟩
   have h9i : ¬ (30 : Int) < (p : Int) := by omega
   have h8i : (30 : Int) < (q : Int) := by omega
   clear hp hq
   refine callsIn_of_wp Tryz.func92 rfl trivial ?_ rfl
   simp only [Tryz.ntmps92, zV, List.size_toArray, List.length_cons, List.length_nil, Nat.reduceAdd, Nat.reduceSub, Array.replicate_succ, Array.replicate_zero, List.push_toArray, List.append_toArray, List.nil_append, List.cons_append]
   gi_wp2
   go_ret
   exact ⟨O, fun _ h => .inl h, hKA.any, .inl ⟨rfl, hj1⟩⟩
  have h9i : ¬ (30 : Int) < (p : Int) := by omega
  have h8i : ¬ (30 : Int) < (q : Int) := by omega
  have hgo : sbL (f + 1) a b c d = sbL f a b p q ++ (p, q) :: sbL f p q c d := by rw [← hp, ← hq]; exact sb_go (by omega)
  rw [hgo]
  rw [hgo] at hL
  obtain ⟨n1, hn1⟩ : ∃ n, (sbL f a b p q).length = n := ⟨_, rfl⟩
  have hc1 := ih a b p q i O A1 (by omega) hab (by omega) (by omega) (fun j u hu => hL j u (by
   rw [List.getElem?_append_left (List.getElem?_eq_some_iff.1 hu).1]; exact hu)) hj1 hOlt1 hOsub hK1 hS1 (N - 1)
  rw [hn1] at hc1
  simp only [zV] at hc1
  have hL2 : L[i + n1]? = some (p, q) := hL n1 _ (by rw [List.getElem?_append_right (by omega), hn1]; simp)
  have hL3 : ∀ j u, (sbL f p q c d)[j]? = some u → L[i + n1 + 1 + j]? = some u := fun j u hu => by
   rw [show i + n1 + 1 + j = i + (n1 + 1 + j) by omega]
   exact hL (n1 + 1 + j) u (by rw [List.getElem?_append_right (by omega), hn1, show n1 + 1 + j - n1 = j + 1 by omega]; simpa using hu)
  have HLN : Hid (i + (sbL f a b p q ++ (p, q) :: sbL f p q c d).length = i + n1 + 1 + (sbL f p q c d).length) := by rw [Hid, List.length_append, hn1, List.length_cons]; omega
  rw [HLN.out]
  have HC := Lib.hid hc1
  have IH := Lib.hid ih
  have HL2 := Lib.hid hL2
  have HL3 := Lib.hid hL3
  have HSA := Lib.hid hs1
  clear ih hL hc1 hL2 hL3 hp hq hgo hn1 hs1
  refine callsIn_of_wp Tryz.func92 rfl trivial ?_ rfl
  simp only [Tryz.ntmps92, zV, List.size_toArray, List.length_cons, List.length_nil, Nat.reduceAdd, Nat.reduceSub, Array.replicate_succ, Array.replicate_zero, List.push_toArray, List.append_toArray, List.nil_append, List.cons_append]
  gi_wp2_with fail
  refine ⟨trivial, (fun h => by cases h), ?_⟩
  refine HC.out.mono ?_
  rintro e B1 ⟨O1, hO1, KB1, hcase⟩
  clear HC xa0 xa1 xb0 xb1 xs0 xs1 xA0 xA1 xbt
  have hOg : ∀ k, O k → k < A.heap.size := hOlt
  have M1 : Kept O A B1 := hKA.any.seq KB1 (fun _ _ h => h)
  have hO1a : ∀ k, O1 k → O k ∨ (A.heap.size ≤ k ∧ k < B1.heap.size) := fun k hk => by
   rcases hO1 k hk with h | ⟨h1, h2⟩
   ·exact .inl h
   exact .inr ⟨by have := HSA.out; omega, h2⟩
  have hz1 := KB1.size
  have hO1g : ∀ k, A.heap.size ≤ k → k < A1.heap.size → ¬ O1 k := fun k h1 h2 hk => by
   rcases hO1 k hk with h | ⟨h3, h4⟩
   ·have := hOlt k h; omega
   omega
  have YS : Blk B1 (A.heap.size + 1 + 1) 42 #[.int .i64 (p : Int), .int .i64 (q : Int)] := (KB1.block _ XS.lt (fun h => by have := hOlt _ h; omega)).trans XS
  have YB : Blk B1 (A.heap.size + 1) 42 #[.int .i64 (c : Int), .int .i64 (d : Int)] := (KB1.block _ XB.lt (fun h => by have := hOlt _ h; omega)).trans XB
  have T1 : BtwSt B1 O1 l gb gy := hS1.kept KB1 hO1
  rcases hcase with ⟨rfl, hj2⟩ | ⟨rfl, hx2⟩
  ·have hO1lt : ∀ k, O1 k → k < B1.heap.size := fun k hk => (hO1a k hk).elim (fun h => by have := hOlt k h; have := M1.size; omega) (fun h => h.2)
   have hWA := hK.size
   have hO1sub : ∀ k, O1 k → O0 k ∨ W.heap.size ≤ k := fun k hk => (hO1a k hk).elim (hOsub k) (fun h => .inr (by omega))
   have hKW1 : Kept (fun k => O0 k ∨ W.heap.size ≤ k) W B1 := hK.seq M1 (fun k _ h => hOsub k h)
   obtain ⟨fn, tmps, assign, body, hy, hRd⟩ := hR (i + n1) (p, q) O1 B1 HL2.out hj2 hO1lt hO1sub hKW1 (N - 1)
   simp only [zV] at hy
   have ys0 := YS.cell 0
   have ys1 := YS.cell 1
   have yy := T1.y.cell 0
   have HRd := Lib.hid hRd
   have HT1 := Lib.hid T1
   clear hRd T1
   gi_wp2_with fail
   refine ⟨(fun h => by cases h), ?_⟩
   refine HRd.out.mono ?_
   rintro e B2 ⟨O2, hO2, KB2, hcase⟩
   clear HRd ys0 ys1 yy hy
   have M2 : Kept O A B2 := M1.seq KB2 (fun k hk h => by
    rcases hO1a k h with h | ⟨h3, h4⟩
    ·exact h
    omega)
   have hz2 := KB2.size
   have hO2a : ∀ k, O2 k → O k ∨ (A.heap.size ≤ k ∧ k < B2.heap.size) := fun k hk => by
    rcases hO2 k hk with h | ⟨h1, h2⟩
    ·rcases hO1a k h with h | ⟨h3, h4⟩
     ·exact .inl h
     exact .inr ⟨h3, by omega⟩
    exact .inr ⟨by have := M1.size; omega, h2⟩
   have ZS : Blk B2 (A.heap.size + 1 + 1) 42 #[.int .i64 (p : Int), .int .i64 (q : Int)] := (KB2.block _ YS.lt (hO1g _ (by omega) (by have := HSA.out; omega))).trans YS
   have ZB : Blk B2 (A.heap.size + 1) 42 #[.int .i64 (c : Int), .int .i64 (d : Int)] := (KB2.block _ YB.lt (hO1g _ (by omega) (by have := HSA.out; omega))).trans YB
   have T2 : BtwSt B2 O2 l gb gy := HT1.out.kept KB2 hO2
   rcases hcase with ⟨rfl, hj3⟩ | ⟨rfl, hx3⟩
   ·have hO2lt : ∀ k, O2 k → k < B2.heap.size := fun k hk => (hO2a k hk).elim (fun h => by have := hOlt k h; have := M2.size; omega) (fun h => h.2)
    have hO2sub : ∀ k, O2 k → O0 k ∨ W.heap.size ≤ k := fun k hk => (hO2a k hk).elim (hOsub k) (fun h => .inr (by omega))
    have hKW2 : Kept (fun k => O0 k ∨ W.heap.size ≤ k) W B2 := hK.seq M2 (fun k _ h => hOsub k h)
    have hp2 := HP.out
    have hq2 := HQ.out
    have hc2 := IH.out p q c d (i + n1 + 1) O2 B2 (by omega) (by omega) hcd (by omega) HL3.out hj3 hO2lt hO2sub hKW2 T2 (N - 1)
    simp only [zV] at hc2
    have HC2 := Lib.hid hc2
    have zs0 := ZS.cell 0
    have zs1 := ZS.cell 1
    have zb0 := ZB.cell 0
    have zb1 := ZB.cell 1
    have zt := T2.b.cell 0
    unfold BtF at zt
    clear hc2 hp2 hq2
    gi_wp2_with fail
    refine ⟨trivial, (fun h => by cases h), ?_⟩
    refine HC2.out.mono ?_
    rintro e B3 ⟨O3, hO3, KB3, hcase⟩
    clear HC2 zs0 zs1 zb0 zb1 zt
    have M3 : Kept O A B3 := M2.seq KB3 (fun k hk h => by
     rcases hO2a k h with h | ⟨h3, h4⟩
     ·exact h
     omega)
    have hz3 := KB3.size
    have hO3a : ∀ k, O3 k → O k ∨ (A.heap.size ≤ k ∧ k < B3.heap.size) := fun k hk => by
     rcases hO3 k hk with h | ⟨h1, h2⟩
     ·rcases hO2a k h with h | ⟨h3, h4⟩
      ·exact .inl h
      exact .inr ⟨h3, by omega⟩
     exact .inr ⟨by have := M2.size; omega, h2⟩
    rcases hcase with ⟨rfl, hj4⟩ | ⟨rfl, hx4⟩
    ·gi_wp2
     go_ret
     exact ⟨O3, hO3a, M3, .inl ⟨rfl, hj4⟩⟩
    gi_wp2
    go_ret
    exact ⟨O3, hO3a, M3, .inr ⟨rfl, hx4⟩⟩
   gi_wp2
   refine ⟨(fun _ h => by cases h), ?_⟩
   gi_wp2
   go_ret
   exact ⟨O2, hO2a, M2, .inr ⟨rfl, hx3⟩⟩
  gi_wp2
  refine ⟨(fun _ h => by cases h), ?_⟩
  gi_wp2
  refine ⟨(fun _ h => by cases h), ?_⟩
  gi_wp2
  go_ret
  exact ⟨O1, hO1a, M1, .inr ⟨rfl, hx2⟩⟩
theorem scales_seq : SeqL Tryz.prog 91 #[] (fun z => #[zV z]) scalesN (fun _ => True) := by
 intro l O0 J Jx W hO0 _ hJ hJx hR h0
 obtain ⟨W1, hW1⟩ : ∃ W1, (W.alloc (.cells #[.func (.yield l) #[] #[]] 170)).alloc (.cells #[.nilFunc] 171) = W1 := ⟨_, rfl⟩
 have Y : Blk W1 W.heap.size 170 #[.func (.yield l) #[] #[]] := by rw [← hW1]; exact (Blk.new _ _ _ rfl).alloc _
 have B : Blk W1 (W.heap.size + 1) 171 #[.nilFunc] := by rw [← hW1]; exact Blk.new _ _ _ (by simp)
 obtain ⟨W2, hW2⟩ : ∃ W2, W1.setCell ⟨W.heap.size + 1, 0, none⟩ (BtF (W.heap.size + 1) W.heap.size) = W2 := ⟨_, rfl⟩
 have hK2 : Kept (fun _ => False) W W2 := by
  have h1 : Kept (fun _ => False) W W1 := by rw [← hW1]; exact (Kept.alloc _ _ _).trans (Kept.alloc _ _ _)
  rw [← hW2]
  exact h1.seq (Kept.setCell (M := fun k => k = W.heap.size + 1) _ _ _ rfl) (fun k hk h => by omega)
 have Y2 : Blk W2 W.heap.size 170 #[.func (.yield l) #[] #[]] := by rw [← hW2]; exact Y.far (by simp) _
 have B2 : Blk W2 (W.heap.size + 1) 171 #[BtF (W.heap.size + 1) W.heap.size] := by rw [← hW2]; exact B.set_ 0 _
 have hb0 := B.cell 0
 have hf0 := B.frozen 0
 have hbl := B.lt
 have hb2 := B2.cell 0
 have hsz : W2.heap.size = W.heap.size + 2 := by rw [← hW2, ← hW1]; simp [World.setCell]
 have hc := btw_in l (W.heap.size + 1) W.heap.size O0 J Jx W scalesN (fun i O A B => hJ i O A B) hR 120 0 1 1 0 0 O0 W2 (by omega) (by omega) (by omega) (by omega) (fun j u hu => by rw [Nat.zero_add]; exact hu) (hJ 0 O0 W W2 h0 hO0 hK2.any) (fun k hk => by have := hO0 k hk; omega) (fun k hk => .inl hk) hK2.any ⟨Y2, B2, fun h => by have := hO0 _ h; omega, fun h => by have := hO0 _ h; omega⟩ 0
 rw [Nat.zero_add] at hc
 simp only [zV] at hc
 have HC := Lib.hid hc
 have HK2 := Lib.hid hK2
 have HSZ := Lib.hid hsz
 unfold BtF at hW2 hb2
 clear hc hK2 Y B Y2 B2 hsz
 refine (callsIn_wide (n := 1)).1 ?_
 refine callsIn_of_wp Tryz.func91 rfl trivial ?_ rfl
 simp only [Tryz.ntmps91, List.size_toArray, List.length_cons, List.length_nil, Nat.reduceAdd, Nat.reduceSub, Array.replicate_succ, Array.replicate_zero, List.push_toArray, List.append_toArray, List.nil_append, List.cons_append]
 gi_wp2_with fail
 refine ⟨trivial, ?_⟩
 refine HC.out.mono ?_
 rintro e B3 ⟨O1, hO1, KB, hcase⟩
 have HK3 : Hid (Kept (fun k => O0 k ∨ W.heap.size ≤ k) W B3) := HK2.out.any.seq KB (fun k _ h => .inl h)
 have HO3 : Hid (∀ k, O1 k → O0 k ∨ (W.heap.size ≤ k ∧ k < B3.heap.size)) := fun k hk => by
  rcases hO1 k hk with h | ⟨h1, h2⟩
  ·exact .inl h
  exact .inr ⟨by have := HSZ.out; omega, h2⟩
 clear HC KB hO1 hb0 hf0 hbl hb2
 rcases hcase with ⟨rfl, hj⟩ | ⟨rfl, hx⟩
 ·gi_wp2
  go_end0
  exact ⟨⟨_, rfl⟩, HK3.out, O1, HO3.out, .inl hj⟩
 gi_wp2
 go_end0
 exact ⟨⟨_, rfl⟩, HK3.out, O1, HO3.out, .inr hx⟩
theorem sscales_any (w : World) : Calls Tryz.prog 60 #[] w fun e w' => e = .returned (.func (.func 91) #[] #[]) ∧ w' = w := by
 go_enter Tryz.func60, Tryz.ntmps60
 go_wp2
 go_ret
 exact ⟨rfl, rfl⟩
end Go.Proofs.YtcnebekkbfajbaaGreat
