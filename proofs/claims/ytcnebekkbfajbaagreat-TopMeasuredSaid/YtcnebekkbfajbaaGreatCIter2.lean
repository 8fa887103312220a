/- A part of the proof that TopMeasured always answers true. -/
import Derived.OwnWalkIn
import Derived.RangeFuncKeeps
import Derived.TacticsInMore
import Derived.LoopNIn
import Derived.LoopIn
import Derived.Laws.EntriesVeiled
import Derived.Test.YtcnebekkbfajbaaGreatCIter
import Derived.Test.YtcnebekkbfajbaaGreatCKSeen
import Derived.Test.YtcnebekkbfajbaaGreatCRegion
set_option linter.all false
namespace Go.Proofs.YtcnebekkbfajbaaGreat
open Go.RowKit
theorem fold1 (p : Tmp) (v : Value) (t : Array Value) : ((#[p] : Array Tmp).zip #[v]).foldl (fun t (p, v) => t.setIfInBounds p v) t = t.setIfInBounds p v := by simp
def RoundOf (F : Fence) (n m : Nat) (P : Program) (ps : Array Tmp) (assign body : Code) (tmps : Array Value) (O0 : Foot) (W0 : World) (J : Nat → Foot → World → Prop) (Jx : Code → Foot → World → Prop) {α : Type} (enc : α → Array Value) (L : List α) : Prop :=
 ∀ (l : Nat) (i : Nat) (x : α) (O : Foot) (A : World), L[i]? = some x → J i O A → (∀ k, O k → k < A.heap.size) → (∀ k, O k → O0 k ∨ W0.heap.size ≤ k) → Kept (fun k => O0 k ∨ W0.heap.size ≤ k) W0 A → ¬ O l → l < A.heap.size → W0.heap.size ≤ l →
  assign.wpIn (F.inRound l) m P (Exit.then (fun a1 A1 => Kept (fun _ => False) A A1 ∧ ∀ A2, Kept (fun k => k = l) A1 A2 → A2.heap.size = A1.heap.size → (∃ r2, A2.heap[l]? = some (.loop r2)) → body.wpIn (F.inRound l) m P (roundEnd l A A2 O (J (i + 1)) Jx) a1 A2) (fun _ _ _ => False))
   { tmps := (ps.zip (enc x)).foldl (fun t (p, v) => t.setIfInBounds p v) tmps, defers := [] } A
theorem rangeFunc_outer {α : Type} {n m : Nat} {P : Program} {g : Operand} {ps : Array Tmp} {assign body : Code} {Q : Exit → Act → World → Prop} {a : Act} {w : World}
    {gf : Nat} {lb : Array Value} (hg : a.eval g = .func (.func gf) #[] lb) (eg : ∀ args w, (callFunc gf args).run P w = .ok (.enter gf args) w)
    {enc : α → Array Value} {L : List α} {Inv : World → Prop} (hseq : SeqL P gf lb enc L Inv) (hps : ∀ x, (enc x).size = ps.size)
    (O0 : Foot) (J : Nat → Foot → World → Prop) (Jx : Code → Foot → World → Prop)
    (hO0 : ∀ k, O0 k → k < w.heap.size)
    (hInv : ∀ A, Kept (fun k => O0 k ∨ w.heap.size ≤ k) w A → Inv A)
    (hJ : ∀ i O A B, J i O A → (∀ k, O k → k < A.heap.size) → Kept (fun k => ¬ O k) A B → J i O B)
    (hJx : ∀ c O A B, Jx c O A → (∀ k, O k → k < A.heap.size) → Kept (fun k => ¬ O k) A B → Jx c O B)
    (h0 : J 0 O0 w)
    (hround : RoundOf Fence.wide n m P ps assign body a.tmps O0 w J Jx enc L)
    (hdone : ∀ O W D, J L.length O W → (∀ k, O k → O0 k ∨ (w.heap.size ≤ k ∧ k < W.heap.size)) → Kept (fun k => O0 k ∨ w.heap.size ≤ k) w W → w.heap.size ≤ D → ¬ O D → W.heap[D]? = some (.deferred (some [])) → Q .normal { a with defers := { target := .collected D, args := #[] } :: a.defers } W)
    (hstop : ∀ c O W D, Jx c O W → (∀ k, O k → O0 k ∨ (w.heap.size ≤ k ∧ k < W.heap.size)) → Kept (fun k => O0 k ∨ w.heap.size ≤ k) w W → w.heap.size ≤ D → ¬ O D → W.heap[D]? = some (.deferred (some [])) → c.wpIn Fence.wide n P Q { a with defers := { target := .collected D, args := #[] } :: a.defers } W) :
    (Code.rangeFunc g ps assign body).wpIn Fence.wide n P Q a w := by
  have hk : Kept (fun _ => False) w (w.alloc (.deferred (some []))) := Kept.alloc _ _ _
  have hs : (w.alloc (.deferred (some []))).heap.size = w.heap.size + 1 := by simp
  have hD : (w.alloc (.deferred (some []))).heap[w.heap.size]? = some (.deferred (some [])) := World.alloc_heap_new w _
  have hbig : ∀ {A : World}, Kept (fun k => O0 k ∨ (w.alloc (.deferred (some []))).heap.size ≤ k) (w.alloc (.deferred (some []))) A → Kept (fun k => O0 k ∨ w.heap.size ≤ k) w A := fun hK =>
    hk.any.seq hK (fun i hi h => h.imp id (fun h => by omega))
  have hDd : ∀ (O : Foot) (W : World), (∀ k, O k → O0 k ∨ ((w.alloc (.deferred (some []))).heap.size ≤ k ∧ k < W.heap.size)) → Kept (fun k => O0 k ∨ (w.alloc (.deferred (some []))).heap.size ≤ k) (w.alloc (.deferred (some []))) W → ¬ O w.heap.size ∧ W.heap[w.heap.size]? = some (.deferred (some [])) := fun O W hO hK =>
    ⟨fun h => (hO _ h).elim (fun h => by have := hO0 _ h; omega) (fun h => by omega),
     (hK.block w.heap.size (by omega) (fun h => h.elim (fun h => by have := hO0 _ h; omega) (fun h => by omega))).trans hD⟩
  refine rangeFunc_core (r := none) rfl (w.alloc (.deferred (some []))) [{ target := .collected w.heap.size, args := #[] }] w.heap.size (m := m) ?_ hg eg hseq hps O0 J Jx
    (fun k h => by have := hO0 k h; omega) (fun A hK => hInv A (hbig hK)) hJ hJx (hJ _ _ _ _ h0 hO0 hk.any) ?_ ?_ ?_
  · intro fn
    rw [hs]
    exact run_enterLoop_outer _ _ _ _ _
  · intro l i x O A hx hj hlt hsub hK hnl hlA hWl
    exact hround l i x O A hx hj hlt (fun k h => (hsub k h).imp id (fun h => by omega)) (hbig hK) hnl hlA (by omega)
  · intro O W hj hO hK
    obtain ⟨h1, h2⟩ := hDd O W hO hK
    exact hdone O W _ hj (fun k h => (hO k h).imp id (fun h => ⟨by omega, h.2⟩)) (hbig hK) (Nat.le_refl _) h1 h2
  · intro c O W hj hO hK
    obtain ⟨h1, h2⟩ := hDd O W hO hK
    exact hstop c O W _ hj (fun k h => (hO k h).imp id (fun h => ⟨by omega, h.2⟩)) (hbig hK) (Nat.le_refl _) h1 h2
theorem rangeFunc_inner {α : Type} {l0 n m : Nat} {P : Program} {g : Operand} {ps : Array Tmp} {assign body : Code} {Q : Exit → Act → World → Prop} {a : Act} {w : World}
  (hr : ∃ r0, w.heap[l0]? = some (.loop r0))
  {gf : Nat} {lb : Array Value} (hg : a.eval g = .func (.func gf) #[] lb) (eg : ∀ args w, (callFunc gf args).run P w = .ok (.enter gf args) w)
  {enc : α → Array Value} {L : List α} {Inv : World → Prop} (hseq : SeqL P gf lb enc L Inv) (hps : ∀ x, (enc x).size = ps.size)
  (O0 : Foot) (J : Nat → Foot → World → Prop) (Jx : Code → Foot → World → Prop)
  (hO0 : ∀ k, O0 k → k < w.heap.size)
  (hInv : ∀ A, Kept (fun k => O0 k ∨ w.heap.size ≤ k) w A → Inv A)
  (hJ : ∀ i O A B, J i O A → (∀ k, O k → k < A.heap.size) → Kept (fun k => ¬ O k) A B → J i O B)
  (hJx : ∀ c O A B, Jx c O A → (∀ k, O k → k < A.heap.size) → Kept (fun k => ¬ O k) A B → Jx c O B)
  (h0 : J 0 O0 w)
  (hround : RoundOf (Fence.wide.inRound l0) n m P ps assign body a.tmps O0 w J Jx enc L)
  (hdone : ∀ O W, J L.length O W → (∀ k, O k → O0 k ∨ (w.heap.size ≤ k ∧ k < W.heap.size)) → Kept (fun k => O0 k ∨ w.heap.size ≤ k) w W → Q .normal a W)
  (hstop : ∀ c O W, Jx c O W → (∀ k, O k → O0 k ∨ (w.heap.size ≤ k ∧ k < W.heap.size)) → Kept (fun k => O0 k ∨ w.heap.size ≤ k) w W → c.wpIn (Fence.wide.inRound l0) n P Q a W) :
  (Code.rangeFunc g ps assign body).wpIn (Fence.wide.inRound l0) n P Q a w := by
 obtain ⟨r0, hr⟩ := hr
 refine rangeFunc_core (F := Fence.wide.inRound l0) (r := some l0) rfl w [] r0.defers (m := m) ?_ hg eg hseq hps O0 J Jx hO0 hInv hJ hJx h0 hround (fun O W hj hO hK => ?_) (fun c O W hj hO hK => ?_)
 ·intro fn
  exact run_enterLoop_inner hr _ _ _ _ _
 ·exact hdone O W hj hO hK
 exact hstop c O W hj hO hK
open Go.RowKit
theorem wpListIn_append_n {F : Fence} {n0 : Nat} {P : Program} {ops : Array Oper} {rest : List Oper} {o : Oper} {a : Act} {Q : Exit → Act → World → Prop} (w : World) (hgd : o.guard = none) (s x : Operand) (t : TypeId)
  (ho : o.op = .call { callee := .builtin .append, args := #[s, x], argTypes := #[t, t] })
  {α : Type} {R : Rd α} {m : Nat} (g : R.Good m) {S : Foot} (base : Nat) (e : TypeId) (i : TypeInfo) (z : Value) (bytes : Nat) (ht : P.underlying t = some (.slice e)) (hi : P.info? e = some i) (hz : i.zero = some z)
  (hsize : i.size = m) (hby : i.bytes = bytes) (hzs : z.cells.size = m) (hsz : 0 < m)
  (v : Value) (xs : List α) (y : α) (n : Nat) (hn : xs.length = n) (hs : a.eval s = v) (hown : OwnL R m S w base e v xs)
  (ad : Addr) (c : Nat) (news : List Value) (hx : a.eval x = .slice (some ad) 1 c) (hR : R S w y news) (hnews : ∀ j u, news[j]? = some u → w.cell? (ad.add j) = some u)
  (h63 : n + 1 ≤ maxLen) (hbytes : (n + 1) * bytes ≤ 140737488355328) (hbase : base ≤ w.heap.size) (hS : ¬ S w.heap.size)
  (h : ∀ A' cap' w', OwnL R m S w' base e (.slice (some ⟨A', 0, none⟩) (n + 1) cap') (xs ++ [y]) → w.grownBy w' v.ownBlock → (v.ownBlock = some A' ∨ A' = w.heap.size) → wpListIn F n0 P ops Q rest (a.put o.dst (.slice (some ⟨A', 0, none⟩) (n + 1) cap')) w') : wpListIn F n0 P ops Q (o :: rest) a w := by
 subst hn
 refine wpListIn_plain hgd fun K hK' => ?_
 obtain ⟨A', cap', w', hrun, h2, h3, h4⟩ := run_append_one (P := P) w t o.type g base e i z bytes ht hi hz hsize hby hzs hsz v xs y hown ad c news hR hnews h63 hbytes hbase hS
 unfold Oper.wpIn
 refine ⟨?_, ?_⟩
 ·simp [Oper.about, ho, resolve, Target.leads, Sem.run_pure]
 rw [Oper.semAt_plain F _ _ (by rw [ho]; intro c hc'; cases hc')]
 simp [execOp, ho, resolve, invoke, builtin, hs, hx, hrun, Result.andThen]
 exact hK' _ _ (h A' cap' w' h2 h3 h4)
structure ColSt {α : Type} (R : Rd α) (m : Nat) (W : World) (gs : Nat) (T : TypeId) (base : Nat) (e : TypeId) (xs : List α) (O : Foot) : Prop where
 st : ∃ (A : Option Addr) (cap : Nat), Blk W gs T #[.slice A xs.length cap] ∧ OwnL R m (fun _ => False) W base e (.slice A xs.length cap) xs ∧ (∀ k, O k ↔ k = gs ∨ (Value.slice A xs.length cap).ownBlock = some k) ∧ (Value.slice A xs.length cap).ownBlock ≠ some gs
theorem ColSt.stay {α : Type} {R : Rd α} {m : Nat} (g : R.Good m) {A B : World} {gs : Nat} {T : TypeId} {base : Nat} {e : TypeId} {xs : List α} {O : Foot} (h : ColSt R m A gs T base e xs O) (hK : Kept (fun k => ¬ O k) A B) : ColSt R m B gs T base e xs O := by
 obtain ⟨Ad, cap, h1, h2, h3, h4⟩ := h.st
 exact ⟨Ad, cap, (hK.block _ h1.lt (fun h => h ((h3 gs).2 (.inl rfl)))).trans h1, h2.keep g ⟨hK.size, fun k hk hlt => hK.block k hlt (fun h => h ((h3 k).2 (.inr (hk.elim (fun h => h.elim) id))))⟩, h3, h4⟩
open Go.RowKit Go.Shelf
attribute [local go_sem] Oper.semAt_some
theorem eg_num : Enters Tryz.prog 124 := enters_of Tryz.func124 (by kernel_rfl) rfl
def rangeZ (lo hi : Int) : List Int := (List.range (hi - lo + 1).toNat).map fun i : Nat => lo + (i : Int)
theorem rangeZ_len {lo hi : Int} : (rangeZ lo hi).length = (hi - lo + 1).toNat := by simp [rangeZ]
theorem rangeZ_get {lo hi : Int} {k : Nat} (h : (k : Int) < hi - lo + 1) : (rangeZ lo hi)[k]? = some (lo + (k : Int)) := by
 unfold rangeZ
 rw [List.getElem?_map, List.getElem?_range (by omega)]; rfl
theorem knumbers_call (lo hi : Int) (w : World) : Calls Tryz.prog 105 #[.agg #[.int .i64 lo, .int .i64 hi]] w fun e w' =>
  e = .returned (.func (.func 124) #[] #[.pointer (some ⟨w.heap.size, 0, none⟩)]) ∧ w' = w.alloc (.cells #[.int .i64 lo, .int .i64 hi] 27) := by
 go_enter Tryz.func105, Tryz.ntmps105
 go_wp2
 go_ret
 exact ⟨rfl, rfl⟩
set_option maxRecDepth 100000 in
set_option maxHeartbeats 4000000 in
theorem numbers_seq {lo hi : Int} (gs : Nat) (hb : 0 ≤ lo ∧ lo ≤ hi + 1 ∧ hi ≤ 100000) :
  SeqL Tryz.prog 124 #[.pointer (some ⟨gs, 0, none⟩)] (fun x : Int => #[.int .i64 x]) (rangeZ lo hi) (fun A => ∃ t, Blk A gs t #[.int .i64 lo, .int .i64 hi]) := by
 intro lp O0 J Jx W hO0 hInv hJ hJx hR h0
 obtain ⟨t0, hI0⟩ := hInv W (Kept.refl _ _)
 have hgs := hI0.lt
 have c0 := hI0.cell 0
 have c1 := hI0.cell 1
 have HR := Lib.hid hR
 have HJ0 := Lib.hid h0
 obtain ⟨N, hN⟩ : ∃ N : Nat, hi - lo + 1 = N := ⟨(hi - lo + 1).toNat, by omega⟩
 have hw1 : IntKind.i64.wrap (hi - lo) = hi - lo := by rw [IntKind.wrap_i64]; omega
 have hw2 : IntKind.i64.wrap (hi - lo + 1) = (N : Int) := by rw [hN, IntKind.wrap_i64]; omega
 have HN := Lib.hid hN
 have hNb : N ≤ 100001 := by omega
 have hlen : (rangeZ lo hi).length = N := by rw [rangeZ_len]; omega
 have HL := Lib.hid hlen
 clear hI0 hR h0 hN hlen
 rw [app11]
 refine (callsIn_wide (n := 1)).1 ?_
 refine callsIn_of_wp Tryz.func124 rfl trivial ?_ rfl
 simp only [Tryz.ntmps124, List.size_toArray, List.length_cons, List.length_nil, Nat.reduceAdd, Nat.reduceSub, Array.replicate_succ, Array.replicate_zero, List.push_toArray, List.append_toArray, List.nil_append, List.cons_append]
 gi_wp2_with fail
 clear c0 c1 hw1 hw2
 gi_loopw [3, 10] (fun _ i' wr => ∃ (k : Nat) (O1 : Foot), i' = .int .i64 k ∧ k ≤ N ∧ Hid (Kept (fun k => O0 k ∨ W.heap.size ≤ k) W wr) ∧ Hid (∀ k, O1 k → O0 k ∨ (W.heap.size ≤ k ∧ k < wr.heap.size)) ∧ Hid (J k O1 wr)) (fun _ i' _ => N - (intOf i').toNat)
 case atStart => exact ⟨0, O0, rfl, Nat.zero_le _, Kept.refl _ _, fun k hk => .inl hk, HJ0.out⟩
 case round =>
  obtain ⟨k, O1, rfl, hk, HK, HO, HJ⟩ := hrel
  by_cases hlt : k < N
  ·have hki : (k : Int) < N := by omega
   obtain ⟨t1, hI1⟩ := hInv wr HK.out
   have c0 := hI1.cell 0
   have hg1 := hI1.lt
   obtain ⟨x, hx⟩ : ∃ x : Int, lo + (k : Int) = x := ⟨_, rfl⟩
   have hv : IntKind.i64.wrap (lo + (k : Int)) = x := by rw [hx, IntKind.wrap_i64]; omega
   have hget : (rangeZ lo hi)[k]? = some x := by rw [← hx]; exact rangeZ_get (by rw [HN.out]; omega)
   obtain ⟨fn, tmps, assign, body, hy, hRd⟩ := HR.out k x O1 wr hget HJ.out (fun j hj => (HO.out j hj).elim (fun h => by have := hO0 j h; have := HK.out.size; omega) (fun h => h.2)) (fun j hj => (HO.out j hj).imp id (fun h => h.1)) HK.out 0
   have HRD := Lib.hid hRd
   clear hRd hI1 hx hget
   gi_wp2_with fail
   refine HRD.out.mono ?_
   clear HRD
   rintro e B ⟨O2, hO2, hKB, hcase⟩
   have HKB : Hid (Kept (fun k => O0 k ∨ W.heap.size ≤ k) W B) := HK.out.trans (hKB.mono fun j _ h => (HO.out j h).imp id (fun h => h.1))
   have HOB : Hid (∀ j, O2 j → O0 j ∨ (W.heap.size ≤ j ∧ j < B.heap.size)) := fun j hj => (hO2 j hj).elim (fun h => (HO.out j h).imp id (fun h => ⟨h.1, by have := hKB.size; omega⟩)) (fun h => .inr ⟨by have := HK.out.size; omega, h.2⟩)
   clear hO2 hKB
   rcases hcase with ⟨rfl, hj'⟩ | ⟨rfl, hx'⟩
   ·have HJB := Lib.hid hj'
    clear hj'
    gi_wp2
    exact ⟨⟨k + 1, O2, by go_num, by omega, HKB, HOB, HJB⟩, by simp [intOf]; omega⟩
   gi_wp2
   refine bodyPost_ret (results_none rfl _ _ _) rfl ?_
   exact ⟨⟨_, rfl⟩, HKB.out, O2, HOB.out, .inr hx'⟩
  obtain rfl : k = N := by omega
  gi_wp2
  go_end0
  refine ⟨⟨_, rfl⟩, HK.out, O1, HO.out, .inl ?_⟩
  rw [HL.out]
  exact HJ.out
end Go.Proofs.YtcnebekkbfajbaaGreat
