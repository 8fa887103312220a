/- A part of the proof that TopWorn always answers true. -/
import Derived.RangeFuncNested
import Derived.RangeFuncBound
import Derived.RangeFuncCalls
import Derived.RangeFuncLeaves
import Derived.Test.YtdbfincinjoppabGreatDoorCBase
set_option linter.all false
namespace Go.Proofs.YtdbfincinjoppabGreatDoor
open Go.RowKit
structure Kept (M : Foot) (w w' : World) : Prop where
 os : w'.os = w.os
 tape : w'.tape = w.tape
 output : w'.output = w.output
 size : w.heap.size ≤ w'.heap.size
 block : ∀ k, k < w.heap.size → ¬ M k → w'.heap[k]? = w.heap[k]?
theorem Kept.refl (M : Foot) (w : World) : Kept M w w := ⟨rfl, rfl, rfl, Nat.le_refl _, fun _ _ _ => rfl⟩
theorem Kept.trans {M : Foot} {a b c : World} (h : Kept M a b) (k : Kept M b c) : Kept M a c :=
 ⟨k.os.trans h.os, k.tape.trans h.tape, k.output.trans h.output, Nat.le_trans h.size k.size, fun i hi hM => (k.block i (Nat.lt_of_lt_of_le hi h.size) hM).trans (h.block i hi hM)⟩
theorem Kept.mono {M N : Foot} {a b : World} (h : Kept M a b) (hN : ∀ k, k < a.heap.size → M k → N k) : Kept N a b :=
 ⟨h.os, h.tape, h.output, h.size, fun k hk hn => h.block k hk (fun hm => hn (hN k hk hm))⟩
theorem Kept.any {M : Foot} {a b : World} (h : Kept (fun _ => False) a b) : Kept M a b := h.mono fun _ _ h => h.elim
theorem Kept.of_below {B : Nat} {M : Foot} {a b : World} (h : Below B a b) (hM : ∀ k, B ≤ k → k < a.heap.size → M k) : Kept M a b :=
 ⟨h.os, h.tape, h.output, h.size, fun k hk hm => h.block k (Classical.byContradiction fun hc => hm (hM k (by omega) hk))⟩
theorem Kept.of_bl {M : Foot} {a b : World} (h : Below a.heap.size a b) : Kept M a b := Kept.of_below h fun k h1 h2 => by omega
theorem Kept.below {B : Nat} {M : Foot} {a b : World} (h : Kept M a b) (hB : B ≤ a.heap.size) (hM : ∀ k, M k → B ≤ k) : Below B a b :=
 ⟨h.os, h.tape, h.output, h.size, fun k hk => h.block k (by omega) (fun hm => by have := hM k hm; omega)⟩
theorem Kept.alloc (M : Foot) (w : World) (o : Obj) : Kept M w (w.alloc o) := ⟨rfl, rfl, rfl, by simp, fun k hk _ => Below.heap_alloc w o k hk⟩
theorem Kept.drew (M : Foot) (w : World) : Kept M w w.drew := ⟨rfl, rfl, rfl, Nat.le_refl _, fun _ _ _ => rfl⟩
theorem Kept.setCell {M : Foot} (w : World) (a : Addr) (v : Value) (h : M a.block) : Kept M w (w.setCell a v) :=
 ⟨rfl, rfl, rfl, by simp [World.setCell], fun k _ hm => Below.heap_setCell w a v k (fun e => hm (e ▸ h))⟩
theorem Kept.putObj {M : Foot} (w : World) (l : Nat) (o : Obj) (h : M l) : Kept M w (w.putObj l o) :=
 ⟨rfl, rfl, rfl, by simp, fun k _ hm => World.putObj_heap_other (fun e => hm (e ▸ h))⟩
theorem Kept.grown {M : Foot} {w w' : World} {row : Option Nat} (hg : w.grownBy w' row) (h : ∀ k, row = some k → M k) : Kept M w w' :=
 ⟨hg.os, hg.tape, hg.output, hg.size, fun k hk hm => hg.block k hk (fun e => hm (h k e.symm))⟩
theorem Kept.cell {M : Foot} {w w' : World} {p : Addr} {v : Value} (h : Kept M w w') (hc : w.cell? p = some v) (hm : ¬ M p.block) : w'.cell? p = some v :=
 (World.cell?_of_block (h.block p.block (World.block_lt_of_cell? w p hc) hm)).trans hc
theorem Kept.keeps {M S : Foot} {w w' : World} (h : Kept M w w') (hS : ∀ k, S k → ¬ M k) : Keeps S w w' := ⟨h.size, fun k hs hk => h.block k hk (hS k hs)⟩
theorem Kept.seq {M N : Foot} {a b c : World} (h : Kept M a b) (k : Kept N b c) (hN : ∀ i, i < a.heap.size → N i → M i) : Kept M a c :=
 ⟨k.os.trans h.os, k.tape.trans h.tape, k.output.trans h.output, Nat.le_trans h.size k.size, fun i hi hM => (k.block i (Nat.lt_of_lt_of_le hi h.size) (fun hn => hM (hN i hi hn))).trans (h.block i hi hM)⟩
def SeqL {α : Type} (P : Program) (gf : Nat) (lb : Array Value) (enc : α → Array Value) (L : List α) (Inv : World → Prop) : Prop :=
 ∀ (l : Nat) (O0 : Foot) (J : Nat → Foot → World → Prop) (Jx : Foot → World → Prop) (W : World),
  (∀ k, O0 k → k < W.heap.size) →
  (∀ A, Kept (fun k => O0 k ∨ W.heap.size ≤ k) W A → Inv A) →
  (∀ i O A B, J i O A → (∀ k, O k → k < A.heap.size) → Kept (fun k => ¬ O k) A B → J i O B) →
  (∀ O A B, Jx O A → (∀ k, O k → k < A.heap.size) → Kept (fun k => ¬ O k) A B → Jx O B) →
  (∀ i x O A, L[i]? = some x → J i O A → (∀ k, O k → k < A.heap.size) → (∀ k, O k → O0 k ∨ W.heap.size ≤ k) → Kept (fun k => O0 k ∨ W.heap.size ≤ k) W A →
   ∀ m, YieldAt Fence.wide m P l (enc x) A fun e B => ∃ O' : Foot, (∀ k, O' k → O k ∨ (A.heap.size ≤ k ∧ k < B.heap.size)) ∧ Kept O A B ∧
    ((e = .returned (.bool true) ∧ J (i + 1) O' B) ∨ (e = .returned (.bool false) ∧ Jx O' B))) →
  J 0 O0 W →
  Calls P gf (#[.func (.yield l) #[] #[]] ++ lb) W fun e B => (∃ v, e = .returned v) ∧ Kept (fun k => O0 k ∨ W.heap.size ≤ k) W B ∧
   ∃ O : Foot, (∀ k, O k → O0 k ∨ (W.heap.size ≤ k ∧ k < B.heap.size)) ∧ (J L.length O B ∨ Jx O B)
def roundEnd (l : Nat) (A0 A : World) (O : Foot) (J : Foot → World → Prop) (Jx : Code → Foot → World → Prop) : Exit → Act → World → Prop
 | .normal, _, B => Kept O A B ∧ ∃ O' : Foot, (∀ k, O' k → O k ∨ (A0.heap.size ≤ k ∧ k < B.heap.size)) ∧ J O' B
 | .ret, _, B => Kept O A B ∧ ∃ O' : Foot, (∀ k, O' k → O k ∨ (A0.heap.size ≤ k ∧ k < B.heap.size)) ∧ Jx .ret O' B
 | .exit id, _, B => Kept O A B ∧ ∃ O' : Foot, (∀ k, O' k → O k ∨ (A0.heap.size ≤ k ∧ k < B.heap.size)) ∧ Jx (.exit id) O' B
 | .goto t, _, B => Kept O A B ∧ ∃ O' : Foot, (∀ k, O' k → O k ∨ (A0.heap.size ≤ k ∧ k < B.heap.size)) ∧ Jx (.goto t) O' B
 | .panic _, _, _ => False
 | .outgrown, _, _ => False
theorem callsIn_any {F : Fence} {r : Option Nat} (hF : F = { Fence.wide with round := r }) {n : Nat} {P : Program} {f : FuncId} {args : Array Value} {w : World} {R : Ending → World → Prop} (h : Calls P f args w R) : CallsIn F n P f args w R := by
 subst hF
 exact (callsIn_wide (n := n)).2 h
theorem roundIn_any {F : Fence} {r : Option Nat} (hF : F = { Fence.wide with round := r }) {n m l : Nat} {P : Program} {f : FuncId} {tmps : Array Value} {assign body : Code} {w : World} {R : Ending → World → Prop} (h : RoundIn F n P l f tmps assign body w R) : RoundIn Fence.wide m P l f tmps assign body w R := by
 subst hF
 exact ⟨h.1, fun c cs _ => h.2 c cs (room_wide _)⟩
theorem rangeFunc_core {α : Type} {F : Fence} {r : Option Nat} (hF : F = { Fence.wide with round := r }) {n m : Nat} {P : Program} {g : Operand} {ps : Array Tmp} {assign body : Code} {Q : Exit → Act → World → Prop} {a : Act} {w : World}
  (W0 : World) (mark : List Deferred) (dfr : Nat)
  (hent : ∀ fn, (Instr.enterLoop fn a.tmps ps assign body F.round).run P w = .ok (W0.heap.size, mark) (W0.alloc (.loop { state := .ready, pending := none, fn, tmps := a.tmps, params := ps, assign, body, defers := dfr })))
  {gf : Nat} {lb : Array Value} (hg : a.eval g = .func (.func gf) #[] lb) (eg : ∀ args w, (callFunc gf args).run P w = .ok (.enter gf args) w)
  {enc : α → Array Value} {L : List α} {Inv : World → Prop} (hseq : SeqL P gf lb enc L Inv) (hps : ∀ x, (enc x).size = ps.size)
  (O0 : Foot) (J : Nat → Foot → World → Prop) (Jx : Code → Foot → World → Prop)
  (hO0 : ∀ k, O0 k → k < W0.heap.size)
  (hInv : ∀ A, Kept (fun k => O0 k ∨ W0.heap.size ≤ k) W0 A → Inv A)
  (hJ : ∀ i O A B, J i O A → (∀ k, O k → k < A.heap.size) → Kept (fun k => ¬ O k) A B → J i O B)
  (hJx : ∀ c O A B, Jx c O A → (∀ k, O k → k < A.heap.size) → Kept (fun k => ¬ O k) A B → Jx c O B)
  (h0 : J 0 O0 W0)
  (hround : ∀ (l : Nat) (i : Nat) (x : α) (O : Foot) (A : World), L[i]? = some x → J i O A → (∀ k, O k → k < A.heap.size) → (∀ k, O k → O0 k ∨ W0.heap.size ≤ k) → Kept (fun k => O0 k ∨ W0.heap.size ≤ k) W0 A → ¬ O l → l < A.heap.size → W0.heap.size ≤ l →
   assign.wpIn (F.inRound l) m P (Exit.then (fun a1 A1 => Kept (fun _ => False) A A1 ∧ ∀ A2, Kept (fun k => k = l) A1 A2 → A2.heap.size = A1.heap.size → (∃ r2, A2.heap[l]? = some (.loop r2)) → body.wpIn (F.inRound l) m P (roundEnd l A A2 O (J (i + 1)) Jx) a1 A2) (fun _ _ _ => False))
    { tmps := (ps.zip (enc x)).foldl (fun t (p, v) => t.setIfInBounds p v) a.tmps, defers := [] } A)
  (hdone : ∀ O W, J L.length O W → (∀ k, O k → O0 k ∨ (W0.heap.size ≤ k ∧ k < W.heap.size)) → Kept (fun k => O0 k ∨ W0.heap.size ≤ k) W0 W → Q .normal { a with defers := mark ++ a.defers } W)
  (hstop : ∀ c O W, Jx c O W → (∀ k, O k → O0 k ∨ (W0.heap.size ≤ k ∧ k < W.heap.size)) → Kept (fun k => O0 k ∨ W0.heap.size ≤ k) W0 W → c.wpIn F n P Q { a with defers := mark ++ a.defers } W) :
  (Code.rangeFunc g ps assign body).wpIn F n P Q a w := by
 refine wpIn_rangeFunc ?_
 intro fn hfn
 obtain ⟨rec, hrec⟩ : ∃ rec : LoopState → Option Code → Loop, rec = fun st pe => { state := st, pending := pe, fn, tmps := a.tmps, params := ps, assign, body, defers := dfr } := ⟨_, rfl⟩
 obtain ⟨l, hl⟩ : ∃ l, l = W0.heap.size := ⟨_, rfl⟩
 obtain ⟨W1, hW1⟩ : ∃ W1, W0.alloc (.loop (rec .ready none)) = W1 := ⟨_, rfl⟩
 have hk01 : Kept (fun _ => False) W0 W1 := by rw [← hW1]; exact Kept.alloc _ _ _
 have hs1 : W1.heap.size = l + 1 := by rw [← hW1, hl]; simp
 have hL1 : W1.heap[l]? = some (.loop (rec .ready none)) := by rw [← hW1, hl]; exact World.alloc_heap_new W0 _
 have hdepth : F.depth.isSome = true → 1 ≤ n := fun h => by subst hF; simp [Fence.wide] at h
 refine ⟨l, mark, W1, { target := .fn (.func gf) lb, args := #[.func (.yield l) #[] #[]] }, W1, gf, #[.func (.yield l) #[] #[]] ++ lb, W1, ?_, ?_, ?_, ?_, hdepth, ?_⟩
 ·rw [hent fn, hl, ← hW1, hrec]
 ·simp only [resolve, hg]
  simp [go_sem]
 ·intro f' _; subst hF; trivial
 ·simp [invoke, go_sem, eg]
 refine callsIn_any hF ?_
 have hbk : ∀ k, O0 k → k ≠ l := fun k hk e => by have := hO0 k hk; omega
 have hbig : ∀ {A : World}, Kept (fun k => (O0 k ∨ k = l) ∨ W1.heap.size ≤ k) W1 A → Kept (fun k => O0 k ∨ W0.heap.size ≤ k) W0 A := fun hK =>
  hk01.any.seq hK (fun i hi h => by rcases h with (h | h) | h; exact .inl h; omega; omega)
 refine (hseq l (fun k => O0 k ∨ k = l)
  (fun i O A => ∃ Ob : Foot, J i Ob A ∧ ¬ Ob l ∧ (∀ k, O k ↔ Ob k ∨ k = l) ∧ A.heap[l]? = some (.loop (rec .ready none)))
  (fun O A => ∃ c, ∃ Ob : Foot, Jx c Ob A ∧ ¬ Ob l ∧ (∀ k, O k ↔ Ob k ∨ k = l) ∧ A.heap[l]? = some (.loop (rec .done (some c))))
  W1 ?_ ?_ ?_ ?_ ?_ ?_).mono ?_
 ·rintro k (h | rfl)
  ·have := hO0 k h; omega
  omega
 ·intro A hK
  exact hInv A (hbig hK)
 ·rintro i O A B ⟨Ob, hj, hnl, hO, hr⟩ hlt hK
  have hKb : Kept (fun k => ¬ Ob k) A B := hK.mono fun k _ hk hb => hk ((hO k).2 (.inl hb))
  exact ⟨Ob, hJ i Ob A B hj (fun k hk => hlt k ((hO k).2 (.inl hk))) hKb, hnl, hO, (hK.block l (hlt l ((hO l).2 (.inr rfl))) (fun h => h ((hO l).2 (.inr rfl)))).trans hr⟩
 ·rintro O A B ⟨c, Ob, hj, hnl, hO, hr⟩ hlt hK
  have hKb : Kept (fun k => ¬ Ob k) A B := hK.mono fun k _ hk hb => hk ((hO k).2 (.inl hb))
  exact ⟨c, Ob, hJx c Ob A B hj (fun k hk => hlt k ((hO k).2 (.inl hk))) hKb, hnl, hO, (hK.block l (hlt l ((hO l).2 (.inr rfl))) (fun h => h ((hO l).2 (.inr rfl)))).trans hr⟩
 ·
  rintro i x O A hx ⟨Ob, hj, hnl, hO, hr⟩ hlt hsub hK m'
  have hlA : l < A.heap.size := hlt l ((hO l).2 (.inr rfl))
  have hltb : ∀ k, Ob k → k < A.heap.size := fun k hk => hlt k ((hO k).2 (.inl hk))
  have hsubb : ∀ k, Ob k → O0 k ∨ W0.heap.size ≤ k := fun k hk => by
   rcases hsub k ((hO k).2 (.inl hk)) with (h | h) | h
   ·exact .inl h
   ·exact absurd (h ▸ hk) hnl
   exact .inr (by omega)
  have hy := run_yield (P := P) (args := enc x) hr (by rw [hrec]; simp [hps])
  rw [hrec] at hy
  refine ⟨fn, _, assign, body, hy, roundIn_any hF (n := m) (roundIn_of_wpIn hfn ?_)⟩
  refine wpIn_mono (hround l i x Ob A hx hj hltb hsubb (hbig hK) hnl hlA (by omega)) ?_
  rintro e a1 A1 hp
  cases e with
  | normal =>
   obtain ⟨hKA, hb⟩ := hp
   have hrA1 : A1.heap[l]? = some (.loop (rec .ready none)) := (hKA.block l hlA (fun h => h)).trans hr
   have hl1 : l < A1.heap.size := Nat.lt_of_lt_of_le hlA hKA.size
   refine ⟨_, run_beginRound hrA1 (by rw [hrec]), ?_⟩
   obtain ⟨A2, hA2⟩ : ∃ A2, A1.putObj l (.loop { rec .ready none with state := .busy }) = A2 := ⟨_, rfl⟩
   rw [hA2]
   have hK12 : Kept (fun k => k = l) A1 A2 := by rw [← hA2]; exact Kept.putObj _ _ _ rfl
   have hr2 : A2.heap[l]? = some (.loop { rec .ready none with state := .busy }) := by rw [← hA2]; exact World.putObj_heap_same hl1
   have hs2 : A2.heap.size = A1.heap.size := by rw [← hA2]; simp
   refine wpIn_mono (hb A2 hK12 hs2 ⟨_, hr2⟩) ?_
   have fin : ∀ (jump : Option Code) (B : World), Kept Ob A2 B →
     (Instr.endRound l jump).run P B = .ok (.bool jump.isNone) (B.putObj l (.loop (rec (if jump.isNone then .ready else .done) jump))) ∧ l < B.heap.size := fun jump B hkB => by
    have hl2 : l < A2.heap.size := by omega
    have hr3 := (hkB.block l hl2 hnl).trans hr2
    have := run_endRound (P := P) jump hr3
    rw [hrec] at this ⊢
    exact ⟨this, Nat.lt_of_lt_of_le hl2 hkB.size⟩
   have all : ∀ (B : World) (o : Obj), Kept Ob A2 B → Kept O A (B.putObj l o) := fun B o hkB => by
    refine (((hKA.any (M := O)).trans (hK12.mono (fun k _ h => (hO k).2 (.inr h)))).trans (hkB.mono (fun k _ h => (hO k).2 (.inl h)))).trans (Kept.putObj _ _ _ ((hO l).2 (.inr rfl)))
   have sub : ∀ (B : World) (o : Obj) (O' : Foot), (∀ k, O' k → Ob k ∨ (A.heap.size ≤ k ∧ k < B.heap.size)) → Kept Ob A2 B → (¬ O' l) ∧ (∀ k, O' k → k < B.heap.size) ∧ Kept (fun k => ¬ O' k) B (B.putObj l o) ∧
     (∀ k, (O' k ∨ k = l) → O k ∨ (A.heap.size ≤ k ∧ k < (B.putObj l o).heap.size)) := fun B o O' hO' hkB => by
    have hnl' : ¬ O' l := fun h => by rcases hO' l h with h | h; exact hnl h; omega
    refine ⟨hnl', fun k hk => ?_, Kept.putObj _ _ _ hnl', fun k hk => ?_⟩
    ·rcases hO' k hk with h | h
     ·have := hltb k h; have := hkB.size; have := hKA.size; omega
     exact h.2
    rcases hk with hk | rfl
    ·rcases hO' k hk with h | h
     ·exact .inl ((hO k).2 (.inl h))
     exact .inr ⟨h.1, by simpa using h.2⟩
    exact .inl ((hO k).2 (.inr rfl))
   rintro e2 a2 B hp2
   cases e2 with
   | normal =>
    obtain ⟨hkB, O', hO', hj'⟩ := hp2
    obtain ⟨hr3, hlB⟩ := fin none B hkB
    obtain ⟨h1, h2, h3, h4⟩ := sub B (.loop (rec .ready none)) O' hO' hkB
    exact ⟨_, _, hr3, fun k => O' k ∨ k = l, h4, all B _ hkB, .inl ⟨rfl, O', hJ _ _ _ _ hj' h2 h3, h1, fun k => Iff.rfl, World.putObj_heap_same hlB⟩⟩
   | ret =>
    obtain ⟨hkB, O', hO', hj'⟩ := hp2
    obtain ⟨hr3, hlB⟩ := fin (some .ret) B hkB
    obtain ⟨h1, h2, h3, h4⟩ := sub B (.loop (rec .done (some .ret))) O' hO' hkB
    exact ⟨_, _, hr3, fun k => O' k ∨ k = l, h4, all B _ hkB, .inr ⟨rfl, _, O', hJx _ _ _ _ hj' h2 h3, h1, fun k => Iff.rfl, World.putObj_heap_same hlB⟩⟩
   | exit id =>
    obtain ⟨hkB, O', hO', hj'⟩ := hp2
    obtain ⟨hr3, hlB⟩ := fin (some (.exit id)) B hkB
    obtain ⟨h1, h2, h3, h4⟩ := sub B (.loop (rec .done (some (.exit id)))) O' hO' hkB
    exact ⟨_, _, hr3, fun k => O' k ∨ k = l, h4, all B _ hkB, .inr ⟨rfl, _, O', hJx _ _ _ _ hj' h2 h3, h1, fun k => Iff.rfl, World.putObj_heap_same hlB⟩⟩
   | goto t =>
    obtain ⟨hkB, O', hO', hj'⟩ := hp2
    obtain ⟨hr3, hlB⟩ := fin (some (.goto t)) B hkB
    obtain ⟨h1, h2, h3, h4⟩ := sub B (.loop (rec .done (some (.goto t)))) O' hO' hkB
    exact ⟨_, _, hr3, fun k => O' k ∨ k = l, h4, all B _ hkB, .inr ⟨rfl, _, O', hJx _ _ _ _ hj' h2 h3, h1, fun k => Iff.rfl, World.putObj_heap_same hlB⟩⟩
   | panic ch => exact hp2.elim
   | outgrown => exact hp2.elim
  | exit id => exact hp.elim
  | goto t => exact hp.elim
  | ret => exact hp.elim
  | panic ch => exact hp.elim
  | outgrown => exact hp.elim
 ·exact ⟨O0, hJ _ _ _ _ h0 hO0 hk01.any, fun h => hbk l h rfl, fun k => Iff.rfl, hL1⟩
 rintro e W2 ⟨⟨v, rfl⟩, hK, O, hO, hcase⟩
 have tail : ∀ (Ob : Foot) (o : Obj), ¬ Ob l → (∀ k, O k ↔ Ob k ∨ k = l) → (∀ k, Ob k → k < W2.heap.size) ∧ Kept (fun k => ¬ Ob k) W2 (W2.putObj l o) ∧ (∀ k, Ob k → O0 k ∨ (W0.heap.size ≤ k ∧ k < (W2.putObj l o).heap.size)) ∧ Kept (fun k => O0 k ∨ W0.heap.size ≤ k) W0 (W2.putObj l o) := fun Ob o hnl hOb => by
  have h1 : ∀ k, Ob k → O0 k ∨ (W0.heap.size ≤ k ∧ k < W2.heap.size) := fun k hk => by
   rcases hO k ((hOb k).2 (.inl hk)) with (h | h) | h
   ·exact .inl h
   ·exact absurd (h ▸ hk) hnl
   exact .inr ⟨by omega, h.2⟩
  have hsz := hK.size
  refine ⟨fun k hk => ?_, Kept.putObj _ _ _ hnl, fun k hk => by simpa using h1 k hk, (hbig hK).trans (Kept.putObj _ _ _ (.inr (by omega)))⟩
  rcases h1 k hk with h | h
  ·have := hO0 k h; omega
  exact h.2
 rcases hcase with ⟨Ob, hj, hnl, hOb, hr⟩ | ⟨c, Ob, hj, hnl, hOb, hr⟩
 ·obtain ⟨h1, h2, h3, h4⟩ := tail Ob (.loop (rec .exhausted none)) hnl hOb
  exact ⟨none, _, by have := run_endLoop (P := P) hr (by rw [hrec]; simp); rw [hrec] at this ⊢; exact this, hdone Ob _ (hJ _ _ _ _ hj h1 h2) h3 h4⟩
 obtain ⟨h1, h2, h3, h4⟩ := tail Ob (.loop (rec .exhausted (some c))) hnl hOb
 exact ⟨some c, _, by have := run_endLoop (P := P) hr (by rw [hrec]; simp); rw [hrec] at this ⊢; exact this, hstop c Ob _ (hJx _ _ _ _ hj h1 h2) h3 h4⟩
end Go.Proofs.YtdbfincinjoppabGreatDoor
