/- A range over a function whose iterator gives the elements of a list: the law. Nothing of a program stands here. -/
import Derived.RangeFuncNested
import Derived.RangeFuncBound
import Derived.RangeFuncCalls
import Derived.RangeFuncLeaves
import Derived.OrdersIn
import Derived.OwnWalkIn
import Derived.Test.YtpdldmichpmgmaaGreatCOwn
set_option linter.unusedVariables false
set_option linter.unusedSimpArgs false
set_option linter.all false
namespace Go.Proofs.YtpdldmichpmgmaaGreat
open Go.RowKit

/-- what lay in w lies in w' as it lay, but for the blocks of M -/
structure Kept (M : Foot) (w w' : World) : Prop where
  os : w'.os = w.os
  tape : w'.tape = w.tape
  output : w'.output = w.output
  size : w.heap.size ≤ w'.heap.size
  block : ∀ k, k < w.heap.size → ¬ M k → w'.heap[k]? = w.heap[k]?

theorem Kept.refl (M : Foot) (w : World) : Kept M w w := ⟨rfl, rfl, rfl, Nat.le_refl _, fun _ _ _ => rfl⟩
theorem Kept.trans {M : Foot} {a b c : World} (h : Kept M a b) (k : Kept M b c) : Kept M a c :=
  ⟨k.os.trans h.os, k.tape.trans h.tape, k.output.trans h.output, Nat.le_trans h.size k.size, fun i hi hM => (k.block i (Nat.lt_of_lt_of_le hi h.size) hM).trans (h.block i hi hM)⟩
theorem Kept.mono {M N : Foot} {a b : World} (h : Kept M a b) (hN : ∀ k, k < a.heap.size → M k → N k) : Kept N a b :=
  ⟨h.os, h.tape, h.output, h.size, fun k hk hn => h.block k hk (fun hm => hn (hN k hk hm))⟩
theorem Kept.any {M : Foot} {a b : World} (h : Kept (fun _ => False) a b) : Kept M a b := h.mono fun _ _ h => h.elim
theorem Kept.of_below {B : Nat} {M : Foot} {a b : World} (h : Below B a b) (hM : ∀ k, B ≤ k → k < a.heap.size → M k) : Kept M a b :=
  ⟨h.os, h.tape, h.output, h.size, fun k hk hm => h.block k (Classical.byContradiction fun hc => hm (hM k (by omega) hk))⟩
theorem Kept.of_bl {M : Foot} {a b : World} (h : Below a.heap.size a b) : Kept M a b := Kept.of_below h fun k h1 h2 => by omega
theorem Kept.below {B : Nat} {M : Foot} {a b : World} (h : Kept M a b) (hB : B ≤ a.heap.size) (hM : ∀ k, M k → B ≤ k) : Below B a b :=
  ⟨h.os, h.tape, h.output, h.size, fun k hk => h.block k (by omega) (fun hm => by have := hM k hm; omega)⟩
theorem Kept.alloc (M : Foot) (w : World) (o : Obj) : Kept M w (w.alloc o) := ⟨rfl, rfl, rfl, by simp, fun k hk _ => Below.heap_alloc w o k hk⟩
theorem Kept.drewN (M : Foot) (w : World) (q : Nat) : Kept M w (w.drewN q) := ⟨rfl, rfl, rfl, Nat.le_refl _, fun _ _ _ => rfl⟩
theorem Kept.drew (M : Foot) (w : World) : Kept M w w.drew := ⟨rfl, rfl, rfl, Nat.le_refl _, fun _ _ _ => rfl⟩
theorem Kept.setCell {M : Foot} (w : World) (a : Addr) (v : Value) (h : M a.block) : Kept M w (w.setCell a v) :=
  ⟨rfl, rfl, rfl, by simp [World.setCell], fun k _ hm => Below.heap_setCell w a v k (fun e => hm (e ▸ h))⟩
theorem Kept.putObj {M : Foot} (w : World) (l : Nat) (o : Obj) (h : M l) : Kept M w (w.putObj l o) :=
  ⟨rfl, rfl, rfl, by simp, fun k _ hm => World.putObj_heap_other (fun e => hm (e ▸ h))⟩
theorem Kept.grown {M : Foot} {w w' : World} {row : Option Nat} (hg : w.grownBy w' row) (h : ∀ k, row = some k → M k) : Kept M w w' :=
  ⟨hg.os, hg.tape, hg.output, hg.size, fun k hk hm => hg.block k hk (fun e => hm (h k e.symm))⟩
theorem Kept.cell {M : Foot} {w w' : World} {p : Addr} {v : Value} (h : Kept M w w') (hc : w.cell? p = some v) (hm : ¬ M p.block) : w'.cell? p = some v :=
  (World.cell?_of_block (h.block p.block (World.block_lt_of_cell? w p hc) hm)).trans hc
theorem Kept.frozen {M : Foot} {w w' : World} {p : Addr} (h : Kept M w w') (hlt : p.block < w.heap.size) (hm : ¬ M p.block) : w'.frozen? p = w.frozen? p :=
  World.frozen?_of_block (h.block p.block hlt hm)
theorem Kept.keeps {M S : Foot} {w w' : World} (h : Kept M w w') (hS : ∀ k, S k → ¬ M k) : Keeps S w w' := ⟨h.size, fun k hs hk => h.block k hk (hS k hs)⟩
/-- two stretches, the second of which may write what the first one laid -/
theorem Kept.seq {M N : Foot} {a b c : World} (h : Kept M a b) (k : Kept N b c) (hN : ∀ i, i < a.heap.size → N i → M i) : Kept M a c :=
  ⟨k.os.trans h.os, k.tape.trans h.tape, k.output.trans h.output, Nat.le_trans h.size k.size, fun i hi hM => (k.block i (Nat.lt_of_lt_of_le hi h.size) (fun hn => hM (hN i hi hn))).trans (h.block i hi hM)⟩

/-- An iterator (the function gf, with what it has captured) that gives the elements of L, in order: whatever loop body keeps its word. O: the body's own blocks, which the iterator leaves alone; the body writes these alone, and blocks that it lays. -/
def SeqL {α : Type} (P : Program) (gf : Nat) (lb : Array Value) (enc : α → Array Value) (L : List α) (Inv : World → Prop) : Prop :=
  ∀ (l : Nat) (O0 : Foot) (J : Nat → Foot → World → Prop) (Jx : Foot → World → Prop) (W : World),
    (∀ k, O0 k → k < W.heap.size) →
    (∀ A, Kept (fun k => O0 k ∨ W.heap.size ≤ k) W A → Inv A) →
    (∀ i O A B, J i O A → (∀ k, O k → k < A.heap.size) → Kept (fun k => ¬ O k) A B → J i O B) →
    (∀ O A B, Jx O A → (∀ k, O k → k < A.heap.size) → Kept (fun k => ¬ O k) A B → Jx O B) →
    (∀ i x O A, L[i]? = some x → J i O A → (∀ k, O k → k < A.heap.size) → (∀ k, O k → O0 k ∨ W.heap.size ≤ k) → Kept (fun k => O0 k ∨ W.heap.size ≤ k) W A →
      ∀ m, YieldAt Fence.wide m P l (enc x) A fun e B => ∃ O' : Foot, (∀ k, O' k → O k ∨ (A.heap.size ≤ k ∧ k < B.heap.size)) ∧ Kept O A B ∧
        ((e = .returned (.bool true) ∧ J (i + 1) O' B) ∨ (e = .returned (.bool false) ∧ Jx O' B))) →
    J 0 O0 W →
    Calls P gf (#[.func (.yield l) #[] #[]] ++ lb) W fun e B => (∃ v, e = .returned v) ∧ Kept (fun k => O0 k ∨ W.heap.size ≤ k) W B ∧
      ∃ O : Foot, (∀ k, O k → O0 k ∨ (W.heap.size ≤ k ∧ k < B.heap.size)) ∧ (J L.length O B ∨ Jx O B)

/-- how the body of a round may be left -/
def roundEnd (l : Nat) (A0 A : World) (O : Foot) (J : Foot → World → Prop) (Jx : Code → Foot → World → Prop) : Exit → Act → World → Prop
  | .normal, _, B => Kept O A B ∧ ∃ O' : Foot, (∀ k, O' k → O k ∨ (A0.heap.size ≤ k ∧ k < B.heap.size)) ∧ J O' B
  | .ret, _, B => Kept O A B ∧ ∃ O' : Foot, (∀ k, O' k → O k ∨ (A0.heap.size ≤ k ∧ k < B.heap.size)) ∧ Jx .ret O' B
  | .exit id, _, B => Kept O A B ∧ ∃ O' : Foot, (∀ k, O' k → O k ∨ (A0.heap.size ≤ k ∧ k < B.heap.size)) ∧ Jx (.exit id) O' B
  | .goto t, _, B => Kept O A B ∧ ∃ O' : Foot, (∀ k, O' k → O k ∨ (A0.heap.size ≤ k ∧ k < B.heap.size)) ∧ Jx (.goto t) O' B
  | .panic _, _, _ => False
  | .outgrown, _, _ => False

theorem callsIn_any {F : Fence} {r : Option Nat} (hF : F = { Fence.wide with round := r }) {n : Nat} {P : Program} {f : FuncId} {args : Array Value} {w : World} {R : Ending → World → Prop} (h : Calls P f args w R) : CallsIn F n P f args w R := by
  subst hF
  exact (callsIn_wide (n := n)).2 h
theorem roundIn_any {F : Fence} {r : Option Nat} (hF : F = { Fence.wide with round := r }) {n m l : Nat} {P : Program} {f : FuncId} {tmps : Array Value} {assign body : Code} {w : World} {R : Ending → World → Prop} (h : RoundIn F n P l f tmps assign body w R) : RoundIn Fence.wide m P l f tmps assign body w R := by
  subst hF
  exact ⟨h.1, fun c cs _ => h.2 c cs (room_wide _)⟩

/-- THE LAW, for a record that lies behind W0 -/
theorem rangeFunc_core {α : Type} {F : Fence} {r : Option Nat} (hF : F = { Fence.wide with round := r }) {n m : Nat} {P : Program} {g : Operand} {ps : Array Tmp} {assign body : Code} {Q : Exit → Act → World → Prop} {a : Act} {w : World}
    (W0 : World) (mark : List Deferred) (dfr : Nat)
    (hent : ∀ fn, (Instr.enterLoop fn a.tmps ps assign body F.round).run P w = .ok (W0.heap.size, mark) (W0.alloc (.loop { state := .ready, pending := none, fn, tmps := a.tmps, params := ps, assign, body, defers := dfr })))
    {gf : Nat} {lb : Array Value} (hg : a.eval g = .func (.func gf) #[] lb) (eg : ∀ args w, (callFunc gf args).run P w = .ok (.enter gf args) w)
    {enc : α → Array Value} {L : List α} {Inv : World → Prop} (hseq : SeqL P gf lb enc L Inv) (hps : ∀ x, (enc x).size = ps.size)
    (O0 : Foot) (J : Nat → Foot → World → Prop) (Jx : Code → Foot → World → Prop)
    (hO0 : ∀ k, O0 k → k < W0.heap.size)
    (hInv : ∀ A, Kept (fun k => O0 k ∨ W0.heap.size ≤ k) W0 A → Inv A)
    (hJ : ∀ i O A B, J i O A → (∀ k, O k → k < A.heap.size) → Kept (fun k => ¬ O k) A B → J i O B)
    (hJx : ∀ c O A B, Jx c O A → (∀ k, O k → k < A.heap.size) → Kept (fun k => ¬ O k) A B → Jx c O B)
    (h0 : J 0 O0 W0)
    (hround : ∀ (l : Nat) (i : Nat) (x : α) (O : Foot) (A : World), L[i]? = some x → J i O A → (∀ k, O k → k < A.heap.size) → (∀ k, O k → O0 k ∨ W0.heap.size ≤ k) → Kept (fun k => O0 k ∨ W0.heap.size ≤ k) W0 A → ¬ O l → l < A.heap.size → W0.heap.size ≤ l →
      assign.wpIn (F.inRound l) m P (Exit.then (fun a1 A1 => Kept (fun _ => False) A A1 ∧ ∀ A2, Kept (fun k => k = l) A1 A2 → A2.heap.size = A1.heap.size → (∃ r2, A2.heap[l]? = some (.loop r2)) → body.wpIn (F.inRound l) m P (roundEnd l A A2 O (J (i + 1)) Jx) a1 A2) (fun _ _ _ => False))
        { tmps := (ps.zip (enc x)).foldl (fun t (p, v) => t.setIfInBounds p v) a.tmps, defers := [] } A)
    (hdone : ∀ O W, J L.length O W → (∀ k, O k → O0 k ∨ (W0.heap.size ≤ k ∧ k < W.heap.size)) → Kept (fun k => O0 k ∨ W0.heap.size ≤ k) W0 W → Q .normal { a with defers := mark ++ a.defers } W)
    (hstop : ∀ c O W, Jx c O W → (∀ k, O k → O0 k ∨ (W0.heap.size ≤ k ∧ k < W.heap.size)) → Kept (fun k => O0 k ∨ W0.heap.size ≤ k) W0 W → c.wpIn F n P Q { a with defers := mark ++ a.defers } W) :
    (Code.rangeFunc g ps assign body).wpIn F n P Q a w := by
  refine wpIn_rangeFunc ?_
  intro fn hfn
  obtain ⟨rec, hrec⟩ : ∃ rec : LoopState → Option Code → Loop, rec = fun st pe => { state := st, pending := pe, fn, tmps := a.tmps, params := ps, assign, body, defers := dfr } := ⟨_, rfl⟩
  obtain ⟨l, hl⟩ : ∃ l, l = W0.heap.size := ⟨_, rfl⟩
  obtain ⟨W1, hW1⟩ : ∃ W1, W0.alloc (.loop (rec .ready none)) = W1 := ⟨_, rfl⟩
  have hk01 : Kept (fun _ => False) W0 W1 := by rw [← hW1]; exact Kept.alloc _ _ _
  have hs1 : W1.heap.size = l + 1 := by rw [← hW1, hl]; simp
  have hL1 : W1.heap[l]? = some (.loop (rec .ready none)) := by rw [← hW1, hl]; exact World.alloc_heap_new W0 _
  have hdepth : F.depth.isSome = true → 1 ≤ n := fun h => by subst hF; simp [Fence.wide] at h
  refine ⟨l, mark, W1, { target := .fn (.func gf) lb, args := #[.func (.yield l) #[] #[]] }, W1, gf, #[.func (.yield l) #[] #[]] ++ lb, W1, ?_, ?_, ?_, ?_, hdepth, ?_⟩
  · rw [hent fn, hl, ← hW1, hrec]
  · simp only [resolve, hg]
    simp [go_sem]
  · intro f' _; subst hF; trivial
  · simp [invoke, go_sem, eg]
  · refine callsIn_any hF ?_
    have hbk : ∀ k, O0 k → k ≠ l := fun k hk e => by have := hO0 k hk; omega
    have hbig : ∀ {A : World}, Kept (fun k => (O0 k ∨ k = l) ∨ W1.heap.size ≤ k) W1 A → Kept (fun k => O0 k ∨ W0.heap.size ≤ k) W0 A := fun hK =>
      hk01.any.seq hK (fun i hi h => by rcases h with (h | h) | h; exact .inl h; omega; omega)
    refine (hseq l (fun k => O0 k ∨ k = l)
      (fun i O A => ∃ Ob : Foot, J i Ob A ∧ ¬ Ob l ∧ (∀ k, O k ↔ Ob k ∨ k = l) ∧ A.heap[l]? = some (.loop (rec .ready none)))
      (fun O A => ∃ c, ∃ Ob : Foot, Jx c Ob A ∧ ¬ Ob l ∧ (∀ k, O k ↔ Ob k ∨ k = l) ∧ A.heap[l]? = some (.loop (rec .done (some c))))
      W1 ?_ ?_ ?_ ?_ ?_ ?_).mono ?_
    · rintro k (h | rfl)
      · have := hO0 k h; omega
      · omega
    · intro A hK
      exact hInv A (hbig hK)
    · rintro i O A B ⟨Ob, hj, hnl, hO, hr⟩ hlt hK
      have hKb : Kept (fun k => ¬ Ob k) A B := hK.mono fun k _ hk hb => hk ((hO k).2 (.inl hb))
      exact ⟨Ob, hJ i Ob A B hj (fun k hk => hlt k ((hO k).2 (.inl hk))) hKb, hnl, hO, (hK.block l (hlt l ((hO l).2 (.inr rfl))) (fun h => h ((hO l).2 (.inr rfl)))).trans hr⟩
    · rintro O A B ⟨c, Ob, hj, hnl, hO, hr⟩ hlt hK
      have hKb : Kept (fun k => ¬ Ob k) A B := hK.mono fun k _ hk hb => hk ((hO k).2 (.inl hb))
      exact ⟨c, Ob, hJx c Ob A B hj (fun k hk => hlt k ((hO k).2 (.inl hk))) hKb, hnl, hO, (hK.block l (hlt l ((hO l).2 (.inr rfl))) (fun h => h ((hO l).2 (.inr rfl)))).trans hr⟩
    · -- ONE ROUND
      rintro i x O A hx ⟨Ob, hj, hnl, hO, hr⟩ hlt hsub hK m'
      have hlA : l < A.heap.size := hlt l ((hO l).2 (.inr rfl))
      have hltb : ∀ k, Ob k → k < A.heap.size := fun k hk => hlt k ((hO k).2 (.inl hk))
      have hsubb : ∀ k, Ob k → O0 k ∨ W0.heap.size ≤ k := fun k hk => by
        rcases hsub k ((hO k).2 (.inl hk)) with (h | h) | h
        · exact .inl h
        · exact absurd (h ▸ hk) hnl
        · exact .inr (by omega)
      have hy := run_yield (P := P) (args := enc x) hr (by rw [hrec]; simp [hps])
      rw [hrec] at hy
      refine ⟨fn, _, assign, body, hy, roundIn_any hF (n := m) (roundIn_of_wpIn hfn ?_)⟩
      refine wpIn_mono (hround l i x Ob A hx hj hltb hsubb (hbig hK) hnl hlA (by omega)) ?_
      rintro e a1 A1 hp
      cases e with
      | normal =>
        obtain ⟨hKA, hb⟩ := hp
        have hrA1 : A1.heap[l]? = some (.loop (rec .ready none)) := (hKA.block l hlA (fun h => h)).trans hr
        have hl1 : l < A1.heap.size := Nat.lt_of_lt_of_le hlA hKA.size
        refine ⟨_, run_beginRound hrA1 (by rw [hrec]), ?_⟩
        obtain ⟨A2, hA2⟩ : ∃ A2, A1.putObj l (.loop { rec .ready none with state := .busy }) = A2 := ⟨_, rfl⟩
        rw [hA2]
        have hK12 : Kept (fun k => k = l) A1 A2 := by rw [← hA2]; exact Kept.putObj _ _ _ rfl
        have hr2 : A2.heap[l]? = some (.loop { rec .ready none with state := .busy }) := by rw [← hA2]; exact World.putObj_heap_same hl1
        have hs2 : A2.heap.size = A1.heap.size := by rw [← hA2]; simp
        refine wpIn_mono (hb A2 hK12 hs2 ⟨_, hr2⟩) ?_
        have fin : ∀ (jump : Option Code) (B : World), Kept Ob A2 B →
            (Instr.endRound l jump).run P B = .ok (.bool jump.isNone) (B.putObj l (.loop (rec (if jump.isNone then .ready else .done) jump))) ∧ l < B.heap.size := fun jump B hkB => by
          have hl2 : l < A2.heap.size := by omega
          have hr3 := (hkB.block l hl2 hnl).trans hr2
          have := run_endRound (P := P) jump hr3
          rw [hrec] at this ⊢
          exact ⟨this, Nat.lt_of_lt_of_le hl2 hkB.size⟩
        have all : ∀ (B : World) (o : Obj), Kept Ob A2 B → Kept O A (B.putObj l o) := fun B o hkB => by
          refine (((hKA.any (M := O)).trans (hK12.mono (fun k _ h => (hO k).2 (.inr h)))).trans (hkB.mono (fun k _ h => (hO k).2 (.inl h)))).trans (Kept.putObj _ _ _ ((hO l).2 (.inr rfl)))
        have sub : ∀ (B : World) (o : Obj) (O' : Foot), (∀ k, O' k → Ob k ∨ (A.heap.size ≤ k ∧ k < B.heap.size)) → Kept Ob A2 B → (¬ O' l) ∧ (∀ k, O' k → k < B.heap.size) ∧ Kept (fun k => ¬ O' k) B (B.putObj l o) ∧
            (∀ k, (O' k ∨ k = l) → O k ∨ (A.heap.size ≤ k ∧ k < (B.putObj l o).heap.size)) := fun B o O' hO' hkB => by
          have hnl' : ¬ O' l := fun h => by rcases hO' l h with h | h; exact hnl h; omega
          refine ⟨hnl', fun k hk => ?_, Kept.putObj _ _ _ hnl', fun k hk => ?_⟩
          · rcases hO' k hk with h | h
            · have := hltb k h; have := hkB.size; have := hKA.size; omega
            · exact h.2
          · rcases hk with hk | rfl
            · rcases hO' k hk with h | h
              · exact .inl ((hO k).2 (.inl h))
              · exact .inr ⟨h.1, by simpa using h.2⟩
            · exact .inl ((hO k).2 (.inr rfl))
        rintro e2 a2 B hp2
        cases e2 with
        | normal =>
          obtain ⟨hkB, O', hO', hj'⟩ := hp2
          obtain ⟨hr3, hlB⟩ := fin none B hkB
          obtain ⟨h1, h2, h3, h4⟩ := sub B (.loop (rec .ready none)) O' hO' hkB
          exact ⟨_, _, hr3, fun k => O' k ∨ k = l, h4, all B _ hkB, .inl ⟨rfl, O', hJ _ _ _ _ hj' h2 h3, h1, fun k => Iff.rfl, World.putObj_heap_same hlB⟩⟩
        | ret =>
          obtain ⟨hkB, O', hO', hj'⟩ := hp2
          obtain ⟨hr3, hlB⟩ := fin (some .ret) B hkB
          obtain ⟨h1, h2, h3, h4⟩ := sub B (.loop (rec .done (some .ret))) O' hO' hkB
          exact ⟨_, _, hr3, fun k => O' k ∨ k = l, h4, all B _ hkB, .inr ⟨rfl, _, O', hJx _ _ _ _ hj' h2 h3, h1, fun k => Iff.rfl, World.putObj_heap_same hlB⟩⟩
        | exit id =>
          obtain ⟨hkB, O', hO', hj'⟩ := hp2
          obtain ⟨hr3, hlB⟩ := fin (some (.exit id)) B hkB
          obtain ⟨h1, h2, h3, h4⟩ := sub B (.loop (rec .done (some (.exit id)))) O' hO' hkB
          exact ⟨_, _, hr3, fun k => O' k ∨ k = l, h4, all B _ hkB, .inr ⟨rfl, _, O', hJx _ _ _ _ hj' h2 h3, h1, fun k => Iff.rfl, World.putObj_heap_same hlB⟩⟩
        | goto t =>
          obtain ⟨hkB, O', hO', hj'⟩ := hp2
          obtain ⟨hr3, hlB⟩ := fin (some (.goto t)) B hkB
          obtain ⟨h1, h2, h3, h4⟩ := sub B (.loop (rec .done (some (.goto t)))) O' hO' hkB
          exact ⟨_, _, hr3, fun k => O' k ∨ k = l, h4, all B _ hkB, .inr ⟨rfl, _, O', hJx _ _ _ _ hj' h2 h3, h1, fun k => Iff.rfl, World.putObj_heap_same hlB⟩⟩
        | panic ch => exact hp2.elim
        | outgrown => exact hp2.elim
      | exit id => exact hp.elim
      | goto t => exact hp.elim
      | ret => exact hp.elim
      | panic ch => exact hp.elim
      | outgrown => exact hp.elim
    · exact ⟨O0, hJ _ _ _ _ h0 hO0 hk01.any, fun h => hbk l h rfl, fun k => Iff.rfl, hL1⟩
    · -- BEHIND THE ITERATOR
      rintro e W2 ⟨⟨v, rfl⟩, hK, O, hO, hcase⟩
      have tail : ∀ (Ob : Foot) (o : Obj), ¬ Ob l → (∀ k, O k ↔ Ob k ∨ k = l) → (∀ k, Ob k → k < W2.heap.size) ∧ Kept (fun k => ¬ Ob k) W2 (W2.putObj l o) ∧ (∀ k, Ob k → O0 k ∨ (W0.heap.size ≤ k ∧ k < (W2.putObj l o).heap.size)) ∧ Kept (fun k => O0 k ∨ W0.heap.size ≤ k) W0 (W2.putObj l o) := fun Ob o hnl hOb => by
        have h1 : ∀ k, Ob k → O0 k ∨ (W0.heap.size ≤ k ∧ k < W2.heap.size) := fun k hk => by
          rcases hO k ((hOb k).2 (.inl hk)) with (h | h) | h
          · exact .inl h
          · exact absurd (h ▸ hk) hnl
          · exact .inr ⟨by omega, h.2⟩
        have hsz := hK.size
        refine ⟨fun k hk => ?_, Kept.putObj _ _ _ hnl, fun k hk => by simpa using h1 k hk, (hbig hK).trans (Kept.putObj _ _ _ (.inr (by omega)))⟩
        rcases h1 k hk with h | h
        · have := hO0 k h; omega
        · exact h.2
      rcases hcase with ⟨Ob, hj, hnl, hOb, hr⟩ | ⟨c, Ob, hj, hnl, hOb, hr⟩
      · obtain ⟨h1, h2, h3, h4⟩ := tail Ob (.loop (rec .exhausted none)) hnl hOb
        exact ⟨none, _, by have := run_endLoop (P := P) hr (by rw [hrec]; simp); rw [hrec] at this ⊢; exact this, hdone Ob _ (hJ _ _ _ _ hj h1 h2) h3 h4⟩
      · obtain ⟨h1, h2, h3, h4⟩ := tail Ob (.loop (rec .exhausted (some c))) hnl hOb
        exact ⟨some c, _, by have := run_endLoop (P := P) hr (by rw [hrec]; simp); rw [hrec] at this ⊢; exact this, hstop c Ob _ (hJx _ _ _ _ hj h1 h2) h3 h4⟩

end Go.Proofs.YtpdldmichpmgmaaGreat

namespace Go.Proofs.YtpdldmichpmgmaaGreat
open Go.RowKit

/-- a frame whose slots of the region's operations hold these values -/
def fillA : List Oper → Nat → (Nat → Value) → Act → Act
  | [], _, _, a => a
  | o :: l, k, vs, a => fillA l (k + 1) vs (a.put o.dst (vs k))

def updV (vs : Nat → Value) (m : Nat) (v : Value) : Nat → Value := fun i => if i = m then v else vs i

theorem put_put (a : Act) (d : Option Tmp) (x y : Value) : (a.put d x).put d y = a.put d y := by
  cases d with
  | none => rfl
  | some d => simp [Act.put]

theorem fillA_comm (l : List Oper) : ∀ (k : Nat) (vs : Nat → Value) (a : Act) (d : Option Tmp) (v : Value), (∀ (i : Nat) (o' : Oper), l[i]? = some o' → ∀ t, d = some t → o'.dst ≠ some t) → (fillA l k vs a).put d v = fillA l k vs (a.put d v) := by
  induction l with
  | nil => intros; rfl
  | cons o l ih =>
    intro k vs a d v h
    rw [fillA, fillA, ih (k + 1) vs _ d v (fun i o' hi => h (i + 1) o' (by simpa using hi))]
    rw [Act.put_comm a (x := o.dst) (y := d) (vs k) v (fun t ht hd => h 0 o (by simp) t hd ht)]

theorem fillA_congr (l : List Oper) : ∀ (k : Nat) (vs us : Nat → Value) (a : Act), (∀ i, k ≤ i → vs i = us i) → fillA l k vs a = fillA l k us a := by
  induction l with
  | nil => intros; rfl
  | cons o l ih => intro k vs us a h; rw [fillA, fillA, h k (Nat.le_refl _)]; exact ih _ _ _ _ (fun i hi => h i (by omega))

theorem fillA_put (l : List Oper) : ∀ (k : Nat) (vs : Nat → Value) (a : Act) (j : Nat) (o : Oper) (v : Value), l[j]? = some o →
    (∀ (i : Nat) (o' : Oper), i ≠ j → l[i]? = some o' → ∀ d, o.dst = some d → o'.dst ≠ some d) → (fillA l k vs a).put o.dst v = fillA l k (updV vs (k + j) v) a := by
  induction l with
  | nil => intro k vs a j o v h; simp at h
  | cons o1 l ih =>
    intro k vs a j o v h hd
    cases j with
    | zero =>
      simp at h; subst h
      rw [fillA, fillA, fillA_comm l _ _ _ _ _ (fun i o' hi t ht => hd (i + 1) o' (by omega) (by simpa using hi) t ht), put_put]
      rw [show updV vs (k + 0) v k = v by simp [updV]]
      exact fillA_congr _ _ _ _ _ (fun i hi => by simp [updV]; omega)
    | succ j =>
      rw [fillA, fillA, ih (k + 1) vs _ j o v (by simpa using h) (fun i o' hij hi => hd (i + 1) o' (by omega) (by simpa using hi))]
      rw [show updV vs (k + (j + 1)) v k = vs k by simp [updV]]
      rw [show k + (j + 1) = k + 1 + j by omega]

/-- the values that stand in the slots ahead -/
def slot0 (ops : Array Oper) (a : Act) (i : Nat) : Value := (((ops[i]?).bind (·.dst)).bind (a.tmps[·]?)).getD undef

theorem put_same (a : Act) (d : Option Tmp) (v : Value) (h : ∀ t, d = some t → ∀ u, a.tmps[t]? = some u → u = v) : a.put d v = a := by
  cases d with
  | none => rfl
  | some t =>
    have h' := h t rfl
    unfold Act.put
    have : a.tmps.setIfInBounds t v = a.tmps := by
      apply Array.ext_getElem?
      intro i
      rw [Array.getElem?_setIfInBounds]
      split
      · rename_i e
        subst e
        split
        · rename_i hlt
          rw [Array.getElem?_eq_getElem hlt] at h' ⊢
          rw [h' _ rfl]
        · rename_i hlt
          rw [Array.getElem?_eq_none (by omega)]
      · rfl
    simp only [this]

theorem fillA_slot0 (ops : Array Oper) (a : Act) : fillA ops.toList 0 (slot0 ops a) a = a := by
  have key : ∀ (l : List Oper) (k : Nat), (∀ i : Nat, l[i]? = ops[k + i]?) → fillA l k (slot0 ops a) a = a := by
    intro l
    induction l with
    | nil => intros; rfl
    | cons o l ih =>
      intro k h
      have h0 : ops[k]? = some o := by simpa using (h 0).symm
      rw [fillA, put_same a o.dst _ (fun t ht u hu => by simp [slot0, h0, ht, hu])]
      exact ih (k + 1) (fun i => by rw [show k + 1 + i = k + (i + 1) by omega, ← h]; simp)
  exact key ops.toList 0 (fun i => by simp)

/-- the operations that one waits for -/
def waits (o : Oper) : List Nat := (o.after.toList.filter fun e => Region.binds .any e).map (·.on)

theorem mem_waits {o : Oper} {i : Nat} : i ∈ waits o ↔ ∃ e ∈ o.after, Region.binds .any e = true ∧ e.on = i := by
  simp [waits, and_assoc]

/-- each operation waits for elder ones alone; no two have one slot; each ahead of number m is waited for by one up to m, if there is such a one; behind m each waits for the one before -/
def goodB (ops : Array Oper) (m : Nat) : Bool :=
  ((List.range ops.size).all fun j => ((ops[j]?).map fun o => (waits o).all fun i => decide (i < j)).getD true) &&
  decide ((ops.toList.filterMap (·.dst)).Nodup) &&
  ((List.range m).all fun i => decide (ops.size ≤ m) || (List.range (m + 1)).any fun j => decide (i < j) && ((ops[j]?).map fun o => (waits o).contains i).getD false) &&
  ((List.range ops.size).all fun i => decide (i < m) || ((ops[i + 1]?).map fun o => (waits o).contains i).getD true)

theorem nodup_dst {l : List Oper} (h : (l.filterMap (·.dst)).Nodup) : ∀ (i j : Nat) (o o' : Oper), l[i]? = some o' → l[j]? = some o → i ≠ j → ∀ d, o.dst = some d → o'.dst ≠ some d := by
  induction l with
  | nil => intro i j o o' h; simp at h
  | cons x l ih =>
    have hl : (l.filterMap (·.dst)).Nodup := by
      cases hx : x.dst with
      | none => simpa [List.filterMap_cons, hx] using h
      | some d => rw [List.filterMap_cons, hx] at h; exact (List.nodup_cons.1 h).2
    have hne : ∀ (i : Nat) (o : Oper), l[i]? = some o → ∀ d, x.dst = some d → o.dst ≠ some d := by
      intro i o hi d hd he
      rw [List.filterMap_cons, hd] at h
      exact (List.nodup_cons.1 h).1 (List.mem_filterMap.2 ⟨o, List.mem_of_getElem? hi, he⟩)
    intro i j o o' hi hj hij d hd
    cases i with
    | zero =>
      cases j with
      | zero => exact absurd rfl hij
      | succ j =>
        simp at hi hj; subst hi
        intro he
        exact hne j o hj d he hd
    | succ i =>
      cases j with
      | zero =>
        simp at hi hj; subst hj
        exact hne i o' hi d hd
      | succ j => simp at hi hj; exact ih hl i j o o' hi hj (by omega) d hd

/-- what is asked of one operation -/
def StepE (P : Program) (ops : Array Oper) (C : World → Prop) (X : World → World → Prop) (E : Nat → Value → World → Prop) (Q : Exit → Act → World → Prop) (a0 : Act) (j : Nat) (o : Oper) : Prop :=
  ∀ (vs : Nat → Value) (w : World), C w → (∀ i ∈ waits o, E i (vs i) w) → (∀ (i : Nat) (o' : Oper), ops[i]? = some o' → j ∈ waits o' → vs i = slot0 ops a0 i) → vs j = slot0 ops a0 j →
    if Region.wanted o (yielded ops (fillA ops.toList 0 vs a0).tmps) = true then
      o.wp P (fillA ops.toList 0 vs a0) w (fun a' w' => ∃ v, a' = (fillA ops.toList 0 vs a0).put o.dst v ∧ C w' ∧ X w w' ∧ E j v w') Q
    else E j undef w

def StepsE (P : Program) (ops : Array Oper) (C : World → Prop) (X : World → World → Prop) (E : Nat → Value → World → Prop) (Q : Exit → Act → World → Prop) (a0 : Act) : List Oper → Nat → Prop
  | [], _ => True
  | o :: l, k => StepE P ops C X E Q a0 k o ∧ StepsE P ops C X E Q a0 l (k + 1)

theorem StepsE.get {P : Program} {ops : Array Oper} {C : World → Prop} {X : World → World → Prop} {E : Nat → Value → World → Prop} {Q : Exit → Act → World → Prop} {a0 : Act} : ∀ {l : List Oper} {k : Nat}, StepsE P ops C X E Q a0 l k → ∀ {j : Nat} {o : Oper}, l[j]? = some o → StepE P ops C X E Q a0 (k + j) o := by
  intro l
  induction l with
  | nil => intro k _ j o h; simp at h
  | cons x l ih =>
    intro k h j o hj
    cases j with
    | zero => simp at hj; subst hj; exact h.1
    | succ j => have := ih h.2 (j := j) (o := o) (by simpa using hj); rw [show k + (j + 1) = k + 1 + j by omega]; exact this

theorem count_set {l : List Bool} {i : Nat} (h : l[i]? = some false) : (l.set i true).count false + 1 = l.count false := by
  induction l generalizing i with
  | nil => simp at h
  | cons x l ih =>
    cases i with
    | zero => simp at h; subst h; simp
    | succ i => simp at h; simp only [List.set_cons_succ, List.count_cons]; have := ih h; omega
theorem count_zero {l : List Bool} (h : l.count false = 0) {i : Nat} (hi : i < l.length) : l[i]? = some true := by
  rw [List.count_eq_zero] at h
  rw [List.getElem?_eq_getElem hi]
  cases hb : l[i] with
  | true => rfl
  | false => exact absurd (hb ▸ List.getElem_mem hi) h

theorem rowsIn_any {F : Fence} {r : Option Nat} (hF : F = { Fence.wide with round := r }) {n : Nat} {P : Program} {row : String} {args : Array Value} {w : World} {R : Value → World → Prop} (h : Go.Rows P row args w R) : RowsIn F n P row args w R := by
  subst hF
  intro c cs _
  obtain ⟨v, w', hr, s⟩ := h c cs
  exact ⟨v, w', hr, stepsIn_wide.2 s⟩

/-- an operation that is no 'defer', carried out in whatever round -/
theorem Oper.wpIn_of_wp {F : Fence} {r : Option Nat} (hF : F = { Fence.wide with round := r }) {n : Nat} {P : Program} {o : Oper} {a : Act} {w : World} {K : Act → World → Prop} {Q : Exit → Act → World → Prop}
    (hs : ∀ ρ, o.semAt r ρ = execOp ρ o) (h : o.wp P a w K Q) : o.wpIn F n P a w K Q := by
  refine ⟨fun f _ => by subst hF; trivial, ?_⟩
  have hr : F.round = r := by subst hF; rfl
  have hd : F.depth.isSome = true → 1 ≤ n := fun h => by subst hF; simp [Fence.wide] at h
  rw [hr, hs]
  unfold Oper.wp at h
  generalize (execOp a.eval o).run P w = res at *
  cases res with
  | ok x w' =>
    cases x <;> simp only [Oper.upon] at h <;> simp only [Oper.uponIn] <;>
      first
        | exact h
        | exact ⟨hd, callsIn_any hF h⟩
        | exact h.elim
        | skip
    · rename_i row args
      exact ⟨hd, rowsIn_any hF h⟩
  | halt x w' => cases x <;> simp only [Oper.upon] at h <;> simp only [Oper.uponIn] <;> first | exact h | exact h.elim

theorem getD_tf {a : Array Bool} {j : Nat} : a.getD j true = false ↔ a[j]? = some false := by
  rw [Array.getD_eq_getD_getElem?]; cases a[j]? <;> simp
theorem getD_ft {a : Array Bool} {j : Nat} : a.getD j false = true ↔ a[j]? = some true := by
  rw [Array.getD_eq_getD_getElem?]; cases a[j]? <;> simp

/-- what is asked behind the operations: of those that are left, one after another -/
def FinE (F : Fence) (n : Nat) (P : Program) (ops : Array Oper) (C : World → Prop) (E : Nat → Value → World → Prop) (Q : Exit → Act → World → Prop) (a0 : Act) (m : Nat) : Prop :=
  ∀ (vs : Nat → Value) (w : World), C w → (∀ i, i < m → E i (vs i) w) → (∀ i, m ≤ i → vs i = slot0 ops a0 i) → wpOpsIn F n P ops Q (List.range' m (ops.size - m)) (fillA ops.toList 0 vs a0) w

/-- a chain: nothing is drawn any more -/
theorem wpAnyIn_chain {F : Fence} {n : Nat} {P : Program} {ops : Array Oper} {Q : Exit → Act → World → Prop} {m : Nat}
    (hold : ∀ (j : Nat) (o : Oper), ops[j]? = some o → ∀ i, i ∈ waits o → i < j) (hchain : ∀ (i : Nat) (o : Oper), m ≤ i → ops[i + 1]? = some o → i ∈ waits o) :
    ∀ (fuel k : Nat) (listed : Array Bool) (a : Act) (w : World), m ≤ k → k + fuel = ops.size → listed.size = ops.size → (∀ i : Nat, i < k → listed[i]? = some true) → (∀ i : Nat, k ≤ i → listed[i]? ≠ some true) →
      wpOpsIn F n P ops Q (List.range' k fuel) a w → wpAnyIn F n P .any ops Q fuel listed a w := by
  intro fuel
  induction fuel with
  | zero =>
    intro k listed a w hmk hk hsz hlow _ h
    refine ⟨?_, h⟩
    rcases hr : Region.ready .any ops listed with _ | ⟨x, l⟩
    · rfl
    · have hx : x ∈ Region.ready .any ops listed := by rw [hr]; exact List.mem_cons_self
      obtain ⟨h1, o, ho, _⟩ := mem_ready.1 hx
      rw [getD_tf, hlow x (by have := (Array.getElem?_eq_some_iff.1 ho).1; omega)] at h1
      cases h1
  | succ fuel ih =>
    intro k listed a w hmk hk hsz hlow hhigh h
    have hks : k < ops.size := by omega
    have hok := Array.getElem?_eq_getElem hks
    have hlk : listed[k]? = some false := by
      have hl : k < listed.size := by omega
      have := hhigh k (Nat.le_refl _)
      rw [Array.getElem?_eq_getElem hl] at this ⊢
      cases hb : listed[k] with
      | true => rw [hb] at this; exact absurd rfl this
      | false => rfl
    have hmem : k ∈ Region.ready .any ops listed := mem_ready.2 ⟨getD_tf.2 hlk, _, hok, fun e he hb => getD_ft.2 (hlow _ (hold k _ hok _ (mem_waits.2 ⟨e, he, hb, rfl⟩)))⟩
    refine ⟨(fun h0 => by rw [h0] at hmem; cases hmem), fun j hj => ?_⟩
    obtain ⟨hjf, o, ho, hw⟩ := mem_ready.1 hj
    rw [getD_tf] at hjf
    have hjk : j = k := by
      rcases Nat.lt_trichotomy j k with h1 | h1 | h1
      · rw [hlow j h1] at hjf; cases hjf
      · exact h1
      · exfalso
        obtain ⟨i, rfl⟩ : ∃ i, j = i + 1 := ⟨j - 1, by omega⟩
        obtain ⟨e, he, hb, heq⟩ := mem_waits.1 (hchain i o (by omega) ho)
        have := getD_ft.1 (hw e he hb)
        rw [heq] at this
        exact hhigh i (by omega) this
    subst hjk
    rw [List.range'_succ, wpOpsIn_cons] at h
    refine wpOpIn_mono (fun a' w' h' => ?_) h
    refine ih (j + 1) (listed.setIfInBounds j true) a' w' (by omega) (by omega) (by simpa using hsz) (fun i hi => ?_) (fun i hi => ?_) h'
    · rw [Array.getElem?_setIfInBounds]
      by_cases e : j = i
      · subst e; rw [if_pos rfl, if_pos (by omega)]
      · rw [if_neg e]; exact hlow i (by omega)
    · rw [Array.getElem?_setIfInBounds, if_neg (by omega)]; exact hhigh i (by omega)

theorem wpAnyIn_env {F : Fence} {r : Option Nat} (hF : F = { Fence.wide with round := r }) {n : Nat} {P : Program} {ops : Array Oper} {C : World → Prop} {X : World → World → Prop} {E : Nat → Value → World → Prop} {Q : Exit → Act → World → Prop} {a0 : Act} {m : Nat}
    (hsem : ∀ (j : Nat) (o : Oper), ops[j]? = some o → ∀ ρ, o.semAt r ρ = execOp ρ o) (hgood : goodB ops m = true) (hm1 : m ≤ ops.size)
    (stab : ∀ i v w w', C w → X w w' → E i v w → E i v w')
    (step : ∀ (j : Nat) (o : Oper), j < m → ops[j]? = some o → StepE P ops C X E Q a0 j o) (fin : FinE F n P ops C E Q a0 m) :
    ∀ (fuel : Nat) (listed : Array Bool) (vs : Nat → Value) (w : World), listed.size = ops.size → listed.toList.count false = fuel →
      (∀ (j : Nat) (o : Oper), listed[j]? = some true → ops[j]? = some o → ∀ i, i ∈ waits o → listed[i]? = some true) →
      (∀ i : Nat, listed[i]? = some true → E i (vs i) w) → (∀ i : Nat, listed[i]? ≠ some true → vs i = slot0 ops a0 i) → (∀ i : Nat, m ≤ i → listed[i]? ≠ some true) → C w →
      wpAnyIn F n P .any ops Q fuel listed (fillA ops.toList 0 vs a0) w := by
  simp only [goodB, Bool.and_eq_true, List.all_eq_true, List.mem_range, decide_eq_true_eq, Bool.or_eq_true, List.any_eq_true] at hgood
  obtain ⟨⟨⟨hg1, hg2⟩, hg3⟩, hg4⟩ := hgood
  have hold : ∀ (j : Nat) (o : Oper), ops[j]? = some o → ∀ i, i ∈ waits o → i < j := fun j o ho i hi => by
    have hj : j < ops.size := (Array.getElem?_eq_some_iff.1 ho).1
    have := hg1 j hj
    rw [ho] at this
    simp only [Option.map_some, Option.getD_some, List.all_eq_true, decide_eq_true_eq] at this
    exact this i hi
  have hchain : ∀ (i : Nat) (o : Oper), m ≤ i → ops[i + 1]? = some o → i ∈ waits o := fun i o hmi ho => by
    have hi := (Array.getElem?_eq_some_iff.1 ho).1
    rcases hg4 i (by omega) with h | h
    · omega
    · rw [ho] at h; simpa using h
  have hdst := nodup_dst hg2
  intro fuel
  -- all ahead of m are listed: the chain
  have done : ∀ (fuel : Nat) (listed : Array Bool) (vs : Nat → Value) (w : World), listed.size = ops.size → listed.toList.count false = fuel → (∀ i : Nat, i < m → listed[i]? = some true) →
      (∀ i : Nat, listed[i]? = some true → E i (vs i) w) → (∀ i : Nat, listed[i]? ≠ some true → vs i = slot0 ops a0 i) → (∀ i : Nat, m ≤ i → listed[i]? ≠ some true) → C w →
      wpAnyIn F n P .any ops Q fuel listed (fillA ops.toList 0 vs a0) w := by
    intro fuel listed vs w hsz hc hl hE hU hm hC
    have hfuel : fuel = ops.size - m := by
      have h1 : listed.toList = List.replicate m true ++ List.replicate (ops.size - m) false := by
        apply List.ext_getElem?
        intro i
        rw [Array.getElem?_toList]
        by_cases him : i < m
        · rw [hl i him, List.getElem?_append_left (by simpa using him), List.getElem?_replicate, if_pos him]
        · rw [List.getElem?_append_right (by simp; omega), List.getElem?_replicate, List.length_replicate]
          by_cases his : i < ops.size
          · rw [if_pos (by omega)]
            have := hm i (by omega)
            have hl' : i < listed.size := by omega
            rw [Array.getElem?_eq_getElem hl'] at this ⊢
            cases hb : listed[i] with
            | true => rw [hb] at this; exact absurd rfl this
            | false => rfl
          · rw [if_neg (by omega), Array.getElem?_eq_none (by omega)]
      rw [h1, List.count_append, List.count_replicate, List.count_replicate] at hc
      simp at hc
      omega
    subst hfuel
    exact wpAnyIn_chain hold hchain (ops.size - m) m listed _ w (Nat.le_refl _) (by omega) hsz hl hm (fin vs w hC (fun i hi => hE i (hl i hi)) (fun i hi => hU i (hm i hi)))
  induction fuel with
  | zero =>
    intro listed vs w hsz hc hcl hE hU hm hC
    refine done 0 listed vs w hsz hc (fun i hi => ?_) hE hU hm hC
    have := count_zero hc (i := i) (by rw [Array.length_toList, hsz]; omega)
    simpa using this
  | succ fuel ih =>
    intro listed vs w hsz hc hcl hE hU hm hC
    by_cases hl : ∀ i : Nat, i < m → listed[i]? = some true
    · exact done _ listed vs w hsz hc hl hE hU hm hC
    -- one ahead of m is still to come
    obtain ⟨i0, hi0, hn0⟩ : ∃ i, i < m ∧ listed[i]? ≠ some true := Classical.byContradiction fun h => hl fun i hi => Classical.byContradiction fun h2 => h ⟨i, hi, h2⟩
    have hfalse : ∀ i : Nat, i < ops.size → listed[i]? ≠ some true → listed[i]? = some false := fun i hi h => by
      have hl' : i < listed.size := by omega
      rw [Array.getElem?_eq_getElem hl'] at h ⊢
      cases hb : listed[i] with
      | true => rw [hb] at h; exact absurd rfl h
      | false => rfl
    refine ⟨fun h0 => ?_, fun j hj => ?_⟩
    · exfalso
      have key : ∀ i : Nat, i < ops.size → listed[i]? = some true := by
        intro i
        induction i using Nat.strongRecOn with
        | _ i ihi =>
          intro hi
          refine Classical.byContradiction fun h => ?_
          have hmem : i ∈ Region.ready .any ops listed := mem_ready.2 ⟨getD_tf.2 (hfalse i hi h), ops[i], Array.getElem?_eq_getElem hi, fun e he hbind => getD_ft.2 (by
            have := hold i _ (Array.getElem?_eq_getElem hi) _ (mem_waits.2 ⟨e, he, hbind, rfl⟩)
            exact ihi _ this (by omega))⟩
          rw [h0] at hmem
          cases hmem
      exact hn0 (key i0 (by omega))
    · obtain ⟨hjf, o, ho, hw⟩ := mem_ready.1 hj
      rw [getD_tf] at hjf
      have hjs : j < ops.size := (Array.getElem?_eq_some_iff.1 ho).1
      have hwl : ∀ i, i ∈ waits o → listed[i]? = some true := fun i hi => by
        obtain ⟨e, he, hb, rfl⟩ := mem_waits.1 hi
        exact getD_ft.1 (hw e he hb)
      have hjm : j < m := by
        rcases Nat.lt_trichotomy j m with h1 | h1 | h1
        · exact h1
        · exfalso
          subst h1
          have hothers : ∀ (d i : Nat), i < j → i + d = j → listed[i]? = some true := by
            intro d
            induction d using Nat.strongRecOn with
            | _ d ihd =>
              intro i hi hid
              rcases hg3 i hi with h | ⟨k, hk, hk2⟩
              · omega
              · obtain ⟨hik, hkw⟩ := hk2
                have hks : k < ops.size := by omega
                rw [Array.getElem?_eq_getElem hks] at hkw
                simp only [Option.map_some, Option.getD_some, List.contains_iff_mem] at hkw
                rcases Nat.lt_or_ge k j with h2 | h2
                · have := ihd (j - k) (by omega) k h2 (by omega)
                  exact hcl k _ this (Array.getElem?_eq_getElem hks) i hkw
                · have hkj : k = j := by omega
                  subst hkj
                  rw [Array.getElem?_eq_getElem hks] at ho
                  cases ho
                  exact hwl i hkw
          exact hn0 (hothers (j - i0) i0 hi0 (by omega))
        · exfalso
          obtain ⟨i, rfl⟩ : ∃ i, j = i + 1 := ⟨j - 1, by omega⟩
          exact hm i (by omega) (hwl i (hchain i o (by omega) ho))
      have hcount : (listed.setIfInBounds j true).toList.count false = fuel := by
        have h1 : listed.toList[j]? = some false := by simpa using hjf
        have := count_set h1
        rw [Array.toList_setIfInBounds]
        omega
      have hsz' : (listed.setIfInBounds j true).size = ops.size := by simpa using hsz
      have hget' : ∀ i : Nat, (listed.setIfInBounds j true)[i]? = if i = j then some true else listed[i]? := fun i => by
        rw [Array.getElem?_setIfInBounds]
        by_cases h : j = i
        · subst h; rw [if_pos rfl, if_pos rfl, if_pos (by omega)]
        · rw [if_neg h, if_neg (fun e => h e.symm)]
      have hput : ∀ v, (fillA ops.toList 0 vs a0).put o.dst v = fillA ops.toList 0 (updV vs j v) a0 := fun v => by
        have := fillA_put ops.toList 0 vs a0 j o v (by simpa using ho) (fun i o' hij hi => hdst i j o o' hi (by simpa using ho) hij)
        simpa using this
      have hvj : vs j = slot0 ops a0 j := hU j (by rw [hjf]; simp)
      have hst := step j o hjm ho vs w hC (fun i hi => hE i (hwl i hi)) (fun i o' ho' hi => hU i (fun hl => by
        have := hcl i o' hl ho' j hi
        rw [hjf] at this; cases this)) hvj
      have hnext : ∀ v w', C w' → (∀ i : Nat, listed[i]? = some true → E i (vs i) w') → E j v w' → wpAnyIn F n P .any ops Q fuel (listed.setIfInBounds j true) ((fillA ops.toList 0 vs a0).put o.dst v) w' := fun v w' hC' hEs hv => by
        rw [hput]
        refine ih _ _ _ hsz' hcount ?_ ?_ ?_ ?_ hC'
        · intro i o' hi ho' k hk
          rw [hget'] at hi ⊢
          by_cases hkj : k = j
          · rw [if_pos hkj]
          · rw [if_neg hkj]
            by_cases hij : i = j
            · subst hij
              rw [ho] at ho'; cases ho'
              exact hwl k hk
            · rw [if_neg hij] at hi
              exact hcl i o' hi ho' k hk
        · intro i hi
          rw [hget'] at hi
          by_cases hij : i = j
          · subst hij; simpa [updV] using hv
          · rw [if_neg hij] at hi
            rw [show updV vs j v i = vs i by simp [updV, hij]]
            exact hEs i hi
        · intro i hi
          rw [hget'] at hi
          by_cases hij : i = j
          · rw [if_pos hij] at hi; exact absurd rfl hi
          · rw [if_neg hij] at hi
            rw [show updV vs j v i = vs i by simp [updV, hij]]
            exact hU i hi
        · intro i hi
          rw [hget', if_neg (by omega)]; exact hm i hi
      unfold wpOpIn
      simp only [ho]
      split
      · rename_i hwant
        simp only [hwant, if_true] at hst
        refine Oper.wpIn_mono ?_ (Oper.wpIn_of_wp hF (hsem j o ho) hst)
        rintro a' w' ⟨v, rfl, hC', hX, hv⟩
        exact hnext v w' hC' (fun i hi => stab i _ _ _ hC hX (hE i hi)) hv
      · rename_i hwant
        simp only [hwant, if_false, Bool.false_eq_true] at hst
        exact ⟨fun f _ => by subst hF; trivial, hnext undef w hC hE hst⟩

def noDefB (ops : Array Oper) : Bool := ops.toList.all fun o => match o.op with | .defer _ => false | _ => true
theorem noDefB_sem {ops : Array Oper} (h : noDefB ops = true) {r : Option Nat} {j : Nat} {o : Oper} (ho : ops[j]? = some o) (ρ : Operand → Value) : o.semAt r ρ = execOp ρ o := by
  refine Oper.semAt_eq r ρ o (fun c hc => ?_)
  have := List.all_eq_true.1 h o (List.mem_of_getElem? (by simpa using ho))
  rw [hc] at this
  cases this

/-- THE LAW: one proof for each operation up to number m serves every order; those from m on come one after another, and may do what they like. -/
theorem wpIn_region_env {F : Fence} {r : Option Nat} (hF : F = { Fence.wide with round := r }) {n id : Nat} {P : Program} {ops : Array Oper} {Q : Exit → Act → World → Prop} {a0 : Act} {w0 : World} (C : World → Prop) (X : World → World → Prop) (E : Nat → Value → World → Prop) (m : Nat)
    (hP : P.follows .mixedOrders = true) (hd : noDefB ops = true) (hgood : goodB ops m = true) (hm1 : m ≤ ops.size) (hC : C { w0 with drawn := w0.drawn + 1 })
    (stab : ∀ i v w w', C w → X w w' → E i v w → E i v w')
    (step : StepsE P ops C X E Q a0 (ops.toList.take m) 0) (fin : FinE F n P ops C E Q a0 m) : (Code.region id ops true).wpIn F n P Q a0 w0 := by
  refine wpIn_region_any hP ?_
  have h := wpAnyIn_env hF (n := n) (P := P) (ops := ops) (C := C) (X := X) (E := E) (Q := Q) (a0 := a0) (m := m) (fun j o ho ρ => noDefB_sem hd ho ρ) hgood hm1 stab
    (fun j o hj ho => by have := step.get (j := j) (o := o) (by rw [List.getElem?_take, if_pos hj]; simpa using ho); simpa using this) fin
    ops.size (Array.replicate ops.size false) (slot0 ops a0) { w0 with drawn := w0.drawn + 1 } (by simp) (by simp) ?_ ?_ (fun _ _ => rfl) ?_ hC
  · rw [fillA_slot0] at h; exact h
  · intro j o hj; rw [Array.getElem?_replicate] at hj; split at hj <;> cases hj
  · intro j hj; rw [Array.getElem?_replicate] at hj; split at hj <;> cases hj
  · intro i _ hj; rw [Array.getElem?_replicate] at hj; split at hj <;> cases hj

/-- the same, what is left being one operation or none -/
def Fin1 (P : Program) (ops : Array Oper) (C : World → Prop) (E : Nat → Value → World → Prop) (Q : Exit → Act → World → Prop) (a0 : Act) (m : Nat) : Prop :=
  ∀ (vs : Nat → Value) (w : World), C w → (∀ i, i < m → E i (vs i) w) → (∀ i, m ≤ i → vs i = slot0 ops a0 i) →
    match ops[m]? with
    | none => Q .normal (fillA ops.toList 0 vs a0) w
    | some o => if Region.wanted o (yielded ops (fillA ops.toList 0 vs a0).tmps) = true then o.wp P (fillA ops.toList 0 vs a0) w (fun a' w' => Q .normal a' w') Q
      else Q .normal ((fillA ops.toList 0 vs a0).put o.dst undef) w
theorem Fin1.fin {F : Fence} {r : Option Nat} (hF : F = { Fence.wide with round := r }) {n : Nat} {P : Program} {ops : Array Oper} {C : World → Prop} {E : Nat → Value → World → Prop} {Q : Exit → Act → World → Prop} {a0 : Act} {m : Nat}
    (hd : noDefB ops = true) (hm1 : m ≤ ops.size) (hm2 : ops.size ≤ m + 1) (h : Fin1 P ops C E Q a0 m) : FinE F n P ops C E Q a0 m := by
  intro vs w hC hE hU
  have := h vs w hC hE hU
  rcases Nat.lt_or_ge m ops.size with hlt | hge
  · have hs : ops.size - m = 1 := by omega
    have ho := Array.getElem?_eq_getElem hlt
    rw [hs, List.range'_one, wpOpsIn_cons]
    rw [ho] at this
    unfold wpOpIn
    simp only [ho]
    split
    · rename_i hwant
      simp only [hwant, if_true] at this
      exact Oper.wpIn_of_wp hF (noDefB_sem hd ho) this
    · rename_i hwant
      simp only [hwant, if_false, Bool.false_eq_true] at this
      exact ⟨fun f _ => by subst hF; trivial, this⟩
  · have hs : ops.size - m = 0 := by omega
    rw [hs, List.range'_zero]
    rw [Array.getElem?_eq_none hge] at this
    exact this
theorem wpIn_region_env1 {F : Fence} {r : Option Nat} (hF : F = { Fence.wide with round := r }) {n id : Nat} {P : Program} {ops : Array Oper} {Q : Exit → Act → World → Prop} {a0 : Act} {w0 : World} (C : World → Prop) (X : World → World → Prop) (E : Nat → Value → World → Prop) (m : Nat)
    (hP : P.follows .mixedOrders = true) (hd : noDefB ops = true) (hgood : goodB ops m = true) (hm1 : m ≤ ops.size) (hm2 : ops.size ≤ m + 1) (hC : C { w0 with drawn := w0.drawn + 1 })
    (stab : ∀ i v w w', C w → X w w' → E i v w → E i v w')
    (step : StepsE P ops C X E Q a0 (ops.toList.take m) 0) (fin : Fin1 P ops C E Q a0 m) : (Code.region id ops true).wpIn F n P Q a0 w0 :=
  wpIn_region_env hF C X E m hP hd hgood hm1 hC stab step (fin.fin hF hd hm1 hm2)
theorem wp_region_env {id : Nat} {P : Program} {ops : Array Oper} {Q : Exit → Act → World → Prop} {a0 : Act} {w0 : World} (C : World → Prop) (X : World → World → Prop) (E : Nat → Value → World → Prop) (m : Nat)
    (hP : P.follows .mixedOrders = true) (hd : noDefB ops = true) (hgood : goodB ops m = true) (hm1 : m ≤ ops.size) (hm2 : ops.size ≤ m + 1) (hC : C { w0 with drawn := w0.drawn + 1 })
    (stab : ∀ i v w w', C w → X w w' → E i v w → E i v w')
    (step : StepsE P ops C X E Q a0 (ops.toList.take m) 0) (fin : Fin1 P ops C E Q a0 m) : (Code.region id ops true).wp P Q a0 w0 :=
  (wpIn_wide (n := 0)).1 (wpIn_region_env1 (r := none) rfl C X E m hP hd hgood hm1 hm2 hC stab step fin)

/-- promises, one behind the other -/
def envOf (l : List (Value → World → Prop)) : Nat → Value → World → Prop := fun i => l.getD i (fun _ _ => True)
def isV (x : Value) : Value → World → Prop := fun v _ => v = x
theorem envOf_stab {C : World → Prop} {X : World → World → Prop} {l : List (Value → World → Prop)} (h : ∀ p ∈ l, ∀ v w w', C w → X w w' → p v w → p v w') : ∀ i v w w', C w → X w w' → envOf l i v w → envOf l i v w' := by
  intro i v w w' hC hX hE
  unfold envOf at *
  by_cases hi : i < l.length
  · rw [List.getD_eq_getElem?_getD, List.getElem?_eq_getElem hi] at hE ⊢
    exact h _ (List.getElem_mem hi) v w w' hC hX hE
  · rw [List.getD_eq_getElem?_getD, List.getElem?_eq_none (by omega)]
    trivial
theorem isV_stab {C : World → Prop} {X : World → World → Prop} {x : Value} : ∀ v w w', C w → X w w' → isV x v w → isV x v w' := fun _ _ _ _ _ h => h
/-- what is asked of the promises -/
def StabL (C : World → Prop) (X : World → World → Prop) (l : List (Value → World → Prop)) : Prop := ∀ p ∈ l, ∀ v w w', C w → X w w' → p v w → p v w'
theorem StabL.nil {C : World → Prop} {X : World → World → Prop} : StabL C X [] := fun p h => by cases h
theorem StabL.is {C : World → Prop} {X : World → World → Prop} {x : Value} {l : List (Value → World → Prop)} (h : StabL C X l) : StabL C X (isV x :: l) := fun p hp => by
  rcases List.mem_cons.1 hp with rfl | hp
  · exact isV_stab
  · exact h p hp
theorem StabL.cons {C : World → Prop} {X : World → World → Prop} {p : Value → World → Prop} {l : List (Value → World → Prop)} (hp : ∀ v w w', C w → X w w' → p v w → p v w') (h : StabL C X l) : StabL C X (p :: l) := fun p' hp' => by
  rcases List.mem_cons.1 hp' with rfl | hp'
  · exact hp
  · exact h p' hp'

section
variable (P : Program) (ops : Array Oper) (C : World → Prop) (X : World → World → Prop) (full : List (Value → World → Prop)) (Q : Exit → Act → World → Prop) (a0 : Act)
/-- one operation keeps its promise -/
def StepP (p : Value → World → Prop) (j : Nat) (o : Oper) : Prop :=
  ∀ (vs : Nat → Value) (w : World) (K : Act → World → Prop), C w → (∀ i ∈ waits o, envOf full i (vs i) w) → (∀ (i : Nat) (o' : Oper), ops[i]? = some o' → j ∈ waits o' → vs i = slot0 ops a0 i) →
    (∀ v w', C w' → X w w' → p v w' → K ((fillA ops.toList 0 vs a0).put o.dst v) w') →
      if Region.wanted o (yielded ops (fillA ops.toList 0 vs a0).tmps) = true then o.wp P (fillA ops.toList 0 vs a0) w K Q else p undef w
def StepC (x : Value) (j : Nat) (o : Oper) : Prop :=
  ∀ (vs : Nat → Value) (w : World) (K : Act → World → Prop), C w → (∀ i ∈ waits o, envOf full i (vs i) w) → (∀ (i : Nat) (o' : Oper), ops[i]? = some o' → j ∈ waits o' → vs i = slot0 ops a0 i) →
    (∀ w', C w' → X w w' → K ((fillA ops.toList 0 vs a0).put o.dst x) w') →
      if Region.wanted o (yielded ops (fillA ops.toList 0 vs a0).tmps) = true then o.wp P (fillA ops.toList 0 vs a0) w K Q else undef = x
def StepsL : List Oper → List (Value → World → Prop) → Nat → Prop
  | [], _, _ => True
  | o :: l, p :: ps, k => StepP P ops C X full Q a0 p k o ∧ StepsL l ps (k + 1)
  | _ :: _, [], _ => False
end
section
variable {P : Program} {ops : Array Oper} {C : World → Prop} {X : World → World → Prop} {full : List (Value → World → Prop)} {Q : Exit → Act → World → Prop} {a0 : Act}
theorem StepsL.nil {ps : List (Value → World → Prop)} {k : Nat} : StepsL P ops C X full Q a0 [] ps k := by unfold StepsL; trivial
theorem StepsL.cons {p : Value → World → Prop} {ps : List (Value → World → Prop)} {o : Oper} {l : List Oper} {k : Nat} (h : StepP P ops C X full Q a0 p k o) (hl : StepsL P ops C X full Q a0 l ps (k + 1)) : StepsL P ops C X full Q a0 (o :: l) (p :: ps) k := ⟨h, hl⟩
theorem StepsL.is {x : Value} {ps : List (Value → World → Prop)} {o : Oper} {l : List Oper} {k : Nat} (h : StepC P ops C X full Q a0 x k o) (hl : StepsL P ops C X full Q a0 l ps (k + 1)) : StepsL P ops C X full Q a0 (o :: l) (isV x :: ps) k :=
  ⟨fun vs w K hC hD hU hK => h vs w K hC hD hU (fun w' hC' hX => hK x w' hC' hX rfl), hl⟩
theorem StepsL.isA {x : Value} {ps : List (Value → World → Prop)} {o : Oper} {l : List Oper} {k : Nat}
    (h : ∀ (vs : Nat → Value) (a : Act) (w : World) (K : Act → World → Prop), a = fillA ops.toList 0 vs a0 → C w → (∀ i ∈ waits o, envOf full i (vs i) w) → (∀ (i : Nat) (o' : Oper), ops[i]? = some o' → k ∈ waits o' → vs i = slot0 ops a0 i) →
      (∀ w', C w' → X w w' → K (a.put o.dst x) w') → if Region.wanted o (yielded ops a.tmps) = true then o.wp P a w K Q else undef = x)
    (hl : StepsL P ops C X full Q a0 l ps (k + 1)) : StepsL P ops C X full Q a0 (o :: l) (isV x :: ps) k :=
  StepsL.is (fun vs w K hC hD hU hK => h vs _ w K rfl hC hD hU hK) hl
theorem StepsL.consA {p : Value → World → Prop} {ps : List (Value → World → Prop)} {o : Oper} {l : List Oper} {k : Nat}
    (h : ∀ (vs : Nat → Value) (a : Act) (w : World) (K : Act → World → Prop), a = fillA ops.toList 0 vs a0 → C w → (∀ i ∈ waits o, envOf full i (vs i) w) → (∀ (i : Nat) (o' : Oper), ops[i]? = some o' → k ∈ waits o' → vs i = slot0 ops a0 i) →
      (∀ v w', C w' → X w w' → p v w' → K (a.put o.dst v) w') → if Region.wanted o (yielded ops a.tmps) = true then o.wp P a w K Q else p undef w)
    (hl : StepsL P ops C X full Q a0 l ps (k + 1)) : StepsL P ops C X full Q a0 (o :: l) (p :: ps) k :=
  StepsL.cons (fun vs w K hC hD hU hK => h vs _ w K rfl hC hD hU hK) hl
theorem StepsL.steps : ∀ {l : List Oper} {ps : List (Value → World → Prop)} {k : Nat}, StepsL P ops C X full Q a0 l ps k → ps = full.drop k → StepsE P ops C X (envOf full) Q a0 l k := by
  intro l
  induction l with
  | nil => intros; trivial
  | cons o l ih =>
    intro ps k h hps
    cases ps with
    | nil => exact h.elim
    | cons p ps =>
      have hp : envOf full k = p := by
        have h0 : full[k]? = some p := by
          have := congrArg (fun l : List (Value → World → Prop) => l[0]?) hps
          simpa using this.symm
        funext v w
        unfold envOf
        rw [List.getD_eq_getElem?_getD, h0]; rfl
      have hps' : ps = full.drop (k + 1) := by
        have := congrArg List.tail hps
        simpa using this
      refine ⟨fun vs w hC hD hU hv => ?_, ih h.2 hps'⟩
      have := h.1 vs w (fun a' w' => ∃ v, a' = (fillA ops.toList 0 vs a0).put o.dst v ∧ C w' ∧ X w w' ∧ envOf full k v w') hC hD hU (fun v w' hC' hX hpv => ⟨v, rfl, hC', hX, by rw [hp]; exact hpv⟩)
      split
      · rename_i hw; rw [if_pos hw] at this; exact this
      · rename_i hw; rw [if_neg hw] at this; rw [hp]; exact this
end

/-- the law, by a list of promises -/
theorem wpIn_region_list {F : Fence} {r : Option Nat} (hF : F = { Fence.wide with round := r }) {n id : Nat} {P : Program} {ops : Array Oper} {Q : Exit → Act → World → Prop} {a0 : Act} {w0 : World} (C : World → Prop) (X : World → World → Prop) (full : List (Value → World → Prop))
    (hP : P.follows .mixedOrders = true) (hd : noDefB ops = true) (hgood : goodB ops full.length = true) (hm1 : full.length ≤ ops.size) (hC : C { w0 with drawn := w0.drawn + 1 })
    (stab : StabL C X full) (step : StepsL P ops C X full Q a0 (ops.toList.take full.length) full 0) (fin : FinE F n P ops C (envOf full) Q a0 full.length) : (Code.region id ops true).wpIn F n P Q a0 w0 :=
  wpIn_region_env hF C X (envOf full) full.length hP hd hgood hm1 hC (envOf_stab stab) (step.steps rfl) fin
theorem wpIn_region_list1 {F : Fence} {r : Option Nat} (hF : F = { Fence.wide with round := r }) {n id : Nat} {P : Program} {ops : Array Oper} {Q : Exit → Act → World → Prop} {a0 : Act} {w0 : World} (C : World → Prop) (X : World → World → Prop) (full : List (Value → World → Prop))
    (hP : P.follows .mixedOrders = true) (hd : noDefB ops = true) (hgood : goodB ops full.length = true) (hm1 : full.length ≤ ops.size) (hm2 : ops.size ≤ full.length + 1) (hC : C { w0 with drawn := w0.drawn + 1 })
    (stab : StabL C X full) (step : StepsL P ops C X full Q a0 (ops.toList.take full.length) full 0) (fin : Fin1 P ops C (envOf full) Q a0 full.length) : (Code.region id ops true).wpIn F n P Q a0 w0 :=
  wpIn_region_env1 hF C X (envOf full) full.length hP hd hgood hm1 hm2 hC (envOf_stab stab) (step.steps rfl) fin
theorem wp_region_list {id : Nat} {P : Program} {ops : Array Oper} {Q : Exit → Act → World → Prop} {a0 : Act} {w0 : World} (C : World → Prop) (X : World → World → Prop) (full : List (Value → World → Prop))
    (hP : P.follows .mixedOrders = true) (hd : noDefB ops = true) (hgood : goodB ops full.length = true) (hm1 : full.length ≤ ops.size) (hm2 : ops.size ≤ full.length + 1) (hC : C { w0 with drawn := w0.drawn + 1 })
    (stab : StabL C X full) (step : StepsL P ops C X full Q a0 (ops.toList.take full.length) full 0) (fin : Fin1 P ops C (envOf full) Q a0 full.length) : (Code.region id ops true).wp P Q a0 w0 :=
  wp_region_env C X (envOf full) full.length hP hd hgood hm1 hm2 hC (envOf_stab stab) (step.steps rfl) fin

end Go.Proofs.YtpdldmichpmgmaaGreat

namespace Go.Proofs.YtpdldmichpmgmaaGreat
open Go.RowKit

theorem fold1 (p : Tmp) (v : Value) (t : Array Value) : ((#[p] : Array Tmp).zip #[v]).foldl (fun t (p, v) => t.setIfInBounds p v) t = t.setIfInBounds p v := by simp

/-- what a round owes: the left side is laid, then the body goes -/
def RoundOf (F : Fence) (n m : Nat) (P : Program) (ps : Array Tmp) (assign body : Code) (tmps : Array Value) (O0 : Foot) (W0 : World) (J : Nat → Foot → World → Prop) (Jx : Code → Foot → World → Prop) {α : Type} (enc : α → Array Value) (L : List α) : Prop :=
  ∀ (l : Nat) (i : Nat) (x : α) (O : Foot) (A : World), L[i]? = some x → J i O A → (∀ k, O k → k < A.heap.size) → (∀ k, O k → O0 k ∨ W0.heap.size ≤ k) → Kept (fun k => O0 k ∨ W0.heap.size ≤ k) W0 A → ¬ O l → l < A.heap.size → W0.heap.size ≤ l →
    assign.wpIn (F.inRound l) m P (Exit.then (fun a1 A1 => Kept (fun _ => False) A A1 ∧ ∀ A2, Kept (fun k => k = l) A1 A2 → A2.heap.size = A1.heap.size → (∃ r2, A2.heap[l]? = some (.loop r2)) → body.wpIn (F.inRound l) m P (roundEnd l A A2 O (J (i + 1)) Jx) a1 A2) (fun _ _ _ => False))
      { tmps := (ps.zip (enc x)).foldl (fun t (p, v) => t.setIfInBounds p v) tmps, defers := [] } A

theorem rangeFunc_outer {α : Type} {n m : Nat} {P : Program} {g : Operand} {ps : Array Tmp} {assign body : Code} {Q : Exit → Act → World → Prop} {a : Act} {w : World}
    {gf : Nat} {lb : Array Value} (hg : a.eval g = .func (.func gf) #[] lb) (eg : ∀ args w, (callFunc gf args).run P w = .ok (.enter gf args) w)
    {enc : α → Array Value} {L : List α} {Inv : World → Prop} (hseq : SeqL P gf lb enc L Inv) (hps : ∀ x, (enc x).size = ps.size)
    (O0 : Foot) (J : Nat → Foot → World → Prop) (Jx : Code → Foot → World → Prop)
    (hO0 : ∀ k, O0 k → k < w.heap.size)
    (hInv : ∀ A, Kept (fun k => O0 k ∨ w.heap.size ≤ k) w A → Inv A)
    (hJ : ∀ i O A B, J i O A → (∀ k, O k → k < A.heap.size) → Kept (fun k => ¬ O k) A B → J i O B)
    (hJx : ∀ c O A B, Jx c O A → (∀ k, O k → k < A.heap.size) → Kept (fun k => ¬ O k) A B → Jx c O B)
    (h0 : J 0 O0 w)
    (hround : RoundOf Fence.wide n m P ps assign body a.tmps O0 w J Jx enc L)
    (hdone : ∀ O W D, J L.length O W → (∀ k, O k → O0 k ∨ (w.heap.size ≤ k ∧ k < W.heap.size)) → Kept (fun k => O0 k ∨ w.heap.size ≤ k) w W → w.heap.size ≤ D → ¬ O D → W.heap[D]? = some (.deferred (some [])) → Q .normal { a with defers := { target := .collected D, args := #[] } :: a.defers } W)
    (hstop : ∀ c O W D, Jx c O W → (∀ k, O k → O0 k ∨ (w.heap.size ≤ k ∧ k < W.heap.size)) → Kept (fun k => O0 k ∨ w.heap.size ≤ k) w W → w.heap.size ≤ D → ¬ O D → W.heap[D]? = some (.deferred (some [])) → c.wpIn Fence.wide n P Q { a with defers := { target := .collected D, args := #[] } :: a.defers } W) :
    (Code.rangeFunc g ps assign body).wpIn Fence.wide n P Q a w := by
  have hk : Kept (fun _ => False) w (w.alloc (.deferred (some []))) := Kept.alloc _ _ _
  have hs : (w.alloc (.deferred (some []))).heap.size = w.heap.size + 1 := by simp
  have hD : (w.alloc (.deferred (some []))).heap[w.heap.size]? = some (.deferred (some [])) := World.alloc_heap_new w _
  have hbig : ∀ {A : World}, Kept (fun k => O0 k ∨ (w.alloc (.deferred (some []))).heap.size ≤ k) (w.alloc (.deferred (some []))) A → Kept (fun k => O0 k ∨ w.heap.size ≤ k) w A := fun hK =>
    hk.any.seq hK (fun i hi h => h.imp id (fun h => by omega))
  have hDd : ∀ (O : Foot) (W : World), (∀ k, O k → O0 k ∨ ((w.alloc (.deferred (some []))).heap.size ≤ k ∧ k < W.heap.size)) → Kept (fun k => O0 k ∨ (w.alloc (.deferred (some []))).heap.size ≤ k) (w.alloc (.deferred (some []))) W → ¬ O w.heap.size ∧ W.heap[w.heap.size]? = some (.deferred (some [])) := fun O W hO hK =>
    ⟨fun h => (hO _ h).elim (fun h => by have := hO0 _ h; omega) (fun h => by omega),
     (hK.block w.heap.size (by omega) (fun h => h.elim (fun h => by have := hO0 _ h; omega) (fun h => by omega))).trans hD⟩
  refine rangeFunc_core (r := none) rfl (w.alloc (.deferred (some []))) [{ target := .collected w.heap.size, args := #[] }] w.heap.size (m := m) ?_ hg eg hseq hps O0 J Jx
    (fun k h => by have := hO0 k h; omega) (fun A hK => hInv A (hbig hK)) hJ hJx (hJ _ _ _ _ h0 hO0 hk.any) ?_ ?_ ?_
  · intro fn
    rw [hs]
    exact run_enterLoop_outer _ _ _ _ _
  · intro l i x O A hx hj hlt hsub hK hnl hlA hWl
    exact hround l i x O A hx hj hlt (fun k h => (hsub k h).imp id (fun h => by omega)) (hbig hK) hnl hlA (by omega)
  · intro O W hj hO hK
    obtain ⟨h1, h2⟩ := hDd O W hO hK
    exact hdone O W _ hj (fun k h => (hO k h).imp id (fun h => ⟨by omega, h.2⟩)) (hbig hK) (Nat.le_refl _) h1 h2
  · intro c O W hj hO hK
    obtain ⟨h1, h2⟩ := hDd O W hO hK
    exact hstop c O W _ hj (fun k h => (hO k h).imp id (fun h => ⟨by omega, h.2⟩)) (hbig hK) (Nat.le_refl _) h1 h2

theorem rangeFunc_inner {α : Type} {l0 n m : Nat} {P : Program} {g : Operand} {ps : Array Tmp} {assign body : Code} {Q : Exit → Act → World → Prop} {a : Act} {w : World}
    (hr : ∃ r0, w.heap[l0]? = some (.loop r0))
    {gf : Nat} {lb : Array Value} (hg : a.eval g = .func (.func gf) #[] lb) (eg : ∀ args w, (callFunc gf args).run P w = .ok (.enter gf args) w)
    {enc : α → Array Value} {L : List α} {Inv : World → Prop} (hseq : SeqL P gf lb enc L Inv) (hps : ∀ x, (enc x).size = ps.size)
    (O0 : Foot) (J : Nat → Foot → World → Prop) (Jx : Code → Foot → World → Prop)
    (hO0 : ∀ k, O0 k → k < w.heap.size)
    (hInv : ∀ A, Kept (fun k => O0 k ∨ w.heap.size ≤ k) w A → Inv A)
    (hJ : ∀ i O A B, J i O A → (∀ k, O k → k < A.heap.size) → Kept (fun k => ¬ O k) A B → J i O B)
    (hJx : ∀ c O A B, Jx c O A → (∀ k, O k → k < A.heap.size) → Kept (fun k => ¬ O k) A B → Jx c O B)
    (h0 : J 0 O0 w)
    (hround : RoundOf (Fence.wide.inRound l0) n m P ps assign body a.tmps O0 w J Jx enc L)
    (hdone : ∀ O W, J L.length O W → (∀ k, O k → O0 k ∨ (w.heap.size ≤ k ∧ k < W.heap.size)) → Kept (fun k => O0 k ∨ w.heap.size ≤ k) w W → Q .normal a W)
    (hstop : ∀ c O W, Jx c O W → (∀ k, O k → O0 k ∨ (w.heap.size ≤ k ∧ k < W.heap.size)) → Kept (fun k => O0 k ∨ w.heap.size ≤ k) w W → c.wpIn (Fence.wide.inRound l0) n P Q a W) :
    (Code.rangeFunc g ps assign body).wpIn (Fence.wide.inRound l0) n P Q a w := by
  obtain ⟨r0, hr⟩ := hr
  refine rangeFunc_core (F := Fence.wide.inRound l0) (r := some l0) rfl w [] r0.defers (m := m) ?_ hg eg hseq hps O0 J Jx hO0 hInv hJ hJx h0 hround (fun O W hj hO hK => ?_) (fun c O W hj hO hK => ?_)
  · intro fn
    exact run_enterLoop_inner hr _ _ _ _ _
  · exact hdone O W hj hO hK
  · exact hstop c O W hj hO hK

end Go.Proofs.YtpdldmichpmgmaaGreat

namespace Go.Proofs.YtpdldmichpmgmaaGreat
open Go.RowKit

theorem wpListIn_append_n {F : Fence} {n0 : Nat} {P : Program} {ops : Array Oper} {rest : List Oper} {o : Oper} {a : Act} {Q : Exit → Act → World → Prop} (w : World) (hgd : o.guard = none) (s x : Operand) (t : TypeId)
    (ho : o.op = .call { callee := .builtin .append, args := #[s, x], argTypes := #[t, t] })
    {α : Type} {R : Rd α} {m : Nat} (g : R.Good m) {S : Foot} (base : Nat) (e : TypeId) (i : TypeInfo) (z : Value) (bytes : Nat) (ht : P.underlying t = some (.slice e)) (hi : P.info? e = some i) (hz : i.zero = some z)
    (hsize : i.size = m) (hby : i.bytes = bytes) (hzs : z.cells.size = m) (hsz : 0 < m)
    (v : Value) (xs : List α) (y : α) (n : Nat) (hn : xs.length = n) (hs : a.eval s = v) (hown : OwnL R m S w base e v xs)
    (ad : Addr) (c : Nat) (news : List Value) (hx : a.eval x = .slice (some ad) 1 c) (hR : R S w y news) (hnews : ∀ j u, news[j]? = some u → w.cell? (ad.add j) = some u)
    (h63 : n + 1 ≤ maxLen) (hbytes : (n + 1) * bytes ≤ 140737488355328) (hbase : base ≤ w.heap.size) (hS : ¬ S w.heap.size)
    (h : ∀ A' cap' w', OwnL R m S w' base e (.slice (some ⟨A', 0, none⟩) (n + 1) cap') (xs ++ [y]) → w.grownBy w' v.ownBlock → (v.ownBlock = some A' ∨ A' = w.heap.size) → wpListIn F n0 P ops Q rest (a.put o.dst (.slice (some ⟨A', 0, none⟩) (n + 1) cap')) w') : wpListIn F n0 P ops Q (o :: rest) a w := by
  subst hn
  refine wpListIn_plain hgd fun K hK' => ?_
  obtain ⟨A', cap', w', hrun, h2, h3, h4⟩ := run_append_one (P := P) w t o.type g base e i z bytes ht hi hz hsize hby hzs hsz v xs y hown ad c news hR hnews h63 hbytes hbase hS
  unfold Oper.wpIn
  refine ⟨?_, ?_⟩
  · simp [Oper.about, ho, resolve, Target.leads, Sem.run_pure]
  · rw [Oper.semAt_plain F _ _ (by rw [ho]; intro c hc'; cases hc')]
    simp [execOp, ho, resolve, invoke, builtin, hs, hx, hrun, Result.andThen]
    exact hK' _ _ (h A' cap' w' h2 h3 h4)

/-- a truth, as five numbers -/
def TrR : Rd (List Int) := fun _ _ x vs => vs = [.int .i64 (x.getD 0 0), .int .i64 (x.getD 1 0), .int .i64 (x.getD 2 0), .int .i64 (x.getD 3 0), .int .i64 (x.getD 4 0)]
theorem TrR.good : TrR.Good 5 where
  len := by rintro S w x vs rfl; rfl
  one := by rintro S w x vs rfl v hv; simp at hv; rcases hv with rfl | rfl | rfl | rfl | rfl <;> rfl
  keep := by rintro S w w' x vs rfl hk; rfl
  mono := by rintro S T w x vs rfl hk; rfl
  bound := by rintro S w x vs rfl; rfl
abbrev Truths := SliceOf TrR 5

/-- what the own slice of an iterator's collector is -/
structure ColSt {α : Type} (R : Rd α) (m : Nat) (W : World) (gs : Nat) (T : TypeId) (base : Nat) (e : TypeId) (xs : List α) (O : Foot) : Prop where
  st : ∃ (A : Option Addr) (cap : Nat), Blk W gs T #[.slice A xs.length cap] ∧ OwnL R m (fun _ => False) W base e (.slice A xs.length cap) xs ∧ (∀ k, O k ↔ k = gs ∨ (Value.slice A xs.length cap).ownBlock = some k) ∧ (Value.slice A xs.length cap).ownBlock ≠ some gs
theorem ColSt.stay {α : Type} {R : Rd α} {m : Nat} (g : R.Good m) {A B : World} {gs : Nat} {T : TypeId} {base : Nat} {e : TypeId} {xs : List α} {O : Foot} (h : ColSt R m A gs T base e xs O) (hK : Kept (fun k => ¬ O k) A B) : ColSt R m B gs T base e xs O := by
  obtain ⟨Ad, cap, h1, h2, h3, h4⟩ := h.st
  exact ⟨Ad, cap, (hK.block _ h1.lt (fun h => h ((h3 gs).2 (.inl rfl)))).trans h1, h2.keep g ⟨hK.size, fun k hk hlt => hK.block k hlt (fun h => h ((h3 k).2 (.inr (hk.elim (fun h => h.elim) id))))⟩, h3, h4⟩

end Go.Proofs.YtpdldmichpmgmaaGreat
