/- A part of the proof that TopLaid always answers true. -/
import Derived.Laws.OwnMore
import Derived.Laws.Rows
import Derived.Deep.AppendLies
import Derived.Deep.RegionHeld3
import Derived.RangeFuncNested
import Derived.RangeFuncBound
import Derived.RangeFuncCalls
import Derived.RangeFuncLeaves
import Derived.Test.YtdbfincinjoppaaGreatCBase
set_option linter.all false
namespace Go.Proofs.YtdbfincinjoppaaGreat
open Go.RowKit
theorem OwnL.block {α : Type} {R : Rd α} {m : Nat} {S : Foot} {w : World} {base : Nat} {e : TypeId} {v : Value} {xs : List α} (h : OwnL R m S w base e v xs) : ∀ k, v.ownBlock = some k → base ≤ k ∧ k < w.heap.size := by
 obtain ⟨_, cells, ho, _⟩ := h
 exact ho.lt
theorem OwnL.ne {α : Type} {R : Rd α} {m : Nat} {S : Foot} {w : World} {base : Nat} {e : TypeId} {v : Value} {xs : List α} (h : OwnL R m S w base e v xs) {g : Nat} (hg : g < base ∨ w.heap.size ≤ g) : some g ≠ v.ownBlock := by
 intro he
 have := h.block g he.symm
 omega
theorem bl_grown {B : Nat} {w w' w2 : World} {α : Type} {R : Rd α} {m : Nat} {S : Foot} {base : Nat} {e : TypeId} {v : Value} {xs : List α} (h : Below B w w') (ho : OwnL R m S w' base e v xs) (hg : w'.grownBy w2 v.ownBlock) (hB : B ≤ base) (hBw : B ≤ w.heap.size) : Below B w w2 :=
 h.grown hg (Nat.le_trans hBw h.size) (fun k hk => Nat.le_trans hB (ho.block k hk).1)
theorem wpList_append_n {P : Program} {ops : Array Oper} {rest : List Oper} {o : Oper} {a : Act} {Q : Exit → Act → World → Prop} (w : World) (hgd : o.guard = none) (s x : Operand) (t : TypeId)
  (ho : o.op = .call { callee := .builtin .append, args := #[s, x], argTypes := #[t, t] })
  {α : Type} {R : Rd α} {m : Nat} (g : R.Good m) {S : Foot} (base : Nat) (e : TypeId) (i : TypeInfo) (z : Value) (bytes : Nat) (ht : P.underlying t = some (.slice e)) (hi : P.info? e = some i) (hz : i.zero = some z)
  (hsize : i.size = m) (hby : i.bytes = bytes) (hzs : z.cells.size = m) (hsz : 0 < m)
  (v : Value) (xs : List α) (y : α) (n : Nat) (hn : xs.length = n) (hs : a.eval s = v) (hown : OwnL R m S w base e v xs)
  (ad : Addr) (c : Nat) (news : List Value) (hx : a.eval x = .slice (some ad) 1 c) (hR : R S w y news) (hnews : ∀ j u, news[j]? = some u → w.cell? (ad.add j) = some u)
  (h63 : n + 1 ≤ maxLen) (hbytes : (n + 1) * bytes ≤ 140737488355328) (hbase : base ≤ w.heap.size) (hS : ¬ S w.heap.size)
  (h : ∀ A' cap' w', OwnL R m S w' base e (.slice (some ⟨A', 0, none⟩) (n + 1) cap') (xs ++ [y]) → w.grownBy w' v.ownBlock → (v.ownBlock = some A' ∨ A' = w.heap.size) → wpList P ops Q rest (a.put o.dst (.slice (some ⟨A', 0, none⟩) (n + 1) cap')) w') : wpList P ops Q (o :: rest) a w := by
 subst hn
 exact wpList_append_one w hgd s x t ho g base e i z bytes ht hi hz hsize hby hzs hsz v xs y hs hown ad c news hx hR hnews h63 hbytes hbase hS h
def OwnT (T : Foot) {α : Type} (R : Rd α) (m : Nat) (w : World) (base : Nat) (e : TypeId) (v : Value) (xs : List α) : Prop :=
 OwnL R m (fun k => T k ∧ v.ownBlock ≠ some k) w base e v xs
theorem OwnT.nil (T : Foot) {α : Type} (R : Rd α) (m : Nat) (w : World) (base : Nat) (e : TypeId) : OwnT T R m w base e (.slice none 0 0) [] :=
 ⟨fun k h => by simp [Value.ownBlock] at h, [], World.ownsRow_nil w base e m, fun k x h => by simp at h⟩
theorem OwnT.below {T : Foot} {α : Type} {R : Rd α} {m : Nat} {w w' : World} {base : Nat} {e : TypeId} {v : Value} {xs : List α} (g : R.Good m) (h : OwnT T R m w base e v xs) (hb : Below w.heap.size w w') : OwnT T R m w' base e v xs := OwnL.keep g h (Keeps.below hb)
theorem OwnT.slice {T : Foot} {α : Type} {R : Rd α} {m : Nat} {w : World} {base : Nat} {e : TypeId} {v : Value} {xs : List α} {U : Foot} (g : R.Good m) (h : OwnT T R m w base e v xs) {A : Option Addr} {n cap : Nat} (hv : v = .slice A n cap) (hn : n ≤ maxLen) (hT : ∀ k, T k → U k) (hU : ∀ k, base ≤ k → U k) : SliceOf R m U w A n xs :=
 OwnL.slice g h hv hn (fun k hk => hT k hk.1) (fun k hk _ => hU k hk)
theorem wpList_append_t {P : Program} {ops : Array Oper} {rest : List Oper} {o : Oper} {a : Act} {Q : Exit → Act → World → Prop} (w : World) (hgd : o.guard = none) (s x : Operand) (t : TypeId)
  (ho : o.op = .call { callee := .builtin .append, args := #[s, x], argTypes := #[t, t] })
  {α : Type} {R : Rd α} {m : Nat} (T : Foot) (g : R.Good m) (base : Nat) (e : TypeId) (i : TypeInfo) (z : Value) (bytes : Nat) (ht : P.underlying t = some (.slice e)) (hi : P.info? e = some i) (hz : i.zero = some z)
  (hsize : i.size = m) (hby : i.bytes = bytes) (hzs : z.cells.size = m) (hsz : 0 < m)
  (v : Value) (xs : List α) (y : α) (n : Nat) (hn : xs.length = n) (hs : a.eval s = v) (hown : OwnT T R m w base e v xs)
  (ad : Addr) (c : Nat) (news : List Value) (hx : a.eval x = .slice (some ad) 1 c) (hR : R (fun k => T k ∧ v.ownBlock ≠ some k) w y news) (hnews : ∀ j u, news[j]? = some u → w.cell? (ad.add j) = some u)
  (h63 : n + 1 ≤ maxLen) (hbytes : (n + 1) * bytes ≤ 140737488355328) (hbase : base ≤ w.heap.size)
  (h : ∀ A' cap' w', OwnT T R m w' base e (.slice (some ⟨A', 0, none⟩) (n + 1) cap') (xs ++ [y]) → w.grownBy w' v.ownBlock → (v.ownBlock = some A' ∨ A' = w.heap.size) → wpList P ops Q rest (a.put o.dst (.slice (some ⟨A', 0, none⟩) (n + 1) cap')) w') : wpList P ops Q (o :: rest) a w := by
 obtain ⟨h0, cells, hrow, hcells⟩ := hown
 have hb : OwnL R m (fun k => (T k ∧ v.ownBlock ≠ some k) ∧ k < w.heap.size) w base e v xs := ⟨fun k hk h => h0 k hk h.1, cells, hrow, fun k x hx => by
  obtain ⟨vs, hR, hc⟩ := hcells k x hx
  exact ⟨vs, g.bound hR, hc⟩⟩
 refine wpList_append_n w hgd s x t ho g base e i z bytes ht hi hz hsize hby hzs hsz v xs y n hn hs hb ad c news hx (g.bound hR) hnews h63 hbytes hbase (fun h => absurd h.2 (Nat.lt_irrefl _)) ?_
 intro A' cap' w' ho' hg' hat'
 refine h A' cap' w' ?_ hg' hat'
 obtain ⟨h1, cells', hrow', hcells'⟩ := ho'
 refine ⟨fun k hk hc => hc.2 hk, cells', hrow', fun k x hx => ?_⟩
 obtain ⟨vs, hR', hc⟩ := hcells' k x hx
 refine ⟨vs, g.mono hR' fun j hj => ⟨hj.1.1, fun hA => ?_⟩, hc⟩
 have hA' : A' = j := by simpa [Value.ownBlock] using hA
 subst hA'
 rcases hat' with e | e
 ·exact hj.1.2 e
 have := hj.2; omega
open Go.RowKit
def Blk (w : World) (g : Nat) (t : TypeId) (cs : Array Value) : Prop := w.heap[g]? = some (.cells cs t (0, 0))
section
variable {w w' : World} {g : Nat} {t : TypeId} {cs : Array Value}
theorem Blk.lt (h : Blk w g t cs) : g < w.heap.size := (Array.getElem?_eq_some_iff.1 h).1
theorem Blk.cell (h : Blk w g t cs) (i : Nat) : w.cell? ⟨g, i, none⟩ = cs[i]? := cell_of_row w g i cs t (0, 0) h
theorem Blk.frozen (h : Blk w g t cs) (i : Nat) : w.frozen? ⟨g, i, none⟩ = false := by
 unfold Blk at h
 simp [World.frozen?, h]
theorem Blk.new (w : World) (t : TypeId) (cs : Array Value) {g : Nat} (hg : g = w.heap.size) : Blk (w.alloc (.cells cs t)) g t cs := by subst hg; exact heap_alloc_new w _
theorem Blk.drew (h : Blk w g t cs) : Blk w.drew g t cs := h
theorem Blk.drewN (h : Blk w g t cs) (n : Nat) : Blk (w.drewN n) g t cs := h
theorem Blk.alloc (h : Blk w g t cs) (o : Obj) : Blk (w.alloc o) g t cs := (Below.heap_alloc w o g h.lt).trans h
theorem Blk.set_ (h : Blk w g t cs) (i : Nat) (u : Value) : Blk (w.setCell ⟨g, i, none⟩ u) g t (cs.setIfInBounds i u) := by
 unfold Blk at h ⊢
 simp [World.setCell, Array.getElem?_modify, h]
theorem Blk.far (h : Blk w g t cs) {p : Addr} (hp : g ≠ p.block) (u : Value) : Blk (w.setCell p u) g t cs := (Below.heap_setCell w p u g hp).trans h
theorem Blk.bl (h : Blk w g t cs) (hb : Below w.heap.size w w') : Blk w' g t cs := (hb.block g h.lt).trans h
end
theorem Blk.set2 {w : World} {g : Nat} {t : TypeId} {a b : Value} (h : Blk w g t #[a, b]) (x y : Value) : Blk ((w.setCell ⟨g, 0, none⟩ x).setCell ⟨g, 1, none⟩ y) g t #[x, y] := (h.set_ 0 x).set_ 1 y
theorem Blk.c0 {w : World} {g : Nat} {t : TypeId} {a b : Value} (h : Blk w g t #[a, b]) : w.cell? ⟨g, 0, none⟩ = some a := h.cell 0
theorem Blk.c1 {w : World} {g : Nat} {t : TypeId} {a b : Value} (h : Blk w g t #[a, b]) : w.cell? ⟨g, 1, none⟩ = some b := h.cell 1
theorem bl_set {B : Nat} {w w' : World} (h : Below B w w') {p : Addr} (hp : B ≤ p.block) (v : Value) : Below B w (w'.setCell p v) := h.setCell hp v
open Go.RowKit
theorem run_append_one {P : Program} (w : World) (t ty : TypeId) {α : Type} {R : Rd α} {m : Nat} (g : R.Good m) {S : Foot} (base : Nat) (e : TypeId) (i : TypeInfo) (z : Value) (bytes : Nat) (ht : P.underlying t = some (.slice e)) (hi : P.info? e = some i) (hz : i.zero = some z)
  (hsize : i.size = m) (hby : i.bytes = bytes) (hzs : z.cells.size = m) (hsz : 0 < m)
  (v : Value) (xs : List α) (y : α) (hown : OwnL R m S w base e v xs)
  (ad : Addr) (c : Nat) (news : List Value) (hR : R S w y news) (hnews : ∀ j u, news[j]? = some u → w.cell? (ad.add j) = some u)
  (h63 : xs.length + 1 ≤ maxLen) (hbytes : (xs.length + 1) * bytes ≤ 140737488355328) (hbase : base ≤ w.heap.size) (hS : ¬ S w.heap.size) :
  ∃ A' cap' w', (Builtin.append_ #[t, t] ty #[v, .slice (some ad) 1 c]).run P w = .ok (.slice (some ⟨A', 0, none⟩) (xs.length + 1) cap') w' ∧ OwnL R m S w' base e (.slice (some ⟨A', 0, none⟩) (xs.length + 1) cap') (xs ++ [y]) ∧ w.grownBy w' v.ownBlock ∧ (v.ownBlock = some A' ∨ A' = w.heap.size) := by
 obtain ⟨hS0, cells, hrow, hcells⟩ := hown
 obtain ⟨v', w', hr, hown', hgrow, _, hat⟩ := run_append_own_at (P := P) w base t ty e i z m bytes ht hi hz hsize hby hzs hsz v xs.length cells hrow ad 1 c news (by rw [g.len hR]; omega) hnews (g.one hR) h63 hbytes hbase
 obtain ⟨gb, cap, rfl⟩ := ownsRow_succ hown'
 have hat' : v.ownBlock = some gb ∨ gb = w.heap.size := by
  rcases hat with e | e
  ·left; rw [← e]; rfl
  right; injection e
 have hk : Keeps S w w' := Keeps.grown hgrow hS0
 refine ⟨gb, cap, w', hr, ⟨fun k hk' => ?_, cells ++ news, by simpa using hown', fun k y' hy => ?_⟩, hgrow, hat'⟩
 ·have : gb = k := by simpa [Value.ownBlock] using hk'
  subst this
  rcases hat' with e | e
  ·exact hS0 _ e
  rw [e]; exact hS
 by_cases hlt : k < xs.length
 ·rw [List.getElem?_append_left hlt] at hy
  obtain ⟨vs, hR', hc⟩ := hcells k y' hy
  refine ⟨vs, g.keep hR' hk, fun j u hu => ?_⟩
  have h3 := hc j u hu
  rw [List.getElem?_append_left (of_getq' h3)]; exact h3
 have hk2 : k = xs.length := by have := of_getq' hy; simp at this; omega
 subst hk2
 simp at hy; subst hy
 refine ⟨news, g.keep hR hk, fun j u hu => ?_⟩
 rw [List.getElem?_append_right (by rw [hrow.1]; omega), hrow.1]
 rw [show xs.length * m + j - xs.length * m = j by omega]; exact hu
theorem step_append_n {P : Program} {ops : Array Oper} {o : Oper} {a : Act} {K : Act → World → Prop} {Q : Exit → Act → World → Prop} {E : Prop} (w : World) (hgd : o.guard = none) (s x : Operand) (t : TypeId)
  (ho : o.op = .call { callee := .builtin .append, args := #[s, x], argTypes := #[t, t] })
  {α : Type} {R : Rd α} {m : Nat} (g : R.Good m) {S : Foot} (base : Nat) (e : TypeId) (i : TypeInfo) (z : Value) (bytes : Nat) (ht : P.underlying t = some (.slice e)) (hi : P.info? e = some i) (hz : i.zero = some z)
  (hsize : i.size = m) (hby : i.bytes = bytes) (hzs : z.cells.size = m) (hsz : 0 < m)
  (v : Value) (xs : List α) (y : α) (n : Nat) (hn : xs.length = n) (hs : a.eval s = v) (hown : OwnL R m S w base e v xs)
  (ad : Addr) (c : Nat) (news : List Value) (hx : a.eval x = .slice (some ad) 1 c) (hR : R S w y news) (hnews : ∀ j u, news[j]? = some u → w.cell? (ad.add j) = some u)
  (h63 : n + 1 ≤ maxLen) (hbytes : (n + 1) * bytes ≤ 140737488355328) (hbase : base ≤ w.heap.size) (hS : ¬ S w.heap.size)
  (h : ∀ A' cap' w', OwnL R m S w' base e (.slice (some ⟨A', 0, none⟩) (n + 1) cap') (xs ++ [y]) → w.grownBy w' v.ownBlock → (v.ownBlock = some A' ∨ A' = w.heap.size) → K (a.put o.dst (.slice (some ⟨A', 0, none⟩) (n + 1) cap')) w') :
  if Region.wanted o (yielded ops a.tmps) = true then Oper.wp P o a w K Q else E := by
 subst hn
 have hw : Region.wanted o (yielded ops a.tmps) = true := by simp [Region.wanted, hgd]
 rw [if_pos hw]
 obtain ⟨A', cap', w', hr, h2, h3, h4⟩ := run_append_one (P := P) w t o.type g base e i z bytes ht hi hz hsize hby hzs hsz v xs y hown ad c news hR hnews h63 hbytes hbase hS
 unfold Oper.wp execOp
 simp only [ho, resolve, invoke, builtin, Sem.run_bind, Sem.run_pure, Result.andThen_ok, List.map_toArray, List.map_cons, List.map_nil, hs, hx, hr]
 exact h A' cap' w' h2 h3 h4
open Go.RowKit
structure Kept (M : Foot) (w w' : World) : Prop where
 os : w'.os = w.os
 tape : w'.tape = w.tape
 output : w'.output = w.output
 size : w.heap.size ≤ w'.heap.size
 block : ∀ k, k < w.heap.size → ¬ M k → w'.heap[k]? = w.heap[k]?
theorem Kept.refl (M : Foot) (w : World) : Kept M w w := ⟨rfl, rfl, rfl, Nat.le_refl _, fun _ _ _ => rfl⟩
theorem Kept.trans {M : Foot} {a b c : World} (h : Kept M a b) (k : Kept M b c) : Kept M a c :=
 ⟨k.os.trans h.os, k.tape.trans h.tape, k.output.trans h.output, Nat.le_trans h.size k.size, fun i hi hM => (k.block i (Nat.lt_of_lt_of_le hi h.size) hM).trans (h.block i hi hM)⟩
theorem Kept.mono {M N : Foot} {a b : World} (h : Kept M a b) (hN : ∀ k, k < a.heap.size → M k → N k) : Kept N a b :=
 ⟨h.os, h.tape, h.output, h.size, fun k hk hn => h.block k hk (fun hm => hn (hN k hk hm))⟩
theorem Kept.any {M : Foot} {a b : World} (h : Kept (fun _ => False) a b) : Kept M a b := h.mono fun _ _ h => h.elim
theorem Kept.of_below {B : Nat} {M : Foot} {a b : World} (h : Below B a b) (hM : ∀ k, B ≤ k → k < a.heap.size → M k) : Kept M a b :=
 ⟨h.os, h.tape, h.output, h.size, fun k hk hm => h.block k (Classical.byContradiction fun hc => hm (hM k (by omega) hk))⟩
theorem Kept.of_bl {M : Foot} {a b : World} (h : Below a.heap.size a b) : Kept M a b := Kept.of_below h fun k h1 h2 => by omega
theorem Kept.below {B : Nat} {M : Foot} {a b : World} (h : Kept M a b) (hB : B ≤ a.heap.size) (hM : ∀ k, M k → B ≤ k) : Below B a b :=
 ⟨h.os, h.tape, h.output, h.size, fun k hk => h.block k (by omega) (fun hm => by have := hM k hm; omega)⟩
theorem Kept.alloc (M : Foot) (w : World) (o : Obj) : Kept M w (w.alloc o) := ⟨rfl, rfl, rfl, by simp, fun k hk _ => Below.heap_alloc w o k hk⟩
theorem Kept.drewN (M : Foot) (w : World) (q : Nat) : Kept M w (w.drewN q) := ⟨rfl, rfl, rfl, Nat.le_refl _, fun _ _ _ => rfl⟩
theorem Kept.drew (M : Foot) (w : World) : Kept M w w.drew := ⟨rfl, rfl, rfl, Nat.le_refl _, fun _ _ _ => rfl⟩
theorem Kept.setCell {M : Foot} (w : World) (a : Addr) (v : Value) (h : M a.block) : Kept M w (w.setCell a v) :=
 ⟨rfl, rfl, rfl, by simp [World.setCell], fun k _ hm => Below.heap_setCell w a v k (fun e => hm (e ▸ h))⟩
theorem Kept.putObj {M : Foot} (w : World) (l : Nat) (o : Obj) (h : M l) : Kept M w (w.putObj l o) :=
 ⟨rfl, rfl, rfl, by simp, fun k _ hm => World.putObj_heap_other (fun e => hm (e ▸ h))⟩
theorem Kept.grown {M : Foot} {w w' : World} {row : Option Nat} (hg : w.grownBy w' row) (h : ∀ k, row = some k → M k) : Kept M w w' :=
 ⟨hg.os, hg.tape, hg.output, hg.size, fun k hk hm => hg.block k hk (fun e => hm (h k e.symm))⟩
theorem Kept.cell {M : Foot} {w w' : World} {p : Addr} {v : Value} (h : Kept M w w') (hc : w.cell? p = some v) (hm : ¬ M p.block) : w'.cell? p = some v :=
 (World.cell?_of_block (h.block p.block (World.block_lt_of_cell? w p hc) hm)).trans hc
theorem Kept.keeps {M S : Foot} {w w' : World} (h : Kept M w w') (hS : ∀ k, S k → ¬ M k) : Keeps S w w' := ⟨h.size, fun k hs hk => h.block k hk (hS k hs)⟩
theorem Kept.seq {M N : Foot} {a b c : World} (h : Kept M a b) (k : Kept N b c) (hN : ∀ i, i < a.heap.size → N i → M i) : Kept M a c :=
 ⟨k.os.trans h.os, k.tape.trans h.tape, k.output.trans h.output, Nat.le_trans h.size k.size, fun i hi hM => (k.block i (Nat.lt_of_lt_of_le hi h.size) (fun hn => hM (hN i hi hn))).trans (h.block i hi hM)⟩
def SeqL {α : Type} (P : Program) (gf : Nat) (lb : Array Value) (enc : α → Array Value) (L : List α) (Inv : World → Prop) : Prop :=
 ∀ (l : Nat) (O0 : Foot) (J : Nat → Foot → World → Prop) (Jx : Foot → World → Prop) (W : World),
  (∀ k, O0 k → k < W.heap.size) →
  (∀ A, Kept (fun k => O0 k ∨ W.heap.size ≤ k) W A → Inv A) →
  (∀ i O A B, J i O A → (∀ k, O k → k < A.heap.size) → Kept (fun k => ¬ O k) A B → J i O B) →
  (∀ O A B, Jx O A → (∀ k, O k → k < A.heap.size) → Kept (fun k => ¬ O k) A B → Jx O B) →
  (∀ i x O A, L[i]? = some x → J i O A → (∀ k, O k → k < A.heap.size) → (∀ k, O k → O0 k ∨ W.heap.size ≤ k) → Kept (fun k => O0 k ∨ W.heap.size ≤ k) W A →
   ∀ m, YieldAt Fence.wide m P l (enc x) A fun e B => ∃ O' : Foot, (∀ k, O' k → O k ∨ (A.heap.size ≤ k ∧ k < B.heap.size)) ∧ Kept O A B ∧
    ((e = .returned (.bool true) ∧ J (i + 1) O' B) ∨ (e = .returned (.bool false) ∧ Jx O' B))) →
  J 0 O0 W →
  Calls P gf (#[.func (.yield l) #[] #[]] ++ lb) W fun e B => (∃ v, e = .returned v) ∧ Kept (fun k => O0 k ∨ W.heap.size ≤ k) W B ∧
   ∃ O : Foot, (∀ k, O k → O0 k ∨ (W.heap.size ≤ k ∧ k < B.heap.size)) ∧ (J L.length O B ∨ Jx O B)
def roundEnd (l : Nat) (A0 A : World) (O : Foot) (J : Foot → World → Prop) (Jx : Code → Foot → World → Prop) : Exit → Act → World → Prop
 | .normal, _, B => Kept O A B ∧ ∃ O' : Foot, (∀ k, O' k → O k ∨ (A0.heap.size ≤ k ∧ k < B.heap.size)) ∧ J O' B
 | .ret, _, B => Kept O A B ∧ ∃ O' : Foot, (∀ k, O' k → O k ∨ (A0.heap.size ≤ k ∧ k < B.heap.size)) ∧ Jx .ret O' B
 | .exit id, _, B => Kept O A B ∧ ∃ O' : Foot, (∀ k, O' k → O k ∨ (A0.heap.size ≤ k ∧ k < B.heap.size)) ∧ Jx (.exit id) O' B
 | .goto t, _, B => Kept O A B ∧ ∃ O' : Foot, (∀ k, O' k → O k ∨ (A0.heap.size ≤ k ∧ k < B.heap.size)) ∧ Jx (.goto t) O' B
 | .panic _, _, _ => False
 | .outgrown, _, _ => False
theorem callsIn_any {F : Fence} {r : Option Nat} (hF : F = { Fence.wide with round := r }) {n : Nat} {P : Program} {f : FuncId} {args : Array Value} {w : World} {R : Ending → World → Prop} (h : Calls P f args w R) : CallsIn F n P f args w R := by
 subst hF
 exact (callsIn_wide (n := n)).2 h
theorem roundIn_any {F : Fence} {r : Option Nat} (hF : F = { Fence.wide with round := r }) {n m l : Nat} {P : Program} {f : FuncId} {tmps : Array Value} {assign body : Code} {w : World} {R : Ending → World → Prop} (h : RoundIn F n P l f tmps assign body w R) : RoundIn Fence.wide m P l f tmps assign body w R := by
 subst hF
 exact ⟨h.1, fun c cs _ => h.2 c cs (room_wide _)⟩
theorem rangeFunc_core {α : Type} {F : Fence} {r : Option Nat} (hF : F = { Fence.wide with round := r }) {n m : Nat} {P : Program} {g : Operand} {ps : Array Tmp} {assign body : Code} {Q : Exit → Act → World → Prop} {a : Act} {w : World}
  (W0 : World) (mark : List Deferred) (dfr : Nat)
  (hent : ∀ fn, (Instr.enterLoop fn a.tmps ps assign body F.round).run P w = .ok (W0.heap.size, mark) (W0.alloc (.loop { state := .ready, pending := none, fn, tmps := a.tmps, params := ps, assign, body, defers := dfr })))
  {gf : Nat} {lb : Array Value} (hg : a.eval g = .func (.func gf) #[] lb) (eg : ∀ args w, (callFunc gf args).run P w = .ok (.enter gf args) w)
  {enc : α → Array Value} {L : List α} {Inv : World → Prop} (hseq : SeqL P gf lb enc L Inv) (hps : ∀ x, (enc x).size = ps.size)
  (O0 : Foot) (J : Nat → Foot → World → Prop) (Jx : Code → Foot → World → Prop)
  (hO0 : ∀ k, O0 k → k < W0.heap.size)
  (hInv : ∀ A, Kept (fun k => O0 k ∨ W0.heap.size ≤ k) W0 A → Inv A)
  (hJ : ∀ i O A B, J i O A → (∀ k, O k → k < A.heap.size) → Kept (fun k => ¬ O k) A B → J i O B)
  (hJx : ∀ c O A B, Jx c O A → (∀ k, O k → k < A.heap.size) → Kept (fun k => ¬ O k) A B → Jx c O B)
  (h0 : J 0 O0 W0)
  (hround : ∀ (l : Nat) (i : Nat) (x : α) (O : Foot) (A : World), L[i]? = some x → J i O A → (∀ k, O k → k < A.heap.size) → (∀ k, O k → O0 k ∨ W0.heap.size ≤ k) → Kept (fun k => O0 k ∨ W0.heap.size ≤ k) W0 A → ¬ O l → l < A.heap.size → W0.heap.size ≤ l →
   assign.wpIn (F.inRound l) m P (Exit.then (fun a1 A1 => Kept (fun _ => False) A A1 ∧ ∀ A2, Kept (fun k => k = l) A1 A2 → A2.heap.size = A1.heap.size → (∃ r2, A2.heap[l]? = some (.loop r2)) → body.wpIn (F.inRound l) m P (roundEnd l A A2 O (J (i + 1)) Jx) a1 A2) (fun _ _ _ => False))
    { tmps := (ps.zip (enc x)).foldl (fun t (p, v) => t.setIfInBounds p v) a.tmps, defers := [] } A)
  (hdone : ∀ O W, J L.length O W → (∀ k, O k → O0 k ∨ (W0.heap.size ≤ k ∧ k < W.heap.size)) → Kept (fun k => O0 k ∨ W0.heap.size ≤ k) W0 W → Q .normal { a with defers := mark ++ a.defers } W)
  (hstop : ∀ c O W, Jx c O W → (∀ k, O k → O0 k ∨ (W0.heap.size ≤ k ∧ k < W.heap.size)) → Kept (fun k => O0 k ∨ W0.heap.size ≤ k) W0 W → c.wpIn F n P Q { a with defers := mark ++ a.defers } W) :
  (Code.rangeFunc g ps assign body).wpIn F n P Q a w := by
 refine wpIn_rangeFunc ?_
 intro fn hfn
 obtain ⟨rec, hrec⟩ : ∃ rec : LoopState → Option Code → Loop, rec = fun st pe => { state := st, pending := pe, fn, tmps := a.tmps, params := ps, assign, body, defers := dfr } := ⟨_, rfl⟩
 obtain ⟨l, hl⟩ : ∃ l, l = W0.heap.size := ⟨_, rfl⟩
 obtain ⟨W1, hW1⟩ : ∃ W1, W0.alloc (.loop (rec .ready none)) = W1 := ⟨_, rfl⟩
 have hk01 : Kept (fun _ => False) W0 W1 := by rw [← hW1]; exact Kept.alloc _ _ _
 have hs1 : W1.heap.size = l + 1 := by rw [← hW1, hl]; simp
 have hL1 : W1.heap[l]? = some (.loop (rec .ready none)) := by rw [← hW1, hl]; exact World.alloc_heap_new W0 _
 have hdepth : F.depth.isSome = true → 1 ≤ n := fun h => by subst hF; simp [Fence.wide] at h
 refine ⟨l, mark, W1, { target := .fn (.func gf) lb, args := #[.func (.yield l) #[] #[]] }, W1, gf, #[.func (.yield l) #[] #[]] ++ lb, W1, ?_, ?_, ?_, ?_, hdepth, ?_⟩
 ·rw [hent fn, hl, ← hW1, hrec]
 ·simp only [resolve, hg]
  simp [go_sem]
 ·intro f' _; subst hF; trivial
 ·simp [invoke, go_sem, eg]
 refine callsIn_any hF ?_
 have hbk : ∀ k, O0 k → k ≠ l := fun k hk e => by have := hO0 k hk; omega
 have hbig : ∀ {A : World}, Kept (fun k => (O0 k ∨ k = l) ∨ W1.heap.size ≤ k) W1 A → Kept (fun k => O0 k ∨ W0.heap.size ≤ k) W0 A := fun hK =>
  hk01.any.seq hK (fun i hi h => by rcases h with (h | h) | h; exact .inl h; omega; omega)
 refine (hseq l (fun k => O0 k ∨ k = l)
  (fun i O A => ∃ Ob : Foot, J i Ob A ∧ ¬ Ob l ∧ (∀ k, O k ↔ Ob k ∨ k = l) ∧ A.heap[l]? = some (.loop (rec .ready none)))
  (fun O A => ∃ c, ∃ Ob : Foot, Jx c Ob A ∧ ¬ Ob l ∧ (∀ k, O k ↔ Ob k ∨ k = l) ∧ A.heap[l]? = some (.loop (rec .done (some c))))
  W1 ?_ ?_ ?_ ?_ ?_ ?_).mono ?_
 ·rintro k (h | rfl)
  ·have := hO0 k h; omega
  omega
 ·intro A hK
  exact hInv A (hbig hK)
 ·rintro i O A B ⟨Ob, hj, hnl, hO, hr⟩ hlt hK
  have hKb : Kept (fun k => ¬ Ob k) A B := hK.mono fun k _ hk hb => hk ((hO k).2 (.inl hb))
  exact ⟨Ob, hJ i Ob A B hj (fun k hk => hlt k ((hO k).2 (.inl hk))) hKb, hnl, hO, (hK.block l (hlt l ((hO l).2 (.inr rfl))) (fun h => h ((hO l).2 (.inr rfl)))).trans hr⟩
 ·rintro O A B ⟨c, Ob, hj, hnl, hO, hr⟩ hlt hK
  have hKb : Kept (fun k => ¬ Ob k) A B := hK.mono fun k _ hk hb => hk ((hO k).2 (.inl hb))
  exact ⟨c, Ob, hJx c Ob A B hj (fun k hk => hlt k ((hO k).2 (.inl hk))) hKb, hnl, hO, (hK.block l (hlt l ((hO l).2 (.inr rfl))) (fun h => h ((hO l).2 (.inr rfl)))).trans hr⟩
 ·
  rintro i x O A hx ⟨Ob, hj, hnl, hO, hr⟩ hlt hsub hK m'
  have hlA : l < A.heap.size := hlt l ((hO l).2 (.inr rfl))
  have hltb : ∀ k, Ob k → k < A.heap.size := fun k hk => hlt k ((hO k).2 (.inl hk))
  have hsubb : ∀ k, Ob k → O0 k ∨ W0.heap.size ≤ k := fun k hk => by
   rcases hsub k ((hO k).2 (.inl hk)) with (h | h) | h
   ·exact .inl h
   ·exact absurd (h ▸ hk) hnl
   exact .inr (by omega)
  have hy := run_yield (P := P) (args := enc x) hr (by rw [hrec]; simp [hps])
  rw [hrec] at hy
  refine ⟨fn, _, assign, body, hy, roundIn_any hF (n := m) (roundIn_of_wpIn hfn ?_)⟩
  refine wpIn_mono (hround l i x Ob A hx hj hltb hsubb (hbig hK) hnl hlA (by omega)) ?_
  rintro e a1 A1 hp
  cases e with
  | normal =>
   obtain ⟨hKA, hb⟩ := hp
   have hrA1 : A1.heap[l]? = some (.loop (rec .ready none)) := (hKA.block l hlA (fun h => h)).trans hr
   have hl1 : l < A1.heap.size := Nat.lt_of_lt_of_le hlA hKA.size
   refine ⟨_, run_beginRound hrA1 (by rw [hrec]), ?_⟩
   obtain ⟨A2, hA2⟩ : ∃ A2, A1.putObj l (.loop { rec .ready none with state := .busy }) = A2 := ⟨_, rfl⟩
   rw [hA2]
   have hK12 : Kept (fun k => k = l) A1 A2 := by rw [← hA2]; exact Kept.putObj _ _ _ rfl
   have hr2 : A2.heap[l]? = some (.loop { rec .ready none with state := .busy }) := by rw [← hA2]; exact World.putObj_heap_same hl1
   have hs2 : A2.heap.size = A1.heap.size := by rw [← hA2]; simp
   refine wpIn_mono (hb A2 hK12 hs2 ⟨_, hr2⟩) ?_
   have fin : ∀ (jump : Option Code) (B : World), Kept Ob A2 B →
     (Instr.endRound l jump).run P B = .ok (.bool jump.isNone) (B.putObj l (.loop (rec (if jump.isNone then .ready else .done) jump))) ∧ l < B.heap.size := fun jump B hkB => by
    have hl2 : l < A2.heap.size := by omega
    have hr3 := (hkB.block l hl2 hnl).trans hr2
    have := run_endRound (P := P) jump hr3
    rw [hrec] at this ⊢
    exact ⟨this, Nat.lt_of_lt_of_le hl2 hkB.size⟩
   have all : ∀ (B : World) (o : Obj), Kept Ob A2 B → Kept O A (B.putObj l o) := fun B o hkB => by
    refine (((hKA.any (M := O)).trans (hK12.mono (fun k _ h => (hO k).2 (.inr h)))).trans (hkB.mono (fun k _ h => (hO k).2 (.inl h)))).trans (Kept.putObj _ _ _ ((hO l).2 (.inr rfl)))
   have sub : ∀ (B : World) (o : Obj) (O' : Foot), (∀ k, O' k → Ob k ∨ (A.heap.size ≤ k ∧ k < B.heap.size)) → Kept Ob A2 B → (¬ O' l) ∧ (∀ k, O' k → k < B.heap.size) ∧ Kept (fun k => ¬ O' k) B (B.putObj l o) ∧
     (∀ k, (O' k ∨ k = l) → O k ∨ (A.heap.size ≤ k ∧ k < (B.putObj l o).heap.size)) := fun B o O' hO' hkB => by
    have hnl' : ¬ O' l := fun h => by rcases hO' l h with h | h; exact hnl h; omega
    refine ⟨hnl', fun k hk => ?_, Kept.putObj _ _ _ hnl', fun k hk => ?_⟩
    ·rcases hO' k hk with h | h
     ·have := hltb k h; have := hkB.size; have := hKA.size; omega
     exact h.2
    rcases hk with hk | rfl
    ·rcases hO' k hk with h | h
     ·exact .inl ((hO k).2 (.inl h))
     exact .inr ⟨h.1, by simpa using h.2⟩
    exact .inl ((hO k).2 (.inr rfl))
   rintro e2 a2 B hp2
   cases e2 with
   | normal =>
    obtain ⟨hkB, O', hO', hj'⟩ := hp2
    obtain ⟨hr3, hlB⟩ := fin none B hkB
    obtain ⟨h1, h2, h3, h4⟩ := sub B (.loop (rec .ready none)) O' hO' hkB
    exact ⟨_, _, hr3, fun k => O' k ∨ k = l, h4, all B _ hkB, .inl ⟨rfl, O', hJ _ _ _ _ hj' h2 h3, h1, fun k => Iff.rfl, World.putObj_heap_same hlB⟩⟩
   | ret =>
    obtain ⟨hkB, O', hO', hj'⟩ := hp2
    obtain ⟨hr3, hlB⟩ := fin (some .ret) B hkB
    obtain ⟨h1, h2, h3, h4⟩ := sub B (.loop (rec .done (some .ret))) O' hO' hkB
    exact ⟨_, _, hr3, fun k => O' k ∨ k = l, h4, all B _ hkB, .inr ⟨rfl, _, O', hJx _ _ _ _ hj' h2 h3, h1, fun k => Iff.rfl, World.putObj_heap_same hlB⟩⟩
   | exit id =>
    obtain ⟨hkB, O', hO', hj'⟩ := hp2
    obtain ⟨hr3, hlB⟩ := fin (some (.exit id)) B hkB
    obtain ⟨h1, h2, h3, h4⟩ := sub B (.loop (rec .done (some (.exit id)))) O' hO' hkB
    exact ⟨_, _, hr3, fun k => O' k ∨ k = l, h4, all B _ hkB, .inr ⟨rfl, _, O', hJx _ _ _ _ hj' h2 h3, h1, fun k => Iff.rfl, World.putObj_heap_same hlB⟩⟩
   | goto t =>
    obtain ⟨hkB, O', hO', hj'⟩ := hp2
    obtain ⟨hr3, hlB⟩ := fin (some (.goto t)) B hkB
    obtain ⟨h1, h2, h3, h4⟩ := sub B (.loop (rec .done (some (.goto t)))) O' hO' hkB
    exact ⟨_, _, hr3, fun k => O' k ∨ k = l, h4, all B _ hkB, .inr ⟨rfl, _, O', hJx _ _ _ _ hj' h2 h3, h1, fun k => Iff.rfl, World.putObj_heap_same hlB⟩⟩
   | panic ch => exact hp2.elim
   | outgrown => exact hp2.elim
  | exit id => exact hp.elim
  | goto t => exact hp.elim
  | ret => exact hp.elim
  | panic ch => exact hp.elim
  | outgrown => exact hp.elim
 ·exact ⟨O0, hJ _ _ _ _ h0 hO0 hk01.any, fun h => hbk l h rfl, fun k => Iff.rfl, hL1⟩
 -- BEHIND THE ITERATOR
 rintro e W2 ⟨⟨v, rfl⟩, hK, O, hO, hcase⟩
 have tail : ∀ (Ob : Foot) (o : Obj), ¬ Ob l → (∀ k, O k ↔ Ob k ∨ k = l) → (∀ k, Ob k → k < W2.heap.size) ∧ Kept (fun k => ¬ Ob k) W2 (W2.putObj l o) ∧ (∀ k, Ob k → O0 k ∨ (W0.heap.size ≤ k ∧ k < (W2.putObj l o).heap.size)) ∧ Kept (fun k => O0 k ∨ W0.heap.size ≤ k) W0 (W2.putObj l o) := fun Ob o hnl hOb => by
  have h1 : ∀ k, Ob k → O0 k ∨ (W0.heap.size ≤ k ∧ k < W2.heap.size) := fun k hk => by
   rcases hO k ((hOb k).2 (.inl hk)) with (h | h) | h
   ·exact .inl h
   ·exact absurd (h ▸ hk) hnl
   exact .inr ⟨by omega, h.2⟩
  have hsz := hK.size
  refine ⟨fun k hk => ?_, Kept.putObj _ _ _ hnl, fun k hk => by simpa using h1 k hk, (hbig hK).trans (Kept.putObj _ _ _ (.inr (by omega)))⟩
  rcases h1 k hk with h | h
  ·have := hO0 k h; omega
  exact h.2
 rcases hcase with ⟨Ob, hj, hnl, hOb, hr⟩ | ⟨c, Ob, hj, hnl, hOb, hr⟩
 ·obtain ⟨h1, h2, h3, h4⟩ := tail Ob (.loop (rec .exhausted none)) hnl hOb
  exact ⟨none, _, by have := run_endLoop (P := P) hr (by rw [hrec]; simp); rw [hrec] at this ⊢; exact this, hdone Ob _ (hJ _ _ _ _ hj h1 h2) h3 h4⟩
 obtain ⟨h1, h2, h3, h4⟩ := tail Ob (.loop (rec .exhausted (some c))) hnl hOb
 exact ⟨some c, _, by have := run_endLoop (P := P) hr (by rw [hrec]; simp); rw [hrec] at this ⊢; exact this, hstop c Ob _ (hJx _ _ _ _ hj h1 h2) h3 h4⟩
end Go.Proofs.YtdbfincinjoppaaGreat
