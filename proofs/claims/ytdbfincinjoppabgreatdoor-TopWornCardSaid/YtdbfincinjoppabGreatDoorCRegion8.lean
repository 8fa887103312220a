/- A part of the proof that TopWorn always answers true. -/
import Derived.Laws.Tables
import Derived.Laws.Rows
import Derived.Test.YtdbfincinjoppabGreatDoorCKTru
import Derived.Test.YtdbfincinjoppabGreatDoorCRegion2
set_option linter.all false
namespace Go.Proofs.YtdbfincinjoppabGreatDoor
open Go.RowKit
open Go.RowKit
theorem wpIn_region_inv {F : Fence} {r : Option Nat} (hF : F = { Fence.wide with round := r }) {n id : Nat} {P : Program} {ops : Array Oper} {Q : Exit → Act → World → Prop} {a0 : Act} {w0 : World} (I : (Nat → Bool) → (Nat → Value) → World → Prop) (m : Nat)
  (hP : P.follows .mixedOrders = true) (hd : noDefB ops = true) (hgood : goodB ops m = true) (hm1 : m ≤ ops.size) (hI : I (fun _ => false) (slot0 ops a0) { w0 with drawn := w0.drawn + 1 })
  (step : ∀ (j : Nat) (o : Oper), j < m → ops[j]? = some o → StepI P ops I Q a0 j o) (fin : FinI F n P ops I Q a0 m) : (Code.region id ops true).wpIn F n P Q a0 w0 := by
 refine wpIn_region_any hP ?_
 have h := wpAnyIn_inv hF (n := n) (P := P) (ops := ops) (I := I) (Q := Q) (a0 := a0) (m := m) (fun j o ho ρ => noDefB_sem hd ho ρ) hgood hm1 step fin
  ops.size (Array.replicate ops.size false) (slot0 ops a0) { w0 with drawn := w0.drawn + 1 } (by simp) (by simp) ?_ (fun _ _ => rfl) ?_ ?_
 ·rw [fillA_slot0] at h; exact h
 ·intro j o hj; rw [Array.getElem?_replicate] at hj; split at hj <;> cases hj
 ·intro i _ hj; rw [Array.getElem?_replicate] at hj; split at hj <;> cases hj
 have : lsOf (Array.replicate ops.size false) = fun _ => false := by
  funext i
  unfold lsOf
  rw [Array.getD_eq_getD_getElem?, Array.getElem?_replicate]
  split <;> rfl
 rw [this]; exact hI
theorem wpIn_region_invs {F : Fence} {r : Option Nat} (hF : F = { Fence.wide with round := r }) {n id : Nat} {P : Program} {ops : Array Oper} {Q : Exit → Act → World → Prop} {a0 : Act} {w0 : World} (I : (Nat → Bool) → (Nat → Value) → World → Prop) (m : Nat)
  (hP : P.follows .mixedOrders = true) (hd : noDefB ops = true) (hgood : goodB ops m = true) (hm : ops.size = m + 1) (hI : I (fun _ => false) (slot0 ops a0) { w0 with drawn := w0.drawn + 1 })
  (step : StepsI P ops I Q a0 (ops.toList.take m) 0) {o : Oper} (ho : ops[m]? = some o) (hg : o.guard = none)
  (fin : ∀ (ls : Nat → Bool) (vs : Nat → Value) (w : World), I ls vs w → (∀ i, i < m → ls i = true) → (∀ i, m ≤ i → vs i = slot0 ops a0 i) → o.wp P (fillA ops.toList 0 vs a0) w (fun a' w' => Q .normal a' w') Q) : (Code.region id ops true).wpIn F n P Q a0 w0 := by
 refine wpIn_region_inv hF I m hP hd hgood (by omega) hI (fun j o' hj ho' => ?_) (fun ls vs w hI hl hU => ?_)
 ·have := step.get (j := j) (o := o') (by rw [List.getElem?_take, if_pos hj]; simpa using ho')
  rwa [Nat.zero_add] at this
 rw [show ops.size - m = 1 by omega, List.range'_one, wpOpsIn_cons]
 unfold wpOpIn
 simp only [ho]
 rw [if_pos (by simp [Region.wanted, hg])]
 exact Oper.wpIn_of_wp hF (noDefB_sem hd ho) (fin ls vs w hI hl hU)
theorem add_at {g off j : Nat} : (⟨g, off, none⟩ : Addr).add j = ⟨g, off + j, none⟩ := by unfold Addr.add; split <;> simp_all
section
variable {P : Program}
theorem run_loadVar_part (w : World) (g off : Nat) (ty : TypeId) (part : Array Value) (d : TypeDesc) (hg : ∀ (j : Nat) (v : Value), part[j]? = some v → w.cell? ⟨g, off + j, none⟩ = some v)
  (hu : P.underlying ty = some d) (hd : (match d with | .struct _ | .array _ _ => true | _ => false) = true) (hi : (P.info? ty).map (·.size) = some part.size) :
  (loadVar ty ⟨g, off, none⟩).run P w = .ok (.agg part) w := by
 have hl : (loadCells ⟨g, off, none⟩ part.toList.length).run P w = .ok part.toList.toArray w :=
  run_loadCells_list (P := P) w ⟨g, off, none⟩ part.toList (fun j v hv => by rw [add_at]; exact hg j v (by simpa using hv))
 cases hq : P.info? ty with
 | none => simp [hq] at hi
 | some i =>
  have hs : i.size = part.size := by simpa [hq] using hi
  have hagg : (isAgg ty).run P w = .ok true w := by
   unfold isAgg
   rw [Sem.run_bind, run_underlying hu w]
   cases d <;> simp_all
  simp only [Array.length_toList, Array.toArray_toList] at hl
  simp [loadVar, Sem.run_bind, hagg, sizeOf, typeInfo, hq, hs, hl]
theorem wp_load_part {o : Oper} {a : Act} {w : World} {K : Act → World → Prop} {Q : Exit → Act → World → Prop} (ty : TypeId) (x : Operand) (ho : o.op = .load ty x)
  (g off : Nat) (hx : a.eval x = .pointer (some ⟨g, off, none⟩)) (part : Array Value) (d : TypeDesc) (hg : ∀ (j : Nat) (v : Value), part[j]? = some v → w.cell? ⟨g, off + j, none⟩ = some v)
  (hu : P.underlying ty = some d) (hd : (match d with | .struct _ | .array _ _ => true | _ => false) = true) (hi : (P.info? ty).map (·.size) = some part.size)
  (h : K (a.put o.dst (.agg part)) w) : o.wp P a w K Q := by
 unfold Oper.wp execOp
 simp only [ho, hx, Instr.loadAt, Instr.sureAddr, Sem.run_bind, Sem.run_pure, Result.andThen_ok, run_loadVar_part w g off ty part d hg hu hd hi]
 exact h
def putAt (cs : Array Value) (off : Nat) : List Value → Array Value
 | [] => cs
 | v :: rest => putAt (cs.setIfInBounds off v) (off + 1) rest
theorem putAt_size (vs : List Value) : ∀ (cs : Array Value) (off : Nat), (putAt cs off vs).size = cs.size := by
 induction vs with
 | nil => intro cs off; rfl
 | cons v vs ih => intro cs off; rw [putAt, ih, Array.size_setIfInBounds]
theorem putAt_get (vs : List Value) : ∀ (cs : Array Value) (off j : Nat), off + vs.length ≤ cs.size → (putAt cs off vs)[j]? = if off ≤ j ∧ j < off + vs.length then vs[j - off]? else cs[j]? := by
 induction vs with
 | nil => intro cs off j _; rw [putAt, if_neg (by simp)]
 | cons v vs ih =>
  intro cs off j hs
  simp only [List.length_cons] at hs
  rw [putAt, ih _ _ _ (by simp; omega), Array.getElem?_setIfInBounds]
  simp only [List.length_cons]
  by_cases h1 : j = off
  ·subst h1
   rw [if_neg (by omega), if_pos rfl, if_pos (by omega), if_pos (by omega), Nat.sub_self]; rfl
  by_cases h2 : off + 1 ≤ j ∧ j < off + 1 + vs.length
  ·rw [if_pos h2, if_pos (by omega), show j - off = (j - (off + 1)) + 1 by omega, List.getElem?_cons_succ]
  rw [if_neg h2, if_neg (fun e => h1 e.symm), if_neg (by omega)]
theorem setRow_same (w : World) (g : Nat) (cur : Array Value) (t : TypeId) (hg : w.heap[g]? = some (.cells cur t (0, 0))) : w.setRow g cur = w := by
 have hlt : g < w.heap.size := (Array.getElem?_eq_some_iff.1 hg).1
 have hv : w.heap[g] = .cells cur t (0, 0) := (Array.getElem?_eq_some_iff.1 hg).2
 unfold World.setRow
 cases w with
 | mk heap tape drawn os output =>
  congr 1
  apply Array.ext
  ·simp
  intro k h1 h2
  simp only [Array.getElem_modify]
  split
  ·rename_i hk; subst hk; simp at hv; simp [hv]
  rfl
theorem run_storeCells_put (g off : Nat) (t : TypeId) : ∀ (vs : List Value) (i : Nat) (cur : Array Value) (w : World), w.heap[g]? = some (.cells cur t (0, 0)) → off + i + vs.length ≤ cur.size → (∀ v ∈ vs, v.oneCell' = true) →
  (storeCells ⟨g, off, none⟩ vs i).run P w = .ok () (w.setRow g (putAt cur (off + i) vs))
 | [], i, cur, w, hg, hl, _ => by
  simp only [storeCells, putAt]
  rw [setRow_same w g cur t hg]; rfl
 | v :: rest, i, cur, w, hg, hl, h1 => by
  have hi : off + i < cur.size := by simp at hl; omega
  have hcell : w.cell? ⟨g, off + i, none⟩ = some cur[off + i] := by simp [World.cell?, hg, hi]
  have hfro : w.frozen? ⟨g, off + i, none⟩ = false := by simp [World.frozen?, hg]
  have hst : (store ((⟨g, off, none⟩ : Addr).add i) v).run P w = .ok () (w.setRow g (cur.setIfInBounds (off + i) v)) := by
   rw [add_at, run_store P w _ v _ (h1 v (by simp)), hcell]
   simp [hfro, setCell_eq_setRow w g (off + i) cur t (0, 0) v hg]
  have ih := run_storeCells_put g off t rest (i + 1) (cur.setIfInBounds (off + i) v) (w.setRow g (cur.setIfInBounds (off + i) v)) (setRow_heap w g cur _ t _ hg) (by simp at hl ⊢; omega) (fun x hx => h1 x (by simp [hx]))
  simp only [storeCells, Sem.run_bind, hst, Result.andThen_ok, ih, setRow_setRow, putAt]
  rw [show off + (i + 1) = off + i + 1 by omega]
theorem run_storeVar_part (w : World) (g off : Nat) (t ty : TypeId) (old cells : Array Value) (hg : w.heap[g]? = some (.cells old t (0, 0))) (hi : (P.info? ty).map (·.size) = some cells.size)
  (ho : off + cells.size ≤ old.size) (h1 : cells.all (·.oneCell') = true) :
  (storeVar ty ⟨g, off, none⟩ (.agg cells)).run P w = .ok () (w.setRow g (putAt old off cells.toList)) := by
 have := run_storeCells_put (P := P) g off t cells.toList 0 old w hg (by simp; omega) (fun v hv => (Array.all_eq_true_iff_forall_mem.1 h1) v (by simpa using hv))
 rw [Nat.add_zero] at this
 cases hq : P.info? ty with
 | none => simp [hq] at hi
 | some i =>
  have hs : cells.size = i.size := by simp [hq] at hi; omega
  simp [storeVar, sizeOf, typeInfo, hq, Value.cells, hs, this]
theorem wp_store_part {o : Oper} {a : Act} {w : World} {K : Act → World → Prop} {Q : Exit → Act → World → Prop} (ty : TypeId) (x y : Operand) (ho : o.op = .store ty x y)
  (g off : Nat) (cells : Array Value) (hx : a.eval x = .pointer (some ⟨g, off, none⟩)) (hy : a.eval y = .agg cells)
  (t : TypeId) (old : Array Value) (hg : w.heap[g]? = some (.cells old t (0, 0))) (hi : (P.info? ty).map (·.size) = some cells.size)
  (hold : off + cells.size ≤ old.size) (h1 : cells.all (·.oneCell') = true)
  (h : K (a.put o.dst undef) (w.setRow g (putAt old off cells.toList))) : o.wp P a w K Q := by
 unfold Oper.wp execOp
 simp only [ho, hx, hy, Instr.storeAt, Instr.sureAddr, Sem.run_bind, Sem.run_pure, Result.andThen_ok, run_storeVar_part w g off t ty old cells hg hi hold h1]
 exact h
theorem wpListIn_load_part {F : Fence} {r : Option Nat} (hF : F = { Fence.wide with round := r }) {n0 : Nat} {ops : Array Oper} {rest : List Oper} {o : Oper} {a : Act} {w : World} {Q : Exit → Act → World → Prop} (hgd : o.guard = none) (ty : TypeId) (x : Operand) (ho : o.op = .load ty x)
  (g off : Nat) (hx : a.eval x = .pointer (some ⟨g, off, none⟩)) (part : Array Value) (d : TypeDesc) (hg : ∀ (j : Nat) (v : Value), part[j]? = some v → w.cell? ⟨g, off + j, none⟩ = some v)
  (hu : P.underlying ty = some d) (hd : (match d with | .struct _ | .array _ _ => true | _ => false) = true) (hi : (P.info? ty).map (·.size) = some part.size)
  (h : wpListIn F n0 P ops Q rest (a.put o.dst (.agg part)) w) : wpListIn F n0 P ops Q (o :: rest) a w :=
 wpListIn_plain hgd fun K hK => Oper.wpIn_of_wp hF (fun ρ => Oper.semAt_eq r ρ o (fun c hc => by rw [ho] at hc; cases hc)) (wp_load_part ty x ho g off hx part d hg hu hd hi (hK _ _ h))
theorem wpListIn_store_part {F : Fence} {r : Option Nat} (hF : F = { Fence.wide with round := r }) {n0 : Nat} {ops : Array Oper} {rest : List Oper} {o : Oper} {a : Act} {w : World} {Q : Exit → Act → World → Prop} (hgd : o.guard = none) (ty : TypeId) (x y : Operand) (ho : o.op = .store ty x y)
  (g off : Nat) (cells : Array Value) (hx : a.eval x = .pointer (some ⟨g, off, none⟩)) (hy : a.eval y = .agg cells)
  (t : TypeId) (old : Array Value) (hg : w.heap[g]? = some (.cells old t (0, 0))) (hi : (P.info? ty).map (·.size) = some cells.size)
  (hold : off + cells.size ≤ old.size) (h1 : cells.all (·.oneCell') = true)
  (h : wpListIn F n0 P ops Q rest (a.put o.dst undef) (w.setRow g (putAt old off cells.toList))) : wpListIn F n0 P ops Q (o :: rest) a w :=
 wpListIn_plain hgd fun K hK => Oper.wpIn_of_wp hF (fun ρ => Oper.semAt_eq r ρ o (fun c hc => by rw [ho] at hc; cases hc)) (wp_store_part ty x y ho g off cells hx hy t old hg hi hold h1 (hK _ _ h))
end
theorem Blk.setRow {w : World} {g : Nat} {t : TypeId} {cs : Array Value} (h : Blk w g t cs) (new : Array Value) : Blk (w.setRow g new) g t new := setRow_heap w g cs new t (0, 0) h
theorem Kept.setRow {M : Foot} (w : World) (g : Nat) (cs : Array Value) (h : M g) : Kept M w (w.setRow g cs) :=
 ⟨rfl, rfl, rfl, by simp, fun k hk hM => setRow_other w g k cs (fun e => hM (e ▸ h))⟩
theorem putAt_all (old cs : Array Value) (h : old.size = cs.size) : putAt old 0 cs.toList = cs := by
 apply Array.ext_getElem?
 intro j
 rw [putAt_get _ _ _ _ (by simp; omega), Array.length_toList]
 by_cases hj : j < cs.size
 ·rw [if_pos (by omega), Nat.sub_zero, Array.getElem?_toList]
 rw [if_neg (by omega), Array.getElem?_eq_none (by omega), Array.getElem?_eq_none (by omega)]
section
variable {P : Program}
theorem wpListIn_store_new {F : Fence} {r : Option Nat} (hF : F = { Fence.wide with round := r }) {n0 : Nat} {ops : Array Oper} {rest : List Oper} {o : Oper} {a : Act} {w0 : World} {Q : Exit → Act → World → Prop} (hgd : o.guard = none) (ty : TypeId) (x y : Operand) (ho : o.op = .store ty x y)
  (g : Nat) (hgw : w0.heap.size = g) (cells : Array Value) (hx : a.eval x = .pointer (some ⟨g, 0, none⟩)) (hy : a.eval y = .agg cells)
  (t : TypeId) (old : Array Value) (hi : (P.info? ty).map (·.size) = some cells.size) (hold : old.size = cells.size) (h1 : cells.all (·.oneCell') = true)
  (h : ∀ V, Blk V g t cells → Below w0.heap.size w0 V → V.heap.size = g + 1 → wpListIn F n0 P ops Q rest (a.put o.dst undef) V) : wpListIn F n0 P ops Q (o :: rest) a (w0.alloc (.cells old t)) := by
 have hB : Blk (w0.alloc (.cells old t)) g t old := Blk.new _ _ _ hgw.symm
 refine wpListIn_store_part hF hgd ty x y ho g 0 cells hx hy t old hB hi (by omega) h1 ?_
 rw [putAt_all old cells hold]
 refine h _ (hB.setRow _) ?_ (by simp [hgw])
 exact (Kept.below (M := fun k => k = g) (B := w0.heap.size) ((Kept.alloc _ _ _).trans (Kept.setRow _ _ _ rfl)) (Nat.le_refl _) (fun k hk => by omega))
theorem wpListIn_store_at {F : Fence} {r : Option Nat} (hF : F = { Fence.wide with round := r }) {n0 : Nat} {ops : Array Oper} {rest : List Oper} {o : Oper} {a : Act} {w : World} {Q : Exit → Act → World → Prop} (hgd : o.guard = none) (ty : TypeId) (x y : Operand) (ho : o.op = .store ty x y)
  (g off : Nat) (cells : Array Value) (hx : a.eval x = .pointer (some ⟨g, off, none⟩)) (hy : a.eval y = .agg cells)
  (t : TypeId) (old new : Array Value) (hg : Blk w g t old) (hnew : putAt old off cells.toList = new) (hi : (P.info? ty).map (·.size) = some cells.size)
  (hold : off + cells.size ≤ old.size) (h1 : cells.all (·.oneCell') = true)
  (h : ∀ V, Blk V g t new → Kept (fun k => k = g) w V → V.heap.size = w.heap.size → wpListIn F n0 P ops Q rest (a.put o.dst undef) V) : wpListIn F n0 P ops Q (o :: rest) a w := by
 refine wpListIn_store_part hF hgd ty x y ho g off cells hx hy t old hg hi hold h1 ?_
 rw [hnew]
 exact h _ (hg.setRow _) (Kept.setRow _ _ _ rfl) (by simp)
theorem wp_alloc_agg {o : Oper} {a : Act} {w : World} {K : Act → World → Prop} {Q : Exit → Act → World → Prop} (ty : TypeId) (ho : o.op = .alloc ty) (zs : Array Value) (hz : ∀ w, (zeroValue ty).run P w = .ok (.agg zs) w) (hne : ¬ zs.size = 0)
  (h : K (a.put o.dst (.pointer (some ⟨w.heap.size, 0, none⟩))) (w.alloc (.cells zs ty))) : o.wp P a w K Q := by
 have hne2 : ¬ zs = #[] := fun e => hne (by rw [e]; rfl)
 unfold Oper.wp execOp
 simp [ho, Instr.alloc, hz, newVar, Value.cells, hne2, go_sem]
 exact h
theorem wpListIn_alloc_agg {F : Fence} {r : Option Nat} (hF : F = { Fence.wide with round := r }) {n0 : Nat} {ops : Array Oper} {rest : List Oper} {o : Oper} {a : Act} {w : World} {Q : Exit → Act → World → Prop} (hgd : o.guard = none) (ty : TypeId) (ho : o.op = .alloc ty) (g : Nat) (hg : w.heap.size = g) (zs : Array Value) (hz : ∀ w, (zeroValue ty).run P w = .ok (.agg zs) w) (hne : ¬ zs.size = 0)
  (h : wpListIn F n0 P ops Q rest (a.put o.dst (.pointer (some ⟨g, 0, none⟩))) (w.alloc (.cells zs ty))) : wpListIn F n0 P ops Q (o :: rest) a w :=
 wpListIn_plain hgd fun K hK => Oper.wpIn_of_wp hF (fun ρ => Oper.semAt_eq r ρ o (fun c hc => by rw [ho] at hc; cases hc)) (wp_alloc_agg ty ho zs hz hne (hK _ _ (by rw [hg]; exact h)))
theorem at_store {F : Fence} {n0 : Nat} {ops : Array Oper} {rest : List Oper} {o : Oper} {a : Act} {w : World} {Q : Exit → Act → World → Prop} (ty : TypeId) (x y : Operand) (ho : o.op = .store ty x y) (h : wpListIn F n0 P ops Q (o :: rest) a w) : wpListIn F n0 P ops Q (o :: rest) a w := h
theorem at_load {F : Fence} {n0 : Nat} {ops : Array Oper} {rest : List Oper} {o : Oper} {a : Act} {w : World} {Q : Exit → Act → World → Prop} (ty : TypeId) (x : Operand) (ho : o.op = .load ty x) (h : wpListIn F n0 P ops Q (o :: rest) a w) : wpListIn F n0 P ops Q (o :: rest) a w := h
theorem at_alloc {F : Fence} {n0 : Nat} {ops : Array Oper} {rest : List Oper} {o : Oper} {a : Act} {w : World} {Q : Exit → Act → World → Prop} (ty : TypeId) (ho : o.op = .alloc ty) (h : wpListIn F n0 P ops Q (o :: rest) a w) : wpListIn F n0 P ops Q (o :: rest) a w := h
end
open Go.RowKit Go.Shelf
def cellF (f : Nat → Int × Int) (j : Nat) : Value := if j % 2 = 0 then .int .i64 (f (j / 2)).1 else .int .i64 (f (j / 2)).2
def cellsS (f : Nat → Int × Int) : Array Value := Array.ofFn (n := 64) fun j => cellF f j.val
theorem cellsS_size (f : Nat → Int × Int) : (cellsS f).size = 64 := by simp [cellsS]
theorem cellsS_get (f : Nat → Int × Int) (j : Nat) : (cellsS f)[j]? = if j < 64 then some (cellF f j) else none := by
 unfold cellsS
 rw [Array.getElem?_ofFn]
 by_cases h : j < 64
 ·rw [dif_pos h, if_pos h]
 rw [dif_neg h, if_neg h]
theorem cellF_lo (f : Nat → Int × Int) (i : Nat) : cellF f (i * 2) = .int .i64 (f i).1 := by unfold cellF; rw [if_pos (by omega), show i * 2 / 2 = i by omega]
theorem cellF_hi (f : Nat → Int × Int) (i : Nat) : cellF f (i * 2 + 1) = .int .i64 (f i).2 := by unfold cellF; rw [if_neg (by omega), show (i * 2 + 1) / 2 = i by omega]
theorem cellsS_lo (f : Nat → Int × Int) {i : Nat} (hi : i < 32) : (cellsS f)[i * 2]? = some (.int .i64 (f i).1) := by rw [cellsS_get, if_pos (by omega), cellF_lo]
theorem cellsS_hi (f : Nat → Int × Int) {i : Nat} (hi : i < 32) : (cellsS f)[i * 2 + 1]? = some (.int .i64 (f i).2) := by rw [cellsS_get, if_pos (by omega), cellF_hi]
theorem cellF_one (f : Nat → Int × Int) (j : Nat) : (cellF f j).oneCell' = true := by unfold cellF; split <;> rfl
theorem all_one (cs : Array Value) (h : ∀ (j : Nat) (v : Value), cs[j]? = some v → v.oneCell' = true) : cs.all (·.oneCell') = true := by
 rw [Array.all_eq_true_iff_forall_mem]
 intro v hv
 obtain ⟨j, hj, rfl⟩ := Array.getElem_of_mem hv
 exact h j _ (Array.getElem?_eq_getElem hj)
theorem cellsS_one (f : Nat → Int × Int) : (cellsS f).all (·.oneCell') = true := all_one _ fun j v h => by
 rw [cellsS_get] at h
 split at h
 ·injection h with h; rw [← h]; exact cellF_one f j
 cases h
theorem cellsS_set (f : Nat → Int × Int) {a : Nat} (ha : a < 32) (x y : Int) : ((cellsS f).setIfInBounds (a * 2) (.int .i64 x)).setIfInBounds (a * 2 + 1) (.int .i64 y) = cellsS (updF f a (x, y)) := by
 apply Array.ext_getElem?
 intro j
 rw [Array.getElem?_setIfInBounds, Array.getElem?_setIfInBounds, cellsS_get, cellsS_get, Array.size_setIfInBounds, cellsS_size]
 unfold cellF
 by_cases e1 : a * 2 + 1 = j
 ·subst e1
  have q1 : (a * 2 + 1) % 2 = 1 := by omega
  have q2 : (a * 2 + 1) / 2 = a := by omega
  have q3 : a * 2 + 1 < 64 := by omega
  simp [q1, q2, q3, updF]
 rw [if_neg e1]
 by_cases e2 : a * 2 = j
 ·subst e2
  have q3 : a * 2 < 64 := by omega
  simp [q3, updF]
 rw [if_neg e2]
 by_cases q3 : j < 64
 ·rw [if_pos q3, if_pos q3]
  have hne : j / 2 ≠ a := by omega
  simp [updF, hne]
 rw [if_neg q3, if_neg q3]
theorem size64 {f : Nat → Int × Int} : (Tryz.prog.info? 88).map (·.size) = some (cellsS f).size := by rw [cellsS_size]; kernel_rfl
def shopCell (klo khi : Int) (Ad : Option Addr) (n ca : Nat) (C : Option Addr) (q cc : Nat) (f : Nat → Int × Int) (v : Value) (j : Nat) : Value :=
 if j = 0 then .int .i64 klo else if j = 1 then .int .i64 khi else if j = 2 then .slice Ad n ca else if j = 3 then .slice C q cc else if j < 68 then cellF f (j - 4) else v
def shopC (klo khi : Int) (Ad : Option Addr) (n ca : Nat) (C : Option Addr) (q cc : Nat) (f : Nat → Int × Int) (v : Value) : Array Value := Array.ofFn (n := 69) fun j => shopCell klo khi Ad n ca C q cc f v j.val
section
variable {klo khi : Int} {Ad : Option Addr} {n ca : Nat} {C : Option Addr} {q cc : Nat} {f : Nat → Int × Int} {v : Value}
theorem shopC_size : (shopC klo khi Ad n ca C q cc f v).size = 69 := by simp [shopC]
theorem shopC_get (j : Nat) : (shopC klo khi Ad n ca C q cc f v)[j]? = if j < 69 then some (shopCell klo khi Ad n ca C q cc f v j) else none := by
 unfold shopC
 rw [Array.getElem?_ofFn]
 by_cases h : j < 69
 ·rw [dif_pos h, if_pos h]
 rw [dif_neg h, if_neg h]
theorem shopC_2 : (shopC klo khi Ad n ca C q cc f v)[2]? = some (.slice Ad n ca) := by rw [shopC_get, if_pos (by omega)]; unfold shopCell; simp
theorem shopC_3 : (shopC klo khi Ad n ca C q cc f v)[3]? = some (.slice C q cc) := by rw [shopC_get, if_pos (by omega)]; unfold shopCell; simp
theorem shopC_68 : (shopC klo khi Ad n ca C q cc f v)[68]? = some v := by rw [shopC_get, if_pos (by omega)]; unfold shopCell; simp
theorem shopC_in {j : Nat} {x : Value} (h : (cellsS f)[j]? = some x) : (shopC klo khi Ad n ca C q cc f v)[4 + j]? = some x := by
 have h0 := cellsS_get f j
 rw [h] at h0
 have hg := shopC_get (klo := klo) (khi := khi) (Ad := Ad) (n := n) (ca := ca) (C := C) (q := q) (cc := cc) (f := f) (v := v) (4 + j)
 by_cases hj : j < 64
 ·rw [if_pos hj] at h0
  rw [hg, if_pos (by omega), h0]
  unfold shopCell
  rw [if_neg (by omega), if_neg (by omega), if_neg (by omega), if_neg (by omega), if_pos (by omega), show 4 + j - 4 = j by omega]
 rw [if_neg hj] at h0; cases h0
theorem shopC_put (g : Nat → Int × Int) : putAt (shopC klo khi Ad n ca C q cc f v) 4 (cellsS g).toList = shopC klo khi Ad n ca C q cc g v := by
 apply Array.ext_getElem?
 intro j
 rw [putAt_get _ _ _ _ (by rw [shopC_size, Array.length_toList, cellsS_size]; omega), Array.length_toList, cellsS_size]
 by_cases h : 4 ≤ j ∧ j < 4 + 64
 ·rw [if_pos h, Array.getElem?_toList, cellsS_get, if_pos (by omega), shopC_get, if_pos (by omega)]
  unfold shopCell
  rw [if_neg (by omega), if_neg (by omega), if_neg (by omega), if_neg (by omega), if_pos (by omega)]
 rw [if_neg h, shopC_get, shopC_get]
 by_cases h2 : j < 69
 ·rw [if_pos h2, if_pos h2]
  unfold shopCell
  by_cases e0 : j = 0
  ·rw [if_pos e0, if_pos e0]
  by_cases e1 : j = 1
  ·rw [if_neg e0, if_neg e0, if_pos e1, if_pos e1]
  by_cases e2 : j = 2
  ·rw [if_neg e0, if_neg e0, if_neg e1, if_neg e1, if_pos e2, if_pos e2]
  by_cases e3 : j = 3
  ·rw [if_neg e0, if_neg e0, if_neg e1, if_neg e1, if_neg e2, if_neg e2, if_pos e3, if_pos e3]
  rw [if_neg e0, if_neg e0, if_neg e1, if_neg e1, if_neg e2, if_neg e2, if_neg e3, if_neg e3, if_neg (by omega), if_neg (by omega)]
 rw [if_neg h2, if_neg h2]
theorem shopC_set (u : Value) : (shopC klo khi Ad n ca C q cc f v).setIfInBounds 68 u = shopC klo khi Ad n ca C q cc f u := by
 apply Array.ext_getElem?
 intro j
 rw [Array.getElem?_setIfInBounds, shopC_get, shopC_get, shopC_size]
 by_cases h : 68 = j
 ·subst h; rfl
 rw [if_neg h]
 by_cases h2 : j < 69
 ·rw [if_pos h2, if_pos h2]
  unfold shopCell
  rw [if_pos (show j < 68 by omega), if_pos (show j < 68 by omega)]
 rw [if_neg h2, if_neg h2]
end
def madeK (s : Shop) (l : List SeenC) (ks : List Int) (m c : Nat) : List Int := ks.flatMap fun k => (twosC s l m k).map fun p => made7 p.1 p.2 c k
theorem madeK_snoc (s : Shop) (l : List SeenC) (ks : List Int) (k : Int) (m c : Nat) : madeK s l (ks ++ [k]) m c = madeK s l ks m c ++ (twosC s l m k).map fun p => made7 p.1 p.2 c k := by
 unfold madeK; rw [List.flatMap_append, List.flatMap_singleton]
def castsN (s : Shop) (m : Nat) : Nat := (s.moulds.getD m dMould).casts.toNat
def sizeF (s : Shop) (l : List SeenC) (ks : List Int) (i : Nat) : Int × Int := if i / 8 < s.moulds.length ∧ i % 8 < castsN s (i / 8) then endsOf (madeK s l ks (i / 8) (i % 8)) else (0, 0)
def sizeM (s : Shop) (l : List SeenC) (ks : List Int) (k : Int) (m : Nat) (i : Nat) : Int × Int := if i / 8 < m then sizeF s l (ks ++ [k]) i else sizeF s l ks i
theorem sizeM_zero (s : Shop) (l : List SeenC) (ks : List Int) (k : Int) : sizeM s l ks k 0 = sizeF s l ks := by funext i; unfold sizeM; rw [if_neg (by omega)]
theorem sizeM_all (s : Shop) (l : List SeenC) (ks : List Int) (k : Int) : sizeM s l ks k s.moulds.length = sizeF s l (ks ++ [k]) := by
 funext i
 unfold sizeM
 by_cases h : i / 8 < s.moulds.length
 ·rw [if_pos h]
 rw [if_neg h]; unfold sizeF; rw [if_neg (fun hh => h hh.1), if_neg (fun hh => h hh.1)]
theorem sizeF_nil (s : Shop) (l : List SeenC) : sizeF s l [] = fun _ => (0, 0) := by
 funext i; unfold sizeF madeK; simp [endsOf]
def sizeT (s : Shop) (l : List SeenC) (ks : List Int) (k : Int) (m : Nat) (L : List (Int × Int)) (i : Nat) : Int × Int :=
 if i / 8 = m ∧ i % 8 < castsN s m then endsOf (madeK s l ks m (i % 8) ++ L.map fun p => made7 p.1 p.2 (i % 8 : Nat) k) else sizeM s l ks k m i
theorem sizeT_nil {s : Shop} {l : List SeenC} {ks : List Int} {k : Int} {m : Nat} (hm : m < s.moulds.length) : sizeT s l ks k m [] = sizeM s l ks k m := by
 funext i
 unfold sizeT
 by_cases h : i / 8 = m ∧ i % 8 < castsN s m
 ·rw [if_pos h, List.map_nil, List.append_nil]
  unfold sizeM sizeF
  rw [if_neg (by omega), if_pos (by rw [h.1]; exact ⟨hm, h.2⟩), h.1]
 rw [if_neg h]
theorem sizeT_all {s : Shop} {l : List SeenC} {ks : List Int} {k : Int} {m : Nat} (hm : m < s.moulds.length) : sizeT s l ks k m (twosC s l m k) = sizeM s l ks k (m + 1) := by
 funext i
 unfold sizeT
 by_cases h : i / 8 = m ∧ i % 8 < castsN s m
 ·rw [if_pos h]
  unfold sizeM sizeF
  rw [if_pos (by omega), if_pos (by rw [h.1]; exact ⟨hm, h.2⟩), h.1, madeK_snoc]
 rw [if_neg h]
 unfold sizeM
 by_cases h2 : i / 8 < m
 ·rw [if_pos h2, if_pos (by omega)]
 rw [if_neg h2]
 by_cases h3 : i / 8 = m
 ·rw [if_pos (by omega)]
  unfold sizeF
  have h4 : ¬ (i / 8 < s.moulds.length ∧ i % 8 < castsN s (i / 8)) := fun hh => h ⟨h3, by rw [← h3]; exact hh.2⟩
  rw [if_neg h4, if_neg h4]
 rw [if_neg (by omega)]
theorem endsK_bd (l : List Int) : ∀ lo hi : Int, lo ≤ hi → (ends lo hi l).1 ≤ lo ∧ hi ≤ (ends lo hi l).2 ∧ (∀ x ∈ l, (ends lo hi l).1 ≤ x ∧ x ≤ (ends lo hi l).2) ∧ ((ends lo hi l).1 = lo ∨ (ends lo hi l).1 ∈ l) ∧ ((ends lo hi l).2 = hi ∨ (ends lo hi l).2 ∈ l) := by
 induction l with
 | nil => intro lo hi h; exact ⟨Int.le_refl _, Int.le_refl _, fun x hx => by simp at hx, .inl rfl, .inl rfl⟩
 | cons y l ih =>
  intro lo hi h
  obtain ⟨h1, h2, h3, h4, h5⟩ := ih (min lo y) (max hi y) (by omega)
  refine ⟨by show (ends (min lo y) (max hi y) l).1 ≤ lo; omega, by show hi ≤ (ends (min lo y) (max hi y) l).2; omega, fun x hx => ?_, ?_, ?_⟩
  ·show (ends (min lo y) (max hi y) l).1 ≤ x ∧ x ≤ (ends (min lo y) (max hi y) l).2
   rcases List.mem_cons.1 hx with rfl | hx
   ·exact ⟨by omega, by omega⟩
   exact h3 x hx
  ·show (ends (min lo y) (max hi y) l).1 = lo ∨ (ends (min lo y) (max hi y) l).1 ∈ y :: l
   rcases h4 with h4 | h4
   ·rw [h4]
    rcases Int.le_total lo y with h6 | h6
    ·left; omega
    right; rw [show min lo y = y by omega]; exact List.mem_cons_self
   exact .inr (List.mem_cons_of_mem _ h4)
  show (ends (min lo y) (max hi y) l).2 = hi ∨ (ends (min lo y) (max hi y) l).2 ∈ y :: l
  rcases h5 with h5 | h5
  ·rw [h5]
   rcases Int.le_total y hi with h6 | h6
   ·left; omega
   right; rw [show max hi y = y by omega]; exact List.mem_cons_self
  exact .inr (List.mem_cons_of_mem _ h5)
theorem endsOfK_bd {l : List Int} (h : l ≠ []) : (∀ x ∈ l, (endsOf l).1 ≤ x ∧ x ≤ (endsOf l).2) ∧ (endsOf l).1 ∈ l ∧ (endsOf l).2 ∈ l := by
 cases l with
 | nil => exact absurd rfl h
 | cons y l =>
  obtain ⟨h1, h2, h3, h4, h5⟩ := endsK_bd l y y (Int.le_refl _)
  refine ⟨fun x hx => ?_, ?_, ?_⟩
  ·rcases List.mem_cons.1 hx with rfl | hx
   ·exact ⟨h1, h2⟩
   exact h3 x hx
  ·rcases h4 with h4 | h4
   ·show (ends y y l).1 ∈ y :: l; rw [h4]; exact List.mem_cons_self
   exact List.mem_cons_of_mem _ h4
  rcases h5 with h5 | h5
  ·show (ends y y l).2 ∈ y :: l; rw [h5]; exact List.mem_cons_self
  exact List.mem_cons_of_mem _ h5
theorem endsOf_step {X : List Int} (hX : ∀ x ∈ X, 1 ≤ x) (n : Int) : endsOf (X ++ [n]) = (min (if endsOf X = (0, 0) then (n, n) else endsOf X).1 n, max (if endsOf X = (0, 0) then (n, n) else endsOf X).2 n) := by
 by_cases h : X = []
 ·subst h
  show endsOf [n] = _
  rw [if_pos (show endsOf [] = (0, 0) from rfl), endsOf_one]
  simp
 have h1 : endsOf X ≠ (0, 0) := fun e => by
  obtain ⟨g1, g2, g3⟩ := endsOfK_bd h
  have := hX _ g2
  rw [e] at this
  exact absurd this (by decide)
 rw [if_neg h1, endsOf_snoc h]
theorem madeK_pos {s : Shop} {l : List SeenC} {ks : List Int} {m c : Nat} (hk : OkS s) (hm : m < s.moulds.length) (hc : c ≤ 8) (hks : ∀ k ∈ ks, k ∈ shrinkL s) : ∀ x ∈ madeK s l ks m c, 1 ≤ x ∧ x ≤ 20160 := by
 intro x hx
 unfold madeK at hx
 obtain ⟨k, hk1, hx⟩ := List.mem_flatMap.1 hx
 obtain ⟨p, hp, rfl⟩ := List.mem_map.1 hx
 obtain ⟨a1, a2⟩ := twos7_bd hk hm hp
 obtain ⟨b1, b2, _⟩ := shrinkL_bd hk (hks k hk1)
 have := made7_bd (a := p.1) (w := p.2) (c := (c : Int)) (k := k) a1 a2 (by omega) ⟨b1, b2⟩
 omega
theorem castsN_bd {s : Shop} (hk : OkS s) {m : Nat} (hm : m < s.moulds.length) : 1 ≤ castsN s m ∧ castsN s m ≤ 8 ∧ (castsN s m : Int) = (s.moulds.getD m dMould).casts := by
 have hx : s.moulds[m]? = some s.moulds[m] := List.getElem?_eq_getElem hm
 have hz := (mouldE_zero hx (hk.mould hm)).2.2
 unfold castsN
 rw [getD_of hx]
 omega
theorem sizeT_step {s : Shop} {l : List SeenC} {ks : List Int} {k : Int} {m j : Nat} {L : List (Int × Int)} {p : Int × Int} (hk : OkS s) (hm : m < s.moulds.length) (hks : ∀ k ∈ ks, k ∈ shrinkL s) (hkk : 0 ≤ k ∧ k ≤ 100) (hL : ∀ p ∈ L, (1 ≤ p.1 ∧ p.1 ≤ 20000) ∧ 0 ≤ p.2 ∧ p.2 ≤ 20) (hj : j < castsN s m) :
  sizeT s l ks k m (L ++ [p]) (m * 8 + j) = (min (if sizeT s l ks k m L (m * 8 + j) = (0, 0) then (made7 p.1 p.2 (j : Int) k, made7 p.1 p.2 (j : Int) k) else sizeT s l ks k m L (m * 8 + j)).1 (made7 p.1 p.2 (j : Int) k), max (if sizeT s l ks k m L (m * 8 + j) = (0, 0) then (made7 p.1 p.2 (j : Int) k, made7 p.1 p.2 (j : Int) k) else sizeT s l ks k m L (m * 8 + j)).2 (made7 p.1 p.2 (j : Int) k)) := by
 have hc := castsN_bd hk hm
 have e1 : (m * 8 + j) / 8 = m := by omega
 have e2 : (m * 8 + j) % 8 = j := by omega
 have hs : ∀ M : List (Int × Int), sizeT s l ks k m M (m * 8 + j) = endsOf (madeK s l ks m j ++ M.map fun p => made7 p.1 p.2 (j : Int) k) := fun M => by
  unfold sizeT; rw [e1, e2, if_pos ⟨rfl, hj⟩]
 rw [hs, hs, List.map_append, List.map_cons, List.map_nil, ← List.append_assoc]
 refine endsOf_step (fun x hx => ?_) _
 rcases List.mem_append.1 hx with hx | hx
 ·exact (madeK_pos hk hm (by omega) hks x hx).1
 obtain ⟨q, hq, rfl⟩ := List.mem_map.1 hx
 obtain ⟨a1, a2⟩ := hL q hq
 exact (made7_bd a1 a2 (by omega) hkk).2.2.2.2.1
theorem sizeT_other {s : Shop} {l : List SeenC} {ks : List Int} {k : Int} {m : Nat} {L L' : List (Int × Int)} {i : Nat} (h : ¬ (i / 8 = m ∧ i % 8 < castsN s m)) : sizeT s l ks k m L i = sizeT s l ks k m L' i := by
 unfold sizeT; rw [if_neg h, if_neg h]
theorem mixF_start {s : Shop} {l : List SeenC} {ks : List Int} {k : Int} {m : Nat} {L L' : List (Int × Int)} : mixF (sizeT s l ks k m L') (sizeT s l ks k m L) (m * 8) = sizeT s l ks k m L := by
 funext i
 unfold mixF
 by_cases h : i < m * 8
 ·rw [if_pos h]; exact sizeT_other (by omega)
 rw [if_neg h]
theorem mixF_end {s : Shop} {l : List SeenC} {ks : List Int} {k : Int} {m : Nat} {L L' : List (Int × Int)} (hm4 : castsN s m ≤ 8) : mixF (sizeT s l ks k m L') (sizeT s l ks k m L) (m * 8 + castsN s m) = sizeT s l ks k m L' := by
 funext i
 unfold mixF
 by_cases h : i < m * 8 + castsN s m
 ·rw [if_pos h]
 rw [if_neg h]; exact sizeT_other (by omega)
end Go.Proofs.YtdbfincinjoppabGreatDoor
