/- A map of numbers 0, 1, 2 .. to values, and an array of spans, as they lie in memory. Nothing of a program stands here. -/
import Derived.Laws.Rows
import Derived.Test.YtpdldmichpmgmaaGreatCMap
set_option linter.unusedVariables false
set_option linter.unusedSimpArgs false
set_option linter.all false
namespace Go.Proofs.YtpdldmichpmgmaaGreat
open Go.RowKit Go.ChangeMaps Go.MapKept

/-- the entries of a map that was written for 0, 1, 2 .. in order -/
def entsFrom (i : Nat) : List Value → List MapEntry
  | [] => []
  | v :: vs => ⟨.int .i64 i, v, i⟩ :: entsFrom (i + 1) vs
theorem entsFrom_snoc (v : Value) : ∀ (vs : List Value) (i : Nat), entsFrom i (vs ++ [v]) = entsFrom i vs ++ [⟨.int .i64 ((i + vs.length : Nat) : Int), v, i + vs.length⟩] := by
  intro vs
  induction vs with
  | nil => intro i; simp [entsFrom]
  | cons x vs ih => intro i; simp only [List.cons_append, entsFrom, ih]; rw [List.length_cons, show i + 1 + vs.length = i + (vs.length + 1) by omega]
theorem find_yes (v : Value) : ∀ (vs : List Value) (i k st : Nat), vs[k]? = some v → ∃ p, Instr.findNow (.int .i64) (.int .i64 ((i + k : Nat) : Int)) (entsFrom i vs) st = some (some (p, v)) := by
  intro vs
  induction vs with
  | nil => intro i k st h; simp at h
  | cons x vs ih =>
    intro i k st h
    cases k with
    | zero => simp at h; subst h; exact ⟨st, by simp [entsFrom, Instr.findNow, Instr.sameNow]⟩
    | succ k =>
      obtain ⟨p, hp⟩ := ih (i + 1) k (st + 1) (by simpa using h)
      refine ⟨p, ?_⟩
      rw [show i + 1 + k = i + (k + 1) by omega] at hp
      have hne : (((i + (k + 1) : Nat) : Int) == ((i : Nat) : Int)) = false := by simp; omega
      simp only [entsFrom, Instr.findNow, Instr.sameNow, if_true, hne]
      exact hp
theorem find_no (y : Int) : ∀ (vs : List Value) (i st : Nat), ((i + vs.length : Nat) : Int) ≤ y → Instr.findNow (.int .i64) (.int .i64 y) (entsFrom i vs) st = some none := by
  intro vs
  induction vs with
  | nil => intro i st _; rfl
  | cons x vs ih =>
    intro i st h
    rw [List.length_cons] at h
    have hne : (y == ((i : Nat) : Int)) = false := by simp; omega
    simp only [entsFrom, Instr.findNow, Instr.sameNow, if_true, hne]
    exact ih (i + 1) (st + 1) (by omega)

/-- block b is such a map -/
def MapOf (w : World) (b : Nat) (vs : List Value) : Prop := w.heap[b]? = some (.map (entsFrom 0 vs).toArray vs.length)
theorem MapOf.lt {w : World} {b : Nat} {vs : List Value} (h : MapOf w b vs) : b < w.heap.size := by exact (Array.getElem?_eq_some_iff.1 h).1
theorem MapOf.new (w : World) : MapOf (w.alloc (.map #[] 0)) w.heap.size [] := World.alloc_heap_new w _
theorem MapOf.at {w w' : World} {b : Nat} {vs : List Value} (h : MapOf w b vs) (hb : w'.heap[b]? = w.heap[b]?) : MapOf w' b vs := hb.trans h
theorem MapOf.bl {w w' : World} {b : Nat} {vs : List Value} (h : MapOf w b vs) (hb : Below w.heap.size w w') : MapOf w' b vs := h.at (hb.block b h.lt)
theorem MapOf.look {P : Program} {t k e : TypeId} {w : World} {b : Nat} {vs : List Value} (h : MapOf w b vs) (ht : P.underlying t = some (.map k e)) (hk : P.underlying k = some (.int .i64)) {i : Nat} {v : Value} (hv : vs[i]? = some v) :
    (Instr.lookup t (.map (some b)) (.int .i64 i) false).run P w = .ok v w := by
  have hb := h
  unfold MapOf at hb
  obtain ⟨p, hp⟩ := find_yes v vs 0 i 0 hv
  rw [Nat.zero_add] at hp
  have h1 := run_checkKey (P := P) (w := w) (k := .int .i64 i) hk (by simp [IsKey]) (entsFrom 0 vs).isEmpty 9999
  have h2 := run_findKey (w := w) hk hp
  rw [show (9999 + 1 : Nat) = 10000 from rfl] at h1
  simp [Instr.lookup, run_underlying ht, MapKept.run_getObj_map hb, h1, h2, Result.andThen]
theorem MapOf.put {P : Program} {t k e : TypeId} {w : World} {b : Nat} {vs : List Value} (h : MapOf w b vs) (ht : P.underlying t = some (.map k e)) (hk : P.underlying k = some (.int .i64)) (v : Value) :
    ∃ w', (Instr.mapUpdate t (.map (some b)) (.int .i64 vs.length) v).run P w = .ok () w' ∧ MapOf w' b (vs ++ [v]) ∧ w.grownBy w' (some b) := by
  have hb := h
  unfold MapOf at hb
  have hp := find_no (vs.length : Int) vs 0 0 (by omega)
  have h1 := run_checkKey (P := P) (w := w) (k := .int .i64 vs.length) hk (by simp [IsKey]) false 9999
  have h2 := run_findKey (w := w) hk hp
  have hlt := (Array.getElem?_eq_some_iff.1 hb).1
  rw [show (9999 + 1 : Nat) = 10000 from rfl] at h1
  have hrun : (Instr.mapUpdate t (.map (some b)) (.int .i64 vs.length) v).run P w = .ok () { w with heap := w.heap.setIfInBounds b (.map ((entsFrom 0 vs).toArray.push ⟨.int .i64 vs.length, v, vs.length⟩) (vs.length + 1)) } := by
    simp [Instr.mapUpdate, run_underlying ht, MapKept.run_getObj_map hb, h1, h2, MapKept.run_setObj_map _ hb, Result.andThen]
  obtain ⟨hs1, hs2⟩ := heap_set (o' := .map ((entsFrom 0 vs).toArray.push ⟨.int .i64 vs.length, v, vs.length⟩) (vs.length + 1)) hb
  refine ⟨_, hrun, ?_, ⟨rfl, rfl, rfl, by simp, fun k hk hne => hs2 k (fun e => hne (by rw [e]))⟩⟩
  unfold MapOf
  rw [hs1, entsFrom_snoc]
  simp

/-- an array of 41 spans -/
def cellsF (f : Nat → Int × Int) : Array Value := Array.ofFn (n := 82) fun j => if j.val % 2 = 0 then .int .i64 (f (j.val / 2)).1 else .int .i64 (f (j.val / 2)).2
theorem cellsF_size (f : Nat → Int × Int) : (cellsF f).size = 82 := by simp [cellsF]
theorem cellsF_lo (f : Nat → Int × Int) {i : Nat} (hi : i < 41) : (cellsF f)[i * 2]? = some (.int .i64 (f i).1) := by
  unfold cellsF
  rw [Array.getElem?_ofFn, dif_pos (by omega)]
  simp
theorem cellsF_hi (f : Nat → Int × Int) {i : Nat} (hi : i < 41) : (cellsF f)[i * 2 + 1]? = some (.int .i64 (f i).2) := by
  unfold cellsF
  rw [Array.getElem?_ofFn, dif_pos (by omega)]
  have h1 : (i * 2 + 1) % 2 = 1 := by omega
  have h2 : (i * 2 + 1) / 2 = i := by omega
  simp [h1, h2]
def updF (f : Nat → Int × Int) (a : Nat) (p : Int × Int) : Nat → Int × Int := fun i => if i = a then p else f i
theorem cellsF_get (f : Nat → Int × Int) (j : Nat) : (cellsF f)[j]? = if j < 82 then some (if j % 2 = 0 then .int .i64 (f (j / 2)).1 else .int .i64 (f (j / 2)).2) else none := by
  unfold cellsF
  rw [Array.getElem?_ofFn]
  by_cases h : j < 82
  · rw [dif_pos h, if_pos h]
  · rw [dif_neg h, if_neg h]
theorem cellsF_set (f : Nat → Int × Int) {a : Nat} (ha : a < 41) (x y : Int) : ((cellsF f).setIfInBounds (a * 2) (.int .i64 x)).setIfInBounds (a * 2 + 1) (.int .i64 y) = cellsF (updF f a (x, y)) := by
  apply Array.ext_getElem?
  intro j
  rw [Array.getElem?_setIfInBounds, Array.getElem?_setIfInBounds, cellsF_get, cellsF_get, Array.size_setIfInBounds, cellsF_size]
  by_cases e1 : a * 2 + 1 = j
  · subst e1
    have q1 : (a * 2 + 1) % 2 = 1 := by omega
    have q2 : (a * 2 + 1) / 2 = a := by omega
    have q3 : a * 2 + 1 < 82 := by omega
    simp [q1, q2, q3, updF]
  · rw [if_neg e1]
    by_cases e2 : a * 2 = j
    · subst e2
      have q3 : a * 2 < 82 := by omega
      simp [q3, updF]
    · rw [if_neg e2]
      by_cases q3 : j < 82
      · rw [if_pos q3, if_pos q3]
        have hne : j / 2 ≠ a := by omega
        simp [updF, hne]
      · rw [if_neg q3, if_neg q3]
theorem cellsF_ext {f g : Nat → Int × Int} (h : ∀ i, i < 41 → f i = g i) : cellsF f = cellsF g := by
  unfold cellsF
  congr 1
  funext j
  have := h (j.val / 2) (by omega)
  rw [this]
theorem run_index_spans {P : Program} {t e : TypeId} (ht : P.underlying t = some (.array 41 e)) (he : ∃ fs, P.underlying e = some (.struct fs)) (hs : (P.info? e).map (·.size) = some 2) (f : Nat → Int × Int) {i : Nat} (hi : i < 41) (w : World) :
    (Instr.index t (.agg (cellsF f)) (.int .i64 i)).run P w = .ok (.agg #[.int .i64 (f i).1, .int .i64 (f i).2]) w := by
  obtain ⟨fs, he⟩ := he
  cases hq : P.info? e with
  | none => simp [hq] at hs
  | some inf =>
    have hsz : inf.size = 2 := by simpa [hq] using hs
    have hx : (cellsF f).extract (i * 2) (i * 2 + 2) = #[.int .i64 (f i).1, .int .i64 (f i).2] := by
      apply Array.ext
      · rw [Array.size_extract, cellsF_size]; simp; omega
      · intro j h1 h2
        have hj : j < 2 := by simpa using h2
        have hlo := cellsF_lo f hi
        have hhi := cellsF_hi f hi
        rw [Array.getElem?_eq_getElem (by rw [cellsF_size]; omega)] at hlo hhi
        rw [Array.getElem_extract]
        rcases j with _ | _ | j
        · simpa using hlo
        · simpa using hhi
        · omega
    have h1 : (0 : Int) ≤ (i : Int) ∧ (i : Int) < ((41 : Nat) : Int) := by omega
    simp [Instr.index, asIntOf, run_underlying ht, run_underlying he, part, isAgg, sizeOf, typeInfo, hq, hsz, Result.andThen, hx]
    intro h2; omega

end Go.Proofs.YtpdldmichpmgmaaGreat
