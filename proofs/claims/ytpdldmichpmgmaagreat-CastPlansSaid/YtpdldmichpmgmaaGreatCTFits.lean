/- Plain, and memory: the tiles that fit each row, as layings lays them. No walk stands here. -/
import Derived.Test.YtpdldmichpmgmaaGreatCTBits
set_option linter.unusedVariables false
set_option linter.unusedSimpArgs false
set_option linter.all false
namespace Go.Proofs.YtpdldmichpmgmaaGreat
open Go.RowKit Go.Shelf

/-- what layings keeps of tiles that fit: their list, their set, the gap -/
def SomeR : Rd (Nat × Int) := fun S w x vs => ∃ A n c, vs = [.slice A n c, .int .i64 x.1, .int .i64 x.2] ∧ Ints S w A n (bitL x.1)
theorem SomeR.good : SomeR.Good 3 where
  len := by rintro S w x vs ⟨A, n, c, rfl, _⟩; rfl
  one := by rintro S w x vs ⟨A, n, c, rfl, _⟩ v hv; simp at hv; rcases hv with rfl | rfl | rfl <;> rfl
  keep := by rintro S w w' x vs ⟨A, n, c, rfl, h⟩ hk; exact ⟨A, n, c, rfl, h.keep IntR.good hk⟩
  mono := by rintro S T w x vs ⟨A, n, c, rfl, h⟩ hk; exact ⟨A, n, c, rfl, h.mono IntR.good hk⟩
  bound := by rintro S w x vs ⟨A, n, c, rfl, h⟩; exact ⟨A, n, c, rfl, h.bound IntR.good⟩

def fitsB (h : Hall) (l : List Seen) (row s : Nat) : Bool := decide ((bitL s).length = rowP h row) && (wrong8 h.most (gap8 h l row (bitL s)) == 0)
/-- the sets below k that fit a row, with their gap -/
def fitK (h : Hall) (l : List Seen) (row k : Nat) : List (Nat × Int) := ((List.range k).filter (fitsB h l row)).map fun s => (s, (gap8 h l row (bitL s)).2)
theorem fitK_yes {h : Hall} {l : List Seen} {row s : Nat} (e : fitsB h l row s = true) : fitK h l row (s + 1) = fitK h l row s ++ [(s, (gap8 h l row (bitL s)).2)] := by
  unfold fitK; rw [List.range_succ, List.filter_append, List.map_append]; simp [e]
theorem fitK_no {h : Hall} {l : List Seen} {row s : Nat} (e : fitsB h l row s = false) : fitK h l row (s + 1) = fitK h l row s := by
  unfold fitK; rw [List.range_succ, List.filter_append, List.map_append]; simp [e]
theorem fitK_len {h : Hall} {l : List Seen} {row s : Nat} : (fitK h l row s).length ≤ s := by
  unfold fitK; rw [List.length_map]; exact Nat.le_trans (List.length_filter_le _ _) (by simp)

def updL (f : Nat → List (Nat × Int)) (r : Nat) (x : List (Nat × Int)) : Nat → List (Nat × Int) := fun i => if i = r then x else f i

/-- the rows' lists in memory -/
structure FitSt (W : World) (base gF : Nat) (T0 e : TypeId) (m : Nat) (f : Nat → List (Nat × Int)) : Prop where
  lt : gF < base
  bs : base ≤ W.heap.size
  ex : ∃ (cs : Array Value) (S : Foot), Blk W gF T0 cs ∧ cs.size = m ∧ (∀ k, S k → base ≤ k ∧ k < W.heap.size) ∧ (∀ r, r < m → ∃ v, cs[r]? = some v ∧ OwnL SomeR 3 S W base e v (f r)) ∧
    (∀ (r r' : Nat) (v v' : Value) (k : Nat), r ≠ r' → cs[r]? = some v → cs[r']? = some v' → v.ownBlock = some k → v'.ownBlock ≠ some k)
theorem FitSt.keep {W W' : World} {base gF : Nat} {T0 e : TypeId} {m : Nat} {f : Nat → List (Nat × Int)} (h : FitSt W base gF T0 e m f) (hb : Below W.heap.size W W') : FitSt W' base gF T0 e m f := by
  obtain ⟨h1, h2, cs, S, hB, hs, hS, hr, hd⟩ := h
  refine ⟨h1, Nat.le_trans h2 hb.size, cs, S, hB.bl hb, hs, fun k hk => ⟨(hS k hk).1, Nat.lt_of_lt_of_le (hS k hk).2 hb.size⟩, fun r hr' => ?_, hd⟩
  obtain ⟨v, hv, hO⟩ := hr r hr'
  exact ⟨v, hv, hO.below SomeR.good hb⟩
theorem FitSt.congr {W : World} {base gF : Nat} {T0 e : TypeId} {m : Nat} {f g : Nat → List (Nat × Int)} (h : FitSt W base gF T0 e m f) (hfg : ∀ r, r < m → f r = g r) : FitSt W base gF T0 e m g := by
  obtain ⟨h1, h2, cs, S, hB, hs, hS, hr, hd⟩ := h
  refine ⟨h1, h2, cs, S, hB, hs, hS, fun r hr' => ?_, hd⟩
  rw [← hfg r hr']; exact hr r hr'
theorem FitSt.new {W : World} {base gF : Nat} {T0 e : TypeId} {m : Nat} (h1 : gF < base) (h2 : base ≤ W.heap.size) (hB : Blk W gF T0 (Array.replicate m (.slice none 0 0))) : FitSt W base gF T0 e m (fun _ => []) := by
  refine ⟨h1, h2, _, fun _ => False, hB, by simp, fun k h => h.elim, fun r hr => ⟨.slice none 0 0, by simp [hr], OwnL.nil _ _ _ _ _ _⟩, fun r r' v v' k _ hv _ hk => ?_⟩
  rw [Array.getElem?_replicate] at hv
  split at hv
  · injection hv with hv; subst hv; cases hk
  · cases hv
/-- the slice of a row, opened -/
structure RowOpen (W : World) (base gF : Nat) (T0 e : TypeId) (m : Nat) (f : Nat → List (Nat × Int)) (r : Nat) (v : Value) (S : Foot) : Prop where
  blk : ∃ cs, Blk W gF T0 cs
  cell : W.cell? ⟨gF, r, none⟩ = some v
  own : OwnL SomeR 3 S W base e v (f r)
  sb : ∀ k, S k → base ≤ k ∧ k < W.heap.size
  put : ∀ (W' : World) (v' : Value) (S1 : Foot) (x : List (Nat × Int)), Kept (fun j => v.ownBlock = some j) W W' → OwnL SomeR 3 S1 W' base e v' x → (∀ k, S1 k → S k ∨ (W.heap.size ≤ k ∧ k < W'.heap.size)) → (∀ k, S k → S1 k) →
    (v'.ownBlock = v.ownBlock ∨ ∀ k, v'.ownBlock = some k → W.heap.size ≤ k) → FitSt (W'.setCell ⟨gF, r, none⟩ v') base gF T0 e m (updL f r x)
theorem FitSt.open_ {W : World} {base gF : Nat} {T0 e : TypeId} {m : Nat} {f : Nat → List (Nat × Int)} (h : FitSt W base gF T0 e m f) {r : Nat} (hr : r < m) : ∃ v S, RowOpen W base gF T0 e m f r v S := by
  obtain ⟨h1, h2, cs, S, hB, hs, hS, hrs, hd⟩ := h
  obtain ⟨v, hv, hO⟩ := hrs r hr
  refine ⟨v, S, ⟨cs, hB⟩, (hB.cell r).trans hv, hO, hS, ?_⟩
  intro W' v' S1 x hK hO' hS1 hSS hown
  have hgF : ∀ k, v.ownBlock = some k → k ≠ gF := fun k hk e => by have := (hO.block k hk).1; omega
  have hB' : Blk W' gF T0 cs := (hK.block gF hB.lt (fun hk => hgF gF hk rfl)).trans hB
  have hS1b : ∀ k, S1 k → base ≤ k ∧ k < W'.heap.size := fun k hk => by
    have hsz := hK.size
    rcases hS1 k hk with h | h
    · have := hS k h; omega
    · omega
  have hset : ∀ {v'' : Value} {y : List (Nat × Int)}, OwnL SomeR 3 S1 W' base e v'' y → OwnL SomeR 3 S1 (W'.setCell ⟨gF, r, none⟩ v') base e v'' y := fun hO2 =>
    hO2.keep SomeR.good (Keeps.setCell _ _ _ (fun hk => by
      dsimp only at hk
      rcases hk with hk | hk
      · have := (hS1b _ hk).1; omega
      · have := (hO2.block _ hk).1; omega))
  refine ⟨h1, by have := hK.size; simp [World.setCell]; omega, cs.setIfInBounds r v', S1, hB'.set_ r v', by simp [hs], fun k hk => by have := hS1b k hk; simpa [World.setCell] using this, fun r' hr' => ?_, ?_⟩
  · by_cases e1 : r' = r
    · subst e1
      refine ⟨v', by rw [Array.getElem?_setIfInBounds_self_of_lt (by omega)], ?_⟩
      rw [updL, if_pos rfl]
      exact hset hO'
    · obtain ⟨u, hu, hOu⟩ := hrs r' hr'
      refine ⟨u, by rw [Array.getElem?_setIfInBounds_ne (fun h => e1 h.symm)]; exact hu, ?_⟩
      rw [updL, if_neg e1]
      refine hset ?_
      have hne : ∀ k, v.ownBlock = some k → u.ownBlock ≠ some k := fun k hk => hd r r' v u k (fun h => e1 h.symm) hv hu hk
      have hO1 : OwnL SomeR 3 S W' base e u (f r') := hOu.keep SomeR.good (hK.keeps (fun k hk hk2 => by
        rcases hk with hk | hk
        · exact hO.1 k hk2 hk
        · exact hne k hk2 hk))
      obtain ⟨_, cells, hrow, hcells⟩ := hO1
      refine ⟨fun k hk hk2 => ?_, cells, hrow, fun k y hy => ?_⟩
      · rcases hS1 k hk2 with h | h
        · exact hOu.1 k hk h
        · have := (hOu.block k hk).2; omega
      · obtain ⟨vs, hR, hc⟩ := hcells k y hy
        exact ⟨vs, SomeR.good.mono hR hSS, hc⟩
  · have hvb : ∀ r' u k, r' ≠ r → cs[r']? = some u → u.ownBlock = some k → v'.ownBlock ≠ some k := fun r' u k hne hu hk hk' => by
      have hlt : k < W.heap.size := by
        have hr'm : r' < m := by
          rw [← hs]
          exact (Array.getElem?_eq_some_iff.1 hu).1
        obtain ⟨u2, hu2, hOu⟩ := hrs r' hr'm
        rw [hu] at hu2
        injection hu2 with hu2
        subst hu2
        exact (hOu.block k hk).2
      rcases hown with h | h
      · rw [h] at hk'
        exact hd r r' v u k (fun h => hne h.symm) hv hu hk' hk
      · have := h k hk'; omega
    intro r1 r2 u1 u2 k hne hu1 hu2 hk
    by_cases e1 : r1 = r
    · subst e1
      rw [Array.getElem?_setIfInBounds_self_of_lt (by omega)] at hu1
      injection hu1 with hu1
      subst hu1
      rw [Array.getElem?_setIfInBounds_ne hne] at hu2
      intro hk2
      exact hvb r2 u2 k (fun h => hne h.symm) hu2 hk2 hk
    · rw [Array.getElem?_setIfInBounds_ne (fun h => e1 h.symm)] at hu1
      by_cases e2 : r2 = r
      · subst e2
        rw [Array.getElem?_setIfInBounds_self_of_lt (by omega)] at hu2
        injection hu2 with hu2
        subst hu2
        exact hvb r1 u1 k e1 hu1 hk
      · rw [Array.getElem?_setIfInBounds_ne (fun h => e2 h.symm)] at hu2
        exact hd r1 r2 u1 u2 k hne hu1 hu2 hk

end Go.Proofs.YtpdldmichpmgmaaGreat
