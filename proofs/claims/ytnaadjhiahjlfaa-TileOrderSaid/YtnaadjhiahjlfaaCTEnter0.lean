/- What the walk of a hall that is looked at leans on. -/
import Derived.Test.YtnaadjhiahjlfaaCTMap
import Derived.Test.YtnaadjhiahjlfaaCTTruths
set_option linter.unusedVariables false
set_option linter.unusedSimpArgs false
set_option linter.all false
namespace Go.Proofs.Ytnaadjhiahjlfaa
open Go.RowKit Go.Shelf

/-- the widths of the first k tiles, as values of the map -/
def wideV (h : Hall) (l : List Seen) (t : Nat) : Value := .agg (cellsF fun a => wide8 h l t a)
def knownV (h : Hall) (l : List Seen) (k : Nat) : List Value := (List.range k).map (wideV h l)
theorem knownV_succ (h : Hall) (l : List Seen) (k : Nat) : knownV h l (k + 1) = knownV h l k ++ [wideV h l k] := by unfold knownV; rw [List.range_succ, List.map_append]; rfl
theorem knownV_len (h : Hall) (l : List Seen) (k : Nat) : (knownV h l k).length = k := by simp [knownV]
theorem knownV_get (h : Hall) (l : List Seen) {k t : Nat} (ht : t < k) : (knownV h l k)[t]? = some (wideV h l t) := by simp [knownV, ht]

theorem seen_zero {h : Hall} {l : List Seen} (e : (seen8 h l).2 = 0) : (check8 h).2.2 = 0 ∧ l.length ≤ 6 ∧ ∀ k, k < l.length → seenE h.tiles.length l k = 0 := by
  by_cases h1 : err8 h = 0
  · by_cases h2 : 6 < l.length
    · rw [seen8_long h1 h2] at e; cases e
    · rw [seen8_n h1 h2] at e
      rcases firstErr_cases (seenE h.tiles.length l) l.length with ⟨_, h3⟩ | ⟨k, _, h4, h5, _⟩
      · exact ⟨h1, by omega, h3⟩
      · rw [h4] at e; exact absurd e h5
  · rw [seen8_bad h1] at e; exact absurd e h1
theorem seen_one {nt : Nat} {l : List Seen} {k : Nat} {y : Seen} (h : l[k]? = some y) (e : seenE nt l k = 0) : (0 ≤ y.tile ∧ y.tile < nt) ∧ (0 ≤ y.air ∧ y.air ≤ 40) ∧ 0 ≤ y.lo ∧ y.lo ≤ y.hi ∧ y.hi ≤ 40000 := by
  unfold seenE at e
  rw [getD_of h] at e
  dsimp only at e
  split at e
  · cases e
  · split at e
    · cases e
    · split at e
      · cases e
      · rename_i g1 g2 g3
        simp [inB] at g1 g2
        omega
/-- a hall that is right -/
structure OkH (h : Hall) : Prop where
  air : 0 ≤ h.alo ∧ h.alo ≤ h.ahi ∧ h.ahi ≤ h.alo + 12 ∧ h.ahi ≤ 40
  most : 0 ≤ h.most ∧ h.most ≤ 20000
  nt : 1 ≤ h.tiles.length ∧ h.tiles.length ≤ 8
  nr : 1 ≤ h.rows.length ∧ h.rows.length ≤ 3
  tile : ∀ {k : Nat}, k < h.tiles.length → tileE h.tiles k = 0
  row : ∀ {k : Nat}, k < h.rows.length → rowE h.tiles.length h.rows k = 0
theorem okH_of {h : Hall} (e : (check8 h).2.2 = 0) : OkH h := by
  unfold check8 at e
  split at e
  · cases e
  · split at e
    · cases e
    · split at e
      · cases e
      · rename_i g1 g2 g3
        simp [inB] at g1 g2
        rcases firstErr_cases (tileE h.tiles) h.tiles.length with ⟨h4, h5⟩ | ⟨k, _, h4, h5, _⟩
        · rw [h4] at e
          dsimp only at e
          rcases firstErr_cases (rowE h.tiles.length h.rows) h.rows.length with ⟨h6, h7⟩ | ⟨k, _, h6, h7, _⟩
          · exact ⟨by omega, by omega, by omega, by omega, fun hk => h5 _ hk, fun hk => h7 _ hk⟩
          · rw [h6] at e; exact absurd e h7
        · rw [h4] at e; exact absurd e h5

/-- the width and the swell of a truth -/
theorem twos_bd {h : Hall} {l : List Seen} {t : Nat} (hk : OkH h) (ht : t < h.tiles.length) {p : Int × Int} (hp : p ∈ twosL h l t) : 0 ≤ p.1 ∧ p.1 ≤ 20100 ∧ 0 ≤ p.2 ∧ p.2 ≤ 30 := by
  have hx : h.tiles[t]? = some h.tiles[t] := List.getElem?_eq_getElem ht
  have hz := tileE_zero hx (hk.tile ht)
  unfold twosL twosK at hp
  rw [getD_of hx] at hp
  obtain ⟨hm, _⟩ := List.mem_filter.1 hp
  obtain ⟨k, hk2, rfl⟩ := List.mem_map.1 hm
  have hk3 := List.mem_range.1 hk2
  generalize h.tiles[t] = x at *
  have hs : 0 < swellN x := by unfold swellN; omega
  have hd : k / swellN x < wideN x := by rw [Nat.mul_comm] at hk3; exact Nat.div_lt_of_lt_mul hk3
  have hm2 : k % swellN x < swellN x := Nat.mod_lt _ hs
  unfold pairN
  dsimp only
  generalize k / swellN x = d at *
  generalize k % swellN x = e at *
  unfold wideN at hd
  unfold swellN at hm2
  omega
theorem wideOf_one (p : Int × Int) (a : Int) : wideOf [p] a = (p.1 + p.2 * a, p.1 + p.2 * a) := rfl
theorem wideOf_snoc {l : List (Int × Int)} (hl : l ≠ []) (p : Int × Int) (a : Int) : wideOf (l ++ [p]) a = (min (wideOf l a).1 (p.1 + p.2 * a), max (wideOf l a).2 (p.1 + p.2 * a)) := by
  unfold wideOf
  rw [List.map_append]
  exact endsOf_snoc (by simpa using hl) _

/-- a mark of a range over a function, among the deferred calls -/
def markD (D : Nat) : Deferred := { target := .collected D, args := #[] }
/-- a frame leaves with marks alone -/
theorem leaves_marks {F : Fence} {n : Nat} {P : Program} {fn : Func} {tmps : Array Value} {R : Ending → World → Prop} : ∀ (ds : List Nat) (w : World), (∀ D ∈ ds, w.heap[D]? = some (.deferred (some []))) → ds.Nodup →
    (∀ w', Kept (fun k => k ∈ ds) w w' → w'.heap.size = w.heap.size → ∃ v, (results fn tmps).run P w' = .ok v w' ∧ R (.returned v) w') → LeavesInM F n P fn tmps R (ds.map markD) .returning w := by
  intro ds
  induction ds with
  | nil => intro w _ _ h; exact h w (Kept.refl _ _) rfl
  | cons D ds ih =>
    intro w hw hd h
    rw [List.nodup_cons] at hd
    refine ⟨by simp, .inl ⟨D, _, rfl, run_takeDeferred (hw D List.mem_cons_self), ?_⟩⟩
    refine ih _ (fun E hE => ?_) hd.2 (fun w' hK hs => ?_)
    · have hne : E ≠ D := fun e => hd.1 (e ▸ hE)
      rw [World.putObj_heap_other hne]
      exact hw E (List.mem_cons_of_mem _ hE)
    · refine h w' ((Kept.putObj (M := fun k => k ∈ D :: ds) w D _ List.mem_cons_self).trans (hK.mono fun k _ hk => List.mem_cons_of_mem _ hk)) (by rw [hs]; simp)

/-- the contract of the maker of the iterator -/
theorem truths_call (gh t : Nat) (w : World) : Calls Try.prog 105 #[.pointer (some ⟨gh, 0, none⟩), .int .i64 t] w fun e w' =>
    e = .returned (.func (.func 134) #[] #[.pointer (some ⟨w.heap.size, 0, none⟩), .pointer (some ⟨w.heap.size + 1, 0, none⟩)]) ∧ w' = (w.alloc (.cells #[.pointer (some ⟨gh, 0, none⟩)] 110)).alloc (.cells #[.int .i64 t] 3) := by
  go_enter Try.func105, Try.ntmps105
  go_wp2
  go_ret
  exact ⟨rfl, rfl⟩

theorem HallAt.bound {S : Foot} {w : World} {A B : Option Addr} {n m : Nat} {h : Hall} (g : HallAt S w A n B m h) : HallAt (fun k => S k ∧ k < w.heap.size) w A n B m h := ⟨g.ts.bound TileR.good, g.rs.bound RowR.good⟩
theorem fold2 (p q : Tmp) (v u : Value) (t : Array Value) : ((#[p, q] : Array Tmp).zip #[v, u]).foldl (fun t (p, v) => t.setIfInBounds p v) t = (t.setIfInBounds p v).setIfInBounds q u := by simp
theorem zeros82 : Try.zeroCells162 = cellsF (fun _ => (0, 0)) := by kernel_rfl

end Go.Proofs.Ytnaadjhiahjlfaa
