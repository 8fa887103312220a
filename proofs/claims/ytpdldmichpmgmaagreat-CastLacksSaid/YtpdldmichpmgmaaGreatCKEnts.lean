/- What the walk of a shop that is looked at leans on: its cells, and the sizes of casts so far. -/
import Derived.Test.YtpdldmichpmgmaaGreatCKClos
import Derived.Test.YtpdldmichpmgmaaGreatCTRefsO
import Derived.Test.YtpdldmichpmgmaaGreatCTRegs
set_option linter.unusedVariables false
set_option linter.unusedSimpArgs false
set_option linter.all false
namespace Go.Proofs.YtpdldmichpmgmaaGreat
open Go.RowKit Go.Shelf

/-- spans, as cells -/
def cellF (f : Nat → Int × Int) (j : Nat) : Value := if j % 2 = 0 then .int .i64 (f (j / 2)).1 else .int .i64 (f (j / 2)).2
def cellsS (f : Nat → Int × Int) : Array Value := Array.ofFn (n := 64) fun j => cellF f j.val
theorem cellsS_size (f : Nat → Int × Int) : (cellsS f).size = 64 := by simp [cellsS]
theorem cellsS_get (f : Nat → Int × Int) (j : Nat) : (cellsS f)[j]? = if j < 64 then some (cellF f j) else none := by
  unfold cellsS
  rw [Array.getElem?_ofFn]
  by_cases h : j < 64
  · rw [dif_pos h, if_pos h]
  · rw [dif_neg h, if_neg h]
theorem cellF_lo (f : Nat → Int × Int) (i : Nat) : cellF f (i * 2) = .int .i64 (f i).1 := by unfold cellF; rw [if_pos (by omega), show i * 2 / 2 = i by omega]
theorem cellF_hi (f : Nat → Int × Int) (i : Nat) : cellF f (i * 2 + 1) = .int .i64 (f i).2 := by unfold cellF; rw [if_neg (by omega), show (i * 2 + 1) / 2 = i by omega]
theorem cellsS_lo (f : Nat → Int × Int) {i : Nat} (hi : i < 32) : (cellsS f)[i * 2]? = some (.int .i64 (f i).1) := by rw [cellsS_get, if_pos (by omega), cellF_lo]
theorem cellsS_hi (f : Nat → Int × Int) {i : Nat} (hi : i < 32) : (cellsS f)[i * 2 + 1]? = some (.int .i64 (f i).2) := by rw [cellsS_get, if_pos (by omega), cellF_hi]
theorem cellF_one (f : Nat → Int × Int) (j : Nat) : (cellF f j).oneCell' = true := by unfold cellF; split <;> rfl
theorem all_one (cs : Array Value) (h : ∀ (j : Nat) (v : Value), cs[j]? = some v → v.oneCell' = true) : cs.all (·.oneCell') = true := by
  rw [Array.all_eq_true_iff_forall_mem]
  intro v hv
  obtain ⟨j, hj, rfl⟩ := Array.getElem_of_mem hv
  exact h j _ (Array.getElem?_eq_getElem hj)
theorem cellsS_one (f : Nat → Int × Int) : (cellsS f).all (·.oneCell') = true := all_one _ fun j v h => by
  rw [cellsS_get] at h
  split at h
  · injection h with h; rw [← h]; exact cellF_one f j
  · cases h
theorem cellsS_ext {f g : Nat → Int × Int} (h : ∀ i, i < 32 → f i = g i) : cellsS f = cellsS g := by
  apply Array.ext_getElem?
  intro j
  rw [cellsS_get, cellsS_get]
  by_cases hj : j < 64
  · rw [if_pos hj, if_pos hj]
    unfold cellF
    rw [h (j / 2) (by omega)]
  · rw [if_neg hj, if_neg hj]
theorem cellsS_set (f : Nat → Int × Int) {a : Nat} (ha : a < 32) (x y : Int) : ((cellsS f).setIfInBounds (a * 2) (.int .i64 x)).setIfInBounds (a * 2 + 1) (.int .i64 y) = cellsS (updF f a (x, y)) := by
  apply Array.ext_getElem?
  intro j
  rw [Array.getElem?_setIfInBounds, Array.getElem?_setIfInBounds, cellsS_get, cellsS_get, Array.size_setIfInBounds, cellsS_size]
  unfold cellF
  by_cases e1 : a * 2 + 1 = j
  · subst e1
    have q1 : (a * 2 + 1) % 2 = 1 := by omega
    have q2 : (a * 2 + 1) / 2 = a := by omega
    have q3 : a * 2 + 1 < 64 := by omega
    simp [q1, q2, q3, updF]
  · rw [if_neg e1]
    by_cases e2 : a * 2 = j
    · subst e2
      have q3 : a * 2 < 64 := by omega
      simp [q3, updF]
    · rw [if_neg e2]
      by_cases q3 : j < 64
      · rw [if_pos q3, if_pos q3]
        have hne : j / 2 ≠ a := by omega
        simp [updF, hne]
      · rw [if_neg q3, if_neg q3]
theorem size64 {f : Nat → Int × Int} : (Tryz.prog.info? 112).map (·.size) = some (cellsS f).size := by rw [cellsS_size]; kernel_rfl

/-- the cells of a shop that is looked at -/
def shopCell (klo khi : Int) (Ad : Option Addr) (n ca : Nat) (C : Option Addr) (q cc : Nat) (f : Nat → Int × Int) (v : Value) (j : Nat) : Value :=
  if j = 0 then .int .i64 klo else if j = 1 then .int .i64 khi else if j = 2 then .slice Ad n ca else if j = 3 then .slice C q cc else if j < 68 then cellF f (j - 4) else v
def shopC (klo khi : Int) (Ad : Option Addr) (n ca : Nat) (C : Option Addr) (q cc : Nat) (f : Nat → Int × Int) (v : Value) : Array Value := Array.ofFn (n := 69) fun j => shopCell klo khi Ad n ca C q cc f v j.val
section
variable {klo khi : Int} {Ad : Option Addr} {n ca : Nat} {C : Option Addr} {q cc : Nat} {f : Nat → Int × Int} {v : Value}
theorem shopC_size : (shopC klo khi Ad n ca C q cc f v).size = 69 := by simp [shopC]
theorem shopC_get (j : Nat) : (shopC klo khi Ad n ca C q cc f v)[j]? = if j < 69 then some (shopCell klo khi Ad n ca C q cc f v j) else none := by
  unfold shopC
  rw [Array.getElem?_ofFn]
  by_cases h : j < 69
  · rw [dif_pos h, if_pos h]
  · rw [dif_neg h, if_neg h]
theorem shopC_0 : (shopC klo khi Ad n ca C q cc f v)[0]? = some (.int .i64 klo) := by rw [shopC_get, if_pos (by omega)]; unfold shopCell; simp
theorem shopC_1 : (shopC klo khi Ad n ca C q cc f v)[1]? = some (.int .i64 khi) := by rw [shopC_get, if_pos (by omega)]; unfold shopCell; simp
theorem shopC_2 : (shopC klo khi Ad n ca C q cc f v)[2]? = some (.slice Ad n ca) := by rw [shopC_get, if_pos (by omega)]; unfold shopCell; simp
theorem shopC_3 : (shopC klo khi Ad n ca C q cc f v)[3]? = some (.slice C q cc) := by rw [shopC_get, if_pos (by omega)]; unfold shopCell; simp
theorem shopC_68 : (shopC klo khi Ad n ca C q cc f v)[68]? = some v := by rw [shopC_get, if_pos (by omega)]; unfold shopCell; simp
theorem shopC_in {j : Nat} {x : Value} (h : (cellsS f)[j]? = some x) : (shopC klo khi Ad n ca C q cc f v)[4 + j]? = some x := by
  have h0 := cellsS_get f j
  rw [h] at h0
  have hg := shopC_get (klo := klo) (khi := khi) (Ad := Ad) (n := n) (ca := ca) (C := C) (q := q) (cc := cc) (f := f) (v := v) (4 + j)
  by_cases hj : j < 64
  · rw [if_pos hj] at h0
    rw [hg, if_pos (by omega), h0]
    unfold shopCell
    rw [if_neg (by omega), if_neg (by omega), if_neg (by omega), if_neg (by omega), if_pos (by omega), show 4 + j - 4 = j by omega]
  · rw [if_neg hj] at h0; cases h0
theorem shopC_put (g : Nat → Int × Int) : putAt (shopC klo khi Ad n ca C q cc f v) 4 (cellsS g).toList = shopC klo khi Ad n ca C q cc g v := by
  apply Array.ext_getElem?
  intro j
  rw [putAt_get _ _ _ _ (by rw [shopC_size, Array.length_toList, cellsS_size]; omega), Array.length_toList, cellsS_size]
  by_cases h : 4 ≤ j ∧ j < 4 + 64
  · rw [if_pos h, Array.getElem?_toList, cellsS_get, if_pos (by omega), shopC_get, if_pos (by omega)]
    unfold shopCell
    rw [if_neg (by omega), if_neg (by omega), if_neg (by omega), if_neg (by omega), if_pos (by omega)]
  · rw [if_neg h, shopC_get, shopC_get]
    by_cases h2 : j < 69
    · rw [if_pos h2, if_pos h2]
      unfold shopCell
      by_cases e0 : j = 0
      · rw [if_pos e0, if_pos e0]
      · by_cases e1 : j = 1
        · rw [if_neg e0, if_neg e0, if_pos e1, if_pos e1]
        · by_cases e2 : j = 2
          · rw [if_neg e0, if_neg e0, if_neg e1, if_neg e1, if_pos e2, if_pos e2]
          · by_cases e3 : j = 3
            · rw [if_neg e0, if_neg e0, if_neg e1, if_neg e1, if_neg e2, if_neg e2, if_pos e3, if_pos e3]
            · rw [if_neg e0, if_neg e0, if_neg e1, if_neg e1, if_neg e2, if_neg e2, if_neg e3, if_neg e3, if_neg (by omega), if_neg (by omega)]
    · rw [if_neg h2, if_neg h2]
theorem shopC_set (u : Value) : (shopC klo khi Ad n ca C q cc f v).setIfInBounds 68 u = shopC klo khi Ad n ca C q cc f u := by
  apply Array.ext_getElem?
  intro j
  rw [Array.getElem?_setIfInBounds, shopC_get, shopC_get, shopC_size]
  by_cases h : 68 = j
  · subst h; rfl
  · rw [if_neg h]
    by_cases h2 : j < 69
    · rw [if_pos h2, if_pos h2]
      unfold shopCell
      rw [if_pos (show j < 68 by omega), if_pos (show j < 68 by omega)]
    · rw [if_neg h2, if_neg h2]
end

/-- all sizes of a cast with some numbers of Shrink -/
def madeK (s : Shop) (l : List SeenC) (ks : List Int) (m c : Nat) : List Int := ks.flatMap fun k => (twosC s l m k).map fun p => made7 p.1 p.2 c k
theorem madeK_snoc (s : Shop) (l : List SeenC) (ks : List Int) (k : Int) (m c : Nat) : madeK s l (ks ++ [k]) m c = madeK s l ks m c ++ (twosC s l m k).map fun p => made7 p.1 p.2 c k := by
  unfold madeK; rw [List.flatMap_append, List.flatMap_singleton]
def castsN (s : Shop) (m : Nat) : Nat := (s.moulds.getD m dMould).casts.toNat
/-- the sizes of casts so far, with some numbers of Shrink; a place that is no cast has none -/
def sizeF (s : Shop) (l : List SeenC) (ks : List Int) (i : Nat) : Int × Int := if i / 8 < s.moulds.length ∧ i % 8 < castsN s (i / 8) then endsOf (madeK s l ks (i / 8) (i % 8)) else (0, 0)
/-- the same, with a further number for the moulds below one -/
def sizeM (s : Shop) (l : List SeenC) (ks : List Int) (k : Int) (m : Nat) (i : Nat) : Int × Int := if i / 8 < m then sizeF s l (ks ++ [k]) i else sizeF s l ks i
theorem sizeM_zero (s : Shop) (l : List SeenC) (ks : List Int) (k : Int) : sizeM s l ks k 0 = sizeF s l ks := by funext i; unfold sizeM; rw [if_neg (by omega)]
theorem sizeM_all (s : Shop) (l : List SeenC) (ks : List Int) (k : Int) : sizeM s l ks k s.moulds.length = sizeF s l (ks ++ [k]) := by
  funext i
  unfold sizeM
  by_cases h : i / 8 < s.moulds.length
  · rw [if_pos h]
  · rw [if_neg h]; unfold sizeF; rw [if_neg (fun hh => h hh.1), if_neg (fun hh => h hh.1)]
theorem sizeF_nil (s : Shop) (l : List SeenC) : sizeF s l [] = fun _ => (0, 0) := by
  funext i; unfold sizeF madeK; simp [endsOf]
/-- and with the first truths of one mould alone -/
def sizeT (s : Shop) (l : List SeenC) (ks : List Int) (k : Int) (m : Nat) (L : List (Int × Int)) (i : Nat) : Int × Int :=
  if i / 8 = m ∧ i % 8 < castsN s m then endsOf (madeK s l ks m (i % 8) ++ L.map fun p => made7 p.1 p.2 (i % 8 : Nat) k) else sizeM s l ks k m i
theorem sizeT_nil {s : Shop} {l : List SeenC} {ks : List Int} {k : Int} {m : Nat} (hm : m < s.moulds.length) : sizeT s l ks k m [] = sizeM s l ks k m := by
  funext i
  unfold sizeT
  by_cases h : i / 8 = m ∧ i % 8 < castsN s m
  · rw [if_pos h, List.map_nil, List.append_nil]
    unfold sizeM sizeF
    rw [if_neg (by omega), if_pos (by rw [h.1]; exact ⟨hm, h.2⟩), h.1]
  · rw [if_neg h]
theorem sizeT_all {s : Shop} {l : List SeenC} {ks : List Int} {k : Int} {m : Nat} (hm : m < s.moulds.length) : sizeT s l ks k m (twosC s l m k) = sizeM s l ks k (m + 1) := by
  funext i
  unfold sizeT
  by_cases h : i / 8 = m ∧ i % 8 < castsN s m
  · rw [if_pos h]
    unfold sizeM sizeF
    rw [if_pos (by omega), if_pos (by rw [h.1]; exact ⟨hm, h.2⟩), h.1, madeK_snoc]
  · rw [if_neg h]
    unfold sizeM
    by_cases h2 : i / 8 < m
    · rw [if_pos h2, if_pos (by omega)]
    · rw [if_neg h2]
      by_cases h3 : i / 8 = m
      · rw [if_pos (by omega)]
        unfold sizeF
        have h4 : ¬ (i / 8 < s.moulds.length ∧ i % 8 < castsN s (i / 8)) := fun hh => h ⟨h3, by rw [← h3]; exact hh.2⟩
        rw [if_neg h4, if_neg h4]
      · rw [if_neg (by omega)]
theorem endsK_bd (l : List Int) : ∀ lo hi : Int, lo ≤ hi → (ends lo hi l).1 ≤ lo ∧ hi ≤ (ends lo hi l).2 ∧ (∀ x ∈ l, (ends lo hi l).1 ≤ x ∧ x ≤ (ends lo hi l).2) ∧ ((ends lo hi l).1 = lo ∨ (ends lo hi l).1 ∈ l) ∧ ((ends lo hi l).2 = hi ∨ (ends lo hi l).2 ∈ l) := by
  induction l with
  | nil => intro lo hi h; exact ⟨Int.le_refl _, Int.le_refl _, fun x hx => by simp at hx, .inl rfl, .inl rfl⟩
  | cons y l ih =>
    intro lo hi h
    obtain ⟨h1, h2, h3, h4, h5⟩ := ih (min lo y) (max hi y) (by omega)
    refine ⟨by show (ends (min lo y) (max hi y) l).1 ≤ lo; omega, by show hi ≤ (ends (min lo y) (max hi y) l).2; omega, fun x hx => ?_, ?_, ?_⟩
    · show (ends (min lo y) (max hi y) l).1 ≤ x ∧ x ≤ (ends (min lo y) (max hi y) l).2
      rcases List.mem_cons.1 hx with rfl | hx
      · exact ⟨by omega, by omega⟩
      · exact h3 x hx
    · show (ends (min lo y) (max hi y) l).1 = lo ∨ (ends (min lo y) (max hi y) l).1 ∈ y :: l
      rcases h4 with h4 | h4
      · rw [h4]
        rcases Int.le_total lo y with h6 | h6
        · left; omega
        · right; rw [show min lo y = y by omega]; exact List.mem_cons_self
      · exact .inr (List.mem_cons_of_mem _ h4)
    · show (ends (min lo y) (max hi y) l).2 = hi ∨ (ends (min lo y) (max hi y) l).2 ∈ y :: l
      rcases h5 with h5 | h5
      · rw [h5]
        rcases Int.le_total y hi with h6 | h6
        · left; omega
        · right; rw [show max hi y = y by omega]; exact List.mem_cons_self
      · exact .inr (List.mem_cons_of_mem _ h5)
theorem endsOfK_bd {l : List Int} (h : l ≠ []) : (∀ x ∈ l, (endsOf l).1 ≤ x ∧ x ≤ (endsOf l).2) ∧ (endsOf l).1 ∈ l ∧ (endsOf l).2 ∈ l := by
  cases l with
  | nil => exact absurd rfl h
  | cons y l =>
    obtain ⟨h1, h2, h3, h4, h5⟩ := endsK_bd l y y (Int.le_refl _)
    refine ⟨fun x hx => ?_, ?_, ?_⟩
    · rcases List.mem_cons.1 hx with rfl | hx
      · exact ⟨h1, h2⟩
      · exact h3 x hx
    · rcases h4 with h4 | h4
      · show (ends y y l).1 ∈ y :: l; rw [h4]; exact List.mem_cons_self
      · exact List.mem_cons_of_mem _ h4
    · rcases h5 with h5 | h5
      · show (ends y y l).2 ∈ y :: l; rw [h5]; exact List.mem_cons_self
      · exact List.mem_cons_of_mem _ h5
/-- one more truth, cast by cast -/
theorem endsOf_step {X : List Int} (hX : ∀ x ∈ X, 1 ≤ x) (n : Int) : endsOf (X ++ [n]) = (min (if endsOf X = (0, 0) then (n, n) else endsOf X).1 n, max (if endsOf X = (0, 0) then (n, n) else endsOf X).2 n) := by
  by_cases h : X = []
  · subst h
    show endsOf [n] = _
    rw [if_pos (show endsOf [] = (0, 0) from rfl), endsOf_one]
    simp
  · have h1 : endsOf X ≠ (0, 0) := fun e => by
      obtain ⟨g1, g2, g3⟩ := endsOfK_bd h
      have := hX _ g2
      rw [e] at this
      exact absurd this (by decide)
    rw [if_neg h1, endsOf_snoc h]
theorem madeK_pos {s : Shop} {l : List SeenC} {ks : List Int} {m c : Nat} (hk : OkS s) (hm : m < s.moulds.length) (hc : c ≤ 8) (hks : ∀ k ∈ ks, k ∈ shrinkL s) : ∀ x ∈ madeK s l ks m c, 1 ≤ x ∧ x ≤ 20160 := by
  intro x hx
  unfold madeK at hx
  obtain ⟨k, hk1, hx⟩ := List.mem_flatMap.1 hx
  obtain ⟨p, hp, rfl⟩ := List.mem_map.1 hx
  obtain ⟨a1, a2⟩ := twos7_bd hk hm hp
  obtain ⟨b1, b2, _⟩ := shrinkL_bd hk (hks k hk1)
  have := made7_bd (a := p.1) (w := p.2) (c := (c : Int)) (k := k) a1 a2 (by omega) ⟨b1, b2⟩
  omega
theorem castsN_bd {s : Shop} (hk : OkS s) {m : Nat} (hm : m < s.moulds.length) : 1 ≤ castsN s m ∧ castsN s m ≤ 8 ∧ (castsN s m : Int) = (s.moulds.getD m dMould).casts := by
  have hx : s.moulds[m]? = some s.moulds[m] := List.getElem?_eq_getElem hm
  have hz := (mouldE_zero hx (hk.mould hm)).2.2
  unfold castsN
  rw [getD_of hx]
  omega
/-- the sizes between two truths: the casts below one have the next truth, too -/
theorem sizeT_step {s : Shop} {l : List SeenC} {ks : List Int} {k : Int} {m j : Nat} {L : List (Int × Int)} {p : Int × Int} (hk : OkS s) (hm : m < s.moulds.length) (hks : ∀ k ∈ ks, k ∈ shrinkL s) (hkk : 0 ≤ k ∧ k ≤ 100) (hL : ∀ p ∈ L, (1 ≤ p.1 ∧ p.1 ≤ 20000) ∧ 0 ≤ p.2 ∧ p.2 ≤ 20) (hj : j < castsN s m) :
    sizeT s l ks k m (L ++ [p]) (m * 8 + j) = (min (if sizeT s l ks k m L (m * 8 + j) = (0, 0) then (made7 p.1 p.2 (j : Int) k, made7 p.1 p.2 (j : Int) k) else sizeT s l ks k m L (m * 8 + j)).1 (made7 p.1 p.2 (j : Int) k), max (if sizeT s l ks k m L (m * 8 + j) = (0, 0) then (made7 p.1 p.2 (j : Int) k, made7 p.1 p.2 (j : Int) k) else sizeT s l ks k m L (m * 8 + j)).2 (made7 p.1 p.2 (j : Int) k)) := by
  have hc := castsN_bd hk hm
  have e1 : (m * 8 + j) / 8 = m := by omega
  have e2 : (m * 8 + j) % 8 = j := by omega
  have hs : ∀ M : List (Int × Int), sizeT s l ks k m M (m * 8 + j) = endsOf (madeK s l ks m j ++ M.map fun p => made7 p.1 p.2 (j : Int) k) := fun M => by
    unfold sizeT; rw [e1, e2, if_pos ⟨rfl, hj⟩]
  rw [hs, hs, List.map_append, List.map_cons, List.map_nil, ← List.append_assoc]
  refine endsOf_step (fun x hx => ?_) _
  rcases List.mem_append.1 hx with hx | hx
  · exact (madeK_pos hk hm (by omega) hks x hx).1
  · obtain ⟨q, hq, rfl⟩ := List.mem_map.1 hx
    obtain ⟨a1, a2⟩ := hL q hq
    exact (made7_bd a1 a2 (by omega) hkk).2.2.2.2.1
theorem sizeT_other {s : Shop} {l : List SeenC} {ks : List Int} {k : Int} {m : Nat} {L L' : List (Int × Int)} {i : Nat} (h : ¬ (i / 8 = m ∧ i % 8 < castsN s m)) : sizeT s l ks k m L i = sizeT s l ks k m L' i := by
  unfold sizeT; rw [if_neg h, if_neg h]
theorem mixF_start {s : Shop} {l : List SeenC} {ks : List Int} {k : Int} {m : Nat} {L L' : List (Int × Int)} : mixF (sizeT s l ks k m L') (sizeT s l ks k m L) (m * 8) = sizeT s l ks k m L := by
  funext i
  unfold mixF
  by_cases h : i < m * 8
  · rw [if_pos h]; exact sizeT_other (by omega)
  · rw [if_neg h]
theorem mixF_end {s : Shop} {l : List SeenC} {ks : List Int} {k : Int} {m : Nat} {L L' : List (Int × Int)} (hm4 : castsN s m ≤ 8) : mixF (sizeT s l ks k m L') (sizeT s l ks k m L) (m * 8 + castsN s m) = sizeT s l ks k m L' := by
  funext i
  unfold mixF
  by_cases h : i < m * 8 + castsN s m
  · rw [if_pos h]
  · rw [if_neg h]; exact sizeT_other (by omega)
end Go.Proofs.YtpdldmichpmgmaaGreat

namespace Go.Proofs.YtpdldmichpmgmaaGreat
open Go.RowKit Go.Shelf
attribute [local go_sem] Oper.semAt_some

/-- the body of the range over numbers of Shrink; its loop over moulds; the body of the range over sizes and wears -/
noncomputable def kentBody : Code × Code := (Tryz.f54.body.bind firstRF).getD (.skip, .skip)
noncomputable def kentLoop : Code := (firstLoopC kentBody.2).getD .skip
noncomputable def kentIn : Code × Code := (firstRF kentLoop).getD (.skip, .skip)
theorem eqk_span (a b : Int) (w : World) : (Op.equalIn 10000 23 (.agg #[.int .i64 a, .int .i64 b]) (.agg #[.int .i64 0, .int .i64 0])).run Tryz.prog w = .ok (decide (a = 0 ∧ b = 0)) w := by
  rw [show (10000 : Nat) = 9999 + 1 from rfl, Op.equalIn]
  simp only [Sem.run_bind, run_underlying Tryz.underlying23, Result.andThen_ok]
  by_cases h1 : a = 0
  · by_cases h2 : b = 0
    · subst h1; subst h2; go_simp
    · have h2b : (b == 0) = false := by simpa using h2
      subst h1
      go_simp
  · have h1b : (a == 0) = false := by simpa using h1
    go_simp
/-- the sizes so far, and whether a truth was met -/
def KentJ (gw gm : Nat) (G : List (Int × Int) → Nat → Int × Int) (L : List (Int × Int)) (i : Nat) (O : Foot) (A : World) : Prop :=
  O = (fun k => k = gw ∨ k = gm) ∧ Blk A gw 112 (cellsS (G (L.take i))) ∧ Blk A gm 4 #[.bool (decide (0 < i))]
theorem KentJ.stay {gw gm : Nat} {G : List (Int × Int) → Nat → Int × Int} {L : List (Int × Int)} {i : Nat} {O : Foot} {A B : World} (h : KentJ gw gm G L i O A) (hK : Kept (fun k => ¬ O k) A B) : KentJ gw gm G L i O B := by
  obtain ⟨rfl, h1, h2⟩ := h
  exact ⟨rfl, (hK.block _ h1.lt (fun h => h (.inl rfl))).trans h1, (hK.block _ h2.lt (fun h => h (.inr rfl))).trans h2⟩

set_option maxRecDepth 100000 in
set_option maxHeartbeats 8000000 in
theorem kent_round {n l0 gw gm g11 g12 m : Nat} {s : Shop} {l : List SeenC} {ks : List Int} {k cs : Int} (hok : OkS s) (hm : m < s.moulds.length) (hks : ∀ k ∈ ks, k ∈ shrinkL s) (hkk : 0 ≤ k ∧ k ≤ 100) (hcs : (castsN s m : Int) = cs) (hne : gw ≠ gm) (L : List (Int × Int)) (hL : ∀ p ∈ L, (1 ≤ p.1 ∧ p.1 ≤ 20000) ∧ 0 ≤ p.2 ∧ p.2 ≤ 20) (O0 : Foot) (W0 : World)
    (h11 : W0.cell? ⟨g11, 0, none⟩ = some (.int .i64 m)) (h12 : W0.cell? ⟨g12, 5, none⟩ = some (.int .i64 cs)) (n11 : ¬ O0 g11) (n12 : ¬ O0 g12) (u : Nat → Value) :
    RoundOf (Fence.wide.inRound l0) n 1 Tryz.prog #[50] kentIn.1 kentIn.2 #[u 0, u 1, u 2, u 3, u 4, u 5, u 6, u 7, u 8, u 9, .pointer (some ⟨gw, 0, none⟩), .pointer (some ⟨g11, 0, none⟩), .pointer (some ⟨g12, 0, none⟩), .pointer (some ⟨gm, 0, none⟩), u 14, u 15, u 16, u 17, u 18, u 19, u 20, u 21, u 22, u 23, u 24, u 25, u 26, u 27, u 28, u 29, u 30, u 31, u 32, u 33, u 34, u 35, u 36, u 37, u 38, u 39, u 40, u 41, u 42, u 43, u 44, u 45, u 46, u 47, u 48, u 49, u 50, u 51, u 52, u 53, u 54, u 55, u 56, u 57, u 58, u 59, u 60, u 61, u 62, u 63, u 64, u 65, u 66, u 67, u 68, u 69, u 70, u 71, u 72, u 73, u 74, u 75, u 76, u 77, u 78, u 79, u 80, u 81, u 82, u 83, u 84, u 85, u 86, u 87, u 88, u 89, u 90, u 91, u 92, u 93, u 94, u 95, u 96, u 97, u 98, u 99, u 100, u 101, u 102, u 103, u 104, u 105, u 106] O0 W0 (KentJ gw gm (sizeT s l ks k m) L) (fun _ _ _ => False) (fun p : Int × Int => #[.agg #[.int .i64 p.1, .int .i64 p.2, .int .i64 k]]) L := by
  intro l' i x O A hx ⟨hOe, h1, h2⟩ hlt hsub hK hnl hlA hWl
  obtain ⟨a, w⟩ := x
  obtain ⟨ga, gb⟩ := hL _ (List.mem_of_getElem? hx)
  dsimp only at ga gb
  have HX := Lib.hid hx
  have l11 := World.block_lt_of_cell? _ _ h11
  have l12 := World.block_lt_of_cell? _ _ h12
  dsimp only at l11 l12
  rw [fold1]
  simp only [List.setIfInBounds_toArray, List.set_cons_zero, List.set_cons_succ]
  conv => arg 4; whnf
  gi_wp2
  refine ⟨Kept.alloc _ _ _, fun A2 hK2 hs2 _ => ?_⟩
  conv => arg 4; whnf
  simp only [World.size_alloc] at hs2
  have hOw : O gw := by rw [hOe]; exact .inl rfl
  have hOm : O gm := by rw [hOe]; exact .inr rfl
  have kA : Kept (fun k => k = l') A A2 := (Kept.alloc (fun k => k = l') A (.cells #[.int .i64 a, .int .i64 w, .int .i64 k] 143)).trans hK2
  have H1 : Blk A2 gw 112 (cellsS (sizeT s l ks k m (L.take i))) := (kA.block _ h1.lt (fun h => hnl (h ▸ hOw))).trans h1
  have H2 : Blk A2 gm 4 #[.bool (decide (0 < i))] := (kA.block _ h2.lt (fun h => hnl (h ▸ hOm))).trans h2
  obtain ⟨gt, hgt⟩ : ∃ g, A.heap.size = g := ⟨_, rfl⟩
  rw [hgt]
  have HT : Blk A2 gt 143 #[.int .i64 a, .int .i64 w, .int .i64 k] := by rw [← hgt]; exact (hK2.block A.heap.size (by simp) (by omega)).trans (Blk.new _ _ _ rfl)
  have hgw := h1.lt
  have hgm := h2.lt
  have hA0 := hK.size
  have z11 : A2.cell? ⟨g11, 0, none⟩ = some (.int .i64 m) := kA.cell (hK.cell h11 (fun h => h.elim n11 (fun h => by dsimp only at h; omega))) (fun h => by dsimp only at h; omega)
  have z12 : A2.cell? ⟨g12, 5, none⟩ = some (.int .i64 cs) := kA.cell (hK.cell h12 (fun h => h.elim n12 (fun h => by dsimp only at h; omega))) (fun h => by dsimp only at h; omega)
  have hn11 : g11 ≠ gw ∧ g11 ≠ gm := ⟨fun e => (hsub gw hOw).elim (fun h => n11 (e ▸ h)) (fun h => by omega), fun e => (hsub gm hOm).elim (fun h => n11 (e ▸ h)) (fun h => by omega)⟩
  have hn12 : g12 ≠ gw ∧ g12 ≠ gm := ⟨fun e => (hsub gw hOw).elim (fun h => n12 (e ▸ h)) (fun h => by omega), fun e => (hsub gm hOm).elim (fun h => n12 (e ▸ h)) (fun h => by omega)⟩
  have hngt : gt ≠ gw ∧ gt ≠ gm := ⟨by omega, by omega⟩
  obtain ⟨f0, hf0⟩ : ∃ f0 : Nat → Int × Int, sizeT s l ks k m (L.take i) = f0 := ⟨_, rfl⟩
  obtain ⟨f1, hf1⟩ : ∃ f1 : Nat → Int × Int, sizeT s l ks k m (L.take (i + 1)) = f1 := ⟨_, rfl⟩
  rw [hf0] at H1
  have HFS : Hid (∀ j : Nat, j < castsN s m → f1 (m * 8 + j) = (min (if f0 (m * 8 + j) = (0, 0) then (made7 a w (j : Int) k, made7 a w (j : Int) k) else f0 (m * 8 + j)).1 (made7 a w (j : Int) k), max (if f0 (m * 8 + j) = (0, 0) then (made7 a w (j : Int) k, made7 a w (j : Int) k) else f0 (m * 8 + j)).2 (made7 a w (j : Int) k))) := fun j hj => by
    rw [← hf1, ← hf0, take_snoc_get HX.out]
    exact sizeT_step (p := (a, w)) hok hm hks hkk (fun p hp => hL p (List.mem_of_mem_take hp)) hj
  have hcb := castsN_bd hok hm
  have hm4 : m < 4 := by have := hok.nm; omega
  have HF1 := Lib.hid hf1
  have HF0 := Lib.hid hf0
  have HOE := Lib.hid hOe
  obtain ⟨A3, hA3⟩ : ∃ V, A2.setCell ⟨gm, 0, none⟩ (.bool true) = V := ⟨_, rfl⟩
  have k23 : Kept (fun k => k = gm) A2 A3 := by rw [← hA3]; exact Kept.setCell _ _ _ rfl
  have H3w : Blk A3 gw 112 (cellsS f0) := (k23.block _ H1.lt hne).trans H1
  have H3m : Blk A3 gm 4 #[.bool true] := by rw [← hA3]; exact H2.set_ 0 _
  have H3t : Blk A3 gt 143 #[.int .i64 a, .int .i64 w, .int .i64 k] := (k23.block _ HT.lt hngt.2).trans HT
  have x11 : A3.cell? ⟨g11, 0, none⟩ = some (.int .i64 m) := k23.cell z11 hn11.2
  have x12 : A3.cell? ⟨g12, 5, none⟩ = some (.int .i64 cs) := k23.cell z12 hn12.2
  have HG1 : Hid (Kept O A2 A3) := k23.mono fun k _ h => h ▸ hOm
  have fr := H2.frozen 0
  have fc := H2.cell 0
  have fl := H2.lt
  have hsA : A3.heap.size = A2.heap.size := by rw [← hA3]; simp
  have hlt3 : g11 < A3.heap.size ∧ g12 < A3.heap.size ∧ gt < A3.heap.size ∧ gw < A3.heap.size ∧ gm < A3.heap.size := ⟨by omega, by omega, H3t.lt, H3w.lt, H3m.lt⟩
  clear hx h1 h2 hK2 hf0 hf1 hOe kA H1 H2 HT z11 z12 k23 hs2 hK h11 h12 hgt hsub hlt
  gi_wp2_with fail
  clear fr fc fl hA3 hsA
  gi_loopw [15, 16, 53] (fun _ _ i' wr => ∃ j : Nat, i' = .int .i64 j ∧ j ≤ castsN s m ∧ Hid (Kept (fun k => k = gw) A3 wr) ∧ Hid (Blk wr gw 112 (cellsS (mixF f1 f0 (m * 8 + j))))) (fun _ _ i' _ => castsN s m - (intOf i').toNat)
  case atStart => exact ⟨0, rfl, by omega, Kept.refl _ _, by
    rw [Hid, Nat.add_zero, ← HF1.out, ← HF0.out, mixF_start, HF0.out]; exact H3w⟩
  case round =>
    obtain ⟨j, rfl, hj, HK3, HB⟩ := hrel
    have hsr := HK3.out.size
    by_cases hlt : j < castsN s m
    · have hji : (j : Int) < cs := by omega
      have hj8 : (j : Int) < 8 := by omega
      have hmi : (m : Int) < 4 := by omega
      have hix : m * 8 + j < 32 := by omega
      have y11 := HK3.out.cell x11 hn11.1
      have HTr : Hid (Blk wr gt 143 #[.int .i64 a, .int .i64 w, .int .i64 k]) := (HK3.out.block _ H3t.lt hngt.1).trans H3t
      obtain ⟨z1, z2, hz⟩ : ∃ z1 z2, f0 (m * 8 + j) = (z1, z2) := ⟨_, _, rfl⟩
      have HZ := Lib.hid hz
      obtain ⟨md, hmd⟩ : ∃ x, made7 a w (j : Int) k = x := ⟨_, rfl⟩
      have HMD := Lib.hid hmd
      have hmdp : 1 ≤ md := by rw [← hmd]; exact (made7_bd ga gb (by omega) hkk).2.2.2.2.1
      have q0 := HB.out.cell ((m * 8 + j) * 2)
      have q1 := HB.out.cell ((m * 8 + j) * 2 + 1)
      rw [cellsS_lo _ hix, mixF_at, hz] at q0
      rw [cellsS_hi _ hix, mixF_at, hz] at q1
      rw [show (m * 8 + j) * 2 = m * 16 + j * 2 by omega] at q0 q1
      dsimp only at q0 q1
      obtain ⟨B1, hB1⟩ : ∃ V, wr.alloc (.cells #[.int .i64 z1, .int .i64 z2] 23) = V := ⟨_, rfl⟩
      obtain ⟨gz, hgz⟩ : ∃ g, wr.heap.size = g := ⟨_, rfl⟩
      have bB1 : Below wr.heap.size wr B1 := by rw [← hB1]; exact bl_alloc (Below.refl _ _) _ (Nat.le_refl _)
      have HZ1 : Hid (Blk B1 gz 23 #[.int .i64 z1, .int .i64 z2]) := by rw [Hid, ← hB1, ← hgz]; exact Blk.new _ _ _ rfl
      have HW1 : Hid (Blk B1 gw 112 (cellsS (mixF f1 f0 (m * 8 + j)))) := HB.out.bl bB1
      have HT1 : Hid (Blk B1 gt 143 #[.int .i64 a, .int .i64 w, .int .i64 k]) := HTr.out.bl bB1
      have H111 : Hid (B1.cell? ⟨g11, 0, none⟩ = some (.int .i64 m)) := getc bB1 y11
      have HK1 : Hid (Kept (fun k => k = gw) A3 B1) := HK3.out.trans (Kept.of_bl bB1)
      have w0 := HZ1.out.cell 0
      have w1 := HZ1.out.cell 1
      have hgwz : gw ≠ gz := by have := HB.out.lt; omega
      have hgtz : gt ≠ gz := by have := HTr.out.lt; omega
      have hg11z : g11 ≠ gz := by omega
      have hA3z : A3.heap.size ≤ gz := by omega
      have lw := HB.out.lt
      have l11' : g11 < wr.heap.size := by omega
      clear hz hmd bB1 HTr HB HK3
      by_cases hz0 : z1 = 0 ∧ z2 = 0
      · have heq : ∀ W, (Op.equalIn 10000 23 (.agg #[.int .i64 z1, .int .i64 z2]) (.agg #[.int .i64 0, .int .i64 0])).run Tryz.prog W = .ok true W := fun W => by rw [eqk_span, decide_eq_true hz0]
        have HF : Hid (f1 (m * 8 + j) = (md, md)) := by rw [Hid, HFS.out j hlt, HZ.out, HMD.out, if_pos (by rw [hz0.1, hz0.2])]; simp
        clear hz0
        gi_wp2_with fail
        clear w0 w1 heq q0 q1 y11 hB1 hgz lw
        have kt : Hid (∀ V, Below B1.heap.size B1 V → V.cell? ⟨gt, 0, none⟩ = some (.int .i64 a) ∧ V.cell? ⟨gt, 1, none⟩ = some (.int .i64 w) ∧ V.cell? ⟨gt, 2, none⟩ = some (.int .i64 k)) :=
          fun V hb => ⟨(HT1.out.bl hb).cell 0, (HT1.out.bl hb).cell 1, (HT1.out.bl hb).cell 2⟩
        refine wpIn_region_list1 (F := Fence.wide.inRound l') (r := some l') rfl (fun W => Below B1.heap.size B1 W) (fun w w' => Below w.heap.size w w')
          [isV (.agg #[.int .i64 a, .int .i64 w, .int .i64 k]), isV (.int .i64 j), isV (.int .i64 md), isV (.agg #[.int .i64 a, .int .i64 w, .int .i64 k]), isV (.int .i64 j), isV (.int .i64 md), isV (.agg #[.int .i64 md, .int .i64 md])]
          (by kernel_rfl) (by kernel_rfl) (by kernel_rfl) (by simp) (by simp) (Below.refl _ _).drew ?stab ?step ?fin
        case stab => exact (StabL.is (StabL.is (StabL.is (StabL.is (StabL.is (StabL.is (StabL.is StabL.nil)))))))
        case step =>
          refine StepsL.is ?_ (StepsL.is ?_ (StepsL.is ?_ (StepsL.is ?_ (StepsL.is ?_ (StepsL.is ?_ (StepsL.is ?_ StepsL.nil))))))
          all_goals
            intro vs W K hC hD hU hK
            simp only [fillA, Act.put, List.setIfInBounds_toArray, List.set_cons_zero, List.set_cons_succ, Nat.zero_add, Nat.reduceAdd] at hK ⊢
            simp [waits, Region.binds] at hD
            try simp only [envOf, List.getD_cons_succ, List.getD_cons_zero, isV] at hD
            try simp only [hD] at hK ⊢
          · obtain ⟨x3, x4, x5⟩ := kt.out W hC
            go_simp; exact hK _ hC (Below.refl _ _)
          · go_simp; exact hK _ hC (Below.refl _ _)
          · go_simp
            refine (kmade_any ga gb (by omega) hkk W).mono ?_
            rintro e w' ⟨rfl, hb⟩
            rw [HMD.out]
            exact hK _ (bl_call hC hb (Nat.le_refl _)) hb
          · obtain ⟨x3, x4, x5⟩ := kt.out W hC
            go_simp; exact hK _ hC (Below.refl _ _)
          · go_simp; exact hK _ hC (Below.refl _ _)
          · go_simp
            refine (kmade_any ga gb (by omega) hkk W).mono ?_
            rintro e w' ⟨rfl, hb⟩
            rw [HMD.out]
            exact hK _ (bl_call hC hb (Nat.le_refl _)) hb
          · go_simp; exact hK _ hC (Below.refl _ _)
        case fin =>
          intro vs W hC hE hU
          have e6 := hE 6 (by simp)
          simp only [envOf, List.getD_cons_succ, List.getD_cons_zero, isV] at e6
          have hZ4 := HZ1.out.bl hC
          have k1 := hZ4.cell 0
          have k2 := hZ4.cell 1
          have fr0 := hZ4.frozen 0
          have fr1 := hZ4.frozen 1
          have hgl := hZ4.lt
          simp only [fillA, Act.put, List.setIfInBounds_toArray, List.set_cons_zero, List.set_cons_succ, Nat.zero_add, Nat.reduceAdd, e6]
          clear e6 hE hU
          obtain ⟨u0, hu0⟩ : ∃ v0, vs 0 = v0 := ⟨_, rfl⟩
          obtain ⟨u1, hu1⟩ : ∃ v0, vs 1 = v0 := ⟨_, rfl⟩
          obtain ⟨u2, hu2⟩ : ∃ v0, vs 2 = v0 := ⟨_, rfl⟩
          obtain ⟨u3, hu3⟩ : ∃ v0, vs 3 = v0 := ⟨_, rfl⟩
          obtain ⟨u4, hu4⟩ : ∃ v0, vs 4 = v0 := ⟨_, rfl⟩
          obtain ⟨u5, hu5⟩ : ∃ v0, vs 5 = v0 := ⟨_, rfl⟩
          rw [hu0, hu1, hu2, hu3, hu4, hu5]
          clear hu0 hu1 hu2 hu3 hu4 hu5
          obtain ⟨B2, hB2⟩ : ∃ V, (W.setCell ⟨gz, 0, none⟩ (.int .i64 md)).setCell ⟨gz, 1, none⟩ (.int .i64 md) = V := ⟨_, rfl⟩
          have kz : Kept (fun k => k = gz) W B2 := by rw [← hB2]; exact (Kept.setCell (M := fun k => k = gz) _ _ _ rfl).trans (Kept.setCell _ _ _ rfl)
          have HZV : Hid (Blk B2 gz 23 #[.int .i64 md, .int .i64 md]) := by rw [Hid, ← hB2]; exact (hZ4.set_ 0 _).set_ 1 _
          have HWV : Hid (Blk B2 gw 112 (cellsS (mixF f1 f0 (m * 8 + j)))) := (kz.block _ (HW1.out.bl hC).lt hgwz).trans (HW1.out.bl hC)
          have HTV : Hid (Blk B2 gt 143 #[.int .i64 a, .int .i64 w, .int .i64 k]) := (kz.block _ (HT1.out.bl hC).lt hgtz).trans (HT1.out.bl hC)
          have HMV : Hid (B2.cell? ⟨g11, 0, none⟩ = some (.int .i64 m)) := kz.cell (getc hC H111.out) hg11z
          have HKV : Hid (Kept (fun k => k = gw) A3 B2) := (HK1.out.trans (Kept.of_bl hC)).seq kz (fun i hi h => by omega)
          clear hC hZ4 kz
          simp [Region.wanted, yielded]
          go_simp
          gi_wp2_with fail
          clear k1 k2 fr0 fr1 hgl hB2
          have kk : Hid (∀ V, Below B2.heap.size B2 V → V.cell? ⟨g11, 0, none⟩ = some (.int .i64 m) ∧ V.cell? ⟨gz, 0, none⟩ = some (.int .i64 md) ∧ V.cell? ⟨gz, 1, none⟩ = some (.int .i64 md) ∧ V.cell? ⟨gt, 0, none⟩ = some (.int .i64 a) ∧ V.cell? ⟨gt, 1, none⟩ = some (.int .i64 w) ∧ V.cell? ⟨gt, 2, none⟩ = some (.int .i64 k)) :=
            fun V hb => ⟨getc hb HMV.out, (HZV.out.bl hb).cell 0, (HZV.out.bl hb).cell 1, (HTV.out.bl hb).cell 0, (HTV.out.bl hb).cell 1, (HTV.out.bl hb).cell 2⟩
          refine wpIn_region_list1 (F := Fence.wide.inRound l') (r := some l') rfl (fun W => Below B2.heap.size B2 W) (fun w w' => Below w.heap.size w w')
            [isV (.int .i64 m), isV (.int .i64 j), isV (.pointer (some ⟨gz, 0, none⟩)), isV (.int .i64 md), isV (.agg #[.int .i64 a, .int .i64 w, .int .i64 k]), isV (.int .i64 j), isV (.int .i64 md), isV (.int .i64 md), isV (.pointer (some ⟨gz, 1, none⟩)), isV (.int .i64 md), isV (.agg #[.int .i64 a, .int .i64 w, .int .i64 k]), isV (.int .i64 j), isV (.int .i64 md), isV (.int .i64 md), isV (.agg #[.int .i64 md, .int .i64 md]), isV (.pointer (some ⟨gw, m * 16, none⟩)), isV (.pointer (some ⟨gw, m * 16 + j * 2, none⟩))]
            (by kernel_rfl) (by kernel_rfl) (by kernel_rfl) (by simp) (by simp) (Below.refl _ _).drew ?stab ?step ?fin
          case stab => exact (StabL.is (StabL.is (StabL.is (StabL.is (StabL.is (StabL.is (StabL.is (StabL.is (StabL.is (StabL.is (StabL.is (StabL.is (StabL.is (StabL.is (StabL.is (StabL.is (StabL.is StabL.nil)))))))))))))))))
          case step =>
            refine StepsL.is ?_ (StepsL.is ?_ (StepsL.is ?_ (StepsL.is ?_ (StepsL.is ?_ (StepsL.is ?_ (StepsL.is ?_ (StepsL.is ?_ (StepsL.is ?_ (StepsL.is ?_ (StepsL.is ?_ (StepsL.is ?_ (StepsL.is ?_ (StepsL.is ?_ (StepsL.is ?_ (StepsL.is ?_ (StepsL.is ?_ StepsL.nil))))))))))))))))
            all_goals
              intro vs W K hC hD hU hK
              simp only [fillA, Act.put, List.setIfInBounds_toArray, List.set_cons_zero, List.set_cons_succ, Nat.zero_add, Nat.reduceAdd] at hK ⊢
              simp [waits, Region.binds] at hD
              try simp only [envOf, List.getD_cons_succ, List.getD_cons_zero, isV] at hD
              try simp only [hD] at hK ⊢
            · obtain ⟨x0, x1, x2, x3, x4, x5⟩ := kk.out W hC
              go_simp; exact hK _ hC (Below.refl _ _)
            · go_simp; exact hK _ hC (Below.refl _ _)
            · go_simp; exact hK _ hC (Below.refl _ _)
            · obtain ⟨x0, x1, x2, x3, x4, x5⟩ := kk.out W hC
              go_simp; exact hK _ hC (Below.refl _ _)
            · obtain ⟨x0, x1, x2, x3, x4, x5⟩ := kk.out W hC
              go_simp; exact hK _ hC (Below.refl _ _)
            · go_simp; exact hK _ hC (Below.refl _ _)
            · go_simp
              refine (kmade_any ga gb (by omega) hkk W).mono ?_
              rintro e w' ⟨rfl, hb⟩
              rw [HMD.out]
              exact hK _ (bl_call hC hb (Nat.le_refl _)) hb
            · go_simp; exact hK _ hC (Below.refl _ _)
            · go_simp; exact hK _ hC (Below.refl _ _)
            · obtain ⟨x0, x1, x2, x3, x4, x5⟩ := kk.out W hC
              go_simp; exact hK _ hC (Below.refl _ _)
            · obtain ⟨x0, x1, x2, x3, x4, x5⟩ := kk.out W hC
              go_simp; exact hK _ hC (Below.refl _ _)
            · go_simp; exact hK _ hC (Below.refl _ _)
            · go_simp
              refine (kmade_any ga gb (by omega) hkk W).mono ?_
              rintro e w' ⟨rfl, hb⟩
              rw [HMD.out]
              exact hK _ (bl_call hC hb (Nat.le_refl _)) hb
            · go_simp; exact hK _ hC (Below.refl _ _)
            · go_simp; exact hK _ hC (Below.refl _ _)
            · go_simp; exact hK _ hC (Below.refl _ _)
            · go_simp; exact hK _ hC (Below.refl _ _)
          case fin =>
            intro vs W hC hE hU
            have e14 := hE 14 (by simp)
            have e16 := hE 16 (by simp)
            simp only [envOf, List.getD_cons_succ, List.getD_cons_zero, isV] at e14 e16
            have hB4 := HWV.out.bl hC
            have k1 := hB4.cell ((m * 8 + j) * 2)
            have k2 := hB4.cell ((m * 8 + j) * 2 + 1)
            rw [cellsS_lo _ hix] at k1
            rw [cellsS_hi _ hix] at k2
            rw [show (m * 8 + j) * 2 = m * 16 + j * 2 by omega] at k1 k2
            have fr0 := hB4.frozen (m * 16 + j * 2)
            have fr1 := hB4.frozen (m * 16 + j * 2 + 1)
            have hgl := hB4.lt
            have HB4 := Lib.hid hB4
            have HC := Lib.hid hC
            simp only [fillA, Act.put, List.setIfInBounds_toArray, List.set_cons_zero, List.set_cons_succ, Nat.zero_add, Nat.reduceAdd, e14, e16]
            clear e14 e16 hE hU hC hB4
            obtain ⟨u0, hu0⟩ : ∃ v0, vs 0 = v0 := ⟨_, rfl⟩
            obtain ⟨u1, hu1⟩ : ∃ v0, vs 1 = v0 := ⟨_, rfl⟩
            obtain ⟨u2, hu2⟩ : ∃ v0, vs 2 = v0 := ⟨_, rfl⟩
            obtain ⟨u3, hu3⟩ : ∃ v0, vs 3 = v0 := ⟨_, rfl⟩
            obtain ⟨u4, hu4⟩ : ∃ v0, vs 4 = v0 := ⟨_, rfl⟩
            obtain ⟨u5, hu5⟩ : ∃ v0, vs 5 = v0 := ⟨_, rfl⟩
            obtain ⟨u6, hu6⟩ : ∃ v0, vs 6 = v0 := ⟨_, rfl⟩
            obtain ⟨u7, hu7⟩ : ∃ v0, vs 7 = v0 := ⟨_, rfl⟩
            obtain ⟨u8, hu8⟩ : ∃ v0, vs 8 = v0 := ⟨_, rfl⟩
            obtain ⟨u9, hu9⟩ : ∃ v0, vs 9 = v0 := ⟨_, rfl⟩
            obtain ⟨u10, hu10⟩ : ∃ v0, vs 10 = v0 := ⟨_, rfl⟩
            obtain ⟨u11, hu11⟩ : ∃ v0, vs 11 = v0 := ⟨_, rfl⟩
            obtain ⟨u12, hu12⟩ : ∃ v0, vs 12 = v0 := ⟨_, rfl⟩
            obtain ⟨u13, hu13⟩ : ∃ v0, vs 13 = v0 := ⟨_, rfl⟩
            rw [hu0, hu1, hu2, hu3, hu4, hu5, hu6, hu7, hu8, hu9, hu10, hu11, hu12, hu13]
            clear hu0 hu1 hu2 hu3 hu4 hu5 hu6 hu7 hu8 hu9 hu10 hu11 hu12 hu13
            simp [Region.wanted, yielded]
            go_simp
            gi_wp2
            refine ⟨⟨j + 1, by go_num, by omega, ((HKV.out.trans (Kept.of_bl HC.out)).trans (Kept.setCell _ _ _ rfl)).trans (Kept.setCell _ _ _ rfl), ?_⟩, by simp [intOf]; omega⟩
            have h5 := (HB4.out.set_ ((m * 8 + j) * 2) (.int .i64 md)).set_ ((m * 8 + j) * 2 + 1) (.int .i64 md)
            rw [cellsS_set _ hix, ← HF.out, mixF_upd, show (m * 8 + j) * 2 = m * 16 + j * 2 by omega] at h5
            exact h5
      · have heq : ∀ W, (Op.equalIn 10000 23 (.agg #[.int .i64 z1, .int .i64 z2]) (.agg #[.int .i64 0, .int .i64 0])).run Tryz.prog W = .ok false W := fun W => by rw [eqk_span, decide_eq_false hz0]
        have HF : Hid (f1 (m * 8 + j) = (min z1 md, max z2 md)) := by rw [Hid, HFS.out j hlt, HZ.out, HMD.out, if_neg (fun e => hz0 (by injection e with e1 e2; exact ⟨e1, e2⟩))]
        clear hz0
        gi_wp2_with fail
        clear w0 w1 heq q0 q1 y11 hB1 hgz lw
        have HWV := HW1
        have HTV := HT1
        have HZV := HZ1
        have HMV := H111
        have HKV := HK1
        have hmin := min_if z1 md
        have hmax := max_if z2 md
        have kk : Hid (∀ V, Below B1.heap.size B1 V → V.cell? ⟨g11, 0, none⟩ = some (.int .i64 m) ∧ V.cell? ⟨gz, 0, none⟩ = some (.int .i64 z1) ∧ V.cell? ⟨gz, 1, none⟩ = some (.int .i64 z2) ∧ V.cell? ⟨gt, 0, none⟩ = some (.int .i64 a) ∧ V.cell? ⟨gt, 1, none⟩ = some (.int .i64 w) ∧ V.cell? ⟨gt, 2, none⟩ = some (.int .i64 k)) :=
          fun V hb => ⟨getc hb HMV.out, (HZV.out.bl hb).cell 0, (HZV.out.bl hb).cell 1, (HTV.out.bl hb).cell 0, (HTV.out.bl hb).cell 1, (HTV.out.bl hb).cell 2⟩
        refine wpIn_region_list1 (F := Fence.wide.inRound l') (r := some l') rfl (fun W => Below B1.heap.size B1 W) (fun w w' => Below w.heap.size w w')
          [isV (.int .i64 m), isV (.int .i64 j), isV (.pointer (some ⟨gz, 0, none⟩)), isV (.int .i64 z1), isV (.agg #[.int .i64 a, .int .i64 w, .int .i64 k]), isV (.int .i64 j), isV (.int .i64 md), isV (.int .i64 (min z1 md)), isV (.pointer (some ⟨gz, 1, none⟩)), isV (.int .i64 z2), isV (.agg #[.int .i64 a, .int .i64 w, .int .i64 k]), isV (.int .i64 j), isV (.int .i64 md), isV (.int .i64 (max z2 md)), isV (.agg #[.int .i64 (min z1 md), .int .i64 (max z2 md)]), isV (.pointer (some ⟨gw, m * 16, none⟩)), isV (.pointer (some ⟨gw, m * 16 + j * 2, none⟩))]
          (by kernel_rfl) (by kernel_rfl) (by kernel_rfl) (by simp) (by simp) (Below.refl _ _).drew ?stab ?step ?fin
        case stab => exact (StabL.is (StabL.is (StabL.is (StabL.is (StabL.is (StabL.is (StabL.is (StabL.is (StabL.is (StabL.is (StabL.is (StabL.is (StabL.is (StabL.is (StabL.is (StabL.is (StabL.is StabL.nil)))))))))))))))))
        case step =>
          refine StepsL.is ?_ (StepsL.is ?_ (StepsL.is ?_ (StepsL.is ?_ (StepsL.is ?_ (StepsL.is ?_ (StepsL.is ?_ (StepsL.is ?_ (StepsL.is ?_ (StepsL.is ?_ (StepsL.is ?_ (StepsL.is ?_ (StepsL.is ?_ (StepsL.is ?_ (StepsL.is ?_ (StepsL.is ?_ (StepsL.is ?_ StepsL.nil))))))))))))))))
          all_goals
            intro vs W K hC hD hU hK
            simp only [fillA, Act.put, List.setIfInBounds_toArray, List.set_cons_zero, List.set_cons_succ, Nat.zero_add, Nat.reduceAdd] at hK ⊢
            simp [waits, Region.binds] at hD
            try simp only [envOf, List.getD_cons_succ, List.getD_cons_zero, isV] at hD
            try simp only [hD] at hK ⊢
          · obtain ⟨x0, x1, x2, x3, x4, x5⟩ := kk.out W hC
            go_simp; exact hK _ hC (Below.refl _ _)
          · go_simp; exact hK _ hC (Below.refl _ _)
          · go_simp; exact hK _ hC (Below.refl _ _)
          · obtain ⟨x0, x1, x2, x3, x4, x5⟩ := kk.out W hC
            go_simp; exact hK _ hC (Below.refl _ _)
          · obtain ⟨x0, x1, x2, x3, x4, x5⟩ := kk.out W hC
            go_simp; exact hK _ hC (Below.refl _ _)
          · go_simp; exact hK _ hC (Below.refl _ _)
          · go_simp
            refine (kmade_any ga gb (by omega) hkk W).mono ?_
            rintro e w' ⟨rfl, hb⟩
            rw [HMD.out]
            exact hK _ (bl_call hC hb (Nat.le_refl _)) hb
          · go_simp; exact hK _ hC (Below.refl _ _)
          · go_simp; exact hK _ hC (Below.refl _ _)
          · obtain ⟨x0, x1, x2, x3, x4, x5⟩ := kk.out W hC
            go_simp; exact hK _ hC (Below.refl _ _)
          · obtain ⟨x0, x1, x2, x3, x4, x5⟩ := kk.out W hC
            go_simp; exact hK _ hC (Below.refl _ _)
          · go_simp; exact hK _ hC (Below.refl _ _)
          · go_simp
            refine (kmade_any ga gb (by omega) hkk W).mono ?_
            rintro e w' ⟨rfl, hb⟩
            rw [HMD.out]
            exact hK _ (bl_call hC hb (Nat.le_refl _)) hb
          · go_simp; exact hK _ hC (Below.refl _ _)
          · go_simp; exact hK _ hC (Below.refl _ _)
          · go_simp; exact hK _ hC (Below.refl _ _)
          · go_simp; exact hK _ hC (Below.refl _ _)
        case fin =>
          intro vs W hC hE hU
          have e14 := hE 14 (by simp)
          have e16 := hE 16 (by simp)
          simp only [envOf, List.getD_cons_succ, List.getD_cons_zero, isV] at e14 e16
          have hB4 := HWV.out.bl hC
          have k1 := hB4.cell ((m * 8 + j) * 2)
          have k2 := hB4.cell ((m * 8 + j) * 2 + 1)
          rw [cellsS_lo _ hix] at k1
          rw [cellsS_hi _ hix] at k2
          rw [show (m * 8 + j) * 2 = m * 16 + j * 2 by omega] at k1 k2
          have fr0 := hB4.frozen (m * 16 + j * 2)
          have fr1 := hB4.frozen (m * 16 + j * 2 + 1)
          have hgl := hB4.lt
          have HB4 := Lib.hid hB4
          have HC := Lib.hid hC
          simp only [fillA, Act.put, List.setIfInBounds_toArray, List.set_cons_zero, List.set_cons_succ, Nat.zero_add, Nat.reduceAdd, e14, e16]
          clear e14 e16 hE hU hC hB4
          obtain ⟨u0, hu0⟩ : ∃ v0, vs 0 = v0 := ⟨_, rfl⟩
          obtain ⟨u1, hu1⟩ : ∃ v0, vs 1 = v0 := ⟨_, rfl⟩
          obtain ⟨u2, hu2⟩ : ∃ v0, vs 2 = v0 := ⟨_, rfl⟩
          obtain ⟨u3, hu3⟩ : ∃ v0, vs 3 = v0 := ⟨_, rfl⟩
          obtain ⟨u4, hu4⟩ : ∃ v0, vs 4 = v0 := ⟨_, rfl⟩
          obtain ⟨u5, hu5⟩ : ∃ v0, vs 5 = v0 := ⟨_, rfl⟩
          obtain ⟨u6, hu6⟩ : ∃ v0, vs 6 = v0 := ⟨_, rfl⟩
          obtain ⟨u7, hu7⟩ : ∃ v0, vs 7 = v0 := ⟨_, rfl⟩
          obtain ⟨u8, hu8⟩ : ∃ v0, vs 8 = v0 := ⟨_, rfl⟩
          obtain ⟨u9, hu9⟩ : ∃ v0, vs 9 = v0 := ⟨_, rfl⟩
          obtain ⟨u10, hu10⟩ : ∃ v0, vs 10 = v0 := ⟨_, rfl⟩
          obtain ⟨u11, hu11⟩ : ∃ v0, vs 11 = v0 := ⟨_, rfl⟩
          obtain ⟨u12, hu12⟩ : ∃ v0, vs 12 = v0 := ⟨_, rfl⟩
          obtain ⟨u13, hu13⟩ : ∃ v0, vs 13 = v0 := ⟨_, rfl⟩
          rw [hu0, hu1, hu2, hu3, hu4, hu5, hu6, hu7, hu8, hu9, hu10, hu11, hu12, hu13]
          clear hu0 hu1 hu2 hu3 hu4 hu5 hu6 hu7 hu8 hu9 hu10 hu11 hu12 hu13
          simp [Region.wanted, yielded]
          go_simp
          gi_wp2
          refine ⟨⟨j + 1, by go_num, by omega, ((HKV.out.trans (Kept.of_bl HC.out)).trans (Kept.setCell _ _ _ rfl)).trans (Kept.setCell _ _ _ rfl), ?_⟩, by simp [intOf]; omega⟩
          have h5 := (HB4.out.set_ ((m * 8 + j) * 2) (.int .i64 (min z1 md))).set_ ((m * 8 + j) * 2 + 1) (.int .i64 (max z2 md))
          rw [cellsS_set _ hix, ← HF.out, mixF_upd, show (m * 8 + j) * 2 = m * 16 + j * 2 by omega] at h5
          exact h5
    · obtain rfl : j = castsN s m := by omega
      have hji : ¬ ((castsN s m : Nat) : Int) < cs := by omega
      gi_wp2
      refine ⟨HG1.out.trans (HK3.out.mono fun k _ h => h ▸ hOw), O, fun k h => .inl h, HOE.out, ?_, ?_⟩
      · have := HB.out
        rwa [← HF1.out, ← HF0.out, mixF_end (by omega)] at this
      · rw [decide_eq_true (Nat.succ_pos i)]
        exact (HK3.out.block _ H3m.lt (fun h => hne h.symm)).trans H3m

end Go.Proofs.YtpdldmichpmgmaaGreat

namespace Go.Proofs.YtpdldmichpmgmaaGreat
open Go.RowKit Go.Shelf
attribute [local go_sem] Oper.semAt_some

set_option maxRecDepth 100000 in
set_option maxHeartbeats 8000000 in
theorem kent_loop {Ad C : Option Addr} {n ca q cc l0 gw gh gq : Nat} {s : Shop} {l : List SeenC} {ks : List Int} {k : Int} {W2 : World} (hok : OkS s) (hn : s.moulds.length = n) (hca : n ≤ ca) (hks : ∀ k ∈ ks, k ∈ shrinkL s) (hkk : 0 ≤ k ∧ k ≤ 100)
    (hseen : ∀ (j : Nat) (y : SeenC), l[j]? = some y → 0 ≤ y.cast ∧ y.cast ≤ 8) (hI : ∀ w', Kept (fun j => j = gw ∨ W2.heap.size ≤ j) W2 w' → Moulds (fun _ => True) w' Ad n s.moulds ∧ SeenCs (fun _ => True) w' C q l ∧ w'.cell? ⟨gh, 2, none⟩ = some (.slice Ad n ca) ∧ w'.cell? ⟨gh, 3, none⟩ = some (.slice C q cc) ∧ w'.cell? ⟨gq, 0, none⟩ = some (.pointer (some ⟨gh, 0, none⟩))) (hgw : Blk W2 gw 112 (cellsS (sizeF s l ks))) (hl0 : ∃ r0, W2.heap[l0]? = some (.loop r0))
    {Q : Exit → Act → World → Prop} (u : Nat → Value)
    (hexit : ∀ (u : Nat → Value) (w' : World), Kept (fun j => j = gw) W2 w' → Blk w' gw 112 (cellsS (sizeF s l (ks ++ [k]))) → (∀ t, t < n → twosC s l t k ≠ []) → Q (.exit 2) { tmps := #[u 0, u 1, u 2, u 3, u 4, u 5, u 6, u 7, .pointer (some ⟨gq, 0, none⟩), .int .i64 k, .pointer (some ⟨gw, 0, none⟩), u 11, u 12, u 13, u 14, u 15, u 16, u 17, u 18, u 19, u 20, u 21, u 22, u 23, u 24, u 25, u 26, u 27, u 28, u 29, u 30, u 31, u 32, u 33, u 34, u 35, u 36, u 37, u 38, u 39, u 40, u 41, u 42, u 43, u 44, u 45, u 46, u 47, u 48, u 49, u 50, u 51, u 52, u 53, u 54, u 55, u 56, u 57, u 58, u 59, u 60, u 61, u 62, u 63, u 64, u 65, u 66, u 67, u 68, u 69, u 70, u 71, u 72, u 73, u 74, u 75, u 76, u 77, u 78, u 79, u 80, u 81, u 82, u 83, u 84, u 85, u 86, u 87, u 88, u 89, u 90, u 91, u 92, u 93, u 94, u 95, u 96, u 97, u 98, u 99, u 100, u 101, u 102, u 103, u 104, u 105, u 106], defers := [] } w')
    (hskip : ∀ (u : Nat → Value) (w' : World), Kept (fun j => j = gw) W2 w' → (∃ t, t < n ∧ twosC s l t k = []) → Q (.exit 1) { tmps := #[u 0, u 1, u 2, u 3, u 4, u 5, u 6, u 7, .pointer (some ⟨gq, 0, none⟩), .int .i64 k, .pointer (some ⟨gw, 0, none⟩), u 11, u 12, u 13, u 14, u 15, u 16, u 17, u 18, u 19, u 20, u 21, u 22, u 23, u 24, u 25, u 26, u 27, u 28, u 29, u 30, u 31, u 32, u 33, u 34, u 35, u 36, u 37, u 38, u 39, u 40, u 41, u 42, u 43, u 44, u 45, u 46, u 47, u 48, u 49, u 50, u 51, u 52, u 53, u 54, u 55, u 56, u 57, u 58, u 59, u 60, u 61, u 62, u 63, u 64, u 65, u 66, u 67, u 68, u 69, u 70, u 71, u 72, u 73, u 74, u 75, u 76, u 77, u 78, u 79, u 80, u 81, u 82, u 83, u 84, u 85, u 86, u 87, u 88, u 89, u 90, u 91, u 92, u 93, u 94, u 95, u 96, u 97, u 98, u 99, u 100, u 101, u 102, u 103, u 104, u 105, u 106], defers := [] } w') :
    (Code.loop kentLoop).wpIn (Fence.wide.inRound l0) 1 Tryz.prog Q { tmps := #[u 0, u 1, u 2, u 3, u 4, u 5, u 6, u 7, .pointer (some ⟨gq, 0, none⟩), .int .i64 k, .pointer (some ⟨gw, 0, none⟩), u 11, u 12, u 13, u 14, u 15, u 16, u 17, u 18, u 19, u 20, u 21, u 22, u 23, u 24, u 25, u 26, u 27, u 28, u 29, u 30, u 31, u 32, u 33, u 34, u 35, u 36, u 37, u 38, .slice Ad n ca, .int .i64 n, .int .i64 0, u 42, u 43, u 44, u 45, u 46, u 47, u 48, u 49, u 50, u 51, u 52, u 53, u 54, u 55, u 56, u 57, u 58, u 59, u 60, u 61, u 62, u 63, u 64, u 65, u 66, u 67, u 68, u 69, u 70, u 71, u 72, u 73, u 74, u 75, u 76, u 77, u 78, u 79, u 80, u 81, u 82, u 83, u 84, u 85, u 86, u 87, u 88, u 89, u 90, u 91, u 92, u 93, u 94, u 95, u 96, u 97, u 98, u 99, u 100, u 101, u 102, u 103, u 104, u 105, u 106], defers := [] } W2 := by
  have HEX := Lib.hid hexit
  have HSK := Lib.hid hskip
  have HI := Lib.hid hI
  have Hn := Lib.hid hn
  have hgl := hgw.lt
  have HG0 := Lib.hid hgw
  have hl0l : l0 < W2.heap.size := hl0.elim fun r0 h => (Array.getElem?_eq_some_iff.1 h).1
  have hl0g : l0 ≠ gw := fun e => hl0.elim fun r0 h => by
    have := hgw
    unfold Blk at this
    rw [← e, h] at this
    cases this
  have HL0 := Lib.hid hl0
  clear hexit hskip hI hgw hl0
  refine wpIn_loop (fun a' w' => ∃ (m : Nat) (u : Nat → Value), m ≤ n ∧ Hid (Kept (fun j => j = gw) W2 w') ∧ Hid (Blk w' gw 112 (cellsS (sizeM s l ks k m))) ∧ Hid (∀ t, t < m → twosC s l t k ≠ []) ∧ a' = { tmps := #[u 0, u 1, u 2, u 3, u 4, u 5, u 6, u 7, .pointer (some ⟨gq, 0, none⟩), .int .i64 k, .pointer (some ⟨gw, 0, none⟩), u 11, u 12, u 13, u 14, u 15, u 16, u 17, u 18, u 19, u 20, u 21, u 22, u 23, u 24, u 25, u 26, u 27, u 28, u 29, u 30, u 31, u 32, u 33, u 34, u 35, u 36, u 37, u 38, .slice Ad n ca, .int .i64 n, .int .i64 m, u 42, u 43, u 44, u 45, u 46, u 47, u 48, u 49, u 50, u 51, u 52, u 53, u 54, u 55, u 56, u 57, u 58, u 59, u 60, u 61, u 62, u 63, u 64, u 65, u 66, u 67, u 68, u 69, u 70, u 71, u 72, u 73, u 74, u 75, u 76, u 77, u 78, u 79, u 80, u 81, u 82, u 83, u 84, u 85, u 86, u 87, u 88, u 89, u 90, u 91, u 92, u 93, u 94, u 95, u 96, u 97, u 98, u 99, u 100, u 101, u 102, u 103, u 104, u 105, u 106], defers := [] }) (fun a' _ => n - (intOf (a'.tmps.getD 41 undef)).toNat) ?_ ?_
  · exact ⟨0, u, Nat.zero_le _, Kept.refl _ _, by rw [Hid, sizeM_zero]; exact HG0.out, (fun t h => by omega), rfl⟩
  · rintro a' wr ⟨m, u, hm, HK, HB, HT, rfl⟩
    conv => arg 4; whnf
    by_cases hlt : m < n
    · have hmi : (m : Int) < n := by omega
      obtain ⟨hms, hss, hc2, hc3, hc0⟩ := HI.out wr (HK.out.mono fun _ _ h => .inl h)
      obtain ⟨b, off, sn, a, z, y, v, c5, rfl, hb0, hd0, hd1, hd2, hd3, hd4, hd5, hsz, Hx⟩ := Moulds.get hms hlt
      have hgq := World.block_lt_of_cell? _ _ hc0
      dsimp only at hgq
      have hle := hms.le
      have hq0 := oldc (o := .cells #[.bool false] 4) (oldc (o := .cells #[.string sn, .int .i64 a, .int .i64 z, .int .i64 y, .int .i64 v, .int .i64 c5] 93) (oldc (o := .cells #[.int .i64 m] 3) hc0))
      clear hms hss hc2 hc3
      gi_wp2_with fail
      refine ⟨trivial, ?_⟩
      refine (CallsIn.inRound l0 (callsIn_wide.2 (ktruths_call gh m k _))).mono ?_
      rintro e w' ⟨rfl, rfl⟩
      simp only [World.size_alloc]
      obtain ⟨g0, hg0⟩ : ∃ g, wr.heap.size = g := ⟨_, rfl⟩
      obtain ⟨wd, hwd⟩ : ∃ V, (((((((wr.alloc (.cells #[.int .i64 m] 3)).alloc (.cells #[.string sn, .int .i64 a, .int .i64 z, .int .i64 y, .int .i64 v, .int .i64 c5] 93)).alloc (.cells #[.bool false] 4)).alloc (.cells #[.pointer (some ⟨gh, 0, none⟩)] 104)).alloc (.cells #[.int .i64 m] 3)).alloc (.cells #[.int .i64 k] 3)).alloc (.cells #[madeV] 140)) = V := ⟨_, rfl⟩
      have b1 : Below wr.heap.size wr wd := by rw [← hwd]; exact bl_alloc (bl_alloc (bl_alloc (bl_alloc (bl_alloc (bl_alloc (bl_alloc (Below.refl _ _) _ (Nat.le_refl _)) _ (Nat.le_refl _)) _ (Nat.le_refl _)) _ (Nat.le_refl _)) _ (Nat.le_refl _)) _ (Nat.le_refl _)) _ (Nat.le_refl _)
      have hsd : wd.heap.size = g0 + 7 := by rw [← hwd, ← hg0]; simp
      have q0 : Blk wd g0 3 #[.int .i64 m] := by rw [← hwd, ← hg0]; exact ((((((Blk.new _ _ _ rfl).alloc _).alloc _).alloc _).alloc _).alloc _).alloc _
      have q1 : Blk wd (g0 + 1) 93 #[.string sn, .int .i64 a, .int .i64 z, .int .i64 y, .int .i64 v, .int .i64 c5] := by rw [← hwd, ← hg0]; exact (((((Blk.new _ _ _ (by simp)).alloc _).alloc _).alloc _).alloc _).alloc _
      have q2 : Blk wd (g0 + 2) 4 #[.bool false] := by rw [← hwd, ← hg0]; exact ((((Blk.new _ _ _ (by simp)).alloc _).alloc _).alloc _).alloc _
      have q3 : Blk wd (g0 + 3) 104 #[.pointer (some ⟨gh, 0, none⟩)] := by rw [← hwd, ← hg0]; exact (((Blk.new _ _ _ (by simp)).alloc _).alloc _).alloc _
      have q4 : Blk wd (g0 + 4) 3 #[.int .i64 m] := by rw [← hwd, ← hg0]; exact ((Blk.new _ _ _ (by simp)).alloc _).alloc _
      have q5 : Blk wd (g0 + 5) 3 #[.int .i64 k] := by rw [← hwd, ← hg0]; exact (Blk.new _ _ _ (by simp)).alloc _
      have q6 : Blk wd (g0 + 6) 140 #[madeV] := by rw [← hwd, ← hg0]; exact Blk.new _ _ _ (by simp)
      rw [hwd, hg0]
      simp only [Nat.add_assoc, Nat.reduceAdd]
      have hW2g : W2.heap.size ≤ g0 := by rw [← hg0]; exact HK.out.size
      have hmS : m < s.moulds.length := by rw [Hn.out]; exact hlt
      have hcs : (castsN s m : Int) = c5 := by have := (castsN_bd hok hmS).2.2; rw [this, getD_of Hx.out]
      have hKd : Kept (fun j => j = gw) W2 wd := HK.out.trans (Kept.of_bl b1)
      have HKD := Lib.hid hKd
      have HBd : Hid (Blk wd gw 112 (cellsS (sizeM s l ks k m))) := HB.out.bl b1
      have hl0d : ∃ r0, wd.heap[l0]? = some (.loop r0) := HL0.out.imp fun r0 h => (hKd.block l0 hl0l hl0g).trans h
      have hlw : l0 < wd.heap.size := by omega
      have KA : ∀ A', Kept (fun j => (j = gw ∨ j = g0 + 2) ∨ wd.heap.size ≤ j) wd A' → Kept (fun j => j = gw ∨ W2.heap.size ≤ j) W2 A' := fun A' hK => (HKD.out.mono fun _ _ h => .inl h).seq hK (fun i hi h => by rcases h with (h | h) | h <;> omega)
      clear hwd hg0 hq0 hd0 hd1 hd2 hd3 hd4 hd5 hb0 hc0 hKd
      gi_wp2_with fail
      refine rangeFunc_inner (l0 := l0) (m := 1) (gf := 93) (lb := #[.pointer (some ⟨g0 + 3, 0, none⟩), .pointer (some ⟨g0 + 4, 0, none⟩), .pointer (some ⟨g0 + 5, 0, none⟩), .pointer (some ⟨g0 + 6, 0, none⟩)]) hl0d rfl eg_tru
        (truths7_seq (Ad := some ⟨b, off, none⟩) (n := n) (ca := ca) (C := C) (q := q) (cc := cc) (s := s) (l := l) (g0 + 3) (g0 + 4) (g0 + 5) (g0 + 6) gh m k hok hmS hkk (fun j y hy _ => hseen j y hy)) (fun _ => rfl) (fun j => j = gw ∨ j = g0 + 2) (KentJ gw (g0 + 2) (sizeT s l ks k m) (twosC s l m k)) (fun _ _ _ => False) ?o0 ?inv (fun i O A B h1 _ hK => h1.stay hK) (fun _ _ _ _ h _ _ => h) ?init
        (kent_round (g11 := g0) (g12 := g0 + 1) hok hmS hks hkk hcs (by omega) _ (fun p hp => twos7_bd hok hmS hp) _ _ (q0.cell 0) (q1.cell 5) (by omega) (by omega) (fun i => (#[u 0, u 1, u 2, u 3, u 4, u 5, u 6, u 7, .pointer (some ⟨gq, 0, none⟩), .int .i64 k, .pointer (some ⟨gw, 0, none⟩), .pointer (some ⟨g0, 0, none⟩), .pointer (some ⟨g0 + 1, 0, none⟩), .pointer (some ⟨g0 + 2, 0, none⟩), u 14, u 15, u 16, u 17, u 18, u 19, u 20, u 21, u 22, u 23, u 24, u 25, u 26, u 27, u 28, u 29, u 30, u 31, u 32, u 33, u 34, u 35, u 36, u 37, u 38, .slice (some ⟨b, off, none⟩) n ca, .int .i64 n, .int .i64 m, .bool true, .int .i64 m, .pointer (some ⟨b, off + m * 6, none⟩), .agg #[.string sn, .int .i64 a, .int .i64 z, .int .i64 y, .int .i64 v, .int .i64 c5], .pointer (some ⟨gh, 0, none⟩), .int .i64 m, .int .i64 k, .func (.func 93) #[] #[.pointer (some ⟨g0 + 3, 0, none⟩), .pointer (some ⟨g0 + 4, 0, none⟩), .pointer (some ⟨g0 + 5, 0, none⟩), .pointer (some ⟨g0 + 6, 0, none⟩)], u 50, u 51, u 52, u 53, u 54, u 55, u 56, u 57, u 58, u 59, u 60, u 61, u 62, u 63, u 64, u 65, u 66, u 67, u 68, u 69, u 70, u 71, u 72, u 73, u 74, u 75, u 76, u 77, u 78, u 79, u 80, u 81, u 82, u 83, u 84, u 85, u 86, u 87, u 88, u 89, u 90, u 91, u 92, u 93, u 94, u 95, u 96, u 97, u 98, u 99, u 100, u 101, u 102, u 103, u 104, u 105, u 106] : Array Value).getD i undef)) ?done ?stop
      case o0 => intro j hj; rcases hj with hj | hj <;> omega
      case inv =>
        intro A' hK
        obtain ⟨i1, i2, i3, i4, i5⟩ := HI.out A' (KA A' hK)
        exact ⟨⟨_, (hK.block _ q3.lt (by omega)).trans q3⟩, ⟨_, (hK.block _ q4.lt (by omega)).trans q4⟩, ⟨_, (hK.block _ q5.lt (by omega)).trans q5⟩, ⟨_, (hK.block _ q6.lt (by omega)).trans q6⟩, i3, i4, i1, i2⟩
      case init => exact ⟨rfl, by rw [List.take_zero, sizeT_nil hmS]; exact HBd.out, q2⟩
      case done =>
        rintro O w9 ⟨hOe, hB1, hB2⟩ hO hK9
        rw [List.take_length, sizeT_all hmS] at hB1
        have HK9 : Hid (Kept (fun j => j = gw) W2 w9) := HKD.out.seq hK9 (fun i hi h => by rcases h with (h | h) | h <;> omega)
        have b0 := hB2.cell 0
        have bl0 := hB2.lt
        have HB1 := Lib.hid hB1
        clear hB2 hB1 hOe hO hK9
        by_cases hnil : twosC s l m k = []
        · have hz : decide (0 < (twosC s l m k).length) = false := by rw [hnil]; rfl
          rw [hz] at b0
          have HNIL := Lib.hid hnil
          clear hz hnil
          gi_wp2_with fail
          exact HSK.out (fun i => (#[u 0, u 1, u 2, u 3, u 4, u 5, u 6, u 7, .pointer (some ⟨gq, 0, none⟩), .int .i64 k, .pointer (some ⟨gw, 0, none⟩), .pointer (some ⟨g0, 0, none⟩), .pointer (some ⟨g0 + 1, 0, none⟩), .pointer (some ⟨g0 + 2, 0, none⟩), u 14, u 15, u 16, u 17, u 18, u 19, u 20, u 21, u 22, u 23, u 24, u 25, u 26, u 27, u 28, u 29, u 30, u 31, u 32, u 33, u 34, u 35, u 36, u 37, u 38, .slice (some ⟨b, off, none⟩) n ca, .int .i64 n, .int .i64 m, .bool true, .int .i64 m, .pointer (some ⟨b, off + m * 6, none⟩), .agg #[.string sn, .int .i64 a, .int .i64 z, .int .i64 y, .int .i64 v, .int .i64 c5], .pointer (some ⟨gh, 0, none⟩), .int .i64 m, .int .i64 k, .func (.func 93) #[] #[.pointer (some ⟨g0 + 3, 0, none⟩), .pointer (some ⟨g0 + 4, 0, none⟩), .pointer (some ⟨g0 + 5, 0, none⟩), .pointer (some ⟨g0 + 6, 0, none⟩)], u 50, u 51, u 52, u 53, u 54, u 55, u 56, u 57, u 58, u 59, u 60, u 61, u 62, u 63, u 64, u 65, u 66, u 67, u 68, u 69, u 70, u 71, u 72, u 73, u 74, u 75, u 76, u 77, u 78, u 79, u 80, u 81, u 82, u 83, u 84, u 85, u 86, u 87, u 88, .bool false, .bool true, u 91, u 92, u 93, u 94, u 95, u 96, u 97, u 98, u 99, u 100, u 101, u 102, u 103, u 104, u 105, u 106] : Array Value).getD i undef) w9 HK9.out ⟨m, hlt, HNIL.out⟩
        · have hz : decide (0 < (twosC s l m k).length) = true := decide_eq_true (List.length_pos_iff.2 hnil)
          rw [hz] at b0
          have HNIL := Lib.hid hnil
          clear hz hnil
          gi_wp2_with fail
          refine ⟨⟨m + 1, (fun i => (#[u 0, u 1, u 2, u 3, u 4, u 5, u 6, u 7, .pointer (some ⟨gq, 0, none⟩), .int .i64 k, .pointer (some ⟨gw, 0, none⟩), .pointer (some ⟨g0, 0, none⟩), .pointer (some ⟨g0 + 1, 0, none⟩), .pointer (some ⟨g0 + 2, 0, none⟩), u 14, u 15, u 16, u 17, u 18, u 19, u 20, u 21, u 22, u 23, u 24, u 25, u 26, u 27, u 28, u 29, u 30, u 31, u 32, u 33, u 34, u 35, u 36, u 37, u 38, .slice (some ⟨b, off, none⟩) n ca, .int .i64 n, .int .i64 (m + 1 : Nat), .bool true, .int .i64 m, .pointer (some ⟨b, off + m * 6, none⟩), .agg #[.string sn, .int .i64 a, .int .i64 z, .int .i64 y, .int .i64 v, .int .i64 c5], .pointer (some ⟨gh, 0, none⟩), .int .i64 m, .int .i64 k, .func (.func 93) #[] #[.pointer (some ⟨g0 + 3, 0, none⟩), .pointer (some ⟨g0 + 4, 0, none⟩), .pointer (some ⟨g0 + 5, 0, none⟩), .pointer (some ⟨g0 + 6, 0, none⟩)], u 50, u 51, u 52, u 53, u 54, u 55, u 56, u 57, u 58, u 59, u 60, u 61, u 62, u 63, u 64, u 65, u 66, u 67, u 68, u 69, u 70, u 71, u 72, u 73, u 74, u 75, u 76, u 77, u 78, u 79, u 80, u 81, u 82, u 83, u 84, u 85, u 86, u 87, u 88, .bool true, .bool false, .int .i64 (m + 1 : Nat), u 92, u 93, u 94, u 95, u 96, u 97, u 98, u 99, u 100, u 101, u 102, u 103, u 104, u 105, u 106] : Array Value).getD i undef), by omega, HK9, HB1, fun t ht => ?_, ?_⟩, by simp [intOf]; omega⟩
          · by_cases e : t = m
            · rw [e]; exact HNIL.out
            · exact HT.out t (by omega)
          · simp
      case stop => intro c O w9 h; exact h.elim
    · obtain rfl : m = n := by omega
      have hmi : ¬ ((m : Int)) < m := by omega
      gi_wp2_with fail
      exact HEX.out (fun i => (#[u 0, u 1, u 2, u 3, u 4, u 5, u 6, u 7, .pointer (some ⟨gq, 0, none⟩), .int .i64 k, .pointer (some ⟨gw, 0, none⟩), u 11, u 12, u 13, u 14, u 15, u 16, u 17, u 18, u 19, u 20, u 21, u 22, u 23, u 24, u 25, u 26, u 27, u 28, u 29, u 30, u 31, u 32, u 33, u 34, u 35, u 36, u 37, u 38, .slice Ad m ca, .int .i64 m, .int .i64 m, .bool false, u 43, u 44, u 45, u 46, u 47, u 48, u 49, u 50, u 51, u 52, u 53, u 54, u 55, u 56, u 57, u 58, u 59, u 60, u 61, u 62, u 63, u 64, u 65, u 66, u 67, u 68, u 69, u 70, u 71, u 72, u 73, u 74, u 75, u 76, u 77, u 78, u 79, u 80, u 81, u 82, u 83, u 84, u 85, u 86, u 87, u 88, u 89, u 90, u 91, u 92, u 93, u 94, u 95, u 96, u 97, u 98, u 99, u 100, u 101, u 102, u 103, u 104, u 105, u 106] : Array Value).getD i undef) wr HK.out (by have := HB.out; rwa [← Hn.out, sizeM_all] at this) HT.out
end Go.Proofs.YtpdldmichpmgmaaGreat

namespace Go.Proofs.YtpdldmichpmgmaaGreat
open Go.RowKit Go.Shelf
attribute [local go_sem] Oper.semAt_some

theorem zeros139 : Tryz.zeroCells114 = shopC 0 0 none 0 0 none 0 0 (fun _ => (0, 0)) (.slice none 0 0) := by kernel_rfl
theorem shopC_new {klo khi : Int} {Ad : Option Addr} {n ca : Nat} {C : Option Addr} {q cc : Nat} : (((Tryz.zeroCells114.setIfInBounds 0 (.int .i64 klo)).setIfInBounds 1 (.int .i64 khi)).setIfInBounds 2 (.slice Ad n ca)).setIfInBounds 3 (.slice C q cc) = shopC klo khi Ad n ca C q cc (fun _ => (0, 0)) (.slice none 0 0) := by
  rw [zeros139]
  apply Array.ext_getElem?
  intro j
  rw [Array.getElem?_setIfInBounds, Array.getElem?_setIfInBounds, Array.getElem?_setIfInBounds, Array.getElem?_setIfInBounds, shopC_get, shopC_get]
  simp only [Array.size_setIfInBounds, shopC_size]
  by_cases h3 : 3 = j
  · subst h3; rfl
  · rw [if_neg h3]
    by_cases h2 : 2 = j
    · subst h2; rfl
    · rw [if_neg h2]
      by_cases h1 : 1 = j
      · subst h1; rfl
      · rw [if_neg h1]
        by_cases h0 : 0 = j
        · subst h0; rfl
        · rw [if_neg h0]
          by_cases hj : j < 69
          · rw [if_pos hj, if_pos hj]
            have e0 : ¬ j = 0 := fun e => h0 e.symm
            have e1 : ¬ j = 1 := fun e => h1 e.symm
            have e2 : ¬ j = 2 := fun e => h2 e.symm
            have e3 : ¬ j = 3 := fun e => h3 e.symm
            unfold shopCell
            simp only [e0, e1, e2, e3, if_false]
          · rw [if_neg hj, if_neg hj]
theorem zero64 (w : World) : (zeroValue 112).run Tryz.prog w = .ok (.agg (cellsS fun _ => (0, 0))) w := (Tryz.zeroValue112 w).trans (by kernel_rfl)
/-- a shop that is looked at, as it lies in memory -/
structure SBox (w : World) (gh : Nat) (Ad : Option Addr) (n ca : Nat) (C : Option Addr) (q cc : Nat) (s : Shop) (l : List SeenC) : Prop where
  ex : ∃ (D : Option Addr) (kc : Nat), Blk w gh 114 (shopC s.klo s.khi Ad n ca C q cc (sizeF s l (known7 s l)) (.slice D (known7 s l).length kc)) ∧ Ints (fun _ => True) w D (known7 s l).length (known7 s l) ∧ (known7 s l = [] → D = none ∧ kc = 0) ∧ (known7 s l ≠ [] → ∃ g, D = some ⟨g, 0, none⟩)
  ms : Moulds (fun _ => True) w Ad n s.moulds
/-- what enter answers -/
def EntOk (w0 : World) (Ad : Option Addr) (n ca : Nat) (C : Option Addr) (q cc : Nat) (s : Shop) (l : List SeenC) (e : Ending) (w' : World) : Prop :=
  Below w0.heap.size w0 w' ∧ ∃ p, e = .returned (.tuple #[.pointer p, .int .i64 (seen7 s l).2]) ∧ ((seen7 s l).2 = 0 → ∃ gh, p = some ⟨gh, 0, none⟩ ∧ SBox w' gh Ad n ca C q cc s l)
/-- the numbers of Shrink so far that agree -/
def knownK (s : Shop) (l : List SeenC) (i : Nat) : List Int := ((rangeZ s.klo s.khi).take i).filter (knownB s l)
/-- the shop so far, and its own slice of numbers -/
def OutJ (klo khi : Int) (Ad : Option Addr) (n ca : Nat) (C : Option Addr) (q cc : Nat) (s : Shop) (l : List SeenC) (gh B0 i : Nat) (O : Foot) (A : World) : Prop :=
  ∃ v : Value, Blk A gh 114 (shopC klo khi Ad n ca C q cc (sizeF s l (knownK s l i)) v) ∧ OwnL IntR 1 (fun _ => False) A B0 3 v (knownK s l i) ∧ (∀ k, O k ↔ k = gh ∨ v.ownBlock = some k) ∧ v.ownBlock ≠ some gh ∧ (knownK s l i = [] → v = .slice none 0 0)
theorem OutJ.nil {s : Shop} {l : List SeenC} : knownK s l 0 = [] := rfl
theorem OutJ.stay {klo khi : Int} {Ad : Option Addr} {n ca : Nat} {C : Option Addr} {q cc : Nat} {s : Shop} {l : List SeenC} {gh B0 i : Nat} {O : Foot} {A B : World} (h : OutJ klo khi Ad n ca C q cc s l gh B0 i O A) (hK : Kept (fun k => ¬ O k) A B) : OutJ klo khi Ad n ca C q cc s l gh B0 i O B := by
  obtain ⟨v, h1, h2, h3, h4, h5⟩ := h
  exact ⟨v, (hK.block _ h1.lt (fun h => h ((h3 gh).2 (.inl rfl)))).trans h1, h2.keep IntR.good ⟨hK.size, fun k hk hlt => hK.block k hlt (fun h => h ((h3 k).2 (.inr (hk.elim (fun h => h.elim) id))))⟩, h3, h4, h5⟩
theorem infoI7 : (Tryz.prog.info? 3).map (fun i => (i.zero, i.size, i.bytes)) = some (some (.int .i64 0), 1, 8) := by kernel_rfl
theorem ownK_blk {α : Type} {R : Rd α} {m : Nat} {S : Foot} {w : World} {base : Nat} {e : TypeId} {v : Value} {xs : List α} (h : OwnL R m S w base e v xs) {k : Nat} (hk : v.ownBlock = some k) : ∃ cur, Blk w k e cur := by
  obtain ⟨_, cells, ho, _⟩ := h
  rcases ho.2 with ⟨e, _⟩ | ⟨gb, cap, cur, e, _, hgg, _⟩
  · subst e; simp [Value.ownBlock] at hk
  · subst e
    have : gb = k := by simpa [Value.ownBlock] using hk
    subst this
    exact ⟨cur, hgg⟩
/-- what the operations promise that put one more number behind the others; 7: the append -/
def appE (B0 As : Nat) (gh : Nat) (v : Value) (x : Int) (ks : List Int) : Nat → Bool → Value → World → Prop
  | 0, _, u, _ => u = .pointer (some ⟨gh, 0, none⟩)
  | 1, _, u, _ => u = .pointer (some ⟨gh, 0, none⟩)
  | 2, _, u, _ => u = .pointer (some ⟨gh, 0, none⟩)
  | 3, _, u, _ => u = .pointer (some ⟨gh, 68, none⟩)
  | 4, _, u, _ => u = v
  | 5, _, u, _ => u = .int .i64 x
  | 6, p, u, W => p = true ∨ ∃ g, u = .slice (some ⟨g, 0, none⟩) 1 1 ∧ Blk W g 3 #[.int .i64 x]
  | 7, _, u, W => ∃ A c, u = .slice (some ⟨A, 0, none⟩) (ks.length + 1) c ∧ OwnL IntR 1 (fun _ => False) W B0 3 u (ks ++ [x]) ∧ (v.ownBlock = some A ∨ As ≤ A)
  | 8, _, u, _ => u = .pointer (some ⟨gh, 0, none⟩)
  | 9, _, u, _ => u = .pointer (some ⟨gh, 68, none⟩)
  | _, _, _, _ => True
theorem appE_stab (B0 As : Nat) (gh : Nat) (v : Value) (x : Int) (ks : List Int) : ∀ k p u w w', Below w.heap.size w w' → appE B0 As gh v x ks k p u w → appE B0 As gh v x ks k p u w'
  | 6, _, _, _, _, hb, h => h.imp id fun ⟨g, h1, h2⟩ => ⟨g, h1, h2.bl hb⟩
  | 7, _, _, _, _, hb, ⟨A, c, h1, h2, h3⟩ => ⟨A, c, h1, h2.below IntR.good hb, h3⟩
  | 0, _, _, _, _, _, h => h
  | 1, _, _, _, _, _, h => h
  | 2, _, _, _, _, _, h => h
  | 3, _, _, _, _, _, h => h
  | 4, _, _, _, _, _, h => h
  | 5, _, _, _, _, _, h => h
  | 8, _, _, _, _, _, h => h
  | 9, _, _, _, _, _, h => h
  | _ + 10, _, _, _, _, _, _ => trivial
/-- the invariant of that region: what is kept while the append may write in place -/
structure AppI (B0 : Nat) (A5 : World) (E : Nat → Bool → Value → World → Prop) (gh : Nat) (D : Array Value) (v : Value) (ks : List Int) (ls : Nat → Bool) (vs : Nat → Value) (w : World) : Prop where
  kp : Kept (fun k => v.ownBlock = some k) A5 w
  blk : Blk w gh 114 D
  own : ls 7 = false → OwnL IntR 1 (fun _ => False) w B0 3 v ks
  all : ∀ i, ls i = true → E i (ls 7) (vs i) w
theorem AppI.step {B0 : Nat} {A5 : World} {E : Nat → Bool → Value → World → Prop} {gh : Nat} {D : Array Value} {sv : Value} {ks : List Int} {ls : Nat → Bool} {vs : Nat → Value} {w w' : World} {j : Nat} {v : Value} (stab : ∀ i p v w w', Below w.heap.size w w' → E i p v w → E i p v w') (hI : AppI B0 A5 E gh D sv ks ls vs w) (hb : Below w.heap.size w w') (hj : j ≠ 7) (hv : E j (ls 7) v w') : AppI B0 A5 E gh D sv ks (updB ls j) (updV vs j v) w' := by
  have h0 : updB ls j 7 = ls 7 := by unfold updB; rw [if_neg (fun e => hj e.symm)]
  refine ⟨hI.kp.trans (Kept.of_bl hb), hI.blk.bl hb, fun h => (hI.own (by rw [← h0]; exact h)).below IntR.good hb, fun i hi => ?_⟩
  rw [h0]
  by_cases hij : i = j
  · subst hij; simpa [updV] using hv
  · have : updB ls j i = ls i := by unfold updB; rw [if_neg hij]
    rw [this] at hi
    rw [show updV vs j v i = vs i by simp [updV, hij]]
    exact stab _ _ _ _ _ hb (hI.all i hi)

set_option maxRecDepth 100000 in
set_option maxHeartbeats 1500000 in
theorem kenter_any {Ad C : Option Addr} {n ca q cc : Nat} {s : Shop} {l : List SeenC} {klo khi : Int} (w : World) (g : Moulds (fun _ => True) w Ad n s.moulds) (gs : SeenCs (fun _ => True) w C q l) (hca : n ≤ ca) (h1 : s.klo = klo) (h2 : s.khi = khi) :
    Calls Tryz.prog 54 #[.agg #[.int .i64 klo, .int .i64 khi, .slice Ad n ca], .slice C q cc] w (EntOk w Ad n ca C q cc s l) := by
  obtain ⟨W, hW⟩ : ∃ W, w.alloc (.cells #[.int .i64 klo, .int .i64 khi, .slice Ad n ca] 26) = W := ⟨_, rfl⟩
  obtain ⟨g2, hg2⟩ : ∃ g, w.heap.size = g := ⟨_, rfl⟩
  have X : Blk W g2 26 #[.int .i64 klo, .int .i64 khi, .slice Ad n ca] := by rw [← hW, ← hg2]; exact Blk.new _ _ _ rfl
  have HBW : Hid (Below w.heap.size w W) := by rw [Hid, ← hW]; exact bl_alloc (Below.refl _ _) _ (Nat.le_refl _)
  have hc := g.keep MouldR.good (Keeps.below HBW.out)
  have hs := gs.keep SeenCR.good (Keeps.below HBW.out)
  have Hn := Lib.hid hc.len
  have hlen := hc.le
  have HX := Lib.hid X
  have x0 := X.cell 0
  have x1 := X.cell 1
  have x2 := X.cell 2
  clear g gs X
  refine (callsIn_wide (n := 1)).1 ?_
  refine callsIn_of_wp_marks Tryz.func54 rfl trivial ?_ rfl
  simp only [Tryz.ntmps54, List.size_toArray, List.length_cons, List.length_nil, Nat.reduceAdd, Nat.reduceSub, Array.replicate_succ, Array.replicate_zero, List.push_toArray, List.append_toArray, List.nil_append, List.cons_append]
  gi_wp2_with fail
  refine wpIn_wide.2 (wp_scope_straight ((wpIn_wide (n := 1)).1 ?_))
  gi_wp2_with fail
  refine ⟨trivial, ?_⟩
  refine (callsIn_wide.2 (kseen_any W hc hs hca h1 h2)).mono ?_
  rintro e W1 ⟨rfl, b1⟩
  clear x0 x1 x2 hW
  by_cases he : (seen7 s l).2 = 0
  · have heb : ((seen7 s l).2 != 0) = false := by rw [he]; rfl
    have HE := Lib.hid he
    obtain ⟨hc0, hl6, hse⟩ := seen7_zero he
    have HOK : Hid (OkS s) := okS_of hc0
    have HSN : Hid (∀ (j : Nat) (y : SeenC), l[j]? = some y → 0 ≤ y.cast ∧ y.cast ≤ 8) := fun j y hy => by
      obtain ⟨⟨p1, p2⟩, ⟨p3, p4⟩, _⟩ := seen7_one hy (hse j (of_getq hy))
      have hx : s.moulds[y.mould.toNat]? = some s.moulds[y.mould.toNat] := List.getElem?_eq_getElem (by omega)
      have hz := (mouldE_zero hx ((okS_of hc0).mould (by omega))).2.2
      rw [getD_of hx] at p4
      omega
    obtain ⟨s1, hs1⟩ : ∃ s1, (seen7 s l).1 = s1 := ⟨_, rfl⟩
    rw [he, hs1]
    clear he hs1 hc0 hse
    have y0 := getc b1 (HX.out.cell 0)
    have y1 := getc b1 (HX.out.cell 1)
    have y2 := getc b1 (HX.out.cell 2)
    gi_wp2_with fail
    rw [shopC_new]
    clear y0 y1 y2
    obtain ⟨gh, hgh⟩ : ∃ g, W1.heap.size = g := ⟨_, rfl⟩
    obtain ⟨V0, hV0⟩ : ∃ V, (W1.alloc (.cells (shopC klo khi Ad n ca C q cc (fun _ => (0, 0)) (.slice none 0 0)) 114)).alloc (.cells #[.pointer (some ⟨gh, 0, none⟩)] 104) = V := ⟨_, rfl⟩
    have b2 : Below W1.heap.size W1 V0 := by rw [← hV0]; exact bl_alloc (bl_alloc (Below.refl _ _) _ (Nat.le_refl _)) _ (Nat.le_refl _)
    have q1 : Blk V0 gh 114 (shopC klo khi Ad n ca C q cc (fun _ => (0, 0)) (.slice none 0 0)) := by rw [← hV0, ← hgh]; exact (Blk.new _ _ _ rfl).alloc _
    have q2 : Blk V0 (gh + 1) 104 #[.pointer (some ⟨gh, 0, none⟩)] := by rw [← hV0, ← hgh]; exact Blk.new _ _ _ (by simp)
    have hs0 : V0.heap.size = gh + 2 := by rw [← hV0, ← hgh]; simp
    rw [hgh, hV0]
    refine wpIn_label ?_
    have bW := bl_call b1 b2 (Nat.le_refl _)
    have x0 := getc bW (HX.out.cell 0)
    have x1 := getc bW (HX.out.cell 1)
    gi_wp2_with fail
    refine ⟨trivial, ?_⟩
    refine (callsIn_wide.2 (knumbers_call klo khi V0)).mono ?_
    rintro e w' ⟨rfl, rfl⟩
    gi_wp2_with fail
    clear x0 x1
    obtain ⟨V1, hV1⟩ : ∃ V, V0.alloc (.cells #[.int .i64 klo, .int .i64 khi] 23) = V := ⟨_, rfl⟩
    have b3 : Below V0.heap.size V0 V1 := by rw [← hV1]; exact bl_alloc (Below.refl _ _) _ (Nat.le_refl _)
    have q3 : Blk V1 (gh + 2) 23 #[.int .i64 klo, .int .i64 khi] := by rw [← hV1]; exact Blk.new _ _ _ hs0.symm
    have hs1 : V1.heap.size = gh + 3 := by rw [← hV1]; simp [hs0]
    rw [hV1]
    have hs1a : V1.heap.size ≤ gh + 3 := by omega
    have hs1b : gh + 3 ≤ V1.heap.size := by omega
    clear hs1
    have p1 := q1.bl b3
    have p2 := q2.bl b3
    clear hV0 hV1 q1 q2 hs0
    have hsz := b3.size
    have hkl := HOK.out.shrink
    rw [h1, h2] at hkl
    have HKL := Lib.hid hkl
    have hnb : 0 ≤ klo ∧ klo ≤ khi + 1 ∧ khi ≤ 100000 := by omega
    have HKK : Hid ((rangeZ klo khi).length = (khi - klo + 1).toNat) := rangeZ_len
    have b13 : Below W.heap.size W V1 := bl_call bW b3 (Nat.le_refl _)
    have hgW : W.heap.size ≤ gh := by rw [← hgh]; exact b1.size
    have hg2W : g2 < W.heap.size := HX.out.lt
    have HP1 := Lib.hid p1
    have hpl := p1.lt
    have HB13 := Lib.hid b13
    have KW : ∀ {A : World} {M : Foot}, Kept M V1 A → (∀ k, M k → gh ≤ k) → Below W.heap.size W A := fun hK hM => HB13.out.trans (hK.below (B := W.heap.size) HB13.out.size (fun k hk => by have := hM k hk; omega))
    clear hkl b13 p1 b2 b3 bW
    refine rangeFunc_outer (m := 1) (gf := 92) (lb := #[.pointer (some ⟨gh + 2, 0, none⟩)]) rfl eg_num (numbers_seq (lo := klo) (hi := khi) (gh + 2) hnb) (fun _ => rfl) (fun k => k = gh)
      (OutJ klo khi Ad n ca C q cc s l gh V1.heap.size) (fun _ _ _ => False) (fun k h => by omega) (fun A hK => ⟨_, (hK.block _ q3.lt (by omega)).trans q3⟩) (fun i O A B h _ hK => h.stay hK) (fun _ _ _ _ h _ _ => h) ?init ?round ?done ?stop
    case init => exact ⟨.slice none 0 0, by rw [OutJ.nil, sizeF_nil]; exact HP1.out, OwnL.nil _ _ _ _ _ _, fun k => by simp [Value.ownBlock], by simp [Value.ownBlock], fun _ => rfl⟩
    case round =>
      intro l' i x O A hx hj hlt hsub hK hnl hlA hWl
      have hi : i < (khi - klo + 1).toNat := by have := of_getq hx; rw [HKK.out] at this; exact this
      have hxe : x = klo + (i : Int) := by rw [rangeZ_get (by omega)] at hx; injection hx with hx; exact hx.symm
      have hxb : 0 ≤ x ∧ x ≤ 100 := by have := HKL.out; omega
      have hxs : x ∈ shrinkL s := by have : x ∈ rangeZ s.klo s.khi := by rw [h1, h2]; exact List.mem_of_getElem? hx
                                     exact this
      have hxg : (rangeZ s.klo s.khi)[i]? = some x := by rw [h1, h2]; exact hx
      obtain ⟨ks, hks⟩ : ∃ ks, knownK s l i = ks := ⟨_, rfl⟩
      have hksm : ∀ k ∈ ks, k ∈ shrinkL s := fun k hk => by rw [← hks] at hk; exact List.mem_of_mem_take (List.mem_filter.1 hk).1
      have HKS := Lib.hid hks
      have HXG := Lib.hid hxg
      clear hx hxe hxg
      rw [fold1]
      simp only [List.setIfInBounds_toArray, List.set_cons_zero, List.set_cons_succ]
      gi_wp2
      refine ⟨Kept.refl _ _, fun A2 hK2 hs2 r2 hr2 => ?_⟩
      have hj2 : OutJ klo khi Ad n ca C q cc s l gh V1.heap.size i O A2 := hj.stay (hK2.mono fun k _ h hO => hnl (h ▸ hO))
      obtain ⟨v, hS, hO, hOi, hOn, hOz⟩ := hj2
      rw [hks] at hS hO hOz
      have hK3 : Kept (fun k => k = gh ∨ V1.heap.size ≤ k) V1 A2 := hK.seq hK2 (fun k _ h => .inr (h ▸ hWl))
      have y2 : Blk A2 (gh + 1) 104 #[.pointer (some ⟨gh, 0, none⟩)] := (hK3.block _ p2.lt (by omega)).trans p2
      have bA2 : Below W.heap.size W A2 := KW hK3 (fun k h => by omega)
      have y0 := y2.cell 0
      have yl := y2.lt
      have HLD : ∀ (j : Nat) (v : Value), (cellsS (sizeF s l ks))[j]? = some v → A2.cell? ⟨gh, 4 + j, none⟩ = some v := fun j v hv => by rw [hS.cell]; exact shopC_in hv
      clear hj hK hK2
      obtain ⟨gw, hgw⟩ : ∃ g, A2.heap.size = g := ⟨_, rfl⟩
      gi_wp2_with (with_reducible show wpListIn _ _ _ _ _ (_ :: _) _ _; first
        | (refine at_load 112 _ rfl ?_; refine wpListIn_load_part (F := Fence.wide.inRound l') (r := some l') rfl rfl 112 _ rfl gh 4 rfl (cellsS (sizeF s l ks)) _ HLD Tryz.underlying112 rfl size64 ?_)
        | (refine at_alloc 112 rfl ?_; refine wpListIn_alloc_agg (F := Fence.wide.inRound l') (r := some l') rfl rfl 112 rfl gw hgw (cellsS fun _ => (0, 0)) zero64 (by rw [cellsS_size]; decide) ?_)
        | (refine at_store 112 _ _ rfl ?_; refine wpListIn_store_new (F := Fence.wide.inRound l') (r := some l') rfl rfl 112 _ _ rfl gw hgw (cellsS (sizeF s l ks)) rfl rfl 112 _ size64 (by rw [cellsS_size, cellsS_size]) (cellsS_one _) ?_; intro A3 HW3 bA3 sA3; have yg := getc (bl_call bA2 bA3 (Nat.le_refl _)) (HX.out.cell 2)))
      have HS2 := Lib.hid hS
      have HO2 := Lib.hid hO
      have HA3 := Lib.hid bA3
      have HA2 := Lib.hid bA2
      have hA3s := bA3.size
      have hghl := hS.lt
      have hkA : Kept (fun k => k = gh ∨ V1.heap.size ≤ k) V1 A3 := hK3.trans (Kept.of_bl bA3)
      have HKA := Lib.hid hkA
      have hhl : gh < gw := by omega
      have hgA : A2.heap.size ≤ gw ∧ gw ≤ A2.heap.size := by omega
      have hA2V := hK3.size
      clear HLD y0 yg hgw hS hO bA3 bA2 hkA hK3 hks
      refine kent_loop (Ad := Ad) (C := C) (n := n) (ca := ca) (q := q) (cc := cc) (gh := gh) (ks := ks) HOK.out Hn.out hca hksm hxb HSN.out ?hI HW3 ⟨r2, (HA3.out.block l' (by omega)).trans hr2⟩ (fun i => (#[.agg #[.int .i64 klo, .int .i64 khi, .slice Ad n ca], .slice C q cc, .pointer (some ⟨g2, 0, none⟩), undef, .pointer none, .int .i64 0, .int .i64 s1, .int .i64 0, .pointer (some ⟨gh + 1, 0, none⟩), .int .i64 x, .pointer (some ⟨gw, 0, none⟩), undef, undef, undef, undef, undef, undef, .tuple #[.int .i64 s1, .int .i64 0], .agg #[.int .i64 klo, .int .i64 khi, .slice Ad n ca], .slice C q cc, .tuple #[.int .i64 s1, .int .i64 0], .int .i64 s1, .int .i64 0, .int .i64 0, .bool false, undef, .agg #[.int .i64 klo, .int .i64 khi, .slice Ad n ca], .slice C q cc, .agg (shopC klo khi Ad n ca C q cc (fun _ => (0, 0)) (.slice none 0 0)), .pointer (some ⟨gh, 0, none⟩), .pointer (some ⟨g2, 0, none⟩), .agg #[.int .i64 klo, .int .i64 khi], .func (.func 92) #[] #[.pointer (some ⟨gh + 2, 0, none⟩)], .int .i64 x, .pointer (some ⟨gh, 0, none⟩), .pointer (some ⟨gh, 0, none⟩), .pointer (some ⟨gh, 4, none⟩), .agg (cellsS (sizeF s l ks)), .pointer (some ⟨g2, 2, none⟩), .slice Ad n ca, .int .i64 n, .int .i64 0, undef, undef, undef, undef, undef, undef, undef, undef, undef, undef, undef, undef, undef, undef, undef, undef, undef, undef, undef, undef, undef, undef, undef, undef, undef, undef, undef, undef, undef, undef, undef, undef, undef, undef, undef, undef, undef, undef, undef, undef, undef, undef, undef, undef, undef, undef, undef, undef, undef, undef, undef, undef, undef, undef, undef, undef, undef, undef, undef, undef, undef, undef, undef, undef, undef] : Array Value).getD i undef) ?hexit ?hskip
      case hI =>
        intro w' hK'
        have hKw : Below W.heap.size W w' := bl_call HA2.out (HA3.out.trans (hK'.below (B := A2.heap.size) hA3s (fun k hk => by omega))) (Nat.le_refl _)
        have e1 : Blk w' gh 114 (shopC klo khi Ad n ca C q cc (sizeF s l ks) v) := (hK'.block _ (HS2.out.bl HA3.out).lt (by omega)).trans (HS2.out.bl HA3.out)
        have e2 : Blk w' (gh + 1) 104 #[.pointer (some ⟨gh, 0, none⟩)] := (hK'.block _ (y2.bl HA3.out).lt (by omega)).trans (y2.bl HA3.out)
        exact ⟨hc.keep MouldR.good (Keeps.below hKw), hs.keep SeenCR.good (Keeps.below hKw), (e1.cell 2).trans shopC_2, (e1.cell 3).trans shopC_3, e2.cell 0⟩
      case hskip =>
        intro u w' hK' hN
        have hN2 : knownB s l x = false := by
          obtain ⟨t, ht, e⟩ := hN
          unfold knownB
          rw [← Bool.not_eq_true, List.all_eq_true]
          intro hh
          have := hh t (List.mem_range.2 (by rw [Hn.out]; exact ht))
          rw [e] at this
          cases this
        have HKN : Hid (knownK s l (i + 1) = ks) := by rw [Hid, knownK, take_snoc_get HXG.out, List.filter_append, List.filter_cons_of_neg (by rw [hN2]; decide), List.filter_nil, List.append_nil]; exact HKS.out
        have k1 : Kept (fun _ => False) A2 w' := ((Kept.of_bl (M := fun _ => False) HA3.out)).seq hK' (fun k hk h => by omega)
        have HJ : Hid (OutJ klo khi Ad n ca C q cc s l gh V1.heap.size (i + 1) O w') := by
          refine ⟨v, ?_, ?_, hOi, hOn, by rw [HKN.out]; exact hOz⟩
          · rw [HKN.out]; exact (k1.block _ HS2.out.lt (fun h => h)).trans HS2.out
          · rw [HKN.out]; exact HO2.out.keep IntR.good (k1.keeps (fun _ _ h => h))
        have HK1 := Lib.hid k1
        clear hK' hN hN2 k1
        gi_wp2_with fail
        exact ⟨HK1.out.any, O, fun k h => .inl h, HJ.out⟩
      case hexit =>
        intro u w' hK' hB5 hT
        have hN2 : knownB s l x = true := by
          unfold knownB
          rw [List.all_eq_true]
          intro t ht
          have := hT t (by rw [← Hn.out]; exact List.mem_range.1 ht)
          simpa using this
        have HKN : Hid (knownK s l (i + 1) = ks ++ [x]) := by rw [Hid, knownK, take_snoc_get HXG.out, List.filter_append, List.filter_cons_of_pos hN2, List.filter_nil]; rw [show ((rangeZ s.klo s.khi).take i).filter (knownB s l) = ks from HKS.out]
        have k1 : Kept (fun _ => False) A2 w' := ((Kept.of_bl (M := fun _ => False) HA3.out)).seq hK' (fun k hk h => by omega)
        have hS5 : Blk w' gh 114 (shopC klo khi Ad n ca C q cc (sizeF s l ks) v) := (k1.block _ HS2.out.lt (fun h => h)).trans HS2.out
        have hy5 : Blk w' (gh + 1) 104 #[.pointer (some ⟨gh, 0, none⟩)] := (k1.block _ y2.lt (fun h => h)).trans y2
        have hO5 : OwnL IntR 1 (fun _ => False) w' V1.heap.size 3 v ks := HO2.out.keep IntR.good (k1.keeps (fun _ _ h => h))
        have hk1s := k1.size
        have y5 := hy5.cell 0
        have yl5 := hy5.lt
        have HLD2 : ∀ (j : Nat) (z : Value), (cellsS (sizeF s l (ks ++ [x])))[j]? = some z → w'.cell? ⟨gw, 0 + j, none⟩ = some z := fun j z hz => by rw [hB5.cell, Nat.zero_add]; exact hz
        have HO5 := Lib.hid hO5
        have HY5 := Lib.hid hy5
        have HK1 := Lib.hid k1
        clear hK' hT hN2 hB5 hO5 hy5 k1
        gi_wp2_with (with_reducible show wpListIn _ _ _ _ _ (_ :: _) _ _; first
          | (refine at_load 112 _ rfl ?_; refine wpListIn_load_part (F := Fence.wide.inRound l') (r := some l') rfl rfl 112 _ rfl gw 0 rfl (cellsS (sizeF s l (ks ++ [x]))) _ HLD2 Tryz.underlying112 rfl size64 ?_)
          | (refine at_store 112 _ _ rfl ?_; refine wpListIn_store_at (F := Fence.wide.inRound l') (r := some l') rfl rfl 112 _ _ rfl gh 4 (cellsS (sizeF s l (ks ++ [x]))) rfl rfl 114 _ _ hS5 (shopC_put _) size64 (by rw [cellsS_size, shopC_size]; decide) (cellsS_one _) ?_; intro A5 HS6 kA5 sA5))
        simp only [Act.put]
        have HS6 := Lib.hid HS6
        have hO6 : OwnL IntR 1 (fun _ => False) A5 V1.heap.size 3 v ks := HO5.out.keep IntR.good (kA5.keeps (fun k hk e => by
          rcases hk with hk | hk
          · exact hk
          · exact hOn (by rw [← e]; exact hk)))
        have HO6 := Lib.hid hO6
        have hy6 : Blk A5 (gh + 1) 104 #[.pointer (some ⟨gh, 0, none⟩)] := (kA5.block _ HY5.out.lt (by omega)).trans HY5.out
        have HON := Lib.hid hOn
        have hno : v.ownBlock ≠ some (gh + 1) := fun e => by
          obtain ⟨_, cells, ho, _⟩ := HO6.out
          rcases ho.2 with ⟨e1, _⟩ | ⟨g9, cap, cur, e1, e2, _⟩
          · rw [e1] at e; simp [Value.ownBlock] at e
          · rw [e1] at e; simp [Value.ownBlock] at e; omega
        have getk8 : ∀ {W : World}, Kept (fun k => v.ownBlock = some k) A5 W → W.cell? ⟨gh + 1, 0, none⟩ = some (.pointer (some ⟨gh, 0, none⟩)) := fun hC => hC.cell (hy6.cell 0) (fun h => hno h)
        have hkl7 : ks.length ≤ 200 := by rw [← HKS.out]; exact Nat.le_trans (List.length_filter_le _ _) (by rw [List.length_take, rangeZ_len, h1, h2]; have := HKL.out; omega)
        obtain ⟨iI, hiI, hzI0, hzI1, hzI2⟩ := info_parts infoI7
        clear hO6 y5 yl5 HLD2 hS5
        have AS := Lib.hid (appE_stab V1.heap.size A5.heap.size gh v x ks)
        refine wpIn_region_invs (F := Fence.wide.inRound l') (r := some l') rfl (fun ls vs ww => AppI V1.heap.size A5 (appE V1.heap.size A5.heap.size gh v x ks) gh (shopC klo khi Ad n ca C q cc (sizeF s l (ks ++ [x])) v) v ks ls vs ww) 10 (by kernel_rfl) (by kernel_rfl) (by kernel_rfl) (by rfl) ⟨Kept.drew _ _, HS6.out.drew, fun _ => HO6.out.keep IntR.good (Keeps.drew _), fun i h => by cases h⟩ ?step (by rfl) (by rfl) ?fin
        case step =>
          refine StepsI.cons ?_ (StepsI.cons ?_ (StepsI.cons ?_ (StepsI.cons ?_ (StepsI.cons ?_ (StepsI.cons ?_ (StepsI.cons ?_ (StepsI.cons ?_ (StepsI.cons ?_ (StepsI.cons ?_ StepsI.nil)))))))))
          all_goals
            refine StepI.of ?_
            intro ls vs W K hI hl hw hU hK
            simp only [fillA, Act.put, List.setIfInBounds_toArray, List.set_cons_zero, List.set_cons_succ, Nat.zero_add, Nat.reduceAdd] at hK ⊢
            simp [waits, Region.binds] at hw
            have hC := hI.kp
          · have k8 := getk8 hC
            go_simp
            exact hK _ _ (hI.step AS.out (Below.refl _ _) (by decide) rfl)
          · have k8 := getk8 hC
            go_simp
            exact hK _ _ (hI.step AS.out (Below.refl _ _) (by decide) rfl)
          · have q1 : vs 1 = _ := hI.all 1 (by simp [hw])
            simp only [q1] at hK ⊢
            go_simp
            exact hK _ _ (hI.step AS.out (Below.refl _ _) (by decide) rfl)
          · have q2 : vs 2 = _ := hI.all 2 (by simp [hw])
            simp only [q2] at hK ⊢
            go_simp
            exact hK _ _ (hI.step AS.out (Below.refl _ _) (by decide) rfl)
          · have q3 : vs 3 = _ := hI.all 3 (by simp [hw])
            simp only [q3] at hK ⊢
            have z68 : W.cell? ⟨gh, 68, none⟩ = some v := (hI.blk.cell 68).trans shopC_68
            go_simp
            exact hK _ _ (hI.step AS.out (Below.refl _ _) (by decide) rfl)
          · go_simp
            exact hK _ _ (hI.step AS.out (Below.refl _ _) (by decide) rfl)
          · have q5 : vs 5 = _ := hI.all 5 (by simp [hw])
            simp only [q5] at hK ⊢
            go_simp
            exact hK _ _ (hI.step AS.out (bl_alloc (Below.refl _ _) _ (Nat.le_refl _)) (by decide) (.inr ⟨_, rfl, Blk.new _ _ _ rfl⟩))
          · have hO3 := hI.own hl
            have q4 : vs 4 = _ := hI.all 4 (by simp [hw])
            obtain ⟨g9, hv9, hB9⟩ := (hI.all 6 (by simp [hw])).resolve_left (by rw [hl]; decide)
            simp only [q4, hv9] at hK ⊢
            rw [if_pos (by rfl)]
            obtain ⟨A4, c4, w9, hrun, hO4, hg4, hat4⟩ := run_append_one W 30 30 IntR.good V1.heap.size 3 iI _ 8 Tryz.underlying30 hiI hzI0 hzI1 hzI2 rfl (by omega) v ks x hO3 ⟨g9, 0, none⟩ 1 [.int .i64 x] rfl (fun j u hu => by
              have hadd : (⟨g9, 0, none⟩ : Addr).add j = ⟨g9, j, none⟩ := by unfold Addr.add; split <;> simp_all
              rw [hadd, hB9.cell]; simpa using hu) (by simp only [maxLen]; omega) (by omega) (by have := hC.size; omega) (fun h => h)
            refine wp_append_of_run rfl rfl rfl hrun ?_
            have hkg : Kept (fun k => v.ownBlock = some k) W w9 := Kept.grown hg4 (fun k h => h)
            refine hK _ _ ⟨hC.trans hkg, (hkg.block _ hI.blk.lt (fun h => HON.out h)).trans hI.blk, (fun h8 => by unfold updB at h8; rw [if_pos rfl] at h8; cases h8), fun i2 hi2 => ?_⟩
            have hb8 : updB ls 7 7 = true := by unfold updB; rw [if_pos rfl]
            rw [hb8]
            match i2, hi2 with
            | 0, hi => exact hI.all 0 hi
            | 1, hi => exact hI.all 1 hi
            | 2, hi => exact hI.all 2 hi
            | 3, hi => exact hI.all 3 hi
            | 4, hi => exact hI.all 4 hi
            | 5, hi => exact hI.all 5 hi
            | 8, hi => exact hI.all 8 hi
            | 9, hi => exact hI.all 9 hi
            | 6, _ => exact .inl rfl
            | 7, _ => exact ⟨A4, c4, rfl, hO4, hat4.imp id (fun e => by have := hC.size; omega)⟩
            | _ + 10, _ => trivial
          · have q0 : vs 0 = _ := hI.all 0 (by simp [hw])
            simp only [q0] at hK ⊢
            go_simp
            exact hK _ _ (hI.step AS.out (Below.refl _ _) (by decide) rfl)
          · have q8 : vs 8 = _ := hI.all 8 (by simp [hw])
            simp only [q8] at hK ⊢
            go_simp
            exact hK _ _ (hI.step AS.out (Below.refl _ _) (by decide) rfl)
        case fin =>
          intro ls vs W hI hl hU
          clear hU
          have hC := hI.kp
          have e9 : vs 9 = .pointer (some ⟨gh, 68, none⟩) := hI.all 9 (hl 9 (by decide))
          have e7 := hI.all 7 (hl 7 (by decide))
          simp only [fillA, Act.put, List.setIfInBounds_toArray, List.set_cons_zero, List.set_cons_succ, Nat.zero_add, Nat.reduceAdd, e9]
          obtain ⟨A7, c7, h7, hO7, hat7⟩ := e7
          rw [h7] at hO7 ⊢
          obtain ⟨u0, hu0⟩ : ∃ v0, vs 0 = v0 := ⟨_, rfl⟩
          obtain ⟨u1, hu1⟩ : ∃ v0, vs 1 = v0 := ⟨_, rfl⟩
          obtain ⟨u2, hu2⟩ : ∃ v0, vs 2 = v0 := ⟨_, rfl⟩
          obtain ⟨u3, hu3⟩ : ∃ v0, vs 3 = v0 := ⟨_, rfl⟩
          obtain ⟨u4, hu4⟩ : ∃ v0, vs 4 = v0 := ⟨_, rfl⟩
          obtain ⟨u5, hu5⟩ : ∃ v0, vs 5 = v0 := ⟨_, rfl⟩
          obtain ⟨u6, hu6⟩ : ∃ v0, vs 6 = v0 := ⟨_, rfl⟩
          rw [hu0, hu1, hu2, hu3, hu4, hu5, hu6]
          clear hu0 hu1 hu2 hu3 hu4 hu5 hu6
          obtain ⟨u8, hu8⟩ : ∃ v0, vs 8 = v0 := ⟨_, rfl⟩
          rw [hu8]
          clear hu8
          have hD := hI.blk
          clear h7 hI hl AS e9
          have z68 : W.cell? ⟨gh, 68, none⟩ = some v := (hD.cell 68).trans shopC_68
          have fz := hD.frozen 68
          have hlz := hD.lt
          obtain ⟨U1, hU1⟩ : ∃ U, W.setCell ⟨gh, 68, none⟩ (.slice (some ⟨A7, 0, none⟩) (ks.length + 1) c7) = U := ⟨_, rfl⟩
          have D4 : Blk U1 gh 114 (shopC klo khi Ad n ca C q cc (sizeF s l (ks ++ [x])) (.slice (some ⟨A7, 0, none⟩) (ks.length + 1) c7)) := by rw [← hU1, ← shopC_set (v := v)]; exact hD.set_ 68 _
          have hA7 : A7 ≠ gh := fun e => hat7.elim (fun h => HON.out (e ▸ h)) (fun h => by omega)
          have hO8 : OwnL IntR 1 (fun _ => False) U1 V1.heap.size 3 (.slice (some ⟨A7, 0, none⟩) (ks.length + 1) c7) (ks ++ [x]) := by
            rw [← hU1]
            exact hO7.keep IntR.good (Keeps.setCell _ _ _ (fun hh => by
              rcases hh with hh | hh
              · exact hh
              · exact hA7 (by simpa [Value.ownBlock] using hh)))
          have kU : Kept O A2 U1 := by
            rw [← hU1]
            have k5 : Kept (fun k => k = gh) A2 A5 := (HK1.out.mono (fun _ _ h => h.elim)).trans kA5
            exact ((k5.mono (fun k _ h => (hOi k).2 (.inl h))).trans (hC.mono (fun k _ h => (hOi k).2 (.inr h)))).trans (Kept.setCell _ _ _ ((hOi gh).2 (.inl rfl)))
          have hs25 : A2.heap.size ≤ A5.heap.size := by omega
          have HU := Lib.hid (⟨D4, hO8, kU⟩ : _ ∧ _ ∧ _)
          clear D4 hO8 kU hO7 hD
          go_simp
          gi_wp2_with fail
          refine ⟨HU.out.2.2, fun k => k = gh ∨ (Value.slice (some ⟨A7, 0, none⟩) (ks.length + 1) c7).ownBlock = some k, fun k hk => ?_, ⟨_, ?_, ?_, fun k => Iff.rfl, ?_, fun e => ?_⟩⟩
          · rcases hk with hk | hk
            · exact .inl ((hOi k).2 (.inl hk))
            · have e : A7 = k := by simpa [Value.ownBlock] using hk
              subst e
              rcases hat7 with h | h
              · exact .inl ((hOi _).2 (.inr h))
              · refine .inr ⟨by omega, ?_⟩
                obtain ⟨_, cells, ho, _⟩ := HU.out.2.1
                have := (ownK_blk HU.out.2.1 (k := A7) rfl)
                exact this.elim fun cur hc => (Blk.lt hc)
          · rw [HKN.out]; exact HU.out.1
          · rw [HKN.out]; exact HU.out.2.1
          · simpa [Value.ownBlock] using hA7
          · rw [HKN.out] at e; simp at e
    case done =>
      rintro O W' D ⟨v, hS, hO, hOi, hOn, hOz⟩ hOs hK hD hnD hDb
      have hkn : knownK s l (rangeZ klo khi).length = known7 s l := by rw [knownK, ← h1, ← h2, List.take_length]; rfl
      rw [hkn] at hS hO hOz
      have hy : Blk W' (gh + 1) 104 #[.pointer (some ⟨gh, 0, none⟩)] := (hK.block _ p2.lt (by omega)).trans p2
      have y0 := hy.cell 0
      have yl := hy.lt
      have hDg : D ≠ gh := fun e => hnD ((hOi D).2 (.inl e))
      have hDo : v.ownBlock ≠ some D := fun e => hnD ((hOi D).2 (.inr e))
      have hDV : V1.heap.size ≤ D := hD
      clear hkn hy
      gi_wp2_with fail
      clear y0 yl
      simp only [Exit.noGoto]
      refine ⟨by simp, .inl ⟨_, _, rfl, run_takeDeferred hDb, ?_⟩⟩
      have kD : Kept (fun k => k = D) W' (W'.putObj D (.deferred none)) := Kept.putObj _ _ _ rfl
      have hbW : Below W.heap.size W (W'.putObj D (.deferred none)) := KW (hK.trans (kD.mono fun k _ h => .inr (h ▸ hDV))) (fun k h => by omega)
      have hO2 : OwnL IntR 1 (fun _ => False) (W'.putObj D (.deferred none)) V1.heap.size 3 v (known7 s l) := hO.keep IntR.good (kD.keeps (fun k hk e => by
        rcases hk with hk | hk
        · exact hk
        · exact hDo (by rw [← e]; exact hk)))
      have hS2 : Blk (W'.putObj D (.deferred none)) gh 114 (shopC klo khi Ad n ca C q cc (sizeF s l (known7 s l)) v) := (kD.block _ hS.lt (fun e => hDg e.symm)).trans hS
      have hbw : Below w.heap.size w (W'.putObj D (.deferred none)) := HBW.out.trans (hbW.mono HBW.out.size)
      refine ⟨_, results_tmp2 rfl _ _ _, hbw, some ⟨gh, 0, none⟩, by rw [HE.out]; rfl, fun _ => ⟨gh, rfl, ?_, hc.keep MouldR.good (Keeps.below hbW)⟩⟩
      have hkl7 : (known7 s l).length ≤ maxLen := by
        have : (known7 s l).length ≤ (shrinkL s).length := List.length_filter_le _ _
        have h3 : (shrinkL s).length = (khi - klo + 1).toNat := by unfold shrinkL; rw [List.length_map, List.length_range, h1, h2]
        have := HKL.out
        simp only [maxLen]; omega
      obtain ⟨_, cells, ho, _⟩ := id hO2
      rcases ho.2 with ⟨e1, e2⟩ | ⟨g9, cap, cur, e1, _⟩
      · have hnil : known7 s l = [] := List.eq_nil_of_length_eq_zero e2
        refine ⟨none, 0, ?_, ?_, fun _ => ⟨rfl, rfl⟩, fun h => absurd hnil h⟩
        · rw [e2, h1, h2, ← e1]; exact hS2
        · rw [hnil]; exact ⟨rfl, Nat.zero_le _, fun k x hx => by simp at hx⟩
      · refine ⟨some ⟨g9, 0, none⟩, cap, ?_, ?_, fun h => ?_, fun _ => ⟨g9, rfl⟩⟩
        · rw [h1, h2, ← e1]; exact hS2
        · exact hO2.slice IntR.good e1 hkl7 (fun _ h => h.elim) (fun _ _ _ => trivial)
        · rw [hOz h] at e1; injection e1 with e1; cases e1
    case stop => intro cd O W' D h; exact h.elim
  · have heb : ((seen7 s l).2 != 0) = true := by simpa using he
    gi_wp2_with fail
    simp only [Exit.noGoto]
    have hbw : Below w.heap.size w W1 := HBW.out.trans (b1.mono HBW.out.size)
    exact ⟨_, results_tmp2 rfl _ _ _, hbw, none, rfl, fun h => absurd h he⟩
end Go.Proofs.YtpdldmichpmgmaaGreat
