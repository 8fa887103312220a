/- Plain: the law TileOrder. Nothing of a program stands here. -/
import Derived.Test.YtnaadjhiahjlfaaCTOuts6
import Derived.Test.YtnaadjhiahjlfaaCTTurP
set_option linter.unusedVariables false
set_option linter.unusedSimpArgs false
set_option linter.all false
namespace Go.Proofs.Ytnaadjhiahjlfaa

/-- what is seen is told in another order, or twice -/
theorem order_twos {h : Hall} {s l : List Seen} (hm : ∀ y, y ∈ s ↔ y ∈ l) (t : Nat) : twosL h s t = twosL h l t := by
  unfold twosL twosK
  refine List.filter_congr fun p _ => ?_
  unfold twoOk
  rw [Bool.eq_iff_iff, List.all_eq_true, List.all_eq_true]
  exact ⟨fun hh y hy => hh y ((hm y).2 hy), fun hh y hy => hh y ((hm y).1 hy)⟩
theorem order_wide {h : Hall} {s l : List Seen} (hm : ∀ y, y ∈ s ↔ y ∈ l) (t : Nat) (a : Int) : wide8 h s t a = wide8 h l t a := by
  unfold wide8; rw [order_twos hm]
theorem order_agree {h : Hall} {s l : List Seen} (hm : ∀ y, y ∈ s ↔ y ∈ l) : agree8 h s = agree8 h l := by
  unfold agree8
  simp only [order_twos hm]
theorem order_gap {h : Hall} {s l : List Seen} (hm : ∀ y, y ∈ s ↔ y ∈ l) (row : Nat) (tl : List Int) : gap8 h s row tl = gap8 h l row tl := by
  have hat : ∀ a, at8 h s row tl a = at8 h l row tl a := fun a => by
    unfold at8 atUpto
    simp only [order_wide hm]
  unfold gap8
  generalize (h.ahi - h.alo).toNat = k
  induction k with
  | zero => exact hat _
  | succ k ih => rw [gapUpto, gapUpto, ih, hat]
theorem order_best {h : Hall} {s l : List Seen} (hm : ∀ y, y ∈ s ↔ y ∈ l) : ∀ (k : Nat) (left : List Int) (b : Int), bestR h s k left b = bestR h l k left b := by
  intro k
  induction k with
  | zero => intro left b; rfl
  | succ k ih => intro left b; rw [bestR, bestR]; simp only [order_gap hm, ih]
theorem order_seen {h : Hall} {s l : List Seen} (hm : ∀ y, y ∈ s ↔ y ∈ l) (hs : s.length ≤ 6) (e : (seen8 h l).2 = 0) : (seen8 h s).2 = 0 := by
  obtain ⟨s1, s2, s3⟩ := seen_zero e
  unfold seen8
  rw [if_neg (show ¬ err8 h ≠ 0 by unfold err8; rw [s1]; decide), if_neg (show ¬ 6 < s.length by omega)]
  rw [firstErr_none (fun k hk => ?_)]
  have hy : s[k] ∈ l := (hm _).1 (List.getElem_mem hk)
  obtain ⟨j, hj, hjy⟩ := List.getElem_of_mem hy
  have h1 := s3 j hj
  unfold seenE at h1 ⊢
  have g1 : l.getD j dSeen = s[k] := by rw [List.getD_eq_getElem?_getD, List.getElem?_eq_getElem hj, Option.getD_some, hjy]
  have g2 : s.getD k dSeen = s[k] := by rw [List.getD_eq_getElem?_getD, List.getElem?_eq_getElem hk, Option.getD_some]
  rw [g1] at h1
  rw [g2]
  exact h1
theorem order_lay {h : Hall} {s l : List Seen} (hm : ∀ y, y ∈ s ↔ y ∈ l) (hs : s.length ≤ 6) (e : (seen8 h l).2 = 0) (ea : agree8 h l = true) : layR h s = layR h l := by
  have E1 : hallE h l = 0 := by unfold hallE; rw [if_neg (by simp [e]), if_neg (by rw [ea]; decide)]
  have E2 : hallE h s = 0 := by unfold hallE; rw [if_neg (by simp [order_seen hm hs e]), if_neg (by rw [order_agree hm, ea]; decide)]
  unfold layR
  rw [E1, E2, order_best hm]

/-- the list that the law makes: each one is put somewhere into those before it -/
def insK (xs : List Nat) (l : List Seen) : Nat → List Seen
  | 0 => []
  | i + 1 => (insK xs l i).take (turnL xs i % (i + 1)) ++ l.getD i dSeen :: (insK xs l i).drop (turnL xs i % (i + 1))
theorem insK_len (xs : List Nat) (l : List Seen) : ∀ i, (insK xs l i).length = i := by
  intro i
  induction i with
  | zero => rfl
  | succ i ih =>
    rw [insK, List.length_append, List.length_cons, List.length_take, List.length_drop, ih]
    have : turnL xs i % (i + 1) < i + 1 := Nat.mod_lt _ (by omega)
    omega
theorem insK_mem (xs : List Nat) (l : List Seen) : ∀ i, i ≤ l.length → ∀ y, y ∈ insK xs l i ↔ y ∈ l.take i := by
  intro i
  induction i with
  | zero => intro _ y; simp [insK]
  | succ i ih =>
    intro hi y
    have hx : l[i]? = some l[i] := List.getElem?_eq_getElem (by omega)
    have hg : l.getD i dSeen = l[i] := by rw [List.getD_eq_getElem?_getD, hx, Option.getD_some]
    have key : y ∈ (insK xs l i).take (turnL xs i % (i + 1)) ∨ y ∈ (insK xs l i).drop (turnL xs i % (i + 1)) ↔ y ∈ insK xs l i := by
      rw [← List.mem_append, List.take_append_drop]
    rw [insK, List.mem_append, List.mem_cons, hg, take_snoc_get hx, List.mem_append, List.mem_singleton, ← ih (by omega) y, ← key]
    constructor
    · rintro (h | h | h)
      · exact .inl (.inl h)
      · exact .inr h
      · exact .inl (.inr h)
    · rintro ((h | h) | h)
      · exact .inl h
      · exact .inr (.inr h)
      · exact .inr (.inl h)
/-- and one of them twice, if there is room -/
def seenR (xs : List Nat) (l : List Seen) : List Seen :=
  if 0 < l.length ∧ l.length < 6 then insK xs l l.length ++ [l.getD (turnL xs 1 % l.length) dSeen] else insK xs l l.length
theorem seenR_mem (xs : List Nat) (l : List Seen) : ∀ y, y ∈ seenR xs l ↔ y ∈ l := by
  intro y
  have h0 := insK_mem xs l l.length (Nat.le_refl _) y
  rw [List.take_length] at h0
  unfold seenR
  split
  · rename_i hl
    rw [List.mem_append, List.mem_singleton, h0]
    have hlt : turnL xs 1 % l.length < l.length := Nat.mod_lt _ hl.1
    constructor
    · rintro (h | h)
      · exact h
      · rw [h, List.getD_eq_getElem?_getD, List.getElem?_eq_getElem hlt, Option.getD_some]
        exact List.getElem_mem hlt
    · exact .inl
  · exact h0
theorem seenR_len (xs : List Nat) (l : List Seen) (h : l.length ≤ 6) : (seenR xs l).length ≤ 6 := by
  unfold seenR
  split
  · rw [List.length_append, insK_len, List.length_singleton]; omega
  · rw [insK_len]; exact h

/-- the same hall with its rows in the other order -/
def turnH (h : Hall) : Hall := { h with rows := h.rows.reverse }
theorem turn_get {h : Hall} {k : Nat} (hk : k < h.rows.length) : (turnH h).rows.getD k dRow = h.rows.getD (h.rows.length - 1 - k) dRow := by
  unfold turnH
  rw [List.getD_eq_getElem?_getD, List.getD_eq_getElem?_getD, List.getElem?_reverse hk]
theorem places_append (a b : List RowT) : placesOf (a ++ b) = placesOf a + placesOf b := by unfold placesOf; rw [List.map_append, List.sum_append]
theorem places_nonneg {l : List RowT} (h : ∀ x ∈ l, 0 ≤ x.places) : 0 ≤ placesOf l := by
  induction l with
  | nil => exact Int.le_refl _
  | cons x l ih =>
    have := h x List.mem_cons_self
    have h2 := ih fun y hy => h y (List.mem_cons_of_mem _ hy)
    have h3 : placesOf (x :: l) = x.places + placesOf l := by unfold placesOf; rw [List.map_cons, List.sum_cons]
    omega
theorem places_reverse (l : List RowT) : placesOf l.reverse = placesOf l := by
  induction l with
  | nil => rfl
  | cons x l ih =>
    rw [List.reverse_cons, places_append, ih]
    have h3 : placesOf (x :: l) = x.places + placesOf l := by unfold placesOf; rw [List.map_cons, List.sum_cons]
    have h4 : placesOf [x] = x.places := by unfold placesOf; simp
    omega
theorem turn_check {h : Hall} (e : (check8 h).2.2 = 0) : (check8 (turnH h)).2.2 = 0 := by
  have hk := okH_of e
  have hm := hk.most
  have hnt := hk.nt
  have hnr := hk.nr
  have hair := hk.air
  have hlen : (turnH h).rows.length = h.rows.length := by unfold turnH; simp
  have hrow : ∀ k, k < h.rows.length → ∃ x, h.rows[k]? = some x ∧ h.rows.getD k dRow = x ∧ 0 ≤ x.frame ∧ x.frame ≤ 200000 ∧ 0 ≤ x.swell ∧ x.swell ≤ 160 ∧ 1 ≤ x.places ∧ x.places ≤ h.tiles.length ∧ placesOf (h.rows.take k) + x.places ≤ h.tiles.length := fun k hk' => by
    have hx : h.rows[k]? = some ⟨(h.rows[k]).frame, (h.rows[k]).swell, (h.rows[k]).places⟩ := List.getElem?_eq_getElem hk'
    have hre := hk.row hk'
    obtain ⟨f1, f2, f3, f4, f5, f6⟩ := rowE_zero hx hre
    refine ⟨_, hx, getD_of hx, f1, f2, f3, f4, f5, f6, ?_⟩
    unfold rowE at hre
    rw [getD_of hx] at hre
    dsimp only at hre
    have p1 : inB (h.rows[k]).frame 0 200000 = true := by simp [inB]; omega
    have p2 : inB (h.rows[k]).swell 0 160 = true := by simp [inB]; omega
    have p3 : inB (h.rows[k]).places 1 h.tiles.length = true := by simp [inB]; omega
    rw [p1, p2, p3, if_neg (by decide)] at hre
    split at hre
    · cases hre
    · dsimp only; omega
  have htot : placesOf h.rows ≤ h.tiles.length := by
    obtain ⟨x, hx, _, _, _, _, _, _, _, hp⟩ := hrow (h.rows.length - 1) (by omega)
    have h1 : h.rows.take (h.rows.length - 1 + 1) = h.rows.take (h.rows.length - 1) ++ [x] := take_snoc_get hx
    rw [show h.rows.length - 1 + 1 = h.rows.length by omega, List.take_length] at h1
    have h4 : placesOf [x] = x.places := by unfold placesOf; simp
    rw [h1, places_append, h4]
    exact hp
  have hnn : ∀ x ∈ h.rows, 0 ≤ x.places := fun x hx => by
    obtain ⟨k, hk', rfl⟩ := List.getElem_of_mem hx
    obtain ⟨y, hy, _, _, _, _, _, h5, _⟩ := hrow k hk'
    rw [List.getElem?_eq_getElem hk'] at hy
    injection hy with hy
    rw [hy]; omega
  unfold check8
  have q1 : inB h.alo 0 40 = true := by simp [inB]; omega
  have q4 : inB h.ahi 0 40 = true := by simp [inB]; omega
  have q2 : inB h.most 0 20000 = true := by simp [inB]; omega
  have q3 : inB h.ahi h.alo (h.alo + 12) = true := by simp [inB]; omega
  have c1 : ¬ (!inB (turnH h).alo 0 40 || !inB (turnH h).ahi 0 40 || !inB (turnH h).most 0 20000) = true := by
    show ¬ (!inB h.alo 0 40 || !inB h.ahi 0 40 || !inB h.most 0 20000) = true
    rw [q1, q4, q2]; decide
  have c2 : ¬ (!inB (turnH h).ahi (turnH h).alo ((turnH h).alo + 12)) = true := by
    show ¬ (!inB h.ahi h.alo (h.alo + 12)) = true
    rw [q3]; decide
  have c3 : ¬ (¬ (1 ≤ (turnH h).tiles.length ∧ (turnH h).tiles.length ≤ 8) ∨ ¬ (1 ≤ (turnH h).rows.length ∧ (turnH h).rows.length ≤ 3)) := by
    rw [hlen]
    show ¬ (¬ (1 ≤ h.tiles.length ∧ h.tiles.length ≤ 8) ∨ ¬ (1 ≤ h.rows.length ∧ h.rows.length ≤ 3))
    omega
  rw [if_neg c1, if_neg c2, if_neg c3]
  have h1' : firstErr (tileE (turnH h).tiles) (turnH h).tiles.length = none := firstErr_none fun k hk' => hk.tile hk'
  have h2' : firstErr (rowE (turnH h).tiles.length (turnH h).rows) (turnH h).rows.length = none := firstErr_none fun k hk' => by
    rw [hlen] at hk'
    obtain ⟨x, hx, hg, f1, f2, f3, f4, f5, f6, _⟩ := hrow (h.rows.length - 1 - k) (by omega)
    have hxr : (turnH h).rows[k]? = some x := by unfold turnH; rw [List.getElem?_reverse hk']; exact hx
    have hsum : placesOf ((turnH h).rows.take k) + x.places ≤ h.tiles.length := by
      have t1 : (turnH h).rows.take (k + 1) = (turnH h).rows.take k ++ [x] := take_snoc_get hxr
      have t2 : placesOf ((turnH h).rows.take (k + 1)) + placesOf ((turnH h).rows.drop (k + 1)) = placesOf h.rows := by
        rw [← places_append, List.take_append_drop]
        show placesOf h.rows.reverse = _
        exact places_reverse _
      have t3 : 0 ≤ placesOf ((turnH h).rows.drop (k + 1)) := places_nonneg fun y hy => hnn y (by
        have := List.mem_of_mem_drop hy
        unfold turnH at this
        exact List.mem_reverse.1 this)
      have h4 : placesOf [x] = x.places := by unfold placesOf; simp
      rw [t1, places_append, h4] at t2
      omega
    unfold rowE
    rw [turn_get hk', hg]
    have p1 : inB x.frame 0 200000 = true := by simp [inB]; omega
    have p2 : inB x.swell 0 160 = true := by simp [inB]; omega
    have p3 : inB x.places 1 ((turnH h).tiles.length : Int) = true := by
      show inB x.places 1 (h.tiles.length : Int) = true
      simp [inB]; omega
    dsimp only
    rw [p1, p2, p3, if_neg (by decide), if_neg (by
      show ¬ (h.tiles.length : Int) < placesOf ((turnH h).rows.take k) + x.places
      omega)]
  rw [h1', h2']
theorem turn_seen {h : Hall} {l : List Seen} (e : (seen8 h l).2 = 0) : (seen8 (turnH h) l).2 = 0 := by
  obtain ⟨s1, s2, s3⟩ := seen_zero e
  unfold seen8
  rw [if_neg (show ¬ err8 (turnH h) ≠ 0 by unfold err8; rw [turn_check s1]; decide), if_neg (show ¬ 6 < l.length by omega)]
  rw [show (turnH h).tiles.length = h.tiles.length from rfl, firstErr_none (fun k hk => s3 k hk)]
theorem turn_gap {h : Hall} {l : List Seen} {k : Nat} {tl : List Int} (hk : k < h.rows.length) : gap8 (turnH h) l k tl = gap8 h l (h.rows.length - 1 - k) tl := by
  have hat : ∀ a, at8 (turnH h) l k tl a = at8 h l (h.rows.length - 1 - k) tl a := fun a => by
    unfold at8 atUpto
    rw [turn_get hk]
    rfl
  unfold gap8
  show gapUpto (turnH h) l k tl (h.ahi - h.alo).toNat = _
  generalize (h.ahi - h.alo).toNat = j
  induction j with
  | zero => exact hat _
  | succ j ih => rw [gapUpto, gapUpto, ih]; rw [show (turnH h).alo = h.alo from rfl, hat]

/-- what a laying is, with no order of its rows -/
def LayP (h : Hall) (l : List Seen) (rows : List (List Int)) (r : Nat) (used : List Int) (most g : Int) : Prop :=
  (∀ (k : Nat) (x : List Int), rows[k]? = some x → tilesE h.tiles.length (h.rows.getD (r + k) dRow).places x = 0 ∧ wrong8 h.most (gap8 h l (r + k) x) = 0 ∧ (∀ i ∈ x, i ∉ used) ∧ (gap8 h l (r + k) x).2 ≤ g) ∧
  (∀ (a b : Nat) (x y : List Int), a < b → rows[a]? = some x → rows[b]? = some y → ∀ i ∈ x, i ∉ y) ∧ most ≤ g ∧ (g = most ∨ ∃ (k : Nat) (x : List Int), rows[k]? = some x ∧ g = (gap8 h l (r + k) x).2)
theorem laying_iff {h : Hall} {l : List Seen} : ∀ (rows : List (List Int)) (r : Nat) (used : List Int) (most g : Int), layingR h l rows r used most = some g ↔ LayP h l rows r used most g := by
  intro rows
  induction rows with
  | nil =>
    intro r used most g
    rw [layingR]
    constructor
    · intro e
      injection e with e
      subst e
      exact ⟨fun k x hx => by simp at hx, fun a b x y _ hx => by simp at hx, Int.le_refl _, .inl rfl⟩
    · rintro ⟨_, _, _, h1 | ⟨k, x, hx, _⟩⟩
      · rw [h1]
      · simp at hx
  | cons x rows ih =>
    intro r used most g
    have hsh : ∀ k, r + (k + 1) = r + 1 + k := fun k => by omega
    constructor
    · intro e
      rw [layingR] at e
      split at e
      · cases e
      · rename_i e1
        split at e
        · cases e
        · rename_i e2
          split at e
          · cases e
          · rename_i e3
            have e1 : tilesE h.tiles.length (h.rows.getD r dRow).places x = 0 := Classical.byContradiction e1
            have e3 : wrong8 h.most (gap8 h l r x) = 0 := Classical.byContradiction e3
            have e2 : ∀ i ∈ x, i ∉ used := fun i hi hu => e2 (List.any_eq_true.2 ⟨i, hi, by simpa using hu⟩)
            obtain ⟨p1, p2, p3, p4⟩ := (ih (r + 1) (used ++ x) _ g).1 e
            refine ⟨fun k y hy => ?_, fun a b y z hab hy hz => ?_, by omega, ?_⟩
            · cases k with
              | zero =>
                simp at hy; subst hy
                exact ⟨e1, e3, e2, by rw [Nat.add_zero]; omega⟩
              | succ k =>
                obtain ⟨q1, q2, q3, q4⟩ := p1 k y (by simpa using hy)
                rw [hsh]
                exact ⟨q1, q2, fun i hi hu => q3 i hi (List.mem_append_left _ hu), q4⟩
            · cases b with
              | zero => omega
              | succ b =>
                cases a with
                | zero =>
                  simp at hy; subst hy
                  obtain ⟨_, _, q3, _⟩ := p1 b z (by simpa using hz)
                  exact fun i hi hz' => q3 i hz' (List.mem_append_right _ hi)
                | succ a => exact p2 a b y z (by omega) (by simpa using hy) (by simpa using hz)
            · rcases p4 with h1 | ⟨k, y, hy, h1⟩
              · rcases Int.le_total most (gap8 h l r x).2 with h2 | h2
                · exact .inr ⟨0, x, rfl, by rw [Nat.add_zero]; omega⟩
                · exact .inl (by omega)
              · exact .inr ⟨k + 1, y, by simpa using hy, by rw [hsh]; exact h1⟩
    · rintro ⟨p1, p2, p3, p4⟩
      obtain ⟨q1, q2, q3, q4⟩ := p1 0 x rfl
      rw [Nat.add_zero] at q1 q2 q4
      rw [layingR, if_neg (fun hh => hh q1), if_neg (by
        rw [Bool.not_eq_true, List.any_eq_false]
        intro i hi
        simpa using q3 i hi), if_neg (fun hh => hh q2)]
      refine (ih (r + 1) (used ++ x) _ g).2 ⟨fun k y hy => ?_, fun a b y z hab hy hz => p2 (a + 1) (b + 1) y z (by omega) (by simpa using hy) (by simpa using hz), by omega, ?_⟩
      · obtain ⟨w1, w2, w3, w4⟩ := p1 (k + 1) y (by simpa using hy)
        rw [hsh] at w1 w2 w4
        refine ⟨w1, w2, fun i hi hu => ?_, w4⟩
        rcases List.mem_append.1 hu with hu | hu
        · exact w3 i hi hu
        · exact p2 0 (k + 1) x y (by omega) rfl (by simpa using hy) i hu hi
      · rcases p4 with h1 | ⟨k, y, hy, h1⟩
        · exact .inl (by omega)
        · cases k with
          | zero => simp at hy; subst hy; rw [Nat.add_zero] at h1; exact .inl (by omega)
          | succ k => exact .inr ⟨k, y, by simpa using hy, by rw [← hsh]; exact h1⟩
theorem turn_laying {h : Hall} {l : List Seen} {rows : List (List Int)} {g : Int} (hl : rows.length = h.rows.length) (e : layingR h l rows 0 [] 0 = some g) : layingR (turnH h) l rows.reverse 0 [] 0 = some g := by
  obtain ⟨p1, p2, p3, p4⟩ := (laying_iff rows 0 [] 0 g).1 e
  have hr : ∀ k x, rows.reverse[k]? = some x → k < h.rows.length ∧ rows[h.rows.length - 1 - k]? = some x := fun k x hx => by
    have hk : k < rows.length := by have := (List.getElem?_eq_some_iff.1 hx).1; simpa using this
    rw [List.getElem?_reverse hk, hl] at hx
    exact ⟨by omega, hx⟩
  refine (laying_iff _ 0 [] 0 g).2 ⟨fun k x hx => ?_, fun a b x y hab hx hy i hi hiy => ?_, p3, ?_⟩
  · obtain ⟨hk, hx⟩ := hr k x hx
    obtain ⟨q1, q2, q3, q4⟩ := p1 _ x hx
    rw [Nat.zero_add] at q1 q2 q4
    rw [Nat.zero_add, turn_get hk, turn_gap hk]
    exact ⟨q1, q2, q3, q4⟩
  · obtain ⟨ha, hx⟩ := hr a x hx
    obtain ⟨hb, hy⟩ := hr b y hy
    exact p2 _ _ y x (by omega) hy hx i hiy hi
  · rcases p4 with h1 | ⟨k, x, hx, h1⟩
    · exact .inl h1
    · have hk : k < rows.length := (List.getElem?_eq_some_iff.1 hx).1
      refine .inr ⟨h.rows.length - 1 - k, x, ?_, ?_⟩
      · rw [List.getElem?_reverse (by omega), hl, show h.rows.length - 1 - (h.rows.length - 1 - k) = k by omega]; exact hx
      · rw [Nat.zero_add] at h1 ⊢
        rw [turn_gap (by omega), show h.rows.length - 1 - (h.rows.length - 1 - k) = k by omega]
        exact h1
theorem turn_turn (h : Hall) : turnH (turnH h) = h := by unfold turnH; simp
theorem turnT {h : Hall} {l : List Seen} {rows : List (List Int)} {g : Int} (e : layingT h l rows = (g, true)) : layingT (turnH h) l rows.reverse = (g, true) := by
  unfold layingT at e
  split at e
  · injection e with _ e; cases e
  · rename_i hl
    have hl : rows.length = h.rows.length := Classical.byContradiction hl
    split at e
    · injection e with _ e; cases e
    · rename_i g' hg
      injection e with e _
      subst e
      have := turn_laying hl hg
      unfold layingT
      rw [if_neg (fun hh => hh (by rw [List.length_reverse, hl]; unfold turnH; simp)), this]
/-- the least gap is the same for rows in the other order -/
theorem turn_lay {h : Hall} {l : List Seen} (e : (seen8 h l).2 = 0) (ea : agree8 h l = true) : (layR (turnH h) l).2.1 = (layR h l).2.1 ∧ (layR (turnH h) l).2.2 = (layR h l).2.2 := by
  have e' := turn_seen e
  have ea' : agree8 (turnH h) l = true := ea
  rcases laid_pack e ea with ⟨q1, _, q3⟩ | ⟨rows, g, q1, _, q3, q4⟩
  · rcases laid_pack e' ea' with ⟨w1, _, _⟩ | ⟨rows', g', w1, _, w3, _⟩
    · rw [q1, w1]; exact ⟨rfl, rfl⟩
    · have := turnT w3
      rw [turn_turn] at this
      have h2 := q3 rows'.reverse
      rw [this] at h2
      cases h2
  · rcases laid_pack e' ea' with ⟨w1, _, w3⟩ | ⟨rows', g', w1, _, w3, w4⟩
    · have h2 := w3 rows.reverse
      rw [turnT q3] at h2
      cases h2
    · have h1 := turnT w3
      rw [turn_turn] at h1
      have h2 := q4 rows'.reverse (by rw [h1])
      rw [h1] at h2
      have h3 := w4 rows.reverse (by rw [turnT q3])
      rw [turnT q3] at h3
      rw [q1, w1]
      dsimp only at h2 h3 ⊢
      exact ⟨by omega, rfl⟩

end Go.Proofs.Ytnaadjhiahjlfaa
