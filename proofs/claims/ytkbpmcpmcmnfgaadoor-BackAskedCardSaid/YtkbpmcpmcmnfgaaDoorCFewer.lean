/- Layer 12, plain: a claim of which some causes are kept; the least sets. Nothing of a program stands here. -/
import Derived.Test.YtkbpmcpmcmnfgaaDoorCLaws
import Derived.Test.YtkbpmcpmcmnfgaaDoorCPlain
set_option linter.unusedVariables false
set_option linter.unusedSimpArgs false
set_option linter.all false
namespace Go.Proofs.YtkbpmcpmcmnfgaaDoor

/-- the causes of a list, of the first k -/
def onlyK (cs : List Cause) (l : List Int) (k : Nat) : List Cause := ((List.range k).filter fun i : Nat => decide ((i : Int) ∈ l)).map fun i => cs.getD i dCause
def onlyC (c : Claim) (l : List Int) : Claim := { c with causes := onlyK c.causes l c.causes.length }
theorem onlyK_succ {cs : List Cause} {l : List Int} {k : Nat} {x : Cause} (h : cs[k]? = some x) : onlyK cs l (k + 1) = onlyK cs l k ++ if decide ((k : Int) ∈ l) then [x] else [] := by
  unfold onlyK
  rw [List.range_succ, List.filter_append, List.map_append]
  congr 1
  by_cases hk : (k : Int) ∈ l
  · simp [hk, h]
  · simp [hk]
theorem onlyK_len (cs : List Cause) (l : List Int) (k : Nat) : (onlyK cs l k).length ≤ k := by
  unfold onlyK
  rw [List.length_map]
  exact Nat.le_trans (List.length_filter_le _ _) (by simp)

/-- what a mask keeps -/
def keepM {α : Type} : List Bool → List α → List α
  | b :: bs, x :: xs => if b then x :: keepM bs xs else keepM bs xs
  | _, _ => []
def zeroOff : List Bool → List Int → Prop
  | b :: bs, v :: t => (b = false → v = 0) ∧ zeroOff bs t
  | _, _ => True
def maskL (l : List Int) (n : Nat) : List Bool := (List.range n).map fun i : Nat => decide ((i : Int) ∈ l)
theorem maskL_len (l : List Int) (n : Nat) : (maskL l n).length = n := by simp [maskL]
theorem keepM_snoc {α : Type} : ∀ (bs : List Bool) (xs : List α) (b : Bool) (x : α), bs.length = xs.length → keepM (bs ++ [b]) (xs ++ [x]) = keepM bs xs ++ if b then [x] else [] := by
  intro bs
  induction bs with
  | nil => intro xs b x h; cases xs with
    | nil => simp [keepM]
    | cons _ _ => simp at h
  | cons b0 bs ih => intro xs b x h; cases xs with
    | nil => simp at h
    | cons y xs =>
      simp only [List.cons_append, keepM]
      rw [ih xs b x (by simpa using h)]
      cases b0 <;> simp
theorem onlyK_mask {cs : List Cause} {l : List Int} : ∀ k, k ≤ cs.length → onlyK cs l k = keepM (maskL l k) (cs.take k) := by
  intro k
  induction k with
  | zero => intro _; simp [onlyK, maskL, keepM]
  | succ k ih =>
    intro hk
    have hx := List.getElem?_eq_getElem (show k < cs.length by omega)
    rw [onlyK_succ hx, ih (by omega), List.take_add_one, hx]
    have : maskL l (k + 1) = maskL l k ++ [decide ((k : Int) ∈ l)] := by simp [maskL, List.range_succ]
    rw [this]
    exact (keepM_snoc _ _ _ _ (by rw [maskL_len, List.length_take]; omega)).symm
theorem only_mask (c : Claim) (l : List Int) : (onlyC c l).causes = keepM (maskL l c.causes.length) c.causes := by
  unfold onlyC
  simp only
  rw [onlyK_mask _ (Nat.le_refl _), List.take_of_length_le (Nat.le_refl _)]

theorem vals_mem0 (x : Cause) : (0 : Int) ∈ vals x := List.mem_cons_self
theorem exts_cons {x : Cause} {l : List Cause} {t : List Int} : t ∈ exts (x :: l) ↔ ∃ v ∈ vals x, ∃ u ∈ exts l, t = v :: u := by
  rw [exts, List.mem_flatMap]
  constructor
  · rintro ⟨v, hv, h⟩
    obtain ⟨u, hu, rfl⟩ := List.mem_map.1 h
    exact ⟨v, hv, u, hu, rfl⟩
  · rintro ⟨v, hv, u, hu, rfl⟩
    exact ⟨v, hv, List.mem_map.2 ⟨u, hu, rfl⟩⟩
theorem exts_len_of : ∀ {l : List Cause} {t : List Int}, t ∈ exts l → t.length = l.length := by
  intro l
  induction l with
  | nil => intro t h; simp [exts] at h; subst h; rfl
  | cons x l ih =>
    intro t h
    obtain ⟨v, _, u, hu, rfl⟩ := exts_cons.1 h
    simp [ih hu]
theorem exts_keep : ∀ {cs : List Cause} {bs : List Bool} {t' : List Int}, bs.length = cs.length → (t' ∈ exts (keepM bs cs) ↔ ∃ t ∈ exts cs, zeroOff bs t ∧ keepM bs t = t') := by
  intro cs
  induction cs with
  | nil =>
    intro bs t' h
    cases bs with
    | cons _ _ => simp at h
    | nil =>
      simp only [keepM, exts, List.mem_singleton]
      constructor
      · rintro rfl; exact ⟨[], rfl, trivial, rfl⟩
      · rintro ⟨t, rfl, _, h⟩; exact h.symm
  | cons x cs ih =>
    intro bs t' h
    cases bs with
    | nil => simp at h
    | cons b bs =>
      have ih := fun t' => ih (bs := bs) (t' := t') (by simpa using h)
      cases b with
      | true =>
        simp only [keepM, if_true]
        rw [exts_cons]
        constructor
        · rintro ⟨v, hv, u, hu, rfl⟩
          obtain ⟨t, ht, hz, rfl⟩ := (ih u).1 hu
          exact ⟨v :: t, exts_cons.2 ⟨v, hv, t, ht, rfl⟩, ⟨fun h => (by cases h), hz⟩, rfl⟩
        · rintro ⟨t, ht, hz, he⟩
          obtain ⟨v, hv, u, hu, rfl⟩ := exts_cons.1 ht
          exact ⟨v, hv, keepM bs u, (ih _).2 ⟨u, hu, hz.2, rfl⟩, he.symm⟩
      | false =>
        simp only [keepM, Bool.false_eq_true, if_false]
        rw [ih]
        constructor
        · rintro ⟨t, ht, hz, rfl⟩
          exact ⟨0 :: t, exts_cons.2 ⟨0, vals_mem0 x, t, ht, rfl⟩, ⟨fun _ => rfl, hz⟩, rfl⟩
        · rintro ⟨t, ht, hz, he⟩
          obtain ⟨v, hv, u, hu, rfl⟩ := exts_cons.1 ht
          exact ⟨u, hu, hz.2, he⟩

/-- what the causes add to a feature -/
def dotF (f : Nat) : List Cause → List Int → Int
  | x :: cs, v :: t => v * x.per.getD f 0 + dotF f cs t
  | _, _ => 0
theorem dotF_snoc (f : Nat) : ∀ (cs : List Cause) (t : List Int) (x : Cause) (v : Int), t.length = cs.length → dotF f (cs ++ [x]) (t ++ [v]) = dotF f cs t + v * x.per.getD f 0 := by
  intro cs
  induction cs with
  | nil => intro t x v h; cases t with
    | nil => simp [dotF]
    | cons _ _ => simp at h
  | cons y cs ih => intro t x v h; cases t with
    | nil => simp at h
    | cons u t =>
      simp only [List.cons_append, dotF]
      rw [ih t x v (by simpa using h)]
      omega
theorem len_dot {c : Claim} {t : List Int} (h : t.length = c.causes.length) (f : Nat) : len c t f = (c.feats.getD f dFeat).nom + dotF f c.causes t := by
  have key : ∀ k, k ≤ t.length → lenUpto c t f k = (c.feats.getD f dFeat).nom + dotF f (c.causes.take k) (t.take k) := by
    intro k
    induction k with
    | zero => intro _; simp [lenUpto, dotF]
    | succ k ih =>
      intro hk
      have hx := List.getElem?_eq_getElem (show k < c.causes.length by omega)
      have hv := List.getElem?_eq_getElem (show k < t.length by omega)
      rw [lenUpto, ih (by omega), List.take_add_one, List.take_add_one, hx, hv]
      simp only [Option.toList_some]
      rw [dotF_snoc _ _ _ _ _ (by rw [List.length_take, List.length_take]; omega)]
      unfold perOf
      rw [getD_of hx, getD_of hv]
      omega
  unfold len
  rw [key _ (Nat.le_refl _), List.take_of_length_le (Nat.le_refl _), List.take_of_length_le (by omega)]
theorem dotF_keep (f : Nat) : ∀ {cs : List Cause} {bs : List Bool} {t : List Int}, bs.length = cs.length → t.length = cs.length → zeroOff bs t → dotF f (keepM bs cs) (keepM bs t) = dotF f cs t := by
  intro cs
  induction cs with
  | nil => intro bs t h1 h2 _; cases bs <;> cases t <;> simp_all [dotF, keepM]
  | cons x cs ih =>
    intro bs t h1 h2 hz
    cases bs with
    | nil => simp at h1
    | cons b bs => cases t with
      | nil => simp at h2
      | cons v t =>
        have := ih (bs := bs) (t := t) (by simpa using h1) (by simpa using h2) hz.2
        cases b with
        | true => simp only [keepM, if_true, dotF]; rw [this]
        | false => simp only [keepM, Bool.false_eq_true, if_false, dotF]; rw [this, hz.1 rfl]; omega
theorem keepM_len2 {α β : Type} : ∀ {bs : List Bool} {xs : List α} {ys : List β}, xs.length = ys.length → (keepM bs xs).length = (keepM bs ys).length := by
  intro bs
  induction bs with
  | nil => intro xs ys _; simp [keepM]
  | cons b bs ih =>
    intro xs ys h
    cases xs with
    | nil => cases ys with
      | nil => rfl
      | cons _ _ => simp at h
    | cons x xs => cases ys with
      | nil => simp at h
      | cons y ys =>
        have := ih (xs := xs) (ys := ys) (by simpa using h)
        cases b <;> simp [keepM, this]

theorem agree_mem {c : Claim} {t : List Int} : t ∈ agreeL c ↔ t ∈ exts c.causes ∧ ∀ x ∈ c.meas, measOk c t x = true := by
  unfold agreeL
  rw [List.mem_filter, allT_exts]
  refine and_congr_right fun _ => ?_
  unfold untrueL
  rw [List.isEmpty_iff, List.map_eq_nil_iff, List.filter_eq_nil_iff]
  constructor
  · intro h x hx
    obtain ⟨k, hk⟩ := List.getElem?_of_mem hx
    have hl : k < c.meas.length := by obtain ⟨h, _⟩ := List.getElem?_eq_some_iff.1 hk; exact h
    have := h k (List.mem_range.2 hl)
    rw [getD_of hk] at this
    simpa using this
  · intro h k hk
    have hl := List.mem_range.1 hk
    have hx := List.getElem?_eq_getElem hl
    rw [getD_of hx, h _ (List.getElem_mem hl)]
    simp
theorem measOk_congr {c d : Claim} {t u : List Int} (hf : d.feats = c.feats) (h : ∀ f, len d u f = len c t f) (x : Meas) : measOk d u x = measOk c t x := by
  unfold measOk; rw [hf, h]
theorem only_agree {c : Claim} {l t' : List Int} : t' ∈ agreeL (onlyC c l) ↔ ∃ t ∈ agreeL c, zeroOff (maskL l c.causes.length) t ∧ keepM (maskL l c.causes.length) t = t' := by
  have key : ∀ t, t.length = c.causes.length → zeroOff (maskL l c.causes.length) t → ∀ x, measOk (onlyC c l) (keepM (maskL l c.causes.length) t) x = measOk c t x := by
    intro t ht hz x
    refine measOk_congr (c := c) (d := onlyC c l) rfl (fun f => ?_) x
    rw [len_dot (c := onlyC c l) (by rw [only_mask]; exact keepM_len2 ht), len_dot ht, only_mask, dotF_keep f (by rw [maskL_len]) ht hz]
    rfl
  rw [agree_mem, only_mask, exts_keep (by rw [maskL_len])]
  constructor
  · rintro ⟨⟨t, ht, hz, rfl⟩, hm⟩
    exact ⟨t, agree_mem.2 ⟨ht, fun x hx => by rw [← key t (exts_len_of ht) hz]; exact hm x hx⟩, hz, rfl⟩
  · rintro ⟨t, ht, hz, rfl⟩
    obtain ⟨ht, hm⟩ := agree_mem.1 ht
    exact ⟨⟨t, ht, hz, rfl⟩, fun x hx => by rw [key t (exts_len_of ht) hz]; exact hm x hx⟩

theorem zeroOff_iff : ∀ {bs : List Bool} {t : List Int}, bs.length = t.length → (zeroOff bs t ↔ ∀ i : Nat, bs[i]? = some false → t.getD i 0 = 0) := by
  intro bs
  induction bs with
  | nil => intro t _; simp [zeroOff]
  | cons b bs ih =>
    intro t h
    cases t with
    | nil => simp at h
    | cons v t =>
      simp only [zeroOff]
      rw [ih (by simpa using h)]
      constructor
      · rintro ⟨h1, h2⟩ i hi
        cases i with
        | zero => simp at hi; simpa using h1 hi
        | succ i => simp at hi; simpa using h2 i hi
      · intro h
        exact ⟨fun hb => by simpa using h 0 (by simp [hb]), fun i hi => by simpa using h (i + 1) (by simpa using hi)⟩
theorem set_mem {t : List Int} {i : Nat} : (i : Int) ∈ setL t ↔ i < t.length ∧ 0 < t.getD i 0 := by
  unfold setL
  rw [List.mem_map]
  constructor
  · rintro ⟨k, hk, he⟩
    have : k = i := by omega
    subst this
    rw [List.mem_filter, List.mem_range, decide_eq_true_eq] at hk
    exact hk
  · intro h
    exact ⟨i, by rw [List.mem_filter, List.mem_range, decide_eq_true_eq]; exact h, rfl⟩
theorem set_nat {t : List Int} {x : Int} (h : x ∈ setL t) : ∃ i : Nat, x = i := by
  unfold setL at h
  obtain ⟨k, _, rfl⟩ := List.mem_map.1 h
  exact ⟨k, rfl⟩
theorem zeroOff_part {t l : List Int} (hp : ∀ v ∈ t, 0 ≤ v) : zeroOff (maskL l t.length) t ↔ partL (setL t) l = true := by
  rw [zeroOff_iff (by rw [maskL_len])]
  unfold partL
  rw [List.all_eq_true]
  have hm : ∀ i : Nat, (maskL l t.length)[i]? = some false ↔ i < t.length ∧ (i : Int) ∉ l := by
    intro i
    unfold maskL
    rw [List.getElem?_map]
    by_cases hi : i < t.length
    · rw [List.getElem?_range hi]; simp [hi]
    · rw [List.getElem?_eq_none (by simp; omega)]; simp [hi]
  constructor
  · intro h x hx
    obtain ⟨i, rfl⟩ := set_nat hx
    rw [decide_eq_true_eq]
    refine Classical.byContradiction fun hn => ?_
    have h1 := set_mem.1 hx
    have := h i ((hm i).2 ⟨h1.1, hn⟩)
    omega
  · intro h i hi
    obtain ⟨h1, h2⟩ := (hm i).1 hi
    have hx := List.getElem?_eq_getElem h1
    have h0 := hp _ (List.getElem_mem h1)
    rw [getD_of hx]
    by_cases hz : 0 < t[i]
    · exact absurd (of_decide_eq_true (h i (set_mem.2 ⟨h1, by rw [getD_of hx]; exact hz⟩))) h2
    · omega
theorem agree_ok {c : Claim} (h : OkC c) {t : List Int} (ht : t ∈ agreeL c) : t.length = c.causes.length ∧ ∀ v ∈ t, 0 ≤ v ∧ v ≤ 50 := by
  have := allT_ok h (List.mem_filter.1 ht).1
  exact ⟨this.1, this.2.2⟩
/-- the truths of a claim with some causes alone -/
theorem only_truth {c : Claim} (h : OkC c) {l t' : List Int} : t' ∈ agreeL (onlyC c l) ↔ ∃ t ∈ agreeL c, partL (setL t) l = true ∧ keepM (maskL l c.causes.length) t = t' := by
  rw [only_agree]
  constructor
  · rintro ⟨t, ht, hz, he⟩
    have hk := agree_ok h ht
    exact ⟨t, ht, (zeroOff_part (fun v hv => (hk.2 v hv).1)).1 (by rw [hk.1]; exact hz), he⟩
  · rintro ⟨t, ht, hz, he⟩
    have hk := agree_ok h ht
    exact ⟨t, ht, by have := (zeroOff_part (l := l) (fun v hv => (hk.2 v hv).1)).2 hz; rw [hk.1] at this; exact this, he⟩
theorem only_none {c : Claim} (h : OkC c) (l : List Int) : agreeL (onlyC c l) = [] ↔ ∀ t ∈ agreeL c, partL (setL t) l = false := by
  constructor
  · intro he t ht
    cases hp : partL (setL t) l
    · rfl
    · have := (only_truth h).2 ⟨t, ht, hp, rfl⟩
      rw [he] at this; cases this
  · intro ha
    refine List.eq_nil_iff_forall_not_mem.2 fun t' ht' => ?_
    obtain ⟨t, ht, hp, _⟩ := (only_truth h).1 ht'
    rw [ha t ht] at hp; cases hp

/-- the causes are right just if .. -/
theorem causes_right {nf : Nat} {cs : List Cause} : (∀ j, j < cs.length → causeAt nf cs j = 0) ↔ cs.Pairwise (fun x y => x.name ≠ y.name) ∧ ∀ x ∈ cs, isName x.name = true ∧ causeE nf x = 0 := by
  have one : ∀ (j : Nat) (x : Cause), cs[j]? = some x → (causeAt nf cs j = 0 ↔ (isName x.name = true ∧ x.name ∉ (cs.take j).map (·.name)) ∧ causeE nf x = 0) := by
    intro j x hx
    rw [causeAt_get hx]
    unfold fresh
    by_cases h1 : isName x.name = true
    · rw [if_pos h1]
      by_cases h2 : x.name ∈ (cs.take j).map (·.name)
      · rw [if_pos h2, if_pos (by decide)]
        exact ⟨(fun e => by cases e), fun e => absurd h2 e.1.2⟩
      · rw [if_neg h2, if_neg (by decide)]
        exact ⟨fun e => ⟨⟨h1, h2⟩, e⟩, fun e => e.2⟩
    · rw [if_neg h1, if_pos (by decide)]
      exact ⟨(fun e => by cases e), fun e => absurd e.1.1 h1⟩
  constructor
  · intro h
    refine ⟨?_, fun x hx => ?_⟩
    · rw [List.pairwise_iff_getElem]
      intro i j hi hj hij he
      have := ((one j _ (List.getElem?_eq_getElem hj)).1 (h j hj)).1.2
      refine this (List.mem_map.2 ⟨cs[i], ?_, he⟩)
      rw [List.mem_take_iff_getElem]
      exact ⟨i, by omega, rfl⟩
    · obtain ⟨k, hk⟩ := List.getElem?_of_mem hx
      have hl : k < cs.length := by obtain ⟨h, _⟩ := List.getElem?_eq_some_iff.1 hk; exact h
      have := (one k x hk).1 (h k hl)
      exact ⟨this.1.1, this.2⟩
  · rintro ⟨h1, h2⟩ j hj
    have hx := List.getElem?_eq_getElem hj
    have := h2 _ (List.getElem_mem hj)
    refine (one j _ hx).2 ⟨⟨this.1, fun hm => ?_⟩, this.2⟩
    obtain ⟨y, hy, he⟩ := List.mem_map.1 hm
    obtain ⟨i, hi, rfl⟩ := List.mem_take_iff_getElem.1 hy
    exact (List.pairwise_iff_getElem.1 h1) i j (by omega) hj (by omega) he
theorem keepM_sub {α : Type} : ∀ (bs : List Bool) (xs : List α), (keepM bs xs).Sublist xs := by
  intro bs
  induction bs with
  | nil => intro xs; simp [keepM]
  | cons b bs ih => intro xs; cases xs with
    | nil => simp [keepM]
    | cons x xs => cases b with
      | true => simpa [keepM] using (ih xs).cons₂ x
      | false => simpa [keepM] using (ih xs).cons x
theorem only_sub (c : Claim) (l : List Int) : (onlyC c l).causes.Sublist c.causes := by rw [only_mask]; exact keepM_sub _ _
theorem only_err {c : Claim} (h : err c = 0) (l : List Int) : err (onlyC c l) = 0 := by
  obtain ⟨h1, h2, h3, h4, h5, h6⟩ := check_zero h
  have hs := only_sub c l
  obtain ⟨h7, h8⟩ := causes_right.1 h4
  unfold err
  rw [check_ok (c := onlyC c l) h1 h2 (by have := hs.length_le; omega) (causes_right.2 ⟨h7.sublist hs, fun x hx => h8 x (hs.subset hx)⟩) h5 h6]

/- the least sets -/
theorem part_bits : ∀ a, a < 32 → ∀ b, b < 32 → partL (listN a) (listN b) = decide (a - (a &&& b) = 0) := by decide +kernel
theorem set_bits {c : Claim} (h : OkC c) {t : List Int} (ht : t ∈ agreeL c) : listN (setN t) = setL t := listN_set (by have := agree_ok h ht; have := h.nc; omega)
theorem sets_mem {c : Claim} (h : OkC c) {s : List Int} : s ∈ setsL c ↔ (∃ t ∈ agreeL c, setL t = s) ∧ ∀ t ∈ agreeL c, partL (setL t) s = true → setL t = s := by
  rw [sets_ord h, List.mem_map]
  constructor
  · rintro ⟨v, hv, rfl⟩
    obtain ⟨hv, hb⟩ := List.mem_filter.1 hv
    have hv32 := ord_lt v hv
    unfold leastB at hb
    simp only [Bool.and_eq_true, List.any_eq_true, List.all_eq_true, decide_eq_true_eq, Bool.or_eq_true] at hb
    obtain ⟨⟨t, ht, rfl⟩, hall⟩ := hb
    refine ⟨⟨t, ht, (set_bits h ht).symm⟩, fun u hu hp => ?_⟩
    rw [← set_bits h hu] at hp ⊢
    rw [part_bits _ (setN_lt u) _ hv32] at hp
    rcases hall u hu with e | e
    · rw [e]
    · exact absurd (of_decide_eq_true hp) e
  · rintro ⟨⟨t, ht, rfl⟩, hall⟩
    refine ⟨setN t, List.mem_filter.2 ⟨mem_ord _ (setN_lt t), ?_⟩, set_bits h ht⟩
    unfold leastB
    simp only [Bool.and_eq_true, List.any_eq_true, List.all_eq_true, decide_eq_true_eq, Bool.or_eq_true]
    refine ⟨⟨t, ht, rfl⟩, fun u hu => ?_⟩
    by_cases hz : setN u - (setN u &&& setN t) = 0
    · left
      have := hall u hu (by rw [← set_bits h hu, ← set_bits h ht, part_bits _ (setN_lt u) _ (setN_lt t)]; exact decide_eq_true hz)
      rw [← set_bits h hu, ← set_bits h ht] at this
      exact listN_inj _ (setN_lt u) _ (setN_lt t) this
    · exact .inr hz
/-- each truth has a least set among its causes -/
theorem some_least {c : Claim} (h : OkC c) : ∀ (n : Nat) (t : List Int), t ∈ agreeL c → (setL t).length ≤ n → ∃ s ∈ setsL c, partL s (setL t) = true := by
  intro n
  induction n with
  | zero =>
    intro t ht hn
    have he : setL t = [] := List.length_eq_zero_iff.1 (by omega)
    refine ⟨[], (sets_mem h).2 ⟨⟨t, ht, he⟩, fun u hu hp => ?_⟩, rfl⟩
    unfold partL at hp
    rw [List.all_eq_true] at hp
    refine List.eq_nil_iff_forall_not_mem.2 fun x hx => ?_
    have := of_decide_eq_true (hp x hx)
    cases this
  | succ n ih =>
    intro t ht hn
    by_cases hs : setL t ∈ setsL c
    · exact ⟨_, hs, by unfold partL; simp⟩
    · rw [sets_mem h] at hs
      obtain ⟨u, hu, hp, hne⟩ : ∃ u ∈ agreeL c, partL (setL u) (setL t) = true ∧ setL u ≠ setL t := by
        refine Classical.byContradiction fun hc => hs ⟨⟨t, ht, rfl⟩, fun u hu hp => Classical.byContradiction fun hne => hc ⟨u, hu, hp, hne⟩⟩
      have hb := smaller_bits (setN u) (setN_lt u) (setN t) (setN_lt t)
      have hp' := hp
      rw [← set_bits h hu, ← set_bits h ht, part_bits _ (setN_lt u) _ (setN_lt t)] at hp'
      rw [show decide (setN u ≠ setN t ∧ setN u - (setN u &&& setN t) = 0) = true from decide_eq_true ⟨fun e => hne (by rw [← set_bits h hu, ← set_bits h ht, e]), of_decide_eq_true hp'⟩, set_bits h hu, set_bits h ht] at hb
      simp only [Bool.and_eq_true, decide_eq_true_eq] at hb
      obtain ⟨s, hs2, hps⟩ := ih u hu (by omega)
      refine ⟨s, hs2, ?_⟩
      unfold partL at hps hp ⊢
      rw [List.all_eq_true] at hps hp ⊢
      exact fun x hx => hp x (of_decide_eq_true (hps x hx))
theorem sets_nil {c : Claim} (h : OkC c) : setsL c = [] ↔ agreeL c = [] := by
  constructor
  · intro he
    refine List.eq_nil_iff_forall_not_mem.2 fun t ht => ?_
    obtain ⟨s, hs, _⟩ := some_least h _ t ht (Nat.le_refl _)
    rw [he] at hs; cases hs
  · intro he
    refine List.eq_nil_iff_forall_not_mem.2 fun s hs => ?_
    obtain ⟨⟨t, ht, _⟩, _⟩ := (sets_mem h).1 hs
    rw [he] at ht; cases ht
theorem sets_pair {c : Claim} (h : OkC c) : (setsL c).Pairwise fun a b => partL a b = false ∧ partL b a = false := by
  rw [sets_ord h, List.pairwise_map]
  refine List.Pairwise.imp_of_mem (fun {a b} ha hb hr => ?_) (ord_sorted.filter _)
  obtain ⟨ha, ha2⟩ := List.mem_filter.1 ha
  obtain ⟨hb, hb2⟩ := List.mem_filter.1 hb
  have hne : a ≠ b := fun e => by rw [e] at hr; omega
  rw [part_bits _ (ord_lt a ha) _ (ord_lt b hb), part_bits _ (ord_lt b hb) _ (ord_lt a ha)]
  exact ⟨decide_eq_false (least_anti ha2 hb2 hne), decide_eq_false (least_anti hb2 ha2 (Ne.symm hne))⟩

end Go.Proofs.YtkbpmcpmcmnfgaaDoor

namespace Go.Proofs.YtkbpmcpmcmnfgaaDoor

theorem asc_of {xs : List Int} {m : Int} (hp : xs.Pairwise (· < ·)) (hb : ∀ x ∈ xs, 0 ≤ x ∧ x < m) : ascL xs m = true := by
  unfold ascL
  rw [List.all_eq_true]
  intro k hk
  have hk := List.mem_range.1 hk
  have hx := List.getElem?_eq_getElem hk
  have h1 := hb _ (List.getElem_mem hk)
  unfold ascAt
  rw [getD_of hx, decide_eq_true h1.1, decide_eq_true h1.2]
  cases k with
  | zero => rfl
  | succ j =>
    have hy := List.getElem?_eq_getElem (show j < xs.length by omega)
    rw [Nat.add_sub_cancel, getD_of hy, decide_eq_true ((List.pairwise_iff_getElem.1 hp) j (j + 1) (by omega) hk (by omega))]
    simp
theorem asc_filter (p : Nat → Bool) (n : Nat) : ascL (((List.range n).filter p).map fun i : Nat => (i : Int)) n = true := by
  refine asc_of ?_ ?_
  · rw [List.pairwise_map]
    exact (List.pairwise_lt_range.filter p).imp (fun h => by omega)
  · intro x hx
    obtain ⟨i, hi, rfl⟩ := List.mem_map.1 hx
    have := List.mem_range.1 (List.mem_filter.1 hi).1
    omega
theorem asc_must (c : Claim) : ascL (mustL c) c.causes.length = true := asc_filter _ _
theorem asc_may (c : Claim) : ascL (mayL c) c.causes.length = true := asc_filter _ _
theorem asc_sets {c : Claim} (h : OkC c) {s : List Int} (hs : s ∈ setsL c) : ascL s c.causes.length = true := by
  obtain ⟨⟨t, ht, rfl⟩, _⟩ := (sets_mem h).1 hs
  have := (agree_ok h ht).1
  rw [← this]
  exact asc_filter _ _

theorem mem_must {c : Claim} {i : Nat} : (i : Int) ∈ mustL c ↔ i < c.causes.length ∧ ∀ t ∈ agreeL c, 0 < t.getD i 0 := by
  unfold mustL isMust
  rw [List.mem_map]
  constructor
  · rintro ⟨k, hk, he⟩
    obtain rfl : k = i := by omega
    obtain ⟨h1, h2⟩ := List.mem_filter.1 hk
    exact ⟨List.mem_range.1 h1, fun t ht => of_decide_eq_true ((List.all_eq_true.1 h2) t ht)⟩
  · rintro ⟨h1, h2⟩
    exact ⟨i, List.mem_filter.2 ⟨List.mem_range.2 h1, List.all_eq_true.2 fun t ht => decide_eq_true (h2 t ht)⟩, rfl⟩
theorem mem_may {c : Claim} {i : Nat} : (i : Int) ∈ mayL c ↔ i < c.causes.length ∧ ∃ t ∈ agreeL c, 0 < t.getD i 0 := by
  unfold mayL isMay
  rw [List.mem_map]
  constructor
  · rintro ⟨k, hk, he⟩
    obtain rfl : k = i := by omega
    obtain ⟨h1, h2⟩ := List.mem_filter.1 hk
    obtain ⟨t, ht, hp⟩ := List.any_eq_true.1 h2
    exact ⟨List.mem_range.1 h1, t, ht, of_decide_eq_true hp⟩
  · rintro ⟨h1, t, ht, h2⟩
    exact ⟨i, List.mem_filter.2 ⟨List.mem_range.2 h1, List.any_eq_true.2 ⟨t, ht, decide_eq_true h2⟩⟩, rfl⟩
theorem must_nat {c : Claim} {x : Int} (h : x ∈ mustL c) : ∃ i : Nat, x = i := by
  obtain ⟨k, _, rfl⟩ := List.mem_map.1 h
  exact ⟨k, rfl⟩
theorem partL_iff {a b : List Int} : partL a b = true ↔ ∀ x ∈ a, x ∈ b := by
  unfold partL
  rw [List.all_eq_true]
  exact ⟨fun h x hx => of_decide_eq_true (h x hx), fun h x hx => decide_eq_true (h x hx)⟩
theorem must_part {c : Claim} (h : OkC c) {t : List Int} (ht : t ∈ agreeL c) : partL (mustL c) (setL t) = true := by
  rw [partL_iff]
  intro x hx
  obtain ⟨i, rfl⟩ := must_nat hx
  obtain ⟨h1, h2⟩ := mem_must.1 hx
  exact set_mem.2 ⟨by rw [(agree_ok h ht).1]; exact h1, h2 t ht⟩
theorem part_may {c : Claim} (h : OkC c) {t : List Int} (ht : t ∈ agreeL c) : partL (setL t) (mayL c) = true := by
  rw [partL_iff]
  intro x hx
  obtain ⟨i, rfl⟩ := set_nat hx
  obtain ⟨h1, h2⟩ := set_mem.1 hx
  exact mem_may.2 ⟨by rw [(agree_ok h ht).1] at h1; exact h1, t, ht, h2⟩
theorem need_sets {c : Claim} (h : OkC c) {s : List Int} (hs : s ∈ setsL c) : partL (mustL c) s = true ∧ partL s (mayL c) = true := by
  obtain ⟨⟨t, ht, rfl⟩, _⟩ := (sets_mem h).1 hs
  exact ⟨must_part h ht, part_may h ht⟩

/-- all numbers below n but one -/
def restL (i n : Nat) : List Int := ((List.range n).filter fun k => decide (k ≠ i)).map fun k : Nat => (k : Int)
theorem mem_rest {i n k : Nat} : (k : Int) ∈ restL i n ↔ k < n ∧ k ≠ i := by
  unfold restL
  rw [List.mem_map]
  constructor
  · rintro ⟨j, hj, he⟩
    obtain rfl : j = k := by omega
    obtain ⟨h1, h2⟩ := List.mem_filter.1 hj
    exact ⟨List.mem_range.1 h1, of_decide_eq_true h2⟩
  · rintro ⟨h1, h2⟩
    exact ⟨k, List.mem_filter.2 ⟨List.mem_range.2 h1, decide_eq_true h2⟩, rfl⟩
theorem need_rest {c : Claim} (h : OkC c) {i : Nat} (hi : i < c.causes.length) : agreeL (onlyC c (restL i c.causes.length)) = [] ↔ (i : Int) ∈ mustL c := by
  rw [only_none h, mem_must]
  constructor
  · intro ha
    refine ⟨hi, fun t ht => Classical.byContradiction fun hn => ?_⟩
    have := ha t ht
    rw [partL_iff.2] at this
    · cases this
    · intro x hx
      obtain ⟨k, rfl⟩ := set_nat hx
      obtain ⟨h1, h2⟩ := set_mem.1 hx
      refine mem_rest.2 ⟨by rw [(agree_ok h ht).1] at h1; exact h1, fun e => hn (by rw [← e]; exact h2)⟩
  · rintro ⟨_, ha⟩ t ht
    cases hp : partL (setL t) (restL i c.causes.length)
    · rfl
    · have := partL_iff.1 hp i (set_mem.2 ⟨by rw [(agree_ok h ht).1]; exact hi, ha t ht⟩)
      exact absurd rfl (mem_rest.1 this).2

theorem ends_at (L : List Int) : ∀ lo hi : Int, ((ends lo hi L).1 = lo ∨ (ends lo hi L).1 ∈ L) ∧ ((ends lo hi L).2 = hi ∨ (ends lo hi L).2 ∈ L) ∧ (ends lo hi L).1 ≤ lo ∧ hi ≤ (ends lo hi L).2 ∧ ∀ x ∈ L, (ends lo hi L).1 ≤ x ∧ x ≤ (ends lo hi L).2 := by
  induction L with
  | nil => intro lo hi; exact ⟨.inl rfl, .inl rfl, Int.le_refl _, Int.le_refl _, fun x h => by cases h⟩
  | cons y L ih =>
    intro lo hi
    obtain ⟨h1, h2, h3, h4, h5⟩ := ih (min lo y) (max hi y)
    simp only [ends]
    refine ⟨?_, ?_, by omega, by omega, fun x hx => ?_⟩
    · rcases h1 with h1 | h1
      · rw [h1]
        by_cases hm : lo ≤ y
        · left; omega
        · right; rw [show min lo y = y by omega]; exact List.mem_cons_self
      · exact .inr (List.mem_cons_of_mem _ h1)
    · rcases h2 with h2 | h2
      · rw [h2]
        by_cases hm : y ≤ hi
        · left; omega
        · right; rw [show max hi y = y by omega]; exact List.mem_cons_self
      · exact .inr (List.mem_cons_of_mem _ h2)
    · rcases List.mem_cons.1 hx with rfl | hx
      · omega
      · exact h5 x hx
theorem endsOf_at {L : List Int} (h : L ≠ []) : (endsOf L).1 ∈ L ∧ (endsOf L).2 ∈ L ∧ ∀ x ∈ L, (endsOf L).1 ≤ x ∧ x ≤ (endsOf L).2 := by
  cases L with
  | nil => exact absurd rfl h
  | cons y L =>
    obtain ⟨h1, h2, h3, h4, h5⟩ := ends_at L y y
    simp only [endsOf]
    refine ⟨?_, ?_, fun x hx => ?_⟩
    · rcases h1 with h1 | h1
      · rw [h1]; exact List.mem_cons_self
      · exact List.mem_cons_of_mem _ h1
    · rcases h2 with h2 | h2
      · rw [h2]; exact List.mem_cons_self
      · exact List.mem_cons_of_mem _ h2
    · rcases List.mem_cons.1 hx with rfl | hx
      · exact ⟨h3, h4⟩
      · exact h5 x hx
theorem errAt_in {c : Claim} (he : err c = 0) (hne : agreeL c ≠ []) {i n : Nat} (hi : i < n) : errAt c i n = 0 := by
  unfold errAt
  rw [if_neg (by simp [he]), if_pos (inB_iff.2 (by omega)), if_neg hne]
theorem amount_ok {c : Claim} (he : err c = 0) (hne : agreeL c ≠ []) {i : Nat} (hi : i < c.causes.length) : amountR c i = (endsOf ((agreeL c).map fun t => t.getD i 0), 0) := by
  unfold amountR
  rw [if_neg (by rw [errAt_in he hne hi]; simp)]
  rfl
theorem value_ok {c : Claim} (he : err c = 0) (hne : agreeL c ≠ []) {f : Nat} (hf : f < c.feats.length) : valueR c f = (endsOf ((agreeL c).map fun t => len c t f), 0) := by
  unfold valueR
  rw [if_neg (by rw [errAt_in he hne hf]; simp)]
  rfl
theorem need_amount {c : Claim} (he : err c = 0) (hne : agreeL c ≠ []) {i : Nat} (hi : i < c.causes.length) : ∃ lo hi, amountR c i = ((lo, hi), 0) ∧ (0 < lo ↔ (i : Int) ∈ mustL c) ∧ (0 < hi ↔ (i : Int) ∈ mayL c) := by
  obtain ⟨h1, h2, h3⟩ := endsOf_at (L := (agreeL c).map fun t => t.getD i 0) (by simpa using hne)
  rw [amount_ok he hne hi]
  obtain ⟨a, b, hab⟩ : ∃ a b, endsOf ((agreeL c).map fun t => t.getD i 0) = (a, b) := ⟨_, _, rfl⟩
  rw [hab] at h1 h2 h3 ⊢
  dsimp only at h1 h2 h3
  refine ⟨a, b, rfl, ?_, ?_⟩
  · rw [mem_must]
    constructor
    · intro h
      refine ⟨hi, fun t ht => ?_⟩
      have := h3 _ (List.mem_map.2 ⟨t, ht, rfl⟩)
      omega
    · rintro ⟨_, h⟩
      obtain ⟨t, ht, e⟩ := List.mem_map.1 h1
      rw [← e]; exact h t ht
  · rw [mem_may]
    constructor
    · intro h
      obtain ⟨t, ht, e⟩ := List.mem_map.1 h2
      exact ⟨hi, t, ht, by rw [e]; exact h⟩
    · rintro ⟨_, t, ht, h⟩
      have := h3 _ (List.mem_map.2 ⟨t, ht, rfl⟩)
      omega
theorem must_only {c : Claim} (he : err c = 0) (l : List Int) : (mustR (onlyC c l)).2.2 = if agreeL (onlyC c l) = [] then 8 else 0 := by
  have h1 := only_err he l
  unfold mustR
  by_cases h : agreeL (onlyC c l) = []
  · rw [if_pos h, err8_none h1 h, if_pos (by decide)]
  · rw [if_neg h, err8_ok h1 h, if_neg (by decide)]
theorem must_bad {c : Claim} (h : err c ≠ 0) : mustR c = ([], [], err c) := by unfold mustR; rw [err8_bad h, if_pos h]
theorem must_none {c : Claim} (h : err c = 0) (ha : agreeL c = []) : mustR c = ([], [], 8) := by unfold mustR; rw [err8_none h ha, if_pos (by decide)]
theorem must_ok {c : Claim} (h : err c = 0) (ha : agreeL c ≠ []) : mustR c = (mustL c, mayL c, 0) := by unfold mustR; rw [err8_ok h ha, if_neg (by decide)]
theorem sets_bad {c : Claim} (h : err c ≠ 0) : setsR c = ([], err c) := by unfold setsR; rw [if_pos h]
theorem sets_ok {c : Claim} (h : err c = 0) : setsR c = (setsL c, 0) := by unfold setsR; rw [if_neg (by simp [h])]
theorem plain_bad {c : Claim} (h : err c ≠ 0) : plainR c = ([], err c) := by unfold plainR; rw [err8_bad h, if_pos h]
theorem plain_none {c : Claim} (h : err c = 0) (ha : agreeL c = []) : plainR c = ([], 8) := by unfold plainR; rw [err8_none h ha, if_pos (by decide)]
theorem plain_ok {c : Claim} (h : err c = 0) (ha : agreeL c ≠ []) : plainR c = (plainOf (agreeL c), 0) := by unfold plainR; rw [err8_ok h ha, if_neg (by decide)]

end Go.Proofs.YtkbpmcpmcmnfgaaDoor
