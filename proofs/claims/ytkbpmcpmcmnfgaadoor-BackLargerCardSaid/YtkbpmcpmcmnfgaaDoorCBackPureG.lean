/- Layer 12, plain: all features greater, and what was shown too. -/
import Derived.Test.YtkbpmcpmcmnfgaaDoorCCount
import Derived.Test.YtkbpmcpmcmnfgaaDoorCFewer
set_option linter.unusedVariables false
set_option linter.unusedSimpArgs false
set_option linter.all false
namespace Go.Proofs.YtkbpmcpmcmnfgaaDoor

def shiftF (z : Int) (f : Feat) : Feat := { f with nom := f.nom + z }
def shiftM (z : Int) (y : Meas) : Meas := { y with shown := y.shown + z }
def largerC (c : Claim) (z : Int) : Claim := { c with feats := c.feats.map (shiftF z), meas := c.meas.map (shiftM z) }
section
variable {c : Claim} {z : Int}
theorem feat_larger {f : Nat} (hf : f < c.feats.length) : (largerC c z).feats.getD f dFeat = shiftF z (c.feats.getD f dFeat) := by
  have hx := List.getElem?_eq_getElem hf
  rw [getD_of hx, getD_of (l := (largerC c z).feats) (x := shiftF z c.feats[f])]
  show (c.feats.map (shiftF z))[f]? = _
  rw [List.getElem?_map, hx]; rfl
theorem lenUpto_larger (t : List Int) {f : Nat} (hf : f < c.feats.length) : ∀ k, lenUpto (largerC c z) t f k = lenUpto c t f k + z := by
  intro k
  induction k with
  | zero => rw [lenUpto, lenUpto, feat_larger hf]; rfl
  | succ k ih =>
    rw [lenUpto, lenUpto, ih]
    have : perOf (largerC c z) f k = perOf c f k := rfl
    rw [this]; omega
theorem len_larger (t : List Int) {f : Nat} (hf : f < c.feats.length) : len (largerC c z) t f = len c t f + z := lenUpto_larger t hf _
theorem off_larger {f : Nat} (hf : f < c.feats.length) : offOf (largerC c z) f = offOf c f := by unfold offOf; rw [feat_larger hf]; rfl
theorem meas_larger (h : OkC c) (t : List Int) {y : Meas} (hy : y ∈ c.meas) : measOk (largerC c z) t (shiftM z y) = measOk c t y := by
  obtain ⟨k, hk⟩ := List.getElem?_of_mem hy
  obtain ⟨a1, a2, _, _⟩ := h.meas hk
  have hf : y.feature.toNat < c.feats.length := by omega
  have h1 := len_larger (c := c) (z := z) t hf
  have h2 := off_larger (c := c) (z := z) hf
  unfold offOf at h2
  unfold measOk
  show inB (y.shown + z) (len (largerC c z) t y.feature.toNat - ((largerC c z).feats.getD y.feature.toNat dFeat).err) (len (largerC c z) t y.feature.toNat + ((largerC c z).feats.getD y.feature.toNat dFeat).err) = _
  rw [h1, h2]
  apply Bool.eq_iff_iff.2
  rw [inB_iff, inB_iff]
  omega
theorem agree_larger (h : OkC c) : agreeL (largerC c z) = agreeL c := by
  unfold agreeL
  show (allT c.causes).filter _ = _
  refine List.filter_congr fun t ht => ?_
  apply Bool.eq_iff_iff.2
  have h1 : ∀ d : Claim, d.causes = c.causes → ((untrueL d t).isEmpty = true ↔ ∀ x ∈ d.meas, measOk d t x = true) := fun d hd => by
    have := agree_mem (c := d) (t := t)
    unfold agreeL at this
    rw [List.mem_filter, hd, allT_exts] at this
    have ht' : t ∈ exts c.causes := by rw [← allT_exts]; exact ht
    exact ⟨fun e => (this.1 ⟨ht', e⟩).2, fun e => (this.2 ⟨ht', e⟩).2⟩
  rw [h1 (largerC c z) rfl, h1 c rfl]
  constructor
  · intro hh x hx
    rw [← meas_larger (z := z) h t hx]
    exact hh _ (List.mem_map.2 ⟨x, hx, rfl⟩)
  · intro hh x hx
    obtain ⟨y, hy, rfl⟩ := List.mem_map.1 hx
    rw [meas_larger h t hy]
    exact hh y hy
theorem sets_larger (h1 : err c = 0) (h2 : err (largerC c z) = 0) : setsR (largerC c z) = setsR c := by
  have he : explainsL (largerC c z) = explainsL c := by unfold explainsL; rw [agree_larger (okC_of h1)]; rfl
  rw [sets_ok h1, sets_ok h2]
  unfold setsL
  rw [he]
theorem err8_larger (h1 : err c = 0) (h2 : err (largerC c z) = 0) : err8 (largerC c z) = err8 c := by
  unfold err8; rw [h1, h2, agree_larger (okC_of h1)]
theorem must_larger (h1 : err c = 0) (h2 : err (largerC c z) = 0) : mustR (largerC c z) = mustR c := by
  unfold mustR mustL mayL
  rw [err8_larger h1 h2, agree_larger (okC_of h1)]; rfl
theorem plain_larger (h1 : err c = 0) (h2 : err (largerC c z) = 0) : plainR (largerC c z) = plainR c := by
  unfold plainR
  rw [err8_larger h1 h2, agree_larger (okC_of h1)]
theorem amount_larger (h1 : err c = 0) (h2 : err (largerC c z) = 0) (i : Int) : amountR (largerC c z) i = amountR c i := by
  unfold amountR errAt
  rw [h1, h2, agree_larger (okC_of h1)]; rfl

theorem hit_larger {f : Nat} (hf : f < c.feats.length) (n : Int) (t : List Int) : hitB (largerC c z) f (n + z) t = hitB c f n t := by
  unfold hitB
  rw [len_larger t hf, off_larger hf]
  apply Bool.eq_iff_iff.2
  simp only [Bool.and_eq_true, decide_eq_true_eq]
  omega
theorem mask_larger {f : Nat} (hf : f < c.feats.length) (L : List (List Int)) (n : Int) : maskN (largerC c z) f L (n + z) = maskN c f L n := by
  unfold maskN
  simp only [hit_larger hf]
theorem left_larger {f : Nat} (hf : f < c.feats.length) (L : List (List Int)) : leftR (largerC c z) L f = leftR c L f := by
  unfold leftR
  have hw : ∀ t, winL (largerC c z) f t = (winL c f t).map (· + z) := fun t => by
    unfold winL
    rw [len_larger t hf, off_larger hf, List.map_map]
    refine List.map_congr_left fun j _ => ?_
    simp only [Function.comp_apply]; omega
  have hF : (fun t => (winL (largerC c z) f t).map fun n => ((pop 32 (maskN (largerC c z) f L n) : Nat) : Int)) = fun t => (winL c f t).map fun n => ((pop 32 (maskN c f L n) : Nat) : Int) := by
    funext t
    rw [hw, List.map_map]
    refine List.map_congr_left fun n _ => ?_
    simp only [Function.comp_apply]
    rw [mask_larger hf]
  have he : ((L.flatMap (winL (largerC c z) f)).map fun n => ((pop 32 (maskN (largerC c z) f L n) : Nat) : Int)) = (L.flatMap (winL c f)).map fun n => ((pop 32 (maskN c f L n) : Nat) : Int) := by
    rw [List.map_flatMap, List.map_flatMap, hF]
  exact congrArg maxOf he
theorem askF_congr {g g' : Nat → Int} : ∀ k, (∀ j, j < k → g j = g' j) → askF g k = askF g' k := by
  intro k
  induction k with
  | zero => intro _; rfl
  | succ k ih =>
    intro h
    rw [askF, askF, ih (fun j hj => h j (by omega)), h k (by omega)]
theorem ask_larger (h1 : err c = 0) (h2 : err (largerC c z) = 0) : askR (largerC c z) = askR c := by
  unfold askR
  have hl : (largerC c z).feats.length = c.feats.length := by show (c.feats.map _).length = _; rw [List.length_map]
  rw [err8_larger h1 h2, agree_larger (okC_of h1), hl, askF_congr (g := leftR (largerC c z) (agreeL c)) (g' := leftR c (agreeL c)) c.feats.length (fun j hj => left_larger hj _)]
theorem ends_shift : ∀ (L : List Int) (lo hi : Int), ends (lo + z) (hi + z) (L.map (· + z)) = ((ends lo hi L).1 + z, (ends lo hi L).2 + z) := by
  intro L
  induction L with
  | nil => intro lo hi; rfl
  | cons x L ih =>
    intro lo hi
    rw [List.map_cons, ends, ends, ← ih]
    congr 1 <;> omega
/-- each Value is as much greater -/
theorem value_larger (h1 : err c = 0) (h2 : err (largerC c z) = 0) {f : Nat} (hf : f < c.feats.length) : ∃ lo hi lo' hi' e, valueR c f = ((lo, hi), e) ∧ valueR (largerC c z) f = ((lo', hi'), e) ∧ (e = 8 ∨ e = 0 ∧ lo' = lo + z ∧ hi' = hi + z ∧ -5000 ≤ lo ∧ lo ≤ 105000 ∧ -5000 ≤ hi ∧ hi ≤ 105000) := by
  have hok := okC_of h1
  have hl : (largerC c z).feats.length = c.feats.length := by show (c.feats.map _).length = _; rw [List.length_map]
  by_cases ha : agreeL c = []
  · have hb : agreeL (largerC c z) = [] := by rw [agree_larger hok, ha]
    have e1 : errAt c f c.feats.length = 8 := by unfold errAt; rw [if_neg (by simp [h1]), if_pos (inB_iff.2 (by omega)), if_pos ha]
    have e2 : errAt (largerC c z) f (largerC c z).feats.length = 8 := by unfold errAt; rw [if_neg (by simp [h2]), if_pos (inB_iff.2 (by rw [hl]; omega)), if_pos hb]
    refine ⟨0, 0, 0, 0, 8, ?_, ?_, .inl rfl⟩
    · unfold valueR; rw [e1, if_pos (by decide)]
    · unfold valueR; rw [e2, if_pos (by decide)]
  · have hb : agreeL (largerC c z) ≠ [] := by rw [agree_larger hok]; exact ha
    obtain ⟨m1, m2, _⟩ := endsOf_at (L := (agreeL c).map fun t => len c t f) (by simpa using ha)
    have hbd : ∀ x ∈ (agreeL c).map fun t => len c t f, -5000 ≤ x ∧ x ≤ 105000 := fun x hx => by
      obtain ⟨t, ht, rfl⟩ := List.mem_map.1 hx
      exact len_bd hok (allT_ok hok (List.mem_filter.1 ht).1).2 hf
    have hs : endsOf ((agreeL (largerC c z)).map fun t => len (largerC c z) t f) = ((endsOf ((agreeL c).map fun t => len c t f)).1 + z, (endsOf ((agreeL c).map fun t => len c t f)).2 + z) := by
      rw [agree_larger hok]
      have : ((agreeL c).map fun t => len (largerC c z) t f) = ((agreeL c).map fun t => len c t f).map (· + z) := by
        rw [List.map_map]
        exact List.map_congr_left fun t _ => len_larger t hf
      rw [this]
      cases hL : (agreeL c).map fun t => len c t f with
      | nil => exact absurd (by simpa using hL) ha
      | cons x L => exact ends_shift L x x
    rw [value_ok h1 ha hf, value_ok h2 hb (f := f) (by rw [hl]; exact hf), hs]
    have r1 := hbd _ m1
    have r2 := hbd _ m2
    obtain ⟨a, b, hab⟩ : ∃ a b, endsOf ((agreeL c).map fun t => len c t f) = (a, b) := ⟨_, _, rfl⟩
    rw [hab] at r1 r2 ⊢
    dsimp only at r1 r2
    exact ⟨a, b, a + z, b + z, 0, rfl, rfl, .inr ⟨rfl, rfl, rfl, by omega, by omega, by omega, by omega⟩⟩
end

end Go.Proofs.YtkbpmcpmcmnfgaaDoor
