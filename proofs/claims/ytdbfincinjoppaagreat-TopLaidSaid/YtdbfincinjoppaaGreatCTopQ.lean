/- A part of the proof that TopLaid always answers true. -/
import Derived.Test.YtdbfincinjoppaaGreatCCastOk
import Derived.Test.YtdbfincinjoppaaGreatCKLaw1
import Derived.Test.YtdbfincinjoppaaGreatCRegion4
import Derived.Test.YtdbfincinjoppaaGreatCTEnter
import Derived.Test.YtdbfincinjoppaaGreatCTRefB
import Derived.Test.YtdbfincinjoppaaGreatCTWidth
set_option linter.all false
namespace Go.Proofs.YtdbfincinjoppaaGreat
theorem endsA_bd (l : List Int) : ∀ lo hi : Int, lo ≤ hi → (ends lo hi l).1 ≤ lo ∧ hi ≤ (ends lo hi l).2 ∧ (∀ x ∈ l, (ends lo hi l).1 ≤ x ∧ x ≤ (ends lo hi l).2) ∧ ((ends lo hi l).1 = lo ∨ (ends lo hi l).1 ∈ l) ∧ ((ends lo hi l).2 = hi ∨ (ends lo hi l).2 ∈ l) := by
 induction l with
 | nil => intro lo hi h; exact ⟨Int.le_refl _, Int.le_refl _, fun x hx => by simp at hx, .inl rfl, .inl rfl⟩
 | cons y l ih =>
  intro lo hi h
  obtain ⟨h1, h2, h3, h4, h5⟩ := ih (min lo y) (max hi y) (by omega)
  refine ⟨by show (ends (min lo y) (max hi y) l).1 ≤ lo; omega, by show hi ≤ (ends (min lo y) (max hi y) l).2; omega, fun x hx => ?_, ?_, ?_⟩
  ·show (ends (min lo y) (max hi y) l).1 ≤ x ∧ x ≤ (ends (min lo y) (max hi y) l).2
   rcases List.mem_cons.1 hx with rfl | hx
   ·exact ⟨by omega, by omega⟩
   exact h3 x hx
  ·show (ends (min lo y) (max hi y) l).1 = lo ∨ (ends (min lo y) (max hi y) l).1 ∈ y :: l
   rcases h4 with h4 | h4
   ·rw [h4]
    rcases Int.le_total lo y with h6 | h6
    ·left; omega
    right; rw [show min lo y = y by omega]; exact List.mem_cons_self
   exact .inr (List.mem_cons_of_mem _ h4)
  show (ends (min lo y) (max hi y) l).2 = hi ∨ (ends (min lo y) (max hi y) l).2 ∈ y :: l
  rcases h5 with h5 | h5
  ·rw [h5]
   rcases Int.le_total y hi with h6 | h6
   ·left; omega
   right; rw [show max hi y = y by omega]; exact List.mem_cons_self
  exact .inr (List.mem_cons_of_mem _ h5)
theorem endsOfA_bd {l : List Int} (h : l ≠ []) : (∀ x ∈ l, (endsOf l).1 ≤ x ∧ x ≤ (endsOf l).2) ∧ (endsOf l).1 ∈ l ∧ (endsOf l).2 ∈ l := by
 cases l with
 | nil => exact absurd rfl h
 | cons y l =>
  obtain ⟨h1, h2, h3, h4, h5⟩ := endsA_bd l y y (Int.le_refl _)
  refine ⟨fun x hx => ?_, ?_, ?_⟩
  ·rcases List.mem_cons.1 hx with rfl | hx
   ·exact ⟨h1, h2⟩
   exact h3 x hx
  ·rcases h4 with h4 | h4
   ·show (ends y y l).1 ∈ y :: l; rw [h4]; exact List.mem_cons_self
   exact List.mem_cons_of_mem _ h4
  rcases h5 with h5 | h5
  ·show (ends y y l).2 ∈ y :: l; rw [h5]; exact List.mem_cons_self
  exact List.mem_cons_of_mem _ h5
theorem wide_pair {h : Hall} {l : List Seen} {t : Nat} (hne : twosL h l t ≠ []) (a : Int) : (∀ p ∈ twosL h l t, (wide8 h l t a).1 ≤ p.1 + p.2 * a ∧ p.1 + p.2 * a ≤ (wide8 h l t a).2) ∧ (∃ p ∈ twosL h l t, (wide8 h l t a).1 = p.1 + p.2 * a) ∧ (∃ p ∈ twosL h l t, (wide8 h l t a).2 = p.1 + p.2 * a) := by
 have hne2 : (twosL h l t).map (fun p => p.1 + p.2 * a) ≠ [] := by simpa using hne
 obtain ⟨h1, h2, h3⟩ := endsOfA_bd hne2
 refine ⟨fun p hp => h1 _ (List.mem_map.2 ⟨p, hp, rfl⟩), ?_, ?_⟩
 ·obtain ⟨p, hp, e⟩ := List.mem_map.1 h2; exact ⟨p, hp, e.symm⟩
 obtain ⟨p, hp, e⟩ := List.mem_map.1 h3; exact ⟨p, hp, e.symm⟩
theorem gapUpto_bd (h : Hall) (l : List Seen) (row : Nat) (tl : List Int) : ∀ k : Nat, (∀ j : Nat, j ≤ k → (gapUpto h l row tl k).1 ≤ (at8 h l row tl (h.alo + j)).1 ∧ (at8 h l row tl (h.alo + j)).2 ≤ (gapUpto h l row tl k).2) ∧ (∃ j : Nat, j ≤ k ∧ (gapUpto h l row tl k).1 = (at8 h l row tl (h.alo + j)).1) ∧ (∃ j : Nat, j ≤ k ∧ (gapUpto h l row tl k).2 = (at8 h l row tl (h.alo + j)).2) := by
 intro k
 induction k with
 | zero =>
  have e : gapUpto h l row tl 0 = at8 h l row tl (h.alo + (0 : Nat)) := by rw [gapUpto]; simp
  rw [e]
  refine ⟨fun j hj => ?_, ⟨0, Nat.le_refl _, rfl⟩, ⟨0, Nat.le_refl _, rfl⟩⟩
  obtain rfl : j = 0 := by omega
  exact ⟨Int.le_refl _, Int.le_refl _⟩
 | succ k ih =>
  obtain ⟨h1, ⟨j1, hj1, e1⟩, ⟨j2, hj2, e2⟩⟩ := ih
  have e : gapUpto h l row tl (k + 1) = (min (gapUpto h l row tl k).1 (at8 h l row tl (h.alo + (k + 1 : Nat))).1, max (gapUpto h l row tl k).2 (at8 h l row tl (h.alo + (k + 1 : Nat))).2) := by
   rw [gapUpto, show h.alo + 1 + (k : Int) = h.alo + ((k + 1 : Nat) : Int) by omega]
  rw [e]
  dsimp only
  refine ⟨fun j hj => ?_, ?_, ?_⟩
  ·rcases Nat.lt_or_eq_of_le hj with h2 | h2
   ·have := h1 j (by omega); omega
   subst h2; omega
  ·rcases Int.le_total (gapUpto h l row tl k).1 (at8 h l row tl (h.alo + (k + 1 : Nat))).1 with h2 | h2
   ·exact ⟨j1, by omega, by rw [← e1]; omega⟩
   exact ⟨k + 1, Nat.le_refl _, by omega⟩
  rcases Int.le_total (at8 h l row tl (h.alo + (k + 1 : Nat))).2 (gapUpto h l row tl k).2 with h2 | h2
  ·exact ⟨j2, by omega, by rw [← e2]; omega⟩
  exact ⟨k + 1, Nat.le_refl _, by omega⟩
theorem gap8_bd {h : Hall} {l : List Seen} {row : Nat} {tl : List Int} (hal : h.alo ≤ h.ahi) : (∀ a, h.alo ≤ a → a ≤ h.ahi → (gap8 h l row tl).1 ≤ (at8 h l row tl a).1 ∧ (at8 h l row tl a).2 ≤ (gap8 h l row tl).2) ∧ (∃ a, h.alo ≤ a ∧ a ≤ h.ahi ∧ (gap8 h l row tl).1 = (at8 h l row tl a).1) ∧ (∃ a, h.alo ≤ a ∧ a ≤ h.ahi ∧ (gap8 h l row tl).2 = (at8 h l row tl a).2) := by
 unfold gap8
 obtain ⟨h1, ⟨j1, hj1, e1⟩, ⟨j2, hj2, e2⟩⟩ := gapUpto_bd h l row tl (h.ahi - h.alo).toNat
 refine ⟨fun a ha1 ha2 => ?_, ⟨_, by omega, by omega, e1⟩, ⟨_, by omega, by omega, e2⟩⟩
 have := h1 (a - h.alo).toNat (by omega)
 rwa [show h.alo + ((a - h.alo).toNat : Int) = a by omega] at this
theorem among_bd {a z : Int} {n : Nat} (h : a ≤ z) : a ≤ amongI a z n ∧ amongI a z n ≤ z := by
 unfold amongI
 obtain ⟨d, hd⟩ := Int.eq_ofNat_of_zero_le (show 0 ≤ z - a + 1 by omega)
 rw [Int.tmod_eq_emod_of_nonneg (by omega), hd]
 have e1 : (n : Int) % (d : Int) = ((n % d : Nat) : Int) := rfl
 have e2 : n % d < d := Nat.mod_lt _ (by omega)
 omega
theorem twos_mem8 {h : Hall} {l : List Seen} {t : Nat} {p : Int × Int} (hw : (h.tiles.getD t dTile).wlo ≤ p.1 ∧ p.1 ≤ (h.tiles.getD t dTile).whi) (hs : (h.tiles.getD t dTile).slo ≤ p.2 ∧ p.2 ≤ (h.tiles.getD t dTile).shi) (ho : twoOk l t p.1 p.2 = true) : p ∈ twosL h l t := by
 unfold twosL twosK
 generalize h.tiles.getD t dTile = x at hw hs
 refine List.mem_filter.2 ⟨List.mem_map.2 ⟨(p.1 - x.wlo).toNat * swellN x + (p.2 - x.slo).toNat, List.mem_range.2 ?_, ?_⟩, ho⟩
 ·have h1 : (p.2 - x.slo).toNat < swellN x := by unfold swellN; omega
  have h2 : (p.1 - x.wlo).toNat < wideN x := by unfold wideN; omega
  calc (p.1 - x.wlo).toNat * swellN x + (p.2 - x.slo).toNat < (p.1 - x.wlo).toNat * swellN x + swellN x := by omega
   _ = ((p.1 - x.wlo).toNat + 1) * swellN x := by rw [Nat.succ_mul]
   _ ≤ wideN x * swellN x := Nat.mul_le_mul_right _ h2
 have h1 : (p.2 - x.slo).toNat < swellN x := by unfold swellN; omega
 have h3 : 0 < swellN x := by omega
 unfold pairN
 have e1 : ((p.1 - x.wlo).toNat * swellN x + (p.2 - x.slo).toNat) / swellN x = (p.1 - x.wlo).toNat := by
  rw [Nat.mul_comm, Nat.mul_add_div h3, Nat.div_eq_of_lt h1, Nat.add_zero]
 have e2 : ((p.1 - x.wlo).toNat * swellN x + (p.2 - x.slo).toNat) % swellN x = (p.2 - x.slo).toNat := by
  rw [Nat.mul_comm, Nat.mul_add_mod, Nat.mod_eq_of_lt h1]
 rw [e1, e2]
 ext <;> dsimp only <;> omega
def dTwo : Int × Int := (0, 0)
def gapK (t : List (Int × Int)) (tl : List Int) (air n0 : Int) (k : Nat) : Int := (tl.take k).foldl (fun n i => n - (t.getD i.toNat dTwo).1 - (t.getD i.toNat dTwo).2 * air) n0
def gapT (h : Hall) (t : List (Int × Int)) (row : Nat) (tl : List Int) (air : Int) : Int := gapK t tl air ((h.rows.getD row dRow).frame + (h.rows.getD row dRow).swell * air) tl.length
theorem gapK_succ {t : List (Int × Int)} {tl : List Int} {air n0 : Int} {k : Nat} {i : Int} (h : tl[k]? = some i) : gapK t tl air n0 (k + 1) = gapK t tl air n0 k - (t.getD i.toNat dTwo).1 - (t.getD i.toNat dTwo).2 * air := by
 unfold gapK; rw [take_snoc_get h, List.foldl_append]; rfl
theorem anyL_len (h : Hall) (xs : List Nat) : (anyL h xs).length = h.tiles.length := anyK_len _ _ _
theorem anyL_get {h : Hall} {xs : List Nat} {k : Nat} (hk : k < h.tiles.length) : (anyL h xs)[k]? = some (anyTwo (h.tiles.getD k dTile) xs k) := by
 unfold anyL anyK
 rw [List.getElem?_map, List.getElem?_range hk]; rfl
theorem any_in {h : Hall} {xs : List Nat} {k : Nat} (ho : OkH h) (hk : k < h.tiles.length) : ((h.tiles.getD k dTile).wlo ≤ (anyTwo (h.tiles.getD k dTile) xs k).1 ∧ (anyTwo (h.tiles.getD k dTile) xs k).1 ≤ (h.tiles.getD k dTile).whi) ∧ ((h.tiles.getD k dTile).slo ≤ (anyTwo (h.tiles.getD k dTile) xs k).2 ∧ (anyTwo (h.tiles.getD k dTile) xs k).2 ≤ (h.tiles.getD k dTile).shi) ∧ 0 ≤ (h.tiles.getD k dTile).wlo ∧ (h.tiles.getD k dTile).whi ≤ 20000 ∧ 0 ≤ (h.tiles.getD k dTile).slo ∧ (h.tiles.getD k dTile).shi ≤ 20 := by
 have hx : h.tiles[k]? = some h.tiles[k] := List.getElem?_eq_getElem hk
 have ht := tileE_zero hx (ho.tile hk)
 rw [getD_of hx]
 unfold anyTwo
 exact ⟨among_bd (by omega), among_bd (by omega), by omega, by omega, by omega, by omega⟩
theorem layingR_parts {h : Hall} {l : List Seen} : ∀ (rows : List (List Int)) (r : Nat) (used : List Int) (most g : Int), layingR h l rows r used most = some g →
  (∀ (j : Nat) x, rows[j]? = some x → tilesE h.tiles.length (h.rows.getD (r + j) dRow).places x = 0 ∧ wrong8 h.most (gap8 h l (r + j) x) = 0 ∧ (gap8 h l (r + j) x).2 ≤ g) ∧ most ≤ g ∧ (most ≤ h.most → g ≤ h.most)
 | [], r, used, most, g, e => by
  unfold layingR at e
  injection e with e
  subst e
  exact ⟨fun j x hx => by simp at hx, Int.le_refl _, id⟩
 | y :: rows, r, used, most, g, e => by
  unfold layingR at e
  split at e
  ·cases e
  rename_i h1
  split at e
  ·cases e
  split at e
  ·cases e
  rename_i h3
  have h1 : tilesE h.tiles.length (h.rows.getD r dRow).places y = 0 := by simpa using h1
  have h3 : wrong8 h.most (gap8 h l r y) = 0 := by simpa using h3
  obtain ⟨ih1, ih2, ih3⟩ := layingR_parts rows (r + 1) _ _ g e
  have hw : (gap8 h l r y).2 ≤ h.most := by
   unfold wrong8 at h3
   split at h3
   ·cases h3
   split at h3
   ·cases h3
   omega
  refine ⟨fun j x hx => ?_, by omega, fun hm => ih3 (by omega)⟩
  cases j with
  | zero =>
   simp at hx
   subst hx
   exact ⟨h1, h3, by simp only [Nat.add_zero]; omega⟩
  | succ j =>
   have := ih1 j x (by simpa using hx)
   rw [show r + 1 + j = r + (j + 1) by omega] at this
   exact this
def TruthT (h : Hall) (t : List (Int × Int)) : Prop := t.length = h.tiles.length ∧ ∀ k, k < h.tiles.length → ((h.tiles.getD k dTile).wlo ≤ (t.getD k dTwo).1 ∧ (t.getD k dTwo).1 ≤ (h.tiles.getD k dTile).whi) ∧ (h.tiles.getD k dTile).slo ≤ (t.getD k dTwo).2 ∧ (t.getD k dTwo).2 ≤ (h.tiles.getD k dTile).shi
theorem truthT_mem {h : Hall} {t : List (Int × Int)} (ht : TruthT h t) {k : Nat} (hk : k < h.tiles.length) : t.getD k dTwo ∈ twosL h [] k := by
 obtain ⟨h1, h2⟩ := ht.2 k hk
 exact twos_mem8 h1 h2 rfl
theorem truthT_gap {h : Hall} {t : List (Int × Int)} {row : Nat} {tl : List Int} (ht : TruthT h t) (hT : ∀ i ∈ tl, 0 ≤ i ∧ i < h.tiles.length) (a : Int) : (at8 h [] row tl a).1 ≤ gapT h t row tl a ∧ gapT h t row tl a ≤ (at8 h [] row tl a).2 := by
 have hw : ∀ k, k < h.tiles.length → (wide8 h [] k a).1 ≤ (t.getD k dTwo).1 + (t.getD k dTwo).2 * a ∧ (t.getD k dTwo).1 + (t.getD k dTwo).2 * a ≤ (wide8 h [] k a).2 := fun k hk =>
  (wide_pair (List.ne_nil_of_mem (truthT_mem ht hk)) a).1 _ (truthT_mem ht hk)
 unfold at8 gapT
 have key : ∀ k, k ≤ tl.length → (atUpto h [] row tl a k).1 ≤ gapK t tl a ((h.rows.getD row dRow).frame + (h.rows.getD row dRow).swell * a) k ∧ gapK t tl a ((h.rows.getD row dRow).frame + (h.rows.getD row dRow).swell * a) k ≤ (atUpto h [] row tl a k).2 := by
  intro k
  induction k with
  | zero => intro _; exact ⟨Int.le_refl _, Int.le_refl _⟩
  | succ k ih =>
   intro hk
   obtain ⟨h1, h2⟩ := ih (by omega)
   have hx : tl[k]? = some tl[k] := List.getElem?_eq_getElem (by omega)
   obtain ⟨h0, hn⟩ := hT _ (List.mem_of_getElem? hx)
   have hw := hw (tl[k]).toNat (by omega)
   rw [atUpto_succ hx, gapK_succ hx]
   dsimp only
   omega
 exact key tl.length (Nat.le_refl _)
theorem top_laid {h : Hall} (e : (check8 h).2.2 = 0) (hag : agree8 h [] = true) :
  layR h [] = ([], 0, 8) ∨ ∃ rows g, layR h [] = (rows, g, 0) ∧ rows.length = h.rows.length ∧ g ≤ h.most ∧ ∀ (r : Nat) x, rows[r]? = some x → tilesE h.tiles.length (h.rows.getD r dRow).places x = 0 ∧ ∀ t, TruthT h t → ∀ a, h.alo ≤ a → a ≤ h.ahi → 0 ≤ gapT h t r x a ∧ gapT h t r x a ≤ g := by
 have hk : OkH h := okH_of e
 have e1 : (seen8 h []).2 = 0 := by rw [seen8_n e (by simp)]; rfl
 rcases laid_pack e1 hag with ⟨h1, _, _⟩ | ⟨rows, g, h1, _, h2, _⟩
 ·exact .inl h1
 right
 refine ⟨rows, g, h1, ?_⟩
 unfold layingT at h2
 split at h2
 ·injection h2 with _ h2; cases h2
 rename_i hlen
 have hlen : rows.length = h.rows.length := by simpa using hlen
 cases hr : layingR h [] rows 0 [] 0 with
 | none => rw [hr] at h2; injection h2 with _ h2; cases h2
 | some g2 =>
  rw [hr] at h2
  injection h2 with h2 _
  subst h2
  obtain ⟨p1, p2, p3⟩ := layingR_parts rows 0 [] 0 g2 hr
  refine ⟨hlen, p3 hk.most.1, fun r x hx => ?_⟩
  have hp := p1 r x hx
  rw [Nat.zero_add] at hp
  refine ⟨hp.1, fun t ht a ha1 ha2 => ?_⟩
  have hT : ∀ i ∈ x, 0 ≤ i ∧ i < h.tiles.length := fun i hi => by
   have hr2 : r < h.rows.length := by rw [← hlen]; exact of_getq' hx
   have hm := (tiles_lex hk hr2).1 hp.1
   have hs := (lex_sub _ _ _ hm).1.subset hi
   unfold numbersL at hs
   obtain ⟨j, hj, e2⟩ := List.mem_map.1 hs
   have := List.mem_range.1 hj
   omega
  have hg := truthT_gap (row := r) ht hT a
  have hb := (gap8_bd (l := []) (row := r) (tl := x) hk.air.2.1).1 a ha1 ha2
  have hw := hp.2.1
  unfold wrong8 at hw
  split at hw
  ·cases hw
  split at hw
  ·cases hw
  omega
open Go.RowKit
theorem infoTwo7 : (Tryz.prog.info? 100).map (fun i => (i.zero, i.size, i.bytes)) = some (some (.agg #[.int .i64 0, .int .i64 0]), 2, 16) := by kernel_rfl
theorem ends_at7 (L : List Int) : ∀ lo hi : Int, ((ends lo hi L).1 = lo ∨ (ends lo hi L).1 ∈ L) ∧ ((ends lo hi L).2 = hi ∨ (ends lo hi L).2 ∈ L) ∧ (ends lo hi L).1 ≤ lo ∧ hi ≤ (ends lo hi L).2 ∧ ∀ x ∈ L, (ends lo hi L).1 ≤ x ∧ x ≤ (ends lo hi L).2 := by
 induction L with
 | nil => intro lo hi; exact ⟨.inl rfl, .inl rfl, Int.le_refl _, Int.le_refl _, fun x h => by cases h⟩
 | cons y L ih =>
  intro lo hi
  obtain ⟨h1, h2, h3, h4, h5⟩ := ih (min lo y) (max hi y)
  simp only [ends]
  refine ⟨?_, ?_, by omega, by omega, fun x hx => ?_⟩
  ·rcases h1 with h1 | h1
   ·rw [h1]
    by_cases hm : lo ≤ y
    ·left; omega
    right; rw [show min lo y = y by omega]; exact List.mem_cons_self
   exact .inr (List.mem_cons_of_mem _ h1)
  ·rcases h2 with h2 | h2
   ·rw [h2]
    by_cases hm : y ≤ hi
    ·left; omega
    right; rw [show max hi y = y by omega]; exact List.mem_cons_self
   exact .inr (List.mem_cons_of_mem _ h2)
  rcases List.mem_cons.1 hx with rfl | hx
  ·omega
  exact h5 x hx
theorem endsOf_at7 {L : List Int} (h : L ≠ []) : (endsOf L).1 ∈ L ∧ (endsOf L).2 ∈ L ∧ ∀ x ∈ L, (endsOf L).1 ≤ x ∧ x ≤ (endsOf L).2 := by
 cases L with
 | nil => exact absurd rfl h
 | cons y L =>
  obtain ⟨h1, h2, h3, h4, h5⟩ := ends_at7 L y y
  simp only [endsOf]
  refine ⟨?_, ?_, fun x hx => ?_⟩
  ·rcases h1 with h1 | h1
   ·rw [h1]; exact List.mem_cons_self
   exact List.mem_cons_of_mem _ h1
  ·rcases h2 with h2 | h2
   ·rw [h2]; exact List.mem_cons_self
   exact List.mem_cons_of_mem _ h2
  rcases List.mem_cons.1 hx with rfl | hx
  ·exact ⟨h3, h4⟩
  exact h5 x hx
def InM (x : Mould) (p : Int × Int) : Prop := x.slo ≤ p.1 ∧ p.1 ≤ x.shi ∧ x.wlo ≤ p.2 ∧ p.2 ≤ x.whi
theorem twoOk_iff {l : List SeenC} {m : Nat} {k a w : Int} : twoOk7 l m k a w = true ↔ ∀ y ∈ l, y.mould = (m : Int) → y.lo ≤ made7 a w y.cast k ∧ made7 a w y.cast k ≤ y.hi := by
 unfold twoOk7
 rw [List.all_eq_true]
 constructor
 ·intro h y hy e
  have := h y hy
  simpa [e, inB] using this
 intro h y hy
 by_cases e : y.mould = (m : Int)
 ·have := h y hy e
  simp [e, inB, this]
 simp [e]
theorem twos_mem {s : Shop} {l : List SeenC} {m : Nat} {k : Int} {p : Int × Int} (hk : OkS s) (hm : m < s.moulds.length) : p ∈ twosC s l m k ↔ InM (s.moulds.getD m dMould) p ∧ twoOk7 l m k p.1 p.2 = true := by
 have hx : s.moulds[m]? = some s.moulds[m] := List.getElem?_eq_getElem hm
 have hz := mouldE_zero hx (hk.mould hm)
 unfold twosC
 rw [getD_of hx]
 generalize s.moulds[m] = x at *
 have hs : 0 < wearN x := by unfold wearN; omega
 rw [List.mem_filter]
 refine and_congr_left fun _ => ?_
 constructor
 ·intro hm1
  obtain ⟨j, hk2, rfl⟩ := List.mem_map.1 hm1
  have hk3 := List.mem_range.1 hk2
  have hd : j / wearN x < sizeN x := by rw [Nat.mul_comm] at hk3; exact Nat.div_lt_of_lt_mul hk3
  have hm2 : j % wearN x < wearN x := Nat.mod_lt _ hs
  unfold pairC InM
  dsimp only
  generalize j / wearN x = d at *
  generalize j % wearN x = e at *
  unfold sizeN at hd
  unfold wearN at hm2
  omega
 rintro ⟨h1, h2, h3, h4⟩
 have hd : (p.1 - x.slo).toNat < sizeN x := by unfold sizeN; omega
 have hw : (p.2 - x.wlo).toNat < wearN x := by unfold wearN; omega
 refine List.mem_map.2 ⟨(p.1 - x.slo).toNat * wearN x + (p.2 - x.wlo).toNat, List.mem_range.2 ?_, ?_⟩
 ·have : ((p.1 - x.slo).toNat + 1) * wearN x ≤ sizeN x * wearN x := Nat.mul_le_mul_right _ (by omega)
  rw [Nat.succ_mul] at this
  omega
 unfold pairC
 rw [Nat.add_comm, Nat.add_mul_div_right _ _ hs, Nat.div_eq_of_lt hw, Nat.add_mul_mod_self_right, Nat.mod_eq_of_lt hw, Nat.zero_add]
 exact Prod.ext (by dsimp only; omega) (by dsimp only; omega)
theorem shrink_mem {s : Shop} {k : Int} : k ∈ shrinkL s ↔ s.klo ≤ k ∧ k ≤ s.khi := by
 unfold shrinkL
 rw [List.mem_map]
 constructor
 ·rintro ⟨i, hi, rfl⟩
  have := List.mem_range.1 hi
  omega
 rintro ⟨h1, h2⟩
 exact ⟨(k - s.klo).toNat, List.mem_range.2 (by omega), by omega⟩
theorem knownB_iff {s : Shop} {l : List SeenC} {k : Int} : knownB s l k = true ↔ ∀ m, m < s.moulds.length → ∃ p, p ∈ twosC s l m k := by
 unfold knownB
 rw [List.all_eq_true]
 constructor
 ·intro h m hm
  have := h m (List.mem_range.2 hm)
  exact List.exists_mem_of_ne_nil _ (by simpa using this)
 intro h m hm
 obtain ⟨p, hp⟩ := h m (List.mem_range.1 hm)
 have := List.ne_nil_of_mem hp
 simpa using this
theorem known_iff {s : Shop} {l : List SeenC} {k : Int} : k ∈ known7 s l ↔ (s.klo ≤ k ∧ k ≤ s.khi) ∧ ∀ m, m < s.moulds.length → ∃ p, p ∈ twosC s l m k := by
 unfold known7
 rw [List.mem_filter, shrink_mem, knownB_iff]
theorem made_mem {s : Shop} {l : List SeenC} {m : Nat} {c n : Int} : n ∈ madeL s l m c ↔ ∃ k ∈ known7 s l, ∃ p ∈ twosC s l m k, made7 p.1 p.2 c k = n := by
 unfold madeL
 simp only [List.mem_flatMap, List.mem_map]
theorem made_ne {s : Shop} {l : List SeenC} {m : Nat} {c : Int} (hm : m < s.moulds.length) (h : known7 s l ≠ []) : madeL s l m c ≠ [] := by
 obtain ⟨k, hk⟩ := List.exists_mem_of_ne_nil _ h
 obtain ⟨p, hp⟩ := (known_iff.1 hk).2 m hm
 exact List.ne_nil_of_mem (made_mem.2 ⟨k, hk, p, hp, rfl⟩)
theorem size_at {s : Shop} {l : List SeenC} {m : Nat} {c : Int} (hm : m < s.moulds.length) (h : known7 s l ≠ []) : (size7 s l m c).1 ∈ madeL s l m c ∧ (size7 s l m c).2 ∈ madeL s l m c ∧ ∀ x ∈ madeL s l m c, (size7 s l m c).1 ≤ x ∧ x ≤ (size7 s l m c).2 :=
 endsOf_at7 (made_ne hm h)
theorem seen7_ok {s : Shop} {l : List SeenC} (h1 : (check7 s).2.2 = 0) (h2 : l.length ≤ 6) (h3 : ∀ k, k < l.length → seenE7 s l k = 0) : seen7 s l = (0, 0) := by
 rw [seen7_n h1 (by omega)]
 rw [firstErr_none h3]
theorem seenE_of {s : Shop} {l : List SeenC} {k : Nat} {y : SeenC} (h : l[k]? = some y) (h1 : 0 ≤ y.mould ∧ y.mould < s.moulds.length) (h2 : 0 ≤ y.cast ∧ y.cast < (s.moulds.getD y.mould.toNat dMould).casts) (h3 : 0 ≤ y.lo ∧ y.lo ≤ y.hi ∧ y.hi ≤ 20000) : seenE7 s l k = 0 := by
 unfold seenE7
 rw [getD_of h]
 dsimp only
 have ht : there7 s y.mould y.cast = true := by
  unfold there7
  simp only [inB, Bool.and_eq_true, decide_eq_true_eq]
  omega
 rw [ht]
 unfold rangeE
 simp [inB]
 omega
open Go.RowKit
def slotB : List Oper → Nat → Nat → Bool
 | [], _, _ => false
 | o :: l, d, 0 => (o.dst == some d) && l.all fun o' => !(o'.dst == some d)
 | _ :: l, d, j + 1 => slotB l d j
theorem put_other (a : Act) (x : Option Tmp) (d : Nat) (v : Value) (h : (x == some d) = false) : (a.put x v).tmps[d]? = a.tmps[d]? := by
 cases x with
 | none => rfl
 | some t =>
  have hne : t ≠ d := fun e => by rw [e] at h; simp at h
  simp only [Act.put]
  rw [Array.getElem?_setIfInBounds, if_neg hne]
theorem fillA_base (l : List Oper) : ∀ (k : Nat) (vs : Nat → Value) (a : Act) (d : Nat), (l.all fun o => !(o.dst == some d)) = true → (fillA l k vs a).tmps[d]? = a.tmps[d]? := by
 induction l with
 | nil => intros; rfl
 | cons o l ih =>
  intro k vs a d h
  rw [List.all_cons, Bool.and_eq_true] at h
  rw [fillA, ih (k + 1) vs _ d h.2, put_other a o.dst d _ (by simpa using h.1)]
theorem fillA_get (l : List Oper) : ∀ (k : Nat) (vs : Nat → Value) (a : Act) (d j : Nat), slotB l d j = true → d < a.tmps.size → (fillA l k vs a).tmps[d]? = some (vs (k + j)) := by
 induction l with
 | nil => intro k vs a d j h; cases h
 | cons o l ih =>
  intro k vs a d j h hd
  cases j with
  | zero =>
   rw [slotB, Bool.and_eq_true] at h
   rw [fillA, fillA_base l _ _ _ _ h.2]
   have e : o.dst = some d := by simpa using h.1
   rw [e]
   simp [Act.put, Array.getElem?_setIfInBounds, hd]
  | succ j =>
   rw [fillA, ih (k + 1) vs _ d j h (by cases o.dst <;> simpa [Act.put] using hd), show k + 1 + j = k + (j + 1) by omega]
theorem fillA_get0 {l : List Oper} {vs : Nat → Value} {a : Act} {d j : Nat} (h : slotB l d j = true) (hd : d < a.tmps.size) : (fillA l 0 vs a).tmps[d]? = some (vs j) := by
 have := fillA_get l 0 vs a d j h hd
 rwa [Nat.zero_add] at this
theorem fillA_base0 {l : List Oper} {vs : Nat → Value} {a : Act} {d : Nat} (h : (l.all fun o => !(o.dst == some d)) = true) : (fillA l 0 vs a).tmps[d]? = a.tmps[d]? := fillA_base l 0 vs a d h
theorem fillA_defers (l : List Oper) : ∀ (k : Nat) (vs : Nat → Value) (a : Act), (fillA l k vs a).defers = a.defers := by
 induction l with
 | nil => intros; rfl
 | cons o l ih => intro k vs a; rw [fillA, ih]; cases o.dst <;> rfl
theorem Fin1.none {P : Program} {ops : Array Oper} {C : World → Prop} {E : Nat → Value → World → Prop} {Q : Exit → Act → World → Prop} {a0 : Act} {m : Nat} (hm : ops.size ≤ m)
  (h : ∀ (vs : Nat → Value) (w : World) (a1 : Act), C w → (∀ i, i < m → E i (vs i) w) → a1 = fillA ops.toList 0 vs a0 → Q .normal a1 w) : Fin1 P ops C E Q a0 m := by
 intro vs w hC hE hU
 rw [Array.getElem?_eq_none hm]
 exact h vs w _ hC hE rfl
theorem wp_frame {c : Code} {P : Program} {Q : Exit → Act → World → Prop} {a : Act} {w : World} (h : ∀ a0 : Act, a0.tmps.size = a.tmps.size → (∀ i : Nat, a0.tmps[i]? = a.tmps[i]?) → a0.defers = a.defers → c.wp P Q a0 w) : c.wp P Q a w := h a rfl (fun _ => rfl) rfl
theorem fg {l : List Oper} {vs : Nat → Value} {a a0 : Act} {N : Nat} (d j : Nat) (ha : a = fillA l 0 vs a0) (hs : a0.tmps.size = N) (h : slotB l d j = true) (hd : d < N) : a.tmps[d]? = some (vs j) := by
  subst ha; exact fillA_get0 h (by rw [hs]; exact hd)
theorem fq {l : List Oper} {vs : Nat → Value} {a a0 : Act} {N : Nat} {v : Value} (d j : Nat) (ha : a = fillA l 0 vs a0) (hs : a0.tmps.size = N) (h : slotB l d j = true) (hd : d < N) (hq : vs j = v) : a.tmps[d]? = some v := by
  rw [fg d j ha hs h hd, show vs j = v from hq]
theorem fb {l : List Oper} {vs : Nat → Value} {a a0 : Act} {d : Nat} {v : Value} (ha : a = fillA l 0 vs a0) (h : (l.all fun o => !(o.dst == some d)) = true) (tb : a0.tmps[d]? = some v) : a.tmps[d]? = some v := by
  subst ha; rw [fillA_base0 h]; exact tb
end Go.Proofs.YtdbfincinjoppaaGreat
