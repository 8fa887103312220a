/- Plain: a truth by turns, and what is measured in it, agree. Nothing of a program stands here. -/
import Derived.Test.YtpbimgafafkjgaaCTAirPs
import Derived.Test.YtpbimgafafkjgaaCTDryPs
import Derived.Test.YtpbimgafafkjgaaCTOuts2
set_option linter.unusedVariables false
set_option linter.unusedSimpArgs false
set_option linter.all false
namespace Go.Proofs.Ytpbimgafafkjgaa

theorem among_bd {a z : Int} {n : Nat} (h : a ≤ z) : a ≤ amongI a z n ∧ amongI a z n ≤ z := by
  unfold amongI
  obtain ⟨d, hd⟩ := Int.eq_ofNat_of_zero_le (show 0 ≤ z - a + 1 by omega)
  rw [Int.tmod_eq_emod_of_nonneg (by omega), hd]
  have e1 : (n : Int) % (d : Int) = ((n % d : Nat) : Int) := rfl
  have e2 : n % d < d := Nat.mod_lt _ (by omega)
  omega
/-- a width and a swell within their ranges are among those of the tile, if they agree -/
theorem twos_mem {h : Hall} {l : List Seen} {t : Nat} {p : Int × Int} (hw : (h.tiles.getD t dTile).wlo ≤ p.1 ∧ p.1 ≤ (h.tiles.getD t dTile).whi) (hs : (h.tiles.getD t dTile).slo ≤ p.2 ∧ p.2 ≤ (h.tiles.getD t dTile).shi) (ho : twoOk l t p.1 p.2 = true) : p ∈ twosL h l t := by
  unfold twosL twosK
  generalize h.tiles.getD t dTile = x at hw hs
  refine List.mem_filter.2 ⟨List.mem_map.2 ⟨(p.1 - x.wlo).toNat * swellN x + (p.2 - x.slo).toNat, List.mem_range.2 ?_, ?_⟩, ho⟩
  · have h1 : (p.2 - x.slo).toNat < swellN x := by unfold swellN; omega
    have h2 : (p.1 - x.wlo).toNat < wideN x := by unfold wideN; omega
    calc (p.1 - x.wlo).toNat * swellN x + (p.2 - x.slo).toNat < (p.1 - x.wlo).toNat * swellN x + swellN x := by omega
      _ = ((p.1 - x.wlo).toNat + 1) * swellN x := by rw [Nat.succ_mul]
      _ ≤ wideN x * swellN x := Nat.mul_le_mul_right _ h2
  · have h1 : (p.2 - x.slo).toNat < swellN x := by unfold swellN; omega
    have h3 : 0 < swellN x := by omega
    unfold pairN
    have e1 : ((p.1 - x.wlo).toNat * swellN x + (p.2 - x.slo).toNat) / swellN x = (p.1 - x.wlo).toNat := by
      rw [Nat.mul_comm, Nat.mul_add_div h3, Nat.div_eq_of_lt h1, Nat.add_zero]
    have e2 : ((p.1 - x.wlo).toNat * swellN x + (p.2 - x.slo).toNat) % swellN x = (p.2 - x.slo).toNat := by
      rw [Nat.mul_comm, Nat.mul_add_mod, Nat.mod_eq_of_lt h1]
    rw [e1, e2]
    ext <;> dsimp only <;> omega
/-- what is told of a truth -/
theorem told_of {t : List (Int × Int)} {xs : List Nat} (ht : 1 ≤ t.length) (hb : ∀ p ∈ t, 0 ≤ p.1 ∧ p.1 ≤ 20000 ∧ 0 ≤ p.2 ∧ p.2 ≤ 20) {y : Seen} (hy : y ∈ toldL t xs) :
    ∃ k air : Nat, k < t.length ∧ air ≤ 40 ∧ y.tile = k ∧ y.air = air ∧ 0 ≤ y.lo ∧ y.lo ≤ (t.getD k dTwo).1 + (t.getD k dTwo).2 * (air : Int) ∧ (t.getD k dTwo).1 + (t.getD k dTwo).2 * (air : Int) ≤ y.hi ∧ y.hi ≤ 40000 := by
  unfold toldL toldK at hy
  obtain ⟨r, _, rfl⟩ := List.mem_map.1 hy
  refine ⟨xs.getD (4 * r) 0 % t.length, xs.getD (4 * r + 1) 0 % 41, Nat.mod_lt _ (by omega), by have := Nat.mod_lt (xs.getD (4 * r + 1) 0) (show 0 < 41 by decide); omega, rfl, rfl, ?_⟩
  generalize hk : xs.getD (4 * r) 0 % t.length = k
  have hkl : k < t.length := by rw [← hk]; exact Nat.mod_lt _ (by omega)
  have hp := hb _ (List.getElem_mem hkl)
  have hg : t.getD k dTwo = t[k] := getD_of (List.getElem?_eq_getElem hkl)
  generalize ha : xs.getD (4 * r + 1) 0 % 41 = air
  have hair : air ≤ 40 := by have := Nat.mod_lt (xs.getD (4 * r + 1) 0) (show 0 < 41 by decide); omega
  have h1 : 0 ≤ (t[k]).2 * (air : Int) := Int.mul_nonneg hp.2.2.1 (by omega)
  have h2 : (t[k]).2 * (air : Int) ≤ 20 * 40 := Int.mul_le_mul hp.2.2.2 (by omega) (by omega) (by decide)
  unfold toldS
  dsimp only
  rw [hk, ha, hg]
  omega
theorem told_len (t : List (Int × Int)) (xs : List Nat) : (toldL t xs).length ≤ 6 := by
  unfold toldL; rw [toldK_len]; omega

end Go.Proofs.Ytpbimgafafkjgaa

namespace Go.Proofs.Ytpbimgafafkjgaa

theorem anyL_len (h : Hall) (xs : List Nat) : (anyL h xs).length = h.tiles.length := anyK_len _ _ _
theorem anyL_get {h : Hall} {xs : List Nat} {k : Nat} (hk : k < h.tiles.length) : (anyL h xs)[k]? = some (anyTwo (h.tiles.getD k dTile) xs k) := by
  unfold anyL anyK
  rw [List.getElem?_map, List.getElem?_range hk]; rfl
theorem any_in {h : Hall} {xs : List Nat} {k : Nat} (ho : OkH h) (hk : k < h.tiles.length) : ((h.tiles.getD k dTile).wlo ≤ (anyTwo (h.tiles.getD k dTile) xs k).1 ∧ (anyTwo (h.tiles.getD k dTile) xs k).1 ≤ (h.tiles.getD k dTile).whi) ∧ ((h.tiles.getD k dTile).slo ≤ (anyTwo (h.tiles.getD k dTile) xs k).2 ∧ (anyTwo (h.tiles.getD k dTile) xs k).2 ≤ (h.tiles.getD k dTile).shi) ∧ 0 ≤ (h.tiles.getD k dTile).wlo ∧ (h.tiles.getD k dTile).whi ≤ 20000 ∧ 0 ≤ (h.tiles.getD k dTile).slo ∧ (h.tiles.getD k dTile).shi ≤ 20 := by
  have hx : h.tiles[k]? = some h.tiles[k] := List.getElem?_eq_getElem hk
  have ht := tileE_zero hx (ho.tile hk)
  rw [getD_of hx]
  unfold anyTwo
  exact ⟨among_bd (by omega), among_bd (by omega), by omega, by omega, by omega, by omega⟩
theorem any_bd {h : Hall} {xs : List Nat} (ho : OkH h) : ∀ p ∈ anyL h xs, 0 ≤ p.1 ∧ p.1 ≤ 20000 ∧ 0 ≤ p.2 ∧ p.2 ≤ 20 := by
  intro p hp
  obtain ⟨k, hk, rfl⟩ := List.getElem_of_mem hp
  rw [anyL_len] at hk
  have h1 := anyL_get (xs := xs) hk
  rw [List.getElem?_eq_getElem (by rw [anyL_len]; exact hk)] at h1
  rw [Option.some.inj h1]
  have := any_in (xs := xs) ho hk
  omega
theorem told_seen {h : Hall} {xs ys : List Nat} (e : (check8 h).2.2 = 0) : (seen8 h (toldL (anyL h xs) ys)).2 = 0 := by
  have ho := okH_of e
  unfold seen8
  rw [if_neg (show ¬ err8 h ≠ 0 by unfold err8; rw [e]; decide), if_neg (show ¬ 6 < (toldL (anyL h xs) ys).length by have := told_len (anyL h xs) ys; omega)]
  rw [firstErr_none (fun k hk => ?_)]
  have hx : (toldL (anyL h xs) ys)[k]? = some (toldL (anyL h xs) ys)[k] := List.getElem?_eq_getElem hk
  obtain ⟨k2, air, q1, q2, q3, q4, q5, q6, q7, q8⟩ := told_of (t := anyL h xs) (xs := ys) (by rw [anyL_len]; exact ho.nt.1) (any_bd ho) (List.getElem_mem hk)
  rw [anyL_len] at q1
  unfold seenE
  rw [getD_of hx]
  dsimp only
  generalize (toldL (anyL h xs) ys)[k] = y at q3 q4 q5 q6 q7 q8
  have p1 : inB y.tile 0 ((h.tiles.length : Int) - 1) = true := by simp [inB]; omega
  have p2 : inB y.air 0 40 = true := by simp [inB]; omega
  have p3 : inB y.lo 0 40000 = true := by simp [inB]; omega
  have p4 : inB y.hi 0 40000 = true := by simp [inB]; omega
  rw [p1, p2, p3, p4, if_neg (by decide), if_neg (by decide), if_neg (by omega)]
theorem told_mem {h : Hall} {xs ys : List Nat} (e : (check8 h).2.2 = 0) {k : Nat} (hk : k < h.tiles.length) : (anyL h xs).getD k dTwo ∈ twosL h (toldL (anyL h xs) ys) k := by
  have ho := okH_of e
  have hg : (anyL h xs).getD k dTwo = anyTwo (h.tiles.getD k dTile) xs k := getD_of (anyL_get hk)
  have hin := any_in (xs := xs) ho hk
  refine twos_mem (by rw [hg]; exact hin.1) (by rw [hg]; exact hin.2.1) ?_
  unfold twoOk
  rw [List.all_eq_true]
  intro y hy
  obtain ⟨k2, air, q1, q2, q3, q4, q5, q6, q7, q8⟩ := told_of (t := anyL h xs) (xs := ys) (by rw [anyL_len]; exact ho.nt.1) (any_bd ho) hy
  by_cases hkk : k2 = k
  · subst hkk
    rw [q4]
    have : inB (((anyL h xs).getD k2 dTwo).1 + ((anyL h xs).getD k2 dTwo).2 * (air : Int)) y.lo y.hi = true := by
      generalize ((anyL h xs).getD k2 dTwo).1 + ((anyL h xs).getD k2 dTwo).2 * (air : Int) = N at q6 q7 ⊢
      simp [inB]; omega
    rw [this]; simp
  · have : (y.tile == (k : Int)) = false := by rw [q3]; simp; omega
    rw [this]; rfl
theorem told_agree {h : Hall} {xs ys : List Nat} (e : (check8 h).2.2 = 0) : agree8 h (toldL (anyL h xs) ys) = true := by
  unfold agree8
  rw [List.all_eq_true]
  intro k hk
  have := told_mem (xs := xs) (ys := ys) e (List.mem_range.1 hk)
  cases hl : twosL h (toldL (anyL h xs) ys) k with
  | nil => rw [hl] at this; cases this
  | cons a l => rfl
theorem told_wide {h : Hall} {xs ys : List Nat} (e : (check8 h).2.2 = 0) {k : Nat} (hk : k < h.tiles.length) (a : Int) : (wide8 h (toldL (anyL h xs) ys) k a).1 ≤ ((anyL h xs).getD k dTwo).1 + ((anyL h xs).getD k dTwo).2 * a ∧ ((anyL h xs).getD k dTwo).1 + ((anyL h xs).getD k dTwo).2 * a ≤ (wide8 h (toldL (anyL h xs) ys) k a).2 := by
  have hm := told_mem (xs := xs) (ys := ys) e hk
  exact (wide_pair (List.ne_nil_of_mem hm) a).1 _ hm
theorem told_gap {h : Hall} {xs ys : List Nat} {row : Nat} {tl : List Int} (e : (check8 h).2.2 = 0) (hT : ∀ i ∈ tl, 0 ≤ i ∧ i < h.tiles.length) (a : Int) : (at8 h (toldL (anyL h xs) ys) row tl a).1 ≤ gapT h (anyL h xs) row tl a ∧ gapT h (anyL h xs) row tl a ≤ (at8 h (toldL (anyL h xs) ys) row tl a).2 := by
  unfold at8 gapT
  have key : ∀ k, k ≤ tl.length → (atUpto h (toldL (anyL h xs) ys) row tl a k).1 ≤ gapK (anyL h xs) tl a ((h.rows.getD row dRow).frame + (h.rows.getD row dRow).swell * a) k ∧ gapK (anyL h xs) tl a ((h.rows.getD row dRow).frame + (h.rows.getD row dRow).swell * a) k ≤ (atUpto h (toldL (anyL h xs) ys) row tl a k).2 := by
    intro k
    induction k with
    | zero => intro _; exact ⟨Int.le_refl _, Int.le_refl _⟩
    | succ k ih =>
      intro hk
      obtain ⟨h1, h2⟩ := ih (by omega)
      have hx : tl[k]? = some tl[k] := List.getElem?_eq_getElem (by omega)
      obtain ⟨h0, hn⟩ := hT _ (List.mem_of_getElem? hx)
      have hw := told_wide (xs := xs) (ys := ys) e (k := (tl[k]).toNat) (by omega) a
      rw [atUpto_succ hx, gapK_succ hx]
      dsimp only
      omega
  exact key _ (Nat.le_refl _)

end Go.Proofs.Ytpbimgafafkjgaa
