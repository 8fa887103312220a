/- Walks: the reference's Wide. -/
import Derived.Test.YtpbimgafafkjgaaCTRefE
set_option linter.unusedVariables false
set_option linter.unusedSimpArgs false
set_option linter.all false
namespace Go.Proofs.Ytpbimgafafkjgaa
open Go.RowKit

/-- the least and the greatest of the first k, as they are reckoned -/
def wideK (L : List (Int × Int)) (a : Int) (k : Nat) (v0 : Int) : Int × Int := if k = 0 then (v0, 0) else wideOf (L.take k) a
theorem wideK_0 {L : List (Int × Int)} {p : Int × Int} {a : Int} (h : L[0]? = some p) (h0 : 0 ≤ p.1 + p.2 * a) : wideK L a 1 (p.1 + p.2 * a) = (min (p.1 + p.2 * a) (p.1 + p.2 * a), max 0 (p.1 + p.2 * a)) := by
  have : L.take 1 = [p] := by
    cases L with
    | nil => cases h
    | cons q L => simp at h; subst h; rfl
  rw [wideK, if_neg (by decide), this, wideOf_one]
  rw [Int.min_self, Int.max_eq_right h0]
theorem wideK_snoc {L : List (Int × Int)} {p : Int × Int} {a v0 : Int} {k : Nat} (hk : k ≠ 0) (h : L[k]? = some p) : wideK L a (k + 1) v0 = (min (wideK L a k v0).1 (p.1 + p.2 * a), max (wideK L a k v0).2 (p.1 + p.2 * a)) := by
  rw [wideK, if_neg (by omega), wideK, if_neg hk, take_snoc_get h]
  exact wideOf_snoc (by intro e; have h1 := congrArg List.length e; rw [List.length_take] at h1; have h2 := of_getq h; simp only [List.length_nil] at h1; omega) _ _

set_option maxHeartbeats 2000000 in
set_option maxRecDepth 100000 in
theorem rwide_any {A B C : Option Addr} {n ca m cb q cc t a : Nat} {h : Hall} {l : List Seen} {v1 v2 v3 : Value} (w : World) (g : HallAt (fun _ => True) w A n B m h) (gs : Seens (fun _ => True) w C q l)
    (hv1 : v1.oneCell' = true) (hv2 : v2.oneCell' = true) (hv3 : v3.oneCell' = true) (hk : OkH h) (hq6 : l.length ≤ 6) (hsn : ∀ (k : Nat) (y : Seen), l[k]? = some y → 0 ≤ y.air ∧ y.air ≤ 40)
    (ht : t < h.tiles.length) (ha : a ≤ 40) (hne : twosL h l t ≠ []) :
    Calls Try.prog 58 #[.agg #[v1, v2, v3, .slice A n ca, .slice B m cb], .slice C q cc, .int .i64 t, .int .i64 a] w fun e w' => e = .returned (.agg #[.int .i64 (wide8 h l t a).1, .int .i64 (wide8 h l t a).2]) ∧ Below w.heap.size w w' := by
  obtain ⟨W, hW⟩ : ∃ W, (w.alloc (.cells #[v1, v2, v3, .slice A n ca, .slice B m cb] 27)).alloc (.cells #[.int .i64 0, .int .i64 0] 23) = W := ⟨_, rfl⟩
  have X : Blk W w.heap.size 27 #[v1, v2, v3, .slice A n ca, .slice B m cb] := by rw [← hW]; exact (Blk.new _ _ _ rfl).alloc _
  have X8 : Blk W (w.heap.size + 1) 23 #[.int .i64 0, .int .i64 0] := by rw [← hW]; exact Blk.new _ _ _ (by simp)
  have hBW : Below w.heap.size w W := by rw [← hW]; exact bl_alloc (bl_alloc (Below.refl _ _) _ (Nat.le_refl _)) _ (Nat.le_refl _)
  have hc := g.keep (Keeps.below hBW)
  have hs := gs.keep SeenR.good (Keeps.below hBW)
  have hWs : w.heap.size ≤ W.heap.size := hBW.size
  have HW := Lib.hid hW
  have x0 : W.cell? ⟨w.heap.size, 0, none⟩ = some v1 := X.cell 0
  have x1 : W.cell? ⟨w.heap.size, 1, none⟩ = some v2 := X.cell 1
  have x2 : W.cell? ⟨w.heap.size, 2, none⟩ = some v3 := X.cell 2
  have x3 : W.cell? ⟨w.heap.size, 3, none⟩ = some (.slice A n ca) := X.cell 3
  have x4 : W.cell? ⟨w.heap.size, 4, none⟩ = some (.slice B m cb) := X.cell 4
  clear hW g gs X
  go_enter Try.func58, Try.ntmps58
  go_wp2_with fail
  rw [HW.out]
  refine (twos_any W hc hs hv1 hv2 hv3 hk ht hq6 hsn).mono ?_
  rintro e w1 ⟨⟨A', k', c', rfl, hT⟩, hb1⟩
  obtain ⟨L, hL⟩ : ∃ L, twosL h l t = L := ⟨_, rfl⟩
  have HV : Hid (∀ p ∈ L, 0 ≤ p.1 ∧ p.1 ≤ 20100 ∧ 0 ≤ p.2 ∧ p.2 ≤ 30) := fun p hp => twos_bd hk ht (by rw [hL]; exact hp)
  rw [hL] at hT hne
  have HR : Hid (wide8 h l t a = wideOf L a) := by rw [Hid, wide8, hL]
  have hlen := hT.len
  have hkl := hT.le
  have hk0 : 0 < k' := by rw [← hlen]; exact List.length_pos_iff.2 hne
  have Hlen := Lib.hid hlen
  have Y8 := X8.bl hb1
  have B1 : Below w.heap.size w w1 := bl_call hBW hb1 (Nat.le_refl _)
  obtain ⟨b, off, p1, p2, rfl, hbb, hc0, hc1, Hp⟩ := TwosAt.get hT hk0
  obtain ⟨hp1, hp2, hp3, hp4⟩ := HV.out _ (List.mem_of_getElem? Hp.out)
  dsimp only at hp1 hp2 hp3 hp4
  have hm1 : 0 ≤ p2 * (a : Int) := Int.mul_nonneg hp3 (by omega)
  have hm2 : p2 * (a : Int) ≤ 30 * 40 := Int.mul_le_mul hp4 (by omega) (by omega) (by decide)
  have hw1 : IntKind.i64.wrap (p2 * (a : Int)) = p2 * (a : Int) := by rw [IntKind.wrap_i64]; omega
  have hw2 : IntKind.i64.wrap (p1 + p2 * (a : Int)) = p1 + p2 * (a : Int) := by rw [IntKind.wrap_i64]; omega
  have hc0' : w1.cell? ⟨b, off, none⟩ = some (.int .i64 p1) := by simpa using hc0
  have hc1' : w1.cell? ⟨b, off + 1, none⟩ = some (.int .i64 p2) := by simpa using hc1
  have hki : (0 : Int) < k' := by omega
  have hbk : ∀ k, k' ≤ k → True := fun _ _ => trivial
  clear x0 x1 x2 x3 x4 X8 hc hs hL hne hc0 hc1 hb1 hbk
  go_wp2_with fail
  have kk : Hid (∀ w', Below w1.heap.size w1 w' → w'.cell? ⟨b, off, none⟩ = some (.int .i64 p1) ∧ w'.cell? ⟨b, off + 1, none⟩ = some (.int .i64 p2) ∧ Below w1.heap.size w1 w') := fun w' b => ⟨getc b hc0', getc b hc1', b⟩
  go_region_held3 (fun w' => w'.cell? ⟨b, off, none⟩ = some (.int .i64 p1) ∧ w'.cell? ⟨b, off + 1, none⟩ = some (.int .i64 p2) ∧ Below w1.heap.size w1 w')
    (first | exact kk.out _ (Below.refl _ _).drew | exact kk.out _ (Below.refl _ _) | exact kk.out _ (bl_alloc (Below.refl _ _).drew _ (Nat.le_refl _)))
    (fail)
  rename_i hHeld
  clear hHeld kk
  obtain ⟨gg, hgg⟩ : ∃ gg, w1.heap.size = gg := ⟨_, rfl⟩
  obtain ⟨v0, hv0⟩ : ∃ v0 : Int, p1 + p2 * (a : Int) = v0 := ⟨_, rfl⟩
  have HV0 := Lib.hid hv0
  rw [hv0] at hw2 ⊢
  have hvb : 0 ≤ v0 ∧ v0 ≤ 21300 := by omega
  obtain ⟨Wl, hWl⟩ : ∃ Wl, (w1.alloc (.cells #[.int .i64 v0, .int .i64 0] 23)).drew = Wl := ⟨_, rfl⟩
  have RG : Blk Wl gg 23 #[.int .i64 v0, .int .i64 0] := by rw [← hWl]; exact Blk.new _ _ _ hgg.symm
  have bl : Below w1.heap.size w1 Wl := by rw [← hWl]; exact (bl_alloc (Below.refl _ _) _ (Nat.le_refl _)).drew
  have RE := Y8.bl bl
  have hTl := (hT.bound TwoR.good).keep TwoR.good (Keeps.below bl)
  have BL : Below w.heap.size w Wl := bl_call B1 bl (Nat.le_refl _)
  have hg8 : w.heap.size + 1 < gg := by rw [← hgg]; exact Y8.lt
  rw [hWl, hgg]
  rw [hgg] at hTl
  clear hWl hgg hv0 Y8 hT bl B1 hc0' hc1' hw1 hw2 hbb hm1 hm2 hp1 hp2 hp3 hp4
  have HBL := Lib.hid BL
  clear BL
  go_wp2_with fail
  go_loopw [11] (fun i wr => ∃ (j : Nat) (lo hi : Int), i = .int .i64 j ∧ j ≤ k' ∧ 0 ≤ lo ∧ lo ≤ 21300 ∧ 0 ≤ hi ∧ hi ≤ 21300 ∧ Hid (wideK L a j v0 = (lo, hi)) ∧ Hid (Kept (fun x => x = gg) Wl wr) ∧ Hid (Blk wr gg 23 #[.int .i64 lo, .int .i64 hi])) (fun i _ => k' - (intOf i).toNat)
  case atStart => exact ⟨0, v0, 0, rfl, Nat.zero_le _, by omega, by omega, by omega, by omega, rfl, Kept.refl _ _, RG⟩
  case round =>
    obtain ⟨j, lo, hi, rfl, hj, hb1, hb2, hb3, hb4, HA, HK, HB⟩ := hrel
    have hBl : Below w.heap.size w wr := HBL.out.trans (HK.out.below (B := w.heap.size) HBL.out.size (fun x hx => by omega))
    by_cases hlt : j < k'
    · have hji : (j : Int) < k' := by omega
      have hTr := hTl.keep TwoR.good (HK.out.keeps (fun x hx e => by have h1 : x = gg := e; have h2 := hx.2; omega))
      obtain ⟨b2, off2, p1, p2, hA2, hbb, hc0, hc1, Hx⟩ := TwosAt.get hTr hlt
      obtain ⟨rfl, rfl⟩ : b2 = b ∧ off2 = off := by simpa [eq_comm] using hA2
      obtain ⟨hp1, hp2, hp3, hp4⟩ := HV.out _ (List.mem_of_getElem? Hx.out)
      dsimp only at hp1 hp2 hp3 hp4
      have hm1 : 0 ≤ p2 * (a : Int) := Int.mul_nonneg hp3 (by omega)
      have hm2 : p2 * (a : Int) ≤ 30 * 40 := Int.mul_le_mul hp4 (by omega) (by omega) (by decide)
      have hw1 : IntKind.i64.wrap (p2 * (a : Int)) = p2 * (a : Int) := by rw [IntKind.wrap_i64]; omega
      have hw2 : IntKind.i64.wrap (p1 + p2 * (a : Int)) = p1 + p2 * (a : Int) := by rw [IntKind.wrap_i64]; omega
      have HA1 : Hid (wideK L a (j + 1) v0 = (min lo (p1 + p2 * a), max hi (p1 + p2 * a))) := by
        by_cases hj0 : j = 0
        · subst hj0
          have h1 := HA.out
          rw [wideK, if_pos rfl] at h1
          obtain ⟨rfl, rfl⟩ : v0 = lo ∧ (0 : Int) = hi := by simpa using h1
          have h2 : (p1, p2) = _ := Option.some.inj (Hx.out.symm.trans Hp.out)
          obtain ⟨e1, e2⟩ := Prod.mk.inj h2
          have hv : p1 + p2 * (a : Int) = v0 := by rw [e1, e2]; exact HV0.out
          have h3 := wideK_0 Hx.out (by dsimp only; exact Int.add_nonneg hp1 hm1)
          dsimp only at h3
          rw [hv] at h3 ⊢
          exact h3
        · rw [Hid, wideK_snoc hj0 Hx.out, HA.out]
      obtain ⟨xx, hxx⟩ : ∃ xx : Int, p1 + p2 * (a : Int) = xx := ⟨_, rfl⟩
      have hmn : 0 ≤ min lo xx ∧ min lo xx ≤ 21300 ∧ 0 ≤ max hi xx ∧ max hi xx ≤ 21300 := by omega
      rw [hxx] at hw2 HA1
      clear hm1 hm2
      have q0 := HB.out.cell 0
      have q1 := HB.out.cell 1
      have fq0 := HB.out.frozen 0
      have fq1 := HB.out.frozen 1
      have hggl := HB.out.lt
      go_wp2_with fail
      go_quiet (fail)
      go_wp2_with fail
      simp only [min_if, max_if]
      go_roundw
      case rel => exact ⟨j + 1, min lo xx, max hi xx, by go_num, by omega, hmn.1, hmn.2.1, hmn.2.2.1, hmn.2.2.2, HA1, ((HK.out.trans (Kept.drewN _ _ _)).trans (Kept.setCell _ _ _ rfl)).trans (Kept.setCell _ _ _ rfl), (HB.out.drewN _).set2 _ _⟩
      case measure => simp [intOf]; omega
    · obtain rfl : j = k' := by omega
      have HR2 : Hid (wide8 h l t a = (lo, hi)) := by
        have := HA.out
        rw [wideK, if_neg (by omega), List.take_of_length_le (by rw [Hlen.out]; exact Nat.le_refl _)] at this
        rw [Hid, HR.out, this]
      have hR8 : Blk wr (w.heap.size + 1) 23 #[.int .i64 0, .int .i64 0] := (HK.out.block _ RE.lt (by omega)).trans RE
      have q0 := HB.out.cell 0
      have q1 := HB.out.cell 1
      have z0 := hR8.cell 0
      have z1 := hR8.cell 1
      have fz0 := hR8.frozen 0
      have fz1 := hR8.frozen 1
      have hHR := Lib.hid hR8
      clear hR8
      go_wp2_with fail
      exact bodyPost_ret (ret_span1 rfl rfl (hHR.out.set2 _ _).c0 (hHR.out.set2 _ _).c1) rfl ⟨by rw [HR2.out], bl_set (bl_set hBl (by dsimp only; omega) _) (by dsimp only; omega) _⟩

end Go.Proofs.Ytpbimgafafkjgaa
