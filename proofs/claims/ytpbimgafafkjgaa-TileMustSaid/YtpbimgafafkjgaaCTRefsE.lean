/- Walks: the reference's Agree, Wide. -/
import Derived.Test.YtpbimgafafkjgaaCTAnsws
import Derived.Test.YtpbimgafafkjgaaCTAt
import Derived.Test.YtpbimgafafkjgaaCTRefD
set_option linter.unusedVariables false
set_option linter.unusedSimpArgs false
set_option linter.all false
namespace Go.Proofs.Ytpbimgafafkjgaa
open Go.RowKit

theorem agree_all {h : Hall} {l : List Seen} (g : ∀ j, j < h.tiles.length → twosL h l j ≠ []) : agree8 h l = true := by
  unfold agree8
  rw [List.all_eq_true]
  intro t ht
  have := g t (List.mem_range.1 ht)
  cases e : twosL h l t with
  | nil => exact absurd e this
  | cons x xs => rfl
theorem agree_no {h : Hall} {l : List Seen} {t : Nat} (ht : t < h.tiles.length) (g : twosL h l t = []) : agree8 h l = false := by
  cases e : agree8 h l
  · rfl
  · exact absurd g (agree_ne e ht)

set_option maxHeartbeats 1000000 in
theorem ragree_any {A B C : Option Addr} {n ca m cb q cc : Nat} {h : Hall} {l : List Seen} {v1 v2 v3 : Value} (w : World) (g : HallAt (fun _ => True) w A n B m h) (gs : Seens (fun _ => True) w C q l)
    (hv1 : v1.oneCell' = true) (hv2 : v2.oneCell' = true) (hv3 : v3.oneCell' = true) (hk : OkH h) (hq6 : l.length ≤ 6) (hsn : ∀ (k : Nat) (y : Seen), l[k]? = some y → 0 ≤ y.air ∧ y.air ≤ 40) :
    Calls Try.prog 57 #[.agg #[v1, v2, v3, .slice A n ca, .slice B m cb], .slice C q cc] w fun e w' => e = .returned (.bool (agree8 h l)) ∧ Below w.heap.size w w' := by
  have hle := g.ts.le
  have Hn := Lib.hid g.ts.len
  obtain ⟨W, hW⟩ : ∃ W, w.alloc (.cells #[v1, v2, v3, .slice A n ca, .slice B m cb] 27) = W := ⟨_, rfl⟩
  have X : Blk W w.heap.size 27 #[v1, v2, v3, .slice A n ca, .slice B m cb] := by rw [← hW]; exact Blk.new _ _ _ rfl
  have hBW : Below w.heap.size w W := by rw [← hW]; exact bl_alloc (Below.refl _ _) _ (Nat.le_refl _)
  have hc := g.keep (Keeps.below hBW)
  have hs := gs.keep SeenR.good (Keeps.below hBW)
  have hWs : w.heap.size ≤ W.heap.size := hBW.size
  have HW := Lib.hid hW
  have x0 : W.cell? ⟨w.heap.size, 0, none⟩ = some v1 := X.cell 0
  have x1 : W.cell? ⟨w.heap.size, 1, none⟩ = some v2 := X.cell 1
  have x2 : W.cell? ⟨w.heap.size, 2, none⟩ = some v3 := X.cell 2
  have x3 : W.cell? ⟨w.heap.size, 3, none⟩ = some (.slice A n ca) := X.cell 3
  have x4 : W.cell? ⟨w.heap.size, 4, none⟩ = some (.slice B m cb) := X.cell 4
  clear hW g gs X
  go_enter Try.func57, Try.ntmps57
  go_wp2_with fail
  rw [HW.out]
  go_loopw [5] (fun i wr => ∃ k : Nat, k ≤ n ∧ i = .int .i64 k ∧ Below W.heap.size W wr ∧ Hid (∀ j, j < k → twosL h l j ≠ [])) (fun i _ => n - (intOf i).toNat)
  case atStart => exact ⟨0, Nat.zero_le _, rfl, Below.refl _ _, fun j h => by omega⟩
  case round =>
    obtain ⟨k, hk', rfl, hB, Hz⟩ := hrel
    have y0 := getc hB x0
    have y1 := getc hB x1
    have y2 := getc hB x2
    have y3 := getc hB x3
    have y4 := getc hB x4
    by_cases hlt : k < n
    · have hki : (k : Int) < n := by omega
      have hkt : k < h.tiles.length := by rw [Hn.out]; exact hlt
      go_wp2_with fail
      refine (twos_any wr (hc.keep (Keeps.below hB)) (hs.keep SeenR.good (Keeps.below hB)) hv1 hv2 hv3 hk hkt hq6 hsn).mono ?_
      rintro e w1 ⟨⟨A', k', c', rfl, hT⟩, hb1⟩
      have hB1 := bl_call hB hb1 (Nat.le_refl _)
      have Hl := Lib.hid hT.len
      clear hT hb1 y0 y1 y2 y3 y4
      by_cases h0 : k' = 0
      · subst h0
        have HR := Lib.hid (agree_no hkt (List.eq_nil_of_length_eq_zero Hl.out))
        go_wp2
        go_ret
        exact ⟨ret_bool HR.out.symm, hBW.trans (hB1.mono hWs)⟩
      · have h0b : ((k' : Int) == 0) = false := by simp; omega
        have h0' : ¬ (k' : Int) = 0 := by omega
        have HN : Hid (twosL h l k ≠ []) := fun e => h0 (by rw [← Hl.out, e]; rfl)
        go_wp2
        go_roundw
        case rel => exact ⟨k + 1, by omega, by go_num, hB1, fun j hj => by rcases Nat.lt_or_eq_of_le (Nat.le_of_lt_succ hj) with h1 | h1; exact Hz.out j h1; rw [h1]; exact HN.out⟩
        case measure => simp [intOf]; omega
    · obtain rfl : k = n := by omega
      have HR := Lib.hid (agree_all fun j hj => Hz.out j (by rw [← Hn.out]; exact hj))
      go_wp2
      go_ret
      exact ⟨ret_bool HR.out.symm, hBW.trans (hB.mono hWs)⟩

end Go.Proofs.Ytpbimgafafkjgaa

namespace Go.Proofs.Ytpbimgafafkjgaa
open Go.RowKit

/-- the least and the greatest of the first k, as they are reckoned -/
def wideK (L : List (Int × Int)) (a : Int) (k : Nat) (v0 : Int) : Int × Int := if k = 0 then (v0, 0) else wideOf (L.take k) a
theorem wideK_0 {L : List (Int × Int)} {p : Int × Int} {a : Int} (h : L[0]? = some p) (h0 : 0 ≤ p.1 + p.2 * a) : wideK L a 1 (p.1 + p.2 * a) = (min (p.1 + p.2 * a) (p.1 + p.2 * a), max 0 (p.1 + p.2 * a)) := by
  have : L.take 1 = [p] := by
    cases L with
    | nil => cases h
    | cons q L => simp at h; subst h; rfl
  rw [wideK, if_neg (by decide), this, wideOf_one]
  rw [Int.min_self, Int.max_eq_right h0]
theorem wideK_snoc {L : List (Int × Int)} {p : Int × Int} {a v0 : Int} {k : Nat} (hk : k ≠ 0) (h : L[k]? = some p) : wideK L a (k + 1) v0 = (min (wideK L a k v0).1 (p.1 + p.2 * a), max (wideK L a k v0).2 (p.1 + p.2 * a)) := by
  rw [wideK, if_neg (by omega), wideK, if_neg hk, take_snoc_get h]
  exact wideOf_snoc (by intro e; have h1 := congrArg List.length e; rw [List.length_take] at h1; have h2 := of_getq h; simp only [List.length_nil] at h1; omega) _ _

set_option maxHeartbeats 2000000 in
set_option maxRecDepth 100000 in
theorem rwide_any {A B C : Option Addr} {n ca m cb q cc t a : Nat} {h : Hall} {l : List Seen} {v1 v2 v3 : Value} (w : World) (g : HallAt (fun _ => True) w A n B m h) (gs : Seens (fun _ => True) w C q l)
    (hv1 : v1.oneCell' = true) (hv2 : v2.oneCell' = true) (hv3 : v3.oneCell' = true) (hk : OkH h) (hq6 : l.length ≤ 6) (hsn : ∀ (k : Nat) (y : Seen), l[k]? = some y → 0 ≤ y.air ∧ y.air ≤ 40)
    (ht : t < h.tiles.length) (ha : a ≤ 40) (hne : twosL h l t ≠ []) :
    Calls Try.prog 58 #[.agg #[v1, v2, v3, .slice A n ca, .slice B m cb], .slice C q cc, .int .i64 t, .int .i64 a] w fun e w' => e = .returned (.agg #[.int .i64 (wide8 h l t a).1, .int .i64 (wide8 h l t a).2]) ∧ Below w.heap.size w w' := by
  obtain ⟨W, hW⟩ : ∃ W, (w.alloc (.cells #[v1, v2, v3, .slice A n ca, .slice B m cb] 27)).alloc (.cells #[.int .i64 0, .int .i64 0] 23) = W := ⟨_, rfl⟩
  have X : Blk W w.heap.size 27 #[v1, v2, v3, .slice A n ca, .slice B m cb] := by rw [← hW]; exact (Blk.new _ _ _ rfl).alloc _
  have X8 : Blk W (w.heap.size + 1) 23 #[.int .i64 0, .int .i64 0] := by rw [← hW]; exact Blk.new _ _ _ (by simp)
  have hBW : Below w.heap.size w W := by rw [← hW]; exact bl_alloc (bl_alloc (Below.refl _ _) _ (Nat.le_refl _)) _ (Nat.le_refl _)
  have hc := g.keep (Keeps.below hBW)
  have hs := gs.keep SeenR.good (Keeps.below hBW)
  have hWs : w.heap.size ≤ W.heap.size := hBW.size
  have HW := Lib.hid hW
  have x0 : W.cell? ⟨w.heap.size, 0, none⟩ = some v1 := X.cell 0
  have x1 : W.cell? ⟨w.heap.size, 1, none⟩ = some v2 := X.cell 1
  have x2 : W.cell? ⟨w.heap.size, 2, none⟩ = some v3 := X.cell 2
  have x3 : W.cell? ⟨w.heap.size, 3, none⟩ = some (.slice A n ca) := X.cell 3
  have x4 : W.cell? ⟨w.heap.size, 4, none⟩ = some (.slice B m cb) := X.cell 4
  clear hW g gs X
  go_enter Try.func58, Try.ntmps58
  go_wp2_with fail
  rw [HW.out]
  refine (twos_any W hc hs hv1 hv2 hv3 hk ht hq6 hsn).mono ?_
  rintro e w1 ⟨⟨A', k', c', rfl, hT⟩, hb1⟩
  obtain ⟨L, hL⟩ : ∃ L, twosL h l t = L := ⟨_, rfl⟩
  have HV : Hid (∀ p ∈ L, 0 ≤ p.1 ∧ p.1 ≤ 20100 ∧ 0 ≤ p.2 ∧ p.2 ≤ 30) := fun p hp => twos_bd hk ht (by rw [hL]; exact hp)
  rw [hL] at hT hne
  have HR : Hid (wide8 h l t a = wideOf L a) := by rw [Hid, wide8, hL]
  have hlen := hT.len
  have hkl := hT.le
  have hk0 : 0 < k' := by rw [← hlen]; exact List.length_pos_iff.2 hne
  have Hlen := Lib.hid hlen
  have Y8 := X8.bl hb1
  have B1 : Below w.heap.size w w1 := bl_call hBW hb1 (Nat.le_refl _)
  obtain ⟨b, off, p1, p2, rfl, hbb, hc0, hc1, Hp⟩ := TwosAt.get hT hk0
  obtain ⟨hp1, hp2, hp3, hp4⟩ := HV.out _ (List.mem_of_getElem? Hp.out)
  dsimp only at hp1 hp2 hp3 hp4
  have hm1 : 0 ≤ p2 * (a : Int) := Int.mul_nonneg hp3 (by omega)
  have hm2 : p2 * (a : Int) ≤ 30 * 40 := Int.mul_le_mul hp4 (by omega) (by omega) (by decide)
  have hw1 : IntKind.i64.wrap (p2 * (a : Int)) = p2 * (a : Int) := by rw [IntKind.wrap_i64]; omega
  have hw2 : IntKind.i64.wrap (p1 + p2 * (a : Int)) = p1 + p2 * (a : Int) := by rw [IntKind.wrap_i64]; omega
  have hc0' : w1.cell? ⟨b, off, none⟩ = some (.int .i64 p1) := by simpa using hc0
  have hc1' : w1.cell? ⟨b, off + 1, none⟩ = some (.int .i64 p2) := by simpa using hc1
  have hki : (0 : Int) < k' := by omega
  have hbk : ∀ k, k' ≤ k → True := fun _ _ => trivial
  clear x0 x1 x2 x3 x4 X8 hc hs hL hne hc0 hc1 hb1 hbk
  go_wp2_with fail
  have kk : Hid (∀ w', Below w1.heap.size w1 w' → w'.cell? ⟨b, off, none⟩ = some (.int .i64 p1) ∧ w'.cell? ⟨b, off + 1, none⟩ = some (.int .i64 p2) ∧ Below w1.heap.size w1 w') := fun w' b => ⟨getc b hc0', getc b hc1', b⟩
  go_region_held3 (fun w' => w'.cell? ⟨b, off, none⟩ = some (.int .i64 p1) ∧ w'.cell? ⟨b, off + 1, none⟩ = some (.int .i64 p2) ∧ Below w1.heap.size w1 w')
    (first | exact kk.out _ (Below.refl _ _).drew | exact kk.out _ (Below.refl _ _) | exact kk.out _ (bl_alloc (Below.refl _ _).drew _ (Nat.le_refl _)))
    (fail)
  rename_i hHeld
  clear hHeld kk
  obtain ⟨gg, hgg⟩ : ∃ gg, w1.heap.size = gg := ⟨_, rfl⟩
  obtain ⟨v0, hv0⟩ : ∃ v0 : Int, p1 + p2 * (a : Int) = v0 := ⟨_, rfl⟩
  have HV0 := Lib.hid hv0
  rw [hv0] at hw2 ⊢
  have hvb : 0 ≤ v0 ∧ v0 ≤ 21300 := by omega
  obtain ⟨Wl, hWl⟩ : ∃ Wl, (w1.alloc (.cells #[.int .i64 v0, .int .i64 0] 23)).drew = Wl := ⟨_, rfl⟩
  have RG : Blk Wl gg 23 #[.int .i64 v0, .int .i64 0] := by rw [← hWl]; exact Blk.new _ _ _ hgg.symm
  have bl : Below w1.heap.size w1 Wl := by rw [← hWl]; exact (bl_alloc (Below.refl _ _) _ (Nat.le_refl _)).drew
  have RE := Y8.bl bl
  have hTl := (hT.bound TwoR.good).keep TwoR.good (Keeps.below bl)
  have BL : Below w.heap.size w Wl := bl_call B1 bl (Nat.le_refl _)
  have hg8 : w.heap.size + 1 < gg := by rw [← hgg]; exact Y8.lt
  rw [hWl, hgg]
  rw [hgg] at hTl
  clear hWl hgg hv0 Y8 hT bl B1 hc0' hc1' hw1 hw2 hbb hm1 hm2 hp1 hp2 hp3 hp4
  have HBL := Lib.hid BL
  clear BL
  go_wp2_with fail
  go_loopw [11] (fun i wr => ∃ (j : Nat) (lo hi : Int), i = .int .i64 j ∧ j ≤ k' ∧ 0 ≤ lo ∧ lo ≤ 21300 ∧ 0 ≤ hi ∧ hi ≤ 21300 ∧ Hid (wideK L a j v0 = (lo, hi)) ∧ Hid (Kept (fun x => x = gg) Wl wr) ∧ Hid (Blk wr gg 23 #[.int .i64 lo, .int .i64 hi])) (fun i _ => k' - (intOf i).toNat)
  case atStart => exact ⟨0, v0, 0, rfl, Nat.zero_le _, by omega, by omega, by omega, by omega, rfl, Kept.refl _ _, RG⟩
  case round =>
    obtain ⟨j, lo, hi, rfl, hj, hb1, hb2, hb3, hb4, HA, HK, HB⟩ := hrel
    have hBl : Below w.heap.size w wr := HBL.out.trans (HK.out.below (B := w.heap.size) HBL.out.size (fun x hx => by omega))
    by_cases hlt : j < k'
    · have hji : (j : Int) < k' := by omega
      have hTr := hTl.keep TwoR.good (HK.out.keeps (fun x hx e => by have h1 : x = gg := e; have h2 := hx.2; omega))
      obtain ⟨b2, off2, p1, p2, hA2, hbb, hc0, hc1, Hx⟩ := TwosAt.get hTr hlt
      obtain ⟨rfl, rfl⟩ : b2 = b ∧ off2 = off := by simpa [eq_comm] using hA2
      obtain ⟨hp1, hp2, hp3, hp4⟩ := HV.out _ (List.mem_of_getElem? Hx.out)
      dsimp only at hp1 hp2 hp3 hp4
      have hm1 : 0 ≤ p2 * (a : Int) := Int.mul_nonneg hp3 (by omega)
      have hm2 : p2 * (a : Int) ≤ 30 * 40 := Int.mul_le_mul hp4 (by omega) (by omega) (by decide)
      have hw1 : IntKind.i64.wrap (p2 * (a : Int)) = p2 * (a : Int) := by rw [IntKind.wrap_i64]; omega
      have hw2 : IntKind.i64.wrap (p1 + p2 * (a : Int)) = p1 + p2 * (a : Int) := by rw [IntKind.wrap_i64]; omega
      have HA1 : Hid (wideK L a (j + 1) v0 = (min lo (p1 + p2 * a), max hi (p1 + p2 * a))) := by
        by_cases hj0 : j = 0
        · subst hj0
          have h1 := HA.out
          rw [wideK, if_pos rfl] at h1
          obtain ⟨rfl, rfl⟩ : v0 = lo ∧ (0 : Int) = hi := by simpa using h1
          have h2 : (p1, p2) = _ := Option.some.inj (Hx.out.symm.trans Hp.out)
          obtain ⟨e1, e2⟩ := Prod.mk.inj h2
          have hv : p1 + p2 * (a : Int) = v0 := by rw [e1, e2]; exact HV0.out
          have h3 := wideK_0 Hx.out (by dsimp only; exact Int.add_nonneg hp1 hm1)
          dsimp only at h3
          rw [hv] at h3 ⊢
          exact h3
        · rw [Hid, wideK_snoc hj0 Hx.out, HA.out]
      obtain ⟨xx, hxx⟩ : ∃ xx : Int, p1 + p2 * (a : Int) = xx := ⟨_, rfl⟩
      have hmn : 0 ≤ min lo xx ∧ min lo xx ≤ 21300 ∧ 0 ≤ max hi xx ∧ max hi xx ≤ 21300 := by omega
      rw [hxx] at hw2 HA1
      clear hm1 hm2
      have q0 := HB.out.cell 0
      have q1 := HB.out.cell 1
      have fq0 := HB.out.frozen 0
      have fq1 := HB.out.frozen 1
      have hggl := HB.out.lt
      go_wp2_with fail
      go_quiet (fail)
      go_wp2_with fail
      simp only [min_if, max_if]
      go_roundw
      case rel => exact ⟨j + 1, min lo xx, max hi xx, by go_num, by omega, hmn.1, hmn.2.1, hmn.2.2.1, hmn.2.2.2, HA1, ((HK.out.trans (Kept.drewN _ _ _)).trans (Kept.setCell _ _ _ rfl)).trans (Kept.setCell _ _ _ rfl), (HB.out.drewN _).set2 _ _⟩
      case measure => simp [intOf]; omega
    · obtain rfl : j = k' := by omega
      have HR2 : Hid (wide8 h l t a = (lo, hi)) := by
        have := HA.out
        rw [wideK, if_neg (by omega), List.take_of_length_le (by rw [Hlen.out]; exact Nat.le_refl _)] at this
        rw [Hid, HR.out, this]
      have hR8 : Blk wr (w.heap.size + 1) 23 #[.int .i64 0, .int .i64 0] := (HK.out.block _ RE.lt (by omega)).trans RE
      have q0 := HB.out.cell 0
      have q1 := HB.out.cell 1
      have z0 := hR8.cell 0
      have z1 := hR8.cell 1
      have fz0 := hR8.frozen 0
      have fz1 := hR8.frozen 1
      have hHR := Lib.hid hR8
      clear hR8
      go_wp2_with fail
      exact bodyPost_ret (ret_span1 rfl rfl (hHR.out.set2 _ _).c0 (hHR.out.set2 _ _).c1) rfl ⟨by rw [HR2.out], bl_set (bl_set hBl (by dsimp only; omega) _) (by dsimp only; omega) _⟩

end Go.Proofs.Ytpbimgafafkjgaa

namespace Go.Proofs.Ytpbimgafafkjgaa
open Go.RowKit

theorem width8_ref {h : Hall} {l : List Seen} {t a : Int} (e : (seen8 h l).2 = 0) : width8 h l t a = if inB t 0 ((h.tiles.length : Int) - 1) = false then ((0, 0), 4) else if inB a 0 40 = false then ((0, 0), 7) else if agree8 h l = false then ((0, 0), 9) else (wide8 h l t.toNat a, 0) := by
  rw [width8, if_neg (by simp [e])]
  cases inB t 0 ((h.tiles.length : Int) - 1) <;> cases inB a 0 40 <;> simp

theorem seen_air {h : Hall} {l : List Seen} (e : (seen8 h l).2 = 0) : OkH h ∧ l.length ≤ 6 ∧ ∀ (k : Nat) (y : Seen), l[k]? = some y → 0 ≤ y.air ∧ y.air ≤ 40 := by
  obtain ⟨h1, h2, h3⟩ := seen_zero e
  refine ⟨okH_of h1, h2, fun k y hy => ?_⟩
  have := h3 k (of_getq hy)
  rw [seenE_ref (a := y.tile) (z := y.air) (y := y.lo) (u := y.hi) hy] at this
  split at this
  · cases this
  · split at this
    · cases this
    · rename_i g; simp [inB] at g; omega

set_option maxRecDepth 100000 in
set_option maxHeartbeats 2000000 in
theorem rwidth_any {A B C : Option Addr} {n ca m cb q cc : Nat} {h : Hall} {l : List Seen} {alo ahi most : Int} (t a : Int) (w : World) (g : HallAt (fun _ => True) w A n B m h) (gs : Seens (fun _ => True) w C q l) (h1 : h.alo = alo) (h2 : h.ahi = ahi) (h3 : h.most = most) :
    Calls Try.prog 20 #[.agg #[.int .i64 alo, .int .i64 ahi, .int .i64 most, .slice A n ca, .slice B m cb], .slice C q cc, .int .i64 t, .int .i64 a] w fun e w' =>
      e = .returned (.tuple #[.agg #[.int .i64 (width8 h l t a).1.1, .int .i64 (width8 h l t a).1.2], .int .i64 (width8 h l t a).2]) ∧ Below w.heap.size w w' := by
  obtain ⟨W, hW⟩ : ∃ W, (w.alloc (.cells #[.int .i64 alo, .int .i64 ahi, .int .i64 most, .slice A n ca, .slice B m cb] 27)).alloc (.cells #[.int .i64 0, .int .i64 0] 23) = W := ⟨_, rfl⟩
  have X : Blk W w.heap.size 27 #[.int .i64 alo, .int .i64 ahi, .int .i64 most, .slice A n ca, .slice B m cb] := by rw [← hW]; exact (Blk.new _ _ _ rfl).alloc _
  have X8 : Blk W (w.heap.size + 1) 23 #[.int .i64 0, .int .i64 0] := by rw [← hW]; exact Blk.new _ _ _ (by simp)
  have hBW : Below w.heap.size w W := by rw [← hW]; exact bl_alloc (bl_alloc (Below.refl _ _) _ (Nat.le_refl _)) _ (Nat.le_refl _)
  have hc : HallAt (fun _ => True) W A n B m h := g.keep (Keeps.below hBW)
  have hs : Seens (fun _ => True) W C q l := gs.keep SeenR.good (Keeps.below hBW)
  have Hn := Lib.hid hc.ts.len
  have hlen := hc.ts.le
  have HW := Lib.hid hW
  have x0 : W.cell? ⟨w.heap.size, 0, none⟩ = some (.int .i64 alo) := X.cell 0
  have x1 : W.cell? ⟨w.heap.size, 1, none⟩ = some (.int .i64 ahi) := X.cell 1
  have x2 : W.cell? ⟨w.heap.size, 2, none⟩ = some (.int .i64 most) := X.cell 2
  have x3 : W.cell? ⟨w.heap.size, 3, none⟩ = some (.slice A n ca) := X.cell 3
  have x4 : W.cell? ⟨w.heap.size, 4, none⟩ = some (.slice B m cb) := X.cell 4
  have hw1 : IntKind.i64.wrap ((n : Int) - 1) = (n : Int) - 1 := by rw [IntKind.wrap_i64]; omega
  clear hW g gs X
  go_enter Try.func20, Try.ntmps20
  go_wp2_with fail
  rw [HW.out]
  go_wp2_with fail
  refine (rseen_any W hc hs h1 h2 h3).mono ?_
  rintro e W1 ⟨rfl, b1⟩
  have B1 : Below w.heap.size w W1 := bl_call hBW b1 (Nat.le_refl _)
  have Y1 := X8.bl b1
  have y0 := Y1.cell 0
  have y1 := Y1.cell 1
  have fy0 := Y1.frozen 0
  have fy1 := Y1.frozen 1
  have hyl := Y1.lt
  by_cases he : (seen8 h l).2 = 0
  · obtain ⟨hokh, hq6, hsn⟩ := seen_air he
    have HW8 : Hid (width8 h l t a = _) := width8_ref he
    have z0 := getc b1 x0
    have z1 := getc b1 x1
    have z2 := getc b1 x2
    have z3 := getc b1 x3
    have z4 := getc b1 x4
    have hc1 := hc.keep (Keeps.below b1)
    have hs1 := hs.keep SeenR.good (Keeps.below b1)
    rw [he]
    clear he X8 x0 x1 x2 x3 x4 hc hs b1
    cases ho1 : inB t 0 ((n : Int) - 1)
    · have HR : Hid (width8 h l t a = ((0, 0), 4)) := by rw [Hid, HW8.out, Hn.out, if_pos ho1]
      go_wp2_with (go_at_call 54; refine (in8_any _ _ _ _).mono ?_; rintro e w' ⟨rfl, rfl⟩)
      exact bodyPost_ret (ret_span rfl rfl rfl (Y1.set2 _ _).c0 (Y1.set2 _ _).c1) rfl ⟨by rw [HR.out], bl_set (bl_set B1 (by dsimp only; omega) _) (by dsimp only; omega) _⟩
    · cases ho2 : inB a 0 40
      · have HR : Hid (width8 h l t a = ((0, 0), 7)) := by rw [Hid, HW8.out, Hn.out, if_neg (by rw [ho1]; decide), if_pos ho2]
        go_wp2_with (go_at_call 54; refine (in8_any _ _ _ _).mono ?_; rintro e w' ⟨rfl, rfl⟩)
        exact bodyPost_ret (ret_span rfl rfl rfl (Y1.set2 _ _).c0 (Y1.set2 _ _).c1) rfl ⟨by rw [HR.out], bl_set (bl_set B1 (by dsimp only; omega) _) (by dsimp only; omega) _⟩
      · have HR1 : Hid (width8 h l t a = _) := (HW8.out.trans (if_neg (by rw [Hn.out, ho1]; decide))).trans (if_neg (by rw [ho2]; decide))
        have hr1 : 0 ≤ t ∧ t ≤ (n : Int) - 1 := by simp [inB] at ho1; omega
        have hr2 : 0 ≤ a ∧ a ≤ 40 := by simp [inB] at ho2; omega
        obtain ⟨t', rfl⟩ := Int.eq_ofNat_of_zero_le hr1.1
        obtain ⟨a', rfl⟩ := Int.eq_ofNat_of_zero_le hr2.1
        have htn : t' < h.tiles.length := by rw [Hn.out]; omega
        have ha40 : a' ≤ 40 := by omega
        clear HW8 hr1 hr2
        go_wp2_with (go_at_call 54; refine (in8_any _ _ _ _).mono ?_; rintro e w' ⟨rfl, rfl⟩)
        refine (ragree_any W1 hc1 hs1 rfl rfl rfl hokh hq6 hsn).mono ?_
        rintro e W2 ⟨rfl, b2⟩
        have B2 : Below w.heap.size w W2 := bl_call B1 b2 (Nat.le_refl _)
        have Y2 := Y1.bl b2
        clear y0 y1 fy0 fy1 hyl ho1 ho2
        have y0 := Y2.cell 0
        have y1 := Y2.cell 1
        have fy0 := Y2.frozen 0
        have fy1 := Y2.frozen 1
        have hyl := Y2.lt
        cases hga : agree8 h l
        · have HR : Hid (width8 h l t' a' = ((0, 0), 9)) := by rw [Hid, HR1.out, if_pos hga]
          clear z0 z1 z2 z3 z4
          go_wp2_with fail
          exact bodyPost_ret (ret_span rfl rfl rfl (Y2.set2 _ _).c0 (Y2.set2 _ _).c1) rfl ⟨by rw [HR.out], bl_set (bl_set B2 (by dsimp only; omega) _) (by dsimp only; omega) _⟩
        · have HR : Hid (width8 h l t' a' = (wide8 h l t' a', 0)) := by rw [Hid, HR1.out, if_neg (by rw [hga]; decide)]; rfl
          have x0 := getc b2 z0
          have x1 := getc b2 z1
          have x2 := getc b2 z2
          have x3 := getc b2 z3
          have x4 := getc b2 z4
          have hc2 := hc1.keep (Keeps.below b2)
          have hs2 := hs1.keep SeenR.good (Keeps.below b2)
          clear z0 z1 z2 z3 z4 y0 y1 fy0 fy1 hyl hc1 hs1 b2 Y1
          go_wp2_with fail
          refine (rwide_any W2 hc2 hs2 rfl rfl rfl hokh hq6 hsn htn ha40 (agree_ne hga htn)).mono ?_
          rintro e W3 ⟨rfl, b3⟩
          have B3 : Below w.heap.size w W3 := bl_call B2 b3 (Nat.le_refl _)
          have Y3 := Y2.bl b3
          have y0 := Y3.cell 0
          have y1 := Y3.cell 1
          have fy0 := Y3.frozen 0
          have fy1 := Y3.frozen 1
          have hyl := Y3.lt
          clear x0 x1 x2 x3 x4
          go_wp2_with fail
          exact bodyPost_ret (ret_span rfl rfl rfl (Y3.set2 _ _).c0 (Y3.set2 _ _).c1) rfl ⟨by rw [HR.out], bl_set (bl_set B3 (by dsimp only; omega) _) (by dsimp only; omega) _⟩
  · have heb : ((seen8 h l).2 == 0) = false := by simpa using he
    have heb2 : ((seen8 h l).2 != 0) = true := by simpa using he
    have HR : Hid (width8 h l t a = ((0, 0), (seen8 h l).2)) := width8_bad he
    clear he
    go_wp2_with fail
    exact bodyPost_ret (ret_span rfl rfl rfl (Y1.set2 _ _).c0 (Y1.set2 _ _).c1) rfl ⟨by rw [HR.out], bl_set (bl_set B1 (by dsimp only; omega) _) (by dsimp only; omega) _⟩

end Go.Proofs.Ytpbimgafafkjgaa
