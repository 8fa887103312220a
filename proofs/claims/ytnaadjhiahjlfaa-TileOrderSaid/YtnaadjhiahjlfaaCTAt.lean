/- Walks: the gaps of a row with tiles in some air. -/
import Derived.Test.YtnaadjhiahjlfaaCTEnter
set_option linter.unusedVariables false
set_option linter.unusedSimpArgs false
set_option linter.all false
namespace Go.Proofs.Ytnaadjhiahjlfaa
open Go.RowKit Go.Shelf

theorem ret_span {fn : Func} {p u : Tmp} (h : fn.results = #[.cell p 23, .tmp u]) {tmps : Array Value} {g : Nat} {lo hi e : Int} {w : World} (hp : tmps.getD p undef = .pointer (some ⟨g, 0, none⟩)) (hu : tmps.getD u undef = .int .i64 e)
    (h0 : w.cell? ⟨g, 0, none⟩ = some (.int .i64 lo)) (h1 : w.cell? ⟨g, 1, none⟩ = some (.int .i64 hi)) : (results fn tmps).run Try.prog w = .ok (.tuple #[.agg #[.int .i64 lo, .int .i64 hi], .int .i64 e]) w := by
  rw [results_cell_tmp h, hp, hu]
  simp [go_sem, h0, h1]
theorem ret_span1 {fn : Func} {p : Tmp} (h : fn.results = #[.cell p 23]) {tmps : Array Value} {g : Nat} {lo hi : Int} {w : World} (hp : tmps.getD p undef = .pointer (some ⟨g, 0, none⟩))
    (h0 : w.cell? ⟨g, 0, none⟩ = some (.int .i64 lo)) (h1 : w.cell? ⟨g, 1, none⟩ = some (.int .i64 hi)) : (results fn tmps).run Try.prog w = .ok (.agg #[.int .i64 lo, .int .i64 hi]) w := by
  have hp' : tmps[p]?.getD undef = .pointer (some ⟨g, 0, none⟩) := by simpa using hp
  simp [results, h, hp', asAddr, go_sem, h0, h1]

theorem HBox.keep {w w' : World} {gh : Nat} {A : Option Addr} {n ca : Nat} {B : Option Addr} {m cb : Nat} {C : Option Addr} {q cc : Nat} {h : Hall} {l : List Seen} (g : HBox w gh A n ca B m cb C q cc h l) (hb : Below w.heap.size w w') : HBox w' gh A n ca B m cb C q cc h l := by
  obtain ⟨⟨gm, gr, gc, h1, h2, h3, h4⟩, h5⟩ := g
  exact ⟨⟨gm, gr, gc, h1.bl hb, h2.bl hb, getc hb h3, h4.bl hb⟩, h5.keep (Keeps.below hb)⟩

theorem ends_bd {lo hi : Int} : ∀ (l : List Int) (a b : Int), lo ≤ a → a ≤ b → b ≤ hi → (∀ x ∈ l, lo ≤ x ∧ x ≤ hi) → lo ≤ (ends a b l).1 ∧ (ends a b l).1 ≤ (ends a b l).2 ∧ (ends a b l).2 ≤ hi := by
  intro l
  induction l with
  | nil => intro a b h1 h2 h3 _; exact ⟨h1, h2, h3⟩
  | cons x l ih =>
    intro a b h1 h2 h3 hx
    have := hx x List.mem_cons_self
    exact ih (min a x) (max b x) (by omega) (by omega) (by omega) (fun y hy => hx y (List.mem_cons_of_mem _ hy))
theorem endsOf_bd {lo hi : Int} {l : List Int} (hl : l ≠ []) (h : ∀ x ∈ l, lo ≤ x ∧ x ≤ hi) : lo ≤ (endsOf l).1 ∧ (endsOf l).1 ≤ (endsOf l).2 ∧ (endsOf l).2 ≤ hi := by
  cases l with
  | nil => exact absurd rfl hl
  | cons x l =>
    have := h x List.mem_cons_self
    exact ends_bd l x x this.1 (Int.le_refl _) this.2 (fun y hy => h y (List.mem_cons_of_mem _ hy))
theorem wide8_bd {h : Hall} {l : List Seen} {t : Nat} {a : Int} (hk : OkH h) (ht : t < h.tiles.length) (hne : twosL h l t ≠ []) (ha : 0 ≤ a ∧ a ≤ 40) : 0 ≤ (wide8 h l t a).1 ∧ (wide8 h l t a).1 ≤ (wide8 h l t a).2 ∧ (wide8 h l t a).2 ≤ 21300 := by
  unfold wide8 wideOf
  refine endsOf_bd (by simpa using hne) ?_
  intro x hx
  obtain ⟨p, hp, rfl⟩ := List.mem_map.1 hx
  obtain ⟨h1, h2, h3, h4⟩ := twos_bd hk ht hp
  have m1 : 0 ≤ p.2 * a := Int.mul_nonneg h3 ha.1
  have m2 : p.2 * a ≤ 30 * 40 := Int.mul_le_mul h4 ha.2 ha.1 (by decide)
  omega
theorem agree_ne {h : Hall} {l : List Seen} (hag : agree8 h l = true) {t : Nat} (ht : t < h.tiles.length) : twosL h l t ≠ [] := by
  unfold agree8 at hag
  rw [List.all_eq_true] at hag
  have := hag t (List.mem_range.2 ht)
  intro e
  rw [e] at this
  cases this
theorem atUpto_succ {h : Hall} {l : List Seen} {row : Nat} {tl : List Int} {a : Int} {k : Nat} {i : Int} (hx : tl[k]? = some i) :
    atUpto h l row tl a (k + 1) = ((atUpto h l row tl a k).1 - (wide8 h l i.toNat a).2, (atUpto h l row tl a k).2 - (wide8 h l i.toNat a).1) := by
  unfold atUpto; rw [take_snoc_get hx, List.foldl_append]; rfl
theorem rowE_zero {nt : Nat} {l : List RowT} {k : Nat} {a z y : Int} (h : l[k]? = some ⟨a, z, y⟩) (e : rowE nt l k = 0) : 0 ≤ a ∧ a ≤ 200000 ∧ 0 ≤ z ∧ z ≤ 160 ∧ 1 ≤ y ∧ y ≤ nt := by
  unfold rowE at e
  rw [getD_of h] at e
  dsimp only at e
  split at e
  · cases e
  · rename_i g
    simp [inB] at g
    omega

set_option maxRecDepth 100000 in
set_option maxHeartbeats 1000000 in
theorem at_any {S : Foot} {A B C T : Option Addr} {n ca m cb q cc k c gh row a : Nat} {h : Hall} {l : List Seen} {tl : List Int} (w : World) (H : HBox w gh A n ca B m cb C q cc h l) (hk : OkH h) (hag : agree8 h l = true)
    (hr : row < m) (ht : Ints S w T k tl) (hk8 : k ≤ 8) (hT : ∀ i ∈ tl, 0 ≤ i ∧ i < n) (ha : a ≤ 40) :
    Calls Try.prog 100 #[.pointer (some ⟨gh, 0, none⟩), .int .i64 row, .slice T k c, .int .i64 a] w fun e w' =>
      e = .returned (.agg #[.int .i64 (at8 h l row tl a).1, .int .i64 (at8 h l row tl a).2]) ∧ Below w.heap.size w w' := by
  obtain ⟨⟨gm, gr, gc, MH, MR, c2, MM⟩, hs⟩ := H
  have Hn := Lib.hid hs.ts.len
  have Hm := Lib.hid hs.rs.len
  have Hk := Lib.hid ht.len
  obtain ⟨b, off, fr, sw, pl, rfl, hbb, r0, r1, r2, Hx⟩ := RowTs.get hs.rs hr
  have hre := hk.row (k := row) (by rw [Hm.out]; exact hr)
  obtain ⟨f1, f2, f3, f4, f5, f6⟩ := rowE_zero Hx.out hre
  have hlm := hs.rs.le
  have hln := hs.ts.le
  have hgh := MH.lt
  have m4 := MH.cell 4
  have m6 := MH.cell 6
  have hri : (row : Int) < m := by omega
  have hm1 : 0 ≤ sw * (a : Int) := Int.mul_nonneg f3 (by omega)
  have hm2 : sw * (a : Int) ≤ 160 * 40 := Int.mul_le_mul f4 (by omega) (by omega) (by decide)
  have hx1 : IntKind.i64.wrap (sw * (a : Int)) = sw * (a : Int) := by rw [IntKind.wrap_i64]; omega
  obtain ⟨nn, hnn⟩ : ∃ nn : Int, fr + sw * (a : Int) = nn := ⟨_, rfl⟩
  have hx2 : IntKind.i64.wrap (fr + sw * (a : Int)) = nn := by rw [hnn, IntKind.wrap_i64]; omega
  have hnb : 0 ≤ nn ∧ nn ≤ 206400 := by omega
  have HN : Hid (atUpto h l row tl a 0 = (nn, nn)) := by
    unfold atUpto
    rw [Hid, getD_of Hx.out, ← hnn]; rfl
  have HAG := Lib.hid hag
  have HKK := Lib.hid hk
  have HT := Lib.hid hT
  clear hnn hre MR c2 r2 hag hk hT
  go_enter Try.func100, Try.ntmps100
  go_wp2_with fail
  go_quiet (fail)
  clear r0 r1 m4 hx1 hx2 hm1 hm2
  obtain ⟨Wq, hWq⟩ : ∃ Wq, (w.alloc (.cells #[.int .i64 0, .int .i64 0] 23)).drewN nq = Wq := ⟨_, rfl⟩
  have bq : Below w.heap.size w Wq := by rw [← hWq]; exact bl_drewN (bl_alloc (Below.refl _ _) _ (Nat.le_refl _)) _
  have sq : Wq.heap.size = w.heap.size + 1 := by rw [← hWq]; simp
  have R8 : Blk Wq w.heap.size 23 #[.int .i64 0, .int .i64 0] := by rw [← hWq]; exact (Blk.new _ _ _ rfl).drewN _
  rw [hWq]
  clear hWq
  have HSQ := Lib.hid sq
  clear sq
  go_wp2_with fail
  obtain ⟨gg, hgg⟩ : ∃ gg, Wq.heap.size = gg := ⟨_, rfl⟩
  obtain ⟨Wl, hWl⟩ : ∃ Wl, Wq.alloc (.cells #[.int .i64 nn, .int .i64 nn] 23) = Wl := ⟨_, rfl⟩
  have RG : Blk Wl gg 23 #[.int .i64 nn, .int .i64 nn] := by rw [← hWl]; exact Blk.new _ _ _ hgg.symm
  have RE : Blk Wl w.heap.size 23 #[.int .i64 0, .int .i64 0] := by rw [← hWl]; exact R8.alloc _
  have bl : Below w.heap.size w Wl := by rw [← hWl]; exact bl_alloc bq _ (Nat.le_refl _)
  have hg8 : w.heap.size < gg := by have := HSQ.out; omega
  rw [hWl, hgg]
  clear hWl hgg R8 bq m6
  have HBL := Lib.hid bl
  clear bl
  go_loopw [40] (fun i' wr => ∃ (j : Nat) (lo hi : Int), i' = .int .i64 j ∧ j ≤ k ∧ -(21300 * (j : Int)) ≤ lo ∧ lo ≤ hi ∧ hi ≤ 206400 ∧ Hid (atUpto h l row tl a j = (lo, hi)) ∧ Hid (Kept (fun x => x = gg) Wl wr) ∧ Hid (Blk wr gg 23 #[.int .i64 lo, .int .i64 hi])) (fun i' _ => k - (intOf i').toNat)
  case atStart => exact ⟨0, nn, nn, rfl, Nat.zero_le _, by omega, by omega, by omega, HN, Kept.refl _ _, RG⟩
  case round =>
    obtain ⟨j, lo, hi, rfl, hj, hb1, hb2, hb3, HA, HK, HB⟩ := hrel
    have hBl : Below w.heap.size w wr := HBL.out.trans (HK.out.below (B := w.heap.size) HBL.out.size (fun x hx => by omega))
    by_cases hlt : j < k
    · have hji : (j : Int) < k := by omega
      have htr := ht.keep IntR.good (Keeps.below hBl)
      obtain ⟨bT, oT, x, rfl, hcell, Hxi⟩ := Ints.get htr hlt
      obtain ⟨hx0, hxn⟩ := HT.out x (List.mem_of_getElem? Hxi.out)
      obtain ⟨t, rfl⟩ := Int.eq_ofNat_of_zero_le hx0
      have htn : t < n := by omega
      have htl : t < h.tiles.length := by rw [Hn.out]; exact htn
      obtain ⟨v1, v2, hv⟩ : ∃ v1 v2, wide8 h l t a = (v1, v2) := ⟨_, _, rfl⟩
      have hwb := wide8_bd HKK.out htl (agree_ne HAG.out htl) (a := (a : Int)) (by omega)
      rw [hv] at hwb
      dsimp only at hwb
      have hlk := (MM.bl hBl).look (P := Try.prog) Try.underlying163 Try.underlying3 (knownV_get h l htn)
      have hix : ∀ W, (Instr.index 162 (wideV h l t) (.int .i64 a)).run Try.prog W = .ok (.agg #[.int .i64 v1, .int .i64 v2]) W := fun W => by
        have := run_index_spans (P := Try.prog) Try.underlying162 ⟨_, Try.underlying23⟩ (by kernel_rfl) (fun a => wide8 h l t a) (i := a) (by omega) W
        rw [hv] at this
        exact this
      have HA1 : Hid (atUpto h l row tl a (j + 1) = (lo - v2, hi - v1)) := by rw [Hid, atUpto_succ Hxi.out, HA.out]; simp only [Int.toNat_natCast, hv]
      have m6 := (MH.bl hBl).cell 6
      have q0 := HB.out.cell 0
      have q1 := HB.out.cell 1
      have fq0 := HB.out.frozen 0
      have fq1 := HB.out.frozen 1
      have hggl := HB.out.lt
      have hghl : gh < wr.heap.size := (MH.bl hBl).lt
      clear hv hx0 htr
      go_wp2_with fail
      go_roundw
      case rel => exact ⟨j + 1, lo - v2, hi - v1, by go_num, by omega, by omega, by omega, by omega, HA1, ((HK.out.trans (Kept.setCell _ _ _ rfl)).trans (Kept.setCell _ _ _ rfl)).trans (Kept.alloc _ _ _), (HB.out.set2 _ _).alloc _⟩
      case measure => simp [intOf]; omega
    · obtain rfl : j = k := by omega
      have hR8 : Blk wr w.heap.size 23 #[.int .i64 0, .int .i64 0] := (HK.out.block _ RE.lt (by omega)).trans RE
      have q0 := HB.out.cell 0
      have q1 := HB.out.cell 1
      have z0 := hR8.cell 0
      have z1 := hR8.cell 1
      have fz0 := hR8.frozen 0
      have fz1 := hR8.frozen 1
      have hHR := Lib.hid hR8
      clear hR8
      go_wp2_with fail
      exact bodyPost_ret (ret_span1 rfl rfl (hHR.out.set2 _ _).c0 (hHR.out.set2 _ _).c1) rfl ⟨by rw [at8, Hk.out, HA.out], bl_set (bl_set hBl (Nat.le_refl _) _) (Nat.le_refl _) _⟩

/-- gaps of a row with tiles are bounded -/
theorem at8_bd {h : Hall} {l : List Seen} {row : Nat} {tl : List Int} {a : Nat} (hk : OkH h) (hag : agree8 h l = true) (hr : row < h.rows.length) (hk8 : tl.length ≤ 8) (hT : ∀ i ∈ tl, 0 ≤ i ∧ i < h.tiles.length) (ha : a ≤ 40) :
    -170400 ≤ (at8 h l row tl a).1 ∧ (at8 h l row tl a).1 ≤ (at8 h l row tl a).2 ∧ (at8 h l row tl a).2 ≤ 206400 := by
  have key : ∀ j, j ≤ tl.length → -(21300 * (j : Int)) ≤ (atUpto h l row tl a j).1 ∧ (atUpto h l row tl a j).1 ≤ (atUpto h l row tl a j).2 ∧ (atUpto h l row tl a j).2 ≤ 206400 := by
    intro j
    induction j with
    | zero =>
      intro _
      have hx : h.rows[row]? = some ⟨(h.rows[row]).frame, (h.rows[row]).swell, (h.rows[row]).places⟩ := List.getElem?_eq_getElem hr
      obtain ⟨f1, f2, f3, f4, _, _⟩ := rowE_zero hx (hk.row hr)
      have hm1 : 0 ≤ (h.rows[row]).swell * (a : Int) := Int.mul_nonneg f3 (by omega)
      have hm2 : (h.rows[row]).swell * (a : Int) ≤ 160 * 40 := Int.mul_le_mul f4 (by omega) (by omega) (by decide)
      have : atUpto h l row tl a 0 = ((h.rows[row]).frame + (h.rows[row]).swell * (a : Int), (h.rows[row]).frame + (h.rows[row]).swell * (a : Int)) := by
        unfold atUpto; rw [getD_of hx]; rfl
      rw [this]
      dsimp only
      omega
    | succ j ih =>
      intro hj
      have hx : tl[j]? = some (tl[j]'(by omega)) := List.getElem?_eq_getElem (by omega)
      obtain ⟨i1, i2⟩ := hT _ (List.mem_of_getElem? hx)
      have hw := wide8_bd hk (t := (tl[j]'(by omega)).toNat) (l := l) (a := (a : Int)) (by omega) (agree_ne hag (by omega)) (by omega)
      have := ih (by omega)
      rw [atUpto_succ hx]
      dsimp only
      omega
  have := key tl.length (Nat.le_refl _)
  unfold at8
  omega

end Go.Proofs.Ytnaadjhiahjlfaa
