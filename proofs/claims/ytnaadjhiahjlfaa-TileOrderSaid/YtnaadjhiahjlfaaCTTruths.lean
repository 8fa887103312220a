/- Walks: the program's iterator over the widths and swells of a tile that agree. -/
import Derived.RangeFuncKeeps
import Derived.OwnWalkIn
import Derived.TacticsInMore
import Derived.LoopNIn
import Derived.LoopIn
import Derived.Laws.EntriesVeiled
import Derived.Test.YtnaadjhiahjlfaaCRange
import Derived.Test.YtnaadjhiahjlfaaCTSeen
set_option linter.unusedVariables false
set_option linter.unusedSimpArgs false
set_option linter.all false
namespace Go.Proofs.Ytnaadjhiahjlfaa
open Go.RowKit Go.Shelf
attribute [local go_sem] Oper.semAt_some

theorem eg_truths : Enters Try.prog 134 := enters_of Try.func134 (by kernel_rfl) rfl

/-- a hall that is looked at, as it lies in memory, and which tile is asked for -/
structure Look (A : World) (gp gt gh : Nat) (t : Nat) (T : Option Addr) (n ct : Nat) (R : Option Addr) (m : Nat) (L : Option Addr) (q cl : Nat) (h : Hall) (l : List Seen) : Prop where
  p : ∃ ty, Blk A gp ty #[.pointer (some ⟨gh, 0, none⟩)]
  k : ∃ ty, Blk A gt ty #[.int .i64 t]
  c3 : A.cell? ⟨gh, 3, none⟩ = some (.slice T n ct)
  c5 : A.cell? ⟨gh, 5, none⟩ = some (.slice L q cl)
  hs : HallAt (fun _ => True) A T n R m h
  ss : Seens (fun _ => True) A L q l
theorem Look.lt {A : World} {gp gt gh : Nat} {t : Nat} {T : Option Addr} {n ct : Nat} {R : Option Addr} {m : Nat} {L : Option Addr} {q cl : Nat} {h : Hall} {l : List Seen} (g : Look A gp gt gh t T n ct R m L q cl h l) : gp < A.heap.size ∧ gt < A.heap.size ∧ gh < A.heap.size :=
  ⟨g.p.elim fun _ h => h.lt, g.k.elim fun _ h => h.lt, World.block_lt_of_cell? _ _ g.c3⟩

/-- what agrees with the first k of what is seen -/
def twoUpto (l : List Seen) (t : Nat) (w s : Int) (k : Nat) : Bool := (l.take k).all fun y => !(y.tile == (t : Int)) || inB (w + s * y.air) y.lo y.hi
theorem twoUpto_snoc {l : List Seen} {t : Nat} {w s : Int} {k : Nat} {y : Seen} (h : l[k]? = some y) : twoUpto l t w s (k + 1) = (twoUpto l t w s k && (!(y.tile == (t : Int)) || inB (w + s * y.air) y.lo y.hi)) := by
  unfold twoUpto; rw [take_snoc_get h, List.all_append]; simp
theorem twoUpto_no {l : List Seen} {t : Nat} {w s : Int} {k : Nat} {y : Seen} (h : l[k]? = some y) (hn : (!(y.tile == (t : Int)) || inB (w + s * y.air) y.lo y.hi) = false) : twoOk l t w s = false := by
  unfold twoOk
  rw [← Bool.not_eq_true, List.all_eq_true]
  intro ha
  rw [ha y (List.mem_of_getElem? h)] at hn
  cases hn
theorem twosK_yes {l : List Seen} {t : Nat} {x : Tile} {k : Nat} (h : twoOk l t (pairN x k).1 (pairN x k).2 = true) : twosK l t x (k + 1) = twosK l t x k ++ [pairN x k] := by
  unfold twosK; rw [List.range_succ, List.map_append, List.filter_append]; simp [h]
theorem twosK_no {l : List Seen} {t : Nat} {x : Tile} {k : Nat} (h : twoOk l t (pairN x k).1 (pairN x k).2 = false) : twosK l t x (k + 1) = twosK l t x k := by
  unfold twosK; rw [List.range_succ, List.map_append, List.filter_append]; simp [h]
theorem twosK_get {l : List Seen} {t : Nat} {x : Tile} {k N : Nat} (hk : k < N) (h : twoOk l t (pairN x k).1 (pairN x k).2 = true) : (twosK l t x N)[(twosK l t x k).length]? = some (pairN x k) := by
  obtain ⟨d, rfl⟩ : ∃ d, N = k + 1 + d := ⟨N - (k + 1), by omega⟩
  clear hk
  induction d with
  | zero => rw [Nat.add_zero, twosK_yes h]; simp
  | succ d ih =>
    rw [show k + 1 + (d + 1) = (k + 1 + d) + 1 by omega]
    cases h2 : twoOk l t (pairN x (k + 1 + d)).1 (pairN x (k + 1 + d)).2
    · rw [twosK_no h2]; exact ih
    · rw [twosK_yes h2, List.getElem?_append_left (of_getq ih)]; exact ih
/-- the numbers of a tile of a hall that is right -/
theorem tileE_zero {l : List Tile} {k : Nat} {x : Tile} (h : l[k]? = some x) (he : tileE l k = 0) : 1 ≤ x.wlo ∧ x.wlo ≤ x.whi ∧ x.whi ≤ x.wlo + 10 ∧ x.whi ≤ 20000 ∧ 0 ≤ x.slo ∧ x.slo ≤ x.shi ∧ x.shi ≤ x.slo + 3 ∧ x.shi ≤ 20 := by
  unfold tileE at he
  rw [getD_of h] at he
  dsimp only at he
  split at he
  · rename_i h1; exact absurd he h1
  · unfold tileN at he
    split at he
    · cases he
    · split at he
      · cases he
      · rename_i h2 h3
        simp [inB] at h2 h3
        omega

set_option maxRecDepth 100000 in
set_option maxHeartbeats 4000000 in
theorem truths_seq {T : Option Addr} {n ct : Nat} {R : Option Addr} {m : Nat} {L : Option Addr} {q cl : Nat} {h : Hall} {l : List Seen} (gp gt gh t : Nat) (ht : t < h.tiles.length) (hz : tileE h.tiles t = 0) (hq6 : l.length ≤ 6)
    (hseen : ∀ (k : Nat) (y : Seen), l[k]? = some y → 0 ≤ y.air ∧ y.air ≤ 40) :
    SeqL Try.prog 134 #[.pointer (some ⟨gp, 0, none⟩), .pointer (some ⟨gt, 0, none⟩)] (fun p : Int × Int => #[.int .i64 p.1, .int .i64 p.2]) (twosL h l t) (fun A => Look A gp gt gh t T n ct R m L q cl h l) := by
  intro lp O0 J Jx W hO0 hInv hJ hJx hR h0
  have hI0 := hInv W (Kept.refl _ _)
  obtain ⟨hgp, hgt, hgh⟩ := hI0.lt
  obtain ⟨tp, hp⟩ := hI0.p
  obtain ⟨tt, hk⟩ := hI0.k
  have hp0 := hp.cell 0
  have hk0 := hk.cell 0
  have h3 := hI0.c3
  have htn : t < n := by have := hI0.hs.ts.len; omega
  obtain ⟨bT, oT, s, a, z, y, u, rfl, hbb, hc0, hc1, hc2, hc3, hc4, hs, Hx⟩ := Tiles.get hI0.hs.ts htn
  obtain ⟨g1, g2, g3, g4, g5, g6, g7, g8⟩ := tileE_zero Hx.out hz
  dsimp only at g1 g2 g3 g4 g5 g6 g7 g8
  have hti : (t : Int) < n := by omega
  have Hq := Lib.hid hI0.ss.len
  have hI0' := hI0
  clear hI0 hp hk
  rw [app12]
  refine (callsIn_wide (n := 1)).1 ?_
  refine callsIn_of_wp Try.func134 rfl trivial ?_ rfl
  simp only [Try.ntmps134, List.size_toArray, List.length_cons, List.length_nil, Nat.reduceAdd, Nat.reduceSub, Array.replicate_succ, Array.replicate_zero, List.push_toArray, List.append_toArray, List.nil_append, List.cons_append]
  gi_wp2_with fail
  have HI := Lib.hid hI0'
  have kk : Hid (∀ W', Below W.heap.size W W' → W'.cell? ⟨gp, 0, none⟩ = some (.pointer (some ⟨gh, 0, none⟩)) ∧ W'.cell? ⟨gt, 0, none⟩ = some (.int .i64 t) ∧ W'.cell? ⟨gh, 3, none⟩ = some (.slice (some ⟨bT, oT, none⟩) n ct) ∧ W'.cell? ⟨bT, oT + t * 5, none⟩ = some (.string s) ∧ W'.cell? ⟨bT, oT + t * 5 + 1, none⟩ = some (.int .i64 a) ∧ W'.cell? ⟨bT, oT + t * 5 + 2, none⟩ = some (.int .i64 z) ∧ W'.cell? ⟨bT, oT + t * 5 + 3, none⟩ = some (.int .i64 y) ∧ W'.cell? ⟨bT, oT + t * 5 + 4, none⟩ = some (.int .i64 u) ∧ Below W.heap.size W W') :=
    fun W' hb => ⟨getc hb hp0, getc hb hk0, getc hb h3, getc hb hc0, getc hb hc1, getc hb hc2, getc hb hc3, getc hb hc4, hb⟩
  refine wpIn_wide.2 (wp_scope_straight ?_)
  go_wp2_with fail
  go_region_held3 (fun W' => W'.cell? ⟨gp, 0, none⟩ = some (.pointer (some ⟨gh, 0, none⟩)) ∧ W'.cell? ⟨gt, 0, none⟩ = some (.int .i64 t) ∧ W'.cell? ⟨gh, 3, none⟩ = some (.slice (some ⟨bT, oT, none⟩) n ct) ∧ W'.cell? ⟨bT, oT + t * 5, none⟩ = some (.string s) ∧ W'.cell? ⟨bT, oT + t * 5 + 1, none⟩ = some (.int .i64 a) ∧ W'.cell? ⟨bT, oT + t * 5 + 2, none⟩ = some (.int .i64 z) ∧ W'.cell? ⟨bT, oT + t * 5 + 3, none⟩ = some (.int .i64 y) ∧ W'.cell? ⟨bT, oT + t * 5 + 4, none⟩ = some (.int .i64 u) ∧ Below W.heap.size W W')
    (first | exact kk.out _ (Below.refl _ _).drew | exact kk.out _ (Below.refl _ _) | exact kk.out _ (bl_alloc (Below.refl _ _).drew _ (Nat.le_refl _)))
    (fail)
  rename_i hHeld
  clear hHeld kk
  obtain ⟨W1, hW1⟩ : ∃ W1, (W.alloc (.cells #[.string s, .int .i64 a, .int .i64 z, .int .i64 y, .int .i64 u] 159)).drew = W1 := ⟨_, rfl⟩
  have hk1 : Kept (fun _ => False) W W1 := by rw [← hW1]; exact (Kept.alloc _ _ _).trans (Kept.drew _ _)
  have hs1 : W1.heap.size = W.heap.size + 1 := by rw [← hW1]; simp
  have X1 : Blk W1 W.heap.size 159 #[.string s, .int .i64 a, .int .i64 z, .int .i64 y, .int .i64 u] := by rw [← hW1]; exact (Blk.new _ _ _ rfl).drew
  rw [hW1]
  clear hc0 hc1 hc2 hc3 hc4 hp0 hk0 h3 hW1 hI0'
  have hbig : ∀ {A : World}, Kept (fun k => O0 k ∨ W1.heap.size ≤ k) W1 A → Kept (fun k => O0 k ∨ W.heap.size ≤ k) W A := fun hK => hk1.any.seq hK (fun i hi h => h.imp id (fun h => by omega))
  have hold : ∀ {A : World} {g : Nat} {t : TypeId} {cs : Array Value}, Blk W1 g t cs → W.heap.size ≤ g → Kept (fun k => O0 k ∨ W1.heap.size ≤ k) W1 A → Blk A g t cs := fun hB hg hK =>
    (hK.block _ hB.lt (fun h => h.elim (fun h => by have := hO0 _ h; omega) (fun h => by have := hB.lt; omega))).trans hB
  obtain ⟨wn, hwn⟩ : ∃ wn : Nat, z - a + 1 = wn := ⟨(z - a + 1).toNat, by omega⟩
  obtain ⟨sn, hsn⟩ : ∃ sn : Nat, u - y + 1 = sn := ⟨(u - y + 1).toNat, by omega⟩
  have hwn11 : wn ≤ 11 := by omega
  have hsn4 : 1 ≤ sn ∧ sn ≤ 4 := by omega
  have hN44 : wn * sn ≤ 44 := Nat.mul_le_mul hwn11 hsn4.2
  obtain ⟨N, hN⟩ : ∃ N : Nat, wn * sn = N := ⟨_, rfl⟩
  rw [hN] at hN44
  have hw1 : IntKind.i64.wrap (z - a) = z - a := by rw [IntKind.wrap_i64]; omega
  have hw2 : IntKind.i64.wrap (z - a + 1) = (wn : Int) := by rw [IntKind.wrap_i64]; omega
  have hw3 : IntKind.i64.wrap (u - y) = u - y := by rw [IntKind.wrap_i64]; omega
  have hw4 : IntKind.i64.wrap (u - y + 1) = (sn : Int) := by rw [IntKind.wrap_i64]; omega
  have hw5 : IntKind.i64.wrap ((wn : Int) * (sn : Int)) = (N : Int) := by
    have : ((wn : Int) * (sn : Int)) = (N : Int) := by rw [← hN]; simp
    rw [this, IntKind.wrap_i64]; omega
  obtain ⟨x, hx⟩ : ∃ x : Tile, x = ⟨s.data.toList, a, z, y, u⟩ := ⟨_, rfl⟩
  have HTW : Hid (twosL h l t = twosK l t x N) := by
    have hg : h.tiles.getD t dTile = x := by rw [getD_of Hx.out, hx]
    have h1 : wideN x = wn := by rw [hx]; unfold wideN; dsimp only; omega
    have h2 : swellN x = sn := by rw [hx]; unfold swellN; dsimp only; omega
    rw [Hid, twosL, hg, h1, h2, hN]
  have HPN : Hid (∀ k : Nat, pairN x k = (a + (k / sn : Nat), y + (k % sn : Nat))) := fun k => by
    have h2 : swellN x = sn := by rw [hx]; unfold swellN; dsimp only; omega
    unfold pairN; rw [h2, hx]
  have HR := Lib.hid hR
  have HJ1 : Hid (J 0 O0 W1) := hJ _ _ _ _ h0 hO0 hk1.any
  have hsnz : ¬ (sn : Int) = 0 := by omega
  have hsnb : ((sn : Int) == 0) = false := by simp; omega
  clear hwn hsn hN hx hR h0
  go_wp2_with fail
  refine (wpIn_wide (n := 1)).1 ?_
  refine wpIn_label ?_
  have y1 := X1.cell 1
  have y2 := X1.cell 2
  have y3 := X1.cell 3
  have y4 := X1.cell 4
  go_wp2_with fail
  refine (wpIn_wide (n := 1)).1 ?_
  clear y1 y2 y3 y4
  gi_loopw [5, 6, 7, 8, 10, 36] (fun _ _ _ _ _ i' wr => ∃ (k : Nat) (O1 : Foot), i' = .int .i64 k ∧ k ≤ N ∧ Hid (Kept (fun k => O0 k ∨ W1.heap.size ≤ k) W1 wr) ∧ Hid (∀ k, O1 k → O0 k ∨ (W1.heap.size ≤ k ∧ k < wr.heap.size)) ∧ Hid (J (twosK l t x k).length O1 wr)) (fun _ _ _ _ _ i' _ => N - (intOf i').toNat)
  case atStart => exact ⟨0, O0, rfl, Nat.zero_le _, Kept.refl _ _, fun k hk => .inl hk, HJ1.out⟩
  case round =>
    obtain ⟨k, O1, rfl, hk, HK, HO, HJ⟩ := hrel
    by_cases hlt : k < N
    · have hki : (k : Int) < N := by omega
      have Xr := hold X1 (Nat.le_refl _) HK.out
      have y1 := Xr.cell 1
      have y2 := Xr.cell 2
      have y3 := Xr.cell 3
      have y4 := Xr.cell 4
      have XR := Lib.hid Xr
      have htd : Int.tdiv (k : Int) (sn : Int) = ((k / sn : Nat) : Int) := rfl
      have htm : Int.tmod (k : Int) (sn : Int) = ((k % sn : Nat) : Int) := rfl
      have hpn := HPN.out k
      obtain ⟨kd, hkd⟩ : ∃ kd : Nat, k / sn = kd := ⟨_, rfl⟩
      obtain ⟨km, hkm⟩ : ∃ km : Nat, k % sn = km := ⟨_, rfl⟩
      have hkdb : kd ≤ 44 := by rw [← hkd]; exact Nat.le_trans (Nat.div_le_self _ _) (by omega)
      have hkmb : km < sn := by rw [← hkm]; exact Nat.mod_lt _ (by omega)
      rw [hkd] at htd hpn
      rw [hkm] at htm hpn
      clear hkd hkm
      have hv1 : IntKind.i64.wrap (kd : Int) = (kd : Int) := by rw [IntKind.wrap_i64]; omega
      have hv2 : IntKind.i64.wrap (km : Int) = (km : Int) := by rw [IntKind.wrap_i64]; omega
      obtain ⟨wd, hwd⟩ : ∃ wd : Int, a + (kd : Int) = wd := ⟨_, rfl⟩
      obtain ⟨sw, hsw⟩ : ∃ sw : Int, y + (km : Int) = sw := ⟨_, rfl⟩
      have hv3 : IntKind.i64.wrap (a + (kd : Int)) = wd := by rw [hwd, IntKind.wrap_i64]; omega
      have hv4 : IntKind.i64.wrap (y + (km : Int)) = sw := by rw [hsw, IntKind.wrap_i64]; omega
      have hwdb : 0 ≤ wd ∧ wd ≤ 20100 := by omega
      have hswb : 0 ≤ sw ∧ sw ≤ 30 := by omega
      rw [hwd, hsw] at hpn
      have HP := Lib.hid hpn
      clear hwd hsw hpn
      gi_wp2_with fail
      refine wpIn_wide.2 ?_
      go_quiet (fail)
      clear y1 y2 y3 y4 htd htm hv1 hv2 hv3 hv4
      obtain ⟨w5, hw5⟩ : ∃ w5, wr.drewN nq = w5 := ⟨_, rfl⟩
      have hk5 : Kept (fun _ => False) wr w5 := by rw [← hw5]; exact Kept.drewN _ _ _
      rw [hw5]
      clear hw5
      have hK5 : Kept (fun k => O0 k ∨ W1.heap.size ≤ k) W1 w5 := HK.out.trans hk5.any
      have hO1lt : ∀ j, O1 j → j < wr.heap.size := fun j hj => (HO.out j hj).elim (fun h => by have := hO0 j h; have := HK.out.size; omega) (fun h => h.2)
      have HJ5 : Hid (J (twosK l t x k).length O1 w5) := hJ _ _ _ _ HJ.out hO1lt hk5.any
      have HO5 : Hid (∀ j, O1 j → O0 j ∨ (W1.heap.size ≤ j ∧ j < w5.heap.size)) := fun j hj => (HO.out j hj).imp id (fun h => ⟨h.1, by have := hk5.size; omega⟩)
      have HK5 := Lib.hid hK5
      have hI5 := hInv w5 (hbig hK5)
      obtain ⟨gp5, gt5, gh5⟩ := hI5.lt
      obtain ⟨tp5, hp5⟩ := hI5.p
      obtain ⟨tt5, hk5'⟩ := hI5.k
      have p0 := hp5.cell 0
      have k0 := hk5'.cell 0
      have c5 := hI5.c5
      have hle5 := hI5.ss.le
      have HI5 := Lib.hid hI5
      clear hI5 hp5 hk5' hk5 hK5 hO1lt HJ HO HK XR
      gi_wp2_with fail
      refine wpIn_wide.2 ?_
      go_loopw [10, 66] (fun _ j' wr2 => ∃ j : Nat, j' = .int .i64 j ∧ j ≤ q ∧ Hid (Below w5.heap.size w5 wr2) ∧ Hid (twoUpto l t wd sw j = true)) (fun _ j' _ => q - (intOf j').toNat)
      case atStart => exact ⟨0, rfl, Nat.zero_le _, Below.refl _ _, rfl⟩
      case round =>
        clear p0 k0 c5
        obtain ⟨j, rfl, hj, HB, HU⟩ := hrel
        by_cases hlt2 : j < q
        · have hji : (j : Int) < q := by omega
          have hsr := HI5.out.ss.keep SeenR.good (Keeps.below HB.out)
          obtain ⟨bL, oL, e1, e2, e3, e4, rfl, hbL, hd0, hd1, hd2, hd3, Hy⟩ := Seens.get hsr hlt2
          obtain ⟨ha1, ha2⟩ := hseen j _ Hy.out
          dsimp only at ha1 ha2
          obtain ⟨tt6, hk6⟩ := HI5.out.k
          have k6 := (hk6.bl HB.out).cell 0
          have hgt6 := (hk6.bl HB.out).lt
          clear hk6 hsr
          have hm1 : 0 ≤ sw * e2 := Int.mul_nonneg hswb.1 ha1
          have hm2 : sw * e2 ≤ 30 * 40 := Int.mul_le_mul hswb.2 ha2 ha1 (by decide)
          have hx1 : IntKind.i64.wrap (sw * e2) = sw * e2 := by rw [IntKind.wrap_i64]; omega
          have hx2 : IntKind.i64.wrap (wd + sw * e2) = wd + sw * e2 := by rw [IntKind.wrap_i64]; omega
          have HS : Hid (twoUpto l t wd sw (j + 1) = (twoUpto l t wd sw j && (!(e1 == (t : Int)) || inB (wd + sw * e2) e3 e4))) := twoUpto_snoc Hy.out
          by_cases het : e1 = (t : Int)
          · have heb : (e1 == (t : Int)) = true := by simpa using het
            clear het
            cases ho : outB e3 e4 (wd + sw * e2)
            · go_wp2_with fail
              refine (out1_any _ (by exact newc rfl (by simp)) ho).mono ?_
              rintro e w6 ⟨rfl, hb6⟩
              have hB6 : Below w5.heap.size w5 w6 := bl_call (bl_alloc (bl_alloc HB.out _ (Nat.le_refl _)) _ (Nat.le_refl _)) hb6 (Nat.le_refl _)
              have HU2 : Hid (twoUpto l t wd sw (j + 1) = true) := by rw [outB_inB] at ho; rw [Hid, HS.out, HU.out, heb]; simpa using ho
              clear ho hb6 hd0 hd1 hd2 hd3 k6
              go_wp2
              go_roundw
              case rel => exact ⟨j + 1, by go_num, by omega, hB6, HU2⟩
              case measure => simp [intOf]; omega
            · go_wp2_with fail
              refine (out1_any _ (by exact newc rfl (by simp)) ho).mono ?_
              rintro e w6 ⟨rfl, hb6⟩
              have hB6 : Below w5.heap.size w5 w6 := bl_call (bl_alloc (bl_alloc HB.out _ (Nat.le_refl _)) _ (Nat.le_refl _)) hb6 (Nat.le_refl _)
              have hno : twoOk l t wd sw = false := twoUpto_no Hy.out (by rw [outB_inB] at ho; dsimp only; rw [heb]; simpa using ho)
              have HN : Hid (twosK l t x (k + 1) = twosK l t x k) := twosK_no (by rw [HP.out]; exact hno)
              have hK6 : Kept (fun _ => False) w5 w6 := Kept.of_bl hB6
              have HK6 : Hid (Kept (fun k => O0 k ∨ W1.heap.size ≤ k) W1 w6) := HK5.out.trans hK6.any
              have HO6 : Hid (∀ j, O1 j → O0 j ∨ (W1.heap.size ≤ j ∧ j < w6.heap.size)) := fun j hj => (HO5.out j hj).imp id (fun h => ⟨h.1, by have := hK6.size; omega⟩)
              have HJ6 : Hid (J (twosK l t x (k + 1)).length O1 w6) := by rw [Hid, HN.out]; exact hJ _ _ _ _ HJ5.out (fun j hj => (HO5.out j hj).elim (fun h => by have := hO0 j h; have := HK5.out.size; omega) (fun h => h.2)) hK6.any
              clear ho hb6 hd0 hd1 hd2 hd3 k6 hno hK6 hB6
              go_wp2
              gi_wp2
              exact ⟨⟨k + 1, O1, by go_num, by omega, HK6, HO6, HJ6⟩, by simp [intOf]; omega⟩
          · have heb : (e1 == (t : Int)) = false := by simpa using het
            clear het
            have HU2 : Hid (twoUpto l t wd sw (j + 1) = true) := by rw [Hid, HS.out, HU.out, heb]; simp
            have hB6 : Below w5.heap.size w5 (wr.alloc (.cells #[.int .i64 e1, .int .i64 e2, .int .i64 e3, .int .i64 e4] 34)) := bl_alloc HB.out _ (Nat.le_refl _)
            go_wp2
            go_roundw
            case rel => exact ⟨j + 1, by go_num, by omega, hB6, HU2⟩
            case measure => simp [intOf]; omega
        · obtain rfl : j = q := by omega
          have hyes : twoOk l t wd sw = true := by
            have := HU.out
            unfold twoUpto at this
            rw [List.take_of_length_le (by rw [Hq.out]; exact Nat.le_refl _)] at this
            exact this
          have hyes2 : twoOk l t (pairN x k).1 (pairN x k).2 = true := by rw [HP.out]; exact hyes
          have hKw : Kept (fun _ => False) w5 wr := Kept.of_bl HB.out
          have hO1lt : ∀ j, O1 j → j < w5.heap.size := fun j hj => (HO5.out j hj).elim (fun h => by have := hO0 j h; have := HK5.out.size; omega) (fun h => h.2)
          have hKW : Kept (fun k => O0 k ∨ W1.heap.size ≤ k) W1 wr := HK5.out.trans hKw.any
          obtain ⟨fn, tmps, assign, body, hy, hRd⟩ := HR.out _ (wd, sw) O1 wr (by rw [HTW.out, ← HP.out]; exact twosK_get hlt hyes2) (hJ _ _ _ _ HJ5.out hO1lt hKw.any) (fun j hj => by have := hO1lt j hj; have := hKw.size; omega) (fun j hj => (HO5.out j hj).imp id (fun h => by omega)) (hbig hKW) 0
          have HRD := Lib.hid hRd
          have HKW := Lib.hid hKW
          have HYS : Hid (twosK l t x (k + 1) = twosK l t x k ++ [(wd, sw)]) := by rw [Hid, ← HP.out]; exact twosK_yes hyes2
          have HOw : Hid (∀ j, O1 j → O0 j ∨ (W1.heap.size ≤ j ∧ j < wr.heap.size)) := fun j hj => (HO5.out j hj).imp id (fun h => ⟨h.1, by have := hKw.size; omega⟩)
          clear hRd hKW hKw hO1lt hyes hyes2
          go_wp2_with fail
          gi_wp2_with fail
          refine HRD.out.mono ?_
          clear HRD
          rintro e B ⟨O2, hO2, hKB, hcase⟩
          have HKB : Hid (Kept (fun k => O0 k ∨ W1.heap.size ≤ k) W1 B) := HKW.out.trans (hKB.mono fun j _ h => (HOw.out j h).imp id (fun h => h.1))
          have HOB : Hid (∀ j, O2 j → O0 j ∨ (W1.heap.size ≤ j ∧ j < B.heap.size)) := fun j hj => (hO2 j hj).elim (fun h => (HOw.out j h).imp id (fun h => ⟨h.1, by have := hKB.size; omega⟩)) (fun h => .inr ⟨by have := HKW.out.size; omega, h.2⟩)
          clear hO2 hKB
          rcases hcase with ⟨rfl, hj'⟩ | ⟨rfl, hx'⟩
          · have HJB : Hid (J (twosK l t x (k + 1)).length O2 B) := by rw [Hid, HYS.out]; simpa using hj'
            clear hj'
            gi_wp2
            exact ⟨⟨k + 1, O2, by go_num, by omega, HKB, HOB, HJB⟩, by simp [intOf]; omega⟩
          · gi_wp2

            simp only [Exit.noGoto]
            go_at_K
            refine bodyPost_ret (results_none rfl _ _ _) rfl ?_
            exact ⟨⟨_, rfl⟩, hbig HKB.out, O2, fun k h => (HOB.out k h).imp id (fun h => ⟨by omega, h.2⟩), .inr hx'⟩
    · obtain rfl : k = N := by omega
      gi_wp2

      simp only [Exit.noGoto]
      go_at_K
      go_end0
      refine ⟨⟨_, rfl⟩, hbig HK.out, O1, fun k h => (HO.out k h).imp id (fun h => ⟨by omega, h.2⟩), .inl ?_⟩
      rw [HTW.out]
      exact HJ.out

end Go.Proofs.Ytnaadjhiahjlfaa
