/- Walks: the reference's At. -/
import Derived.Test.YtpbimgafafkjgaaCTRefH
set_option linter.unusedVariables false
set_option linter.unusedSimpArgs false
set_option linter.all false
namespace Go.Proofs.Ytpbimgafafkjgaa
open Go.RowKit

set_option maxRecDepth 100000 in
set_option maxHeartbeats 2000000 in
theorem rat_any {S : Foot} {A B C T : Option Addr} {n ca m cb q cc k c row a : Nat} {h : Hall} {l : List Seen} {tl : List Int} {v1 v2 v3 : Value} (w : World) (g : HallAt (fun _ => True) w A n B m h) (gs : Seens (fun _ => True) w C q l)
    (hv1 : v1.oneCell' = true) (hv2 : v2.oneCell' = true) (hv3 : v3.oneCell' = true) (hk : OkH h) (hq6 : l.length ≤ 6) (hsn : ∀ (k : Nat) (y : Seen), l[k]? = some y → 0 ≤ y.air ∧ y.air ≤ 40) (hag : agree8 h l = true)
    (hr : row < m) (ht : Ints S w T k tl) (hk8 : k ≤ 8) (hT : ∀ i ∈ tl, 0 ≤ i ∧ i < n) (ha : a ≤ 40) :
    Calls Try.prog 66 #[.agg #[v1, v2, v3, .slice A n ca, .slice B m cb], .slice C q cc, .int .i64 row, .slice T k c, .int .i64 a] w fun e w' =>
      e = .returned (.agg #[.int .i64 (at8 h l row tl a).1, .int .i64 (at8 h l row tl a).2]) ∧ Below w.heap.size w w' := by
  have Hn := Lib.hid g.ts.len
  have Hm := Lib.hid g.rs.len
  have Hk := Lib.hid ht.len
  obtain ⟨W, hW⟩ : ∃ W, (w.alloc (.cells #[v1, v2, v3, .slice A n ca, .slice B m cb] 27)).alloc (.cells #[.int .i64 0, .int .i64 0] 23) = W := ⟨_, rfl⟩
  have X : Blk W w.heap.size 27 #[v1, v2, v3, .slice A n ca, .slice B m cb] := by rw [← hW]; exact (Blk.new _ _ _ rfl).alloc _
  have X8 : Blk W (w.heap.size + 1) 23 #[.int .i64 0, .int .i64 0] := by rw [← hW]; exact Blk.new _ _ _ (by simp)
  have hBW : Below w.heap.size w W := by rw [← hW]; exact bl_alloc (bl_alloc (Below.refl _ _) _ (Nat.le_refl _)) _ (Nat.le_refl _)
  have hc := g.keep (Keeps.below hBW)
  have hs := gs.keep SeenR.good (Keeps.below hBW)
  have htW := ht.keep IntR.good (Keeps.below hBW)
  have x0 : W.cell? ⟨w.heap.size, 0, none⟩ = some v1 := X.cell 0
  have x1 : W.cell? ⟨w.heap.size, 1, none⟩ = some v2 := X.cell 1
  have x2 : W.cell? ⟨w.heap.size, 2, none⟩ = some v3 := X.cell 2
  have x3 : W.cell? ⟨w.heap.size, 3, none⟩ = some (.slice A n ca) := X.cell 3
  obtain ⟨b, off, fr, sw, pl, rfl, hbb, r0, r1, r2, Hx⟩ := RowTs.get hc.rs hr
  have x4 : W.cell? ⟨w.heap.size, 4, none⟩ = some (.slice (some ⟨b, off, none⟩) m cb) := X.cell 4
  have hre := hk.row (k := row) (by rw [Hm.out]; exact hr)
  obtain ⟨f1, f2, f3, f4, f5, f6⟩ := rowE_zero Hx.out hre
  have hlm := hc.rs.le
  have hln := hc.ts.le
  have hri : (row : Int) < m := by omega
  have hm1 : 0 ≤ sw * (a : Int) := Int.mul_nonneg f3 (by omega)
  have hm2 : sw * (a : Int) ≤ 160 * 40 := Int.mul_le_mul f4 (by omega) (by omega) (by decide)
  have hx1 : IntKind.i64.wrap (sw * (a : Int)) = sw * (a : Int) := by rw [IntKind.wrap_i64]; omega
  obtain ⟨nn, hnn⟩ : ∃ nn : Int, fr + sw * (a : Int) = nn := ⟨_, rfl⟩
  have hx2 : IntKind.i64.wrap (fr + sw * (a : Int)) = nn := by rw [hnn, IntKind.wrap_i64]; omega
  have hnb : 0 ≤ nn ∧ nn ≤ 206400 := by omega
  have HN : Hid (atUpto h l row tl a 0 = (nn, nn)) := by
    unfold atUpto
    rw [Hid, getD_of Hx.out, ← hnn]; rfl
  have HAG := Lib.hid hag
  have HKK := Lib.hid hk
  have HT := Lib.hid hT
  have HX := Lib.hid X
  have HG := Lib.hid g
  have HGS := Lib.hid gs
  have HTT := Lib.hid ht
  clear hnn hre r2 hag hk hT g gs ht X hc hs
  go_enter Try.func66, Try.ntmps66
  go_wp2_with fail
  go_quiet (fail)
  clear r0 r1 hx1 hx2 hm1 hm2 hW x0 x1 x2 x3 x4
  obtain ⟨Wq, hWq⟩ : ∃ Wq, W.drewN nq = Wq := ⟨_, rfl⟩
  have bq : Below W.heap.size W Wq := by rw [← hWq]; exact bl_drewN (Below.refl _ _) _
  have R8 := X8.bl bq
  have RX := HX.out.bl bq
  have RL : w.heap.size + 1 < Wq.heap.size := R8.lt
  have BQ : Below w.heap.size w Wq := bl_call hBW bq (Nat.le_refl _)
  rw [hWq]
  clear hWq X8 HX
  go_wp2_with fail
  obtain ⟨gg, hgg⟩ : ∃ gg, Wq.heap.size = gg := ⟨_, rfl⟩
  obtain ⟨Wl, hWl⟩ : ∃ Wl, Wq.alloc (.cells #[.int .i64 nn, .int .i64 nn] 23) = Wl := ⟨_, rfl⟩
  have RG : Blk Wl gg 23 #[.int .i64 nn, .int .i64 nn] := by rw [← hWl]; exact Blk.new _ _ _ hgg.symm
  have RE : Blk Wl (w.heap.size + 1) 23 #[.int .i64 0, .int .i64 0] := by rw [← hWl]; exact R8.alloc _
  have RX2 : Blk Wl w.heap.size 27 #[v1, v2, v3, .slice A n ca, .slice (some ⟨b, off, none⟩) m cb] := by rw [← hWl]; exact RX.alloc _
  have blq : Below W.heap.size W Wl := by rw [← hWl]; exact bl_alloc bq _ (Nat.le_refl _)
  have bl : Below w.heap.size w Wl := bl_call hBW blq (Nat.le_refl _)
  have hg8 : w.heap.size + 1 < gg := by rw [← hgg]; exact RL
  have hgW : W.heap.size ≤ gg := by rw [← hgg]; exact bq.size
  rw [hWl, hgg]
  clear hWl hgg R8 bq RX
  have HBL := Lib.hid bl
  clear bl blq htW BQ hbb
  go_wp2_with fail
  go_loopw [13] (fun i' wr => ∃ (j : Nat) (lo hi : Int), i' = .int .i64 j ∧ j ≤ k ∧ -(21300 * (j : Int)) ≤ lo ∧ lo ≤ hi ∧ hi ≤ 206400 ∧ Hid (atUpto h l row tl a j = (lo, hi)) ∧ Hid (Kept (fun x => gg ≤ x) Wl wr) ∧ Hid (Blk wr gg 23 #[.int .i64 lo, .int .i64 hi])) (fun i' _ => k - (intOf i').toNat)
  case atStart => exact ⟨0, nn, nn, rfl, Nat.zero_le _, by omega, by omega, by omega, HN, Kept.refl _ _, RG⟩
  case round =>
    obtain ⟨j, lo, hi, rfl, hj, hb1, hb2, hb3, HA, HK, HB⟩ := hrel
    have hBl : Below w.heap.size w wr := HBL.out.trans (HK.out.below (B := w.heap.size) HBL.out.size (fun x hx => by omega))
    have hRX : Blk wr w.heap.size 27 #[v1, v2, v3, .slice A n ca, .slice (some ⟨b, off, none⟩) m cb] := (HK.out.block _ RX2.lt (by omega)).trans RX2
    by_cases hlt : j < k
    · have hji : (j : Int) < k := by omega
      have htr := HTT.out.keep IntR.good (Keeps.below hBl)
      obtain ⟨bT, oT, x, rfl, hcell, Hxi⟩ := Ints.get htr hlt
      obtain ⟨hx0, hxn⟩ := HT.out x (List.mem_of_getElem? Hxi.out)
      obtain ⟨t, rfl⟩ := Int.eq_ofNat_of_zero_le hx0
      have htn : t < n := by omega
      have htl : t < h.tiles.length := by rw [Hn.out]; exact htn
      obtain ⟨y1, y2, hv⟩ : ∃ y1 y2, wide8 h l t a = (y1, y2) := ⟨_, _, rfl⟩
      have hwb := wide8_bd HKK.out htl (agree_ne HAG.out htl) (a := (a : Int)) (by omega)
      rw [hv] at hwb
      dsimp only at hwb
      have HA1 : Hid (atUpto h l row tl a (j + 1) = (lo - y2, hi - y1)) := by rw [Hid, atUpto_succ Hxi.out, HA.out]; simp only [Int.toNat_natCast, hv]
      have HW : Hid (∀ W, Below w.heap.size w W → Calls Try.prog 58 #[.agg #[v1, v2, v3, .slice A n ca, .slice (some ⟨b, off, none⟩) m cb], .slice C q cc, .int .i64 t, .int .i64 a] W fun e w' => e = .returned (.agg #[.int .i64 y1, .int .i64 y2]) ∧ Below W.heap.size W w') := fun W hb => by
        have := rwide_any (cc := cc) (ca := ca) (cb := cb) W (HG.out.keep (Keeps.below hb)) (HGS.out.keep SeenR.good (Keeps.below hb)) hv1 hv2 hv3 HKK.out hq6 hsn htl ha (agree_ne HAG.out htl)
        rw [hv] at this
        exact this
      have HBl := Lib.hid hBl
      have HRX := Lib.hid hRX
      have HCE := Lib.hid hcell
      clear hv hx0 htr hBl hRX hcell
      go_wp2_with fail
      refine wp_region_list (fun W => Below wr.heap.size wr W) (fun w w' => Below w.heap.size w w')
        [isV (.agg #[v1, v2, v3, .slice A n ca, .slice (some ⟨b, off, none⟩) m cb]), isV (.slice C q cc), isV (.slice (some ⟨bT, oT, none⟩) k c), isV (.int .i64 j), isV (.pointer (some ⟨bT, oT + j, none⟩)), isV (.int .i64 t), isV (.int .i64 a), isV (.agg #[.int .i64 y1, .int .i64 y2]), NewSp wr.heap.size 23]
        (by kernel_rfl) (by kernel_rfl) (by kernel_rfl) (by simp) (by simp) (Below.refl _ _).drew ?stab ?step ?fin
      case stab => exact StabL.is (StabL.is (StabL.is (StabL.is (StabL.is (StabL.is (StabL.is (StabL.is (StabL.cons (fun v W V hC hX ⟨g, h1, h2, h3⟩ => ⟨g, h1, h2.bl hX, h3⟩) StabL.nil))))))))
      case step =>
        refine StepsL.is ?_ (StepsL.is ?_ (StepsL.is ?_ (StepsL.is ?_ (StepsL.is ?_ (StepsL.is ?_ (StepsL.is ?_ (StepsL.is ?_ (StepsL.cons ?_ StepsL.nil))))))))
        all_goals
          intro vs W K hC hD hU hK
          simp only [fillA, Act.put, List.setIfInBounds_toArray, List.set_cons_zero, List.set_cons_succ, Nat.zero_add, Nat.reduceAdd] at hK ⊢
          simp [waits, Region.binds] at hD
          try simp only [envOf, List.getD_cons_succ, List.getD_cons_zero, isV] at hD
          try simp only [hD] at hK ⊢
        · have hR := HRX.out.bl hC
          have k0 := hR.cell 0
          have k1 := hR.cell 1
          have k2 := hR.cell 2
          have k3 := hR.cell 3
          have k4 := hR.cell 4
          go_simp; exact hK _ hC (Below.refl _ _)
        · go_simp; exact hK _ hC (Below.refl _ _)
        · go_simp; exact hK _ hC (Below.refl _ _)
        · go_simp; exact hK _ hC (Below.refl _ _)
        · go_simp; exact hK _ hC (Below.refl _ _)
        · have k0 := getc hC HCE.out
          go_simp; exact hK _ hC (Below.refl _ _)
        · go_simp; exact hK _ hC (Below.refl _ _)
        · go_simp
          refine (HW.out W (bl_call HBl.out hC (Nat.le_refl _))).mono ?_
          rintro e w' ⟨rfl, hb⟩
          exact hK _ (bl_call hC hb (Nat.le_refl _)) hb
        · go_simp
          exact hK _ _ (bl_alloc hC _ (Nat.le_refl _)) (bl_alloc (Below.refl _ _) _ (Nat.le_refl _)) ⟨_, rfl, Blk.new _ _ _ rfl, hC.size⟩
      case fin =>
        intro vs W hC hE hU
        have e4 := hE 7 (by simp)
        have e5 := hE 8 (by simp)
        simp only [envOf, List.getD_cons_succ, List.getD_cons_zero, isV] at e4 e5
        simp only [fillA, Act.put, List.setIfInBounds_toArray, List.set_cons_zero, List.set_cons_succ, Nat.zero_add, Nat.reduceAdd, e4]
        simp [Region.wanted, yielded]
        obtain ⟨g9, h9, hB9, hg9⟩ := e5
        rw [h9]
        have z0 := hB9.cell 0
        have z1 := hB9.cell 1
        have fz0 := hB9.frozen 0
        have fz1 := hB9.frozen 1
        have hl9 := hB9.lt
        have hgr := HB.out.lt
        obtain ⟨u0, hu0⟩ : ∃ v0, vs 0 = v0 := ⟨_, rfl⟩
        obtain ⟨u1, hu1⟩ : ∃ v0, vs 1 = v0 := ⟨_, rfl⟩
        obtain ⟨u2, hu2⟩ : ∃ v0, vs 2 = v0 := ⟨_, rfl⟩
        obtain ⟨u3, hu3⟩ : ∃ v0, vs 3 = v0 := ⟨_, rfl⟩
        obtain ⟨u4, hu4⟩ : ∃ v0, vs 4 = v0 := ⟨_, rfl⟩
        obtain ⟨u5, hu5⟩ : ∃ v0, vs 5 = v0 := ⟨_, rfl⟩
        obtain ⟨u6, hu6⟩ : ∃ v0, vs 6 = v0 := ⟨_, rfl⟩
        rw [hu0, hu1, hu2, hu3, hu4, hu5, hu6]
        clear e4 h9 hE hU HRX HCE hu0 hu1 hu2 hu3 hu4 hu5 hu6
        go_simp
        obtain ⟨Wv, hWv⟩ : ∃ Wv, (W.setCell ⟨g9, 0, none⟩ (.int .i64 y1)).setCell ⟨g9, 1, none⟩ (.int .i64 y2) = Wv := ⟨_, rfl⟩
        rw [hWv]
        have hV9 : Blk Wv g9 23 #[.int .i64 y1, .int .i64 y2] := by rw [← hWv]; exact hB9.set2 _ _
        have hVB : Blk Wv gg 23 #[.int .i64 lo, .int .i64 hi] := by rw [← hWv]; exact ((HB.out.bl hC).far (by dsimp only; omega) _).far (by dsimp only; omega) _
        have hVK : Kept (fun x => gg ≤ x) Wl Wv := by rw [← hWv]; exact ((HK.out.trans (Kept.of_bl hC)).trans (Kept.setCell _ _ _ (by dsimp only; omega))).trans (Kept.setCell _ _ _ (by dsimp only; omega))
        clear hWv hB9 z0 z1 fz0 fz1 hl9 HB HK
        have z0 := hV9.cell 0
        have z1 := hV9.cell 1
        have q0 := hVB.cell 0
        have q1 := hVB.cell 1
        have fq0 := hVB.frozen 0
        have fq1 := hVB.frozen 1
        have hlv := hVB.lt
        have hl9 := hV9.lt
        go_wp2_with fail
        go_roundw
        case rel => exact ⟨j + 1, lo - y2, hi - y1, by go_num, by omega, by omega, by omega, by omega, HA1, (hVK.trans (Kept.setCell _ _ _ (by exact Nat.le_refl _))).trans (Kept.setCell _ _ _ (by exact Nat.le_refl _)), hVB.set2 _ _⟩
        case measure => simp [intOf]; omega
    · obtain rfl : j = k := by omega
      have hR8 : Blk wr (w.heap.size + 1) 23 #[.int .i64 0, .int .i64 0] := (HK.out.block _ RE.lt (by omega)).trans RE
      have q0 := HB.out.cell 0
      have q1 := HB.out.cell 1
      have z0 := hR8.cell 0
      have z1 := hR8.cell 1
      have fz0 := hR8.frozen 0
      have fz1 := hR8.frozen 1
      have hHR := Lib.hid hR8
      clear hR8
      go_wp2_with fail
      exact bodyPost_ret (ret_span1 rfl rfl (hHR.out.set2 _ _).c0 (hHR.out.set2 _ _).c1) rfl ⟨by rw [at8, Hk.out, HA.out], bl_set (bl_set hBl (by dsimp only; omega) _) (by dsimp only; omega) _⟩

end Go.Proofs.Ytpbimgafafkjgaa

namespace Go.Proofs.Ytpbimgafafkjgaa
open Go.RowKit

set_option maxRecDepth 100000 in
set_option maxHeartbeats 2000000 in
theorem rall_any {S : Foot} {A B C T : Option Addr} {n ca m cb q cc k c row : Nat} {h : Hall} {l : List Seen} {tl : List Int} {alo ahi : Int} {v3 : Value} (w : World) (g : HallAt (fun _ => True) w A n B m h) (gs : Seens (fun _ => True) w C q l)
    (h1 : h.alo = alo) (h2 : h.ahi = ahi) (hv3 : v3.oneCell' = true) (hk : OkH h) (hq6 : l.length ≤ 6) (hsn : ∀ (k : Nat) (y : Seen), l[k]? = some y → 0 ≤ y.air ∧ y.air ≤ 40) (hag : agree8 h l = true)
    (hr : row < m) (ht : Ints S w T k tl) (hk8 : k ≤ 8) (hT : ∀ i ∈ tl, 0 ≤ i ∧ i < n) :
    Calls Try.prog 62 #[.agg #[.int .i64 alo, .int .i64 ahi, v3, .slice A n ca, .slice B m cb], .slice C q cc, .int .i64 row, .slice T k c] w fun e w' =>
      e = .returned (.agg #[.int .i64 (gap8 h l row tl).1, .int .i64 (gap8 h l row tl).2]) ∧ Below w.heap.size w w' := by
  obtain ⟨ha1, ha2, ha3, ha4⟩ := hk.air
  rw [h1, h2] at ha2
  rw [h1] at ha1 ha3
  rw [h2] at ha3 ha4
  obtain ⟨an, rfl⟩ := Int.eq_ofNat_of_zero_le ha1
  obtain ⟨d, hd⟩ : ∃ d : Nat, ahi = an + d := ⟨(ahi - an).toNat, by omega⟩
  subst hd
  have HAT : Hid (∀ (W : World) (a : Nat), Below w.heap.size w W → a ≤ 40 → Calls Try.prog 66 #[.agg #[.int .i64 an, .int .i64 (an + d), v3, .slice A n ca, .slice B m cb], .slice C q cc, .int .i64 row, .slice T k c, .int .i64 a] W fun e w' => e = .returned (.agg #[.int .i64 (at8 h l row tl a).1, .int .i64 (at8 h l row tl a).2]) ∧ Below W.heap.size W w') := fun W a hb ha =>
    rat_any W (g.keep (Keeps.below hb)) (gs.keep SeenR.good (Keeps.below hb)) rfl rfl hv3 hk hq6 hsn hag hr (ht.keep IntR.good (Keeps.below hb)) hk8 hT ha
  have HG : Hid (gap8 h l row tl = gapUpto h l row tl d) := by rw [Hid, gap8, h1, h2, show ((an : Int) + d - an).toNat = d by omega]
  have HS : Hid (∀ j, gapUpto h l row tl (j + 1) = (min (gapUpto h l row tl j).1 (at8 h l row tl ((an + 1 + j : Nat) : Int)).1, max (gapUpto h l row tl j).2 (at8 h l row tl ((an + 1 + j : Nat) : Int)).2)) := fun j => by
    rw [show (((an + 1 + j : Nat)) : Int) = (an : Int) + 1 + j by omega, ← h1]; rfl
  have H0 : Hid (gapUpto h l row tl 0 = at8 h l row tl an) := by rw [Hid, ← h1]; rfl
  obtain ⟨W, hW⟩ : ∃ W, (w.alloc (.cells #[.int .i64 an, .int .i64 (an + d), v3, .slice A n ca, .slice B m cb] 27)).alloc (.cells #[.int .i64 0, .int .i64 0] 23) = W := ⟨_, rfl⟩
  have X : Blk W w.heap.size 27 #[.int .i64 an, .int .i64 (an + d), v3, .slice A n ca, .slice B m cb] := by rw [← hW]; exact (Blk.new _ _ _ rfl).alloc _
  have X8 : Blk W (w.heap.size + 1) 23 #[.int .i64 0, .int .i64 0] := by rw [← hW]; exact Blk.new _ _ _ (by simp)
  have hBW : Below w.heap.size w W := by rw [← hW]; exact bl_alloc (bl_alloc (Below.refl _ _) _ (Nat.le_refl _)) _ (Nat.le_refl _)
  have x0 : W.cell? ⟨w.heap.size, 0, none⟩ = some (.int .i64 an) := X.cell 0
  have x1 : W.cell? ⟨w.heap.size, 1, none⟩ = some (.int .i64 (an + d)) := X.cell 1
  have x2 : W.cell? ⟨w.heap.size, 2, none⟩ = some v3 := X.cell 2
  have x3 : W.cell? ⟨w.heap.size, 3, none⟩ = some (.slice A n ca) := X.cell 3
  have x4 : W.cell? ⟨w.heap.size, 4, none⟩ = some (.slice B m cb) := X.cell 4
  clear g gs ht hk hag hT h1 h2
  go_enter Try.func62, Try.ntmps62
  go_wp2_with fail
  refine (HAT.out W an hBW (by omega)).mono ?_
  rintro e W1 ⟨rfl, b1⟩
  have HX := Lib.hid (X.bl b1)
  have Y8 := X8.bl b1
  have B1 := bl_call hBW b1 (Nat.le_refl _)
  obtain ⟨gg, hgg⟩ : ∃ gg, W1.heap.size = gg := ⟨_, rfl⟩
  obtain ⟨p0, hp0⟩ : ∃ p0, (at8 h l row tl an).1 = p0 := ⟨_, rfl⟩
  obtain ⟨p1, hp1⟩ : ∃ p1, (at8 h l row tl an).2 = p1 := ⟨_, rfl⟩
  rw [hp0, hp1]
  have H00 : Hid (gapUpto h l row tl 0 = (p0, p1)) := by rw [Hid, H0.out, ← hp0, ← hp1]
  clear hW x0 x1 x2 x3 x4 X X8 hp0 hp1 b1
  obtain ⟨Wl, hWl⟩ : ∃ Wl, W1.alloc (.cells #[.int .i64 p0, .int .i64 p1] 23) = Wl := ⟨_, rfl⟩
  have RG : Blk Wl gg 23 #[.int .i64 p0, .int .i64 p1] := by rw [← hWl]; exact Blk.new _ _ _ hgg.symm
  have RE : Blk Wl (w.heap.size + 1) 23 #[.int .i64 0, .int .i64 0] := by rw [← hWl]; exact Y8.alloc _
  have RX : Blk Wl w.heap.size 27 #[.int .i64 an, .int .i64 (an + d), v3, .slice A n ca, .slice B m cb] := by rw [← hWl]; exact HX.out.alloc _
  have HBL : Hid (Below w.heap.size w Wl) := by rw [Hid, ← hWl]; exact bl_alloc B1 _ (Nat.le_refl _)
  have hg8 : w.heap.size + 1 < gg := by rw [← hgg]; exact Y8.lt
  have x0 := RX.cell 0
  have hwa : IntKind.i64.wrap ((an : Int) + 1) = (an : Int) + 1 := by rw [IntKind.wrap_i64]; omega
  clear Y8 HX B1
  go_wp2_with fail
  clear hWl hgg x0
  go_loopw [10] (fun i' wr => ∃ (j : Nat) (lo hi : Int), i' = .int .i64 (an + 1 + j) ∧ j ≤ d ∧ Hid (gapUpto h l row tl j = (lo, hi)) ∧ Hid (Kept (fun x => gg ≤ x) Wl wr) ∧ Hid (Blk wr gg 23 #[.int .i64 lo, .int .i64 hi])) (fun i' _ => an + 1 + d - (intOf i').toNat)
  case atStart => exact ⟨0, p0, p1, by simp, Nat.zero_le _, H00, Kept.refl _ _, RG⟩
  case round =>
    obtain ⟨j, lo, hi, rfl, hj, HA, HK, HB⟩ := hrel
    have hBl : Below w.heap.size w wr := HBL.out.trans (HK.out.below (B := w.heap.size) HBL.out.size (fun x hx => by omega))
    have hRX : Blk wr w.heap.size 27 #[.int .i64 an, .int .i64 (an + d), v3, .slice A n ca, .slice B m cb] := (HK.out.block _ RX.lt (by omega)).trans RX
    have y1 := hRX.cell 1
    by_cases hlt : j < d
    · have hle : (an : Int) + 1 + j ≤ an + d := by omega
      have y0 := hRX.cell 0
      have y2 := hRX.cell 2
      have y3 := hRX.cell 3
      have y4 := hRX.cell 4
      have hcall := HAT.out wr (an + 1 + j) hBl (by omega)
      have HS1 := Lib.hid (HS.out j)
      obtain ⟨p0', hp0⟩ : ∃ p0, (at8 h l row tl ((an + 1 + j : Nat) : Int)).1 = p0 := ⟨_, rfl⟩
      obtain ⟨p1', hp1⟩ : ∃ p1, (at8 h l row tl ((an + 1 + j : Nat) : Int)).2 = p1 := ⟨_, rfl⟩
      rw [hp0, hp1, HA.out] at HS1
      rw [hp0, hp1, show (((an + 1 + j : Nat)) : Int) = (an : Int) + 1 + j by omega] at hcall
      clear hp0 hp1 hRX
      have hw2 : IntKind.i64.wrap ((an : Int) + 1 + j + 1) = (an : Int) + 1 + j + 1 := by rw [IntKind.wrap_i64]; omega
      go_wp2_with fail
      refine hcall.mono ?_
      rintro e w1 ⟨rfl, b1⟩
      clear hcall y0 y1 y2 y3 y4
      have hVK := Lib.hid (HK.out.trans (Kept.of_bl b1))
      have hV := HB.out.bl b1
      have q0 := hV.cell 0
      have q1 := hV.cell 1
      have fq0 := hV.frozen 0
      have fq1 := hV.frozen 1
      have hlv := hV.lt
      have HV := Lib.hid hV
      clear hV b1 HB HK
      go_wp2_with fail
      go_roundw
      case rel => exact ⟨j + 1, min lo p0', max hi p1', by go_num, by omega, HS1, ((hVK.out.trans (Kept.setCell _ _ _ (by exact Nat.le_refl _))).trans (Kept.setCell _ _ _ (by exact Nat.le_refl _))).trans (Kept.alloc _ _ _), (HV.out.set2 _ _).alloc _⟩
      case measure => simp [intOf]; omega
    · obtain rfl : j = d := by omega
      have hle : ¬ (an : Int) + 1 + j ≤ an + j := by omega
      have hR8 : Blk wr (w.heap.size + 1) 23 #[.int .i64 0, .int .i64 0] := (HK.out.block _ RE.lt (by omega)).trans RE
      have q0 := HB.out.cell 0
      have q1 := HB.out.cell 1
      have z0 := hR8.cell 0
      have z1 := hR8.cell 1
      have fz0 := hR8.frozen 0
      have fz1 := hR8.frozen 1
      have hHR := Lib.hid hR8
      clear hR8
      go_wp2_with fail
      exact bodyPost_ret (ret_span1 rfl rfl (hHR.out.set2 _ _).c0 (hHR.out.set2 _ _).c1) rfl ⟨by rw [HG.out, HA.out], bl_set (bl_set hBl (by dsimp only; omega) _) (by dsimp only; omega) _⟩

end Go.Proofs.Ytpbimgafafkjgaa
