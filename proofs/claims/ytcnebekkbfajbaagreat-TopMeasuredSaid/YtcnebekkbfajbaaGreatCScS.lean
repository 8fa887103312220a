/- A part of the proof that TopMeasured always answers true. -/
import Derived.Test.YtcnebekkbfajbaaGreatCKAppL
import Derived.Test.YtcnebekkbfajbaaGreatCKEnt2
import Derived.Test.YtcnebekkbfajbaaGreatCRegion4
import Derived.Test.YtcnebekkbfajbaaGreatCScEnter
import Derived.Test.YtcnebekkbfajbaaGreatCScP
import Derived.Test.YtcnebekkbfajbaaGreatCScTell
set_option linter.all false
namespace Go.Proofs.YtcnebekkbfajbaaGreat
theorem rcut_2 {n d : Int} (hn : 0 ≤ n) (hd : 1 ≤ d) : roundK 2 n d = if d ≤ 2 * n.tmod d then n.tdiv d + 1 else n.tdiv d := by
 show (2 * n + d).tdiv (2 * d) = _
 rw [Int.tdiv_eq_ediv_of_nonneg (by omega), Int.tdiv_eq_ediv_of_nonneg hn, Int.tmod_eq_emod_of_nonneg hn]
 have h1 := Int.emod_add_mul_ediv n d
 have h2 := Int.emod_nonneg n (show d ≠ 0 by omega)
 have h3 := Int.emod_lt_of_pos n (show 0 < d by omega)
 obtain ⟨q, hq⟩ : ∃ q, n / d = q := ⟨_, rfl⟩
 obtain ⟨r, hr⟩ : ∃ r, n % d = r := ⟨_, rfl⟩
 rw [hq, hr]
 rw [hq, hr] at h1
 rw [hr] at h2 h3
 have e : 2 * n + d = (2 * r + d) + 2 * d * q := by rw [← h1, Int.mul_add, Int.mul_assoc]; omega
 rw [e, Int.add_mul_ediv_left _ _ (by omega)]
 by_cases hc : d ≤ 2 * r
 ·rw [if_pos hc]
  have e2 : 2 * r + d = (2 * r - d) + 2 * d * 1 := by omega
  rw [e2, Int.add_mul_ediv_left _ _ (by omega), Int.ediv_eq_zero_of_lt (by omega) (by omega)]
  omega
 rw [if_neg hc, Int.ediv_eq_zero_of_lt (by omega) (by omega)]
 omega
theorem rcut_3 {n d : Int} (hn : 0 ≤ n) (hd : 1 ≤ d) : roundK 3 n d = if 0 < n.tmod d then n.tdiv d + 1 else n.tdiv d := by
 show (n + d - 1).tdiv d = _
 rw [Int.tdiv_eq_ediv_of_nonneg (by omega), Int.tdiv_eq_ediv_of_nonneg hn, Int.tmod_eq_emod_of_nonneg hn]
 have h1 := Int.emod_add_mul_ediv n d
 have h2 := Int.emod_nonneg n (show d ≠ 0 by omega)
 have h3 := Int.emod_lt_of_pos n (show 0 < d by omega)
 obtain ⟨q, hq⟩ : ∃ q, n / d = q := ⟨_, rfl⟩
 obtain ⟨r, hr⟩ : ∃ r, n % d = r := ⟨_, rfl⟩
 rw [hq, hr]
 rw [hq, hr] at h1
 rw [hr] at h2 h3
 have e : n + d - 1 = (r + d - 1) + d * q := by omega
 rw [e, Int.add_mul_ediv_left _ _ (by omega)]
 by_cases hc : 0 < r
 ·rw [if_pos hc]
  have e2 : r + d - 1 = (r - 1) + d * 1 := by omega
  rw [e2, Int.add_mul_ediv_left _ _ (by omega), Int.ediv_eq_zero_of_lt (by omega) (by omega)]
  omega
 rw [if_neg hc, Int.ediv_eq_zero_of_lt (by omega) (by omega)]
 omega
theorem tmod_bd {n d : Int} (hn : 0 ≤ n ∧ n ≤ 270000) (hd : 1 ≤ d ∧ d ≤ 30) : (0 ≤ n.tdiv d ∧ n.tdiv d ≤ 270000) ∧ (0 ≤ n.tmod d ∧ n.tmod d < 30) := by
 rw [Int.tdiv_eq_ediv_of_nonneg hn.1, Int.tmod_eq_emod_of_nonneg hn.1]
 have h2 := Int.emod_nonneg n (show d ≠ 0 by omega)
 have h3 := Int.emod_lt_of_pos n (show 0 < d by omega)
 have h4 := Int.ediv_nonneg hn.1 (show 0 ≤ d by omega)
 have h5 := Int.ediv_le_self d hn.1
 omega
open Go.RowKit Go.Shelf
set_option maxHeartbeats 1000000 in
theorem rcut5_any {k h : Int} {za zb : Nat} (hk : 1 ≤ k ∧ k ≤ 3) (hh : 0 ≤ h ∧ h ≤ 9000) (ha : 1 ≤ za ∧ za ≤ 30) (hb : 1 ≤ zb ∧ zb ≤ 30) (w : World) :
  Calls Tryz.prog 64 #[.int .i64 k, .int .i64 h, .agg #[.int .i64 (za : Int), .int .i64 (zb : Int)]] w fun e w' => e = .returned (.int .i64 (roundK k (h * za) zb)) ∧ Below w.heap.size w w' := by
 have hn := mul_bd (a := h) (b := (za : Int)) (x := 9000) (y := 30) hh.1 hh.2 (by omega) (by omega)
 obtain ⟨n, hnn⟩ : ∃ n, h * (za : Int) = n := ⟨_, rfl⟩
 rw [hnn] at hn ⊢
 have hn2 : 0 ≤ n ∧ n ≤ 270000 := by omega
 obtain ⟨d, hd⟩ : ∃ d : Int, (zb : Int) = d := ⟨_, rfl⟩
 have hd2 : 1 ≤ d ∧ d ≤ 30 := by omega
 rw [hd]
 have H2 := Lib.hid (@rcut_2 n d hn2.1 hd2.1)
 have H3 := Lib.hid (@rcut_3 n d hn2.1 hd2.1)
 have H1 : Hid (roundK 1 n d = n.tdiv d) := rfl
 have hbd := tmod_bd hn2 hd2
 obtain ⟨q, hq⟩ : ∃ q, n.tdiv d = q := ⟨_, rfl⟩
 obtain ⟨r, hr⟩ : ∃ r, n.tmod d = r := ⟨_, rfl⟩
 rw [hq] at H1 H2 H3 hbd
 rw [hr] at H2 H3 hbd
 obtain ⟨⟨q1, q2⟩, ⟨r1, r2⟩⟩ := hbd
 obtain ⟨ov, hov⟩ : ∃ x, roundK k n d = x := ⟨_, rfl⟩
 rw [hov]
 have HOV := Lib.hid hov
 have wn : IntKind.i64.wrap n = n := by rw [IntKind.wrap_i64]; omega
 have wq : IntKind.i64.wrap q = q := by rw [IntKind.wrap_i64]; omega
 have wr : IntKind.i64.wrap r = r := by rw [IntKind.wrap_i64]; omega
 have wq1 : IntKind.i64.wrap (q + 1) = q + 1 := by rw [IntKind.wrap_i64]; omega
 have wr2 : IntKind.i64.wrap (2 * r) = 2 * r := by rw [IntKind.wrap_i64]; omega
 have hdz : ¬ d = 0 := by omega
 have hdzb : (d == 0) = false := by simp; omega
 obtain ⟨W, hW⟩ : ∃ W, w.alloc (.cells #[.int .i64 (za : Int), .int .i64 d] 42) = W := ⟨_, rfl⟩
 have X : Blk W w.heap.size 42 #[.int .i64 (za : Int), .int .i64 d] := by rw [← hW]; exact Blk.new _ _ _ rfl
 have hBW : Below w.heap.size w W := by rw [← hW]; exact bl_alloc (Below.refl _ _) _ (Nat.le_refl _)
 have x0 := X.cell 0
 have x1 := X.cell 1
 have HBW := Lib.hid hBW
 clear X hBW hov hd
 obtain rfl | rfl | rfl : k = 1 ∨ k = 2 ∨ k = 3 := by omega
 ·have he : ov = q := HOV.out.symm.trans H1.out
  subst he
  go_enter Tryz.func64, Tryz.ntmps64
  go_wp2_with fail
  go_quiet (fail)
  go_wp2_with fail
  go_ret
  exact ⟨rfl, bl_drewN HBW.out _⟩
 ·by_cases hc : d ≤ 2 * r
  ·have he : ov = q + 1 := by rw [← HOV.out, H2.out, if_pos hc]
   subst he
   go_enter Tryz.func64, Tryz.ntmps64
   go_wp2_with fail
   go_quiet (fail)
   go_wp2_with fail
   go_ret
   exact ⟨rfl, bl_drewN HBW.out _⟩
  have he : ov = q := by rw [← HOV.out, H2.out, if_neg hc]
  subst he
  go_enter Tryz.func64, Tryz.ntmps64
  go_wp2_with fail
  go_quiet (fail)
  go_wp2_with fail
  go_ret
  exact ⟨rfl, bl_drewN HBW.out _⟩
 by_cases hc : 0 < r
 ·have he : ov = q + 1 := by rw [← HOV.out, H3.out, if_pos hc]
  subst he
  go_enter Tryz.func64, Tryz.ntmps64
  go_wp2_with fail
  go_quiet (fail)
  go_wp2_with fail
  go_ret
  exact ⟨rfl, bl_drewN HBW.out _⟩
 have he : ov = q := by rw [← HOV.out, H3.out, if_neg hc]
 subst he
 go_enter Tryz.func64, Tryz.ntmps64
 go_wp2_with fail
 go_quiet (fail)
 go_wp2_with fail
 go_ret
 exact ⟨rfl, bl_drewN HBW.out _⟩
open Go.RowKit Go.Shelf
def IsInt1 (x : Int) (v : Value) (W : World) : Prop := ∃ g : Nat, v = .slice (some ⟨g, 0, none⟩) 1 1 ∧ W.cell? ⟨g, 0, none⟩ = some (.int .i64 x)
theorem IsInt1.bl {x : Int} {v : Value} {W V : World} (h : IsInt1 x v W) (hb : Below W.heap.size W V) : IsInt1 x v V := by
 obtain ⟨g, h1, h2⟩ := h
 exact ⟨g, h1, getc hb h2⟩
set_option maxRecDepth 100000 in
set_option maxHeartbeats 4000000 in
theorem rall5_any {c : Case5} {A B : Option Addr} {n ca m cb : Nat} {kd ba mo : Int} {z : Nat × Nat} (hok : Ok5 c) (hz : z ∈ scalesN) (w : World) (g : CaseAt (fun _ => True) w A n B m c) (h1 : c.kind = kd) (h2 : c.base = ba) (h3 : c.most = mo) :
  Calls Tryz.prog 23 #[.agg #[.int .i64 kd, .int .i64 ba, .int .i64 mo, .slice A n ca, .slice B m cb], .agg #[.int .i64 (z.1 : Int), .int .i64 (z.2 : Int)]] w fun e w' => (∃ A' c', e = .returned (.slice A' n c') ∧ Ints (fun _ => True) w' A' n (cut5 c z)) ∧ Below w.heap.size w w' := by
 have HZ := Lib.hid hz
 have HOK := Lib.hid hok
 have hn8 : n ≤ 8 := by have := hok.nh; have := g.hs.len; omega
 obtain ⟨za, hza⟩ : ∃ a, z.1 = a := ⟨_, rfl⟩
 obtain ⟨zb, hzb⟩ : ∃ a, z.2 = a := ⟨_, rfl⟩
 obtain rfl : z = (za, zb) := Prod.ext hza hzb
 obtain ⟨W1, hW⟩ : ∃ W, (w.alloc (.cells #[.int .i64 kd, .int .i64 ba, .int .i64 mo, .slice A n ca, .slice B m cb] 25)).alloc (.cells #[.int .i64 (za : Int), .int .i64 (zb : Int)] 42) = W := ⟨_, rfl⟩
 have X : Blk W1 w.heap.size 25 #[.int .i64 kd, .int .i64 ba, .int .i64 mo, .slice A n ca, .slice B m cb] := by rw [← hW]; exact (Blk.new _ _ _ rfl).alloc _
 have Y : Blk W1 (w.heap.size + 1) 42 #[.int .i64 (za : Int), .int .i64 (zb : Int)] := by rw [← hW]; exact Blk.new _ _ _ (by simp)
 have hBW : Below w.heap.size w W1 := by rw [← hW]; exact bl_alloc (bl_alloc (Below.refl _ _) _ (Nat.le_refl _)) _ (Nat.le_refl _)
 have HG : Hid (∀ V, Below W1.heap.size W1 V → CaseAt (fun _ => True) V A n B m c) := fun V hb => (g.bl hBW).bl hb
 have k5 : Hid (∀ V, Below W1.heap.size W1 V → V.cell? ⟨w.heap.size, 0, none⟩ = some (.int .i64 kd) ∧ V.cell? ⟨w.heap.size, 1, none⟩ = some (.int .i64 ba) ∧ V.cell? ⟨w.heap.size, 2, none⟩ = some (.int .i64 mo) ∧ V.cell? ⟨w.heap.size, 3, none⟩ = some (.slice A n ca) ∧ V.cell? ⟨w.heap.size, 4, none⟩ = some (.slice B m cb) ∧ V.cell? ⟨w.heap.size + 1, 0, none⟩ = some (.int .i64 (za : Int)) ∧ V.cell? ⟨w.heap.size + 1, 1, none⟩ = some (.int .i64 (zb : Int))) :=
  fun V hb => ⟨(X.bl hb).cell 0, (X.bl hb).cell 1, (X.bl hb).cell 2, (X.bl hb).cell 3, (X.bl hb).cell 4, (Y.bl hb).cell 0, (Y.bl hb).cell 1⟩
 have HN : Hid (c.hts.length = n) := g.hs.len
 have HCN : Hid ((cut5 c (za, zb)).length = n) := by rw [Hid, cut5, cutL, List.length_map, g.hs.len]
 obtain ⟨a1, a2, a3, a4⟩ := scales_bd hz
 dsimp only at a1 a2 a3 a4
 have HKD : Hid (1 ≤ kd ∧ kd ≤ 3) := h1 ▸ hok.kind
 obtain ⟨iI, hiI, hzI0, hzI1, hzI2⟩ := info_parts infoInt5
 clear g X Y hok hz hza hzb
 obtain ⟨gc, hgc⟩ : ∃ q, w.heap.size = q := ⟨_, rfl⟩
 obtain ⟨gz, hgz⟩ : ∃ q, gc + 1 = q := ⟨_, rfl⟩
 have K5 : Hid (∀ V, Below W1.heap.size W1 V → V.cell? ⟨gc, 0, none⟩ = some (.int .i64 kd) ∧ V.cell? ⟨gc, 1, none⟩ = some (.int .i64 ba) ∧ V.cell? ⟨gc, 2, none⟩ = some (.int .i64 mo) ∧ V.cell? ⟨gc, 3, none⟩ = some (.slice A n ca) ∧ V.cell? ⟨gc, 4, none⟩ = some (.slice B m cb) ∧ V.cell? ⟨gz, 0, none⟩ = some (.int .i64 (za : Int)) ∧ V.cell? ⟨gz, 1, none⟩ = some (.int .i64 (zb : Int))) := by rw [← hgz, ← hgc]; exact k5
 clear k5
 go_enter Tryz.func23, Tryz.ntmps23
 go_wp2_with fail
 clear hW
 go_loopw [5, 6] (fun al i wr => ∃ (k cap : Nat) (An : Option Addr), k ≤ n ∧ i = .int .i64 k ∧ al = .slice An k cap ∧ Hid (Below W1.heap.size W1 wr) ∧ Hid (OwnL IntR 1 (fun _ => False) wr W1.heap.size 3 (.slice An k cap) ((cut5 c (za, zb)).take k))) (fun _ i _ => n - (intOf i).toNat)
 case atStart => exact ⟨0, 0, none, Nat.zero_le _, rfl, rfl, Below.refl _ _, OwnL.nil _ _ _ _ _ _⟩
 case round =>
  obtain ⟨wo, hwo⟩ : ∃ V, V = wr := ⟨_, rfl⟩
  rw [← hwo] at hrel ⊢
  clear hwo
  obtain ⟨k, cap, An, hk, rfl, rfl, HBr, HOr⟩ := hrel
  obtain ⟨x0, x1, x2, x3, x4, y0, y1⟩ := K5.out wo HBr.out
  by_cases hlt : k < n
  ·have hki : (k : Int) < n := by omega
   obtain ⟨b, off, x, rfl, hcx, Hx⟩ := Ints.get (HG.out wo HBr.out).hs hlt
   have hxb := HOK.out.hts x (List.mem_of_getElem? Hx.out)
   have hbb := HOK.out.base
   rw [h2] at hxb hbb
   obtain ⟨d, hd⟩ : ∃ d, x - ba = d := ⟨_, rfl⟩
   have HSUB : Hid (IntKind.i64.wrap (x - ba) = d) := by rw [Hid, hd, IntKind.wrap_i64]; omega
   have HDB : Hid (0 ≤ d ∧ d ≤ 9000) := by rw [Hid]; omega
   obtain ⟨cv, hcv⟩ : ∃ v, roundK kd (d * (za : Int)) (zb : Int) = v := ⟨_, rfl⟩
   have HCV := Lib.hid hcv
   have HTK : Hid ((cut5 c (za, zb)).take (k + 1) = (cut5 c (za, zb)).take k ++ [cv]) := by
    refine take_snoc_get ?_
    unfold cut5 cutL
    rw [List.getElem?_map, Hx.out]
    show some (roundK c.kind ((x - c.base) * (za : Int)) (zb : Int)) = some cv
    rw [h1, h2, hd, hcv]
   have HLr : Hid (((cut5 c (za, zb)).take k).length = k) := by rw [Hid, List.length_take, HCN.out]; omega
   have kk : Hid (∀ V, Below wo.heap.size wo V → V.cell? ⟨gc, 0, none⟩ = some (.int .i64 kd) ∧ V.cell? ⟨gc, 1, none⟩ = some (.int .i64 ba) ∧ V.cell? ⟨gc, 2, none⟩ = some (.int .i64 mo) ∧ V.cell? ⟨gc, 3, none⟩ = some (.slice (some ⟨b, off, none⟩) n ca) ∧ V.cell? ⟨gc, 4, none⟩ = some (.slice B m cb) ∧ V.cell? ⟨gz, 0, none⟩ = some (.int .i64 (za : Int)) ∧ V.cell? ⟨gz, 1, none⟩ = some (.int .i64 (zb : Int)) ∧ V.cell? ⟨b, off + k, none⟩ = some (.int .i64 x)) := fun V hb => by
    obtain ⟨z0, z1, z2, z3, z4, z5, z6⟩ := K5.out V (bl_call HBr.out hb (Nat.le_refl _))
    exact ⟨z0, z1, z2, z3, z4, z5, z6, getc hb hcx⟩
   clear hd hcv hcx hxb hbb
   go_wp2_with fail
   clear x0 x1 x2 x3 x4 y0 y1
   refine wp_frame5 ?_
   intro a0 ha0
   have tb2 : a0.tmps[2]? = some (.pointer (some ⟨gc, 0, none⟩)) := by rw [ha0]; kernel_rfl
   have tb3 : a0.tmps[3]? = some (.pointer (some ⟨gz, 0, none⟩)) := by rw [ha0]; kernel_rfl
   have tb6 : a0.tmps[6]? = some (.int .i64 (k : Int)) := by rw [ha0]; kernel_rfl
   have hsz : a0.tmps.size = 30 := by rw [ha0]; kernel_rfl
   refine wp_region_list2 (fun W => Below wo.heap.size wo W) (fun w w' => Below w.heap.size w w')
    [isV (.slice An k cap), isV (.pointer (some ⟨gc, 0, none⟩)), isV (.int .i64 kd), isV (.pointer (some ⟨gc, 3, none⟩)), isV (.slice (some ⟨b, off, none⟩) n ca), isV (.int .i64 (k : Int)), isV (.pointer (some ⟨b, off + k, none⟩)), isV (.int .i64 x), isV (.pointer (some ⟨gc, 1, none⟩)), isV (.int .i64 ba), isV (.int .i64 d), isV (.agg #[.int .i64 (za : Int), .int .i64 (zb : Int)]), isV (.int .i64 cv), IsInt1 cv]
    (by kernel_rfl) (by kernel_rfl) (by kernel_rfl) (by rfl) (by rfl) (by rfl) (by rfl) (by rfl) (Below.refl _ _).drew ?stabA ?stepA ?finA
   case stabA => exact (StabL.is (StabL.is (StabL.is (StabL.is (StabL.is (StabL.is (StabL.is (StabL.is (StabL.is (StabL.is (StabL.is (StabL.is (StabL.is (StabL.cons (fun v W V hC hX h => h.bl hX) StabL.nil))))))))))))))
   case stepA =>
    refine StepsL.isA ?_ (StepsL.isA ?_ (StepsL.isA ?_ (StepsL.isA ?_ (StepsL.isA ?_ (StepsL.isA ?_ (StepsL.isA ?_ (StepsL.isA ?_ (StepsL.isA ?_ (StepsL.isA ?_ (StepsL.isA ?_ (StepsL.isA ?_ (StepsL.isA ?_ (StepsL.consA ?_ StepsL.nil)))))))))))))
    all_goals intro vs a W K ha hC hD hU hK
    all_goals try rw [if_pos (by rfl)]
    ·have r5 := fg 5 15 ha hsz (by kernel_rfl) (by decide)
     have q15 : vs 15 = .slice An k cap := (hU 15 _ rfl (by simp [waits, Region.binds])).trans (by rw [ha0]; kernel_rfl)
     rw [q15] at r5
     clear ha hU hD ha0
     go_simp
     exact hK _ hC (Below.refl _ _)
    ·have r2 := fb ha (by kernel_rfl) tb2
     clear ha hU hD ha0
     go_simp
     exact hK _ hC (Below.refl _ _)
    ·have r15 := fq 15 1 ha hsz (by kernel_rfl) (by decide) (hD 1 (by simp [waits, Region.binds]))
     clear ha hU hD ha0
     obtain ⟨k0, k1, k2, k3, k4, s0, s1, kx⟩ := kk.out W hC
     go_simp
     exact hK _ hC (Below.refl _ _)
    ·have r2 := fb ha (by kernel_rfl) tb2
     clear ha hU hD ha0
     go_simp
     exact hK _ hC (Below.refl _ _)
    ·have r17 := fq 17 3 ha hsz (by kernel_rfl) (by decide) (hD 3 (by simp [waits, Region.binds]))
     clear ha hU hD ha0
     obtain ⟨k0, k1, k2, k3, k4, s0, s1, kx⟩ := kk.out W hC
     go_simp
     exact hK _ hC (Below.refl _ _)
    ·have r6 := fb ha (by kernel_rfl) tb6
     clear ha hU hD ha0
     go_simp
     exact hK _ hC (Below.refl _ _)
    ·have r18 := fq 18 4 ha hsz (by kernel_rfl) (by decide) (hD 4 (by simp [waits, Region.binds]))
     have r19 := fq 19 5 ha hsz (by kernel_rfl) (by decide) (hD 5 (by simp [waits, Region.binds]))
     clear ha hU hD ha0
     go_simp
     exact hK _ hC (Below.refl _ _)
    ·have r20 := fq 20 6 ha hsz (by kernel_rfl) (by decide) (hD 6 (by simp [waits, Region.binds]))
     clear ha hU hD ha0
     obtain ⟨k0, k1, k2, k3, k4, s0, s1, kx⟩ := kk.out W hC
     go_simp
     exact hK _ hC (Below.refl _ _)
    ·have r2 := fb ha (by kernel_rfl) tb2
     clear ha hU hD ha0
     go_simp
     exact hK _ hC (Below.refl _ _)
    ·have r22 := fq 22 8 ha hsz (by kernel_rfl) (by decide) (hD 8 (by simp [waits, Region.binds]))
     clear ha hU hD ha0
     obtain ⟨k0, k1, k2, k3, k4, s0, s1, kx⟩ := kk.out W hC
     go_simp
     exact hK _ hC (Below.refl _ _)
    ·have r21 := fq 21 7 ha hsz (by kernel_rfl) (by decide) (hD 7 (by simp [waits, Region.binds]))
     have r23 := fq 23 9 ha hsz (by kernel_rfl) (by decide) (hD 9 (by simp [waits, Region.binds]))
     clear ha hU hD ha0
     go_simp
     rw [HSUB.out]
     exact hK _ hC (Below.refl _ _)
    ·have r3 := fb ha (by kernel_rfl) tb3
     clear ha hU hD ha0
     obtain ⟨k0, k1, k2, k3, k4, s0, s1, kx⟩ := kk.out W hC
     go_simp
     exact hK _ hC (Below.refl _ _)
    ·have r16 := fq 16 2 ha hsz (by kernel_rfl) (by decide) (hD 2 (by simp [waits, Region.binds]))
     have r24 := fq 24 10 ha hsz (by kernel_rfl) (by decide) (hD 10 (by simp [waits, Region.binds]))
     have r25 := fq 25 11 ha hsz (by kernel_rfl) (by decide) (hD 11 (by simp [waits, Region.binds]))
     clear ha hU hD ha0
     go_simp
     refine (rcut5_any HKD.out HDB.out ⟨a1, a2⟩ ⟨a3, a4⟩ W).mono ?_
     rw [HCV.out]
     rintro e w' ⟨rfl, hb⟩
     exact hK _ (bl_call hC hb (Nat.le_refl _)) hb
    have r26 := fq 26 12 ha hsz (by kernel_rfl) (by decide) (hD 12 (by simp [waits, Region.binds]))
    clear ha hU hD ha0
    go_simp
    exact hK _ _ (bl_alloc hC _ (Nat.le_refl _)) (bl_alloc (Below.refl _ _) _ (Nat.le_refl _)) ⟨_, rfl, newc rfl rfl⟩
   intro vs W hC hE hU
   rw [ha0]
   clear hU hsz tb2 tb3 tb6
   have e0 : vs 0 = .slice An k cap := hE 0 (by simp)
   have E13 : IsInt1 cv (vs 13) W := hE 13 (by simp)
   simp only [fillA, Act.put, List.setIfInBounds_toArray, List.set_cons_zero, List.set_cons_succ, Nat.zero_add, Nat.reduceAdd, e0]
   obtain ⟨g13, h13, c13⟩ := E13
   rw [h13]
   generalize vs 1 = u1, vs 2 = u2, vs 3 = u3, vs 4 = u4, vs 5 = u5, vs 6 = u6, vs 7 = u7, vs 8 = u8, vs 9 = u9, vs 10 = u10, vs 11 = u11, vs 12 = u12
   clear hE e0 h13
   have hCw : Below wo.heap.size wo W := hC
   obtain ⟨A2, cap2, w2, hrun, hO2, hg2, hat⟩ := run_append_one W 22 22 IntR.good W1.heap.size 3 iI _ 8 Tryz.underlying22 hiI hzI0 hzI1 hzI2 rfl (by omega) (.slice An k cap) ((cut5 c (za, zb)).take k) cv (HOr.out.below IntR.good hCw) ⟨g13, 0, none⟩ 1 [.int .i64 cv] rfl (fun j v hv => by rcases j with _ | j; (simp at hv; subst hv; exact c13); (simp at hv)) (by rw [HLr.out]; simp only [maxLen]; omega) (by rw [HLr.out]; omega) (by have := hCw.size; have := HBr.out.size; omega) (fun h => h)
   have hB2 : Below W1.heap.size W1 w2 := bl_grown (bl_call HBr.out hCw (Nat.le_refl _)) (HOr.out.below IntR.good hCw) hg2 (Nat.le_refl _) (Nat.le_refl _)
   rw [HLr.out] at hrun hO2
   rw [← HTK.out] at hO2
   refine wp_append_of_run rfl rfl rfl hrun ?_
   clear hrun hg2 hat hC c13 hCw kk
   have HO2 := Lib.hid hO2
   have HB2 := Lib.hid hB2
   clear hO2 hB2
   go_simp
   go_wp2
   go_roundw
   case rel => exact ⟨k + 1, cap2, _, by omega, by go_num, rfl, HB2, HO2⟩
   case measure => simp [intOf]; omega
  obtain rfl : k = n := by omega
  have HI : Hid (Ints (fun _ => True) wo An k (cut5 c (za, zb))) := by
   have h := HOr.out.slice (T := fun _ => True) IntR.good rfl (by simp only [maxLen]; omega) (fun _ h => h.elim) (fun _ _ _ => trivial)
   rwa [List.take_of_length_le (by rw [HCN.out]; exact Nat.le_refl _)] at h
  have HBE : Hid (Below w.heap.size w wo) := bl_call hBW HBr.out (Nat.le_refl _)
  have hki : ¬ (k : Int) < k := by omega
  go_wp2
  go_ret
  first
   | exact ⟨⟨An, ⟨cap, rfl⟩, HI.out⟩, by rw [← hgc]; exact HBE.out⟩
   | exact ⟨⟨An, ⟨cap, rfl⟩, HI.out⟩, HBE.out⟩
set_option maxHeartbeats 4000000 in
theorem rfits5_any {c : Case5} {A B : Option Addr} {n ca m cb : Nat} {kd ba mo : Int} {z : Nat × Nat} (hok : Ok5 c) (hz : z ∈ scalesN) (w : World) (g : CaseAt (fun _ => True) w A n B m c) (h1 : c.kind = kd) (h2 : c.base = ba) (h3 : c.most = mo) :
  Calls Tryz.prog 7 #[.agg #[.int .i64 kd, .int .i64 ba, .int .i64 mo, .slice A n ca, .slice B m cb], .agg #[.int .i64 (z.1 : Int), .int .i64 (z.2 : Int)]] w fun e w' => e = .returned (.bool (fits5 c (z.1, z.2))) ∧ Below w.heap.size w w' := by
 have HZ := Lib.hid hz
 have HOK := Lib.hid hok
 have hn8 : n ≤ 8 := by have := hok.nh; have := g.hs.len; omega
 obtain ⟨za, hza⟩ : ∃ a, z.1 = a := ⟨_, rfl⟩
 obtain ⟨zb, hzb⟩ : ∃ a, z.2 = a := ⟨_, rfl⟩
 obtain rfl : z = (za, zb) := Prod.ext hza hzb
 obtain ⟨W1, hW⟩ : ∃ W, (w.alloc (.cells #[.int .i64 kd, .int .i64 ba, .int .i64 mo, .slice A n ca, .slice B m cb] 25)).alloc (.cells #[.int .i64 (za : Int), .int .i64 (zb : Int)] 42) = W := ⟨_, rfl⟩
 have X : Blk W1 w.heap.size 25 #[.int .i64 kd, .int .i64 ba, .int .i64 mo, .slice A n ca, .slice B m cb] := by rw [← hW]; exact (Blk.new _ _ _ rfl).alloc _
 have Y : Blk W1 (w.heap.size + 1) 42 #[.int .i64 (za : Int), .int .i64 (zb : Int)] := by rw [← hW]; exact Blk.new _ _ _ (by simp)
 have hBW : Below w.heap.size w W1 := by rw [← hW]; exact bl_alloc (bl_alloc (Below.refl _ _) _ (Nat.le_refl _)) _ (Nat.le_refl _)
 have HG : Hid (∀ V, Below W1.heap.size W1 V → CaseAt (fun _ => True) V A n B m c) := fun V hb => (g.bl hBW).bl hb
 have k5 : Hid (∀ V, Below W1.heap.size W1 V → V.cell? ⟨w.heap.size, 0, none⟩ = some (.int .i64 kd) ∧ V.cell? ⟨w.heap.size, 1, none⟩ = some (.int .i64 ba) ∧ V.cell? ⟨w.heap.size, 2, none⟩ = some (.int .i64 mo) ∧ V.cell? ⟨w.heap.size, 3, none⟩ = some (.slice A n ca) ∧ V.cell? ⟨w.heap.size, 4, none⟩ = some (.slice B m cb) ∧ V.cell? ⟨w.heap.size + 1, 0, none⟩ = some (.int .i64 (za : Int)) ∧ V.cell? ⟨w.heap.size + 1, 1, none⟩ = some (.int .i64 (zb : Int))) :=
  fun V hb => ⟨(X.bl hb).cell 0, (X.bl hb).cell 1, (X.bl hb).cell 2, (X.bl hb).cell 3, (X.bl hb).cell 4, (Y.bl hb).cell 0, (Y.bl hb).cell 1⟩
 have HF : Hid (fits5 c ((((za, zb) : Nat × Nat).1 : Int), (((za, zb) : Nat × Nat).2 : Int)) = (cut5 c (za, zb)).all fun x => decide (x ≤ mo)) := by rw [Hid, fits5, h3]; rfl
 clear g X Y hok hz hza hzb
 obtain ⟨x0, x1, x2, x3, x4, y0, y1⟩ := k5.out W1 (Below.refl _ _)
 go_enter Tryz.func7, Tryz.ntmps7
 go_wp2_with fail
 refine (rall5_any HOK.out HZ.out W1 (HG.out W1 (Below.refl _ _)) h1 h2 h3).mono ?_
 rintro e V1 ⟨⟨A', c', rfl, hI⟩, b1⟩
 have HI := Lib.hid hI
 have HL : Hid ((cut5 c (za, zb)).length = n) := hI.len
 have HB1 : Hid (Below W1.heap.size W1 V1) := b1
 clear x0 x1 x2 x3 x4 y0 y1 hI b1 hW
 obtain ⟨x0, x1, x2, x3, x4, y0, y1⟩ := k5.out V1 HB1.out
 go_wp2_with fail
 go_loopw [6] (fun i wr => ∃ k : Nat, k ≤ n ∧ i = .int .i64 k ∧ Hid (∃ q, wr = V1.drewN q) ∧ Hid (((cut5 c (za, zb)).take k).all (fun x => decide (x ≤ mo)) = true)) (fun i _ => n - (intOf i).toNat)
 case atStart => exact ⟨0, Nat.zero_le _, rfl, ⟨0, rfl⟩, rfl⟩
 case round =>
  obtain ⟨k, hk, rfl, HQ, HA⟩ := hrel
  obtain ⟨q, rfl⟩ := HQ.out
  by_cases hlt : k < n
  ·have hki : (k : Int) < n := by omega
   obtain ⟨b, off, x, rfl, hcx, Hx⟩ := Ints.get HI.out hlt
   by_cases hc : mo < x
   ·have HR : Hid ((cut5 c (za, zb)).all (fun x => decide (x ≤ mo)) = false) := by
     rw [Hid, List.all_eq_false]
     exact ⟨x, List.mem_of_getElem? Hx.out, by simp; omega⟩
    have HBE : Hid (∀ q, Below w.heap.size w (V1.drewN q)) := fun q => bl_drewN (bl_call hBW HB1.out (Nat.le_refl _)) q
    go_wp2
    go_quiet (fail)
    go_wp2
    go_ret
    exact ⟨ret_bool (by rw [HF.out, HR.out]), by first | exact HBE.out _ | (rw [World.drewN_drewN]; exact HBE.out _)⟩
   have HA2 : Hid (((cut5 c (za, zb)).take (k + 1)).all (fun x => decide (x ≤ mo)) = true) := by
    rw [Hid, take_snoc_get Hx.out, List.all_append, HA.out]; simp; omega
   go_wp2
   go_quiet (fail)
   go_wp2
   go_roundw
   case rel => exact ⟨k + 1, by omega, by go_num, ⟨_, rfl⟩, HA2⟩
   case measure => simp [intOf]; omega
  obtain rfl : k = n := by omega
  have HR : Hid ((cut5 c (za, zb)).all (fun x => decide (x ≤ mo)) = true) := by
   have h := HA.out
   rwa [List.take_of_length_le (by rw [HL.out]; exact Nat.le_refl _)] at h
  have HBE : Hid (Below w.heap.size w (V1.drewN q)) := bl_drewN (bl_call hBW HB1.out (Nat.le_refl _)) q
  have hki : ¬ (k : Int) < k := by omega
  go_wp2
  go_ret
  exact ⟨ret_bool (by rw [HF.out, HR.out]), HBE.out⟩
end Go.Proofs.YtcnebekkbfajbaaGreat
