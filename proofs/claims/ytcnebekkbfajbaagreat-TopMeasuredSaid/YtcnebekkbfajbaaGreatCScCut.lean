/- A part of the proof that TopMeasured always answers true. -/
import Derived.Test.YtcnebekkbfajbaaGreatCScEnter
set_option linter.all false
namespace Go.Proofs.YtcnebekkbfajbaaGreat
open Go.RowKit Go.Shelf
def cutC (xs : List Int) (k : Nat) : Array Value := ((List.range 8).map fun i => Value.int .i64 (if i < k then xs.getD i 0 else 0)).toArray
def cutV (xs : List Int) : Value := .agg ((List.range 8).map fun i => Value.int .i64 (xs.getD i 0)).toArray
theorem cutC_at {xs : List Int} {k i : Nat} (hi : i < 8) : (cutC xs k)[i]? = some (.int .i64 (if i < k then xs.getD i 0 else 0)) := by
 unfold cutC
 rw [List.getElem?_toArray, List.getElem?_map, List.getElem?_range hi]; rfl
theorem cutC_set {xs : List Int} {k : Nat} {x : Int} (hk : k < 8) (hx : xs[k]? = some x) : (cutC xs k).setIfInBounds k (.int .i64 x) = cutC xs (k + 1) := by
 apply Array.ext_getElem?
 intro j
 rw [Array.getElem?_setIfInBounds]
 have hs : (cutC xs k).size = 8 := by simp [cutC]
 by_cases hj : j < 8
 ·rw [cutC_at hj, cutC_at hj]
  by_cases e : k = j
  ·subst e
   rw [if_pos rfl, if_pos (by rw [hs]; exact hk), if_pos (by omega), List.getD_eq_getElem?_getD, hx]; rfl
  rw [if_neg e]
  by_cases h2 : j < k
  ·rw [if_pos h2, if_pos (by omega)]
  rw [if_neg h2, if_neg (by omega)]
 rw [if_neg (by omega)]
 simp [cutC, hj]
theorem cutC_all {xs : List Int} {k : Nat} (h : xs.length ≤ k) : Value.agg (cutC xs k) = cutV xs := by
 unfold cutC cutV
 congr 2
 apply List.map_congr_left
 intro i _
 by_cases hi : i < k
 ·rw [if_pos hi]
 rw [if_neg hi, List.getD_eq_getElem?_getD, List.getElem?_eq_none (by omega)]; rfl
theorem cutC_8 (xs : List Int) (k : Nat) : ∃ v0 v1 v2 v3 v4 v5 v6 v7 : Int, cutC xs k = #[.int .i64 v0, .int .i64 v1, .int .i64 v2, .int .i64 v3, .int .i64 v4, .int .i64 v5, .int .i64 v6, .int .i64 v7] := ⟨_, _, _, _, _, _, _, _, rfl⟩
def fitsK (xs : List Int) (mo : Int) (k : Nat) : Bool := (xs.take k).all fun x => decide (x ≤ mo)
theorem fitsK_succ {xs : List Int} {mo x : Int} {k : Nat} (hx : xs[k]? = some x) : fitsK xs mo (k + 1) = (fitsK xs mo k && decide (x ≤ mo)) := by
 unfold fitsK
 rw [take_snoc_get hx, List.all_append]; simp
theorem fitsK_all {xs : List Int} {mo : Int} {k : Nat} (h : xs.length ≤ k) : fitsK xs mo k = xs.all fun x => decide (x ≤ mo) := by
 unfold fitsK
 rw [List.take_of_length_le h]
set_option maxHeartbeats 4000000 in
set_option maxRecDepth 100000 in
theorem scut_any {c : Case5} {A B : Option Addr} {n ca m cb : Nat} {z : Nat × Nat} (hok : Ok5 c) (hz : z ∈ scalesN) (w : World) (g : CaseAt (fun _ => True) w A n B m c) :
  Calls Tryz.prog 45 #[modelV c A n ca B m cb, .agg #[.int .i64 (z.1 : Int), .int .i64 (z.2 : Int)]] w fun e w' => e = .returned (.tuple #[cutV (cut5 c z), .bool (fits5 c (z.1, z.2))]) ∧ Below w.heap.size w w' := by
 obtain ⟨za, zb⟩ := z
 obtain ⟨a1, a2, a3, a4⟩ := scales_bd hz
 dsimp only at a1 a2 a3 a4 ⊢
 have hnn := g.hs.len
 have hnb := hok.nh
 have hn8 : n ≤ 8 := by omega
 have HN : Hid ((cut5 c (za, zb)).length = n) := by rw [Hid, cut5, cutL, List.length_map, hnn]
 have HHT := Lib.hid hok.hts
 obtain ⟨kd, hkd⟩ : ∃ k, c.kind = k := ⟨_, rfl⟩
 obtain ⟨ba, hba⟩ : ∃ k, c.base = k := ⟨_, rfl⟩
 obtain ⟨mo, hmo⟩ : ∃ k, c.most = k := ⟨_, rfl⟩
 obtain ⟨fr, hfr⟩ : ∃ k, roundF c.kind = k := ⟨_, rfl⟩
 have HFR := Lib.hid hfr
 have HBA := Lib.hid hba
 have HMO : Hid (fits5 c ((za : Int), (zb : Int)) = (cut5 c (za, zb)).all fun x => decide (x ≤ mo)) := by rw [Hid, ← hmo]; rfl
 have HHI : Hid (∀ x ∈ c.hts, 0 ≤ (x - ba) * (za : Int) ∧ (x - ba) * (za : Int) ≤ 270000) := fun x hx => by rw [← hba]; exact high_bd hok hx ⟨a1, a2⟩
 have HEG : Hid (Enters Tryz.prog fr) := by rw [Hid, ← hfr]; exact eg_round _
 have hbb := hok.base
 have hkk := hok.kind
 rw [hba] at hbb
 rw [HBA.out] at HHT
 have HOK := Lib.hid hok
 unfold modelV
 rw [hfr, hkd]
 rw [hba, hmo]
 obtain ⟨W0, hW⟩ : ∃ W, ((w.alloc (.cells #[.int .i64 kd, .int .i64 ba, .int .i64 mo, .slice A n ca, .slice B m cb, .func (.func fr) #[] #[]] 104)).alloc (.cells #[.int .i64 (za : Int), .int .i64 (zb : Int)] 42)).alloc (.cells #[.int .i64 0, .int .i64 0, .int .i64 0, .int .i64 0, .int .i64 0, .int .i64 0, .int .i64 0, .int .i64 0] 108) = W := ⟨_, rfl⟩
 have X : Blk W0 w.heap.size 104 #[.int .i64 kd, .int .i64 ba, .int .i64 mo, .slice A n ca, .slice B m cb, .func (.func fr) #[] #[]] := by rw [← hW]; exact ((Blk.new _ _ _ rfl).alloc _).alloc _
 have Y : Blk W0 (w.heap.size + 1) 42 #[.int .i64 (za : Int), .int .i64 (zb : Int)] := by rw [← hW]; exact (Blk.new _ _ _ (by simp)).alloc _
 obtain ⟨gL, hgL⟩ : ∃ g, w.heap.size + 1 + 1 = g := ⟨_, rfl⟩
 have L0 : Hid (Blk W0 gL 108 (cutC (cut5 c (za, zb)) 0)) := by rw [Hid, ← hW, ← hgL]; exact Blk.new _ _ _ (by simp)
 have hBW : Below w.heap.size w W0 := by rw [← hW]; exact bl_alloc (bl_alloc (bl_alloc (Below.refl _ _) _ (Nat.le_refl _)) _ (Nat.le_refl _)) _ (Nat.le_refl _)
 have hsW : W0.heap.size = w.heap.size + 3 := by rw [← hW]; simp
 have HG : Hid (∀ V, Below (w.heap.size + 2) W0 V → CaseAt (fun _ => True) V A n B m c) := fun V hb => g.bl (hBW.trans (Below.mono hb (by omega)))
 have kk : Hid (∀ V, Below (w.heap.size + 2) W0 V → V.cell? ⟨w.heap.size, 0, none⟩ = some (.int .i64 kd) ∧ V.cell? ⟨w.heap.size, 1, none⟩ = some (.int .i64 ba) ∧ V.cell? ⟨w.heap.size, 2, none⟩ = some (.int .i64 mo) ∧ V.cell? ⟨w.heap.size, 3, none⟩ = some (.slice A n ca) ∧ V.cell? ⟨w.heap.size, 4, none⟩ = some (.slice B m cb) ∧ V.cell? ⟨w.heap.size, 5, none⟩ = some (.func (.func fr) #[] #[]) ∧ V.cell? ⟨w.heap.size + 1, 0, none⟩ = some (.int .i64 (za : Int)) ∧ V.cell? ⟨w.heap.size + 1, 1, none⟩ = some (.int .i64 (zb : Int))) := fun V hb =>
  have q : ∀ {i v}, W0.cell? ⟨w.heap.size, i, none⟩ = some v → V.cell? ⟨w.heap.size, i, none⟩ = some v := fun h => (hb.cell (by dsimp only; omega)).trans h
  have q2 : ∀ {i v}, W0.cell? ⟨w.heap.size + 1, i, none⟩ = some v → V.cell? ⟨w.heap.size + 1, i, none⟩ = some v := fun h => (hb.cell (by dsimp only; omega)).trans h
  ⟨q (X.cell 0), q (X.cell 1), q (X.cell 2), q (X.cell 3), q (X.cell 4), q (X.cell 5), q2 (Y.cell 0), q2 (Y.cell 1)⟩
 have HGL := Lib.hid hgL
 clear X Y g hok hnn hsW hgL
 obtain ⟨y0, y1, y2, y3, y4, y5, s0, s1⟩ := kk.out W0 (Below.refl _ _)
 go_enter Tryz.func45, Tryz.ntmps45
 go_wp2_with fail
 rw [HGL.out]
 have hgB : w.heap.size + 2 ≤ gL := by have := HGL.out; omega
 clear hW y0 y1 y2 y3 y4 y5 s0 s1
 go_loopw [5, 12] (fun fi i wr => ∃ k : Nat, k ≤ n ∧ i = .int .i64 k ∧ fi = .bool (fitsK (cut5 c (za, zb)) mo k) ∧ Hid (Below (w.heap.size + 2) W0 wr) ∧ Hid (Blk wr gL 108 (cutC (cut5 c (za, zb)) k))) (fun _ i _ => n - (intOf i).toNat)
 case atStart => exact ⟨0, Nat.zero_le _, rfl, rfl, Below.refl _ _, L0⟩
 case round =>
  obtain ⟨k, hk, rfl, rfl, HBr, BLr⟩ := hrel
  by_cases hlt : k < n
  ·have hki : (k : Int) < n := by omega
   have hk8 : k < 8 := by omega
   have hki8 : (k : Int) < 8 := by omega
   obtain ⟨b, off, x0, hA, hc0, HX0⟩ := Ints.get (HG.out wr HBr.out).hs hlt
   subst hA
   obtain ⟨d, hd⟩ : ∃ d, x0 - ba = d := ⟨_, rfl⟩
   obtain ⟨p, hp⟩ : ∃ p, d * (za : Int) = p := ⟨_, rfl⟩
   have hpb := HHI.out x0 (List.mem_of_getElem? HX0.out)
   rw [hd, hp] at hpb
   have hxb := HHT.out x0 (List.mem_of_getElem? HX0.out)
   have wd : IntKind.i64.wrap d = d := by rw [IntKind.wrap_i64]; omega
   have wp : IntKind.i64.wrap p = p := by rw [IntKind.wrap_i64]; omega
   obtain ⟨x, hx⟩ : ∃ x, roundK c.kind p (zb : Int) = x := ⟨_, rfl⟩
   have hcall := fun V => round_any c.kind (n := p) (d := (zb : Int)) hpb (by omega) V
   rw [HFR.out, hx] at hcall
   have HCA := Lib.hid hcall
   have HX : Hid ((cut5 c (za, zb))[k]? = some x) := by
    rw [Hid, cut5, cutL, List.getElem?_map, HX0.out]
    show some (roundK c.kind ((x0 - c.base) * (za : Int)) (zb : Int)) = some x
    rw [HBA.out, hd, hp, hx]
   have EF := Lib.hid HEG.out
   obtain ⟨y0, y1, y2, y3, y4, y5, s0, s1⟩ := kk.out wr HBr.out
   have l0 := BLr.out.cell k
   rw [cutC_at hk8] at l0
   have f0 := BLr.out.frozen k
   have hl0 := BLr.out.lt
   obtain ⟨V, hV⟩ : ∃ V, wr.setCell ⟨gL, k, none⟩ (.int .i64 x) = V := ⟨_, rfl⟩
   have HBV : Hid (Below (w.heap.size + 2) W0 V) := by rw [Hid, ← hV]; exact bl_set HBr.out (by dsimp only; omega) _
   have BV : Hid (Blk V gL 108 (cutC (cut5 c (za, zb)) (k + 1))) := by rw [Hid, ← hV, ← cutC_set hk8 HX.out]; exact BLr.out.set_ k _
   have hgV : w.heap.size + 2 ≤ V.heap.size := by have := BV.out.lt; omega
   obtain ⟨fb, hfb⟩ : ∃ b, fitsK (cut5 c (za, zb)) mo k = b := ⟨_, rfl⟩
   rw [hfb]
   have HF := Lib.hid hfb
   obtain ⟨bl, hbl⟩ : ∃ b, decide (x ≤ mo) = b := ⟨_, rfl⟩
   have HBL := Lib.hid hbl
   clear hfb hbl hcall hx HX0 hxb
   have eg : ∀ args w, (callFunc fr args).run Tryz.prog w = .ok (.enter fr args) w := EF.out
   go_wp2_with (go_at_fn fr; refine (HCA.out _).mono ?_; rintro e w2 ⟨rfl, rfl⟩)
   clear y0 y1 y2 y3 y4 y5 s0 s1 l0 f0 hl0 hV hc0 hd hp wd wp hpb
   cases fb with
   | true =>
    refine wp_frame5 ?_
    intro a0 ha0
    have tb2 : a0.tmps[2]? = some (.pointer (some ⟨w.heap.size, 0, none⟩)) := by rw [ha0]; kernel_rfl
    have tb4 : a0.tmps[4]? = some (.pointer (some ⟨gL, 0, none⟩)) := by rw [ha0]; kernel_rfl
    have tb6 : a0.tmps[6]? = some (.int .i64 (k : Int)) := by rw [ha0]; kernel_rfl
    have hsz : a0.tmps.size = 46 := by rw [ha0]; kernel_rfl
    refine wp_region_list (fun W => Below V.heap.size V W) (fun w w' => Below w.heap.size w w')
     [isV (.bool true), isV (.bool true), isV (.int .i64 (k : Int)), isV (.pointer (some ⟨gL, k, none⟩)), isV (.int .i64 x), isV (.pointer (some ⟨w.heap.size, 0, none⟩)), isV (.pointer (some ⟨w.heap.size, 2, none⟩)), isV (.int .i64 mo), isV (.bool bl), isV (.bool bl)]
     (by kernel_rfl) (by kernel_rfl) (by kernel_rfl) (by simp) (by simp) (Below.refl _ _).drew ?stabtrue ?steptrue ?fintrue
    case stabtrue => exact (StabL.is (StabL.is (StabL.is (StabL.is (StabL.is (StabL.is (StabL.is (StabL.is (StabL.is (StabL.is StabL.nil))))))))))
    case steptrue =>
     refine StepsL.isA ?_ (StepsL.isA ?_ (StepsL.isA ?_ (StepsL.isA ?_ (StepsL.isA ?_ (StepsL.isA ?_ (StepsL.isA ?_ (StepsL.isA ?_ (StepsL.isA ?_ (StepsL.isA ?_ StepsL.nil)))))))))
     all_goals intro vs a W K ha hC hD hU hK
     all_goals try rw [if_pos (by rfl)]
     ·have r5 := fg 5 10 ha hsz (by kernel_rfl) (by decide)
      have q10 : vs 10 = .bool true := (hU 10 _ rfl (by simp [waits, Region.binds])).trans (by rw [ha0]; kernel_rfl)
      rw [q10] at r5
      clear ha hU hD ha0
      go_simp
      exact hK _ hC (Below.refl _ _)
     ·have r33 := fq 33 0 ha hsz (by kernel_rfl) (by decide) (hD 0 (by simp [waits, Region.binds]))
      clear ha hU hD ha0
      go_simp
      exact hK _ hC (Below.refl _ _)
     ·have r34 := fg 34 1 ha hsz (by kernel_rfl) (by decide)
      have q1 : vs 1 = .bool true := hD 1 (by simp [waits, Region.binds])
      rw [q1] at r34
      have r6 := fb ha (by kernel_rfl) tb6
      clear ha hU hD ha0
      rw [if_pos (by simp [Region.wanted, yielded, r34])]
      go_simp
      exact hK _ hC (Below.refl _ _)
     ·have r34 := fg 34 1 ha hsz (by kernel_rfl) (by decide)
      have q1 : vs 1 = .bool true := hD 1 (by simp [waits, Region.binds])
      rw [q1] at r34
      have r4 := fb ha (by kernel_rfl) tb4
      have r35 := fq 35 2 ha hsz (by kernel_rfl) (by decide) (hD 2 (by simp [waits, Region.binds]))
      clear ha hU hD ha0
      rw [if_pos (by simp [Region.wanted, yielded, r34])]
      have hk0 : (k : Int) < 8 := by omega
      have lg := BV.out.lt
      go_simp
      exact hK _ hC (Below.refl _ _)
     ·have r34 := fg 34 1 ha hsz (by kernel_rfl) (by decide)
      have q1 : vs 1 = .bool true := hD 1 (by simp [waits, Region.binds])
      rw [q1] at r34
      have r36 := fq 36 3 ha hsz (by kernel_rfl) (by decide) (hD 3 (by simp [waits, Region.binds]))
      clear ha hU hD ha0
      rw [if_pos (by simp [Region.wanted, yielded, r34])]
      obtain ⟨y0, y1, y2, y3, y4, y5, s0, s1⟩ := kk.out W (HBV.out.trans (Below.mono hC hgV))
      have lk := (BV.out.bl hC).cell k
      rw [cutC_at hk8, if_pos (Nat.lt_succ_self k), getD_of HX.out] at lk
      go_simp
      exact hK _ hC (Below.refl _ _)
     ·have r34 := fg 34 1 ha hsz (by kernel_rfl) (by decide)
      have q1 : vs 1 = .bool true := hD 1 (by simp [waits, Region.binds])
      rw [q1] at r34
      have r2 := fb ha (by kernel_rfl) tb2
      clear ha hU hD ha0
      rw [if_pos (by simp [Region.wanted, yielded, r34])]
      go_simp
      exact hK _ hC (Below.refl _ _)
     ·have r34 := fg 34 1 ha hsz (by kernel_rfl) (by decide)
      have q1 : vs 1 = .bool true := hD 1 (by simp [waits, Region.binds])
      rw [q1] at r34
      have r38 := fq 38 5 ha hsz (by kernel_rfl) (by decide) (hD 5 (by simp [waits, Region.binds]))
      clear ha hU hD ha0
      rw [if_pos (by simp [Region.wanted, yielded, r34])]
      go_simp
      exact hK _ hC (Below.refl _ _)
     ·have r34 := fg 34 1 ha hsz (by kernel_rfl) (by decide)
      have q1 : vs 1 = .bool true := hD 1 (by simp [waits, Region.binds])
      rw [q1] at r34
      have r39 := fq 39 6 ha hsz (by kernel_rfl) (by decide) (hD 6 (by simp [waits, Region.binds]))
      clear ha hU hD ha0
      rw [if_pos (by simp [Region.wanted, yielded, r34])]
      obtain ⟨y0, y1, y2, y3, y4, y5, s0, s1⟩ := kk.out W (HBV.out.trans (Below.mono hC hgV))
      have lk := (BV.out.bl hC).cell k
      rw [cutC_at hk8, if_pos (Nat.lt_succ_self k), getD_of HX.out] at lk
      go_simp
      exact hK _ hC (Below.refl _ _)
     ·have r34 := fg 34 1 ha hsz (by kernel_rfl) (by decide)
      have q1 : vs 1 = .bool true := hD 1 (by simp [waits, Region.binds])
      rw [q1] at r34
      have r37 := fq 37 4 ha hsz (by kernel_rfl) (by decide) (hD 4 (by simp [waits, Region.binds]))
      have r40 := fq 40 7 ha hsz (by kernel_rfl) (by decide) (hD 7 (by simp [waits, Region.binds]))
      clear ha hU hD ha0
      rw [if_pos (by simp [Region.wanted, yielded, r34])]
      go_simp
      rw [HBL.out]
      exact hK _ hC (Below.refl _ _)
     have r34 := fg 34 1 ha hsz (by kernel_rfl) (by decide)
     have q1 : vs 1 = .bool true := hD 1 (by simp [waits, Region.binds])
     rw [q1] at r34
     have r41 := fq 41 8 ha hsz (by kernel_rfl) (by decide) (hD 8 (by simp [waits, Region.binds]))
     clear ha hU hD ha0
     go_simp
     exact hK _ hC (Below.refl _ _)
    case fintrue =>
     intro vs W hC hE hU
     rw [ha0]
     clear hU hsz tb2 tb4 tb6
     have e42 : vs 9 = .bool bl := hE 9 (by simp)
     simp only [fillA, Act.put, List.setIfInBounds_toArray, List.set_cons_zero, List.set_cons_succ, Nat.zero_add, Nat.reduceAdd, e42]
     generalize vs 0 = u0, vs 1 = u1, vs 2 = u2, vs 3 = u3, vs 4 = u4, vs 5 = u5, vs 6 = u6, vs 7 = u7, vs 8 = u8
     clear hE e42
     have HBW2 : Hid (Below (w.heap.size + 2) W0 W) := HBV.out.trans (Below.mono hC hgV)
     have BW2 := Lib.hid (BV.out.bl hC)
     clear hC
     go_simp
     go_wp2_with fail
     go_roundw
     case rel => exact ⟨k + 1, by omega, by go_num, by rw [fitsK_succ HX.out, HF.out, HBL.out]; rfl, HBW2, BW2⟩
     case measure => simp [intOf]; omega
   | false =>
    refine wp_frame5 ?_
    intro a0 ha0
    have hsz : a0.tmps.size = 46 := by rw [ha0]; kernel_rfl
    refine wp_region_list (fun W => Below V.heap.size V W) (fun w w' => Below w.heap.size w w')
     [isV (.bool false), isV (.bool false), isV (undef), isV (undef), isV (undef), isV (undef), isV (undef), isV (undef), isV (undef), isV (.bool false)]
     (by kernel_rfl) (by kernel_rfl) (by kernel_rfl) (by simp) (by simp) (Below.refl _ _).drew ?stabfalse ?stepfalse ?finfalse
    case stabfalse => exact (StabL.is (StabL.is (StabL.is (StabL.is (StabL.is (StabL.is (StabL.is (StabL.is (StabL.is (StabL.is StabL.nil))))))))))
    case stepfalse =>
     refine StepsL.isA ?_ (StepsL.isA ?_ (StepsL.isA ?_ (StepsL.isA ?_ (StepsL.isA ?_ (StepsL.isA ?_ (StepsL.isA ?_ (StepsL.isA ?_ (StepsL.isA ?_ (StepsL.isA ?_ StepsL.nil)))))))))
     all_goals intro vs a W K ha hC hD hU hK
     all_goals try rw [if_pos (by rfl)]
     ·have r5 := fg 5 10 ha hsz (by kernel_rfl) (by decide)
      have q10 : vs 10 = .bool false := (hU 10 _ rfl (by simp [waits, Region.binds])).trans (by rw [ha0]; kernel_rfl)
      rw [q10] at r5
      clear ha hU hD ha0
      go_simp
      exact hK _ hC (Below.refl _ _)
     ·have r33 := fq 33 0 ha hsz (by kernel_rfl) (by decide) (hD 0 (by simp [waits, Region.binds]))
      clear ha hU hD ha0
      go_simp
      exact hK _ hC (Below.refl _ _)
     ·have r34 := fg 34 1 ha hsz (by kernel_rfl) (by decide)
      have q1 : vs 1 = .bool false := hD 1 (by simp [waits, Region.binds])
      rw [q1] at r34
      clear ha hU hD ha0
      rw [if_neg (by simp [Region.wanted, yielded, r34, undef])]
     ·have r34 := fg 34 1 ha hsz (by kernel_rfl) (by decide)
      have q1 : vs 1 = .bool false := hD 1 (by simp [waits, Region.binds])
      rw [q1] at r34
      clear ha hU hD ha0
      rw [if_neg (by simp [Region.wanted, yielded, r34, undef])]
     ·have r34 := fg 34 1 ha hsz (by kernel_rfl) (by decide)
      have q1 : vs 1 = .bool false := hD 1 (by simp [waits, Region.binds])
      rw [q1] at r34
      clear ha hU hD ha0
      rw [if_neg (by simp [Region.wanted, yielded, r34, undef])]
     ·have r34 := fg 34 1 ha hsz (by kernel_rfl) (by decide)
      have q1 : vs 1 = .bool false := hD 1 (by simp [waits, Region.binds])
      rw [q1] at r34
      clear ha hU hD ha0
      rw [if_neg (by simp [Region.wanted, yielded, r34, undef])]
     ·have r34 := fg 34 1 ha hsz (by kernel_rfl) (by decide)
      have q1 : vs 1 = .bool false := hD 1 (by simp [waits, Region.binds])
      rw [q1] at r34
      clear ha hU hD ha0
      rw [if_neg (by simp [Region.wanted, yielded, r34, undef])]
     ·have r34 := fg 34 1 ha hsz (by kernel_rfl) (by decide)
      have q1 : vs 1 = .bool false := hD 1 (by simp [waits, Region.binds])
      rw [q1] at r34
      clear ha hU hD ha0
      rw [if_neg (by simp [Region.wanted, yielded, r34, undef])]
     ·have r34 := fg 34 1 ha hsz (by kernel_rfl) (by decide)
      have q1 : vs 1 = .bool false := hD 1 (by simp [waits, Region.binds])
      rw [q1] at r34
      clear ha hU hD ha0
      rw [if_neg (by simp [Region.wanted, yielded, r34, undef])]
     have r34 := fq 34 1 ha hsz (by kernel_rfl) (by decide) (hD 1 (by simp [waits, Region.binds]))
     have r41 := fq 41 8 ha hsz (by kernel_rfl) (by decide) (hD 8 (by simp [waits, Region.binds]))
     clear ha hU hD ha0
     go_simp
     exact hK _ hC (Below.refl _ _)
    intro vs W hC hE hU
    rw [ha0]
    clear hU hsz
    have e42 : vs 9 = .bool false := hE 9 (by simp)
    simp only [fillA, Act.put, List.setIfInBounds_toArray, List.set_cons_zero, List.set_cons_succ, Nat.zero_add, Nat.reduceAdd, e42]
    generalize vs 0 = u0, vs 1 = u1, vs 2 = u2, vs 3 = u3, vs 4 = u4, vs 5 = u5, vs 6 = u6, vs 7 = u7, vs 8 = u8
    clear hE e42
    have HBW2 : Hid (Below (w.heap.size + 2) W0 W) := HBV.out.trans (Below.mono hC hgV)
    have BW2 := Lib.hid (BV.out.bl hC)
    clear hC
    go_simp
    go_wp2_with fail
    go_roundw
    case rel => exact ⟨k + 1, by omega, by go_num, by rw [fitsK_succ HX.out, HF.out]; rfl, HBW2, BW2⟩
    case measure => simp [intOf]; omega
  obtain rfl : k = n := by omega
  have hki : ¬ (k : Int) < k := by omega
  obtain ⟨v0, v1, v2, v3, v4, v5, v6, v7, hv⟩ := cutC_8 (cut5 c (za, zb)) k
  have BL8 := BLr.out
  rw [hv] at BL8
  have l0 := BL8.cell 0
  have l1 := BL8.cell 1
  have l2 := BL8.cell 2
  have l3 := BL8.cell 3
  have l4 := BL8.cell 4
  have l5 := BL8.cell 5
  have l6 := BL8.cell 6
  have l7 := BL8.cell 7
  have f0 := BL8.frozen 0
  have f1 := BL8.frozen 1
  have f2 := BL8.frozen 2
  have f3 := BL8.frozen 3
  have f4 := BL8.frozen 4
  have f5 := BL8.frozen 5
  have f6 := BL8.frozen 6
  have f7 := BL8.frozen 7
  have hl0 := BL8.lt
  obtain ⟨V, hV⟩ : ∃ V, (((((((wr.setCell ⟨gL, 0, none⟩ (.int .i64 v0)).setCell ⟨gL, 1, none⟩ (.int .i64 v1)).setCell ⟨gL, 2, none⟩ (.int .i64 v2)).setCell ⟨gL, 3, none⟩ (.int .i64 v3)).setCell ⟨gL, 4, none⟩ (.int .i64 v4)).setCell ⟨gL, 5, none⟩ (.int .i64 v5)).setCell ⟨gL, 6, none⟩ (.int .i64 v6)).setCell ⟨gL, 7, none⟩ (.int .i64 v7) = V := ⟨_, rfl⟩
  have HBV : Below (w.heap.size + 2) W0 V := by rw [← hV]; exact bl_set (bl_set (bl_set (bl_set (bl_set (bl_set (bl_set (bl_set HBr.out (by dsimp only; omega) _) (by dsimp only; omega) _) (by dsimp only; omega) _) (by dsimp only; omega) _) (by dsimp only; omega) _) (by dsimp only; omega) _) (by dsimp only; omega) _) (by dsimp only; omega) _
  have BV : Blk V gL 108 #[.int .i64 v0, .int .i64 v1, .int .i64 v2, .int .i64 v3, .int .i64 v4, .int .i64 v5, .int .i64 v6, .int .i64 v7] := by rw [← hV]; exact ((((((((BL8.set_ 0 _).set_ 1 _).set_ 2 _).set_ 3 _).set_ 4 _).set_ 5 _).set_ 6 _).set_ 7 _)
  have g0 := BV.cell 0
  have g1 := BV.cell 1
  have g2 := BV.cell 2
  have g3 := BV.cell 3
  have g4 := BV.cell 4
  have g5 := BV.cell 5
  have g6 := BV.cell 6
  have g7 := BV.cell 7
  go_wp2_with fail
  exact bodyPost_ret (by rw [results_cell_tmp Tryz.results45]; simp [go_sem, g0, g1, g2, g3, g4, g5, g6, g7]; rfl) rfl ⟨by rw [← hv, cutC_all (by rw [HN.out]; exact Nat.le_refl _), fitsK_all (by rw [HN.out]; exact Nat.le_refl _), HMO.out], hBW.trans (Below.mono HBV (by omega))⟩
end Go.Proofs.YtcnebekkbfajbaaGreat
