/- A part of the proof that TopMeasured always answers true. -/
import Derived.Test.YtcnebekkbfajbaaGreatCKLarP
import Derived.Test.YtcnebekkbfajbaaGreatCKLaw1
import Derived.Test.YtcnebekkbfajbaaGreatCKOut1
import Derived.Test.YtcnebekkbfajbaaGreatCKPlanC
import Derived.Test.YtcnebekkbfajbaaGreatCKRefI
import Derived.Test.YtcnebekkbfajbaaGreatCScAwake
import Derived.Test.YtcnebekkbfajbaaGreatCScRefD
import Derived.Test.YtcnebekkbfajbaaGreatCScS
set_option linter.all false
namespace Go.Proofs.YtcnebekkbfajbaaGreat
open Go.RowKit Go.Shelf
theorem infoSpan5 : (Tryz.prog.info? 27).map (fun i => (i.zero, i.size, i.bytes)) = some (some (.agg #[.int .i64 0, .int .i64 0]), 2, 16) := by kernel_rfl
theorem infoMark5 : (Tryz.prog.info? 65).map (fun i => (i.zero, i.size, i.bytes)) = some (some (.agg #[.int .i64 0, .int .i64 0, .int .i64 0]), 3, 24) := by kernel_rfl
def IsSp5 (a z : Int) (v : Value) (W : World) : Prop := ∃ g : Nat, v = .slice (some ⟨g, 0, none⟩) 1 1 ∧ Blk W g 27 #[.int .i64 a, .int .i64 z]
theorem IsSp5.bl {a z : Int} {v : Value} {W V : World} (h : IsSp5 a z v W) (hb : Below W.heap.size W V) : IsSp5 a z v V := by
 obtain ⟨g, h1, h2⟩ := h
 exact ⟨g, h1, h2.bl hb⟩
theorem ordL_get {c : Case5} {z : Nat × Nat} {off : Int} {k : Nat} {x : Int} (hk : k < 6) (hx : (cut5 c z)[k]? = some x) : (ordL c z off)[k]? = some (spanO off x) := by
 unfold ordL
 rw [List.getElem?_map, List.getElem?_take, if_pos hk, hx]; rfl
set_option maxRecDepth 100000 in
set_option maxHeartbeats 16000000 in
theorem topMeasured_any {c : Case5} {s : Shop} {CA CB A XA XB : Option Addr} {cn cca cm ccb n ca xn xc xm xd sa sb of : Nat} {kd ba mo klo khi : Int} {xs ys : List Nat} (w : World) (gC : CaseAt (fun _ => True) w CA cn CB cm c) (g : Moulds (fun _ => True) w A n s.moulds) (hX : Bytes (fun _ => True) w XA xn xs) (hY : Bytes (fun _ => True) w XB xm ys) (hca : n ≤ ca) (hsa : sa < 256) (hsb : sb < 256) (hof : of < 256)
    (e1 : c.kind = kd) (e2 : c.base = ba) (e3 : c.most = mo) (h1 : s.klo = klo) (h2 : s.khi = khi) :
    Calls Tryz.prog 3 #[.agg #[.int .i64 kd, .int .i64 ba, .int .i64 mo, .slice CA cn cca, .slice CB cm ccb], .agg #[.int .i64 klo, .int .i64 khi, .slice A n ca], .agg #[.slice XA xn xc, .slice XB xm xd, .int .u8 (sa : Int), .int .u8 (sb : Int), .int .u8 (of : Int)]] w fun e w' => e = .returned (.bool true) ∧ Below w.heap.size w w' := by
  obtain ⟨W, hW⟩ : ∃ W, ((w.alloc (.cells #[.int .i64 kd, .int .i64 ba, .int .i64 mo, .slice CA cn cca, .slice CB cm ccb] 25)).alloc (.cells #[.int .i64 klo, .int .i64 khi, .slice A n ca] 30)).alloc (.cells #[.slice XA xn xc, .slice XB xm xd, .int .u8 (sa : Int), .int .u8 (sb : Int), .int .u8 (of : Int)] 36) = W := ⟨_, rfl⟩
  have X : Blk W w.heap.size 25 #[.int .i64 kd, .int .i64 ba, .int .i64 mo, .slice CA cn cca, .slice CB cm ccb] := by rw [← hW]; exact ((Blk.new _ _ _ rfl).alloc _).alloc _
  have Y : Blk W (w.heap.size + 1) 30 #[.int .i64 klo, .int .i64 khi, .slice A n ca] := by rw [← hW]; exact (Blk.new _ _ _ (by simp)).alloc _
  have Z : Blk W (w.heap.size + 1 + 1) 36 #[.slice XA xn xc, .slice XB xm xd, .int .u8 (sa : Int), .int .u8 (sb : Int), .int .u8 (of : Int)] := by rw [← hW]; exact Blk.new _ _ _ (by simp)
  have hBW : Below w.heap.size w W := by rw [← hW]; exact bl_alloc (bl_alloc (bl_alloc (Below.refl _ _) _ (Nat.le_refl _)) _ (Nat.le_refl _)) _ (Nat.le_refl _)
  have HC : Hid (∀ V, Below W.heap.size W V → CaseAt (fun _ => True) V CA cn CB cm c) := fun V hb => (gC.bl hBW).bl hb
  have HG : Hid (∀ V, Below W.heap.size W V → Moulds (fun _ => True) V A n s.moulds) := fun V hb => (g.keep MouldR.good (Keeps.below hBW)).keep MouldR.good (Keeps.below hb)
  have HXS : Hid (∀ V, Below W.heap.size W V → Bytes (fun _ => True) V XA xn xs) := fun V hb => (hX.keep ByteR.good (Keeps.below hBW)).keep ByteR.good (Keeps.below hb)
  have HYS : Hid (∀ V, Below W.heap.size W V → Bytes (fun _ => True) V XB xm ys) := fun V hb => (hY.keep ByteR.good (Keeps.below hBW)).keep ByteR.good (Keeps.below hb)
  have kk : Hid (∀ V, Below W.heap.size W V → (V.cell? ⟨w.heap.size, 0, none⟩ = some (.int .i64 kd) ∧ V.cell? ⟨w.heap.size, 1, none⟩ = some (.int .i64 ba) ∧ V.cell? ⟨w.heap.size, 2, none⟩ = some (.int .i64 mo) ∧ V.cell? ⟨w.heap.size, 3, none⟩ = some (.slice CA cn cca) ∧ V.cell? ⟨w.heap.size, 4, none⟩ = some (.slice CB cm ccb)) ∧ (V.cell? ⟨w.heap.size + 1, 0, none⟩ = some (.int .i64 klo) ∧ V.cell? ⟨w.heap.size + 1, 1, none⟩ = some (.int .i64 khi) ∧ V.cell? ⟨w.heap.size + 1, 2, none⟩ = some (.slice A n ca)) ∧ V.cell? ⟨w.heap.size + 1 + 1, 0, none⟩ = some (.slice XA xn xc) ∧ V.cell? ⟨w.heap.size + 1 + 1, 1, none⟩ = some (.slice XB xm xd) ∧ V.cell? ⟨w.heap.size + 1 + 1, 2, none⟩ = some (.int .u8 (sa : Int)) ∧ V.cell? ⟨w.heap.size + 1 + 1, 3, none⟩ = some (.int .u8 (sb : Int)) ∧ V.cell? ⟨w.heap.size + 1 + 1, 4, none⟩ = some (.int .u8 (of : Int))) :=
    fun V hb => ⟨⟨(X.bl hb).cell 0, (X.bl hb).cell 1, (X.bl hb).cell 2, (X.bl hb).cell 3, (X.bl hb).cell 4⟩, ⟨(Y.bl hb).cell 0, (Y.bl hb).cell 1, (Y.bl hb).cell 2⟩, (Z.bl hb).cell 0, (Z.bl hb).cell 1, (Z.bl hb).cell 2, (Z.bl hb).cell 3, (Z.bl hb).cell 4⟩
  have Hn := Lib.hid g.len
  have hnl := g.le
  have HCN : Hid (c.hts.length = cn) := gC.hs.len
  have hcnl := gC.hs.le
  clear X Y Z g hX hY gC
  obtain ⟨⟨c0, c1, c2, c3, c4⟩, ⟨x0, x1, x2⟩, y0, y1, y2, y3, y4⟩ := kk.out W (Below.refl _ _)
  go_enter Tryz.func3, Tryz.ntmps3
  go_wp2_with fail
  clear hW
  clear c0 c1 c2 c3 c4 x0 x1 x2 y0 y1 y2 y3 y4
  refine (rcheck5_any W (HC.out W (Below.refl _ _)) e1 e2 e3).mono ?_
  rintro e V1 ⟨⟨p5, a5, z5, rfl, hz5⟩, b1⟩
  have HZ5 := Lib.hid hz5
  clear hz5
  obtain ⟨⟨c0, c1, c2, c3, c4⟩, ⟨x0, x1, x2⟩, y0, y1, y2, y3, y4⟩ := kk.out V1 b1
  go_wp2_with fail
  clear c0 c1 c2 c3 c4 x0 x1 x2 y0 y1 y2 y3 y4
  refine (rcheck7_any V1 (HG.out V1 b1) h1 h2).mono ?_
  rintro e V2 ⟨rfl, c2⟩
  have b2 := bl_call b1 c2 (Nat.le_refl _)
  clear c2
  obtain ⟨q7, hq7⟩ : ∃ x, (check7 s).1 = x := ⟨_, rfl⟩
  obtain ⟨r7, hr7⟩ : ∃ x, (check7 s).2.1 = x := ⟨_, rfl⟩
  obtain ⟨z7, hz7⟩ : ∃ x, (check7 s).2.2 = x := ⟨_, rfl⟩
  rw [hq7, hr7, hz7]
  have HZ7 := Lib.hid hz7
  clear hq7 hr7 hz7
  obtain ⟨⟨c0, c1, c2, c3, c4⟩, ⟨x0, x1, x2⟩, y0, y1, y2, y3, y4⟩ := kk.out V2 b2
  go_wp2_with fail
  clear c0 c1 c2 c3 c4 x0 x1 x2 y0 y1 y2 y3 y4
  refine (any5_any hsa hsb V2).mono ?_
  rintro e V3 ⟨rfl, c3⟩
  have b3 := bl_call b2 c3 (Nat.le_refl _)
  clear c3
  have hzin := any5_in sa sb
  obtain ⟨za, hza⟩ : ∃ x, (any5N sa sb).1 = x := ⟨_, rfl⟩
  obtain ⟨zb, hzb⟩ : ∃ x, (any5N sa sb).2 = x := ⟨_, rfl⟩
  rw [show any5N sa sb = (za, zb) from Prod.ext hza hzb] at hzin
  rw [hza, hzb]
  have HZIN := Lib.hid hzin
  clear hza hzb hzin
  obtain ⟨gz, hgz⟩ : ∃ x, V3.heap.size = x := ⟨_, rfl⟩
  obtain ⟨V4, hV4⟩ : ∃ V, V3.alloc (.cells #[.int .i64 (za : Int), .int .i64 (zb : Int)] 42) = V := ⟨_, rfl⟩
  have b4 : Below W.heap.size W V4 := by rw [← hV4]; exact bl_alloc b3 _ (Nat.le_refl _)
  have ZB : Blk V4 gz 42 #[.int .i64 (za : Int), .int .i64 (zb : Int)] := by rw [← hV4]; exact Blk.new _ _ _ hgz.symm
  have kz : Hid (∀ V, Below V4.heap.size V4 V → V.cell? ⟨gz, 0, none⟩ = some (.int .i64 (za : Int)) ∧ V.cell? ⟨gz, 1, none⟩ = some (.int .i64 (zb : Int))) := fun V hb => ⟨(ZB.bl hb).cell 0, (ZB.bl hb).cell 1⟩
  have HB4 := Lib.hid b4
  clear ZB b1 b2 b3 b4
  obtain ⟨⟨c0, c1, c2, c3, c4⟩, ⟨x0, x1, x2⟩, y0, y1, y2, y3, y4⟩ := kk.out V4 HB4.out
  obtain ⟨z0, z1⟩ := kz.out V4 (Below.refl _ _)
  by_cases he5 : z5 = 0
  · have HOK5 : Hid (Ok5 c) := HZ5.out he5
    subst he5
    by_cases he7 : z7 = 0
    · have HE : Hid ((check7 s).2.2 = 0) := HZ7.out.trans he7
      subst he7
      have hok := okS_of HE.out
      have HOK := Lib.hid hok
      have hcn8 : 1 ≤ cn ∧ cn ≤ 8 := by have := HOK5.out.nh; have := HCN.out; omega
      go_wp2_with fail
      clear z0 z1
      clear c0 c1 c2 c3 c4 x0 x1 x2 y0 y1 y2 y3 y4
      refine (rfits5_any HOK5.out HZIN.out V4 (HC.out V4 HB4.out) e1 e2 e3).mono ?_
      rintro e V5 ⟨rfl, c5⟩
      have H45 : Hid (Below V4.heap.size V4 V5) := c5
      have HB5 : Hid (Below W.heap.size W V5) := bl_call HB4.out c5 (Nat.le_refl _)
      clear c5
      obtain ⟨fb, hfb⟩ : ∃ x, fits5 c ((((za, zb) : Nat × Nat).1 : Int), (((za, zb) : Nat × Nat).2 : Int)) = x := ⟨_, rfl⟩
      rw [hfb]
      have HFB := Lib.hid hfb
      clear hfb
      cases fb with
      | false =>
        go_wp2_with fail
        refine (awake5_any V5).mono ?_
        rintro e V98 ⟨rfl, c98⟩
        have b98 := bl_call HB5.out c98 (Nat.le_refl _)
        clear c98
        go_wp2_with fail
        refine (awake7_any V98).mono ?_
        rintro e V99 ⟨rfl, c99⟩
        have b99 := bl_call hBW (bl_call b98 c99 (Nat.le_refl _)) (Nat.le_refl _)
        clear c99
        go_wp2
        go_ret
        exact ⟨by rfl, b99⟩
      | true =>
        obtain ⟨⟨c0, c1, c2, c3, c4⟩, ⟨x0, x1, x2⟩, y0, y1, y2, y3, y4⟩ := kk.out V5 HB5.out
        obtain ⟨z0, z1⟩ := kz.out V5 H45.out
        go_wp2_with fail
        clear z0 z1
        clear c0 c1 c2 c3 c4 x0 x1 x2 y0 y1 y2 y3 y4
        refine (scuts_any HOK5.out HZIN.out V5 (HC.out V5 HB5.out) e1 e2 e3).mono ?_
        rintro e V6 ⟨⟨D, dc, rfl, hD⟩, c6⟩
        have H46 : Hid (Below V4.heap.size V4 V6) := bl_call H45.out c6 (Nat.le_refl _)
        have HB6 : Hid (Below W.heap.size W V6) := bl_call HB5.out c6 (Nat.le_refl _)
        clear c6
        have HD : Hid (∀ V, Below V6.heap.size V6 V → Ints (fun _ => True) V D cn (cut5 c (za, zb))) := fun V hb => hD.keep IntR.good (Keeps.below hb)
        clear hD
        obtain ⟨⟨c0, c1, c2, c3, c4⟩, ⟨x0, x1, x2⟩, y0, y1, y2, y3, y4⟩ := kk.out V6 HB6.out
        have hcc : ((cn : Int) != (cn : Int)) = false := by simp
        have wof : IntKind.i64.wrap (of : Int) = (of : Int) := by rw [IntKind.wrap_i64]; omega
        obtain ⟨iS, hiS, hzS0, hzS1, hzS2⟩ := info_parts infoSpan5
        obtain ⟨iM, hiM, hzM0, hzM1, hzM2⟩ := info_parts infoMark5
        have HOL : Hid ((ordL c (za, zb) (of : Int)).length = min 6 cn) := by rw [Hid, ordL_len, HCN.out]
        go_wp2_with fail
        clear c0 c1 c2 c3 c4 x0 x1 x2 y0 y1 y2 y3 y4
        go_loopw [16, 17] (fun al i wr => ∃ (k cap : Nat) (An : Option Addr), k ≤ cn ∧ k ≤ 6 ∧ i = .int .i64 k ∧ al = .slice An k cap ∧ Hid (Below V6.heap.size V6 wr) ∧ Hid (OwnL PairR 2 (fun _ => False) wr V6.heap.size 27 (.slice An k cap) ((ordL c (za, zb) (of : Int)).take k))) (fun _ i _ => cn - (intOf i).toNat)
        case atStart => exact ⟨0, 0, none, Nat.zero_le _, by omega, rfl, rfl, Below.refl _ _, OwnL.nil _ _ _ _ _ _⟩
        case round =>
          obtain ⟨wo, hwo⟩ : ∃ V, V = wr := ⟨_, rfl⟩
          rw [← hwo] at hrel ⊢
          clear hwo
          obtain ⟨k, cap, An, hk, hk6, rfl, rfl, HBr, HOr⟩ := hrel
          by_cases hlt : k < cn ∧ k < 6
          · obtain ⟨hlt, hlt6⟩ := hlt
            have hki : (k : Int) < cn := by omega
            have hki6 : (k : Int) < 6 := by omega
            obtain ⟨bD, oD, x, rfl, hcx, Hx⟩ := Ints.get (HD.out wo HBr.out) hlt
            have hxb := cuts_bd HOK5.out HZIN.out k
            change 0 ≤ (cut5 c (za, zb)).getD k 0 ∧ (cut5 c (za, zb)).getD k 0 ≤ 600000 at hxb
            rw [getD_of Hx.out] at hxb
            obtain ⟨d1, hd1⟩ : ∃ d, x - (of : Int) = d := ⟨_, rfl⟩
            obtain ⟨d2, hd2⟩ : ∃ d, x + (of : Int) = d := ⟨_, rfl⟩
            have HD1 : Hid (IntKind.i64.wrap (x - (of : Int)) = d1) := by rw [Hid, hd1, IntKind.wrap_i64]; omega
            have HD2 : Hid (IntKind.i64.wrap (x + (of : Int)) = d2) := by rw [Hid, hd2, IntKind.wrap_i64]; omega
            have HTK : Hid ((ordL c (za, zb) (of : Int)).take (k + 1) = (ordL c (za, zb) (of : Int)).take k ++ [(max 0 d1, d2)]) := by
              rw [Hid, take_snoc_get (ordL_get (off := (of : Int)) hlt6 Hx.out), spanO, hd1, hd2]
            have HLr : Hid (((ordL c (za, zb) (of : Int)).take k).length = k) := by rw [Hid, List.length_take, HOL.out]; omega
            have kx : Hid (∀ V, Below wo.heap.size wo V → V.cell? ⟨bD, oD + k, none⟩ = some (.int .i64 x)) := fun V hb => getc hb hcx
            clear hd1 hd2 hcx hxb
            go_wp2_with fail
            refine wp_frame5 ?_
            intro a0 ha0
            have tb14 : a0.tmps[14]? = some (.slice (some ⟨bD, oD, none⟩) cn dc) := by rw [ha0]; kernel_rfl
            have tb15 : a0.tmps[15]? = some (.int .i64 (of : Int)) := by rw [ha0]; kernel_rfl
            have tb17 : a0.tmps[17]? = some (.int .i64 (k : Int)) := by rw [ha0]; kernel_rfl
            have hsz : a0.tmps.size = 214 := by rw [ha0]; kernel_rfl
            refine wp_region_list2 (fun W => Below wo.heap.size wo W) (fun w w' => Below w.heap.size w w')
              [isV (.slice An k cap), isV (.slice (some ⟨bD, oD, none⟩) cn dc), isV (.int .i64 (k : Int)), isV (.pointer (some ⟨bD, oD + k, none⟩)), isV (.int .i64 x), isV (.int .i64 (of : Int)), isV (.int .i64 d1), isV (.int .i64 (max 0 d1)), isV (.slice (some ⟨bD, oD, none⟩) cn dc), isV (.int .i64 (k : Int)), isV (.pointer (some ⟨bD, oD + k, none⟩)), isV (.int .i64 x), isV (.int .i64 (of : Int)), isV (.int .i64 d2), isV (.agg #[.int .i64 (max 0 d1), .int .i64 d2]), IsSp5 (max 0 d1) d2]
              (by kernel_rfl) (by kernel_rfl) (by kernel_rfl) (by rfl) (by rfl) (by rfl) (by rfl) (by rfl) (Below.refl _ _).drew ?stabA ?stepA ?finA
            case stabA => exact (StabL.is (StabL.is (StabL.is (StabL.is (StabL.is (StabL.is (StabL.is (StabL.is (StabL.is (StabL.is (StabL.is (StabL.is (StabL.is (StabL.is (StabL.is (StabL.cons (fun v W V hC hX h => h.bl hX) StabL.nil))))))))))))))))
            case stepA =>
              refine StepsL.isA ?_ (StepsL.isA ?_ (StepsL.isA ?_ (StepsL.isA ?_ (StepsL.isA ?_ (StepsL.isA ?_ (StepsL.isA ?_ (StepsL.isA ?_ (StepsL.isA ?_ (StepsL.isA ?_ (StepsL.isA ?_ (StepsL.isA ?_ (StepsL.isA ?_ (StepsL.isA ?_ (StepsL.isA ?_ (StepsL.consA ?_ StepsL.nil)))))))))))))))
              all_goals intro vs a W K ha hC hD hU hK
              all_goals try rw [if_pos (by rfl)]
              · have r16 := fg 16 17 ha hsz (by kernel_rfl) (by decide)
                have q17 : vs 17 = .slice An k cap := (hU 17 _ rfl (by simp [waits, Region.binds])).trans (by rw [ha0]; kernel_rfl)
                rw [q17] at r16
                clear ha hU hD ha0
                go_simp
                exact hK _ hC (Below.refl _ _)
              · have r14 := fb ha (by kernel_rfl) tb14
                clear ha hU hD ha0
                go_simp
                exact hK _ hC (Below.refl _ _)
              · have r17 := fb ha (by kernel_rfl) tb17
                clear ha hU hD ha0
                go_simp
                exact hK _ hC (Below.refl _ _)
              · have r91 := fg 91 1 ha hsz (by kernel_rfl) (by decide)
                have q1 : vs 1 = .slice (some ⟨bD, oD, none⟩) cn dc := hD 1 (by simp [waits, Region.binds])
                rw [q1] at r91
                have r92 := fq 92 2 ha hsz (by kernel_rfl) (by decide) (hD 2 (by simp [waits, Region.binds]))
                clear ha hU hD ha0
                go_simp
                exact hK _ hC (Below.refl _ _)
              · have r93 := fg 93 3 ha hsz (by kernel_rfl) (by decide)
                have q3 : vs 3 = .pointer (some ⟨bD, oD + k, none⟩) := hD 3 (by simp [waits, Region.binds])
                rw [q3] at r93
                clear ha hU hD ha0
                have kxx := kx.out W hC
                go_simp
                exact hK _ hC (Below.refl _ _)
              · have r15 := fb ha (by kernel_rfl) tb15
                clear ha hU hD ha0
                go_simp
                exact hK _ hC (Below.refl _ _)
              · have r94 := fg 94 4 ha hsz (by kernel_rfl) (by decide)
                have q4 : vs 4 = .int .i64 x := hD 4 (by simp [waits, Region.binds])
                rw [q4] at r94
                have r95 := fq 95 5 ha hsz (by kernel_rfl) (by decide) (hD 5 (by simp [waits, Region.binds]))
                clear ha hU hD ha0
                go_simp
                rw [HD1.out]
                exact hK _ hC (Below.refl _ _)
              · have r96 := fg 96 6 ha hsz (by kernel_rfl) (by decide)
                have q6 : vs 6 = .int .i64 d1 := hD 6 (by simp [waits, Region.binds])
                rw [q6] at r96
                clear ha hU hD ha0
                have hmx := max_if 0 d1
                go_simp
                exact hK _ hC (Below.refl _ _)
              · have r14 := fb ha (by kernel_rfl) tb14
                clear ha hU hD ha0
                go_simp
                exact hK _ hC (Below.refl _ _)
              · have r17 := fb ha (by kernel_rfl) tb17
                clear ha hU hD ha0
                go_simp
                exact hK _ hC (Below.refl _ _)
              · have r98 := fg 98 8 ha hsz (by kernel_rfl) (by decide)
                have q8 : vs 8 = .slice (some ⟨bD, oD, none⟩) cn dc := hD 8 (by simp [waits, Region.binds])
                rw [q8] at r98
                have r99 := fq 99 9 ha hsz (by kernel_rfl) (by decide) (hD 9 (by simp [waits, Region.binds]))
                clear ha hU hD ha0
                go_simp
                exact hK _ hC (Below.refl _ _)
              · have r100 := fg 100 10 ha hsz (by kernel_rfl) (by decide)
                have q10 : vs 10 = .pointer (some ⟨bD, oD + k, none⟩) := hD 10 (by simp [waits, Region.binds])
                rw [q10] at r100
                clear ha hU hD ha0
                have kxx := kx.out W hC
                go_simp
                exact hK _ hC (Below.refl _ _)
              · have r15 := fb ha (by kernel_rfl) tb15
                clear ha hU hD ha0
                go_simp
                exact hK _ hC (Below.refl _ _)
              · have r101 := fg 101 11 ha hsz (by kernel_rfl) (by decide)
                have q11 : vs 11 = .int .i64 x := hD 11 (by simp [waits, Region.binds])
                rw [q11] at r101
                have r102 := fq 102 12 ha hsz (by kernel_rfl) (by decide) (hD 12 (by simp [waits, Region.binds]))
                clear ha hU hD ha0
                go_simp
                rw [HD2.out]
                exact hK _ hC (Below.refl _ _)
              · have r97 := fg 97 7 ha hsz (by kernel_rfl) (by decide)
                have q7 : vs 7 = .int .i64 (max 0 d1) := hD 7 (by simp [waits, Region.binds])
                rw [q7] at r97
                have r103 := fq 103 13 ha hsz (by kernel_rfl) (by decide) (hD 13 (by simp [waits, Region.binds]))
                clear ha hU hD ha0
                go_simp
                exact hK _ hC (Below.refl _ _)
              · have r104 := fg 104 14 ha hsz (by kernel_rfl) (by decide)
                have q14 : vs 14 = .agg #[.int .i64 (max 0 d1), .int .i64 d2] := hD 14 (by simp [waits, Region.binds])
                rw [q14] at r104
                clear ha hU hD ha0
                go_simp
                exact hK _ _ (bl_alloc hC _ (Nat.le_refl _)) (bl_alloc (Below.refl _ _) _ (Nat.le_refl _)) ⟨_, rfl, Blk.new _ _ _ rfl⟩
            case finA =>
              intro vs W hC hE hU
              rw [ha0]
              clear hU hsz tb14 tb15 tb17
              have e0 : vs 0 = .slice An k cap := hE 0 (by simp)
              have E15 : IsSp5 (max 0 d1) d2 (vs 15) W := hE 15 (by simp)
              simp only [fillA, Act.put, List.setIfInBounds_toArray, List.set_cons_zero, List.set_cons_succ, Nat.zero_add, Nat.reduceAdd, e0]
              obtain ⟨g15, h15, B15⟩ := E15
              rw [h15]
              generalize vs 1 = u1, vs 2 = u2, vs 3 = u3, vs 4 = u4, vs 5 = u5, vs 6 = u6, vs 7 = u7, vs 8 = u8, vs 9 = u9, vs 10 = u10, vs 11 = u11, vs 12 = u12, vs 13 = u13, vs 14 = u14
              clear hE e0 h15
              have hCw : Below wo.heap.size wo W := hC
              obtain ⟨A2, cap2, w2, hrun, hO2, hg2, hat⟩ := run_append_one W 48 48 PairR.good V6.heap.size 27 iS _ 16 Tryz.underlying48 hiS hzS0 hzS1 hzS2 rfl (by omega) (.slice An k cap) ((ordL c (za, zb) (of : Int)).take k) (max 0 d1, d2) (HOr.out.below PairR.good hCw) ⟨g15, 0, none⟩ 1 [.int .i64 (max 0 d1), .int .i64 d2] rfl (fun j v hv => by rcases j with _ | _ | j; (simp at hv; subst hv; exact B15.cell 0); (simp at hv; subst hv; exact B15.cell 1); (simp at hv)) (by rw [HLr.out]; simp only [maxLen]; omega) (by rw [HLr.out]; omega) (by have := hCw.size; have := HBr.out.size; omega) (fun h => h)
              have hB2 : Below V6.heap.size V6 w2 := bl_grown (bl_call HBr.out hCw (Nat.le_refl _)) (HOr.out.below PairR.good hCw) hg2 (Nat.le_refl _) (Nat.le_refl _)
              rw [HLr.out] at hrun hO2
              rw [← HTK.out] at hO2
              refine wp_append_of_run rfl rfl rfl hrun ?_
              clear hrun hg2 hat hC B15 hCw kx
              have HO2 := Lib.hid hO2
              have HB2 := Lib.hid hB2
              clear hO2 hB2
              go_simp
              go_wp2
              go_roundw
              case rel => exact ⟨k + 1, cap2, _, by omega, by omega, by go_num, rfl, HB2, HO2⟩
              case measure => simp [intOf]; omega
          · have HKM : Hid (k = min 6 cn) := by rw [Hid]; omega
            have HPL : Hid (OwnL PairR 2 (fun _ => False) wo V6.heap.size 27 (.slice An k cap) (ordL c (za, zb) (of : Int))) := by
              have h := HOr.out
              rwa [List.take_of_length_le (by rw [HOL.out, ← HKM.out]; exact Nat.le_refl _)] at h
            have hP1 : Pairs (fun _ => True) wo An k (ordL c (za, zb) (of : Int)) := HPL.out.slice (T := fun _ => True) PairR.good rfl (by simp only [maxLen]; omega) (fun _ h => h.elim) (fun _ _ _ => trivial)
            have HP := Lib.hid hP1
            have HPLN : Hid ((ordL c (za, zb) (of : Int)).length = k) := HOL.out.trans HKM.out.symm
            clear hP1 HPL
            obtain ⟨p, hp⟩ : ∃ x, ordL c (za, zb) (of : Int) = x := ⟨_, rfl⟩
            have HPE := Lib.hid hp
            rw [hp] at HP HPLN
            clear hp HOr
            obtain ⟨V1, hV1⟩ : ∃ V, V = wo := ⟨_, rfl⟩
            subst hV1
            have b1 : Below W.heap.size W V1 := bl_call HB6.out HBr.out (Nat.le_refl _)
            have HZ1 : Hid (Below V4.heap.size V4 V1) := bl_call H46.out HBr.out (Nat.le_refl _)
            have HTR := Lib.hid (any_truth HOK.out xs)
            obtain ⟨⟨c0, c1, c2, c3, c4⟩, ⟨x0, x1, x2⟩, y0, y1, y2, y3, y4⟩ := kk.out V1 b1
            rcases (show (k < cn ∧ k = 6) ∨ k = cn by omega) with hA | hA
            all_goals (
              first
              | (have hk1 : (k : Int) < cn := by omega
                 have hk2 : ¬ (k : Int) < 6 := by omega
                 clear hA
                 go_wp2_with fail)
              | (have hk1 : ¬ (k : Int) < cn := by omega
                 clear hA
                 go_wp2_with fail)
              clear c0 c1 c2 c3 c4 x0 x1 x2 y0 y1 y2 y3 y4
              have hok := HOK.out
              refine (any7_any V1 (HG.out V1 b1) (HXS.out V1 b1) h1 h2 hok).mono ?_
              rintro e V2 ⟨⟨T, tc, rfl, hT⟩, c2⟩
              have b2 := bl_call b1 c2 (Nat.le_refl _)
              obtain ⟨k0, hk0⟩ : ∃ x, anyS7 s xs = x := ⟨_, rfl⟩
              obtain ⟨tw, htw⟩ : ∃ x, anyT7 s xs = x := ⟨_, rfl⟩
              rw [hk0, htw] at HTR
              rw [htw] at hT
              rw [hk0, htw]
              have Htn : Hid (tw.length = n) := HTR.out.len.trans Hn.out
              rw [Htn.out] at hT
              rw [Htn.out]
              obtain ⟨gT, hgT⟩ : ∃ x, V2.heap.size = x := ⟨_, rfl⟩
              obtain ⟨V3, hV3⟩ : ∃ V, V2.alloc (.cells #[.int .i64 k0, .slice T n tc] 51) = V := ⟨_, rfl⟩
              have S3 : Blk V3 gT 51 #[.int .i64 k0, .slice T n tc] := by rw [← hV3]; exact Blk.new _ _ _ hgT.symm
              have H13 : Hid (Below V1.heap.size V1 V3) := by rw [Hid, ← hV3]; exact bl_alloc c2 _ (Nat.le_refl _)
              have b3 : Below W.heap.size W V3 := bl_call b1 H13.out (Nat.le_refl _)
              have hT3 : Pairs (fun _ => True) V3 T n tw := by rw [← hV3]; exact (hT.keep PairR.good (Keeps.alloc _ _)).mono PairR.good (fun _ _ => trivial)
              obtain ⟨⟨c0, c1, c2, c3, c4⟩, ⟨x0, x1, x2⟩, y0, y1, y2, y3, y4⟩ := kk.out V3 b3
              have s0 := S3.cell 0
              have s1 := S3.cell 1
              clear hk0 htw hT c2
              go_wp2_with fail
              clear c0 c1 c2 c3 c4 x0 x1 x2 y0 y1 y2 y3 y4 s0 s1 hV3 hgT
              have HBD := Lib.hid (truth_bd hok HTR.out)
              have HKB := Lib.hid (truth_k hok HTR.out)
              refine (told7_any V3 (HG.out V3 b3) (HYS.out V3 b3) hT3 hok Hn.out.symm HBD.out HKB.out).mono ?_
              rintro e V9 ⟨⟨C, cc, rfl, hS⟩, c4⟩
              have H19 : Hid (Below V1.heap.size V1 V9) := bl_call H13.out c4 (Nat.le_refl _)
              have HB9 : Hid (Below W.heap.size W V9) := bl_call b3 c4 (Nat.le_refl _)
              obtain ⟨l, hl⟩ : ∃ x, toldL7 s k0 tw ys = x := ⟨_, rfl⟩
              have HSI : Hid (∀ y ∈ l, SeenIn s k0 tw y) := by rw [← hl]; exact toldL_seen hok HTR.out ys
              rw [hl] at hS
              rw [hl]
              obtain ⟨q, hq⟩ : ∃ x, l.length = x := ⟨_, rfl⟩
              rw [hq] at hS
              rw [hq]
              have HS : Hid (∀ V, Below V9.heap.size V9 V → SeenCs (fun _ => True) V C q l) := fun V hb => (hS.keep SeenCR.good (Keeps.below hb)).mono SeenCR.good (fun _ _ => trivial)
              have HTV : Hid (∀ V, Below V9.heap.size V9 V → Pairs (fun _ => True) V T n tw) := fun V hb => hT3.keep PairR.good (Keeps.below (bl_call c4 hb (Nat.le_refl _)))
              have S4 := Lib.hid (S3.bl c4)
              have HPV : Hid (∀ V, Below V1.heap.size V1 V → Pairs (fun _ => True) V An k p) := fun V hb => HP.out.keep PairR.good (Keeps.below hb)
              clear hl hq hS hT3 S3 c4 b1 b2 b3
              obtain ⟨⟨c0, c1, c2, c3, c4⟩, ⟨x0, x1, x2⟩, y0, y1, y2, y3, y4⟩ := kk.out V9 HB9.out
              go_wp2_with fail
              clear c0 c1 c2 c3 c4 x0 x1 x2 y0 y1 y2 y3 y4
              refine (kplan_cap (cc := cc) V9 (HG.out V9 HB9.out) (HS.out V9 (Below.refl _ _)) (HPV.out V9 H19.out) hca h1 h2).mono ?_
              rintro e Va ⟨⟨PD, kc, PE, ec, rfl, hD, hE, hcap⟩, c5⟩
              obtain ⟨P, hP1⟩ : ∃ x, (planR s l p).1 = x := ⟨_, rfl⟩
              obtain ⟨u, hP2⟩ : ∃ x, (planR s l p).2.1 = x := ⟨_, rfl⟩
              obtain ⟨re, hP3⟩ : ∃ x, (planR s l p).2.2 = x := ⟨_, rfl⟩
              have HPR : Hid (planR s l p = (P, u, re)) := by rw [Hid, ← hP1, ← hP2, ← hP3]
              rw [hP1] at hD hcap
              rw [hP2] at hE
              rw [hP1, hP2, hP3]
              clear hP1 hP2 hP3
              obtain ⟨nP, hnP⟩ : ∃ x, P.length = x := ⟨_, rfl⟩
              obtain ⟨nU, hnU⟩ : ∃ x, u.length = x := ⟨_, rfl⟩
              rw [hnP] at hD hcap
              rw [hnU] at hE
              rw [hnP, hnU]
              have HNP := Lib.hid hnP
              clear hnP hnU
              have HPD : Hid (∀ V, Below Va.heap.size Va V → Pls (fun _ => True) V PD nP P) := fun V hb => (hD.keep PlR.good (Keeps.below hb)).mono PlR.good (fun _ _ => trivial)
              have hPl := hD.le
              have H9a : Hid (Below V9.heap.size V9 Va) := c5
              have HBa : Hid (Below W.heap.size W Va) := bl_call HB9.out c5 (Nat.le_refl _)
              have H1a : Hid (Below V1.heap.size V1 Va) := bl_call H19.out c5 (Nat.le_refl _)
              clear hD hE c5
              obtain ⟨⟨c0, c1, c2, c3, c4⟩, ⟨x0, x1, x2⟩, y0, y1, y2, y3, y4⟩ := kk.out Va HBa.out
              go_wp2_with fail
              clear c0 c1 c2 c3 c4 x0 x1 x2 y0 y1 y2 y3 y4
              refine (rorder7_any Va (HG.out Va HBa.out) (HS.out Va H9a.out) (HPV.out Va H1a.out) h1 h2).mono ?_
              rintro e Vb ⟨rfl, c6⟩
              have Hab : Hid (Below Va.heap.size Va Vb) := c6
              have HBb : Hid (Below W.heap.size W Vb) := bl_call HBa.out c6 (Nat.le_refl _)
              have H9b : Hid (Below V9.heap.size V9 Vb) := bl_call H9a.out c6 (Nat.le_refl _)
              have H1b : Hid (Below V1.heap.size V1 Vb) := bl_call H1a.out c6 (Nat.le_refl _)
              clear c6
              by_cases h0 : orderE s l p = 0
              · rw [h0]
                have hpd := planned h0
                rw [HPR.out] at hpd
                clear h0
                rcases hpd with hpd | ⟨P2, u2, hpd, hlen, hnd, hall, hset, huse⟩
                · injection hpd with f1 hpd
                  injection hpd with f2 f3
                  subst f3
                  go_wp2_with fail
                  refine (awake5_any Vb).mono ?_
                  rintro e V98 ⟨rfl, c98⟩
                  have b98 := bl_call HBb.out c98 (Nat.le_refl _)
                  clear c98
                  go_wp2_with fail
                  refine (awake7_any V98).mono ?_
                  rintro e V99 ⟨rfl, c99⟩
                  have b99 := bl_call hBW (bl_call b98 c99 (Nat.le_refl _)) (Nat.le_refl _)
                  clear c99
                  go_wp2
                  go_ret
                  exact ⟨by rfl, b99⟩
                · injection hpd with f1 hpd
                  injection hpd with f2 f3
                  subst f1 f2 f3
                  have hnm : nP = k := by rw [← HNP.out, hlen, HPLN.out]
                  subst hnm
                  have HALL := Lib.hid hall
                  have HLEN := Lib.hid hlen
                  clear hlen hnd hall hset huse
                  have HMOK := Lib.hid (marks_ok HOK5.out HZIN.out HFB.out (off := (of : Int)) (by omega) HOK.out HTR.out HSI.out (P := P) (by rw [HPE.out]; exact HLEN.out) (fun i a hi => by rw [HPE.out]; exact (HALL.out i a hi).1))
                  have hmm : ((nP : Int) != (nP : Int)) = false := by simp
                  go_wp2_with fail
                  go_loopw [23, 24] (fun al i wr => ∃ (j cap2 : Nat) (A2 : Option Addr), j ≤ nP ∧ i = .int .i64 j ∧ al = .slice A2 j cap2 ∧ Hid (Below Vb.heap.size Vb wr) ∧ Hid (OwnL MarkR 3 (fun _ => False) wr Vb.heap.size 65 (.slice A2 j cap2) (marksK (of : Int) k0 tw P j))) (fun _ i _ => nP - (intOf i).toNat)
                  case atStart => exact ⟨0, 0, none, Nat.zero_le _, rfl, rfl, Below.refl _ _, OwnL.nil _ _ _ _ _ _⟩
                  case round =>
                    obtain ⟨wq, hwq⟩ : ∃ V, V = wr := ⟨_, rfl⟩
                    rw [← hwq] at hrel ⊢
                    clear hwq
                    obtain ⟨j, cap2, A2, hj, rfl, rfl, HBj, HOj⟩ := hrel
                    have Haj : Hid (Below Va.heap.size Va wq) := bl_call Hab.out HBj.out (Nat.le_refl _)
                    have H9j : Hid (Below V9.heap.size V9 wq) := bl_call H9b.out HBj.out (Nat.le_refl _)
                    have HBWj : Hid (Below W.heap.size W wq) := bl_call HBb.out HBj.out (Nat.le_refl _)
                    by_cases hlj : j < nP
                    · have hji : (j : Int) < nP := by omega
                      obtain ⟨bF, oF, ya, yb, hDe, _, d0, d1, HxF⟩ := Pls.get (HPD.out wq Haj.out) hlj
                      subst hDe
                      have hin := (HALL.out j _ HxF.out).1
                      have hfi := fit_in HOK.out hin
                      have HTH := Lib.hid (there_of HOK.out hfi.1 hfi.2)
                      have hyn : ya < n := by rw [← Hn.out]; exact hfi.1
                      have hcb := (castsN_bd HOK.out hfi.1).2.1
                      have hyc : yb ≤ 8 := by omega
                      have hnb := madeT_bd HOK.out HTR.out hfi.1 hyc
                      obtain ⟨nn, hnn⟩ : ∃ x, madeT k0 tw ya yb = x := ⟨_, rfl⟩
                      rw [hnn] at hnb
                      have HNN := Lib.hid hnn
                      clear hnn
                      obtain ⟨d2, hd2⟩ : ∃ d, nn - (of : Int) = d := ⟨_, rfl⟩
                      obtain ⟨d3, hd3⟩ : ∃ d, nn + (of : Int) = d := ⟨_, rfl⟩
                      have wd2 : IntKind.i64.wrap (nn - (of : Int)) = d2 := by rw [hd2, IntKind.wrap_i64]; omega
                      have wd3 : IntKind.i64.wrap (nn + (of : Int)) = d3 := by rw [hd3, IntKind.wrap_i64]; omega
                      have HMK : Hid (marksK (of : Int) k0 tw P (j + 1) = marksK (of : Int) k0 tw P j ++ [⟨(j : Int), max 0 d2, d3⟩]) := by
                        rw [Hid, marksK_succ, markO, markN, getD_of HxF.out]
                        dsimp only
                        rw [HNN.out, hd2, hd3]
                      have HCM : Hid (∀ V, Below wq.heap.size wq V → Calls Tryz.prog 16 #[.agg #[.int .i64 k0, .slice T n tc], .agg #[.int .i64 ya, .int .i64 yb]] V fun e w' => e = .returned (.int .i64 nn) ∧ Below V.heap.size V w') := fun V hb => by
                        have hmt : ya < tw.length := by rw [Htn.out]; exact hyn
                        have hx : tw[ya]? = some (tw[ya]) := List.getElem?_eq_getElem hmt
                        obtain ⟨p1, p2⟩ := HBD.out _ (List.getElem_mem hmt)
                        have := lmade7_any (tc := tc) (c := yb) V (HTV.out V (bl_call H9j.out hb (Nat.le_refl _))) (a := (tw[ya]).1) (v := (tw[ya]).2) hx p1 p2 hyc HKB.out
                        rw [show made7 (tw[ya]).1 (tw[ya]).2 (yb : Int) k0 = nn by rw [← HNN.out, madeT, getD_of hx]] at this
                        exact this
                      have ks : Hid (∀ V, Below wq.heap.size wq V → V.cell? ⟨gT, 0, none⟩ = some (.int .i64 k0) ∧ V.cell? ⟨gT, 1, none⟩ = some (.slice T n tc)) := fun V hb => ⟨(S4.out.bl (bl_call H9j.out hb (Nat.le_refl _))).cell 0, (S4.out.bl (bl_call H9j.out hb (Nat.le_refl _))).cell 1⟩
                      have kq : Hid (∀ V, Below wq.heap.size wq V → V.cell? ⟨bF, oF + j * 2, none⟩ = some (.int .i64 (ya : Int)) ∧ V.cell? ⟨bF, oF + j * 2 + 1, none⟩ = some (.int .i64 (yb : Int))) := fun V hb => ⟨getc hb d0, getc hb d1⟩
                      clear d0 d1 hin hfi hcb hd2 hd3
                      go_wp2_with fail
                      refine wp_frame5 ?_
                      intro a0 ha0
                      have tb4 : a0.tmps[4]? = some (.pointer (some ⟨w.heap.size + 1, 0, none⟩)) := by rw [ha0]; kernel_rfl
                      have tb20 : a0.tmps[20]? = some (.slice (some ⟨bF, oF, none⟩) nP kc) := by rw [ha0]; kernel_rfl
                      have tb24 : a0.tmps[24]? = some (.int .i64 (j : Int)) := by rw [ha0]; kernel_rfl
                      have hsz : a0.tmps.size = 214 := by rw [ha0]; kernel_rfl
                      refine wp_region_list (fun W => Below wq.heap.size wq W) (fun w w' => Below w.heap.size w w')
                        [isV (.agg #[.int .i64 klo, .int .i64 khi, .slice A n ca]), isV (.slice (some ⟨bF, oF, none⟩) nP kc), isV (.int .i64 (j : Int)), isV (.pointer (some ⟨bF, oF + j * 2, none⟩)), isV (.agg #[.int .i64 (ya : Int), .int .i64 (yb : Int)]), isV (.bool true), isV (.bool false)]
                        (by kernel_rfl) (by kernel_rfl) (by kernel_rfl) (by simp) (by simp) (Below.refl _ _).drew ?stabB ?stepB ?finB
                      case stabB => exact (StabL.is (StabL.is (StabL.is (StabL.is (StabL.is (StabL.is (StabL.is StabL.nil)))))))
                      case stepB =>
                        refine StepsL.isA ?_ (StepsL.isA ?_ (StepsL.isA ?_ (StepsL.isA ?_ (StepsL.isA ?_ (StepsL.isA ?_ (StepsL.isA ?_ StepsL.nil))))))
                        all_goals intro vs a W K ha hC hD hU hK
                        all_goals try rw [if_pos (by rfl)]
                        · have r4 := fb ha (by kernel_rfl) tb4
                          clear ha hU hD ha0
                          obtain ⟨⟨c0, c1, c2, c3, c4⟩, ⟨x0, x1, x2⟩, y0, y1, y2, y3, y4⟩ := kk.out W (bl_call HBWj.out hC (Nat.le_refl _))
                          obtain ⟨kf0, kf1⟩ := kq.out W hC
                          obtain ⟨kt0, kt1⟩ := ks.out W hC
                          go_simp
                          exact hK _ hC (Below.refl _ _)
                        · have r20 := fb ha (by kernel_rfl) tb20
                          clear ha hU hD ha0
                          go_simp
                          exact hK _ hC (Below.refl _ _)
                        · have r24 := fb ha (by kernel_rfl) tb24
                          clear ha hU hD ha0
                          go_simp
                          exact hK _ hC (Below.refl _ _)
                        · have r163 := fg 163 1 ha hsz (by kernel_rfl) (by decide)
                          have q1 : vs 1 = .slice (some ⟨bF, oF, none⟩) nP kc := hD 1 (by simp [waits, Region.binds])
                          rw [q1] at r163
                          have r164 := fq 164 2 ha hsz (by kernel_rfl) (by decide) (hD 2 (by simp [waits, Region.binds]))
                          clear ha hU hD ha0
                          go_simp
                          exact hK _ hC (Below.refl _ _)
                        · have r165 := fg 165 3 ha hsz (by kernel_rfl) (by decide)
                          have q3 : vs 3 = .pointer (some ⟨bF, oF + j * 2, none⟩) := hD 3 (by simp [waits, Region.binds])
                          rw [q3] at r165
                          clear ha hU hD ha0
                          obtain ⟨⟨c0, c1, c2, c3, c4⟩, ⟨x0, x1, x2⟩, y0, y1, y2, y3, y4⟩ := kk.out W (bl_call HBWj.out hC (Nat.le_refl _))
                          obtain ⟨kf0, kf1⟩ := kq.out W hC
                          obtain ⟨kt0, kt1⟩ := ks.out W hC
                          go_simp
                          exact hK _ hC (Below.refl _ _)
                        · have r162 := fg 162 0 ha hsz (by kernel_rfl) (by decide)
                          have q0 : vs 0 = .agg #[.int .i64 klo, .int .i64 khi, .slice A n ca] := hD 0 (by simp [waits, Region.binds])
                          rw [q0] at r162
                          have r166 := fq 166 4 ha hsz (by kernel_rfl) (by decide) (hD 4 (by simp [waits, Region.binds]))
                          clear ha hU hD ha0
                          go_simp
                          refine (rthere7_any (ya : Int) (yb : Int) HOK.out W (HG.out W (bl_call HBWj.out hC (Nat.le_refl _)))).mono ?_
                          rw [HTH.out]
                          rintro e w' ⟨rfl, hb⟩
                          exact hK _ (bl_call hC hb (Nat.le_refl _)) hb
                        · have r167 := fg 167 5 ha hsz (by kernel_rfl) (by decide)
                          have q5 : vs 5 = .bool true := hD 5 (by simp [waits, Region.binds])
                          rw [q5] at r167
                          clear ha hU hD ha0
                          go_simp
                          exact hK _ hC (Below.refl _ _)
                      case finB =>
                        refine Fin1.none (Nat.le_refl _) ?_
                        intro vs W a1 hC hE ha
                        have eL : vs 6 = .bool false := hE 6 (by simp)
                        rw [ha, ha0]
                        clear ha ha0 hsz tb4 tb20 tb24
                        simp only [fillA, Act.put, List.setIfInBounds_toArray, List.set_cons_zero, List.set_cons_succ, Nat.zero_add, Nat.reduceAdd, eL]
                        generalize vs 0 = u0, vs 1 = u1, vs 2 = u2, vs 3 = u3, vs 4 = u4, vs 5 = u5
                        have H31 : Hid (Below wq.heap.size wq W) := hC
                        clear hE eL hC
                        obtain ⟨wt, hwt⟩ : ∃ V, V = W := ⟨_, rfl⟩
                        rw [← hwt] at H31 ⊢
                        clear hwt
                        go_wp2_with fail
                        refine wp_frame5 ?_
                        intro a0 ha0
                        have tb18 : a0.tmps[18]? = some (.pointer (some ⟨gT, 0, none⟩)) := by rw [ha0]; kernel_rfl
                        have tb20 : a0.tmps[20]? = some (.slice (some ⟨bF, oF, none⟩) nP kc) := by rw [ha0]; kernel_rfl
                        have tb24 : a0.tmps[24]? = some (.int .i64 (j : Int)) := by rw [ha0]; kernel_rfl
                        have hsz : a0.tmps.size = 214 := by rw [ha0]; kernel_rfl
                        refine wp_region_list (fun W => Below wt.heap.size wt W) (fun w w' => Below w.heap.size w w')
                          [isV (.agg #[.int .i64 k0, .slice T n tc]), isV (.slice (some ⟨bF, oF, none⟩) nP kc), isV (.int .i64 (j : Int)), isV (.pointer (some ⟨bF, oF + j * 2, none⟩)), isV (.agg #[.int .i64 (ya : Int), .int .i64 (yb : Int)]), isV (.int .i64 nn)]
                          (by kernel_rfl) (by kernel_rfl) (by kernel_rfl) (by simp) (by simp) (Below.refl _ _).drew ?stabC ?stepC ?finC
                        case stabC => exact (StabL.is (StabL.is (StabL.is (StabL.is (StabL.is (StabL.is StabL.nil))))))
                        case stepC =>
                          refine StepsL.isA ?_ (StepsL.isA ?_ (StepsL.isA ?_ (StepsL.isA ?_ (StepsL.isA ?_ (StepsL.isA ?_ StepsL.nil)))))
                          all_goals intro vs a W K ha hC hD hU hK
                          all_goals try rw [if_pos (by rfl)]
                          · have r18 := fb ha (by kernel_rfl) tb18
                            clear ha hU hD ha0
                            obtain ⟨kf0, kf1⟩ := kq.out W (bl_call H31.out hC (Nat.le_refl _))
                            obtain ⟨kt0, kt1⟩ := ks.out W (bl_call H31.out hC (Nat.le_refl _))
                            go_simp
                            exact hK _ hC (Below.refl _ _)
                          · have r20 := fb ha (by kernel_rfl) tb20
                            clear ha hU hD ha0
                            go_simp
                            exact hK _ hC (Below.refl _ _)
                          · have r24 := fb ha (by kernel_rfl) tb24
                            clear ha hU hD ha0
                            go_simp
                            exact hK _ hC (Below.refl _ _)
                          · have r170 := fg 170 1 ha hsz (by kernel_rfl) (by decide)
                            have q1 : vs 1 = .slice (some ⟨bF, oF, none⟩) nP kc := hD 1 (by simp [waits, Region.binds])
                            rw [q1] at r170
                            have r171 := fq 171 2 ha hsz (by kernel_rfl) (by decide) (hD 2 (by simp [waits, Region.binds]))
                            clear ha hU hD ha0
                            go_simp
                            exact hK _ hC (Below.refl _ _)
                          · have r172 := fg 172 3 ha hsz (by kernel_rfl) (by decide)
                            have q3 : vs 3 = .pointer (some ⟨bF, oF + j * 2, none⟩) := hD 3 (by simp [waits, Region.binds])
                            rw [q3] at r172
                            clear ha hU hD ha0
                            obtain ⟨kf0, kf1⟩ := kq.out W (bl_call H31.out hC (Nat.le_refl _))
                            obtain ⟨kt0, kt1⟩ := ks.out W (bl_call H31.out hC (Nat.le_refl _))
                            go_simp
                            exact hK _ hC (Below.refl _ _)
                          · have r169 := fg 169 0 ha hsz (by kernel_rfl) (by decide)
                            have q0 : vs 0 = .agg #[.int .i64 k0, .slice T n tc] := hD 0 (by simp [waits, Region.binds])
                            rw [q0] at r169
                            have r173 := fq 173 4 ha hsz (by kernel_rfl) (by decide) (hD 4 (by simp [waits, Region.binds]))
                            clear ha hU hD ha0
                            go_simp
                            refine (HCM.out W (bl_call H31.out hC (Nat.le_refl _))).mono ?_
                            rintro e w' ⟨rfl, hb⟩
                            exact hK _ (bl_call hC hb (Nat.le_refl _)) hb
                        case finC =>
                          intro vs W hC hE hU
                          rw [ha0]
                          clear hU hsz tb18 tb20 tb24
                          have e31 : vs 5 = .int .i64 nn := hE 5 (by simp)
                          simp only [fillA, Act.put, List.setIfInBounds_toArray, List.set_cons_zero, List.set_cons_succ, Nat.zero_add, Nat.reduceAdd, e31]
                          generalize vs 0 = u0, vs 1 = u1, vs 2 = u2, vs 3 = u3, vs 4 = u4
                          have HCW : Hid (Below wq.heap.size wq W) := bl_call H31.out hC (Nat.le_refl _)
                          clear hE e31 hC
                          have HOW : Hid (OwnL MarkR 3 (fun _ => False) W Vb.heap.size 65 (.slice A2 j cap2) (marksK (of : Int) k0 tw P j)) := HOj.out.below MarkR.good HCW.out
                          have hmx := max_if 0 d2
                          have hsz1 := HCW.out.size
                          have hsz2 := HBj.out.size
                          go_simp
                          go_wp2_with (at_builtin; refine wpList_append_n _ rfl (.tmp 175) (.tmp 186) _ rfl MarkR.good Vb.heap.size 65 iM _ 24 Tryz.underlying59 hiM hzM0 hzM1 hzM2 rfl (by omega) (.slice A2 j cap2) (marksK (of : Int) k0 tw P j) ⟨(j : Int), max 0 d2, d3⟩ j (marksK_len _ _ _ _ _) rfl (HOW.out.alloc MarkR.good _) ⟨_, 0, none⟩ 1 [.int .i64 (j : Int), .int .i64 (max 0 d2), .int .i64 d3] rfl rfl (news_new rfl rfl) ?c1 ?c2 ?c3 (fun h => h) ?_)
                          case c1 => simp only [maxLen]; omega
                          case c2 => omega
                          case c3 => simp; omega
                          intro A9 cap9 w9 hown9 hg9 hat9
                          have HB9z : Hid (Below Vb.heap.size Vb w9) := bl_grown (bl_alloc (bl_call HBj.out HCW.out (Nat.le_refl _)) _ (Nat.le_refl _)) (HOW.out.alloc MarkR.good _) hg9 (Nat.le_refl _) (Nat.le_refl _)
                          have HO9 : Hid (OwnL MarkR 3 (fun _ => False) w9 Vb.heap.size 65 (.slice (some ⟨A9, 0, none⟩) (j + 1) cap9) (marksK (of : Int) k0 tw P (j + 1))) := by rw [Hid, HMK.out]; exact hown9
                          clear hown9 hg9 hat9
                          go_wp2_with fail
                          go_roundw
                          case rel => exact ⟨j + 1, cap9, some ⟨A9, 0, none⟩, by omega, by go_num, by simp, HB9z, HO9⟩
                          case measure => simp [intOf]; omega
                    · obtain rfl : j = nP := by omega
                      have hMs : Marks (fun _ => True) wq A2 j (marksK (of : Int) k0 tw P j) := HOj.out.slice (T := fun _ => True) MarkR.good rfl (by simp only [maxLen]; omega) (fun _ h => h.elim) (fun _ _ _ => trivial)
                      have hMO := HMOK.out
                      rw [HNP.out] at hMO
                      have HMO := Lib.hid hMO
                      have hji : ¬ (j : Int) < j := by omega
                      obtain ⟨⟨c0, c1, c2, c3, c4⟩, ⟨x0, x1, x2⟩, y0, y1, y2, y3, y4⟩ := kk.out wq HBWj.out
                      clear hMO
                      have HMS := Lib.hid hMs
                      clear hMs
                      go_wp2_with fail
                      clear c0 c1 c2 c3 c4 x0 x1 x2 y0 y1 y2 y3 y4
                      refine (sScales_any HOK5.out HMO.out.1 wq (HC.out wq HBWj.out) HMS.out e1 e2 e3).mono ?_
                      rintro e Vd ⟨⟨LA, kL, lc, rfl, hL⟩, c9⟩
                      have HLD : Hid (∀ V, Below Vd.heap.size Vd V → Pls (fun _ => True) V LA kL (scalesN.filter (agreeZ c (marksK (of : Int) k0 tw P j)))) := fun V hb => hL.keep PlR.good (Keeps.below hb)
                      have HLL : Hid ((scalesN.filter (agreeZ c (marksK (of : Int) k0 tw P j))).length = kL) := hL.len
                      have hLl := hL.le
                      have HBd : Hid (Below W.heap.size W Vd) := bl_call HBWj.out c9 (Nat.le_refl _)
                      have H4d : Hid (Below V4.heap.size V4 Vd) := bl_call (bl_call HZ1.out (bl_call H1b.out HBj.out (Nat.le_refl _)) (Nat.le_refl _)) c9 (Nat.le_refl _)
                      clear hL c9
                      obtain ⟨LL, hLL⟩ : ∃ x, scalesN.filter (agreeZ c (marksK (of : Int) k0 tw P j)) = x := ⟨_, rfl⟩
                      have HZL : Hid ((za, zb) ∈ LL) := by rw [Hid, ← hLL]; exact HMO.out.2
                      rw [hLL] at HLD HLL
                      clear hLL
                      go_wp2_with fail
                      go_loopw [28] (fun i wr => ∃ i9 : Nat, i9 ≤ kL ∧ i = .int .i64 i9 ∧ Hid (Below Vd.heap.size Vd wr) ∧ Hid ((za, zb) ∉ LL.take i9)) (fun i _ => kL - (intOf i).toNat)
                      case atStart => exact ⟨0, Nat.zero_le _, rfl, Below.refl _ _, by simp [Hid]⟩
                      case round =>
                        obtain ⟨we, hwe⟩ : ∃ V, V = wr := ⟨_, rfl⟩
                        rw [← hwe] at hrel ⊢
                        clear hwe
                        obtain ⟨i9, hi9, rfl, HBi, HNi⟩ := hrel
                        by_cases hli : i9 < kL
                        · have hii : (i9 : Int) < kL := by omega
                          obtain ⟨bL, oL, la, lb, hLe, _, d0, d1, HxL⟩ := Pls.get (HLD.out we HBi.out) hli
                          subst hLe
                          obtain ⟨z0, z1⟩ := kz.out we (bl_call H4d.out HBi.out (Nat.le_refl _))
                          have HBWi : Hid (∀ q, Below W.heap.size W (we.drewN q)) := fun q => bl_drewN (bl_call HBd.out HBi.out (Nat.le_refl _)) q
                          have HBiq : Hid (∀ q, Below Vd.heap.size Vd (we.drewN q)) := fun q => bl_drewN HBi.out q
                          by_cases hab : la = za
                          · by_cases hbb : lb = zb
                            · subst hab hbb
                              go_wp2_with fail
                              go_quiet (fail)
                              clear z0 z1 d0 d1
                              go_wp2_with fail
                              have HBQ := Lib.hid (HBWi.out nq)
                              refine (awake5_any _).mono ?_
                              rintro e V98 ⟨rfl, c98⟩
                              have b98 := bl_call HBQ.out c98 (Nat.le_refl _)
                              clear c98
                              go_wp2_with fail
                              refine (awake7_any V98).mono ?_
                              rintro e V99 ⟨rfl, c99⟩
                              have b99 := bl_call hBW (bl_call b98 c99 (Nat.le_refl _)) (Nat.le_refl _)
                              clear c99
                              go_wp2
                              go_ret
                              exact ⟨by rfl, b99⟩
                            · have HN2 : Hid ((za, zb) ∉ LL.take (i9 + 1)) := by
                                rw [Hid, take_snoc_get HxL.out, List.mem_append, List.mem_singleton]
                                rintro (h | h)
                                · exact HNi.out h
                                · exact hbb (congrArg Prod.snd h).symm
                              have hmb : ¬ (lb : Int) = (zb : Int) := by omega
                              go_wp2_with fail
                              go_quiet (fail)
                              clear z0 z1 d0 d1
                              go_wp2_with fail
                              go_roundw
                              case rel => exact ⟨i9 + 1, by omega, by go_num, HBiq.out _, HN2⟩
                              case measure => simp [intOf]; omega
                          · have HN2 : Hid ((za, zb) ∉ LL.take (i9 + 1)) := by
                              rw [Hid, take_snoc_get HxL.out, List.mem_append, List.mem_singleton]
                              rintro (h | h)
                              · exact HNi.out h
                              · exact hab (congrArg Prod.fst h).symm
                            have hmb : ¬ (la : Int) = (za : Int) := by omega
                            go_wp2_with fail
                            go_quiet (fail)
                            clear z0 z1 d0 d1
                            go_wp2_with fail
                            go_roundw
                            case rel => exact ⟨i9 + 1, by omega, by go_num, HBiq.out _, HN2⟩
                            case measure => simp [intOf]; omega
                        · have h := HNi.out
                          rw [List.take_of_length_le (by rw [HLL.out]; omega)] at h
                          exact absurd HZL.out h
              · have hR := HPR.out
                rw [planR_bad h0] at hR
                injection hR with f1 hR
                injection hR with f2 f3
                rw [f3] at h0 ⊢
                have hvb : (re != 0) = true := by simpa using h0
                have hvv : (re == re) = true := by simp
                clear f1 f2 f3 h0
                go_wp2_with fail
                refine (awake5_any Vb).mono ?_
                rintro e V98 ⟨rfl, c98⟩
                have b98 := bl_call HBb.out c98 (Nat.le_refl _)
                clear c98
                go_wp2_with fail
                refine (awake7_any V98).mono ?_
                rintro e V99 ⟨rfl, c99⟩
                have b99 := bl_call hBW (bl_call b98 c99 (Nat.le_refl _)) (Nat.le_refl _)
                clear c99
                go_wp2
                go_ret
                exact ⟨by rfl, b99⟩
            )
    · have hvb : (z7 != 0) = true := by simpa using he7
      go_wp2_with fail
      clear z0 z1
      clear c0 c1 c2 c3 c4 x0 x1 x2 y0 y1 y2 y3 y4
      refine (awake5_any V4).mono ?_
      rintro e V98 ⟨rfl, c98⟩
      have b98 := bl_call HB4.out c98 (Nat.le_refl _)
      clear c98
      go_wp2_with fail
      refine (awake7_any V98).mono ?_
      rintro e V99 ⟨rfl, c99⟩
      have b99 := bl_call hBW (bl_call b98 c99 (Nat.le_refl _)) (Nat.le_refl _)
      clear c99
      go_wp2
      go_ret
      exact ⟨by rfl, b99⟩
  · have hvb : (z5 != 0) = true := by simpa using he5
    go_wp2_with fail
    clear z0 z1
    clear c0 c1 c2 c3 c4 x0 x1 x2 y0 y1 y2 y3 y4
    refine (awake5_any V4).mono ?_
    rintro e V98 ⟨rfl, c98⟩
    have b98 := bl_call HB4.out c98 (Nat.le_refl _)
    clear c98
    go_wp2_with fail
    refine (awake7_any V98).mono ?_
    rintro e V99 ⟨rfl, c99⟩
    have b99 := bl_call hBW (bl_call b98 c99 (Nat.le_refl _)) (Nat.le_refl _)
    clear c99
    go_wp2
    go_ret
    exact ⟨by rfl, b99⟩
end Go.Proofs.YtcnebekkbfajbaaGreat
