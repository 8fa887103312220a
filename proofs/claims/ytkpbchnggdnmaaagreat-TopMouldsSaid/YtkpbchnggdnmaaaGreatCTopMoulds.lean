/- A part of the proof that TopMoulds always answers true. -/
import Derived.Test.YtkpbchnggdnmaaaGreatCKLaw4
import Derived.Test.YtkpbchnggdnmaaaGreatCKPlanC
import Derived.Test.YtkpbchnggdnmaaaGreatCKRefC
import Derived.Test.YtkpbchnggdnmaaaGreatCOrAwake
import Derived.Test.YtkpbchnggdnmaaaGreatCOrTopP
set_option linter.all false
namespace Go.Proofs.YtkpbchnggdnmaaaGreat
open Go.RowKit Go.Shelf
def SlO (xs : List Int) (v : Value) (W : World) : Prop := ∃ A n c, v = .slice A n c ∧ Ints (fun _ => True) W A n xs
theorem SlO.bl {xs : List Int} {v : Value} {W V : World} (h : SlO xs v W) (hb : Below W.heap.size W V) : SlO xs v V := by
 obtain ⟨A, n, c, h1, h2⟩ := h
 exact ⟨A, n, c, h1, h2.keep IntR.good (Keeps.below hb)⟩
def SlP11 (n : Nat) (xs : List Int) (v : Value) (W : World) : Prop := ∃ A c, v = .slice A n c ∧ Ints (fun _ => True) W A n xs
theorem SlP11.bl {n : Nat} {xs : List Int} {v : Value} {W V : World} (h : SlP11 n xs v W) (hb : Below W.heap.size W V) : SlP11 n xs v V := by
 obtain ⟨A, c, h1, h2⟩ := h
 exact ⟨A, c, h1, h2.keep IntR.good (Keeps.below hb)⟩
def NeO (n : Nat) (xs : List Int) (v : Value) (W : World) : Prop := ∃ A c, v = .tuple #[.slice A n c, .int .i64 0] ∧ Ints (fun _ => True) W A n xs
theorem NeO.bl {n : Nat} {xs : List Int} {v : Value} {W V : World} (h : NeO n xs v W) (hb : Below W.heap.size W V) : NeO n xs v V := by
 obtain ⟨A, c, h1, h2⟩ := h
 exact ⟨A, c, h1, h2.keep IntR.good (Keeps.below hb)⟩
theorem infoSpan11 : (Tryz.prog.info? 23).map (fun i => (i.zero, i.size, i.bytes)) = some (some (.agg #[.int .i64 0, .int .i64 0]), 2, 16) := by kernel_rfl
set_option maxRecDepth 100000 in
set_option maxHeartbeats 16000000 in
theorem topMoulds_any {s : Shop} {so : Shop11} {A H P Q : Option Addr} {n ca hn hc pn pc on oc bits : Nat} {klo khi : Int} (w : World) (g : Moulds (fun _ => True) w A n s.moulds) (go : ShopO (fun _ => True) w H hn P pn Q on so) (hca : n ≤ ca) (hpc : pn ≤ pc) (hbits : bits < 256) (h1 : s.klo = klo) (h2 : s.khi = khi) :
    Calls Tryz.prog 3 #[.agg #[.int .i64 klo, .int .i64 khi, .slice A n ca], .agg #[.slice H hn hc, .slice P pn pc, .slice Q on oc], .int .u8 (bits : Int)] w fun e w' => e = .returned (.bool true) ∧ Below w.heap.size w w' := by
  obtain ⟨gS, hgS⟩ : ∃ q, w.heap.size = q := ⟨_, rfl⟩
  obtain ⟨gO, hgO⟩ : ∃ q, gS + 1 = q := ⟨_, rfl⟩
  obtain ⟨W, hW⟩ : ∃ W, (w.alloc (.cells #[.int .i64 klo, .int .i64 khi, .slice A n ca] 26)).alloc (.cells #[.slice H hn hc, .slice P pn pc, .slice Q on oc] 31) = W := ⟨_, rfl⟩
  have X : Blk W gS 26 #[.int .i64 klo, .int .i64 khi, .slice A n ca] := by rw [← hW]; exact (Blk.new _ _ _ hgS.symm).alloc _
  have Y : Blk W gO 31 #[.slice H hn hc, .slice P pn pc, .slice Q on oc] := by rw [← hW]; exact Blk.new _ _ _ (by simp [hgS, hgO])
  have hBW : Below w.heap.size w W := by rw [← hW]; exact bl_alloc (bl_alloc (Below.refl _ _) _ (Nat.le_refl _)) _ (Nat.le_refl _)
  have HBW : Hid (Below w.heap.size w W) := hBW
  have HG : Hid (∀ V, Below W.heap.size W V → Moulds (fun _ => True) V A n s.moulds) := fun V hb => (g.keep MouldR.good (Keeps.below hBW)).keep MouldR.good (Keeps.below hb)
  have HOO : Hid (∀ V, Below W.heap.size W V → ShopO (fun _ => True) V H hn P pn Q on so) := fun V hb => (go.bl hBW).bl hb
  have kk : Hid (∀ V, Below W.heap.size W V → (V.cell? ⟨gS, 0, none⟩ = some (.int .i64 klo) ∧ V.cell? ⟨gS, 1, none⟩ = some (.int .i64 khi) ∧ V.cell? ⟨gS, 2, none⟩ = some (.slice A n ca)) ∧ (V.cell? ⟨gO, 0, none⟩ = some (.slice H hn hc) ∧ V.cell? ⟨gO, 1, none⟩ = some (.slice P pn pc) ∧ V.cell? ⟨gO, 2, none⟩ = some (.slice Q on oc))) :=
    fun V hb => ⟨⟨(X.bl hb).cell 0, (X.bl hb).cell 1, (X.bl hb).cell 2⟩, ⟨(Y.bl hb).cell 0, (Y.bl hb).cell 1, (Y.bl hb).cell 2⟩⟩
  have Hn := Lib.hid g.len
  have hnl := g.le
  have HPN := Lib.hid go.ps.len
  have HON := Lib.hid go.os.len
  have hpl := go.ps.le
  have hol := go.os.le
  clear X Y g go hBW
  obtain ⟨⟨x0, x1, x2⟩, ⟨y0, y1, y2⟩⟩ := kk.out W (Below.refl _ _)
  go_enter Tryz.func3, Tryz.ntmps3
  go_wp2_with fail
  clear hW hgS hgO
  clear x0 x1 x2 y0 y1 y2
  refine (rcheck7_any W (HG.out W (Below.refl _ _)) h1 h2).mono ?_
  rintro e V1 ⟨rfl, b1⟩
  obtain ⟨q7, hq7⟩ : ∃ x, (check7 s).1 = x := ⟨_, rfl⟩
  obtain ⟨r7, hr7⟩ : ∃ x, (check7 s).2.1 = x := ⟨_, rfl⟩
  obtain ⟨z7, hz7⟩ : ∃ x, (check7 s).2.2 = x := ⟨_, rfl⟩
  rw [hq7, hr7, hz7]
  have HZ7 := Lib.hid hz7
  clear hq7 hr7 hz7
  obtain ⟨⟨x0, x1, x2⟩, ⟨y0, y1, y2⟩⟩ := kk.out V1 b1
  go_wp2_with fail
  clear x0 x1 x2 y0 y1 y2
  refine (rcheck11_any V1 (HOO.out V1 b1)).mono ?_
  rintro e V2 ⟨⟨p5, a5, z5, rfl, hz5⟩, c2⟩
  have HZ5 := Lib.hid hz5
  have HB2 : Hid (Below W.heap.size W V2) := bl_call b1 c2 (Nat.le_refl _)
  clear hz5 c2 b1
  obtain ⟨⟨x0, x1, x2⟩, ⟨y0, y1, y2⟩⟩ := kk.out V2 HB2.out
  by_cases he7 : z7 = 0
  · have HE : Hid ((check7 s).2.2 = 0) := HZ7.out.trans he7
    subst he7
    by_cases he5 : z5 = 0
    · have HOK11 : Hid (Ok11 so) := HZ5.out he5
      subst he5
      by_cases hle : pn ≤ n
      · have hnlt : ¬ (n : Int) < pn := by omega
        have hon8 : on ≤ 8 := by have := HOK11.out.no; have := HON.out; omega
        have hpn3 : 1 ≤ pn ∧ pn ≤ 3 := by have := HOK11.out.np; have := HPN.out; omega
        have HTK : Hid (TakenOk so (choO bits on)) := by
          have h := choO_ok bits on
          exact ⟨fun i hi => by have := h.1 i hi; have := HON.out; omega, h.2⟩
        have HLO := Lib.hid (ords_ok HOK11.out HTK.out)
        have HL9 := Lib.hid (ords_len HOK11.out HTK.out)
        have hok := okS_of HE.out
        have HOK := Lib.hid hok
        clear hok
        go_wp2_with fail
        clear x0 x1 x2 y0 y1 y2
        refine wp_frameT ?_
        intro a0 ha0
        have tb2 : a0.tmps[2]? = some (.int .u8 (bits : Int)) := by rw [ha0]; kernel_rfl
        have tb4 : a0.tmps[4]? = some (.pointer (some ⟨gO, 0, none⟩)) := by rw [ha0]; kernel_rfl
        have hsz : a0.tmps.size = 193 := by rw [ha0]; kernel_rfl
        refine wp_region_list (fun W => Below V2.heap.size V2 W) (fun w w' => Below w.heap.size w w')
          [isV (.agg #[.slice H hn hc, .slice P pn pc, .slice Q on oc]), isV (.agg #[.slice H hn hc, .slice P pn pc, .slice Q on oc]), isV (.int .u8 (bits : Int)), SlO (choO bits on), NeO pn (neededR so (ordsL so (choO bits on))), NeO pn (neededR so (ordsL so (choO bits on))), SlP11 pn (neededR so (ordsL so (choO bits on))), isV (.int .i64 0), SlP11 pn (neededR so (ordsL so (choO bits on))), isV (.int .i64 0)]
          (by kernel_rfl) (by kernel_rfl) (by kernel_rfl) (by simp) (by simp) (Below.refl _ _).drew ?stab5 ?step5 ?fin5
        case stab5 => exact (StabL.is (StabL.is (StabL.is (StabL.cons (fun v W V hC hX h => h.bl hX) (StabL.cons (fun v W V hC hX h => h.bl hX) (StabL.cons (fun v W V hC hX h => h.bl hX) (StabL.cons (fun v W V hC hX h => h.bl hX) (StabL.is (StabL.cons (fun v W V hC hX h => h.bl hX) (StabL.is StabL.nil))))))))))
        case step5 =>
          refine StepsL.isA ?_ (StepsL.isA ?_ (StepsL.isA ?_ (StepsL.consA ?_ (StepsL.consA ?_ (StepsL.consA ?_ (StepsL.consA ?_ (StepsL.isA ?_ (StepsL.consA ?_ (StepsL.isA ?_ StepsL.nil)))))))))
          all_goals intro vs a W K ha hC hD hU hK
          all_goals try rw [if_pos (by rfl)]
          · have r4 := fb ha (by kernel_rfl) tb4
            clear ha hU hD ha0
            obtain ⟨⟨x0, x1, x2⟩, ⟨y0, y1, y2⟩⟩ := kk.out W (bl_call HB2.out hC (Nat.le_refl _))
            go_simp
            exact hK _ hC (Below.refl _ _)
          · have r4 := fb ha (by kernel_rfl) tb4
            clear ha hU hD ha0
            obtain ⟨⟨x0, x1, x2⟩, ⟨y0, y1, y2⟩⟩ := kk.out W (bl_call HB2.out hC (Nat.le_refl _))
            go_simp
            exact hK _ hC (Below.refl _ _)
          · have r2 := fb ha (by kernel_rfl) tb2
            clear ha hU hD ha0
            go_simp
            exact hK _ hC (Below.refl _ _)
          · have r56 := fg 56 1 ha hsz (by kernel_rfl) (by decide)
            have q1 : vs 1 = .agg #[.slice H hn hc, .slice P pn pc, .slice Q on oc] := hD 1 (by simp [waits, Region.binds])
            rw [q1] at r56
            have r57 := fq 57 2 ha hsz (by kernel_rfl) (by decide) (hD 2 (by simp [waits, Region.binds]))
            clear ha hU hD ha0
            go_simp
            refine (ochosen_any W hon8 hbits).mono ?_
            rintro e w' ⟨⟨A', n', c', rfl, hI⟩, hb⟩
            exact hK _ _ (bl_call hC hb (Nat.le_refl _)) hb ⟨_, _, _, rfl, hI⟩
          · have r55 := fg 55 0 ha hsz (by kernel_rfl) (by decide)
            have q0 : vs 0 = .agg #[.slice H hn hc, .slice P pn pc, .slice Q on oc] := hD 0 (by simp [waits, Region.binds])
            rw [q0] at r55
            have r58 := fg 58 3 ha hsz (by kernel_rfl) (by decide)
            have P3 : SlO (choO bits on) (vs 3) W := hD 3 (by simp [waits, Region.binds])
            obtain ⟨A58, n58, c58, e58, hI58⟩ := P3
            rw [e58] at r58
            clear ha hU hD ha0
            go_simp
            refine (oneeded_any HOK11.out hpc HTK.out W (HOO.out W (bl_call HB2.out hC (Nat.le_refl _))) hI58).mono ?_
            rintro e w' ⟨⟨A', c', rfl, hI⟩, hb⟩
            exact hK _ _ (bl_call hC hb (Nat.le_refl _)) hb ⟨_, _, rfl, hI⟩
          · have r59 := fg 59 4 ha hsz (by kernel_rfl) (by decide)
            have P4 : NeO pn (neededR so (ordsL so (choO bits on))) (vs 4) W := hD 4 (by simp [waits, Region.binds])
            obtain ⟨A59, c59, e59, hI59⟩ := P4
            rw [e59] at r59
            clear ha hU hD ha0
            go_simp
            exact hK _ _ hC (Below.refl _ _) ⟨_, _, rfl, hI59⟩
          · have r54 := fg 54 5 ha hsz (by kernel_rfl) (by decide)
            have P5 : NeO pn (neededR so (ordsL so (choO bits on))) (vs 5) W := hD 5 (by simp [waits, Region.binds])
            obtain ⟨A54, c54, e54, hI54⟩ := P5
            rw [e54] at r54
            clear ha hU hD ha0
            go_simp
            exact hK _ _ hC (Below.refl _ _) ⟨_, _, rfl, hI54⟩
          · have r54 := fg 54 5 ha hsz (by kernel_rfl) (by decide)
            have P5 : NeO pn (neededR so (ordsL so (choO bits on))) (vs 5) W := hD 5 (by simp [waits, Region.binds])
            obtain ⟨A54, c54, e54, hI54⟩ := P5
            rw [e54] at r54
            clear ha hU hD ha0
            go_simp
            exact hK _ hC (Below.refl _ _)
          · have r60 := fg 60 6 ha hsz (by kernel_rfl) (by decide)
            have P6 : SlP11 pn (neededR so (ordsL so (choO bits on))) (vs 6) W := hD 6 (by simp [waits, Region.binds])
            obtain ⟨A60, c60, e60, hI60⟩ := P6
            rw [e60] at r60
            clear ha hU hD ha0
            go_simp
            exact hK _ _ hC (Below.refl _ _) ⟨_, _, rfl, hI60⟩
          · have r61 := fg 61 7 ha hsz (by kernel_rfl) (by decide)
            have q7 : vs 7 = .int .i64 0 := hD 7 (by simp [waits, Region.binds])
            rw [q7] at r61
            clear ha hU hD ha0
            go_simp
            exact hK _ hC (Below.refl _ _)
        case fin5 =>
          refine Fin1.none (Nat.le_refl _) ?_
          intro vs W a1 hC hE ha
          have E8 : SlP11 pn (neededR so (ordsL so (choO bits on))) (vs 8) W := hE 8 (by simp)
          obtain ⟨NA, nc, e8, hN⟩ := E8
          have e9 : vs 9 = .int .i64 0 := hE 9 (by simp)
          rw [ha, ha0]
          clear ha ha0 hsz tb2 tb4
          simp only [fillA, Act.put, List.setIfInBounds_toArray, List.set_cons_zero, List.set_cons_succ, Nat.zero_add, Nat.reduceAdd, e8, e9]
          generalize vs 0 = u0, vs 1 = u1, vs 2 = u2, vs 3 = u3, vs 4 = u4, vs 5 = u5, vs 6 = u6, vs 7 = u7
          have HB3a := bl_call HB2.out hC (Nat.le_refl _)
          have HNI : Hid (∀ V, Below W.heap.size W V → Ints (fun _ => True) V NA pn (neededR so (ordsL so (choO bits on)))) := fun V hb => hN.keep IntR.good (Keeps.below hb)
          have HB3c := Lib.hid HB3a
          clear hE hC e8 e9 hN HB3a
          obtain ⟨V3, hV3⟩ : ∃ V, V = W := ⟨_, rfl⟩
          subst hV3
          obtain ⟨⟨x0, x1, x2⟩, ⟨y0, y1, y2⟩⟩ := kk.out V3 HB3c.out
          have hpp : ((pn : Int) != (pn : Int)) = false := by simp
          go_simp
          go_wp2_with fail
          clear x0 x1 x2 y0 y1 y2
          obtain ⟨iS, hiS, hzS0, hzS1, hzS2⟩ := info_parts infoSpan11
          have HNG : Hid (∀ k, k < pn → (neededR so (ordsL so (choO bits on)))[k]? = some (((needN so (ordsL so (choO bits on))).getD k 0 : Nat) : Int) ∧ (needN so (ordsL so (choO bits on))).getD k 0 ≤ 460) := fun k hk => needN_get HOK11.out HLO.out HL9.out (by rw [HPN.out]; exact hk)
          have HNDL : Hid ((needN so (ordsL so (choO bits on))).length = pn) := (needN_len HOK11.out _).trans HPN.out
          obtain ⟨nd, hnd⟩ : ∃ x, (needN so (ordsL so (choO bits on))) = x := ⟨_, rfl⟩
          rw [hnd] at HNG HNDL
          clear hnd
          go_loopw [14, 15, 16] (fun al pv i wr => ∃ (k len cap pk : Nat) (An : Option Addr), k ≤ pn ∧ i = .int .i64 k ∧ pv = .int .i64 pk ∧ al = .slice An len cap ∧ Hid (pk = partsI nd k) ∧ Hid (Below V3.heap.size V3 wr) ∧ Hid (OwnL PairR 2 (fun _ => False) wr V3.heap.size 23 (.slice An len cap) (piecesI s nd k)) ∧ Hid ((piecesI s nd k).length = len) ∧ Hid (∀ i, i < k → nd.getD i 0 ≤ castsN s i ∧ (allZ s i).2 ≤ 20000)) (fun _ _ i _ => pn - (intOf i).toNat)
          case atStart => exact ⟨0, 0, 0, 0, none, Nat.zero_le _, rfl, rfl, rfl, rfl, Below.refl _ _, OwnL.nil _ _ _ _ _ _, rfl, fun i h => by omega⟩
          case round =>
            obtain ⟨wo, hwo⟩ : ∃ V, V = wr := ⟨_, rfl⟩
            rw [← hwo] at hrel ⊢
            clear hwo
            obtain ⟨k, len, cap, pk, An, hk, rfl, rfl, rfl, HPK, HBr, HOr, HLr, HCr⟩ := hrel
            have HBWo : Hid (Below W.heap.size W wo) := bl_call HB3c.out HBr.out (Nat.le_refl _)
            by_cases hlt : k < pn
            · have hki : (k : Int) < pn := by omega
              have hkn : k < n := by omega
              have hkni : (k : Int) < n := by omega
              obtain ⟨bN, oN, xv, hNAe, _, hx0⟩ := Ints.get (HNI.out wo HBr.out) hlt
              subst hNAe
              obtain ⟨x0n, hx0n⟩ : ∃ q, nd.getD k 0 = q := ⟨_, rfl⟩
              have hng := HNG.out k hlt
              rw [hx0n] at hng
              have hxv : xv = (x0n : Int) := by have h := hx0.out.symm.trans hng.1; injection h
              subst hxv
              have HX0 := Lib.hid hx0n
              have hx460 := hng.2
              have kN : Hid (∀ V, Below V3.heap.size V3 V → V.cell? ⟨bN, oN + k, none⟩ = some (.int .i64 (x0n : Int))) := fun V hb => by
                obtain ⟨b9, o9, x9, h9, hc9, Hx9⟩ := Ints.get (HNI.out V hb) hlt
                injection h9 with h9
                injection h9 with h9 h8 _
                subst h9 h8
                have h := Hx9.out.symm.trans hng.1
                injection h with h
                rw [h] at hc9
                exact hc9
              have hml : k < s.moulds.length := by rw [Hn.out]; exact hkn
              have hcb := castsN_bd HOK.out hml
              obtain ⟨bM, oM, sn, m1, m2, m3, m4, cs, hAe, _, _, _, _, _, _, _, _, Hy⟩ := Moulds.get (HG.out wo HBWo.out) hkn
              subst hAe
              have hcs : (castsN s k : Int) = cs := by rw [hcb.2.2, getD_of Hy.out]
              have kM : Hid (∀ V, Below W.heap.size W V → V.cell? ⟨bM, oM + k * 6 + 5, none⟩ = some (.int .i64 cs)) := fun V hb => by
                obtain ⟨b9, o9, s9, c1, c2, c3, c4, c5, h9, _, _, _, _, _, _, hc9, _, Hy9⟩ := Moulds.get (HG.out V hb) hkn
                injection h9 with h9
                injection h9 with h9 h8 _
                subst h9 h8
                have h := Hy.out.symm.trans Hy9.out
                injection h with h
                injection h with _ _ _ _ _ h
                rw [h]
                exact hc9
              obtain ⟨zl, hzl⟩ : ∃ q, (allZ s k).1 = q := ⟨_, rfl⟩
              obtain ⟨zh, hzh⟩ : ∃ q, (allZ s k).2 = q := ⟨_, rfl⟩
              have HAZ : Hid (allZ s k = (zl, zh)) := Prod.ext hzl hzh
              have hall := oall_any HE.out hca hkn wo (HG.out wo HBWo.out) h1 h2
              rw [hzl, hzh] at hall
              have HALL := Lib.hid hall
              have HCS := Lib.hid hcs
              have hcs8 : 1 ≤ cs ∧ cs ≤ 8 := by omega
              clear hall hzl hzh hng hx0n hcs hcb
              obtain ⟨⟨x0, x1, x2⟩, ⟨y0, y1, y2⟩⟩ := kk.out wo HBWo.out
              have n0 := kN.out wo HBr.out
              go_wp2_with fail
              clear x0 x1 x2 y0 y1 y2 n0
              refine HALL.out.mono ?_
              rintro e Wa ⟨rfl, ba⟩
              obtain ⟨gz, hgz⟩ : ∃ q, Wa.heap.size = q := ⟨_, rfl⟩
              obtain ⟨Wb, hWb⟩ : ∃ V, Wa.alloc (.cells #[.int .i64 zl, .int .i64 zh] 23) = V := ⟨_, rfl⟩
              have Z1 : Blk Wb gz 23 #[.int .i64 zl, .int .i64 zh] := by rw [← hWb]; exact Blk.new _ _ _ hgz.symm
              have Hob : Hid (Below wo.heap.size wo Wb) := by rw [Hid, ← hWb]; exact bl_alloc ba _ (Nat.le_refl _)
              have H3b : Hid (Below V3.heap.size V3 Wb) := bl_call HBr.out Hob.out (Nat.le_refl _)
              have HBWb : Hid (Below W.heap.size W Wb) := bl_call HB3c.out H3b.out (Nat.le_refl _)
              have HOb : Hid (OwnL PairR 2 (fun _ => False) Wb V3.heap.size 23 (.slice An len cap) (piecesI s nd k)) := HOr.out.keep PairR.good (Keeps.below Hob.out)
              have hgo : wo.heap.size ≤ gz := by rw [← hgz]; exact ba.size
              have HNE : Hid ((Value.slice An len cap).ownBlock ≠ some gz) := fun h => by have := (OwnL.block HOr.out gz h).2; omega
              have HZ1 := Lib.hid Z1
              clear ba
              have hnn : ¬ (x0n : Int) < 0 := by omega
              have n0 := kN.out Wb H3b.out
              have z0 := Z1.cell 0
              have z1 := Z1.cell 1
              have m0 := kM.out Wb HBWb.out
              obtain ⟨⟨x0, x1, x2⟩, ⟨y0, y1, y2⟩⟩ := kk.out Wb HBWb.out
              clear Z1
              go_wp2_with fail
              clear hgz hWb
              by_cases hbig : cs < (x0n : Int)
              · go_quiet (fail)
                go_wp2_with fail
                clear x0 x1 x2 y0 y1 y2 n0 z0 z1 m0
                have HBQ : Hid (Below W.heap.size W (Wb.drewN nq)) := bl_drewN HBWb.out nq
                refine (awake7_any _).mono ?_
                rintro e V98 ⟨rfl, c98⟩
                have b98 := bl_call HBQ.out c98 (Nat.le_refl _)
                clear c98
                go_wp2_with fail
                refine (awake11_any V98).mono ?_
                rintro e V99 ⟨rfl, c99⟩
                have b99 := bl_call HBW.out (bl_call b98 c99 (Nat.le_refl _)) (Nat.le_refl _)
                clear c99
                go_wp2
                go_ret
                exact ⟨by rfl, b99⟩
              by_cases hhi : 20000 < zh
              · go_quiet (fail)
                go_wp2_with fail
                clear x0 x1 x2 y0 y1 y2 n0 z0 z1 m0
                have HBQ : Hid (Below W.heap.size W (Wb.drewN nq)) := bl_drewN HBWb.out nq
                refine (awake7_any _).mono ?_
                rintro e V98 ⟨rfl, c98⟩
                have b98 := bl_call HBQ.out c98 (Nat.le_refl _)
                clear c98
                go_wp2_with fail
                refine (awake11_any V98).mono ?_
                rintro e V99 ⟨rfl, c99⟩
                have b99 := bl_call HBW.out (bl_call b98 c99 (Nat.le_refl _)) (Nat.le_refl _)
                clear c99
                go_wp2
                go_ret
                exact ⟨by rfl, b99⟩
              go_quiet (fail)
              have HBQ : Hid (Below V3.heap.size V3 (Wb.drewN nq)) := bl_drewN H3b.out nq
              have hx8 : x0n ≤ 8 := by omega
              have HX8 : Hid (nd.getD k 0 ≤ castsN s k ∧ (allZ s k).2 ≤ 20000) := by
                have h1 := HCS.out
                have h2 := HX0.out
                have h3 : (allZ s k).2 = zh := by rw [HAZ.out]
                rw [Hid, h2, h3]
                omega
              have HCN : Hid (∀ i, i < k + 1 → nd.getD i 0 ≤ castsN s i ∧ (allZ s i).2 ≤ 20000) := by
                intro i hi
                by_cases e : i = k
                · subst e; exact HX8.out
                · exact HCr.out i (by omega)
              have hlen24 : len ≤ 8 * k := by
                have h := piecesI_bd (s := s) (nd := nd) k (fun i hi => by have h1 := (HCr.out i hi).1; have h2 := (castsN_bd HOK.out (s := s) (m := i) (by rw [Hn.out]; omega)).2.1; omega)
                rw [HLr.out] at h
                exact h
              have hpk3 : pk ≤ k := by have h := partsI_le nd k; rw [← HPK.out] at h; exact h
              have HZQ : Hid (Blk (Wb.drewN nq) gz 23 #[.int .i64 zl, .int .i64 zh]) := HZ1.out.drewN nq
              have HOQ : Hid (OwnL PairR 2 (fun _ => False) (Wb.drewN nq) V3.heap.size 23 (.slice An len cap) (piecesI s nd k)) := HOb.out.keep PairR.good (Keeps.drewN _ _)
              clear hbig hhi hnn x0 x1 x2 y0 y1 y2 z0 z1 m0 HX8
              rcases Nat.eq_zero_or_pos x0n with hxz | hxp
              all_goals (
                first
                | (have hnp : ¬ (0 : Int) < (x0n : Int) := by omega
                   have HP2 : Hid (pk = partsI nd (k + 1)) := by
                     rw [Hid, partsI_succ, ← HPK.out, HX0.out, if_neg (by omega)]; rfl
                   obtain ⟨pk2, rfl⟩ : ∃ q, q = pk := ⟨_, rfl⟩
                   have hxz2 : ¬ 0 < x0n := by omega
                   clear hxz
                   go_wp2_with fail)
                | (have hnp : (0 : Int) < (x0n : Int) := by omega
                   obtain ⟨pk2, hpk2⟩ : ∃ q, pk + 1 = q := ⟨_, rfl⟩
                   have HP2 : Hid (pk2 = partsI nd (k + 1)) := by
                     rw [Hid, partsI_succ, ← HPK.out, HX0.out, if_pos (by omega), hpk2]
                   have wpk : IntKind.i64.wrap ((pk : Int) + 1) = (pk2 : Int) := by rw [IntKind.wrap_i64]; omega
                   go_wp2_with fail
                   clear wpk hpk2)
                clear hnp n0
                go_loopw [14, 19] (fun al i wr => ∃ (j cap2 : Nat) (A2 : Option Addr), j ≤ x0n ∧ i = .int .i64 j ∧ al = .slice A2 (len + j) cap2 ∧ Hid (Below V3.heap.size V3 wr) ∧ Hid (Blk wr gz 23 #[.int .i64 zl, .int .i64 zh]) ∧ Hid ((Value.slice A2 (len + j) cap2).ownBlock ≠ some gz) ∧ Hid (OwnL PairR 2 (fun _ => False) wr V3.heap.size 23 (.slice A2 (len + j) cap2) (piecesI s nd k ++ List.replicate j (zl, zh)))) (fun _ i _ => x0n - (intOf i).toNat)
                case atStart => exact ⟨0, cap, An, Nat.zero_le _, rfl, rfl, HBQ.out, HZQ.out, HNE.out, by rw [List.replicate_zero, List.append_nil]; exact HOQ.out⟩
                case round =>
                  obtain ⟨wi, hwi⟩ : ∃ V, V = wr := ⟨_, rfl⟩
                  rw [← hwi] at hrel ⊢
                  clear hwi
                  obtain ⟨j, cap2, A2, hj, rfl, rfl, HBi, HZi, HNi, HOi⟩ := hrel
                  have n0 := kN.out wi HBi.out
                  by_cases hjt : j < x0n
                  · first
                    | (exfalso; omega)
                    | (have hji : (j : Int) < (x0n : Int) := by omega
                       have z0 := HZi.out.cell 0
                       have z1 := HZi.out.cell 1
                       have hzl2 := HZi.out.lt
                       have HLj : Hid ((piecesI s nd k ++ List.replicate j (zl, zh)).length = len + j) := by rw [Hid, List.length_append, List.length_replicate, HLr.out]
                       have hzi := HBi.out.size
                       go_wp2_with (at_builtin; refine wpList_append_n _ rfl (.tmp 128) (.tmp 130) _ rfl PairR.good V3.heap.size 23 iS _ 16 Tryz.underlying40 hiS hzS0 hzS1 hzS2 rfl (by omega) _ (piecesI s nd k ++ List.replicate j (zl, zh)) (zl, zh) (len + j) HLj.out rfl (HOi.out.alloc PairR.good _) ⟨_, 0, none⟩ 1 [.int .i64 zl, .int .i64 zh] rfl rfl (news_new rfl rfl) ?c1 ?c2 ?c3 (fun h => h) ?_)
                       case c1 => simp only [maxLen]; omega
                       case c2 => omega
                       case c3 => simp; omega
                       intro A9 cap9 w9 hO9 hg9 hat9
                       have HB9 : Hid (Below V3.heap.size V3 w9) := bl_grown (bl_alloc HBi.out _ (Nat.le_refl _)) (HOi.out.alloc PairR.good _) hg9 (Nat.le_refl _) (Nat.le_refl _)
                       have HZ9 : Hid (Blk w9 gz 23 #[.int .i64 zl, .int .i64 zh]) := (HZi.out.alloc _).grown hg9 (Ne.symm HNi.out)
                       have HN9 : Hid ((Value.slice (some ⟨A9, 0, none⟩) (len + (j + 1)) cap9).ownBlock ≠ some gz) := by
                         intro h
                         have h3 : A9 = gz := by simpa [Value.ownBlock] using h
                         rcases hat9 with h4 | h4
                         · exact HNi.out (h4.trans (by rw [h3]))
                         · first | omega | (rw [World.size_alloc] at h4; omega)
                       have HO9 : Hid (OwnL PairR 2 (fun _ => False) w9 V3.heap.size 23 (.slice (some ⟨A9, 0, none⟩) (len + (j + 1)) cap9) (piecesI s nd k ++ List.replicate (j + 1) (zl, zh))) := by
                         rw [Hid, List.replicate_succ']; exact hO9
                       clear hO9 hg9 hat9 z0 z1 n0
                       go_wp2
                       go_roundw
                       case rel => exact ⟨j + 1, cap9, _, by omega, by go_num, rfl, HB9.out, HZ9.out, HN9.out, HO9.out⟩
                       case measure => simp [intOf]; omega)
                  · have HJX : Hid (j = x0n) := by rw [Hid]; omega
                    have hnji : ¬ (j : Int) < (x0n : Int) := by omega
                    have HOF : Hid (OwnL PairR 2 (fun _ => False) wi V3.heap.size 23 (.slice A2 (len + j) cap2) (piecesI s nd (k + 1))) := by rw [Hid, piecesI_succ, HX0.out, HAZ.out, ← HJX.out]; exact HOi.out
                    have HLF : Hid ((piecesI s nd (k + 1)).length = len + j) := by rw [Hid, piecesI_len, HLr.out, HX0.out, HJX.out]
                    go_wp2
                    clear n0
                    go_roundw
                    case rel => exact ⟨k + 1, len + j, cap2, pk2, A2, by omega, by go_num, rfl, rfl, HP2.out, HBi.out, HOF.out, HLF.out, HCN.out⟩
                    case measure => simp [intOf]; omega
              )
            · obtain rfl : k = pn := by omega
              have HPQ : Hid (piecesI s nd k = piecesQ s nd) := by rw [Hid, ← HNDL.out]; rfl
              rw [HPQ.out] at HOr HLr
              have HPW : Hid (Pairs (fun _ => True) wo An len (piecesQ s nd)) := HOr.out.slice (T := fun _ => True) PairR.good rfl (by have h := piecesI_bd (s := s) (nd := nd) k (fun i hi => by have h1 := (HCr.out i hi).1; have h2 := (castsN_bd HOK.out (s := s) (m := i) (by rw [Hn.out]; omega)).2.1; omega); rw [HPQ.out, HLr.out] at h; simp only [maxLen]; omega) (fun _ h => h.elim) (fun _ _ _ => trivial)
              have hlenb := HPW.out.le
              obtain ⟨⟨x0, x1, x2⟩, ⟨y0, y1, y2⟩⟩ := kk.out wo HBWo.out
              by_cases hl0 : len = 0
              · have hl0b : ((len : Int) == 0) = true := by simp [hl0]
                clear hl0
                go_wp2_with fail
                clear x0 x1 x2 y0 y1 y2
                refine (awake7_any wo).mono ?_
                rintro e V98 ⟨rfl, c98⟩
                have b98 := bl_call HBWo.out c98 (Nat.le_refl _)
                clear c98
                go_wp2_with fail
                refine (awake11_any V98).mono ?_
                rintro e V99 ⟨rfl, c99⟩
                have b99 := bl_call HBW.out (bl_call b98 c99 (Nat.le_refl _)) (Nat.le_refl _)
                clear c99
                go_wp2
                go_ret
                exact ⟨by rfl, b99⟩
              by_cases hl6 : (6 : Int) < len
              · have hl0b : ((len : Int) == 0) = false := by simp [hl0]
                clear hl0
                go_wp2_with fail
                clear x0 x1 x2 y0 y1 y2
                refine (awake7_any wo).mono ?_
                rintro e V98 ⟨rfl, c98⟩
                have b98 := bl_call HBWo.out c98 (Nat.le_refl _)
                clear c98
                go_wp2_with fail
                refine (awake11_any V98).mono ?_
                rintro e V99 ⟨rfl, c99⟩
                have b99 := bl_call HBW.out (bl_call b98 c99 (Nat.le_refl _)) (Nat.le_refl _)
                clear c99
                go_wp2
                go_ret
                exact ⟨by rfl, b99⟩
              have hl0b : ((len : Int) == 0) = false := by simp [hl0]
              have hl16 : 1 ≤ len ∧ len ≤ 6 := by omega
              have hmp := moulds_plan (nd := nd) HE.out (by rw [HNDL.out, Hn.out]; exact hle) (fun i hi => HCr.out i (by rw [HNDL.out] at hi; exact hi)) (by rw [HLr.out]; omega) (by rw [HLr.out]; omega)
              obtain ⟨PP, u, hplan, hPl, hul, hnd2, hall⟩ := hmp
              rw [HLr.out] at hPl
              have hplc := kplan_cap (cc := 0) (pc := cap) wo (HG.out wo HBWo.out) (SliceOf.nil _ _ _ _ _ : SeenCs (fun _ => True) wo none 0 []) HPW.out hca h1 h2
              rw [hplan] at hplc
              have HPLC := Lib.hid hplc
              have HPL := Lib.hid hPl
              have HND2 := Lib.hid hnd2
              have HALL := Lib.hid hall
              have hupk : u.length ≤ pk := by rw [HPK.out, ← HNDL.out, ← partsI_all]; exact hul
              obtain ⟨nU, hnU⟩ : ∃ q, u.length = q := ⟨_, rfl⟩
              rw [hnU] at hupk
              have HNU := Lib.hid hnU
              have hupn : ¬ pk < nU := by omega
              have hll : ((len : Int) != (len : Int)) = false := by simp
              clear hplc hPl hnd2 hall hnU hul hplan hl0
              go_wp2_with fail
              clear hl6 hl0b x0 x1 x2 y0 y1 y2
              refine HPLC.out.mono ?_
              rintro e Vp ⟨⟨PD, kc, PE, ec, rfl, hD, hEu, hcap2⟩, cp⟩
              dsimp only at hD hEu hcap2
              dsimp only
              rw [HPL.out] at hD hcap2 ⊢
              rw [HNU.out]
              have HBp : Hid (Below W.heap.size W Vp) := bl_call HBWo.out cp (Nat.le_refl _)
              have HPD : Hid (∀ V, Below Vp.heap.size Vp V → Pls (fun _ => True) V PD len PP) := fun V hb => (hD.keep PlR.good (Keeps.below hb)).mono PlR.good (fun _ _ => trivial)
              have hPDl := hD.le
              clear hD hEu cp
              go_wp2_with fail
              go_loopw [22] (fun i wr => ∃ q : Nat, q ≤ len ∧ i = .int .i64 q ∧ Hid (Below Vp.heap.size Vp wr)) (fun i _ => len - (intOf i).toNat)
              case atStart => exact ⟨0, Nat.zero_le _, rfl, Below.refl _ _⟩
              case round =>
                obtain ⟨wq, hwq⟩ : ∃ V, V = wr := ⟨_, rfl⟩
                rw [← hwq] at hrel ⊢
                clear hwq
                obtain ⟨q, hq, rfl, HBj⟩ := hrel
                have HBWj : Hid (Below W.heap.size W wq) := bl_call HBp.out HBj.out (Nat.le_refl _)
                by_cases hqt : q < len
                · have hqi : (q : Int) < len := by omega
                  obtain ⟨bF, oF, ya, yb, hDe, _, d0, d1, HxF⟩ := Pls.get (HPD.out wq HBj.out) hqt
                  subst hDe
                  have hin := HALL.out _ (List.mem_of_getElem? HxF.out)
                  have HTH : Hid (there7 s (ya : Int) (yb : Int) = true) := there11_of HOK.out hin.1 hin.2
                  have HNT : Hid ((ya, yb) ∉ PP.take q) := not_take HND2.out HxF.out
                  have kq : Hid (∀ V, Below wq.heap.size wq V → V.cell? ⟨bF, oF + q * 2, none⟩ = some (.int .i64 (ya : Int)) ∧ V.cell? ⟨bF, oF + q * 2 + 1, none⟩ = some (.int .i64 (yb : Int))) := fun V hb => ⟨getc hb d0, getc hb d1⟩
                  have hqk : (q : Int) ≤ len := by omega
                  have hqkc : q ≤ kc := by omega
                  clear d0 d1 hin
                  go_wp2_with fail
                  refine wp_frameT ?_
                  intro a0 ha0
                  have tb3 : a0.tmps[3]? = some (.pointer (some ⟨gS, 0, none⟩)) := by rw [ha0]; kernel_rfl
                  have tb20 : a0.tmps[20]? = some (.slice (some ⟨bF, oF, none⟩) len kc) := by rw [ha0]; kernel_rfl
                  have tb22 : a0.tmps[22]? = some (.int .i64 (q : Int)) := by rw [ha0]; kernel_rfl
                  have hsz : a0.tmps.size = 193 := by rw [ha0]; kernel_rfl
                  refine wp_region_list (fun W => Below wq.heap.size wq W) (fun w w' => Below w.heap.size w w')
                    [isV (.agg #[.int .i64 klo, .int .i64 khi, .slice A n ca]), isV (.slice (some ⟨bF, oF, none⟩) len kc), isV (.int .i64 (q : Int)), isV (.pointer (some ⟨bF, oF + q * 2, none⟩)), isV (.agg #[.int .i64 (ya : Int), .int .i64 (yb : Int)]), isV (.bool true), isV (.bool false), isV (.bool false), isV (.slice (some ⟨bF, oF, none⟩) len kc), isV (.int .i64 (q : Int)), isV (.slice (some ⟨bF, oF, none⟩) q kc), isV (.slice (some ⟨bF, oF, none⟩) len kc), isV (.int .i64 (q : Int)), isV (.pointer (some ⟨bF, oF + q * 2, none⟩)), isV (.agg #[.int .i64 (ya : Int), .int .i64 (yb : Int)]), isV (.bool false), isV (.bool false)]
                    (by kernel_rfl) (by kernel_rfl) (by kernel_rfl) (by simp) (by simp) (Below.refl _ _).drew ?stabB ?stepB ?finB
                  case stabB => exact (StabL.is (StabL.is (StabL.is (StabL.is (StabL.is (StabL.is (StabL.is (StabL.is (StabL.is (StabL.is (StabL.is (StabL.is (StabL.is (StabL.is (StabL.is (StabL.is (StabL.is StabL.nil)))))))))))))))))
                  case stepB =>
                    refine StepsL.isA ?_ (StepsL.isA ?_ (StepsL.isA ?_ (StepsL.isA ?_ (StepsL.isA ?_ (StepsL.isA ?_ (StepsL.isA ?_ (StepsL.isA ?_ (StepsL.isA ?_ (StepsL.isA ?_ (StepsL.isA ?_ (StepsL.isA ?_ (StepsL.isA ?_ (StepsL.isA ?_ (StepsL.isA ?_ (StepsL.isA ?_ (StepsL.isA ?_ StepsL.nil))))))))))))))))
                    all_goals intro vs a W K ha hC hD hU hK
                    all_goals try rw [if_pos (by rfl)]
                    · have r3 := fb ha (by kernel_rfl) tb3
                      clear ha hU hD ha0
                      obtain ⟨⟨x0, x1, x2⟩, ⟨y0, y1, y2⟩⟩ := kk.out W (bl_call HBWj.out hC (Nat.le_refl _))
                      obtain ⟨kf0, kf1⟩ := kq.out W hC
                      go_simp
                      exact hK _ hC (Below.refl _ _)
                    · have r20 := fb ha (by kernel_rfl) tb20
                      clear ha hU hD ha0
                      go_simp
                      exact hK _ hC (Below.refl _ _)
                    · have r22 := fb ha (by kernel_rfl) tb22
                      clear ha hU hD ha0
                      go_simp
                      exact hK _ hC (Below.refl _ _)
                    · have r173 := fg 173 1 ha hsz (by kernel_rfl) (by decide)
                      have q1 : vs 1 = .slice (some ⟨bF, oF, none⟩) len kc := hD 1 (by simp [waits, Region.binds])
                      rw [q1] at r173
                      have r174 := fq 174 2 ha hsz (by kernel_rfl) (by decide) (hD 2 (by simp [waits, Region.binds]))
                      clear ha hU hD ha0
                      go_simp
                      exact hK _ hC (Below.refl _ _)
                    · have r175 := fg 175 3 ha hsz (by kernel_rfl) (by decide)
                      have q3 : vs 3 = .pointer (some ⟨bF, oF + q * 2, none⟩) := hD 3 (by simp [waits, Region.binds])
                      rw [q3] at r175
                      clear ha hU hD ha0
                      obtain ⟨⟨x0, x1, x2⟩, ⟨y0, y1, y2⟩⟩ := kk.out W (bl_call HBWj.out hC (Nat.le_refl _))
                      obtain ⟨kf0, kf1⟩ := kq.out W hC
                      go_simp
                      exact hK _ hC (Below.refl _ _)
                    · have r172 := fg 172 0 ha hsz (by kernel_rfl) (by decide)
                      have q0 : vs 0 = .agg #[.int .i64 klo, .int .i64 khi, .slice A n ca] := hD 0 (by simp [waits, Region.binds])
                      rw [q0] at r172
                      have r176 := fq 176 4 ha hsz (by kernel_rfl) (by decide) (hD 4 (by simp [waits, Region.binds]))
                      clear ha hU hD ha0
                      go_simp
                      refine (rthere7_any (ya : Int) (yb : Int) HOK.out W (HG.out W (bl_call HBWj.out hC (Nat.le_refl _)))).mono ?_
                      rw [HTH.out]
                      rintro e w' ⟨rfl, hb⟩
                      exact hK _ (bl_call hC hb (Nat.le_refl _)) hb
                    · have r177 := fg 177 5 ha hsz (by kernel_rfl) (by decide)
                      have q5 : vs 5 = .bool true := hD 5 (by simp [waits, Region.binds])
                      rw [q5] at r177
                      clear ha hU hD ha0
                      go_simp
                      exact hK _ hC (Below.refl _ _)
                    · have r178 := fg 178 6 ha hsz (by kernel_rfl) (by decide)
                      have q6 : vs 6 = .bool false := hD 6 (by simp [waits, Region.binds])
                      rw [q6] at r178
                      clear ha hU hD ha0
                      go_simp
                      exact hK _ hC (Below.refl _ _)
                    · have r179 := fg 179 7 ha hsz (by kernel_rfl) (by decide)
                      have q7 : vs 7 = .bool false := hD 7 (by simp [waits, Region.binds])
                      rw [q7] at r179
                      have r20 := fb ha (by kernel_rfl) tb20
                      clear ha hU hD ha0
                      rw [if_pos (by simp [Region.wanted, yielded, r179])]
                      go_simp
                      exact hK _ hC (Below.refl _ _)
                    · have r179 := fg 179 7 ha hsz (by kernel_rfl) (by decide)
                      have q7 : vs 7 = .bool false := hD 7 (by simp [waits, Region.binds])
                      rw [q7] at r179
                      have r22 := fb ha (by kernel_rfl) tb22
                      clear ha hU hD ha0
                      rw [if_pos (by simp [Region.wanted, yielded, r179])]
                      go_simp
                      exact hK _ hC (Below.refl _ _)
                    · have r179 := fg 179 7 ha hsz (by kernel_rfl) (by decide)
                      have q7 : vs 7 = .bool false := hD 7 (by simp [waits, Region.binds])
                      rw [q7] at r179
                      have r180 := fq 180 8 ha hsz (by kernel_rfl) (by decide) (hD 8 (by simp [waits, Region.binds]))
                      have r181 := fq 181 9 ha hsz (by kernel_rfl) (by decide) (hD 9 (by simp [waits, Region.binds]))
                      clear ha hU hD ha0
                      rw [if_pos (by simp [Region.wanted, yielded, r179])]
                      go_simp
                      exact hK _ hC (Below.refl _ _)
                    · have r179 := fg 179 7 ha hsz (by kernel_rfl) (by decide)
                      have q7 : vs 7 = .bool false := hD 7 (by simp [waits, Region.binds])
                      rw [q7] at r179
                      have r20 := fb ha (by kernel_rfl) tb20
                      clear ha hU hD ha0
                      rw [if_pos (by simp [Region.wanted, yielded, r179])]
                      go_simp
                      exact hK _ hC (Below.refl _ _)
                    · have r179 := fg 179 7 ha hsz (by kernel_rfl) (by decide)
                      have q7 : vs 7 = .bool false := hD 7 (by simp [waits, Region.binds])
                      rw [q7] at r179
                      have r22 := fb ha (by kernel_rfl) tb22
                      clear ha hU hD ha0
                      rw [if_pos (by simp [Region.wanted, yielded, r179])]
                      go_simp
                      exact hK _ hC (Below.refl _ _)
                    · have r179 := fg 179 7 ha hsz (by kernel_rfl) (by decide)
                      have q7 : vs 7 = .bool false := hD 7 (by simp [waits, Region.binds])
                      rw [q7] at r179
                      have r183 := fq 183 11 ha hsz (by kernel_rfl) (by decide) (hD 11 (by simp [waits, Region.binds]))
                      have r184 := fq 184 12 ha hsz (by kernel_rfl) (by decide) (hD 12 (by simp [waits, Region.binds]))
                      clear ha hU hD ha0
                      rw [if_pos (by simp [Region.wanted, yielded, r179])]
                      go_simp
                      exact hK _ hC (Below.refl _ _)
                    · have r179 := fg 179 7 ha hsz (by kernel_rfl) (by decide)
                      have q7 : vs 7 = .bool false := hD 7 (by simp [waits, Region.binds])
                      rw [q7] at r179
                      have r185 := fq 185 13 ha hsz (by kernel_rfl) (by decide) (hD 13 (by simp [waits, Region.binds]))
                      clear ha hU hD ha0
                      rw [if_pos (by simp [Region.wanted, yielded, r179])]
                      obtain ⟨⟨x0, x1, x2⟩, ⟨y0, y1, y2⟩⟩ := kk.out W (bl_call HBWj.out hC (Nat.le_refl _))
                      obtain ⟨kf0, kf1⟩ := kq.out W hC
                      go_simp
                      exact hK _ hC (Below.refl _ _)
                    · have r179 := fg 179 7 ha hsz (by kernel_rfl) (by decide)
                      have q7 : vs 7 = .bool false := hD 7 (by simp [waits, Region.binds])
                      rw [q7] at r179
                      have r182 := fq 182 10 ha hsz (by kernel_rfl) (by decide) (hD 10 (by simp [waits, Region.binds]))
                      have r186 := fq 186 14 ha hsz (by kernel_rfl) (by decide) (hD 14 (by simp [waits, Region.binds]))
                      clear ha hU hD ha0
                      rw [if_pos (by simp [Region.wanted, yielded, r179])]
                      go_simp
                      refine (has7_any (ya, yb) W (takeO (HPD.out W (bl_call HBj.out hC (Nat.le_refl _))) (show q ≤ len by omega))).mono ?_
                      rw [decide_eq_false HNT.out]
                      rintro e w' ⟨rfl, hb⟩
                      exact hK _ (bl_call hC hb (Nat.le_refl _)) hb
                    · have r179 := fg 179 7 ha hsz (by kernel_rfl) (by decide)
                      have q7 : vs 7 = .bool false := hD 7 (by simp [waits, Region.binds])
                      rw [q7] at r179
                      have r187 := fq 187 15 ha hsz (by kernel_rfl) (by decide) (hD 15 (by simp [waits, Region.binds]))
                      clear ha hU hD ha0
                      go_simp
                      exact hK _ hC (Below.refl _ _)
                  case finB =>
                    refine Fin1.none (Nat.le_refl _) ?_
                    intro vs W a1 hC hE ha
                    have eL : vs 16 = .bool false := hE 16 (by simp)
                    rw [ha, ha0]
                    clear ha ha0 hsz tb3 tb20 tb22
                    simp only [fillA, Act.put, List.setIfInBounds_toArray, List.set_cons_zero, List.set_cons_succ, Nat.zero_add, Nat.reduceAdd, eL]
                    generalize vs 0 = u0, vs 1 = u1, vs 2 = u2, vs 3 = u3, vs 4 = u4, vs 5 = u5, vs 6 = u6, vs 7 = u7, vs 8 = u8, vs 9 = u9, vs 10 = u10, vs 11 = u11, vs 12 = u12, vs 13 = u13, vs 14 = u14, vs 15 = u15
                    have HBX : Hid (Below Vp.heap.size Vp W) := bl_call HBj.out hC (Nat.le_refl _)
                    clear hE eL hC
                    go_simp
                    go_wp2
                    go_roundw
                    case rel => exact ⟨q + 1, by omega, by go_num, HBX.out⟩
                    case measure => simp [intOf]; omega
                · obtain rfl : q = len := by omega
                  go_wp2_with fail
                  refine (awake7_any wq).mono ?_
                  rintro e V98 ⟨rfl, c98⟩
                  have b98 := bl_call HBWj.out c98 (Nat.le_refl _)
                  clear c98
                  go_wp2_with fail
                  refine (awake11_any V98).mono ?_
                  rintro e V99 ⟨rfl, c99⟩
                  have b99 := bl_call HBW.out (bl_call b98 c99 (Nat.le_refl _)) (Nat.le_refl _)
                  clear c99
                  go_wp2
                  go_ret
                  exact ⟨by rfl, b99⟩
      · have hlt : (n : Int) < pn := by omega
        go_wp2_with fail
        clear x0 x1 x2 y0 y1 y2
        refine (awake7_any V2).mono ?_
        rintro e V98 ⟨rfl, c98⟩
        have b98 := bl_call HB2.out c98 (Nat.le_refl _)
        clear c98
        go_wp2_with fail
        refine (awake11_any V98).mono ?_
        rintro e V99 ⟨rfl, c99⟩
        have b99 := bl_call HBW.out (bl_call b98 c99 (Nat.le_refl _)) (Nat.le_refl _)
        clear c99
        go_wp2
        go_ret
        exact ⟨by rfl, b99⟩
    · have hvb : (z5 != 0) = true := by simpa using he5
      go_wp2_with fail
      clear x0 x1 x2 y0 y1 y2
      refine (awake7_any V2).mono ?_
      rintro e V98 ⟨rfl, c98⟩
      have b98 := bl_call HB2.out c98 (Nat.le_refl _)
      clear c98
      go_wp2_with fail
      refine (awake11_any V98).mono ?_
      rintro e V99 ⟨rfl, c99⟩
      have b99 := bl_call HBW.out (bl_call b98 c99 (Nat.le_refl _)) (Nat.le_refl _)
      clear c99
      go_wp2
      go_ret
      exact ⟨by rfl, b99⟩
  · have hvb : (z7 != 0) = true := by simpa using he7
    go_wp2_with fail
    clear x0 x1 x2 y0 y1 y2
    refine (awake7_any V2).mono ?_
    rintro e V98 ⟨rfl, c98⟩
    have b98 := bl_call HB2.out c98 (Nat.le_refl _)
    clear c98
    go_wp2_with fail
    refine (awake11_any V98).mono ?_
    rintro e V99 ⟨rfl, c99⟩
    have b99 := bl_call HBW.out (bl_call b98 c99 (Nat.le_refl _)) (Nat.le_refl _)
    clear c99
    go_wp2
    go_ret
    exact ⟨by rfl, b99⟩
end Go.Proofs.YtkpbchnggdnmaaaGreat
