/- A part of the proof that TopMeasured always answers true. -/
import Derived.Test.YtcnebekkbfajbaaGreatCScRise
set_option linter.all false
namespace Go.Proofs.YtcnebekkbfajbaaGreat
open Go.RowKit Go.Shelf
set_option maxRecDepth 100000 in
set_option maxHeartbeats 2000000 in
theorem sfalse_any {c : Case5} {A B : Option Addr} {n ca m cb : Nat} {kd ba mo : Int} {z : Nat × Nat} (hok : Ok5 c) (hz : z ∈ scalesN) (w : World) (g : CaseAt (fun _ => True) w A n B m c) (h1 : c.kind = kd) (h2 : c.base = ba) (h3 : c.most = mo) :
  Calls Tryz.prog 25 #[.agg #[.int .i64 kd, .int .i64 ba, .int .i64 mo, .slice A n ca, .slice B m cb], .agg #[.int .i64 (z.1 : Int), .int .i64 (z.2 : Int)]] w fun e w' => (∃ A' c', e = .returned (.tuple #[.slice A' m c', .int .i64 0]) ∧ Ints (fun _ => True) w' A' m (falseZ c z)) ∧ Below w.heap.size w w' := by
 have HZ := Lib.hid hz
 have HOK := Lib.hid hok
 have hn8 : n ≤ 8 := by have := hok.nh; have := g.hs.len; omega
 have hm8 : m ≤ 8 := by have := hok.nr; have := g.rs.len; omega
 have HRL : Hid (c.roads.length = m) := g.rs.len
 obtain ⟨iI, hiI, hzI0, hzI1, hzI2⟩ := info_parts infoInt5
 have HN : Hid ((cut5 c z).length = n) := by rw [Hid, cut5, cutL, List.length_map, g.hs.len]
 have HM : Hid (modelV c A n ca B m cb = .agg #[.int .i64 kd, .int .i64 ba, .int .i64 mo, .slice A n ca, .slice B m cb, .func (.func (roundF c.kind)) #[] #[]]) := by rw [Hid, modelV, h1, h2, h3]
 obtain ⟨fr, hfr⟩ : ∃ f, roundF c.kind = f := ⟨_, rfl⟩
 rw [hfr] at HM
 obtain ⟨v0, v1, v2, v3, v4, v5, v6, v7, hv⟩ := cutV_8 (cut5 c z)
 have HV := Lib.hid hv
 obtain ⟨W, hW⟩ : ∃ W, (w.alloc (.cells #[.int .i64 kd, .int .i64 ba, .int .i64 mo, .slice A n ca, .slice B m cb] 25)).alloc (.cells #[.int .i64 (z.1 : Int), .int .i64 (z.2 : Int)] 42) = W := ⟨_, rfl⟩
 have X : Blk W w.heap.size 25 #[.int .i64 kd, .int .i64 ba, .int .i64 mo, .slice A n ca, .slice B m cb] := by rw [← hW]; exact (Blk.new _ _ _ rfl).alloc _
 have Y : Blk W (w.heap.size + 1) 42 #[.int .i64 (z.1 : Int), .int .i64 (z.2 : Int)] := by rw [← hW]; exact Blk.new _ _ _ (by simp)
 have hBW : Below w.heap.size w W := by rw [← hW]; exact bl_alloc (bl_alloc (Below.refl _ _) _ (Nat.le_refl _)) _ (Nat.le_refl _)
 have HG : Hid (∀ V, Below W.heap.size W V → CaseAt (fun _ => True) V A n B m c) := fun V hb => (g.bl hBW).bl hb
 have kk : Hid (∀ V, Below W.heap.size W V → V.cell? ⟨w.heap.size, 0, none⟩ = some (.int .i64 kd) ∧ V.cell? ⟨w.heap.size, 1, none⟩ = some (.int .i64 ba) ∧ V.cell? ⟨w.heap.size, 2, none⟩ = some (.int .i64 mo) ∧ V.cell? ⟨w.heap.size, 3, none⟩ = some (.slice A n ca) ∧ V.cell? ⟨w.heap.size, 4, none⟩ = some (.slice B m cb) ∧ V.cell? ⟨w.heap.size + 1, 0, none⟩ = some (.int .i64 (z.1 : Int)) ∧ V.cell? ⟨w.heap.size + 1, 1, none⟩ = some (.int .i64 (z.2 : Int))) :=
  fun V hb => ⟨(X.bl hb).cell 0, (X.bl hb).cell 1, (X.bl hb).cell 2, (X.bl hb).cell 3, (X.bl hb).cell 4, (Y.bl hb).cell 0, (Y.bl hb).cell 1⟩
 clear g X Y hok hz hv hfr
 obtain ⟨x0, x1, x2, x3, x4, y0, y1⟩ := kk.out W (Below.refl _ _)
 go_enter Tryz.func25, Tryz.ntmps25
 go_wp2_with fail
 clear x0 x1 x2 x3 x4 y0 y1 hW
 obtain ⟨U, hU⟩ : ∃ U, W.alloc (.cells #[.int .i64 (z.1 : Int), .int .i64 (z.2 : Int)] 42) = U := ⟨_, rfl⟩
 have hBU : Below W.heap.size W U := by rw [← hU]; exact bl_alloc (Below.refl _ _) _ (Nat.le_refl _)
 have SU : Blk U W.heap.size 42 #[.int .i64 (z.1 : Int), .int .i64 (z.2 : Int)] := by rw [← hU]; exact Blk.new _ _ _ rfl
 have hP : Pls (fun _ => True) U (some ⟨W.heap.size, 0, none⟩) 1 [z] := by
  refine ⟨rfl, by simp only [maxLen]; omega, fun k x hx => ?_⟩
  obtain rfl : k = 0 := by have := of_getq' hx; simpa using this
  obtain rfl : z = x := by simpa using hx
  exact ⟨W.heap.size, 0, _, rfl, trivial, SU.lt, rfl, fun j u hu => by
   rcases j with _ | _ | j
   ·simp at hu; subst hu; exact SU.cell 0
   ·simp at hu; subst hu; exact SU.cell 1
   simp at hu⟩
 rw [hU]
 refine (senter_any HOK.out (fun y hy => by rw [List.mem_singleton.1 hy]; exact HZ.out) U (HG.out U hBU) hP h1 h2 h3).mono ?_
 rintro e V1 ⟨rfl, b1⟩
 rw [HM.out]
 have HB1 : Hid (Below W.heap.size W V1) := bl_call hBU b1 (Nat.le_refl _)
 clear b1 hU SU hP hBU
 obtain ⟨gM, hgM⟩ : ∃ g, V1.heap.size = g := ⟨_, rfl⟩
 obtain ⟨U1, hU1⟩ : ∃ U, V1.alloc (.cells #[.int .i64 kd, .int .i64 ba, .int .i64 mo, .slice A n ca, .slice B m cb, .func (.func fr) #[] #[]] 104) = U := ⟨_, rfl⟩
 have HBU : Hid (Below W.heap.size W U1) := by rw [Hid, ← hU1]; exact bl_alloc HB1.out _ (Nat.le_refl _)
 have MU : Blk U1 gM 104 #[.int .i64 kd, .int .i64 ba, .int .i64 mo, .slice A n ca, .slice B m cb, .func (.func fr) #[] #[]] := by rw [← hU1]; exact Blk.new _ _ _ hgM.symm
 have m0 := MU.cell 0
 have m1 := MU.cell 1
 have m2 := MU.cell 2
 have m3 := MU.cell 3
 have m4 := MU.cell 4
 have m5 := MU.cell 5
 obtain ⟨x0, x1, x2, x3, x4, y0, y1⟩ := kk.out U1 HBU.out
 go_wp2_with fail
 have HMU := Lib.hid MU
 clear x0 x1 x2 x3 x4 y0 y1 m0 m1 m2 m3 m4 m5 MU hU1 hgM
 have hcut := scut_any HOK.out HZ.out U1 (HG.out U1 HBU.out) (ca := ca) (cb := cb)
 rw [HM.out, HV.out] at hcut
 refine hcut.mono ?_
 rintro e V2 ⟨rfl, b2⟩
 have HC2 : Hid (Below U1.heap.size U1 V2) := b2
 have HB2 : Hid (Below W.heap.size W V2) := bl_call HBU.out b2 (Nat.le_refl _)
 clear b2 hcut
 obtain ⟨gC, hgC⟩ : ∃ g, V2.heap.size = g := ⟨_, rfl⟩
 obtain ⟨U2, hU2⟩ : ∃ U, V2.alloc (.cells #[.int .i64 v0, .int .i64 v1, .int .i64 v2, .int .i64 v3, .int .i64 v4, .int .i64 v5, .int .i64 v6, .int .i64 v7] 108) = U := ⟨_, rfl⟩
 have HBV : Hid (Below W.heap.size W U2) := by rw [Hid, ← hU2]; exact bl_alloc HB2.out _ (Nat.le_refl _)
 have HUU : Hid (Below U1.heap.size U1 U2) := by rw [Hid, ← hU2]; exact bl_alloc HC2.out _ (Nat.le_refl _)
 have CU : Hid (Blk U2 gC 108 #[.int .i64 v0, .int .i64 v1, .int .i64 v2, .int .i64 v3, .int .i64 v4, .int .i64 v5, .int .i64 v6, .int .i64 v7]) := by rw [Hid, ← hU2]; exact Blk.new _ _ _ hgC.symm
 obtain ⟨x0, x1, x2, x3, x4, y0, y1⟩ := kk.out U2 HBV.out
 have hni : (0 : Int) ≤ n := by omega
 have hni8 : (n : Int) ≤ 8 := by omega
 go_wp2_with fail
 clear x0 x1 x2 x3 x4 y0 y1 hU2 hgC
 go_loopw [4, 30] (fun al i wr => ∃ (k cap : Nat) (An : Option Addr), k ≤ m ∧ i = .int .i64 k ∧ al = .slice An k cap ∧ Hid (Below U2.heap.size U2 wr) ∧ Hid (OwnL IntR 1 (fun _ => False) wr U2.heap.size 3 (.slice An k cap) ((falseZ c z).take k))) (fun _ i _ => m - (intOf i).toNat)
 case atStart => exact ⟨0, 0, none, Nat.zero_le _, rfl, rfl, Below.refl _ _, OwnL.nil _ _ _ _ _ _⟩
 case round =>
  obtain ⟨k, cap, An, hk, rfl, rfl, HBr, HOr⟩ := hrel
  have HBW2 : Hid (Below W.heap.size W wr) := bl_call HBV.out HBr.out (Nat.le_refl _)
  by_cases hlt : k < m
  ·have hki : (k : Int) < m := by omega
   obtain ⟨b, off, ra, rz, hA, _, q0, q1, Hx⟩ := Pairs.get (HG.out wr HBW2.out).rs hlt
   subst hA
   obtain ⟨⟨p1, p2⟩, ⟨p3, p4⟩, p5⟩ := HOK.out.roads _ (List.mem_of_getElem? Hx.out)
   dsimp only at p1 p2 p3 p4
   obtain ⟨i, rfl⟩ : ∃ i : Nat, ra = i := ⟨ra.toNat, by omega⟩
   obtain ⟨j, rfl⟩ : ∃ i : Nat, rz = i := ⟨rz.toNat, by omega⟩
   have hil : i < c.hts.length := by omega
   have hjl : j < c.hts.length := by omega
   obtain ⟨gR, hgR⟩ : ∃ g, wr.heap.size = g := ⟨_, rfl⟩
   obtain ⟨U3, hU3⟩ : ∃ U, wr.alloc (.cells #[.int .i64 (i : Int), .int .i64 (j : Int)] 72) = U := ⟨_, rfl⟩
   have RU : Blk U3 gR 72 #[.int .i64 (i : Int), .int .i64 (j : Int)] := by rw [← hU3]; exact Blk.new _ _ _ hgR.symm
   have hB3 : Below wr.heap.size wr U3 := by rw [← hU3]; exact bl_alloc (Below.refl _ _) _ (Nat.le_refl _)
   have HB3 : Hid (Below U2.heap.size U2 U3) := bl_call HBr.out hB3 (Nat.le_refl _)
   have HBW3 : Hid (Below W.heap.size W U3) := bl_call HBV.out HB3.out (Nat.le_refl _)
   have HO3 : Hid (OwnL IntR 1 (fun _ => False) U3 U2.heap.size 3 (.slice An k cap) ((falseZ c z).take k)) := HOr.out.below IntR.good hB3
   have r0 := RU.cell 0
   have r1 := RU.cell 1
   have M3 := HMU.out.bl (bl_call HUU.out HB3.out (Nat.le_refl _))
   have C3 := CU.out.bl HB3.out
   have m0 := M3.cell 0
   have m1 := M3.cell 1
   have m2 := M3.cell 2
   have m3 := M3.cell 3
   have m4 := M3.cell 4
   have m5 := M3.cell 5
   have c0 := C3.cell 0
   have c1 := C3.cell 1
   have c2 := C3.cell 2
   have c3 := C3.cell 3
   have c4 := C3.cell 4
   have c5 := C3.cell 5
   have c6 := C3.cell 6
   have c7 := C3.cell 7
   obtain ⟨x0, x1, x2, x3, x4, y0, y1⟩ := kk.out U3 HBW3.out
   go_wp2_with fail
   clear x0 x1 x2 x3 x4 y0 y1 m0 m1 m2 m3 m4 m5 c0 c1 c2 c3 c4 c5 c6 c7 r0 r1 RU hU3 hB3 M3 C3 q0 q1 hgR
   have hoff := soff_any HOK.out HZ.out hil hjl U3 (HG.out U3 HBW3.out) (ca := ca) (cb := cb)
   rw [HM.out, HV.out] at hoff
   refine hoff.mono ?_
   rintro e V4 ⟨rfl, b4⟩
   obtain ⟨ov, hov⟩ : ∃ x, offR c z ((i : Int), (j : Int)) = x := ⟨_, rfl⟩
   rw [hov]
   have HFX : Hid ((falseZ c z)[k]? = some ov) := by rw [Hid, falseZ, List.getElem?_map, Hx.out]; simp [hov]
   have HB4 : Hid (Below U2.heap.size U2 V4) := bl_call HB3.out b4 (Nat.le_refl _)
   have HO4 : Hid (OwnL IntR 1 (fun _ => False) V4 U2.heap.size 3 (.slice An k cap) ((falseZ c z).take k)) := HO3.out.below IntR.good b4
   have HL4 : Hid (((falseZ c z).take k).length = k) := by rw [Hid, List.length_take, falseZ, List.length_map, HRL.out]; omega
   have hs4 := HB4.out.size
   clear b4 hoff hov
   go_wp2_with (at_builtin; refine wpList_append_n _ rfl (.tmp 34) (.tmp 40) _ rfl IntR.good U2.heap.size 3 iI _ 8 Tryz.underlying22 hiI hzI0 hzI1 hzI2 rfl (by omega) (.slice An k cap) ((falseZ c z).take k) ov k HL4.out rfl (HO4.out.alloc IntR.good _) ⟨_, 0, none⟩ 1 [.int .i64 ov] rfl rfl (news_new rfl rfl) ?c1 ?c2 ?c3 (fun h => h) ?_)
   case c1 => simp only [maxLen]; omega
   case c2 => omega
   case c3 => simp; omega
   intro A' cap' w2 hown2 hg2 hat2
   have HB5 : Hid (Below U2.heap.size U2 w2) := bl_grown (bl_alloc HB4.out _ (Nat.le_refl _)) (HO4.out.alloc IntR.good _) hg2 (Nat.le_refl _) (Nat.le_refl _)
   have HO5 : Hid (OwnL IntR 1 (fun _ => False) w2 U2.heap.size 3 (.slice (some ⟨A', 0, none⟩) (k + 1) cap') ((falseZ c z).take (k + 1))) := by rw [Hid, take_snoc_get HFX.out]; exact hown2
   clear hown2 hg2 hat2
   go_wp2_with fail
   go_roundw
   case rel => exact ⟨k + 1, cap', some ⟨A', 0, none⟩, by omega, by go_num, by simp, HB5, HO5⟩
   case measure => simp [intOf]; omega
  obtain rfl : k = m := by omega
  have HI : Hid (Ints (fun _ => True) wr An k (falseZ c z)) := by
   have h := HOr.out.slice (T := fun _ => True) IntR.good rfl (by simp only [maxLen]; omega) (fun _ h => h.elim) (fun _ _ _ => trivial)
   rwa [List.take_of_length_le (by rw [falseZ, List.length_map, HRL.out]; exact Nat.le_refl _)] at h
  have HBE : Hid (Below w.heap.size w wr) := bl_call hBW HBW2.out (Nat.le_refl _)
  have hki : ¬ (k : Int) < k := by omega
  go_wp2
  go_ret2
  first
   | exact ⟨⟨An, ⟨cap, rfl⟩, HI.out⟩, HBE.out⟩
   | exact ⟨⟨An, HI.out, cap, rfl⟩, HBE.out⟩
open Go.RowKit Go.Shelf
theorem whereL_snoc {α : Type} (p : α → Bool) (x : α) : ∀ (xs : List α) (k : Nat), whereL p (xs ++ [x]) k = whereL p xs k ++ (if p x then [((k + xs.length : Nat) : Int)] else [])
 | [], k => by simp [whereL]
 | y :: xs, k => by
  rw [List.cons_append, whereL, whereL, whereL_snoc p x xs (k + 1), List.length_cons, show k + 1 + xs.length = k + (xs.length + 1) by omega]
  by_cases h : p y
  ·rw [if_pos h, if_pos h, List.cons_append]
  rw [if_neg h, if_neg h]
theorem whereL_take {α : Type} (p : α → Bool) {xs : List α} {k : Nat} {x : α} (h : xs[k]? = some x) : whereL p (xs.take (k + 1)) 0 = whereL p (xs.take k) 0 ++ (if p x then [(k : Int)] else []) := by
 rw [take_snoc_get h, whereL_snoc, Nat.zero_add, List.length_take, Nat.min_eq_left (Nat.le_of_lt (of_getq' h))]
set_option maxRecDepth 100000 in
set_option maxHeartbeats 2000000 in
theorem sflat_any {c : Case5} {A B : Option Addr} {n ca m cb : Nat} {z : Nat × Nat} (hok : Ok5 c) (hz : z ∈ scalesN) (w : World) (g : CaseAt (fun _ => True) w A n B m c) :
  Calls Tryz.prog 66 #[modelV c A n ca B m cb, cutV (cut5 c z)] w fun e w' => (∃ A' n' c', e = .returned (.slice A' n' c') ∧ Ints (fun _ => True) w' A' n' (flatZ c z) ∧ ((flatZ c z = [] ∧ A' = none ∧ n' = 0 ∧ c' = 0) ∨ (flatZ c z ≠ [] ∧ ∃ a, A' = some a))) ∧ Below w.heap.size w w' := by
 have HZ := Lib.hid hz
 have HOK := Lib.hid hok
 have hm8 : m ≤ 8 := by have := hok.nr; have := g.rs.len; omega
 have HRL : Hid (c.roads.length = m) := g.rs.len
 obtain ⟨iI, hiI, hzI0, hzI1, hzI2⟩ := info_parts infoInt5
 obtain ⟨v0, v1, v2, v3, v4, v5, v6, v7, hv⟩ := cutV_8 (cut5 c z)
 obtain ⟨kd, hkd⟩ : ∃ x, c.kind = x := ⟨_, rfl⟩
 obtain ⟨ba, hba⟩ : ∃ x, c.base = x := ⟨_, rfl⟩
 obtain ⟨mo, hmo⟩ : ∃ x, c.most = x := ⟨_, rfl⟩
 obtain ⟨fr, hfr⟩ : ∃ x, roundF c.kind = x := ⟨_, rfl⟩
 have HM : Hid (modelV c A n ca B m cb = .agg #[.int .i64 kd, .int .i64 ba, .int .i64 mo, .slice A n ca, .slice B m cb, .func (.func fr) #[] #[]]) := by rw [Hid, modelV, hfr, hkd, hba, hmo]
 have HV := Lib.hid hv
 rw [HM.out, HV.out]
 obtain ⟨W, hW⟩ : ∃ W, (w.alloc (.cells #[.int .i64 kd, .int .i64 ba, .int .i64 mo, .slice A n ca, .slice B m cb, .func (.func fr) #[] #[]] 104)).alloc (.cells #[.int .i64 v0, .int .i64 v1, .int .i64 v2, .int .i64 v3, .int .i64 v4, .int .i64 v5, .int .i64 v6, .int .i64 v7] 108) = W := ⟨_, rfl⟩
 have X : Blk W w.heap.size 104 #[.int .i64 kd, .int .i64 ba, .int .i64 mo, .slice A n ca, .slice B m cb, .func (.func fr) #[] #[]] := by rw [← hW]; exact (Blk.new _ _ _ rfl).alloc _
 have Y : Blk W (w.heap.size + 1) 108 #[.int .i64 v0, .int .i64 v1, .int .i64 v2, .int .i64 v3, .int .i64 v4, .int .i64 v5, .int .i64 v6, .int .i64 v7] := by rw [← hW]; exact Blk.new _ _ _ (by simp)
 have hBW : Below w.heap.size w W := by rw [← hW]; exact bl_alloc (bl_alloc (Below.refl _ _) _ (Nat.le_refl _)) _ (Nat.le_refl _)
 have HG : Hid (∀ V, Below W.heap.size W V → CaseAt (fun _ => True) V A n B m c) := fun V hb => (g.bl hBW).bl hb
 have HX := Lib.hid X
 have HY := Lib.hid Y
 have x3 := X.cell 3
 have x4 := X.cell 4
 have sX := X.lt
 have sY := Y.lt
 clear g X Y hok hz hv hkd hba hmo hfr
 go_enter Tryz.func66, Tryz.ntmps66
 go_wp2_with fail
 clear x3 x4 hW
 go_loopw [4, 13] (fun al i wr => ∃ (k n' cap : Nat) (An : Option Addr), k ≤ m ∧ n' ≤ k ∧ i = .int .i64 k ∧ al = .slice An n' cap ∧ Hid (Below W.heap.size W wr) ∧ Hid (OwnL IntR 1 (fun _ => False) wr W.heap.size 3 (.slice An n' cap) (whereL (flatB c z) (c.roads.take k) 0)) ∧ Hid ((whereL (flatB c z) (c.roads.take k) 0).length = n') ∧ Hid ((n' = 0 ∧ An = none ∧ cap = 0) ∨ (n' ≠ 0 ∧ ∃ a, An = some a))) (fun _ i _ => m - (intOf i).toNat)
 case atStart => exact ⟨0, 0, 0, none, Nat.zero_le _, Nat.le_refl _, rfl, rfl, Below.refl _ _, OwnL.nil _ _ _ _ _ _, rfl, .inl ⟨rfl, rfl, rfl⟩⟩
 case round =>
  obtain ⟨k, n', cap, An, hk, hn', rfl, rfl, HBr, HOr, HLr, HCr⟩ := hrel
  by_cases hlt : k < m
  ·have hki : (k : Int) < m := by omega
   obtain ⟨b, off, ra, rz, hA, _, q0, q1, Hx⟩ := Pairs.get (HG.out wr HBr.out).rs hlt
   subst hA
   obtain ⟨⟨p1, p2⟩, ⟨p3, p4⟩, p5⟩ := HOK.out.roads _ (List.mem_of_getElem? Hx.out)
   dsimp only at p1 p2 p3 p4
   obtain ⟨i, rfl⟩ : ∃ i : Nat, ra = i := ⟨ra.toNat, by omega⟩
   obtain ⟨j, rfl⟩ : ∃ i : Nat, rz = i := ⟨rz.toNat, by omega⟩
   have hil : i < c.hts.length := by omega
   have hjl : j < c.hts.length := by omega
   obtain ⟨gR, hgR⟩ : ∃ g, wr.heap.size = g := ⟨_, rfl⟩
   obtain ⟨U3, hU3⟩ : ∃ U, wr.alloc (.cells #[.int .i64 (i : Int), .int .i64 (j : Int)] 72) = U := ⟨_, rfl⟩
   have RU : Blk U3 gR 72 #[.int .i64 (i : Int), .int .i64 (j : Int)] := by rw [← hU3]; exact Blk.new _ _ _ hgR.symm
   have hB3 : Below wr.heap.size wr U3 := by rw [← hU3]; exact bl_alloc (Below.refl _ _) _ (Nat.le_refl _)
   have HB3 : Hid (Below W.heap.size W U3) := bl_call HBr.out hB3 (Nat.le_refl _)
   have HO3 : Hid (OwnL IntR 1 (fun _ => False) U3 W.heap.size 3 (.slice An n' cap) (whereL (flatB c z) (c.roads.take k) 0)) := HOr.out.below IntR.good hB3
   have r0 := RU.cell 0
   have r1 := RU.cell 1
   have M3 := HX.out.bl HB3.out
   have C3 := HY.out.bl HB3.out
   have m0 := M3.cell 0
   have m1 := M3.cell 1
   have m2 := M3.cell 2
   have m3 := M3.cell 3
   have m4 := M3.cell 4
   have m5 := M3.cell 5
   have c0 := C3.cell 0
   have c1 := C3.cell 1
   have c2 := C3.cell 2
   have c3 := C3.cell 3
   have c4 := C3.cell 4
   have c5 := C3.cell 5
   have c6 := C3.cell 6
   have c7 := C3.cell 7
   go_wp2_with fail
   clear m0 m1 m2 m3 m4 m5 c0 c1 c2 c3 c4 c5 c6 c7 r0 r1 RU hU3 hB3 M3 C3 q0 q1 hgR
   have hrs := srises_any HOK.out HZ.out hil hjl U3 (HG.out U3 HB3.out) (ca := ca) (cb := cb)
   rw [HM.out, HV.out] at hrs
   refine hrs.mono ?_
   rintro e V4 ⟨rfl, b4⟩
   have HFX : Hid (whereL (flatB c z) (c.roads.take (k + 1)) 0 = whereL (flatB c z) (c.roads.take k) 0 ++ (if flatB c z ((i : Int), (j : Int)) then [(k : Int)] else [])) := whereL_take _ Hx.out
   have HFB : Hid (flatB c z ((i : Int), (j : Int)) = ((riseR c ((i : Int), (j : Int)) != 0) && (byR c z ((i : Int), (j : Int)) == 0))) := rfl
   obtain ⟨ri, hri⟩ : ∃ x, riseR c ((i : Int), (j : Int)) = x := ⟨_, rfl⟩
   obtain ⟨by_, hby⟩ : ∃ x, byR c z ((i : Int), (j : Int)) = x := ⟨_, rfl⟩
   rw [hri, hby]
   rw [hri, hby] at HFB
   have HB4 : Hid (Below W.heap.size W V4) := bl_call HB3.out b4 (Nat.le_refl _)
   have HO4 : Hid (OwnL IntR 1 (fun _ => False) V4 W.heap.size 3 (.slice An n' cap) (whereL (flatB c z) (c.roads.take k) 0)) := HO3.out.below IntR.good b4
   have hs4 := HB4.out.size
   clear b4 hrs hri hby
   by_cases hr0 : ri = 0
   ·subst hr0
    have HN : Hid (whereL (flatB c z) (c.roads.take (k + 1)) 0 = whereL (flatB c z) (c.roads.take k) 0) := by rw [Hid, HFX.out, HFB.out]; simp
    go_wp2_with fail
    go_roundw
    case rel => exact ⟨k + 1, n', cap, An, by omega, by omega, by go_num, rfl, HB4, by rw [HN.out]; exact HO4, by rw [HN.out]; exact HLr, HCr⟩
    case measure => simp [intOf]; omega
   have hrb : (ri != 0) = true := by simpa using hr0
   by_cases hb0 : by_ = 0
   ·subst hb0
    have HN : Hid (whereL (flatB c z) (c.roads.take (k + 1)) 0 = whereL (flatB c z) (c.roads.take k) 0 ++ [(k : Int)]) := by rw [Hid, HFX.out, HFB.out]; simp [hr0]
    go_wp2_with (at_builtin; refine wpList_append_n _ rfl (.tmp 31) (.tmp 33) _ rfl IntR.good W.heap.size 3 iI _ 8 Tryz.underlying22 hiI hzI0 hzI1 hzI2 rfl (by omega) (.slice An n' cap) (whereL (flatB c z) (c.roads.take k) 0) (k : Int) n' HLr.out rfl (HO4.out.alloc IntR.good _) ⟨_, 0, none⟩ 1 [.int .i64 (k : Int)] rfl rfl (news_new rfl rfl) ?c1 ?c2 ?c3 (fun h => h) ?_)
    case c1 => simp only [maxLen]; omega
    case c2 => omega
    case c3 => simp; omega
    intro A' cap' w2 hown2 hg2 hat2
    have HB5 : Hid (Below W.heap.size W w2) := bl_grown (bl_alloc HB4.out _ (Nat.le_refl _)) (HO4.out.alloc IntR.good _) hg2 (Nat.le_refl _) (Nat.le_refl _)
    have HO5 : Hid (OwnL IntR 1 (fun _ => False) w2 W.heap.size 3 (.slice (some ⟨A', 0, none⟩) (n' + 1) cap') (whereL (flatB c z) (c.roads.take (k + 1)) 0)) := by rw [Hid, HN.out]; exact hown2
    have HL5 : Hid ((whereL (flatB c z) (c.roads.take (k + 1)) 0).length = n' + 1) := by rw [Hid, HN.out, List.length_append, HLr.out]; rfl
    clear hown2 hg2 hat2
    go_wp2_with fail
    go_roundw
    case rel => exact ⟨k + 1, n' + 1, cap', some ⟨A', 0, none⟩, by omega, by omega, by go_num, by simp, HB5, HO5, HL5, .inr ⟨by omega, _, rfl⟩⟩
    case measure => simp [intOf]; omega
   have hbb : (by_ == 0) = false := by simpa using hb0
   have HN : Hid (whereL (flatB c z) (c.roads.take (k + 1)) 0 = whereL (flatB c z) (c.roads.take k) 0) := by rw [Hid, HFX.out, HFB.out]; simp [hb0]
   go_wp2_with fail
   go_roundw
   case rel => exact ⟨k + 1, n', cap, An, by omega, by omega, by go_num, rfl, HB4, by rw [HN.out]; exact HO4, by rw [HN.out]; exact HLr, HCr⟩
   case measure => simp [intOf]; omega
  obtain rfl : k = m := by omega
  have HE : Hid (whereL (flatB c z) (c.roads.take k) 0 = flatZ c z) := by rw [Hid, List.take_of_length_le (by rw [HRL.out]; exact Nat.le_refl _)]; rfl
  have HI : Hid (Ints (fun _ => True) wr An n' (flatZ c z)) := by
   have h := HOr.out.slice (T := fun _ => True) IntR.good rfl (by simp only [maxLen]; omega) (fun _ h => h.elim) (fun _ _ _ => trivial)
   rwa [HE.out] at h
  have HBE : Hid (Below w.heap.size w wr) := bl_call hBW HBr.out (Nat.le_refl _)
  have HC2 : Hid ((flatZ c z = [] ∧ An = none ∧ n' = 0 ∧ cap = 0) ∨ (flatZ c z ≠ [] ∧ ∃ a, An = some a)) := by
   have h := HLr.out
   rw [HE.out] at h
   rcases HCr.out with ⟨h1, h2, h3⟩ | ⟨h1, h2⟩
   ·exact .inl ⟨List.length_eq_zero_iff.1 (h.trans h1), h2, h1, h3⟩
   exact .inr ⟨fun e => h1 (by rw [← h, e]; rfl), h2⟩
  have hki : ¬ (k : Int) < k := by omega
  go_wp2
  go_ret
  exact ⟨⟨An, n', cap, rfl, HI.out, HC2.out⟩, HBE.out⟩
end Go.Proofs.YtcnebekkbfajbaaGreat
