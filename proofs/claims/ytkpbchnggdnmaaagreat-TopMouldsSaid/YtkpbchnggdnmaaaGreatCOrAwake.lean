/- A part of the proof that TopMoulds always answers true. -/
import Derived.Test.YtkpbchnggdnmaaaGreatCOrEx
import Derived.Test.YtkpbchnggdnmaaaGreatCOrLaw
set_option linter.all false
namespace Go.Proofs.YtkpbchnggdnmaaaGreat
open Go.RowKit Go.Shelf
theorem pairs_blk {w : World} {g n : Nat} {t : TypeId} {xs : List (Int × Int)} {cs : Array Value} (h : Blk w g t cs) (hl : xs.length = n) (hn : n ≤ maxLen) (hc : ∀ (k : Nat) (x : Int × Int), xs[k]? = some x → cs[k * 2]? = some (.int .i64 x.1) ∧ cs[k * 2 + 1]? = some (.int .i64 x.2)) : Pairs (fun _ => True) w (some ⟨g, 0, none⟩) n xs := by
 refine ⟨hl, hn, fun k x hx => ⟨g, 0, [.int .i64 x.1, .int .i64 x.2], rfl, trivial, h.lt, rfl, fun j u hu => ?_⟩⟩
 obtain ⟨h1, h2⟩ := hc k x hx
 match j, hu with
 | 0, hu =>
  simp at hu
  subst hu
  have := h.cell (k * 2)
  simpa [h1] using this
 | 1, hu =>
  simp at hu
  subst hu
  have := h.cell (k * 2 + 1)
  simpa [h2] using this
 | j + 2, hu => simp at hu
set_option maxRecDepth 100000 in
set_option maxHeartbeats 4000000 in
theorem awake11_any (w : World) :
  Calls Tryz.prog 7 #[] w fun e w' => e = .returned (.bool true) ∧ Below w.heap.size w w' := by
 have hok := ex11_ok
 go_enter Tryz.func7, Tryz.ntmps7
 go_wp2_with fail
 refine (shop11_any w).mono ?_
 rintro e W1 ⟨⟨a, b, c, rfl, hs⟩, b1⟩
 obtain ⟨V0, hV0⟩ : ∃ V, W1.alloc (.cells #[.slice (some a) 5 5, .slice (some b) 2 2, .slice (some c) 4 4] 31) = V := ⟨_, rfl⟩
 obtain ⟨gS, hgS⟩ : ∃ q, W1.heap.size = q := ⟨_, rfl⟩
 have X1 : Blk V0 gS 31 #[.slice (some a) 5 5, .slice (some b) 2 2, .slice (some c) 4 4] := by rw [← hV0]; exact Blk.new _ _ _ hgS.symm
 have h10 : Below W1.heap.size W1 V0 := by rw [← hV0]; exact bl_alloc (Below.refl _ _) _ (Nat.le_refl _)
 have HG : Hid (∀ V, Below V0.heap.size V0 V → ShopO (fun _ => True) V (some a) 5 (some b) 2 (some c) 4 exShop11) := fun V hb => (hs.bl h10).bl hb
 have HB0 : Hid (∀ V, Below V0.heap.size V0 V → Below w.heap.size w V) := fun V hb => bl_call (bl_call b1 h10 (Nat.le_refl _)) hb (Nat.le_refl _)
 have kk : Hid (∀ V, Below V0.heap.size V0 V → V.cell? ⟨gS, 0, none⟩ = some (.slice (some a) 5 5) ∧ V.cell? ⟨gS, 1, none⟩ = some (.slice (some b) 2 2) ∧ V.cell? ⟨gS, 2, none⟩ = some (.slice (some c) 4 4)) := fun V hb => ⟨(X1.bl hb).cell 0, (X1.bl hb).cell 1, (X1.bl hb).cell 2⟩
 have HL0 : Hid (Below V0.heap.size V0 V0) := Below.refl _ _
 have HOK := Lib.hid hok
 clear hs b1 h10 X1 hok
 obtain ⟨k0, k1, k2⟩ := kk.out V0 HL0.out
 obtain ⟨U0, hU0⟩ : ∃ U, V0.alloc (.cells #[.int .i64 0, .int .i64 1, .int .i64 2, .int .i64 3] 3) = U := ⟨_, rfl⟩
 have t0 : Ints (fun _ => True) U0 (some ⟨V0.heap.size, 0, none⟩) 4 [0, 1, 2, 3] := by rw [← hU0]; exact ints_blk (Blk.new _ _ _ rfl) rfl (by decide)
 have u0 : Below V0.heap.size V0 U0 := by rw [← hU0]; exact bl_alloc (Below.refl _ _) _ (Nat.le_refl _)
 have HM0 : Hid (Below V0.heap.size V0 U0) := bl_call HL0.out u0 (Nat.le_refl _)
 have hc0 := (by have h := oLate_any (hc := 5) (pc := 2) (oc := 4) (tc := 4) HOK.out (Nat.le_refl _) ex11_t4 U0 (HG.out U0 HM0.out) t0 (by rw [ex11_late]; decide); rw [ex11_late] at h; exact h : Calls Tryz.prog 31 #[.agg #[.slice (some a) 5 5, .slice (some b) 2 2, .slice (some c) 4 4], .slice (some ⟨V0.heap.size, 0, none⟩) 4 4] U0 fun e w' => e = .returned (.tuple #[.int .i64 3, .int .i64 5, .int .i64 0]) ∧ Below U0.heap.size U0 w')
 have HC0 := Lib.hid hc0
 have HU0 := Lib.hid u0
 clear hc0 u0 t0
 go_wp2_with fail
 first | rw [hgS] | skip
 clear hgS hV0
 refine HC0.out.mono ?_
 rintro e V1 ⟨rfl, b0⟩
 have HB1 : Hid (Below V0.heap.size V0 V1) := bl_call HU0.out b0 (Nat.le_refl _)
 have HL1 : Hid (Below V0.heap.size V0 V1) := bl_call HL0.out HB1.out (Nat.le_refl _)
 clear k0 k1 k2 b0 HC0 hU0
 obtain ⟨k0, k1, k2⟩ := kk.out V1 HL1.out
 obtain ⟨U1, hU1⟩ : ∃ U, V1.alloc (.cells #[.int .i64 0, .int .i64 1, .int .i64 2] 3) = U := ⟨_, rfl⟩
 have t1 : Ints (fun _ => True) U1 (some ⟨V1.heap.size, 0, none⟩) 3 [0, 1, 2] := by rw [← hU1]; exact ints_blk (Blk.new _ _ _ rfl) rfl (by decide)
 have u1 : Below V1.heap.size V1 U1 := by rw [← hU1]; exact bl_alloc (Below.refl _ _) _ (Nat.le_refl _)
 have HM1 : Hid (Below V0.heap.size V0 U1) := bl_call HL1.out u1 (Nat.le_refl _)
 have hc1 := oneeded_any (hc := 5) (pc := 2) (oc := 4) (tc := 3) HOK.out (Nat.le_refl _) ex11_t3 U1 (HG.out U1 HM1.out) t1
 have HC1 := Lib.hid hc1
 have HU1 := Lib.hid u1
 clear hc1 u1 t1
 go_wp2_with fail
 refine HC1.out.mono ?_
 rintro e V2 ⟨⟨An, cn, rfl, hn⟩, b1⟩
 have HB2 : Hid (Below V1.heap.size V1 V2) := bl_call HU1.out b1 (Nat.le_refl _)
 have HL2 : Hid (Below V0.heap.size V0 V2) := bl_call HL1.out HB2.out (Nat.le_refl _)
 have H_n : Hid (Ints (fun _ => True) V2 An 2 (neededR exShop11 (ordsL exShop11 [0, 1, 2]))) := hn
 rw [ex11_needed] at H_n
 clear k0 k1 k2 b1 HC1 hU1
 obtain ⟨k0, k1, k2⟩ := kk.out V2 HL2.out
 obtain ⟨U2, hU2⟩ : ∃ U, V2.alloc (.cells #[.int .i64 0, .int .i64 1, .int .i64 2] 3) = U := ⟨_, rfl⟩
 have t2 : Ints (fun _ => True) U2 (some ⟨V2.heap.size, 0, none⟩) 3 [0, 1, 2] := by rw [← hU2]; exact ints_blk (Blk.new _ _ _ rfl) rfl (by decide)
 have u2 : Below V2.heap.size V2 U2 := by rw [← hU2]; exact bl_alloc (Below.refl _ _) _ (Nat.le_refl _)
 have HM2 : Hid (Below V0.heap.size V0 U2) := bl_call HL2.out u2 (Nat.le_refl _)
 have hc2 := oPlan_any (hc := 5) (pc := 2) (oc := 4) (tc := 3) HOK.out (Nat.le_refl _) ex11_t3 U2 (HG.out U2 HM2.out) t2 rfl (ords_ok HOK.out ex11_t3) (ords_len HOK.out ex11_t3) (by rw [ex11_can]) ex11_list ex11_in (by decide) (by decide)
 have HC2 := Lib.hid hc2
 have HU2 := Lib.hid u2
 clear hc2 u2 t2
 go_wp2_with fail
 refine HC2.out.mono ?_
 rintro e V3 ⟨⟨Ap, np, cp, rfl, hp⟩, b2⟩
 have HB3 : Hid (Below V2.heap.size V2 V3) := bl_call HU2.out b2 (Nat.le_refl _)
 have HL3 : Hid (Below V0.heap.size V0 V3) := bl_call HL2.out HB3.out (Nat.le_refl _)
 replace H_n : Hid (Ints (fun _ => True) V3 An 2 [1, 3]) := H_n.out.keep IntR.good (Keeps.below HB3.out)
 have H_p : Hid (Pairs (fun _ => True) V3 Ap np (planO exShop11 exL)) := hp.mono PairR.good (fun _ _ => trivial)
 rw [ex11_plan] at H_p
 have hnp : np = 4 := H_p.out.len.symm
 subst hnp
 clear k0 k1 k2 b2 HC2 hU2
 obtain ⟨k0, k1, k2⟩ := kk.out V3 HL3.out
 obtain ⟨U3, hU3⟩ : ∃ U, V3.alloc (.cells #[.int .i64 0, .int .i64 1, .int .i64 2] 3) = U := ⟨_, rfl⟩
 have t3 : Ints (fun _ => True) U3 (some ⟨V3.heap.size, 0, none⟩) 3 [0, 1, 2] := by rw [← hU3]; exact ints_blk (Blk.new _ _ _ rfl) rfl (by decide)
 have u3 : Below V3.heap.size V3 U3 := by rw [← hU3]; exact bl_alloc (Below.refl _ _) _ (Nat.le_refl _)
 have HM3 : Hid (Below V0.heap.size V0 U3) := bl_call HL3.out u3 (Nat.le_refl _)
 have hc3 := oKept_any (hc := 5) (pc := 2) (oc := 4) (tc := 3) (part := 1) HOK.out (Nat.le_refl _) ex11_t3 U3 (HG.out U3 HM3.out) t3 rfl (ords_ok HOK.out ex11_t3) (ords_len HOK.out ex11_t3) (by rw [ex11_can]) ex11_list ex11_in (by decide) (by decide) ex11_plan (by decide) (by decide)
 have HC3 := Lib.hid hc3
 have HU3 := Lib.hid u3
 clear hc3 u3 t3
 go_wp2_with fail
 refine HC3.out.mono ?_
 rintro e V4 ⟨⟨Ak, ck, rfl, hk⟩, b3⟩
 have HB4 : Hid (Below V3.heap.size V3 V4) := bl_call HU3.out b3 (Nat.le_refl _)
 have HL4 : Hid (Below V0.heap.size V0 V4) := bl_call HL3.out HB4.out (Nat.le_refl _)
 replace H_n : Hid (Ints (fun _ => True) V4 An 2 [1, 3]) := H_n.out.keep IntR.good (Keeps.below HB4.out)
 replace H_p : Hid (Pairs (fun _ => True) V4 Ap 4 [(0, 0), (1, 1), (1, 1), (1, 3)]) := H_p.out.keep PairR.good (Keeps.below HB4.out)
 have H_k : Hid (Ints (fun _ => True) V4 Ak 5 (keptR exShop11 (ordsL exShop11 [0, 1, 2]) [(0, 0), (1, 1), (1, 1), (1, 3)] 1 5)) := hk
 rw [ex11_kept] at H_k
 clear k0 k1 k2 b3 HC3 hU3
 obtain ⟨k0, k1, k2⟩ := kk.out V4 HL4.out
 obtain ⟨U4, hU4⟩ : ∃ U, V4.alloc (.cells #[.int .i64 1, .int .i64 2, .int .i64 3] 3) = U := ⟨_, rfl⟩
 have t4 : Ints (fun _ => True) U4 (some ⟨V4.heap.size, 0, none⟩) 3 [1, 2, 3] := by rw [← hU4]; exact ints_blk (Blk.new _ _ _ rfl) rfl (by decide)
 have u4 : Below V4.heap.size V4 U4 := by rw [← hU4]; exact bl_alloc (Below.refl _ _) _ (Nat.le_refl _)
 have HM4 : Hid (Below V0.heap.size V0 U4) := bl_call HL4.out u4 (Nat.le_refl _)
 have hc4 := oProm_any (hc := 5) (pc := 2) (oc := 4) (tc := 3) (part := 1) (many := 3) HOK.out (Nat.le_refl _) ex11_u3 U4 (HG.out U4 HM4.out) t4 rfl (ords_ok HOK.out ex11_u3) (by decide) (by decide) (by decide) ex11_prom
 have HC4 := Lib.hid hc4
 have HU4 := Lib.hid u4
 clear hc4 u4 t4
 go_wp2_with fail
 refine HC4.out.mono ?_
 rintro e V5 ⟨rfl, b4⟩
 have HB5 : Hid (Below V4.heap.size V4 V5) := bl_call HU4.out b4 (Nat.le_refl _)
 have HL5 : Hid (Below V0.heap.size V0 V5) := bl_call HL4.out HB5.out (Nat.le_refl _)
 replace H_n : Hid (Ints (fun _ => True) V5 An 2 [1, 3]) := H_n.out.keep IntR.good (Keeps.below HB5.out)
 replace H_p : Hid (Pairs (fun _ => True) V5 Ap 4 [(0, 0), (1, 1), (1, 1), (1, 3)]) := H_p.out.keep PairR.good (Keeps.below HB5.out)
 replace H_k : Hid (Ints (fun _ => True) V5 Ak 5 [0, 2, 2, 4, 1]) := H_k.out.keep IntR.good (Keeps.below HB5.out)
 clear k0 k1 k2 b4 HC4 hU4
 obtain ⟨k0, k1, k2⟩ := kk.out V5 HL5.out
 have u5 : Below V5.heap.size V5 V5 := Below.refl _ _
 have HM5 : Hid (Below V0.heap.size V0 V5) := bl_call HL5.out u5 (Nat.le_refl _)
 have hc5 := (by have h := oBest_any (hc := 5) (pc := 2) (oc := 4) HOK.out (Nat.le_refl _) V5 (HG.out V5 HM5.out); rw [ex11_best] at h; exact h : Calls Tryz.prog 35 #[.agg #[.slice (some a) 5 5, .slice (some b) 2 2, .slice (some c) 4 4]] V5 fun e w' => (∃ A' c', e = .returned (.tuple #[.slice A' 3 c', .int .i64 220, .int .i64 0]) ∧ Ints (fun _ => True) w' A' 3 [1, 2, 3]) ∧ Below V5.heap.size V5 w')
 have HC5 := Lib.hid hc5
 have HU5 := Lib.hid u5
 clear hc5 u5
 go_wp2_with fail
 refine HC5.out.mono ?_
 rintro e V6 ⟨⟨Ab, cb, rfl, hb⟩, b5⟩
 have HB6 : Hid (Below V5.heap.size V5 V6) := bl_call HU5.out b5 (Nat.le_refl _)
 have HL6 : Hid (Below V0.heap.size V0 V6) := bl_call HL5.out HB6.out (Nat.le_refl _)
 replace H_n : Hid (Ints (fun _ => True) V6 An 2 [1, 3]) := H_n.out.keep IntR.good (Keeps.below HB6.out)
 replace H_p : Hid (Pairs (fun _ => True) V6 Ap 4 [(0, 0), (1, 1), (1, 1), (1, 3)]) := H_p.out.keep PairR.good (Keeps.below HB6.out)
 replace H_k : Hid (Ints (fun _ => True) V6 Ak 5 [0, 2, 2, 4, 1]) := H_k.out.keep IntR.good (Keeps.below HB6.out)
 have H_b : Hid (Ints (fun _ => True) V6 Ab 3 [1, 2, 3]) := hb
 clear k0 k1 k2 b5 HC5
 obtain ⟨k0, k1, k2⟩ := kk.out V6 HL6.out
 have u6 : Below V6.heap.size V6 V6 := Below.refl _ _
 have HM6 : Hid (Below V0.heap.size V0 V6) := bl_call HL6.out u6 (Nat.le_refl _)
 have hc6 := (by have h := oCosts_any (hc := 5) (pc := 2) (oc := 4) (oi := 1) (bu := 2) (wo := 40) HOK.out (Nat.le_refl _) V6 (HG.out V6 HM6.out) (by decide) rfl and_two rfl ex11_cost.2; rw [ex11_cost.1] at h; exact h : Calls Tryz.prog 36 #[.agg #[.slice (some a) 5 5, .slice (some b) 2 2, .slice (some c) 4 4], .int .i64 1] V6 fun e w' => e = .returned (.tuple #[.int .i64 30, .int .i64 0]) ∧ Below V6.heap.size V6 w')
 have HC6 := Lib.hid hc6
 have HU6 := Lib.hid u6
 clear hc6 u6
 go_wp2_with fail
 refine HC6.out.mono ?_
 rintro e V7 ⟨rfl, b6⟩
 have HB7 : Hid (Below V6.heap.size V6 V7) := bl_call HU6.out b6 (Nat.le_refl _)
 have HL7 : Hid (Below V0.heap.size V0 V7) := bl_call HL6.out HB7.out (Nat.le_refl _)
 replace H_n : Hid (Ints (fun _ => True) V7 An 2 [1, 3]) := H_n.out.keep IntR.good (Keeps.below HB7.out)
 replace H_p : Hid (Pairs (fun _ => True) V7 Ap 4 [(0, 0), (1, 1), (1, 1), (1, 3)]) := H_p.out.keep PairR.good (Keeps.below HB7.out)
 replace H_k : Hid (Ints (fun _ => True) V7 Ak 5 [0, 2, 2, 4, 1]) := H_k.out.keep IntR.good (Keeps.below HB7.out)
 replace H_b : Hid (Ints (fun _ => True) V7 Ab 3 [1, 2, 3]) := H_b.out.keep IntR.good (Keeps.below HB7.out)
 clear k0 k1 k2 b6 HC6
 obtain ⟨k0, k1, k2⟩ := kk.out V7 HL7.out
 obtain ⟨U7, hU7⟩ : ∃ U, V7.alloc (.cells #[.int .i64 1, .int .i64 2, .int .i64 3] 3) = U := ⟨_, rfl⟩
 have t7 : Ints (fun _ => True) U7 (some ⟨V7.heap.size, 0, none⟩) 3 [1, 2, 3] := by rw [← hU7]; exact ints_blk (Blk.new _ _ _ rfl) rfl (by decide)
 have u7 : Below V7.heap.size V7 U7 := by rw [← hU7]; exact bl_alloc (Below.refl _ _) _ (Nat.le_refl _)
 have HM7 : Hid (Below V0.heap.size V0 U7) := bl_call HL7.out u7 (Nat.le_refl _)
 have hc7 := oProm_any (hc := 5) (pc := 2) (oc := 4) (tc := 3) (part := 0) (many := 3) HOK.out (Nat.le_refl _) ex11_u3 U7 (HG.out U7 HM7.out) t7 rfl (ords_ok HOK.out ex11_u3) (by decide) (by decide) (by decide) ex11_down
 have HC7 := Lib.hid hc7
 have HU7 := Lib.hid u7
 clear hc7 u7 t7
 go_wp2_with fail
 refine HC7.out.mono ?_
 rintro e V8 ⟨rfl, b7⟩
 have HB8 : Hid (Below V7.heap.size V7 V8) := bl_call HU7.out b7 (Nat.le_refl _)
 have HL8 : Hid (Below V0.heap.size V0 V8) := bl_call HL7.out HB8.out (Nat.le_refl _)
 replace H_n : Hid (Ints (fun _ => True) V8 An 2 [1, 3]) := H_n.out.keep IntR.good (Keeps.below HB8.out)
 replace H_p : Hid (Pairs (fun _ => True) V8 Ap 4 [(0, 0), (1, 1), (1, 1), (1, 3)]) := H_p.out.keep PairR.good (Keeps.below HB8.out)
 replace H_k : Hid (Ints (fun _ => True) V8 Ak 5 [0, 2, 2, 4, 1]) := H_k.out.keep IntR.good (Keeps.below HB8.out)
 replace H_b : Hid (Ints (fun _ => True) V8 Ab 3 [1, 2, 3]) := H_b.out.keep IntR.good (Keeps.below HB8.out)
 clear k0 k1 k2 b7 HC7 hU7
 have HFV8 : Hid (Below V0.heap.size V0 V8) := HL8.out
 obtain ⟨Y1, hY1⟩ : ∃ U, V8.alloc (.cells #[.int .i64 1, .int .i64 3] 3) = U := ⟨_, rfl⟩
 have tY1 : Hid (Ints (fun _ => True) Y1 (some ⟨V8.heap.size, 0, none⟩) 2 [1, 3]) := by rw [Hid, ← hY1]; exact ints_blk (Blk.new _ _ _ rfl) rfl (by decide)
 have uY1 : Hid (Below V8.heap.size V8 Y1) := by rw [Hid, ← hY1]; exact bl_alloc (Below.refl _ _) _ (Nat.le_refl _)
 replace H_n : Hid (Ints (fun _ => True) Y1 An 2 [1, 3]) := H_n.out.keep IntR.good (Keeps.below uY1.out)
 replace H_p : Hid (Pairs (fun _ => True) Y1 Ap 4 [(0, 0), (1, 1), (1, 1), (1, 3)]) := H_p.out.keep PairR.good (Keeps.below uY1.out)
 replace H_k : Hid (Ints (fun _ => True) Y1 Ak 5 [0, 2, 2, 4, 1]) := H_k.out.keep IntR.good (Keeps.below uY1.out)
 replace H_b : Hid (Ints (fun _ => True) Y1 Ab 3 [1, 2, 3]) := H_b.out.keep IntR.good (Keeps.below uY1.out)
 go_wp2_with fail
 refine (ints_any Y1 H_n.out tY1.out).mono ?_
 rintro e Z1 ⟨rfl, q, hq⟩
 rw [decide_eq_true rfl]
 have vY1 : Hid (Below Y1.heap.size Y1 Z1) := by rw [Hid, hq]; exact bl_drewN (Below.refl _ _) q
 have HFZ1 : Hid (Below V0.heap.size V0 Z1) := bl_call (bl_call HFV8.out uY1.out (Nat.le_refl _)) vY1.out (Nat.le_refl _)
 replace H_n : Hid (Ints (fun _ => True) Z1 An 2 [1, 3]) := H_n.out.keep IntR.good (Keeps.below vY1.out)
 replace H_p : Hid (Pairs (fun _ => True) Z1 Ap 4 [(0, 0), (1, 1), (1, 1), (1, 3)]) := H_p.out.keep PairR.good (Keeps.below vY1.out)
 replace H_k : Hid (Ints (fun _ => True) Z1 Ak 5 [0, 2, 2, 4, 1]) := H_k.out.keep IntR.good (Keeps.below vY1.out)
 replace H_b : Hid (Ints (fun _ => True) Z1 Ab 3 [1, 2, 3]) := H_b.out.keep IntR.good (Keeps.below vY1.out)
 clear hq hY1 tY1 uY1 vY1
 have hcc0 := ocast38_any 0 0 Z1
 go_wp2_with fail
 refine hcc0.mono ?_
 rintro e C0 ⟨rfl, hb0⟩
 have HFC0 : Hid (Below V0.heap.size V0 C0) := bl_call HFZ1.out hb0 (Nat.le_refl _)
 replace H_n : Hid (Ints (fun _ => True) C0 An 2 [1, 3]) := H_n.out.keep IntR.good (Keeps.below hb0)
 replace H_p : Hid (Pairs (fun _ => True) C0 Ap 4 [(0, 0), (1, 1), (1, 1), (1, 3)]) := H_p.out.keep PairR.good (Keeps.below hb0)
 replace H_k : Hid (Ints (fun _ => True) C0 Ak 5 [0, 2, 2, 4, 1]) := H_k.out.keep IntR.good (Keeps.below hb0)
 replace H_b : Hid (Ints (fun _ => True) C0 Ab 3 [1, 2, 3]) := H_b.out.keep IntR.good (Keeps.below hb0)
 clear hcc0 hb0
 have hcc1 := ocast38_any 1 1 C0
 go_wp2_with fail
 refine hcc1.mono ?_
 rintro e C1 ⟨rfl, hb1⟩
 have HFC1 : Hid (Below V0.heap.size V0 C1) := bl_call HFC0.out hb1 (Nat.le_refl _)
 replace H_n : Hid (Ints (fun _ => True) C1 An 2 [1, 3]) := H_n.out.keep IntR.good (Keeps.below hb1)
 replace H_p : Hid (Pairs (fun _ => True) C1 Ap 4 [(0, 0), (1, 1), (1, 1), (1, 3)]) := H_p.out.keep PairR.good (Keeps.below hb1)
 replace H_k : Hid (Ints (fun _ => True) C1 Ak 5 [0, 2, 2, 4, 1]) := H_k.out.keep IntR.good (Keeps.below hb1)
 replace H_b : Hid (Ints (fun _ => True) C1 Ab 3 [1, 2, 3]) := H_b.out.keep IntR.good (Keeps.below hb1)
 clear hcc1 hb1
 have hcc2 := ocast38_any 1 1 C1
 go_wp2_with fail
 refine hcc2.mono ?_
 rintro e C2 ⟨rfl, hb2⟩
 have HFC2 : Hid (Below V0.heap.size V0 C2) := bl_call HFC1.out hb2 (Nat.le_refl _)
 replace H_n : Hid (Ints (fun _ => True) C2 An 2 [1, 3]) := H_n.out.keep IntR.good (Keeps.below hb2)
 replace H_p : Hid (Pairs (fun _ => True) C2 Ap 4 [(0, 0), (1, 1), (1, 1), (1, 3)]) := H_p.out.keep PairR.good (Keeps.below hb2)
 replace H_k : Hid (Ints (fun _ => True) C2 Ak 5 [0, 2, 2, 4, 1]) := H_k.out.keep IntR.good (Keeps.below hb2)
 replace H_b : Hid (Ints (fun _ => True) C2 Ab 3 [1, 2, 3]) := H_b.out.keep IntR.good (Keeps.below hb2)
 clear hcc2 hb2
 have hcc3 := ocast38_any 1 3 C2
 go_wp2_with fail
 refine hcc3.mono ?_
 rintro e C3 ⟨rfl, hb3⟩
 have HFC3 : Hid (Below V0.heap.size V0 C3) := bl_call HFC2.out hb3 (Nat.le_refl _)
 replace H_n : Hid (Ints (fun _ => True) C3 An 2 [1, 3]) := H_n.out.keep IntR.good (Keeps.below hb3)
 replace H_p : Hid (Pairs (fun _ => True) C3 Ap 4 [(0, 0), (1, 1), (1, 1), (1, 3)]) := H_p.out.keep PairR.good (Keeps.below hb3)
 replace H_k : Hid (Ints (fun _ => True) C3 Ak 5 [0, 2, 2, 4, 1]) := H_k.out.keep IntR.good (Keeps.below hb3)
 replace H_b : Hid (Ints (fun _ => True) C3 Ab 3 [1, 2, 3]) := H_b.out.keep IntR.good (Keeps.below hb3)
 clear hcc3 hb3
 obtain ⟨YS, hYS⟩ : ∃ U, C3.alloc (.cells #[.int .i64 0, .int .i64 0, .int .i64 1, .int .i64 1, .int .i64 1, .int .i64 1, .int .i64 1, .int .i64 3] 88) = U := ⟨_, rfl⟩
 have tYS : Hid (Pairs (fun _ => True) YS (some ⟨C3.heap.size, 0, none⟩) 4 [(0, 0), (1, 1), (1, 1), (1, 3)]) := by
  rw [Hid, ← hYS]
  refine pairs_blk (Blk.new _ _ _ rfl) rfl (by decide) (fun k x hx => ?_)
  match k, hx with
  | 0, hx => injection hx with hx; subst hx; exact ⟨rfl, rfl⟩
  | 1, hx => injection hx with hx; subst hx; exact ⟨rfl, rfl⟩
  | 2, hx => injection hx with hx; subst hx; exact ⟨rfl, rfl⟩
  | 3, hx => injection hx with hx; subst hx; exact ⟨rfl, rfl⟩
  | k + 4, hx => simp at hx
 have uYS : Hid (Below C3.heap.size C3 YS) := by rw [Hid, ← hYS]; exact bl_alloc (Below.refl _ _) _ (Nat.le_refl _)
 replace H_n : Hid (Ints (fun _ => True) YS An 2 [1, 3]) := H_n.out.keep IntR.good (Keeps.below uYS.out)
 replace H_p : Hid (Pairs (fun _ => True) YS Ap 4 [(0, 0), (1, 1), (1, 1), (1, 3)]) := H_p.out.keep PairR.good (Keeps.below uYS.out)
 replace H_k : Hid (Ints (fun _ => True) YS Ak 5 [0, 2, 2, 4, 1]) := H_k.out.keep IntR.good (Keeps.below uYS.out)
 replace H_b : Hid (Ints (fun _ => True) YS Ab 3 [1, 2, 3]) := H_b.out.keep IntR.good (Keeps.below uYS.out)
 go_wp2_with fail
 refine (osame_any YS H_p.out tYS.out).mono ?_
 rintro e ZS ⟨rfl, q, hq⟩
 have vYS : Hid (Below YS.heap.size YS ZS) := by rw [Hid, hq]; exact bl_drewN (Below.refl _ _) q
 have HFZS : Hid (Below V0.heap.size V0 ZS) := bl_call (bl_call HFC3.out uYS.out (Nat.le_refl _)) vYS.out (Nat.le_refl _)
 replace H_n : Hid (Ints (fun _ => True) ZS An 2 [1, 3]) := H_n.out.keep IntR.good (Keeps.below vYS.out)
 replace H_p : Hid (Pairs (fun _ => True) ZS Ap 4 [(0, 0), (1, 1), (1, 1), (1, 3)]) := H_p.out.keep PairR.good (Keeps.below vYS.out)
 replace H_k : Hid (Ints (fun _ => True) ZS Ak 5 [0, 2, 2, 4, 1]) := H_k.out.keep IntR.good (Keeps.below vYS.out)
 replace H_b : Hid (Ints (fun _ => True) ZS Ab 3 [1, 2, 3]) := H_b.out.keep IntR.good (Keeps.below vYS.out)
 clear hq hYS tYS uYS vYS
 obtain ⟨Y3, hY3⟩ : ∃ U, ZS.alloc (.cells #[.int .i64 0, .int .i64 2, .int .i64 2, .int .i64 4, .int .i64 1] 3) = U := ⟨_, rfl⟩
 have tY3 : Hid (Ints (fun _ => True) Y3 (some ⟨ZS.heap.size, 0, none⟩) 5 [0, 2, 2, 4, 1]) := by rw [Hid, ← hY3]; exact ints_blk (Blk.new _ _ _ rfl) rfl (by decide)
 have uY3 : Hid (Below ZS.heap.size ZS Y3) := by rw [Hid, ← hY3]; exact bl_alloc (Below.refl _ _) _ (Nat.le_refl _)
 replace H_n : Hid (Ints (fun _ => True) Y3 An 2 [1, 3]) := H_n.out.keep IntR.good (Keeps.below uY3.out)
 replace H_p : Hid (Pairs (fun _ => True) Y3 Ap 4 [(0, 0), (1, 1), (1, 1), (1, 3)]) := H_p.out.keep PairR.good (Keeps.below uY3.out)
 replace H_k : Hid (Ints (fun _ => True) Y3 Ak 5 [0, 2, 2, 4, 1]) := H_k.out.keep IntR.good (Keeps.below uY3.out)
 replace H_b : Hid (Ints (fun _ => True) Y3 Ab 3 [1, 2, 3]) := H_b.out.keep IntR.good (Keeps.below uY3.out)
 go_wp2_with fail
 refine (ints_any Y3 H_k.out tY3.out).mono ?_
 rintro e Z3 ⟨rfl, q, hq⟩
 rw [decide_eq_true rfl]
 have vY3 : Hid (Below Y3.heap.size Y3 Z3) := by rw [Hid, hq]; exact bl_drewN (Below.refl _ _) q
 have HFZ3 : Hid (Below V0.heap.size V0 Z3) := bl_call (bl_call HFZS.out uY3.out (Nat.le_refl _)) vY3.out (Nat.le_refl _)
 replace H_n : Hid (Ints (fun _ => True) Z3 An 2 [1, 3]) := H_n.out.keep IntR.good (Keeps.below vY3.out)
 replace H_p : Hid (Pairs (fun _ => True) Z3 Ap 4 [(0, 0), (1, 1), (1, 1), (1, 3)]) := H_p.out.keep PairR.good (Keeps.below vY3.out)
 replace H_k : Hid (Ints (fun _ => True) Z3 Ak 5 [0, 2, 2, 4, 1]) := H_k.out.keep IntR.good (Keeps.below vY3.out)
 replace H_b : Hid (Ints (fun _ => True) Z3 Ab 3 [1, 2, 3]) := H_b.out.keep IntR.good (Keeps.below vY3.out)
 clear hq hY3 tY3 uY3 vY3
 obtain ⟨Y4, hY4⟩ : ∃ U, Z3.alloc (.cells #[.int .i64 1, .int .i64 2, .int .i64 3] 3) = U := ⟨_, rfl⟩
 have tY4 : Hid (Ints (fun _ => True) Y4 (some ⟨Z3.heap.size, 0, none⟩) 3 [1, 2, 3]) := by rw [Hid, ← hY4]; exact ints_blk (Blk.new _ _ _ rfl) rfl (by decide)
 have uY4 : Hid (Below Z3.heap.size Z3 Y4) := by rw [Hid, ← hY4]; exact bl_alloc (Below.refl _ _) _ (Nat.le_refl _)
 replace H_n : Hid (Ints (fun _ => True) Y4 An 2 [1, 3]) := H_n.out.keep IntR.good (Keeps.below uY4.out)
 replace H_p : Hid (Pairs (fun _ => True) Y4 Ap 4 [(0, 0), (1, 1), (1, 1), (1, 3)]) := H_p.out.keep PairR.good (Keeps.below uY4.out)
 replace H_k : Hid (Ints (fun _ => True) Y4 Ak 5 [0, 2, 2, 4, 1]) := H_k.out.keep IntR.good (Keeps.below uY4.out)
 replace H_b : Hid (Ints (fun _ => True) Y4 Ab 3 [1, 2, 3]) := H_b.out.keep IntR.good (Keeps.below uY4.out)
 go_wp2_with fail
 refine (ints_any Y4 H_b.out tY4.out).mono ?_
 rintro e Z4 ⟨rfl, q, hq⟩
 rw [decide_eq_true rfl]
 have vY4 : Hid (Below Y4.heap.size Y4 Z4) := by rw [Hid, hq]; exact bl_drewN (Below.refl _ _) q
 have HFZ4 : Hid (Below V0.heap.size V0 Z4) := bl_call (bl_call HFZ3.out uY4.out (Nat.le_refl _)) vY4.out (Nat.le_refl _)
 replace H_n : Hid (Ints (fun _ => True) Z4 An 2 [1, 3]) := H_n.out.keep IntR.good (Keeps.below vY4.out)
 replace H_p : Hid (Pairs (fun _ => True) Z4 Ap 4 [(0, 0), (1, 1), (1, 1), (1, 3)]) := H_p.out.keep PairR.good (Keeps.below vY4.out)
 replace H_k : Hid (Ints (fun _ => True) Z4 Ak 5 [0, 2, 2, 4, 1]) := H_k.out.keep IntR.good (Keeps.below vY4.out)
 replace H_b : Hid (Ints (fun _ => True) Z4 Ab 3 [1, 2, 3]) := H_b.out.keep IntR.good (Keeps.below vY4.out)
 clear hq hY4 tY4 uY4 vY4
 go_wp2_with fail
 go_ret
 exact ⟨rfl, HB0.out _ HFZ4.out⟩
end Go.Proofs.YtkpbchnggdnmaaaGreat
