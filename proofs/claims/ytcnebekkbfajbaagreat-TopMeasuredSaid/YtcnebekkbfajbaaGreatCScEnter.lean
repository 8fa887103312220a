/- A part of the proof that TopMeasured always answers true. -/
import Derived.Laws.EntriesVeiled
import Derived.Test.YtcnebekkbfajbaaGreatCRegion4
import Derived.Test.YtcnebekkbfajbaaGreatCScBase
set_option linter.all false
namespace Go.Proofs.YtcnebekkbfajbaaGreat
open Go.RowKit Go.Shelf
def InvS (B : Nat) (W0 : World) (g : Nat) (t : TypeId) (old new : Array Value) (VAL : Nat → Value) (j0 : Nat) (ls : Nat → Bool) (vs : Nat → Value) (w : World) : Prop :=
 Below B W0 w ∧ Blk w g t (if ls j0 then new else old) ∧ ∀ i, ls i = true → i ≠ j0 → vs i = VAL i
theorem InvS.step {B : Nat} {W0 : World} {g : Nat} {t : TypeId} {old new : Array Value} {VAL : Nat → Value} {j0 j : Nat} {ls : Nat → Bool} {vs : Nat → Value} {w w' : World} {v : Value} (hI : InvS B W0 g t old new VAL j0 ls vs w) (hb : Below w.heap.size w w') (hB : B ≤ w.heap.size) (hj : j ≠ j0) (hv : v = VAL j) : InvS B W0 g t old new VAL j0 (updB ls j) (updV vs j v) w' := by
 refine ⟨hI.1.trans (hb.mono hB), ?_, fun i hi h2 => ?_⟩
 ·have h0 : updB ls j j0 = ls j0 := by unfold updB; rw [if_neg (fun e => hj e.symm)]
  rw [h0]
  exact hI.2.1.bl hb
 by_cases hij : i = j
 ·subst hij; simpa [updV] using hv
 have : updB ls j i = ls i := by unfold updB; rw [if_neg hij]
 rw [this] at hi
 rw [show updV vs j v i = vs i by simp [updV, hij]]
 exact hI.2.2 i hi h2
theorem InvS.store {B : Nat} {W0 : World} {g : Nat} {t : TypeId} {old new : Array Value} {VAL : Nat → Value} {j0 : Nat} {ls : Nat → Bool} {vs : Nat → Value} {w w' : World} {v : Value} (hI : InvS B W0 g t old new VAL j0 ls vs w) (hb : Below B W0 w') (hn : Blk w' g t new) : InvS B W0 g t old new VAL j0 (updB ls j0) (updV vs j0 v) w' := by
 refine ⟨hb, ?_, fun i hi h2 => ?_⟩
 ·have h0 : updB ls j0 j0 = true := by simp [updB]
  rw [h0]
  exact hn
 have : updB ls j0 i = ls i := by unfold updB; rw [if_neg h2]
 rw [this] at hi
 rw [show updV vs j0 v i = vs i by simp [updV, h2]]
 exact hI.2.2 i hi h2
theorem wp_frame5 {P : Program} {c : Code} {Q : Exit → Act → World → Prop} {a : Act} {w : World} (h : ∀ a0, a0 = a → c.wp P Q a0 w) : c.wp P Q a w := h a rfl
theorem sround_any (w : World) : Calls Tryz.prog 78 #[] w fun e w' => e = .returned (.agg #[.func (.func 110) #[] #[], .func (.func 111) #[] #[], .func (.func 112) #[] #[]]) ∧ Below w.heap.size w w' := by
 obtain ⟨W, hW⟩ : ∃ W, w.alloc (.cells #[.nilFunc, .nilFunc, .nilFunc] 158) = W := ⟨_, rfl⟩
 have X : Blk W w.heap.size 158 #[.nilFunc, .nilFunc, .nilFunc] := by rw [← hW]; exact Blk.new _ _ _ rfl
 have hBW : Below w.heap.size w W := by rw [← hW]; exact bl_alloc (Below.refl _ _) _ (Nat.le_refl _)
 obtain ⟨V, hV⟩ : ∃ V, ((W.setCell ⟨w.heap.size, 0, none⟩ (.func (.func 110) #[] #[])).setCell ⟨w.heap.size, 1, none⟩ (.func (.func 111) #[] #[])).setCell ⟨w.heap.size, 2, none⟩ (.func (.func 112) #[] #[]) = V := ⟨_, rfl⟩
 have Y : Blk V w.heap.size 158 #[.func (.func 110) #[] #[], .func (.func 111) #[] #[], .func (.func 112) #[] #[]] := by rw [← hV]; exact ((X.set_ 0 _).set_ 1 _).set_ 2 _
 have hBV : Below w.heap.size w V := by rw [← hV]; exact bl_set (bl_set (bl_set hBW (Nat.le_refl _) _) (Nat.le_refl _) _) (Nat.le_refl _) _
 have z0 := X.cell 0
 have z1 := X.cell 1
 have z2 := X.cell 2
 have g0 := X.frozen 0
 have g1 := X.frozen 1
 have g2 := X.frozen 2
 have y0 := Y.cell 0
 have y1 := Y.cell 1
 have y2 := Y.cell 2
 have k0 := Y.frozen 0
 have k1 := Y.frozen 1
 have k2 := Y.frozen 2
 obtain ⟨U, hU⟩ : ∃ U, ((V.setCell ⟨w.heap.size, 0, none⟩ (.func (.func 110) #[] #[])).setCell ⟨w.heap.size, 1, none⟩ (.func (.func 111) #[] #[])).setCell ⟨w.heap.size, 2, none⟩ (.func (.func 112) #[] #[]) = U := ⟨_, rfl⟩
 have Z : Blk U w.heap.size 158 #[.func (.func 110) #[] #[], .func (.func 111) #[] #[], .func (.func 112) #[] #[]] := by rw [← hU]; exact ((Y.set_ 0 _).set_ 1 _).set_ 2 _
 have hBU : Below w.heap.size w U := by rw [← hU]; exact bl_set (bl_set (bl_set hBV (Nat.le_refl _) _) (Nat.le_refl _) _) (Nat.le_refl _) _
 have v0 := Z.cell 0
 have v1 := Z.cell 1
 have v2 := Z.cell 2
 have hl := X.lt
 have hl2 := Y.lt
 go_enter Tryz.func78, Tryz.ntmps78
 go_wp2
 exact bodyPost_ret (by simp [results, Tryz.results78, go_sem, v0, v1, v2]) rfl ⟨rfl, hBU⟩
def modelV (c : Case5) (A : Option Addr) (n ca : Nat) (B : Option Addr) (m cb : Nat) : Value := .agg #[.int .i64 c.kind, .int .i64 c.base, .int .i64 c.most, .slice A n ca, .slice B m cb, .func (.func (roundF c.kind)) #[] #[]]
set_option maxHeartbeats 2000000 in
set_option maxRecDepth 100000 in
theorem senter_any {c : Case5} {A B L : Option Addr} {n ca m cb q cl : Nat} {l : List (Nat × Nat)} {kd ba mo : Int} (hok : Ok5 c) (hl : ∀ z ∈ l, z ∈ scalesN) (w : World) (g : CaseAt (fun _ => True) w A n B m c) (gl : Pls (fun _ => True) w L q l) (h1 : c.kind = kd) (h2 : c.base = ba) (h3 : c.most = mo) :
  Calls Tryz.prog 44 #[.agg #[.int .i64 kd, .int .i64 ba, .int .i64 mo, .slice A n ca, .slice B m cb], .slice L q cl] w fun e w' => e = .returned (.tuple #[modelV c A n ca B m cb, .int .i64 0]) ∧ Below w.heap.size w w' := by
 obtain ⟨fr, hfr⟩ : ∃ fr, roundF kd = fr := ⟨_, rfl⟩
 have HKF : Hid ((kd = 1 ∧ fr = 110) ∨ (kd = 2 ∧ fr = 111) ∨ (kd = 3 ∧ fr = 112)) := by
  have := hok.kind
  rw [h1] at this
  rcases (show kd = 1 ∨ kd = 2 ∨ kd = 3 by omega) with rfl | rfl | rfl
  ·exact .inl ⟨rfl, hfr.symm⟩
  ·exact .inr (.inl ⟨rfl, hfr.symm⟩)
  exact .inr (.inr ⟨rfl, hfr.symm⟩)
 have HW1 : Hid (IntKind.i64.wrap (kd - 1) = kd - 1) := by
  have := hok.kind
  rw [Hid, IntKind.wrap_i64]; omega
 have HFR : Hid (modelV c A n ca B m cb = .agg #[.int .i64 kd, .int .i64 ba, .int .i64 mo, .slice A n ca, .slice B m cb, .func (.func fr) #[] #[]]) := by rw [Hid, modelV, h1, h2, h3, hfr]
 clear hfr
 obtain ⟨W, hW⟩ : ∃ W, (w.alloc (.cells #[.int .i64 kd, .int .i64 ba, .int .i64 mo, .slice A n ca, .slice B m cb] 25)).alloc (.cells #[.int .i64 0, .int .i64 0, .int .i64 0, .slice none 0 0, .slice none 0 0, .nilFunc] 104) = W := ⟨_, rfl⟩
 have X : Blk W w.heap.size 25 #[.int .i64 kd, .int .i64 ba, .int .i64 mo, .slice A n ca, .slice B m cb] := by rw [← hW]; exact (Blk.new _ _ _ rfl).alloc _
 have M : Blk W (w.heap.size + 1) 104 #[.int .i64 0, .int .i64 0, .int .i64 0, .slice none 0 0, .slice none 0 0, .nilFunc] := by rw [← hW]; exact Blk.new _ _ _ (by simp)
 have hBW : Below w.heap.size w W := by rw [← hW]; exact bl_alloc (bl_alloc (Below.refl _ _) _ (Nat.le_refl _)) _ (Nat.le_refl _)
 have HG : Hid (∀ V, Below W.heap.size W V → CaseAt (fun _ => True) V A n B m c) := fun V hb => (g.bl hBW).bl hb
 have HL : Hid (∀ V, Below W.heap.size W V → Pls (fun _ => True) V L q l) := fun V hb => (gl.keep PlR.good (Keeps.below hBW)).keep PlR.good (Keeps.below hb)
 have kk : Hid (∀ V, Below W.heap.size W V → V.cell? ⟨w.heap.size, 0, none⟩ = some (.int .i64 kd) ∧ V.cell? ⟨w.heap.size, 1, none⟩ = some (.int .i64 ba) ∧ V.cell? ⟨w.heap.size, 2, none⟩ = some (.int .i64 mo) ∧ V.cell? ⟨w.heap.size, 3, none⟩ = some (.slice A n ca) ∧ V.cell? ⟨w.heap.size, 4, none⟩ = some (.slice B m cb)) :=
  fun V hb => ⟨(X.bl hb).cell 0, (X.bl hb).cell 1, (X.bl hb).cell 2, (X.bl hb).cell 3, (X.bl hb).cell 4⟩
 have HOK := Lib.hid hok
 have HLS := Lib.hid hl
 have EK := Lib.hid eg_SCk
 have hqm := gl.le
 clear g gl X hok hl
 obtain ⟨x0, x1, x2, x3, x4⟩ := kk.out W (Below.refl _ _)
 go_enter Tryz.func44, Tryz.ntmps44
 go_wp2_with fail
 clear x0 x1 x2 x3 x4 hW
 refine (scheck_any HOK.out W (HG.out W (Below.refl _ _)) h1 h2 h3).mono ?_
 rintro e V1 ⟨rfl, b1⟩
 have HB1 := Lib.hid b1
 clear b1
 go_wp2_with fail
 refine (sfirstS_any 77 #[] EK.out V1 (HL.out V1 HB1.out) (fun k a z V hb hx => by
  exact sscale_any (z := (a, z)) (HLS.out _ (List.mem_of_getElem? hx.out)) V)).mono ?_
 rintro e V2 ⟨rfl, b2⟩
 have HB2 : Hid (Below W.heap.size W V2) := bl_call HB1.out b2 (Nat.le_refl _)
 have HM2 := Lib.hid (M.bl HB2.out)
 have hs2 : w.heap.size + 1 < W.heap.size := M.lt
 have kkB : Hid (∀ V, Below (w.heap.size + 1) V2 V → V.cell? ⟨w.heap.size, 0, none⟩ = some (.int .i64 kd) ∧ V.cell? ⟨w.heap.size, 1, none⟩ = some (.int .i64 ba) ∧ V.cell? ⟨w.heap.size, 2, none⟩ = some (.int .i64 mo) ∧ V.cell? ⟨w.heap.size, 3, none⟩ = some (.slice A n ca) ∧ V.cell? ⟨w.heap.size, 4, none⟩ = some (.slice B m cb)) := fun V hb => by
  obtain ⟨y0, y1, y2, y3, y4⟩ := kk.out V2 HB2.out
  exact ⟨(hb.cell (Nat.lt_succ_self _)).trans y0, (hb.cell (Nat.lt_succ_self _)).trans y1, (hb.cell (Nat.lt_succ_self _)).trans y2, (hb.cell (Nat.lt_succ_self _)).trans y3, (hb.cell (Nat.lt_succ_self _)).trans y4⟩
 clear b2 M
 go_wp2_with fail
 refine wp_region_invs (InvS (w.heap.size + 1) V2 (w.heap.size + 1) 104 #[.int .i64 0, .int .i64 0, .int .i64 0, .slice none 0 0, .slice none 0 0, .nilFunc] #[.int .i64 kd, .int .i64 ba, .int .i64 mo, .slice A n ca, .slice B m cb, .func (.func fr) #[] #[]] (fun i => [.agg #[.int .i64 kd, .int .i64 ba, .int .i64 mo, .slice A n ca, .slice B m cb], .agg #[.func (.func 110) #[] #[], .func (.func 111) #[] #[], .func (.func 112) #[] #[]], .pointer (some ⟨w.heap.size, 0, none⟩), .int .i64 kd, .int .i64 (kd - 1), .agg #[.func (.func fr) #[] #[]], .agg #[.int .i64 kd, .int .i64 ba, .int .i64 mo, .slice A n ca, .slice B m cb, .func (.func fr) #[] #[]], .int .i64 0].getD i undef) 8) 9 (by kernel_rfl) (by kernel_rfl) (by kernel_rfl) (by rfl) ⟨(Below.refl _ _).drew, HM2.out.drew, fun i h => by cases h⟩ ?step (by rfl) (by rfl) ?fin
 case step =>
  refine StepsI.cons ?_ (StepsI.cons ?_ (StepsI.cons ?_ (StepsI.cons ?_ (StepsI.cons ?_ (StepsI.cons ?_ (StepsI.cons ?_ (StepsI.cons ?_ (StepsI.cons ?_ (StepsI.nil)))))))))
  all_goals
   refine StepI.of ?_
   intro ls vs W K hI hl hw hU hK
   simp only [fillA, Act.put, List.setIfInBounds_toArray, List.set_cons_zero, List.set_cons_succ, Nat.zero_add, Nat.reduceAdd] at hK ⊢
   simp [waits, Region.binds] at hw
   have hC := hI.1
   have hBs : w.heap.size + 1 ≤ W.heap.size := by have := hC.size; have := HB2.out.size; omega
  ·
   obtain ⟨y0, y1, y2, y3, y4⟩ := kkB.out W hC
   go_simp
   exact hK _ _ (hI.step (Below.refl _ _) hBs (by decide) rfl)
  ·
   go_simp
   refine (sround_any W).mono ?_
   rintro e w' ⟨rfl, hb⟩
   exact hK _ _ (hI.step hb hBs (by decide) rfl)
  ·
   go_simp
   exact hK _ _ (hI.step (Below.refl _ _) hBs (by decide) rfl)
  ·
   have q2 : vs 2 = .pointer (some ⟨w.heap.size, 0, none⟩) := hI.2.2 2 (by simp [hw]) (by decide)
   simp only [q2] at hK ⊢
   obtain ⟨y0, y1, y2, y3, y4⟩ := kkB.out W hC
   go_simp
   exact hK _ _ (hI.step (Below.refl _ _) hBs (by decide) rfl)
  ·
   have q3 : vs 3 = .int .i64 kd := hI.2.2 3 (by simp [hw]) (by decide)
   simp only [q3] at hK ⊢
   go_simp
   rw [HW1.out]
   exact hK _ _ (hI.step (Below.refl _ _) hBs (by decide) rfl)
  ·
   have q1 : vs 1 = .agg #[.func (.func 110) #[] #[], .func (.func 111) #[] #[], .func (.func 112) #[] #[]] := hI.2.2 1 (by simp [hw]) (by decide)
   have q4 : vs 4 = .int .i64 (kd - 1) := hI.2.2 4 (by simp [hw]) (by decide)
   simp only [q1, q4] at hK ⊢
   rcases HKF.out with ⟨e1, e2⟩ | ⟨e1, e2⟩ | ⟨e1, e2⟩ <;> (subst e1 e2; go_simp; exact hK _ _ (hI.step (Below.refl _ _) hBs (by decide) rfl))
  ·
   have q0 : vs 0 = .agg #[.int .i64 kd, .int .i64 ba, .int .i64 mo, .slice A n ca, .slice B m cb] := hI.2.2 0 (by simp [hw]) (by decide)
   have q5 : vs 5 = .agg #[.func (.func fr) #[] #[]] := hI.2.2 5 (by simp [hw]) (by decide)
   simp only [q0, q5] at hK ⊢
   go_simp
   exact hK _ _ (hI.step (Below.refl _ _) hBs (by decide) rfl)
  ·
   have q9 : vs 9 = .int .i64 0 := (hU 9 _ rfl (by simp [waits, Region.binds])).2
   simp only [q9] at hK ⊢
   go_simp
   exact hK _ _ (hI.step (Below.refl _ _) hBs (by decide) rfl)
  have q6 : vs 6 = .agg #[.int .i64 kd, .int .i64 ba, .int .i64 mo, .slice A n ca, .slice B m cb, .func (.func fr) #[] #[]] := hI.2.2 6 (by simp [hw]) (by decide)
  simp only [q6] at hK ⊢
  have h8 : ls 8 = false := hl
  have MW : Blk W (w.heap.size + 1) 104 #[.int .i64 0, .int .i64 0, .int .i64 0, .slice none 0 0, .slice none 0 0, .nilFunc] := by have := hI.2.1; rwa [h8] at this
  have z0 := MW.cell 0
  have z1 := MW.cell 1
  have z2 := MW.cell 2
  have z3 := MW.cell 3
  have z4 := MW.cell 4
  have z5 := MW.cell 5
  have fz0 := MW.frozen 0
  have fz1 := MW.frozen 1
  have fz2 := MW.frozen 2
  have fz3 := MW.frozen 3
  have fz4 := MW.frozen 4
  have fz5 := MW.frozen 5
  have hl4 := MW.lt
  obtain ⟨VF, hVF⟩ : ∃ V, (((((W.setCell ⟨w.heap.size + 1, 0, none⟩ (.int .i64 kd)).setCell ⟨w.heap.size + 1, 1, none⟩ (.int .i64 ba)).setCell ⟨w.heap.size + 1, 2, none⟩ (.int .i64 mo)).setCell ⟨w.heap.size + 1, 3, none⟩ (.slice A n ca)).setCell ⟨w.heap.size + 1, 4, none⟩ (.slice B m cb)).setCell ⟨w.heap.size + 1, 5, none⟩ (.func (.func fr) #[] #[]) = V := ⟨_, rfl⟩
  have BF : Below (w.heap.size + 1) V2 VF := by rw [← hVF]; exact bl_set (bl_set (bl_set (bl_set (bl_set (bl_set hC (Nat.le_refl _) _) (Nat.le_refl _) _) (Nat.le_refl _) _) (Nat.le_refl _) _) (Nat.le_refl _) _) (Nat.le_refl _) _
  have XF : Blk VF (w.heap.size + 1) 104 #[.int .i64 kd, .int .i64 ba, .int .i64 mo, .slice A n ca, .slice B m cb, .func (.func fr) #[] #[]] := by rw [← hVF]; exact (((((MW.set_ 0 _).set_ 1 _).set_ 2 _).set_ 3 _).set_ 4 _).set_ 5 _
  go_simp
  exact hK undef _ (hI.store BF XF)
 intro ls vs W hI hl hU
 have e7 : vs 7 = .int .i64 0 := hI.2.2 7 (hl 7 (by decide)) (by decide)
 have MW : Blk W (w.heap.size + 1) 104 #[.int .i64 kd, .int .i64 ba, .int .i64 mo, .slice A n ca, .slice B m cb, .func (.func fr) #[] #[]] := by have := hI.2.1; rwa [hl 8 (by decide)] at this
 have hC := hI.1
 simp only [fillA, Act.put, List.setIfInBounds_toArray, List.set_cons_zero, List.set_cons_succ, Nat.zero_add, Nat.reduceAdd, e7]
 generalize vs 0 = u0, vs 1 = u1, vs 2 = u2, vs 3 = u3, vs 4 = u4, vs 5 = u5, vs 6 = u6
 clear hI hl hU e7
 have y0 := MW.cell 0
 have y1 := MW.cell 1
 have y2 := MW.cell 2
 have y3 := MW.cell 3
 have y4 := MW.cell 4
 have y5 := MW.cell 5
 have BF : Below w.heap.size w W := hBW.trans ((Below.mono HB2.out (by omega)).trans (Below.mono hC (Nat.le_succ _)))
 go_simp
 go_wp2_with fail
 exact bodyPost_ret (by rw [results_cell_tmp Tryz.results44]; simp [go_sem, y0, y1, y2, y3, y4, y5]; rfl) rfl ⟨by rw [HFR.out], BF⟩
end Go.Proofs.YtcnebekkbfajbaaGreat
