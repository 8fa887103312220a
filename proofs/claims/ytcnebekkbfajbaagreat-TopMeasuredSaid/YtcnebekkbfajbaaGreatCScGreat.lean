/- A part of the proof that TopMeasured always answers true. -/
import Derived.Test.YtcnebekkbfajbaaGreatCRegion
import Derived.Test.YtcnebekkbfajbaaGreatCScLeast
set_option linter.all false
namespace Go.Proofs.YtcnebekkbfajbaaGreat
open Go.RowKit Go.Shelf
attribute [local go_sem] Oper.semAt_some
theorem eqz_scale (a b x y : Int) (w : World) : (Op.equalIn 10000 42 (.agg #[.int .i64 a, .int .i64 b]) (.agg #[.int .i64 x, .int .i64 y])).run Tryz.prog w = .ok (decide (a = x ∧ b = y)) w := by
 rw [show (10000 : Nat) = 9999 + 1 from rfl, Op.equalIn]
 simp only [Sem.run_bind, run_underlying Tryz.underlying42, Result.andThen_ok]
 by_cases h1 : a = x
 ·by_cases h2 : b = y
  ·subst h1; subst h2; go_simp
  have h2b : (b == y) = false := by simpa using h2
  subst h1
  go_simp
 have h1b : (a == x) = false := by simpa using h1
 go_simp
def LeG (c : Case5) (lim : Int) (gz : Nat × Nat) (gb : Nat) (i : Nat) (O : Foot) (A : World) : Prop :=
 ∃ b : Nat × Nat, (∀ k, O k ↔ k = gb) ∧ Blk A gb 42 #[.int .i64 (b.1 : Int), .int .i64 (b.2 : Int)] ∧ greatZ c lim (scalesN.drop i) b = gz
def LeX (gz : Nat × Nat) (gb : Nat) (cd : Code) (O : Foot) (A : World) : Prop :=
 cd = .exit 1 ∧ (∀ k, O k ↔ k = gb) ∧ Blk A gb 42 #[.int .i64 (gz.1 : Int), .int .i64 (gz.2 : Int)]
theorem great_no {c : Case5} {lim : Int} {z b : Nat × Nat} {zs : List (Nat × Nat)} (h : fits5 c (z.1, z.2) = false) : greatZ c lim (z :: zs) b = b := by rw [greatZ, if_neg (by rw [h]; exact Bool.false_ne_true)]
theorem great_false {c : Case5} {lim : Int} {z b : Nat × Nat} {zs : List (Nat × Nat)} (h : fits5 c (z.1, z.2) = true) (ha : c.roads.any (fun r => decide (lim < offR c z r)) = true) : greatZ c lim (z :: zs) b = greatZ c lim zs b := by rw [greatZ, if_pos h, if_pos ha]
theorem great_yes {c : Case5} {lim : Int} {z b : Nat × Nat} {zs : List (Nat × Nat)} (h : fits5 c (z.1, z.2) = true) (ha : c.roads.any (fun r => decide (lim < offR c z r)) = false) : greatZ c lim (z :: zs) b = greatZ c lim zs z := by rw [greatZ, if_pos h, if_neg (by rw [ha]; exact Bool.false_ne_true)]
theorem ret_sgreat {tmps : Array Value} {g : Nat} {a b e : Int} {w : World} {T : TypeId} (hp : tmps.getD 4 undef = .pointer (some ⟨g, 0, none⟩)) (hu : tmps.getD 5 undef = .int .i64 e)
  (h0 : Blk w g T #[.int .i64 a, .int .i64 b]) : (results Tryz.f27 tmps).run Tryz.prog w = .ok (.tuple #[.agg #[.int .i64 a, .int .i64 b], .int .i64 e]) w := by
 have c0 := h0.cell 0
 have c1 := h0.cell 1
 rw [results_cell_tmp Tryz.results27, hp, hu]
 simp [go_sem, c0, c1]
set_option maxRecDepth 100000 in
set_option maxHeartbeats 4000000 in
theorem sgreat_any {c : Case5} {A B : Option Addr} {n ca m cb : Nat} {kd ba mo lim : Int} {gz : Nat × Nat} (hok : Ok5 c) (hlim : 0 ≤ lim ∧ lim ≤ 1000000) (hgz : greatZ c lim scalesN (0, 0) = gz) (hz0 : gz ≠ (0, 0)) (w : World) (g : CaseAt (fun _ => True) w A n B m c) (h1 : c.kind = kd) (h2 : c.base = ba) (h3 : c.most = mo) :
  Calls Tryz.prog 27 #[.agg #[.int .i64 kd, .int .i64 ba, .int .i64 mo, .slice A n ca, .slice B m cb], .int .i64 lim] w fun e w' => e = .returned (.tuple #[.agg #[.int .i64 (gz.1 : Int), .int .i64 (gz.2 : Int)], .int .i64 0]) ∧ Below w.heap.size w w' := by
 have HOK := Lib.hid hok
 have HGZ := Lib.hid hgz
 have HZ0 := Lib.hid hz0
 have hm8 : m ≤ 8 := by have := hok.nr; have := g.rs.len; omega
 have HRL : Hid (c.roads.length = m) := g.rs.len
 have hout : outB 0 1000000 lim = false := by unfold outB; simp; omega
 have HOUT := Lib.hid hout
 have HM : Hid (modelV c A n ca B m cb = .agg #[.int .i64 kd, .int .i64 ba, .int .i64 mo, .slice A n ca, .slice B m cb, .func (.func (roundF c.kind)) #[] #[]]) := by rw [Hid, modelV, h1, h2, h3]
 obtain ⟨fr, hfr⟩ : ∃ f, roundF c.kind = f := ⟨_, rfl⟩
 rw [hfr] at HM
 obtain ⟨W, hW⟩ : ∃ W, ((w.alloc (.cells #[.int .i64 kd, .int .i64 ba, .int .i64 mo, .slice A n ca, .slice B m cb] 25)).alloc (.cells #[.int .i64 lim] 3)).alloc (.cells #[.int .i64 0, .int .i64 0] 42) = W := ⟨_, rfl⟩
 have X : Blk W w.heap.size 25 #[.int .i64 kd, .int .i64 ba, .int .i64 mo, .slice A n ca, .slice B m cb] := by rw [← hW]; exact ((Blk.new _ _ _ rfl).alloc _).alloc _
 have Y : Blk W (w.heap.size + 1) 3 #[.int .i64 lim] := by rw [← hW]; exact (Blk.new _ _ _ (by simp)).alloc _
 have E : Blk W (w.heap.size + 1 + 1) 42 #[.int .i64 0, .int .i64 0] := by rw [← hW]; exact Blk.new _ _ _ (by simp)
 have hBW : Below w.heap.size w W := by rw [← hW]; exact bl_alloc (bl_alloc (bl_alloc (Below.refl _ _) _ (Nat.le_refl _)) _ (Nat.le_refl _)) _ (Nat.le_refl _)
 have HG : Hid (∀ V, Below w.heap.size w V → CaseAt (fun _ => True) V A n B m c) := fun V hb => g.bl hb
 have x0 := X.cell 0
 have x1 := X.cell 1
 have x2 := X.cell 2
 have x3 := X.cell 3
 have x4 := X.cell 4
 have HX := Lib.hid X
 have HY := Lib.hid Y
 have HE := Lib.hid E
 have hXl := X.lt
 have hYl := Y.lt
 have hEl := E.lt
 clear g X Y E hok hfr hgz hz0 hout
 refine (callsIn_wide (n := 1)).1 ?_
 refine callsIn_of_wp_marks Tryz.func27 rfl trivial ?_ rfl
 simp only [Tryz.ntmps27, List.size_toArray, List.length_cons, List.length_nil, Nat.reduceAdd, Nat.reduceSub, Array.replicate_succ, Array.replicate_zero, List.push_toArray, List.append_toArray, List.nil_append, List.cons_append]
 gi_wp2_with fail
 refine wpIn_wide.2 (wp_scope_straight ((wpIn_wide (n := 1)).1 ?_))
 gi_wp2_with fail
 refine ⟨trivial, ?_⟩
 refine (callsIn_wide.2 (senter_any (L := none) (q := 0) (cl := 0) HOK.out (fun y hy => by cases hy) W (HG.out W hBW) (SliceOf.nil _ _ _ _ _) h1 h2 h3)).mono ?_
 rintro e V1 ⟨rfl, b1⟩
 rw [HM.out]
 have HB1 : Hid (Below W.heap.size W V1) := b1
 clear b1 x0 x1 x2 x3 x4 hW
 obtain ⟨gM, hgM⟩ : ∃ g, V1.heap.size = g := ⟨_, rfl⟩
 obtain ⟨U0, hU0⟩ : ∃ U, V1.alloc (.cells #[.int .i64 kd, .int .i64 ba, .int .i64 mo, .slice A n ca, .slice B m cb, .func (.func fr) #[] #[]] 104) = U := ⟨_, rfl⟩
 have HBU0 : Hid (Below W.heap.size W U0) := by rw [Hid, ← hU0]; exact bl_alloc HB1.out _ (Nat.le_refl _)
 have MU0 : Hid (Blk U0 gM 104 #[.int .i64 kd, .int .i64 ba, .int .i64 mo, .slice A n ca, .slice B m cb, .func (.func fr) #[] #[]]) := by rw [Hid, ← hU0]; exact Blk.new _ _ _ hgM.symm
 have y0 := (HY.out.bl HBU0.out).cell 0
 gi_wp2_with fail
 refine ⟨trivial, ?_⟩
 refine (callsIn_wide.2 (sout1 _ (newc rfl rfl) HOUT.out)).mono ?_
 rintro e U1 ⟨rfl, b2⟩
 have HBU : Hid (Below W.heap.size W U1) := bl_call (bl_alloc HBU0.out _ (Nat.le_refl _)) b2 (Nat.le_refl _)
 have MU : Hid (Blk U1 gM 104 #[.int .i64 kd, .int .i64 ba, .int .i64 mo, .slice A n ca, .slice B m cb, .func (.func fr) #[] #[]]) := (MU0.out.alloc _).bl b2
 have hgMs : W.heap.size ≤ gM := by rw [← hgM]; exact HB1.out.size
 clear b2 y0 HBU0 MU0 hU0 hgM
 gi_wp2_with fail
 refine wpIn_label ?_
 gi_wp2_with fail
 refine ⟨trivial, ?_⟩
 refine (callsIn_wide.2 (sscales_any _)).mono ?_
 rintro e w' ⟨rfl, hw'⟩
 rw [hw']
 clear hw'
 have hsW := hBW.size
 have hsU := HBU.out.size
 have hgMl := MU.out.lt
 gi_wp2_with fail
 obtain ⟨gl, hgl⟩ : ∃ g, w.heap.size + 1 = g := ⟨_, rfl⟩
 obtain ⟨gb, hgb⟩ : ∃ g, w.heap.size + 1 + 1 = g := ⟨_, rfl⟩
 obtain ⟨gc, hgc⟩ : ∃ g, w.heap.size = g := ⟨_, rfl⟩
 have hglb : gl + 1 = gb := by omega
 have hgcl : gc + 1 = gl := by omega
 rw [hgb, hgl, hgc]
 rw [hgl] at HY hYl
 rw [hgb] at HE hEl
 rw [hgc] at HX hXl
 have HEU : Hid (Blk U1 gb 42 #[.int .i64 0, .int .i64 0]) := HE.out.bl HBU.out
 have HYU : Hid (Blk U1 gl 3 #[.int .i64 lim]) := HY.out.bl HBU.out
 have HXU : Hid (Blk U1 gc 25 #[.int .i64 kd, .int .i64 ba, .int .i64 mo, .slice A n ca, .slice B m cb]) := HX.out.bl HBU.out
 have hlU : gl < U1.heap.size := by omega
 have hbU : gb < U1.heap.size := by omega
 have hcU : gc < U1.heap.size := by omega
 have hwg : w.heap.size ≤ gb := by omega
 clear hgl hgb
 have hbig : ∀ {A : World}, Kept (fun k => k = gb ∨ U1.heap.size ≤ k) U1 A → Below w.heap.size w A := fun hK => (bl_call hBW HBU.out (Nat.le_refl _)).trans (hK.below (by omega) (fun k h => by omega))
 refine rangeFunc_outer (m := 1) (gf := 91) (lb := #[]) rfl eg_scales scales_seq (fun _ => rfl) (fun k => k = gb) (LeG c lim gz gb) (LeX gz gb) (fun k h => by omega) (fun A hK => trivial) ?stay ?stayx ⟨(0, 0), fun k => Iff.rfl, HEU.out, HGZ.out⟩ ?round ?done ?stop
 case stay =>
  rintro i O A B ⟨b, hO, b2, hn⟩ hlt hK
  exact ⟨b, hO, (hK.block _ b2.lt (fun h => h ((hO _).2 rfl))).trans b2, hn⟩
 case stayx =>
  rintro cd O A B ⟨hc, hO, b2⟩ hlt hK
  exact ⟨hc, hO, (hK.block _ b2.lt (fun h => h ((hO _).2 rfl))).trans b2⟩
 case round =>
  intro l' i x O A1 hx hj hlt hsub hK hnl hlA hWl
  have hxz : x ∈ scalesN := List.mem_of_getElem? hx
  obtain ⟨za, hza⟩ : ∃ a, x.1 = a := ⟨_, rfl⟩
  obtain ⟨zb, hzb⟩ : ∃ a, x.2 = a := ⟨_, rfl⟩
  obtain rfl : x = (za, zb) := Prod.ext hza hzb
  obtain ⟨b, hO, j2, hgr⟩ := hj
  rw [drop_cons hx] at hgr
  obtain ⟨ba0, hba0⟩ : ∃ a, b.1 = a := ⟨_, rfl⟩
  obtain ⟨bb0, hbb0⟩ : ∃ a, b.2 = a := ⟨_, rfl⟩
  obtain rfl : b = (ba0, bb0) := Prod.ext hba0 hbb0
  dsimp only at j2
  have HXZ := Lib.hid hxz
  have HGR := Lib.hid hgr
  have HK := Lib.hid hK
  have HOO := Lib.hid hO
  clear hx hxz hgr hK hza hzb hO hba0 hbb0
  have hzv : zV (za, zb) = .agg #[.int .i64 (za : Int), .int .i64 (zb : Int)] := rfl
  rw [fold1, hzv]
  dsimp only
  simp only [List.setIfInBounds_toArray]
  try simp only [List.set_cons_zero, List.set_cons_succ]
  clear hzv
  gi_wp2
  refine ⟨Kept.alloc _ _ _, fun A2 hK2 hs2' r2 hr2 => ?_⟩
  clear hr2
  try simp only [World.size_alloc] at hs2'
  have hs2a : A1.heap.size + 1 ≤ A2.heap.size := by omega
  have hs2b : A2.heap.size ≤ A1.heap.size + 1 := by omega
  clear hs2'
  have kA : Kept (fun k => k = l') A1 A2 := (Kept.alloc (fun k => k = l') A1 (.cells #[.int .i64 (za : Int), .int .i64 (zb : Int)] 42)).trans hK2
  have hS2 : Blk A2 A1.heap.size 42 #[.int .i64 (za : Int), .int .i64 (zb : Int)] := (hK2.block A1.heap.size (by simp) (by omega)).trans (Blk.new _ _ _ rfl)
  have hK3 : Kept (fun k => k = gb ∨ U1.heap.size ≤ k) U1 A2 := HK.out.seq kA (fun k _ h => .inr (h ▸ hWl))
  have hb2 : Blk A2 gb 42 #[.int .i64 (ba0 : Int), .int .i64 (bb0 : Int)] := (kA.block _ j2.lt (fun e => hnl (e ▸ (HOO.out _).2 rfl))).trans j2
  have hM2 : Blk A2 gM 104 #[.int .i64 kd, .int .i64 ba, .int .i64 mo, .slice A n ca, .slice B m cb, .func (.func fr) #[] #[]] := (hK3.block _ hgMl (by omega)).trans MU.out
  have hY2 : Blk A2 gl 3 #[.int .i64 lim] := (hK3.block _ hlU (by omega)).trans HYU.out
  have hX2 : Blk A2 gc 25 #[.int .i64 kd, .int .i64 ba, .int .i64 mo, .slice A n ca, .slice B m cb] := (hK3.block _ hcU (by omega)).trans HXU.out
  have hUA2 : U1.heap.size ≤ A2.heap.size := hK3.size
  have hA2w := hbig hK3
  have HA2W := Lib.hid hA2w
  obtain ⟨gS, hgS⟩ : ∃ g, A1.heap.size = g := ⟨_, rfl⟩
  rw [hgS] at hS2 hs2a hs2b
  rw [hgS]
  have HGS := Lib.hid hgS
  have HY2 := Lib.hid hY2
  have HX2 := Lib.hid hX2
  have HM2 := Lib.hid hM2
  have HS2 := Lib.hid hS2
  have HB2 := Lib.hid hb2
  have m0 := hM2.cell 0
  have m1 := hM2.cell 1
  have m2 := hM2.cell 2
  have m3 := hM2.cell 3
  have m4 := hM2.cell 4
  have m5 := hM2.cell 5
  have s0 := hS2.cell 0
  have s1 := hS2.cell 1
  clear hK2 hK3 kA hM2 hS2 hY2 hX2 hA2w hgS hb2 j2
  gi_wp2_with fail
  refine ⟨trivial, ?_⟩
  have hcut := scut_any HOK.out HXZ.out A2 (HG.out A2 HA2W.out) (ca := ca) (cb := cb)
  rw [HM.out] at hcut
  refine (CallsIn.inRound l' (callsIn_wide.2 hcut)).mono ?_
  rintro e V2 ⟨rfl, b2⟩
  obtain ⟨v0, v1, v2, v3, v4, v5, v6, v7, hv⟩ := cutV_8 (cut5 c (za, zb))
  have HV := Lib.hid hv
  rw [hv]
  have HC2 : Hid (Below A2.heap.size A2 V2) := b2
  clear b2 hcut hv m0 m1 m2 m3 m4 m5 s0 s1
  obtain ⟨fb, hfb⟩ : ∃ x, fits5 c ((((za, zb) : Nat × Nat).1 : Int), (((za, zb) : Nat × Nat).2 : Int)) = x := ⟨_, rfl⟩
  rw [hfb]
  have HFB := Lib.hid hfb
  clear hfb
  obtain ⟨gC, hgC⟩ : ∃ g, V2.heap.size = g := ⟨_, rfl⟩
  obtain ⟨U2, hU2⟩ : ∃ U, V2.alloc (.cells #[.int .i64 v0, .int .i64 v1, .int .i64 v2, .int .i64 v3, .int .i64 v4, .int .i64 v5, .int .i64 v6, .int .i64 v7] 108) = U := ⟨_, rfl⟩
  have HBV : Hid (Below A2.heap.size A2 U2) := by rw [Hid, ← hU2]; exact bl_alloc HC2.out _ (Nat.le_refl _)
  have CU : Hid (Blk U2 gC 108 #[.int .i64 v0, .int .i64 v1, .int .i64 v2, .int .i64 v3, .int .i64 v4, .int .i64 v5, .int .i64 v6, .int .i64 v7]) := by rw [Hid, ← hU2]; exact Blk.new _ _ _ hgC.symm
  have xx := HX2.out.bl HBV.out
  have x0 := xx.cell 0
  have x1 := xx.cell 1
  have x2 := xx.cell 2
  have x3 := xx.cell 3
  have x4 := xx.cell 4
  have HBW2 : Hid (Below w.heap.size w U2) := bl_call HA2W.out HBV.out (by have := HA2W.out.size; omega)
  have hsU2 : A2.heap.size ≤ U2.heap.size := HBV.out.size
  have hwA2 : w.heap.size ≤ A2.heap.size := HA2W.out.size
  have hbA2 := HB2.out.lt
  clear xx
  by_cases hf0 : fb = true
  ·subst hf0
   have HNO : Hid (∀ V, Below U2.heap.size U2 V → c.roads.any (fun r => decide (lim < offR c (za, zb) r)) = true → Kept O A2 V ∧ ∃ O' : Foot, (∀ k, O' k → O k ∨ (A1.heap.size ≤ k ∧ k < V.heap.size)) ∧ LeG c lim gz gb (i + 1) O' V) := by
    intro V hb ha
    have hbV : Below A2.heap.size A2 V := bl_call HBV.out hb (Nat.le_refl _)
    refine ⟨Kept.of_bl hbV, O, fun k h => .inl h, (ba0, bb0), HOO.out, HB2.out.bl hbV, ?_⟩
    rw [← great_false HFB.out ha]; exact HGR.out
   have HYES : Hid (∀ V V', Below U2.heap.size U2 V → c.roads.any (fun r => decide (lim < offR c (za, zb) r)) = false → V' = (V.setCell ⟨gb, 0, none⟩ (.int .i64 (za : Int))).setCell ⟨gb, 1, none⟩ (.int .i64 (zb : Int)) → Kept O A2 V' ∧ ∃ O' : Foot, (∀ k, O' k → O k ∨ (A1.heap.size ≤ k ∧ k < V'.heap.size)) ∧ LeG c lim gz gb (i + 1) O' V') := by
    intro V V' hb ha hV'
    have hbV : Below A2.heap.size A2 V := bl_call HBV.out hb (Nat.le_refl _)
    subst hV'
    refine ⟨((Kept.of_bl hbV).trans (Kept.setCell _ _ _ ((HOO.out _).2 rfl))).trans (Kept.setCell _ _ _ ((HOO.out _).2 rfl)), O, fun k h => .inl h, (za, zb), HOO.out, ((HB2.out.bl hbV).set_ 0 _).set_ 1 _, ?_⟩
    rw [← great_yes HFB.out ha (b := (ba0, bb0))]; exact HGR.out
   have HOF : Hid (∀ (i j : Nat) V, i < c.hts.length → j < c.hts.length → Below U2.heap.size U2 V → Calls Tryz.prog 65 #[.agg #[.int .i64 kd, .int .i64 ba, .int .i64 mo, .slice A n ca, .slice B m cb, .func (.func fr) #[] #[]], .agg #[.int .i64 (i : Int), .int .i64 (j : Int)], .agg #[.int .i64 (za : Int), .int .i64 (zb : Int)], .agg #[.int .i64 v0, .int .i64 v1, .int .i64 v2, .int .i64 v3, .int .i64 v4, .int .i64 v5, .int .i64 v6, .int .i64 v7]] V fun e w' => e = .returned (.int .i64 (offR c (za, zb) (i, j))) ∧ Below V.heap.size V w') := by
    intro i j V hi hj hb
    have h := soff_any HOK.out HXZ.out hi hj V (HG.out V (bl_call HBW2.out hb (by have := HBW2.out.size; omega))) (ca := ca) (cb := cb)
    rwa [HM.out, HV.out] at h
   gi_wp2_with fail
   clear x0 x1 x2 x3 x4 hU2 hgC
   gi_loopw [40] (fun i wr => ∃ k : Nat, k ≤ m ∧ i = .int .i64 k ∧ Hid (Below U2.heap.size U2 wr) ∧ Hid ((c.roads.take k).any (fun r => decide (lim < offR c (za, zb) r)) = false)) (fun i _ => m - (intOf i).toNat)
   case atStart => exact ⟨0, Nat.zero_le _, rfl, Below.refl _ _, rfl⟩
   obtain ⟨k, hk, rfl, HBr, HAr⟩ := hrel
   by_cases hlt : k < m
   ·have hki : (k : Int) < m := by omega
    obtain ⟨b, off, ra, rz, hA, _, q0, q1, Hx⟩ := Pairs.get (HG.out wr (bl_call HBW2.out HBr.out (by have := HBW2.out.size; omega))).rs hlt
    subst hA
    obtain ⟨⟨p1, p2⟩, ⟨p3, p4⟩, p5⟩ := HOK.out.roads _ (List.mem_of_getElem? Hx.out)
    dsimp only at p1 p2 p3 p4
    obtain ⟨i, rfl⟩ : ∃ i : Nat, ra = i := ⟨ra.toNat, by omega⟩
    obtain ⟨j, rfl⟩ : ∃ i : Nat, rz = i := ⟨rz.toNat, by omega⟩
    have hil : i < c.hts.length := by omega
    have hjl : j < c.hts.length := by omega
    obtain ⟨gR, hgR⟩ : ∃ g, wr.heap.size = g := ⟨_, rfl⟩
    obtain ⟨U3, hU3⟩ : ∃ U, wr.alloc (.cells #[.int .i64 (i : Int), .int .i64 (j : Int)] 72) = U := ⟨_, rfl⟩
    have RU : Blk U3 gR 72 #[.int .i64 (i : Int), .int .i64 (j : Int)] := by rw [← hU3]; exact Blk.new _ _ _ hgR.symm
    have hB3 : Below wr.heap.size wr U3 := by rw [← hU3]; exact bl_alloc (Below.refl _ _) _ (Nat.le_refl _)
    have HB3 : Hid (Below U2.heap.size U2 U3) := bl_call HBr.out hB3 (Nat.le_refl _)
    have kk : Hid (∀ V, Below U3.heap.size U3 V → (V.cell? ⟨gM, 0, none⟩ = some (.int .i64 kd) ∧ V.cell? ⟨gM, 1, none⟩ = some (.int .i64 ba) ∧ V.cell? ⟨gM, 2, none⟩ = some (.int .i64 mo) ∧ V.cell? ⟨gM, 3, none⟩ = some (.slice A n ca) ∧ V.cell? ⟨gM, 4, none⟩ = some (.slice (some ⟨b, off, none⟩) m cb) ∧ V.cell? ⟨gM, 5, none⟩ = some (.func (.func fr) #[] #[])) ∧ (V.cell? ⟨gR, 0, none⟩ = some (.int .i64 (i : Int)) ∧ V.cell? ⟨gR, 1, none⟩ = some (.int .i64 (j : Int))) ∧ (V.cell? ⟨gS, 0, none⟩ = some (.int .i64 (za : Int)) ∧ V.cell? ⟨gS, 1, none⟩ = some (.int .i64 (zb : Int))) ∧ (V.cell? ⟨gC, 0, none⟩ = some (.int .i64 v0) ∧ V.cell? ⟨gC, 1, none⟩ = some (.int .i64 v1) ∧ V.cell? ⟨gC, 2, none⟩ = some (.int .i64 v2) ∧ V.cell? ⟨gC, 3, none⟩ = some (.int .i64 v3) ∧ V.cell? ⟨gC, 4, none⟩ = some (.int .i64 v4) ∧ V.cell? ⟨gC, 5, none⟩ = some (.int .i64 v5) ∧ V.cell? ⟨gC, 6, none⟩ = some (.int .i64 v6) ∧ V.cell? ⟨gC, 7, none⟩ = some (.int .i64 v7)) ∧ V.cell? ⟨gl, 0, none⟩ = some (.int .i64 lim)) := fun V hb => by
     have b2 : Below U2.heap.size U2 V := bl_call HB3.out hb (Nat.le_refl _)
     have b3 : Below A2.heap.size A2 V := bl_call HBV.out b2 (Nat.le_refl _)
     have x1 := HM2.out.bl b3
     have x2 := RU.bl hb
     have x3 := HS2.out.bl b3
     have x4 := CU.out.bl b2
     exact ⟨⟨x1.cell 0, x1.cell 1, x1.cell 2, x1.cell 3, x1.cell 4, x1.cell 5⟩, ⟨x2.cell 0, x2.cell 1⟩, ⟨x3.cell 0, x3.cell 1⟩, ⟨x4.cell 0, x4.cell 1, x4.cell 2, x4.cell 3, x4.cell 4, x4.cell 5, x4.cell 6, x4.cell 7⟩, (HY2.out.bl b3).cell 0⟩
    obtain ⟨ov, hov⟩ : ∃ x, offR c (za, zb) ((i : Int), (j : Int)) = x := ⟨_, rfl⟩
    have HOV := Lib.hid hov
    have HOFW : Hid (∀ V, Below U3.heap.size U3 V → Calls Tryz.prog 65 #[.agg #[.int .i64 kd, .int .i64 ba, .int .i64 mo, .slice A n ca, .slice (some ⟨b, off, none⟩) m cb, .func (.func fr) #[] #[]], .agg #[.int .i64 (i : Int), .int .i64 (j : Int)], .agg #[.int .i64 (za : Int), .int .i64 (zb : Int)], .agg #[.int .i64 v0, .int .i64 v1, .int .i64 v2, .int .i64 v3, .int .i64 v4, .int .i64 v5, .int .i64 v6, .int .i64 v7]] V fun e w' => e = .returned (.int .i64 ov) ∧ Below V.heap.size V w') := fun V hb => by
     rw [← hov]
     exact HOF.out i j V hil hjl (bl_call HB3.out hb (Nat.le_refl _))
    have r0 := RU.cell 0
    have r1 := RU.cell 1
    clear RU hB3 HOF hov
    gi_wp2_with fail
    clear r0 r1 q0 q1 hU3 hgR
    by_cases hlo : lim < ov
    ·have HAN : Hid (c.roads.any (fun r => decide (lim < offR c (za, zb) r)) = true) := List.any_eq_true.2 ⟨_, List.mem_of_getElem? Hx.out, by rw [HOV.out]; exact decide_eq_true hlo⟩
     refine wpIn_region_list1 (F := Fence.wide.inRound l') (r := some l') rfl (fun W => Below U3.heap.size U3 W) (fun w w' => Below w.heap.size w w')
      [isV (.agg #[.int .i64 kd, .int .i64 ba, .int .i64 mo, .slice A n ca, .slice (some ⟨b, off, none⟩) m cb, .func (.func fr) #[] #[]]), isV (.agg #[.int .i64 (i : Int), .int .i64 (j : Int)]), isV (.agg #[.int .i64 (za : Int), .int .i64 (zb : Int)]), isV (.agg #[.int .i64 v0, .int .i64 v1, .int .i64 v2, .int .i64 v3, .int .i64 v4, .int .i64 v5, .int .i64 v6, .int .i64 v7]), isV (.int .i64 ov), isV (.int .i64 lim)]
      (by kernel_rfl) (by kernel_rfl) (by kernel_rfl) (by simp) (by simp) (Below.refl _ _).drew ?stab ?step ?fin
     case stab => exact (StabL.is (StabL.is (StabL.is (StabL.is (StabL.is (StabL.is StabL.nil))))))
     case step =>
      refine StepsL.is ?_ (StepsL.is ?_ (StepsL.is ?_ (StepsL.is ?_ (StepsL.is ?_ (StepsL.is ?_ StepsL.nil)))))
      all_goals
       intro vs W K hC hD hU hK
       simp only [fillA, Act.put, List.setIfInBounds_toArray, List.set_cons_zero, List.set_cons_succ, Nat.zero_add, Nat.reduceAdd] at hK ⊢
       simp [waits, Region.binds] at hD
       try simp only [envOf, List.getD_cons_succ, List.getD_cons_zero, isV] at hD
       try simp only [hD] at hK ⊢
      ·obtain ⟨⟨p0, p1, p2, p3, p4, p5⟩, ⟨r0, r1⟩, ⟨s0, s1⟩, ⟨c0, c1, c2, c3, c4, c5, c6, c7⟩, l0⟩ := kk.out W hC
       go_simp
       exact hK _ hC (Below.refl _ _)
      ·obtain ⟨⟨p0, p1, p2, p3, p4, p5⟩, ⟨r0, r1⟩, ⟨s0, s1⟩, ⟨c0, c1, c2, c3, c4, c5, c6, c7⟩, l0⟩ := kk.out W hC
       go_simp
       exact hK _ hC (Below.refl _ _)
      ·obtain ⟨⟨p0, p1, p2, p3, p4, p5⟩, ⟨r0, r1⟩, ⟨s0, s1⟩, ⟨c0, c1, c2, c3, c4, c5, c6, c7⟩, l0⟩ := kk.out W hC
       go_simp
       exact hK _ hC (Below.refl _ _)
      ·obtain ⟨⟨p0, p1, p2, p3, p4, p5⟩, ⟨r0, r1⟩, ⟨s0, s1⟩, ⟨c0, c1, c2, c3, c4, c5, c6, c7⟩, l0⟩ := kk.out W hC
       go_simp
       exact hK _ hC (Below.refl _ _)
      ·go_simp
       refine (HOFW.out W hC).mono ?_
       rintro e w' ⟨rfl, hb⟩
       exact hK _ (bl_call hC hb (Nat.le_refl _)) hb
      obtain ⟨⟨p0, p1, p2, p3, p4, p5⟩, ⟨r0, r1⟩, ⟨s0, s1⟩, ⟨c0, c1, c2, c3, c4, c5, c6, c7⟩, l0⟩ := kk.out W hC
      go_simp
      exact hK _ hC (Below.refl _ _)
     case fin =>
      intro vs W hC hE hU
      have e4 := hE 4 (by simp)
      have e5 := hE 5 (by simp)
      simp only [envOf, List.getD_cons_succ, List.getD_cons_zero, isV] at e4 e5
      simp only [fillA, Act.put, List.setIfInBounds_toArray, List.set_cons_zero, List.set_cons_succ, Nat.zero_add, Nat.reduceAdd, e4, e5]
      generalize vs 0 = u0, vs 1 = u1, vs 2 = u2, vs 3 = u3
      have HWU := Lib.hid hC
      clear hE hU hC e4 e5
      go_simp
      gi_wp2_with fail
      exact HNO.out W (bl_call HB3.out HWU.out (Nat.le_refl _)) HAN.out
    have HAN : Hid ((c.roads.take (k + 1)).any (fun r => decide (lim < offR c (za, zb) r)) = false) := any_take_no Hx.out HAr.out (by rw [HOV.out]; exact decide_eq_false hlo)
    refine wpIn_region_list1 (F := Fence.wide.inRound l') (r := some l') rfl (fun W => Below U3.heap.size U3 W) (fun w w' => Below w.heap.size w w')
     [isV (.agg #[.int .i64 kd, .int .i64 ba, .int .i64 mo, .slice A n ca, .slice (some ⟨b, off, none⟩) m cb, .func (.func fr) #[] #[]]), isV (.agg #[.int .i64 (i : Int), .int .i64 (j : Int)]), isV (.agg #[.int .i64 (za : Int), .int .i64 (zb : Int)]), isV (.agg #[.int .i64 v0, .int .i64 v1, .int .i64 v2, .int .i64 v3, .int .i64 v4, .int .i64 v5, .int .i64 v6, .int .i64 v7]), isV (.int .i64 ov), isV (.int .i64 lim)]
     (by kernel_rfl) (by kernel_rfl) (by kernel_rfl) (by simp) (by simp) (Below.refl _ _).drew ?stab ?step ?fin
    case stab => exact (StabL.is (StabL.is (StabL.is (StabL.is (StabL.is (StabL.is StabL.nil))))))
    case step =>
     refine StepsL.is ?_ (StepsL.is ?_ (StepsL.is ?_ (StepsL.is ?_ (StepsL.is ?_ (StepsL.is ?_ StepsL.nil)))))
     all_goals
      intro vs W K hC hD hU hK
      simp only [fillA, Act.put, List.setIfInBounds_toArray, List.set_cons_zero, List.set_cons_succ, Nat.zero_add, Nat.reduceAdd] at hK ⊢
      simp [waits, Region.binds] at hD
      try simp only [envOf, List.getD_cons_succ, List.getD_cons_zero, isV] at hD
      try simp only [hD] at hK ⊢
     ·obtain ⟨⟨p0, p1, p2, p3, p4, p5⟩, ⟨r0, r1⟩, ⟨s0, s1⟩, ⟨c0, c1, c2, c3, c4, c5, c6, c7⟩, l0⟩ := kk.out W hC
      go_simp
      exact hK _ hC (Below.refl _ _)
     ·obtain ⟨⟨p0, p1, p2, p3, p4, p5⟩, ⟨r0, r1⟩, ⟨s0, s1⟩, ⟨c0, c1, c2, c3, c4, c5, c6, c7⟩, l0⟩ := kk.out W hC
      go_simp
      exact hK _ hC (Below.refl _ _)
     ·obtain ⟨⟨p0, p1, p2, p3, p4, p5⟩, ⟨r0, r1⟩, ⟨s0, s1⟩, ⟨c0, c1, c2, c3, c4, c5, c6, c7⟩, l0⟩ := kk.out W hC
      go_simp
      exact hK _ hC (Below.refl _ _)
     ·obtain ⟨⟨p0, p1, p2, p3, p4, p5⟩, ⟨r0, r1⟩, ⟨s0, s1⟩, ⟨c0, c1, c2, c3, c4, c5, c6, c7⟩, l0⟩ := kk.out W hC
      go_simp
      exact hK _ hC (Below.refl _ _)
     ·go_simp
      refine (HOFW.out W hC).mono ?_
      rintro e w' ⟨rfl, hb⟩
      exact hK _ (bl_call hC hb (Nat.le_refl _)) hb
     obtain ⟨⟨p0, p1, p2, p3, p4, p5⟩, ⟨r0, r1⟩, ⟨s0, s1⟩, ⟨c0, c1, c2, c3, c4, c5, c6, c7⟩, l0⟩ := kk.out W hC
     go_simp
     exact hK _ hC (Below.refl _ _)
    case fin =>
     intro vs W hC hE hU
     have e4 := hE 4 (by simp)
     have e5 := hE 5 (by simp)
     simp only [envOf, List.getD_cons_succ, List.getD_cons_zero, isV] at e4 e5
     simp only [fillA, Act.put, List.setIfInBounds_toArray, List.set_cons_zero, List.set_cons_succ, Nat.zero_add, Nat.reduceAdd, e4, e5]
     generalize vs 0 = u0, vs 1 = u1, vs 2 = u2, vs 3 = u3
     have HWU := Lib.hid hC
     clear hE hU hC e4 e5
     go_simp
     gi_wp2_with fail
     go_roundw
     case rel => exact ⟨k + 1, by omega, by go_num, bl_call HB3.out HWU.out (Nat.le_refl _), HAN⟩
     case measure => simp [intOf]; omega
   obtain rfl : k = m := by omega
   have HAN : Hid (c.roads.any (fun r => decide (lim < offR c (za, zb) r)) = false) := by
    have h := HAr.out
    rwa [List.take_of_length_le (by rw [HRL.out]; exact Nat.le_refl _)] at h
   have hb3 : Below A2.heap.size A2 wr := bl_call HBV.out HBr.out (Nat.le_refl _)
   have b2w := HB2.out.bl hb3
   have x3 := HS2.out.bl hb3
   have s0 := x3.cell 0
   have s1 := x3.cell 1
   obtain ⟨Va, hVa⟩ : ∃ V, wr.setCell ⟨gb, 0, none⟩ (.int .i64 (za : Int)) = V := ⟨_, rfl⟩
   obtain ⟨Vb, hVb⟩ : ∃ V, Va.setCell ⟨gb, 1, none⟩ (.int .i64 (zb : Int)) = V := ⟨_, rfl⟩
   have ba : Blk Va gb 42 #[.int .i64 (za : Int), .int .i64 (bb0 : Int)] := by rw [← hVa]; exact b2w.set_ 0 _
   have p0 := b2w.cell 0
   have p1 := ba.cell 1
   have p2 := ba.frozen 1
   have p5 := b2w.frozen 0
   have hki : ¬ (k : Int) < k := by omega
   have HYY := Lib.hid (HYES.out wr Vb HBr.out HAN.out (by rw [← hVb, ← hVa]))
   clear x3 ba b2w hb3 HNO HYES HOF
   gi_wp2_with fail
   exact HYY.out
  obtain rfl : fb = false := by simpa using hf0
  have HNN : Hid (Kept O A2 U2 ∧ ∃ O' : Foot, (∀ k, O' k → O k ∨ (A1.heap.size ≤ k ∧ k < U2.heap.size)) ∧ LeX gz gb (.exit 1) O' U2) := by
   refine ⟨Kept.of_bl HBV.out, O, fun k h => .inl h, rfl, HOO.out, ?_⟩
   have h := HGR.out
   rw [great_no HFB.out] at h
   rw [← h]; exact HB2.out.bl HBV.out
  clear x0 x1 x2 x3 x4
  gi_wp2_with fail
  exact HNN.out
 case done =>
  rintro O W' D ⟨b, hO, b2, hn⟩ hOs hK hD hnD hDb
  obtain rfl : b = gz := by rw [List.drop_length] at hn; exact hn
  have hBel := hbig hK
  have HBEL := Lib.hid hBel
  have hnd : gb ≠ D := fun e => hnD (e ▸ (hO _).2 rfl)
  have HB9 : Hid (Blk W' gb 42 #[.int .i64 (b.1 : Int), .int .i64 (b.2 : Int)]) := b2
  obtain ⟨ga, hga⟩ : ∃ a, b.1 = a := ⟨_, rfl⟩
  obtain ⟨gd, hgd⟩ : ∃ a, b.2 = a := ⟨_, rfl⟩
  obtain rfl : b = (ga, gd) := Prod.ext hga hgd
  have heq : ∀ V, (Op.equalIn 10000 42 (.agg #[.int .i64 (ga : Int), .int .i64 (gd : Int)]) (.agg #[.int .i64 0, .int .i64 0])).run Tryz.prog V = .ok false V := fun V => by rw [eqz_scale, decide_eq_false (fun e => HZ0.out (by obtain ⟨e1, e2⟩ := e; exact Prod.ext (by show ga = 0; omega) (by show gd = 0; omega)))]
  have c0 := b2.cell 0
  have c1 := b2.cell 1
  have f0 := b2.frozen 0
  have f1 := b2.frozen 1
  have l0 := b2.lt
  have HDB := Lib.hid hDb
  have hwD : w.heap.size ≤ D := by omega
  obtain ⟨Va, hVa⟩ : ∃ V, W'.setCell ⟨gb, 0, none⟩ (.int .i64 (ga : Int)) = V := ⟨_, rfl⟩
  obtain ⟨Vb, hVb⟩ : ∃ V, Va.setCell ⟨gb, 1, none⟩ (.int .i64 (gd : Int)) = V := ⟨_, rfl⟩
  have bA : Blk Va gb 42 #[.int .i64 (ga : Int), .int .i64 (gd : Int)] := by rw [← hVa]; exact b2.set_ 0 _
  have bB : Blk Vb gb 42 #[.int .i64 (ga : Int), .int .i64 (gd : Int)] := by rw [← hVb]; exact bA.set_ 1 _
  have HBB := Lib.hid bB
  have HDB2 : Hid (Vb.heap[D]? = some (.deferred (some []))) := by
   rw [Hid, ← hVb, Below.heap_setCell Va ⟨gb, 1, none⟩ _ D (fun e => hnd e.symm), ← hVa, Below.heap_setCell W' ⟨gb, 0, none⟩ _ D (fun e => hnd e.symm)]; exact hDb
  have HBE2 : Hid (Below w.heap.size w Vb) := by rw [Hid, ← hVb, ← hVa]; exact bl_set (bl_set hBel hwg _) hwg _
  have a1 := bA.cell 1
  have a2 := bA.frozen 1
  dsimp only at c0 c1
  clear hBel hK hOs hO b2 hnD hDb bA bB hga hgd
  gi_wp2_with fail
  refine ⟨by simp, .inl ⟨_, _, rfl, run_takeDeferred HDB2.out, ?_⟩⟩
  exact ⟨_, ret_sgreat rfl rfl ((World.putObj_heap_other hnd).trans HBB.out), rfl, by rw [← hgc]; exact bl_put5 HBE2.out hwD _⟩
 rintro cd O W' D ⟨rfl, hO, b2⟩ hOs hK hD hnD hDb
 have hBel := hbig hK
 have HBEL := Lib.hid hBel
 have hnd : gb ≠ D := fun e => hnD (e ▸ (hO _).2 rfl)
 have HB9 : Hid (Blk W' gb 42 #[.int .i64 (gz.1 : Int), .int .i64 (gz.2 : Int)]) := b2
 obtain ⟨ga, hga⟩ : ∃ a, gz.1 = a := ⟨_, rfl⟩
 obtain ⟨gd, hgd⟩ : ∃ a, gz.2 = a := ⟨_, rfl⟩
 obtain rfl : gz = (ga, gd) := Prod.ext hga hgd
 have heq : ∀ V, (Op.equalIn 10000 42 (.agg #[.int .i64 (ga : Int), .int .i64 (gd : Int)]) (.agg #[.int .i64 0, .int .i64 0])).run Tryz.prog V = .ok false V := fun V => by rw [eqz_scale, decide_eq_false (fun e => HZ0.out (by obtain ⟨e1, e2⟩ := e; exact Prod.ext (by show ga = 0; omega) (by show gd = 0; omega)))]
 have c0 := b2.cell 0
 have c1 := b2.cell 1
 have f0 := b2.frozen 0
 have f1 := b2.frozen 1
 have l0 := b2.lt
 have HDB := Lib.hid hDb
 have hwD : w.heap.size ≤ D := by omega
 obtain ⟨Va, hVa⟩ : ∃ V, W'.setCell ⟨gb, 0, none⟩ (.int .i64 (ga : Int)) = V := ⟨_, rfl⟩
 obtain ⟨Vb, hVb⟩ : ∃ V, Va.setCell ⟨gb, 1, none⟩ (.int .i64 (gd : Int)) = V := ⟨_, rfl⟩
 have bA : Blk Va gb 42 #[.int .i64 (ga : Int), .int .i64 (gd : Int)] := by rw [← hVa]; exact b2.set_ 0 _
 have bB : Blk Vb gb 42 #[.int .i64 (ga : Int), .int .i64 (gd : Int)] := by rw [← hVb]; exact bA.set_ 1 _
 have HBB := Lib.hid bB
 have HDB2 : Hid (Vb.heap[D]? = some (.deferred (some []))) := by
  rw [Hid, ← hVb, Below.heap_setCell Va ⟨gb, 1, none⟩ _ D (fun e => hnd e.symm), ← hVa, Below.heap_setCell W' ⟨gb, 0, none⟩ _ D (fun e => hnd e.symm)]; exact hDb
 have HBE2 : Hid (Below w.heap.size w Vb) := by rw [Hid, ← hVb, ← hVa]; exact bl_set (bl_set hBel hwg _) hwg _
 have a1 := bA.cell 1
 have a2 := bA.frozen 1
 dsimp only at c0 c1
 clear hBel hK hOs hO b2 hnD hDb bA bB hga hgd
 gi_wp2_with fail
 refine ⟨by simp, .inl ⟨_, _, rfl, run_takeDeferred HDB2.out, ?_⟩⟩
 exact ⟨_, ret_sgreat rfl rfl ((World.putObj_heap_other hnd).trans HBB.out), rfl, by rw [← hgc]; exact bl_put5 HBE2.out hwD _⟩
end Go.Proofs.YtcnebekkbfajbaaGreat
