/- A part of the proof that TopMeasured always answers true. -/
import Derived.Test.YtcnebekkbfajbaaGreatCScFalse
import Derived.Test.YtcnebekkbfajbaaGreatCScSeq
set_option linter.all false
namespace Go.Proofs.YtcnebekkbfajbaaGreat
open Go.RowKit Go.Shelf
attribute [local go_sem] Oper.semAt_some
theorem find_here {α : Type} {p : α → Bool} : ∀ {L : List α} {i : Nat} {x : α}, L[i]? = some x → p x = true → (∀ j y, j < i → L[j]? = some y → p y = false) → L.find? p = some x
 | [], i, x, h, _, _ => by simp at h
 | y :: L, 0, x, h, hp, _ => by
  obtain rfl : y = x := by simpa using h
  rw [List.find?_cons_of_pos hp]
 | y :: L, i + 1, x, h, hp, hn => by
  rw [List.find?_cons_of_neg (by rw [hn 0 y (by omega) rfl]; exact Bool.false_ne_true)]
  exact find_here (i := i) (by simpa using h) hp (fun j z hj hz => hn (j + 1) z (by omega) (by simpa using hz))
theorem find_not {α : Type} {p : α → Bool} {L : List α} {x : α} (h : L.find? p = some x) (hn : ∀ j y, j < L.length → L[j]? = some y → p y = false) : False := by
 have h1 := List.find?_some h
 obtain ⟨j, hj, e⟩ := List.mem_iff_getElem.1 (List.mem_of_find?_eq_some h)
 have h2 := hn j x hj (by rw [List.getElem?_eq_getElem hj, e])
 rw [h2] at h1
 cases h1
theorem bl_put5 {B : Nat} {w w' : World} (h : Below B w w') {l : Nat} (hl : B ≤ l) (o : Obj) : Below B w (w'.putObj l o) :=
 h.trans ⟨rfl, rfl, rfl, by simp, fun k hk => World.putObj_heap_other (by omega)⟩
def leastB (c : Case5) (z : Nat × Nat) : Bool := fits5 c (z.1, z.2) && (flatZ c z).isEmpty
theorem sleast_results (tmps : Array Value) (w : World) {g2 g3 : Nat} {a b e : Int} {T2 T3 : TypeId} (h2 : Blk w g2 T2 #[.int .i64 a, .int .i64 b]) (h3 : Blk w g3 T3 #[.int .i64 e])
  (t2 : tmps[2]? = some (.pointer (some ⟨g2, 0, none⟩))) (t3 : tmps[3]? = some (.pointer (some ⟨g3, 0, none⟩))) :
  (results Tryz.f28 tmps).run Tryz.prog w = .ok (.tuple #[.agg #[.int .i64 a, .int .i64 b], .int .i64 e]) w := by
 have c2 := h2.cell 0
 have c3 := h2.cell 1
 have c4 := h3.cell 0
 simp [results, Tryz.results28, asAddr, go_sem, t2, t3, c2, c3, c4]
def LeastJ5 (c : Case5) (g2 g3 : Nat) (i : Nat) (O : Foot) (A : World) : Prop :=
 (∀ k, O k ↔ (k = g2 ∨ k = g3)) ∧ Blk A g2 42 #[.int .i64 0, .int .i64 0] ∧ Blk A g3 37 #[.int .i64 0] ∧ ∀ j y, j < i → scalesN[j]? = some y → leastB c y = false
def LeastX5 (z : Nat × Nat) (g2 g3 : Nat) (cd : Code) (O : Foot) (A : World) : Prop :=
 cd = .ret ∧ (∀ k, O k ↔ (k = g2 ∨ k = g3)) ∧ Blk A g2 42 #[.int .i64 (z.1 : Int), .int .i64 (z.2 : Int)] ∧ Blk A g3 37 #[.int .i64 0]
set_option maxRecDepth 100000 in
set_option maxHeartbeats 4000000 in
theorem sleast_any {c : Case5} {A B : Option Addr} {n ca m cb : Nat} {kd ba mo : Int} {z : Nat × Nat} (hok : Ok5 c) (hl : leastZ c = some z) (w : World) (g : CaseAt (fun _ => True) w A n B m c) (h1 : c.kind = kd) (h2 : c.base = ba) (h3 : c.most = mo) :
  Calls Tryz.prog 28 #[.agg #[.int .i64 kd, .int .i64 ba, .int .i64 mo, .slice A n ca, .slice B m cb]] w fun e w' => e = .returned (.tuple #[.agg #[.int .i64 (z.1 : Int), .int .i64 (z.2 : Int)], .int .i64 0]) ∧ Below w.heap.size w w' := by
 have HOK := Lib.hid hok
 have HLZ : Hid (scalesN.find? (leastB c) = some z) := hl
 have HM : Hid (modelV c A n ca B m cb = .agg #[.int .i64 kd, .int .i64 ba, .int .i64 mo, .slice A n ca, .slice B m cb, .func (.func (roundF c.kind)) #[] #[]]) := by rw [Hid, modelV, h1, h2, h3]
 obtain ⟨fr, hfr⟩ : ∃ f, roundF c.kind = f := ⟨_, rfl⟩
 rw [hfr] at HM
 obtain ⟨W, hW⟩ : ∃ W, ((w.alloc (.cells #[.int .i64 kd, .int .i64 ba, .int .i64 mo, .slice A n ca, .slice B m cb] 25)).alloc (.cells #[.int .i64 0, .int .i64 0] 42)).alloc (.cells #[.int .i64 0] 37) = W := ⟨_, rfl⟩
 have X : Blk W w.heap.size 25 #[.int .i64 kd, .int .i64 ba, .int .i64 mo, .slice A n ca, .slice B m cb] := by rw [← hW]; exact ((Blk.new _ _ _ rfl).alloc _).alloc _
 have Y : Blk W (w.heap.size + 1) 42 #[.int .i64 0, .int .i64 0] := by rw [← hW]; exact (Blk.new _ _ _ (by simp)).alloc _
 have E : Blk W (w.heap.size + 1 + 1) 37 #[.int .i64 0] := by rw [← hW]; exact Blk.new _ _ _ (by simp)
 have hBW : Below w.heap.size w W := by rw [← hW]; exact bl_alloc (bl_alloc (bl_alloc (Below.refl _ _) _ (Nat.le_refl _)) _ (Nat.le_refl _)) _ (Nat.le_refl _)
 have HG : Hid (∀ V, Below w.heap.size w V → CaseAt (fun _ => True) V A n B m c) := fun V hb => g.bl hb
 have x0 := X.cell 0
 have x1 := X.cell 1
 have x2 := X.cell 2
 have x3 := X.cell 3
 have x4 := X.cell 4
 have HY := Lib.hid Y
 have HE := Lib.hid E
 have hYl := Y.lt
 have hEl := E.lt
 clear g X Y E hok hl hfr
 refine (callsIn_wide (n := 1)).1 ?_
 refine callsIn_of_wp_marks Tryz.func28 rfl trivial ?_ rfl
 simp only [Tryz.ntmps28, List.size_toArray, List.length_cons, List.length_nil, Nat.reduceAdd, Nat.reduceSub, Array.replicate_succ, Array.replicate_zero, List.push_toArray, List.append_toArray, List.nil_append, List.cons_append]
 gi_wp2_with fail
 refine ⟨trivial, ?_⟩
 refine (callsIn_wide.2 (senter_any (L := none) (q := 0) (cl := 0) HOK.out (fun y hy => by cases hy) W (HG.out W hBW) (SliceOf.nil _ _ _ _ _) h1 h2 h3)).mono ?_
 rintro e V1 ⟨rfl, b1⟩
 rw [HM.out]
 have HB1 : Hid (Below W.heap.size W V1) := b1
 clear b1 x0 x1 x2 x3 x4 hW
 obtain ⟨gM, hgM⟩ : ∃ g, V1.heap.size = g := ⟨_, rfl⟩
 obtain ⟨U1, hU1⟩ : ∃ U, V1.alloc (.cells #[.int .i64 kd, .int .i64 ba, .int .i64 mo, .slice A n ca, .slice B m cb, .func (.func fr) #[] #[]] 104) = U := ⟨_, rfl⟩
 have HBU : Hid (Below W.heap.size W U1) := by rw [Hid, ← hU1]; exact bl_alloc HB1.out _ (Nat.le_refl _)
 have MU : Hid (Blk U1 gM 104 #[.int .i64 kd, .int .i64 ba, .int .i64 mo, .slice A n ca, .slice B m cb, .func (.func fr) #[] #[]]) := by rw [Hid, ← hU1]; exact Blk.new _ _ _ hgM.symm
 gi_wp2_with fail
 refine ⟨trivial, ?_⟩
 refine (callsIn_wide.2 (sscales_any _)).mono ?_
 rintro e w' ⟨rfl, hw'⟩
 rw [hw']
 clear hw'
 have hsW := hBW.size
 have hsU := HBU.out.size
 have hgMs : W.heap.size ≤ gM := by rw [← hgM]; exact HB1.out.size
 have hgMl := MU.out.lt
 clear hU1 hgM
 gi_wp2_with fail
 obtain ⟨g2, hg2⟩ : ∃ g, w.heap.size + 1 = g := ⟨_, rfl⟩
 obtain ⟨g3, hg3⟩ : ∃ g, w.heap.size + 1 + 1 = g := ⟨_, rfl⟩
 have hg32 : g2 + 1 = g3 := by omega
 rw [hg3, hg2]
 rw [hg3] at HE hEl
 rw [hg2] at HY hYl
 have hg2w : w.heap.size + 1 ≤ g2 := by omega
 have HYU : Hid (Blk U1 g2 42 #[.int .i64 0, .int .i64 0]) := HY.out.bl HBU.out
 have HEU : Hid (Blk U1 g3 37 #[.int .i64 0]) := HE.out.bl HBU.out
 clear hg2 hg3
 have hbig : ∀ {A : World}, Kept (fun k => (k = g2 ∨ k = g3) ∨ U1.heap.size ≤ k) U1 A → Below w.heap.size w A := fun hK => (bl_call hBW HBU.out (Nat.le_refl _)).trans (hK.below (by omega) (fun k h => by omega))
 refine rangeFunc_outer (m := 1) (gf := 91) (lb := #[]) rfl eg_scales scales_seq (fun _ => rfl) (fun k => k = g2 ∨ k = g3) (LeastJ5 c g2 g3) (LeastX5 z g2 g3) (fun k h => by omega) (fun A hK => trivial) ?stay ?stayx ⟨fun k => Iff.rfl, HYU.out, HEU.out, fun j y h => by omega⟩ ?round ?done ?stop
 case stay =>
  rintro i O A B ⟨hO, b2, b3, hn⟩ hlt hK
  exact ⟨hO, (hK.block _ b2.lt (fun h => h ((hO _).2 (.inl rfl)))).trans b2, (hK.block _ b3.lt (fun h => h ((hO _).2 (.inr rfl)))).trans b3, hn⟩
 case stayx =>
  rintro cd O A B ⟨hc, hO, b2, b3⟩ hlt hK
  exact ⟨hc, hO, (hK.block _ b2.lt (fun h => h ((hO _).2 (.inl rfl)))).trans b2, (hK.block _ b3.lt (fun h => h ((hO _).2 (.inr rfl)))).trans b3⟩
 case round =>
  intro l i x O A1 hx hj hlt hsub hK hnl hlA hWl
  obtain ⟨hO, j2, j3, hn⟩ := hj
  have hxz : x ∈ scalesN := List.mem_of_getElem? hx
  obtain ⟨za, hza⟩ : ∃ a, x.1 = a := ⟨_, rfl⟩
  obtain ⟨zb, hzb⟩ : ∃ a, x.2 = a := ⟨_, rfl⟩
  obtain rfl : x = (za, zb) := Prod.ext hza hzb
  have HX := Lib.hid hx
  have HXZ := Lib.hid hxz
  have HN := Lib.hid hn
  have HK := Lib.hid hK
  have HOO := Lib.hid hO
  clear hx hxz hn hK hza hzb hO
  have hzv : zV (za, zb) = .agg #[.int .i64 (za : Int), .int .i64 (zb : Int)] := rfl
  rw [fold1, hzv]
  dsimp only
  simp only [List.setIfInBounds_toArray]
  try simp only [List.set_cons_zero, List.set_cons_succ]
  clear hzv
  gi_wp2
  refine ⟨Kept.alloc _ _ _, fun A2 hK2 hs2' r2 hr2 => ?_⟩
  clear hr2
  try simp only [World.size_alloc] at hs2'
  have hs2a : A1.heap.size + 1 ≤ A2.heap.size := by omega
  have hs2b : A2.heap.size ≤ A1.heap.size + 1 := by omega
  clear hs2'
  have kA : Kept (fun k => k = l) A1 A2 := (Kept.alloc (fun k => k = l) A1 (.cells #[.int .i64 (za : Int), .int .i64 (zb : Int)] 42)).trans hK2
  have hS2 : Blk A2 A1.heap.size 42 #[.int .i64 (za : Int), .int .i64 (zb : Int)] := (hK2.block A1.heap.size (by simp) (by omega)).trans (Blk.new _ _ _ rfl)
  have hK3 : Kept (fun k => (k = g2 ∨ k = g3) ∨ U1.heap.size ≤ k) U1 A2 := HK.out.seq kA (fun k _ h => .inr (h ▸ hWl))
  have hb2 : Blk A2 g2 42 #[.int .i64 0, .int .i64 0] := (kA.block _ j2.lt (fun e => hnl (e ▸ (HOO.out _).2 (.inl rfl)))).trans j2
  have hb3 : Blk A2 g3 37 #[.int .i64 0] := (kA.block _ j3.lt (fun e => hnl (e ▸ (HOO.out _).2 (.inr rfl)))).trans j3
  have hM2 : Blk A2 gM 104 #[.int .i64 kd, .int .i64 ba, .int .i64 mo, .slice A n ca, .slice B m cb, .func (.func fr) #[] #[]] := (hK3.block _ hgMl (by omega)).trans MU.out
  have hA2w := hbig hK3
  have HA2W := Lib.hid hA2w
  obtain ⟨gS, hgS⟩ : ∃ g, A1.heap.size = g := ⟨_, rfl⟩
  rw [hgS] at hS2 hs2a hs2b
  rw [hgS]
  have HGS := Lib.hid hgS
  have HB2 := Lib.hid hb2
  have HB3 := Lib.hid hb3
  have HM2 := Lib.hid hM2
  have HS2 := Lib.hid hS2
  have hl2 : g2 < A2.heap.size := hb2.lt
  have hl3 : g3 < A2.heap.size := hb3.lt
  have m0 := hM2.cell 0
  have m1 := hM2.cell 1
  have m2 := hM2.cell 2
  have m3 := hM2.cell 3
  have m4 := hM2.cell 4
  have m5 := hM2.cell 5
  have s0 := hS2.cell 0
  have s1 := hS2.cell 1
  clear hK2 hK3 kA j2 j3 hb2 hb3 hM2 hS2 hA2w hgS
  gi_wp2_with fail
  refine ⟨trivial, ?_⟩
  have hcut := scut_any HOK.out HXZ.out A2 (HG.out A2 HA2W.out) (ca := ca) (cb := cb)
  rw [HM.out] at hcut
  refine (CallsIn.inRound l (callsIn_wide.2 hcut)).mono ?_
  rintro e V2 ⟨rfl, b2⟩
  obtain ⟨v0, v1, v2, v3, v4, v5, v6, v7, hv⟩ := cutV_8 (cut5 c (za, zb))
  have HV := Lib.hid hv
  rw [hv]
  have HC2 : Hid (Below A2.heap.size A2 V2) := b2
  clear b2 hcut hv m0 m1 m2 m3 m4 m5 s0 s1
  obtain ⟨fb, hfb⟩ : ∃ x, fits5 c ((((za, zb) : Nat × Nat).1 : Int), (((za, zb) : Nat × Nat).2 : Int)) = x := ⟨_, rfl⟩
  rw [hfb]
  have HFB : Hid (leastB c (za, zb) = (fb && (flatZ c (za, zb)).isEmpty)) := by rw [Hid, ← hfb]; rfl
  clear hfb
  obtain ⟨gC, hgC⟩ : ∃ g, V2.heap.size = g := ⟨_, rfl⟩
  obtain ⟨U2, hU2⟩ : ∃ U, V2.alloc (.cells #[.int .i64 v0, .int .i64 v1, .int .i64 v2, .int .i64 v3, .int .i64 v4, .int .i64 v5, .int .i64 v6, .int .i64 v7] 108) = U := ⟨_, rfl⟩
  have HBV : Hid (Below A2.heap.size A2 U2) := by rw [Hid, ← hU2]; exact bl_alloc HC2.out _ (Nat.le_refl _)
  have CU : Blk U2 gC 108 #[.int .i64 v0, .int .i64 v1, .int .i64 v2, .int .i64 v3, .int .i64 v4, .int .i64 v5, .int .i64 v6, .int .i64 v7] := by rw [← hU2]; exact Blk.new _ _ _ hgC.symm
  have MV := HM2.out.bl HBV.out
  have SV := HS2.out.bl HBV.out
  have HBW2 : Hid (Below w.heap.size w U2) := bl_call HA2W.out HBV.out (by have := HA2W.out.size; omega)
  have hsU2 : A2.heap.size ≤ U2.heap.size := HBV.out.size
  have m0 := MV.cell 0
  have m1 := MV.cell 1
  have m2 := MV.cell 2
  have m3 := MV.cell 3
  have m4 := MV.cell 4
  have m5 := MV.cell 5
  have c0 := CU.cell 0
  have c1 := CU.cell 1
  have c2 := CU.cell 2
  have c3 := CU.cell 3
  have c4 := CU.cell 4
  have c5 := CU.cell 5
  have c6 := CU.cell 6
  have c7 := CU.cell 7
  have s0 := SV.cell 0
  have s1 := SV.cell 1
  have HNO : Hid (∀ V, Below U2.heap.size U2 V → leastB c (za, zb) = false → Kept O A2 V ∧ ∃ O' : Foot, (∀ k, O' k → O k ∨ (A1.heap.size ≤ k ∧ k < V.heap.size)) ∧ LeastJ5 c g2 g3 (i + 1) O' V) := by
   intro V hb hf
   have hbV : Below A2.heap.size A2 V := bl_call HBV.out hb (Nat.le_refl _)
   refine ⟨Kept.of_bl hbV, O, fun k h => .inl h, HOO.out, HB2.out.bl hbV, HB3.out.bl hbV, fun j y hj hy => ?_⟩
   by_cases e : j = i
   ·subst e
    rw [HX.out] at hy
    injection hy with hy
    rw [← hy]; exact hf
   exact HN.out j y (by omega) hy
  have HYES : Hid (∀ V V', Below U2.heap.size U2 V → leastB c (za, zb) = true → V' = ((V.setCell ⟨g2, 0, none⟩ (.int .i64 (za : Int))).setCell ⟨g2, 1, none⟩ (.int .i64 (zb : Int))).setCell ⟨g3, 0, none⟩ (.int .i64 0) → Kept O A2 V' ∧ ∃ O' : Foot, (∀ k, O' k → O k ∨ (A1.heap.size ≤ k ∧ k < V'.heap.size)) ∧ LeastX5 z g2 g3 .ret O' V') := by
   intro V V' hb hf hV'
   have hbV : Below A2.heap.size A2 V := bl_call HBV.out hb (Nat.le_refl _)
   have hzz : z = (za, zb) := by
    have h := find_here (p := leastB c) HX.out hf (fun j y hj hy => HN.out j y hj hy)
    rw [HLZ.out] at h
    injection h
   subst hV'
   have b2 := HB2.out.bl hbV
   have b3 := HB3.out.bl hbV
   refine ⟨(((Kept.of_bl hbV).trans (Kept.setCell _ _ _ ((HOO.out _).2 (.inl rfl)))).trans (Kept.setCell _ _ _ ((HOO.out _).2 (.inl rfl)))).trans (Kept.setCell _ _ _ ((HOO.out _).2 (.inr rfl))), O, fun k h => .inl h, rfl, HOO.out, ?_, ?_⟩
   ·rw [hzz]
    exact ((b2.set_ 0 _).set_ 1 _).far (by dsimp only; omega) _
   exact ((b3.far (by dsimp only; omega) _).far (by dsimp only; omega) _).set_ 0 _
  have HFL : Hid (∀ V, Below U2.heap.size U2 V → Calls Tryz.prog 66 #[.agg #[.int .i64 kd, .int .i64 ba, .int .i64 mo, .slice A n ca, .slice B m cb, .func (.func fr) #[] #[]], .agg #[.int .i64 v0, .int .i64 v1, .int .i64 v2, .int .i64 v3, .int .i64 v4, .int .i64 v5, .int .i64 v6, .int .i64 v7]] V fun e w' => (∃ A' n' c', e = .returned (.slice A' n' c') ∧ Ints (fun _ => True) w' A' n' (flatZ c (za, zb)) ∧ ((flatZ c (za, zb) = [] ∧ A' = none ∧ n' = 0 ∧ c' = 0) ∨ (flatZ c (za, zb) ≠ [] ∧ ∃ a, A' = some a))) ∧ Below V.heap.size V w') := by
   intro V hb
   have h := sflat_any HOK.out HXZ.out V (HG.out V (bl_call HBW2.out hb (by have := HBW2.out.size; omega))) (ca := ca) (cb := cb)
   rwa [HM.out, HV.out] at h
  clear CU MV SV
  by_cases hf0 : fb = true
  ·subst hf0
   gi_wp2_with fail
   refine ⟨trivial, ?_⟩
   refine (CallsIn.inRound l (callsIn_wide.2 (HFL.out U2 (Below.refl _ _)))).mono ?_
   rintro e V3 ⟨⟨A', n', c', rfl, hI, hcase⟩, b3⟩
   have HB3' := Lib.hid b3
   have hs3 := b3.size
   have SV3 := (HS2.out.bl HBV.out).bl b3
   have b2w := (HB2.out.bl HBV.out).bl b3
   have b3w := (HB3.out.bl HBV.out).bl b3
   have r0 := SV3.cell 0
   have r1 := SV3.cell 1
   have f20 := b2w.frozen 0
   have f21 := b2w.frozen 1
   have f30 := b3w.frozen 0
   clear hI b3 HFL m0 m1 m2 m3 m4 m5 c0 c1 c2 c3 c4 c5 c6 c7 s0 s1 SV3 hU2 hgC f20 f21 f30
   rcases hcase with ⟨hf, rfl, rfl, rfl⟩ | ⟨hf, a, rfl⟩
   ·have HFF : Hid (leastB c (za, zb) = true) := by rw [Hid, HFB.out, hf]; rfl
    obtain ⟨Va, hVa⟩ : ∃ V, V3.setCell ⟨g2, 0, none⟩ (.int .i64 (za : Int)) = V := ⟨_, rfl⟩
    obtain ⟨Vb, hVb⟩ : ∃ V, Va.setCell ⟨g2, 1, none⟩ (.int .i64 (zb : Int)) = V := ⟨_, rfl⟩
    obtain ⟨V', hV'⟩ : ∃ V, Vb.setCell ⟨g3, 0, none⟩ (.int .i64 0) = V := ⟨_, rfl⟩
    have ba : Blk Va g2 42 #[.int .i64 (za : Int), .int .i64 0] := by rw [← hVa]; exact b2w.set_ 0 _
    have bb : Blk Vb g3 37 #[.int .i64 0] := by rw [← hVb, ← hVa]; exact (b3w.far (by dsimp only; omega) _).far (by dsimp only; omega) _
    have p0 := b2w.cell 0
    have p1 := ba.cell 1
    have p2 := ba.frozen 1
    have p3 := bb.cell 0
    have p4 := bb.frozen 0
    have p5 := b2w.frozen 0
    have he : ∀ V : World, (binOp .eql 22 (.slice none 0 0) (.slice none 0 0)).run Tryz.prog V = .ok (.bool true) V := fun _ => rfl
    have HYY := Lib.hid (HYES.out V3 V' HB3'.out HFF.out (by rw [← hV', ← hVb, ← hVa]))
    clear hf HNO HYES ba bb b2w b3w
    gi_wp2_with fail
    exact HYY.out
   have HFF : Hid (leastB c (za, zb) = false) := by rw [Hid, HFB.out]; cases hfz : flatZ c (za, zb) with
    | nil => exact absurd hfz hf
    | cons y ys => rfl
   have he : ∀ V : World, (binOp .eql 22 (.slice (some a) n' c') (.slice none 0 0)).run Tryz.prog V = .ok (.bool false) V := fun _ => rfl
   have HNN := Lib.hid (HNO.out V3 HB3'.out HFF.out)
   clear hf HNO HYES b2w b3w
   gi_wp2_with fail
   exact HNN.out
  obtain rfl : fb = false := by simpa using hf0
  have HNN := Lib.hid (HNO.out U2 (Below.refl _ _) (by rw [HFB.out]; rfl))
  clear HNO HYES HFL
  gi_wp2_with fail
  refine ⟨trivial, ?_⟩
  gi_wp2
  exact HNN.out
 case done =>
  rintro O W' D ⟨hO, b2, b3, hn⟩ hOs hK hD hnD hDb
  exact (find_not HLZ.out hn).elim
 rintro cd O W' D ⟨rfl, hO, b2, b3⟩ hOs hK hD hnD hDb
 have hBel := hbig hK
 gi_wp2
 refine ⟨by simp, .inl ⟨_, _, rfl, run_takeDeferred hDb, ?_⟩⟩
 have n2 : g2 ≠ D := fun e => hnD (e ▸ (hO _).2 (.inl rfl))
 have n3 : g3 ≠ D := fun e => hnD (e ▸ (hO _).2 (.inr rfl))
 exact ⟨_, sleast_results _ _ ((World.putObj_heap_other n2).trans b2) ((World.putObj_heap_other n3).trans b3) rfl rfl, rfl, bl_put5 hBel (by omega) _⟩
end Go.Proofs.YtcnebekkbfajbaaGreat
