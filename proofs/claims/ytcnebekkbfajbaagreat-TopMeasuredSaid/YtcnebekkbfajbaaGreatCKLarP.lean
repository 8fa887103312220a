/- A part of the proof that TopMeasured always answers true. -/
import Derived.Test.YtcnebekkbfajbaaGreatCCastPlan2
import Derived.Test.YtcnebekkbfajbaaGreatCKRefI
import Derived.Test.YtcnebekkbfajbaaGreatCScFalse
import Derived.Test.YtcnebekkbfajbaaGreatCScHas
set_option linter.all false
namespace Go.Proofs.YtcnebekkbfajbaaGreat
section
variable {s : Shop} {l l' : List SeenC}
theorem allL_get (s : Shop) (l : List SeenC) (p : List (Int × Int)) (j : Nat) : (allL s l p).getD j [] = if j < p.length then fit7 s l (p.getD j (0, 0)).1 (p.getD j (0, 0)).2 else [] := by
 unfold allL
 rw [List.getD_eq_getElem?_getD, List.getElem?_map]
 split
 ·rename_i h
  rw [getD_of (List.getElem?_eq_getElem h), List.getElem?_eq_getElem h]
  rfl
 rename_i h
 rw [List.getElem?_eq_none (by omega)]
 rfl
end
theorem planned {s : Shop} {l : List SeenC} {p : List (Int × Int)} (h0 : orderE s l p = 0) :
  planR s l p = ([], [], 8) ∨ ∃ P u, planR s l p = (P, u, 0) ∧ P.length = p.length ∧ P.Nodup ∧ (∀ i a, P[i]? = some a → a ∈ fit7 s l (p.getD i (0, 0)).1 (p.getD i (0, 0)).2 ∧ (a.1 : Int) ∈ u) ∧ IsSet s.moulds.length u ∧ ∀ x ∈ u, ∃ a ∈ P, (a.1 : Int) = x := by
 rcases plan_cases h0 with ⟨A, u, B, e1, e2, e3, e4⟩ | ⟨_, e⟩
 ·right
  obtain ⟨hok, hne, _, _⟩ := order_zero h0
  have hlen : (allL s l p).length = p.length := allL_len _ _ _
  have hc := plan_can (fun j => all_hu (p := p) hok hne j) hF8 e3 p.length (by rw [hlen]; exact Nat.le_refl _)
  obtain ⟨c1, _, c3, c4⟩ := hc
  have hu : u ∈ setsL s.moulds.length := by rw [e1]; simp
  refine ⟨_, u, e4, c1, c3, fun i a hi => ?_, sets_set hu, fun x hx => ?_⟩
  ·obtain ⟨d1, d2⟩ := c4 i a hi
   rw [allL_get, if_pos (by have := (List.getElem?_eq_some_iff.1 hi).1; omega)] at d1
   exact ⟨d1, by unfold hasN at d2; simpa using d2⟩
  by_cases hex : ∃ a ∈ planK (allL s l p) u p.length, (a.1 : Int) = x
  ·exact hex
  exfalso
  obtain ⟨u2, hu2⟩ : ∃ u2, u.filter (fun y => decide (y ≠ x)) = u2 := ⟨_, rfl⟩
  have hs2 : u2 ∈ setsL s.moulds.length := sets_mem.2 (by rw [← hu2]; exact List.filter_sublist.trans (sets_mem.1 hu))
  have hl2 : u2.length < u.length := by
   have h1 : u2.length ≤ u.length := by rw [← hu2]; exact List.length_filter_le _ _
   by_cases h2 : u2.length = u.length
   ·have h3 : u2 = u := by
     have hsub : u2.Sublist u := by rw [← hu2]; exact List.filter_sublist
     exact hsub.eq_of_length h2
    rw [← h3, ← hu2] at hx
    simp at hx
   omega
  have hcan : CanS (allL s l p) u2 := by
   refine ⟨fun j => (planK (allL s l p) u p.length).getD j (0, 0), fun j hj _ => ?_, fun i j hi hj _ _ hij => ?_⟩
   ·rw [hlen] at hj
    have hg : (planK (allL s l p) u p.length)[j]? = some ((planK (allL s l p) u p.length)[j]'(by rw [c1]; exact hj)) := List.getElem?_eq_getElem _
    have hM : (planK (allL s l p) u p.length).getD j (0, 0) = (planK (allL s l p) u p.length)[j]'(by rw [c1]; exact hj) := getD_of hg
    dsimp only
    rw [hM]
    obtain ⟨d1, d2⟩ := c4 j _ hg
    refine ⟨d1, ?_, by simp⟩
    unfold hasN at d2 ⊢
    rw [decide_eq_true_eq] at d2 ⊢
    rw [← hu2]
    exact List.mem_filter.2 ⟨d2, by simpa using fun e => hex ⟨_, List.mem_of_getElem? hg, e⟩⟩
   rw [hlen] at hi hj
   have hi' : i < (planK (allL s l p) u p.length).length := by rw [c1]; exact hi
   have hj' : j < (planK (allL s l p) u p.length).length := by rw [c1]; exact hj
   dsimp only at hij
   rw [List.getD_eq_getElem?_getD, List.getD_eq_getElem?_getD, List.getElem?_eq_getElem hi', List.getElem?_eq_getElem hj', Option.getD_some, Option.getD_some] at hij
   exact (List.getElem_inj c3).1 hij
  have ho := sets_order s.moulds.length
  rw [e1] at hs2 ho
  rw [List.pairwise_append] at ho
  rcases List.mem_append.1 hs2 with hm | hm
  ·exact e2 u2 hm hcan
  rcases List.mem_cons.1 hm with hm | hm
  ·rw [hm] at hl2; omega
  have := (List.pairwise_cons.1 ho.2.1).1 u2 hm
  omega
 exact .inl e
theorem spanC_ok {s : Shop} {l : List SeenC} {m c : Nat} {a z : Int} (e : (seen7 s l).2 = 0) (hl : l.length < 6) (hm : m < s.moulds.length) (hc : c < castsN s m) (h0 : 0 ≤ a) (h1 : a ≤ z) (h2 : z ≤ 20000) : (seen7 s (l ++ [⟨(m : Int), (c : Int), a, z⟩])).2 = 0 := by
 obtain ⟨h3, _, h4⟩ := seen7_zero e
 have hk := okS_of h3
 have hcs := castsN_bd hk hm
 rw [seen7_ok h3 (by rw [List.length_append, List.length_singleton]; omega) fun k hk2 => ?_]
 rw [List.length_append, List.length_singleton] at hk2
 by_cases hj : k < l.length
 ·have := h4 k hj
  unfold seenE7 at this ⊢
  rw [List.getD_eq_getElem?_getD, List.getElem?_append_left hj, ← List.getD_eq_getElem?_getD]
  exact this
 obtain rfl : k = l.length := by omega
 refine seenE_of (y := ⟨(m : Int), (c : Int), a, z⟩) (by simp) ⟨by simp, by simp; omega⟩ ⟨by simp, ?_⟩ ⟨h0, h1, h2⟩
 simp only [Int.toNat_natCast]
 omega
theorem fit7_iff {s : Shop} {l : List SeenC} {m c : Nat} {pa pz : Int} (hk : OkS s) (hm : m < s.moulds.length) (hc : c < castsN s m) : (m, c) ∈ fit7 s l pa pz ↔ pa ≤ (size7 s l m c).1 ∧ (size7 s l m c).2 ≤ pz := by
 have hcs := castsN_bd hk hm
 unfold fit7
 rw [List.mem_filter, places_mem]
 simp only [Bool.and_eq_true, decide_eq_true_eq]
 constructor
 ·exact fun h => h.2
 exact fun h => ⟨⟨hm, by omega⟩, h⟩
theorem fitting_is {s : Shop} {l : List SeenC} {k : Int} {tw : List (Int × Int)} {m c : Nat} {pa pz : Int} (hk : OkS s) (ht : Truth7 s k tw) (h : ∀ y ∈ l, SeenIn s k tw y) (hm : m < s.moulds.length) (hc : c < castsN s m) (hp : (m, c) ∈ fit7 s l pa pz) : pa ≤ madeT k tw m c ∧ madeT k tw m c ≤ pz := by
 have h1 := truth_size hk ht h hm c
 have h2 := (fit7_iff hk hm hc).1 hp
 omega
theorem fit_in {s : Shop} {l : List SeenC} {m c : Nat} {a z : Int} (hk : OkS s) (h : (m, c) ∈ fit7 s l a z) : m < s.moulds.length ∧ c < castsN s m := by
 unfold fit7 at h
 rw [List.mem_filter, places_mem] at h
 have hcs := castsN_bd hk (m := m) h.1.1
 exact ⟨h.1.1, by have := h.1.2; dsimp only at this; omega⟩
theorem there_of {s : Shop} {m c : Nat} (hk : OkS s) (hm : m < s.moulds.length) (hc : c < castsN s m) : there7 s (m : Int) (c : Int) = true := by
 have hcs := castsN_bd hk (m := m) hm
 unfold there7
 rw [Bool.and_eq_true, inB_iff, inB_iff]
 simp only [Int.toNat_natCast]
 omega
def spanO (off x : Int) : Int × Int := (max 0 (x - off), x + off)
def ordL (c : Case5) (z : Nat × Nat) (off : Int) : List (Int × Int) := ((cut5 c z).take 6).map (spanO off)
def markN (k0 : Int) (tw : List (Int × Int)) (P : List (Nat × Nat)) (i : Nat) : Int := madeT k0 tw (P.getD i (0, 0)).1 (P.getD i (0, 0)).2
def markO (off k0 : Int) (tw : List (Int × Int)) (P : List (Nat × Nat)) (i : Nat) : Mark5 := ⟨i, max 0 (markN k0 tw P i - off), markN k0 tw P i + off⟩
def marksK (off k0 : Int) (tw : List (Int × Int)) (P : List (Nat × Nat)) (k : Nat) : List Mark5 := (List.range k).map (markO off k0 tw P)
theorem marksK_succ (off k0 : Int) (tw : List (Int × Int)) (P : List (Nat × Nat)) (k : Nat) : marksK off k0 tw P (k + 1) = marksK off k0 tw P k ++ [markO off k0 tw P k] := by unfold marksK; rw [List.range_succ, List.map_append]; rfl
theorem marksK_len (off k0 : Int) (tw : List (Int × Int)) (P : List (Nat × Nat)) (k : Nat) : (marksK off k0 tw P k).length = k := by simp [marksK]
theorem ordL_len (c : Case5) (z : Nat × Nat) (off : Int) : (ordL c z off).length = min 6 c.hts.length := by simp [ordL, cut5, cutL]
theorem marks_ok {c : Case5} (hk : Ok5 c) {z : Nat × Nat} (hz : z ∈ scalesN) (hf : fits5 c (z.1, z.2) = true) {off : Int} (hoff : 0 ≤ off ∧ off ≤ 255) {s : Shop} (hok : OkS s) {k0 : Int} {tw : List (Int × Int)} (ht : Truth7 s k0 tw) {l : List SeenC} (hs : ∀ y ∈ l, SeenIn s k0 tw y)
  {P : List (Nat × Nat)} (hlen : P.length = (ordL c z off).length) (hP : ∀ (i : Nat) a, P[i]? = some a → a ∈ fit7 s l ((ordL c z off).getD i (0, 0)).1 ((ordL c z off).getD i (0, 0)).2) :
  MarksOk c (marksK off k0 tw P P.length) ∧ z ∈ scalesN.filter (agreeZ c (marksK off k0 tw P P.length)) := by
 have hol := ordL_len c z off
 have hn8 := hk.nh
 have key : ∀ i, i < P.length → ∃ x, (cut5 c z).getD i 0 = x ∧ 0 ≤ x ∧ x - off ≤ markN k0 tw P i ∧ markN k0 tw P i ≤ x + off ∧ 0 ≤ markN k0 tw P i ∧ markN k0 tw P i ≤ 20160 := by
  intro i hi
  obtain ⟨⟨pm, pc⟩, hx⟩ : ∃ a, P[i]? = some a := ⟨_, List.getElem?_eq_getElem hi⟩
  have h1 := hP i _ hx
  obtain ⟨g1, g2⟩ := fit_in hok h1
  have h2 := fitting_is hok ht hs g1 g2 h1
  have h3 := madeT_bd hok ht (c := pc) g1 (by have := (castsN_bd hok (m := pm) g1).2.1; omega)
  have hn : markN k0 tw P i = madeT k0 tw pm pc := by unfold markN; rw [getD_of hx]
  have hi6 : i < 6 ∧ i < c.hts.length := by omega
  have hc : ∃ x, (cut5 c z)[i]? = some x := ⟨_, List.getElem?_eq_getElem (by unfold cut5 cutL; rw [List.length_map]; exact hi6.2)⟩
  obtain ⟨x, hx2⟩ := hc
  have hsp : (ordL c z off)[i]? = some (spanO off x) := by
   unfold ordL
   rw [List.getElem?_map, List.getElem?_take, if_pos hi6.1, hx2]; rfl
  have hb := cuts_bd hk hz i
  have hgd : (cut5 c z).getD i 0 = x := getD_of hx2
  change 0 ≤ (cut5 c z).getD i 0 ∧ _ at hb
  rw [hgd] at hb
  rw [getD_of hsp] at h2
  unfold spanO at h2
  dsimp only at h2
  rw [← hn] at h2 h3
  exact ⟨x, hgd, hb.1, by omega, by omega, by omega, by omega⟩
 have hml := marksK_len off k0 tw P P.length
 have hget : ∀ y ∈ marksK off k0 tw P P.length, ∃ i, i < P.length ∧ y = markO off k0 tw P i := by
  intro y hy
  obtain ⟨i, hi, rfl⟩ := List.mem_map.1 hy
  exact ⟨i, List.mem_range.1 hi, rfl⟩
 refine ⟨⟨by omega, fun y hy => ?_⟩, List.mem_filter.2 ⟨hz, ?_⟩⟩
 ·obtain ⟨i, hi, rfl⟩ := hget y hy
  obtain ⟨x, _, a1, a2, a3, a4, a5⟩ := key i hi
  unfold markO
  dsimp only
  omega
 unfold agreeZ
 rw [hf, Bool.true_and]
 unfold marked
 rw [Bool.not_eq_true', List.any_eq_false]
 intro y hy
 obtain ⟨i, hi, rfl⟩ := hget y hy
 obtain ⟨x, hx, a1, a2, a3, a4, a5⟩ := key i hi
 change (cutL c (z.1, z.2)).getD i 0 = x at hx
 unfold markO outB
 dsimp only
 rw [Int.toNat_natCast, hx]
 simp only [Bool.or_eq_true, decide_eq_true_eq]
 omega
open Go.RowKit Go.Shelf
set_option maxRecDepth 100000 in
set_option maxHeartbeats 2000000 in
theorem sFlat_any {c : Case5} {A B : Option Addr} {n ca m cb : Nat} {kd ba mo : Int} {z : Nat × Nat} (hok : Ok5 c) (hz : z ∈ scalesN) (w : World) (g : CaseAt (fun _ => True) w A n B m c) (h1 : c.kind = kd) (h2 : c.base = ba) (h3 : c.most = mo) :
  Calls Tryz.prog 26 #[.agg #[.int .i64 kd, .int .i64 ba, .int .i64 mo, .slice A n ca, .slice B m cb], .agg #[.int .i64 (z.1 : Int), .int .i64 (z.2 : Int)]] w fun e w' => (∃ A' n' c', e = .returned (.tuple #[.slice A' n' c', .int .i64 0]) ∧ Ints (fun _ => True) w' A' n' (flatZ c z)) ∧ Below w.heap.size w w' := by
 have HZ := Lib.hid hz
 have HOK := Lib.hid hok
 have hn8 : n ≤ 8 := by have := hok.nh; have := g.hs.len; omega
 have HN : Hid ((cut5 c z).length = n) := by rw [Hid, cut5, cutL, List.length_map, g.hs.len]
 have HM : Hid (modelV c A n ca B m cb = .agg #[.int .i64 kd, .int .i64 ba, .int .i64 mo, .slice A n ca, .slice B m cb, .func (.func (roundF c.kind)) #[] #[]]) := by rw [Hid, modelV, h1, h2, h3]
 obtain ⟨fr, hfr⟩ : ∃ f, roundF c.kind = f := ⟨_, rfl⟩
 rw [hfr] at HM
 obtain ⟨v0, v1, v2, v3, v4, v5, v6, v7, hv⟩ := cutV_8 (cut5 c z)
 have HV := Lib.hid hv
 obtain ⟨W, hW⟩ : ∃ W, (w.alloc (.cells #[.int .i64 kd, .int .i64 ba, .int .i64 mo, .slice A n ca, .slice B m cb] 25)).alloc (.cells #[.int .i64 (z.1 : Int), .int .i64 (z.2 : Int)] 42) = W := ⟨_, rfl⟩
 have X : Blk W w.heap.size 25 #[.int .i64 kd, .int .i64 ba, .int .i64 mo, .slice A n ca, .slice B m cb] := by rw [← hW]; exact (Blk.new _ _ _ rfl).alloc _
 have Y : Blk W (w.heap.size + 1) 42 #[.int .i64 (z.1 : Int), .int .i64 (z.2 : Int)] := by rw [← hW]; exact Blk.new _ _ _ (by simp)
 have hBW : Below w.heap.size w W := by rw [← hW]; exact bl_alloc (bl_alloc (Below.refl _ _) _ (Nat.le_refl _)) _ (Nat.le_refl _)
 have HG : Hid (∀ V, Below W.heap.size W V → CaseAt (fun _ => True) V A n B m c) := fun V hb => (g.bl hBW).bl hb
 have kk : Hid (∀ V, Below W.heap.size W V → V.cell? ⟨w.heap.size, 0, none⟩ = some (.int .i64 kd) ∧ V.cell? ⟨w.heap.size, 1, none⟩ = some (.int .i64 ba) ∧ V.cell? ⟨w.heap.size, 2, none⟩ = some (.int .i64 mo) ∧ V.cell? ⟨w.heap.size, 3, none⟩ = some (.slice A n ca) ∧ V.cell? ⟨w.heap.size, 4, none⟩ = some (.slice B m cb) ∧ V.cell? ⟨w.heap.size + 1, 0, none⟩ = some (.int .i64 (z.1 : Int)) ∧ V.cell? ⟨w.heap.size + 1, 1, none⟩ = some (.int .i64 (z.2 : Int))) :=
  fun V hb => ⟨(X.bl hb).cell 0, (X.bl hb).cell 1, (X.bl hb).cell 2, (X.bl hb).cell 3, (X.bl hb).cell 4, (Y.bl hb).cell 0, (Y.bl hb).cell 1⟩
 clear g X Y hok hz hv hfr
 obtain ⟨x0, x1, x2, x3, x4, y0, y1⟩ := kk.out W (Below.refl _ _)
 go_enter Tryz.func26, Tryz.ntmps26
 go_wp2_with fail
 clear x0 x1 x2 x3 x4 y0 y1 hW
 obtain ⟨U, hU⟩ : ∃ U, W.alloc (.cells #[.int .i64 (z.1 : Int), .int .i64 (z.2 : Int)] 42) = U := ⟨_, rfl⟩
 have hBU : Below W.heap.size W U := by rw [← hU]; exact bl_alloc (Below.refl _ _) _ (Nat.le_refl _)
 have SU : Blk U W.heap.size 42 #[.int .i64 (z.1 : Int), .int .i64 (z.2 : Int)] := by rw [← hU]; exact Blk.new _ _ _ rfl
 have hP : Pls (fun _ => True) U (some ⟨W.heap.size, 0, none⟩) 1 [z] := by
  refine ⟨rfl, by simp only [maxLen]; omega, fun k x hx => ?_⟩
  obtain rfl : k = 0 := by have := of_getq' hx; simpa using this
  obtain rfl : z = x := by simpa using hx
  exact ⟨W.heap.size, 0, _, rfl, trivial, SU.lt, rfl, fun j u hu => by
   rcases j with _ | _ | j
   ·simp at hu; subst hu; exact SU.cell 0
   ·simp at hu; subst hu; exact SU.cell 1
   simp at hu⟩
 rw [hU]
 refine (senter_any HOK.out (fun y hy => by rw [List.mem_singleton.1 hy]; exact HZ.out) U (HG.out U hBU) hP h1 h2 h3).mono ?_
 rintro e V1 ⟨rfl, b1⟩
 rw [HM.out]
 have HB1 : Hid (Below W.heap.size W V1) := bl_call hBU b1 (Nat.le_refl _)
 clear b1 hU SU hP hBU
 obtain ⟨gM, hgM⟩ : ∃ g, V1.heap.size = g := ⟨_, rfl⟩
 obtain ⟨U1, hU1⟩ : ∃ U, V1.alloc (.cells #[.int .i64 kd, .int .i64 ba, .int .i64 mo, .slice A n ca, .slice B m cb, .func (.func fr) #[] #[]] 104) = U := ⟨_, rfl⟩
 have HBU : Hid (Below W.heap.size W U1) := by rw [Hid, ← hU1]; exact bl_alloc HB1.out _ (Nat.le_refl _)
 have MU : Blk U1 gM 104 #[.int .i64 kd, .int .i64 ba, .int .i64 mo, .slice A n ca, .slice B m cb, .func (.func fr) #[] #[]] := by rw [← hU1]; exact Blk.new _ _ _ hgM.symm
 have m0 := MU.cell 0
 have m1 := MU.cell 1
 have m2 := MU.cell 2
 have m3 := MU.cell 3
 have m4 := MU.cell 4
 have m5 := MU.cell 5
 obtain ⟨x0, x1, x2, x3, x4, y0, y1⟩ := kk.out U1 HBU.out
 go_wp2_with fail
 have HMU := Lib.hid MU
 clear x0 x1 x2 x3 x4 y0 y1 m0 m1 m2 m3 m4 m5 MU hU1 hgM
 have hcut := scut_any HOK.out HZ.out U1 (HG.out U1 HBU.out) (ca := ca) (cb := cb)
 rw [HM.out, HV.out] at hcut
 refine hcut.mono ?_
 rintro e V2 ⟨rfl, b2⟩
 have HC2 : Hid (Below U1.heap.size U1 V2) := b2
 have HB2 : Hid (Below W.heap.size W V2) := bl_call HBU.out b2 (Nat.le_refl _)
 clear b2 hcut
 obtain ⟨gC, hgC⟩ : ∃ g, V2.heap.size = g := ⟨_, rfl⟩
 obtain ⟨U2, hU2⟩ : ∃ U, V2.alloc (.cells #[.int .i64 v0, .int .i64 v1, .int .i64 v2, .int .i64 v3, .int .i64 v4, .int .i64 v5, .int .i64 v6, .int .i64 v7] 108) = U := ⟨_, rfl⟩
 have HBV : Hid (Below W.heap.size W U2) := by rw [Hid, ← hU2]; exact bl_alloc HB2.out _ (Nat.le_refl _)
 have HUU : Hid (Below U1.heap.size U1 U2) := by rw [Hid, ← hU2]; exact bl_alloc HC2.out _ (Nat.le_refl _)
 have CU : Hid (Blk U2 gC 108 #[.int .i64 v0, .int .i64 v1, .int .i64 v2, .int .i64 v3, .int .i64 v4, .int .i64 v5, .int .i64 v6, .int .i64 v7]) := by rw [Hid, ← hU2]; exact Blk.new _ _ _ hgC.symm
 obtain ⟨x0, x1, x2, x3, x4, y0, y1⟩ := kk.out U2 HBV.out
 have M3 := HMU.out.bl HUU.out
 have C3 := CU.out
 have m0 := M3.cell 0
 have m1 := M3.cell 1
 have m2 := M3.cell 2
 have m3 := M3.cell 3
 have m4 := M3.cell 4
 have m5 := M3.cell 5
 have c0 := C3.cell 0
 have c1 := C3.cell 1
 have c2 := C3.cell 2
 have c3 := C3.cell 3
 have c4 := C3.cell 4
 have c5 := C3.cell 5
 have c6 := C3.cell 6
 have c7 := C3.cell 7
 go_wp2_with fail
 clear x0 x1 x2 x3 x4 y0 y1 m0 m1 m2 m3 m4 m5 c0 c1 c2 c3 c4 c5 c6 c7 hU2 hgC M3 C3
 have hfl := sflat_any HOK.out HZ.out U2 (HG.out U2 HBV.out) (ca := ca) (cb := cb)
 rw [HM.out, HV.out] at hfl
 refine hfl.mono ?_
 rintro e V3 ⟨⟨A', n', c', rfl, hI, -⟩, b3⟩
 have HI := Lib.hid hI
 have HB3 : Hid (Below w.heap.size w V3) := bl_call hBW (bl_call HBV.out b3 (Nat.le_refl _)) (Nat.le_refl _)
 clear hI b3 hfl
 go_wp2
 go_ret2
 exact ⟨⟨A', n', c', rfl, HI.out⟩, HB3.out⟩
end Go.Proofs.YtcnebekkbfajbaaGreat
