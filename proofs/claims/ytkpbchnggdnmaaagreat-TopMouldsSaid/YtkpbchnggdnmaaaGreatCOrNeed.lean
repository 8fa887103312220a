/- A part of the proof that TopMoulds always answers true. -/
import Derived.Test.YtkpbchnggdnmaaaGreatCOrEnter
set_option linter.all false
namespace Go.Proofs.YtkpbchnggdnmaaaGreat
open Go.RowKit Go.Shelf Go.Maps
attribute [local go_sem] Oper.semAt_some
set_option maxRecDepth 100000 in
theorem oclone_any {b off n c : Nat} {xs : List Int} (w : World) (h : Ints (fun _ => True) w (some ⟨b, off, none⟩) n xs) (hn8 : n ≤ 8) :
  Calls Tryz.prog 41 #[.slice (some ⟨b, off, none⟩) n c] w fun e w' => (∃ A' c', e = .returned (.slice A' n c') ∧ OwnL IntR 1 (fun _ => False) w' w.heap.size 3 (.slice A' n c') xs) ∧ Below w.heap.size w w' := by
 obtain ⟨i0, hi0, hz0, hz1, hz2⟩ := info_parts infoInt
 obtain ⟨W, hW⟩ : ∃ W, w.alloc (.cells #[] 3) = W := ⟨_, rfl⟩
 have X : Blk W w.heap.size 3 #[] := by rw [← hW]; exact Blk.new _ _ _ rfl
 have hBW : Below w.heap.size w W := by rw [← hW]; exact bl_alloc (Below.refl _ _) _ (Nat.le_refl _)
 have HX := Lib.hid X
 have HH : Hid (Ints (fun _ => True) W (some ⟨b, off, none⟩) n xs) := h.keep IntR.good (Keeps.below hBW)
 have hsz := hBW.size
 clear X h
 have he : ∀ V : World, (binOp .eql 27 (.slice (some ⟨b, off, none⟩) n c) (.slice none 0 0)).run Tryz.prog V = .ok (.bool false) V := fun _ => rfl
 go_enter Tryz.func41, Tryz.ntmps41
 go_wp2_with (at_builtin; go_loud (refine wpList_plain rfl (fun K hK => ?_)); go_loud (refine wp_append_lit W (.tmp 5) (.tmp 6) _ rfl IntR.good (T := fun _ => True) (S := fun _ => False) w.heap.size 3 i0 _ 8 Tryz.underlying27 hi0 hz0 hz1 hz2 rfl (by decide) w.heap.size rfl HX.out (Nat.le_refl _) _ n c xs rfl HH.out (fun y vs hr => hr) (by simp only [maxLen]; omega) (by omega) hsz (fun h => h) (fun h => h) ?_); intro A' cap' w' hO hB; refine hK _ _ ?_)
 have HO := Lib.hid hO
 have HB : Hid (Below w.heap.size w w') := bl_call hBW hB (Nat.le_refl _)
 clear hO hB hW
 go_wp2
 go_ret
 exact ⟨⟨_, _, rfl, HO.out⟩, HB.out⟩
theorem ofold2 (p q : Tmp) (v u : Value) (t : Array Value) : ((#[p, q] : Array Tmp).zip #[v, u]).foldl (fun t (p, v) => t.setIfInBounds p v) t = (t.setIfInBounds p v).setIfInBounds q u := by simp
theorem obl_put {B : Nat} {w w' : World} (h : Below B w w') {l : Nat} (hl : B ≤ l) (o : Obj) : Below B w (w'.putObj l o) :=
 h.trans ⟨rfl, rfl, rfl, by simp, fun k hk => World.putObj_heap_other (fun e => by omega)⟩
def lastD (s : Shop11) (l : List Ord11) : Nat → List Int
 | 0 => [0, 0, 0]
 | i + 1 => castP s (dueK l i)
def NeedJ (s : Shop11) (l : List Ord11) (gl : Nat) (i : Nat) (O : Foot) (A : World) : Prop :=
 (∀ k, O k ↔ k = gl) ∧ Blk A gl 94 #[.int .i64 ((lastD s l i).getD 0 0), .int .i64 ((lastD s l i).getD 1 0), .int .i64 ((lastD s l i).getD 2 0)]
theorem three_ints {w : World} {g n : Nat} {t : TypeId} {d : List Int} (h : Blk w g t #[.int .i64 (d.getD 0 0), .int .i64 (d.getD 1 0), .int .i64 (d.getD 2 0)]) (hl : d.length = 3) (hn : n ≤ 3) : Ints (fun _ => True) w (some ⟨g, 0, none⟩) n (d.take n) := by
 refine ⟨by rw [List.length_take]; omega, by simp only [maxLen]; omega, fun k x hx => ?_⟩
 have hk := of_getq' hx
 rw [List.length_take] at hk
 refine ⟨g, 0, [.int .i64 x], rfl, trivial, h.lt, rfl, fun j u hu => ?_⟩
 cases j with
 | succ j => simp at hu
 | zero =>
  simp at hu
  subst hu
  have hx2 : d[k]? = some x := by rw [List.getElem?_take, if_pos (by omega)] at hx; exact hx
  have h3 := getD_of (d := 0) hx2
  have := h.cell k
  rcases (show k = 0 ∨ k = 1 ∨ k = 2 by omega) with rfl | rfl | rfl <;> (rw [h3] at this; simpa using this)
set_option maxHeartbeats 4000000 in
set_option maxRecDepth 100000 in
theorem oneeded_any {s : Shop11} {H P Q T : Option Addr} {hn hc pn pc on oc tn tc : Nat} {t : List Int} (hok : Ok11 s) (hpc : pn ≤ pc) (ht : TakenOk s t) (w : World) (g : ShopO (fun _ => True) w H hn P pn Q on s) (gt : Ints (fun _ => True) w T tn t) :
  Calls Tryz.prog 8 #[.agg #[.slice H hn hc, .slice P pn pc, .slice Q on oc], .slice T tn tc] w fun e w' => (∃ A' c', e = .returned (.tuple #[.slice A' pn c', .int .i64 0]) ∧ Ints (fun _ => True) w' A' pn (neededR s (ordsL s t))) ∧ Below w.heap.size w w' := by
 obtain ⟨l, hl⟩ : ∃ l, ordsL s t = l := ⟨_, rfl⟩
 have hlo := ords_ok hok ht
 have hl9 := ords_len hok ht
 rw [hl] at hlo hl9 ⊢
 have hhn := g.hs.len
 have hpn := g.ps.len
 have hnh := hok.nh
 have hnp := hok.np
 have hpn3 : pn ≤ 3 := by omega
 have hpi : (pn : Int) ≤ 3 := by omega
 have HHN := Lib.hid hhn
 have HPN := Lib.hid hpn
 obtain ⟨W, hW⟩ : ∃ W, w.alloc (.cells #[.slice H hn hc, .slice P pn pc, .slice Q on oc] 31) = W := ⟨_, rfl⟩
 have X : Blk W w.heap.size 31 #[.slice H hn hc, .slice P pn pc, .slice Q on oc] := by rw [← hW]; exact Blk.new _ _ _ rfl
 have hBW : Below w.heap.size w W := by rw [← hW]; exact bl_alloc (Below.refl _ _) _ (Nat.le_refl _)
 have HG : Hid (∀ V, Below W.heap.size W V → ShopO (fun _ => True) V H hn P pn Q on s) := fun V hb => (g.bl hBW).bl hb
 have HGT : Hid (∀ V, Below W.heap.size W V → Ints (fun _ => True) V T tn t) := fun V hb => (gt.keep IntR.good (Keeps.below hBW)).keep IntR.good (Keeps.below hb)
 have HX := Lib.hid X
 have HOK := Lib.hid hok
 have HLO := Lib.hid hlo
 have HT := Lib.hid ht
 have x0 := X.cell 0
 have x1 := X.cell 1
 have x2 := X.cell 2
 have hwlt : w.heap.size < W.heap.size := X.lt
 clear g gt X hhn hpn hlo ht hok
 refine (callsIn_wide (n := 1)).1 ?_
 refine callsIn_of_wp_marks Tryz.func8 rfl trivial ?_ rfl
 simp only [Tryz.ntmps8, List.size_toArray, List.length_cons, List.length_nil, Nat.reduceAdd, Nat.reduceSub, Array.replicate_succ, Array.replicate_zero, List.push_toArray, List.append_toArray, List.nil_append, List.cons_append]
 gi_wp2_with fail
 refine ⟨trivial, ?_⟩
 clear x0 x1 x2 hW
 refine (callsIn_wide.2 (oenter_any HOK.out hpc HT.out W (HG.out W (Below.refl _ _)) (HGT.out W (Below.refl _ _)))).mono ?_
 rintro e V1 ⟨⟨gs, kb, L, lc, rfl, hgs, hkb, HLK, HM, HORD⟩, b1⟩
 rw [hl] at HORD
 have HLK := Lib.hid HLK
 have HM := Lib.hid HM
 have HORD := Lib.hid HORD
 have HB1 := Lib.hid b1
 clear b1
 obtain ⟨gl, hgl⟩ : ∃ q, V1.heap.size = q := ⟨_, rfl⟩
 obtain ⟨V2, hV2⟩ : ∃ V, V1.alloc (.cells #[.int .i64 0, .int .i64 0, .int .i64 0] 94) = V := ⟨_, rfl⟩
 have Y2 : Blk V2 gl 94 #[.int .i64 0, .int .i64 0, .int .i64 0] := by rw [← hV2]; exact Blk.new _ _ _ hgl.symm
 have HB2 : Hid (Below W.heap.size W V2) := by rw [Hid, ← hV2]; exact bl_alloc HB1.out _ (Nat.le_refl _)
 have b12 : Below gl V1 V2 := by rw [← hV2, ← hgl]; exact bl_alloc (Below.refl _ _) _ (Nat.le_refl _)
 have hs2 : V2.heap.size = gl + 1 := by rw [← hV2]; simp [hgl]
 gi_wp2_with fail
 refine ⟨trivial, ?_⟩
 refine (callsIn_wide.2 (odays_any V2)).mono ?_
 rintro e w' ⟨rfl, hw'⟩
 obtain ⟨V3, hV3⟩ : ∃ V, V = w' := ⟨_, rfl⟩
 rw [← hV3] at hw' ⊢
 clear hV3
 have b23 : Below V2.heap.size V2 V3 := by rw [hw']; exact bl_alloc (bl_alloc (Below.refl _ _) _ (Nat.le_refl _)) _ (Nat.le_refl _)
 have S3 : Blk V3 (gl + 1) 90 #[.pointer (some ⟨gs, 0, none⟩)] := by rw [hw', ← hs2]; exact (Blk.new _ _ _ rfl).alloc _
 have L3 : Blk V3 (gl + 1 + 1) 29 #[.slice L tn lc] := by rw [hw', ← hs2]; exact Blk.new _ _ _ (by simp)
 rw [hs2]
 clear hw'
 gi_wp2_with fail
 have hbV3 : Below gl V1 V3 := b12.trans (b23.mono (by omega))
 have K3 : LookK V3 gl gs kb H hn hc P pn pc Q on oc s := by have := HLK.out.bl (hgl ▸ hbV3); rwa [hgl] at this
 have M3 : MapC s V3 kb 0 := HM.out.bl (hgl ▸ hbV3)
 have Y3 : Blk V3 gl 94 #[.int .i64 0, .int .i64 0, .int .i64 0] := Y2.bl b23
 have O3 : Ords11 (fun k => k ≠ kb ∧ k < gl) V3 L tn l := by
  have h := HORD.out.keep OrR11.good (Keeps.below (hgl ▸ hbV3))
  rwa [hgl] at h
 have hkl : kb < gl := by rw [← hgl]; exact HM.out.lt
 have hgsl := K3.lt
 have HK3 := Lib.hid K3
 have HO3 := Lib.hid O3
 have HS3 := Lib.hid S3
 have HL3 := Lib.hid L3
 have hL3l := L3.lt
 have hWg : W.heap.size ≤ gl := by rw [← hgl]; exact HB1.out.size
 have HB3 : Hid (Below W.heap.size W V3) := bl_call HB2.out b23 (Nat.le_refl _)
 clear hgl hV2 Y2 b12 b23 K3 O3 S3 L3 hbV3
 have hInv : ∀ A, Kept (fun k => k = gl ∨ k = kb ∨ V3.heap.size ≤ k) V3 A → DaysInv (gl + 1) (gl + 1 + 1) gl gs kb H hn hc P pn pc Q on oc s L tn lc l A := fun A hK =>
  ⟨HS3.out.kept hK (by omega), HL3.out.kept hK (by omega), HK3.out.keptM hK (fun k hk h => by omega), HO3.out.keep OrR11.good ⟨hK.size, fun k hs hlt => hK.block k hlt (fun h => by have := hs.1; have := hs.2; omega)⟩⟩
 have HINV := Lib.hid hInv
 clear hInv
 refine rangeFunc_outerM (m := 1) (gf := 65) (lb := #[.pointer (some ⟨gl + 1, 0, none⟩), .pointer (some ⟨gl + 1 + 1, 0, none⟩)]) rfl eg_days1 (days_seq (kb := kb) HOK.out HLO.out hl9 (N := 0) (by decide)) (fun _ => rfl) (fun k => k = gl) (NeedJ s l gl) (fun _ _ _ => False) (fun k h => by omega) (fun k h h2 => by omega) (fun k h => by omega) (fun A B hs hlt hK => hs.at (hK.block kb hs.lt (fun h => h rfl))) (fun A B hs hlt hK => hs.at (hK.block kb hs.lt (fun h => h rfl))) M3 (fun A hK => HINV.out A hK) ?stay (fun cd O A B h => h.elim) ⟨fun k => Iff.rfl, Y3⟩ ?round ?done (fun cd O A D h => h.elim)
 case stay =>
  rintro i O A B ⟨hO, hb⟩ hlt hK
  exact ⟨hO, hb.kept hK (fun h => h ((hO _).2 rfl))⟩
 case round =>
  intro lp i x O A1 hx hj hlt hsub hK hsA hnl hlA hWl
  obtain ⟨hO, j2⟩ := hj
  have hil := of_getq' hx
  rw [days_len] at hil
  rw [days_get s l hil] at hx
  injection hx with hx
  subst hx
  obtain ⟨c0, hc0⟩ : ∃ c, (castP s (dueK l i)).getD 0 0 = c := ⟨_, rfl⟩
  obtain ⟨c1, hc1⟩ : ∃ c, (castP s (dueK l i)).getD 1 0 = c := ⟨_, rfl⟩
  obtain ⟨c2, hc2⟩ : ∃ c, (castP s (dueK l i)).getD 2 0 = c := ⟨_, rfl⟩
  have hE : encD (i, castP s (dueK l i)) = #[.int .i64 (i : Int), .agg #[.int .i64 c0, .int .i64 c1, .int .i64 c2]] := by rw [← hc0, ← hc1, ← hc2]; rfl
  have HL : Hid (#[Value.int .i64 ((lastD s l (i + 1)).getD 0 0), .int .i64 ((lastD s l (i + 1)).getD 1 0), .int .i64 ((lastD s l (i + 1)).getD 2 0)] = #[.int .i64 c0, .int .i64 c1, .int .i64 c2]) := by rw [Hid, ← hc0, ← hc1, ← hc2]; rfl
  have p0 := j2.cell 0
  have p1 := j2.cell 1
  have p2 := j2.cell 2
  have f0 := j2.frozen 0
  have f1 := j2.frozen 1
  have f2 := j2.frozen 2
  have hgll := j2.lt
  obtain ⟨VF, hVF⟩ : ∃ V, ((A1.setCell ⟨gl, 0, none⟩ (.int .i64 c0)).setCell ⟨gl, 1, none⟩ (.int .i64 c1)).setCell ⟨gl, 2, none⟩ (.int .i64 c2) = V := ⟨_, rfl⟩
  have XF : Blk VF gl 94 #[.int .i64 c0, .int .i64 c1, .int .i64 c2] := by rw [← hVF]; exact ((j2.set_ 0 _).set_ 1 _).set_ 2 _
  have HXF := Lib.hid XF
  have HKF : Hid (Kept O A1 VF) := by
   rw [Hid, ← hVF]
   exact ((Kept.setCell (M := O) A1 ⟨gl, 0, none⟩ (.int .i64 c0) ((hO _).2 rfl)).trans (Kept.setCell _ ⟨gl, 1, none⟩ (.int .i64 c1) ((hO _).2 rfl))).trans (Kept.setCell _ ⟨gl, 2, none⟩ (.int .i64 c2) ((hO _).2 rfl))
  have HOO := Lib.hid hO
  clear XF hc0 hc1 hc2 hO
  rw [hE, ofold2]
  simp only [List.setIfInBounds_toArray]
  try simp only [List.set_cons_zero, List.set_cons_succ]
  gi_wp2
  refine ⟨HKF.out, fun A2 hK2 hs2' r2 hr2 => ?_⟩
  clear hr2
  gi_wp2
  have hb2 : Blk A2 gl 94 #[.int .i64 ((lastD s l (i + 1)).getD 0 0), .int .i64 ((lastD s l (i + 1)).getD 1 0), .int .i64 ((lastD s l (i + 1)).getD 2 0)] := by
   rw [HL.out]
   exact HXF.out.kept hK2 (fun e => hnl (e ▸ (HOO.out _).2 rfl))
  exact ⟨Kept.refl _ _, O, fun k h => .inl h, HOO.out, hb2⟩
 rintro O W' D ⟨hO, hb⟩ hOs hK hsW hD hOD hDD
 have hn1 : 1 ≤ hn := by rw [← HHN.out]; exact hnh.1
 rw [days_len, HHN.out] at hb
 have hbel : Below w.heap.size w W' := (bl_call hBW HB3.out (Nat.le_refl _)).trans (hK.below (by have := HB3.out.size; have := hBW.size; omega) (fun k h => by have := HB3.out.size; have := hBW.size; omega))
 have hDg : gl ≠ D := fun e => hOD ((hO _).2 e.symm)
 have hN : Ints (fun _ => True) W' (some ⟨gl, 0, none⟩) pn (neededR s l) := by
  have h1 := three_ints hb (by rw [show hn = (hn - 1) + 1 by omega]; rfl) hpn3
  have e : (lastD s l hn).take pn = neededR s l := by
   unfold neededR
   rw [HHN.out, HPN.out, show hn = (hn - 1) + 1 by omega]
   rfl
  rwa [e] at h1
 have hcl := oclone_any (c := 3) W' hN (by omega)
 have hWW : Below W.heap.size W W' := HB3.out.trans (hK.below (by have := HB3.out.size; omega) (fun k h => by have := HB3.out.size; omega))
 have x1 := (HX.out.bl hWW).cell 1
 have HBEL := Lib.hid hbel
 have HCL := Lib.hid hcl
 have HDD := Lib.hid hDD
 have hDl : D < W'.heap.size := (Array.getElem?_eq_some_iff.1 hDD).1
 clear hbel hcl hDD hb hK hsW hOs hN hWW
 gi_wp2_with fail
 refine ⟨trivial, ?_⟩
 refine (callsIn_wide.2 HCL.out).mono ?_
 rintro e V9 ⟨⟨A', c', rfl, hO9⟩, b9⟩
 have HBW9 : Hid (Below w.heap.size w (V9.putObj D (.deferred none))) := obl_put (bl_call HBEL.out b9 (Nat.le_refl _)) (by have := hBW.size; have := HB3.out.size; omega) _
 have HDB : Hid (V9.heap[D]? = some (.deferred (some []))) := (b9.block D hDl).trans HDD.out
 have HR9 : Hid (Ints (fun _ => True) (V9.putObj D (.deferred none)) A' pn (neededR s l)) := by
  have h1 := hO9.slice (T := fun k => k ≠ D) IntR.good rfl (by simp only [maxLen]; omega) (fun _ h => h.elim) (fun k h _ e => by omega)
  exact (h1.keep IntR.good ⟨by simp, fun k hk _ => World.putObj_heap_other hk⟩).mono IntR.good (fun _ _ => trivial)
 clear hO9 b9 x1
 gi_wp2
 refine ⟨by simp, .inl ⟨_, _, rfl, run_takeDeferred HDB.out, ?_⟩⟩
 exact ⟨.tuple #[.slice A' pn c', .int .i64 0], by simp [results, Tryz.results8, go_sem], ⟨A', c', rfl, HR9.out⟩, HBW9.out⟩
end Go.Proofs.YtkpbchnggdnmaaaGreat
