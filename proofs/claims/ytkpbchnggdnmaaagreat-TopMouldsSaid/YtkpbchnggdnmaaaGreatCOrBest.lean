/- A part of the proof that TopMoulds always answers true. -/
import Derived.Test.YtkpbchnggdnmaaaGreatCOrSets
import Derived.Test.YtkpbchnggdnmaaaGreatCOrTopP
import Derived.Test.YtkpbchnggdnmaaaGreatCTBits
set_option linter.all false
namespace Go.Proofs.YtkpbchnggdnmaaaGreat
open Go.RowKit Go.Shelf Go.Maps Go.Sort
attribute [local go_sem] Oper.semAt_some
def bestSt (b : List Int × Int) (x : Nat × Int) : List Int × Int := if b.2 < x.2 ∨ (x.2 = b.2 ∧ lexC (bitL x.1) b.1 < 0) then (bitL x.1, x.2) else b
def bestO (L : List (Nat × Int)) : List Int × Int := L.foldl bestSt ([], 0)
theorem and_zero : ∀ k : Nat, k < 256 → bits BinOp.and IntKind.i64 (k : Int) ((0 : Nat) : Int) = ((k &&& 0 : Nat) : Int) := by decide +kernel
theorem setsU_mem {s : Shop11} {wi bu n : Nat} {x : Nat × Int} (h : x ∈ setsU s wi bu n) : x.1 < n := by
 unfold setsU at h
 obtain ⟨k, hk, rfl⟩ := List.mem_map.1 h
 exact List.mem_range.1 (List.mem_filter.1 hk).1
def BestJ (L : List (Nat × Int)) (g2 g3 : Nat) (i : Nat) (O : Foot) (A : World) : Prop :=
 ∃ (b : List Int × Int) (A' : Option Addr) (c' : Nat) (Sx : Foot), (∀ k, O k ↔ (k = g2 ∨ k = g3 ∨ Sx k)) ∧ ¬ Sx g2 ∧ ¬ Sx g3 ∧ Blk A g2 27 #[.slice A' b.1.length c'] ∧ Blk A g3 3 #[.int .i64 b.2] ∧ Ints Sx A A' b.1.length b.1 ∧ (L.take i).foldl bestSt ([], 0) = b
theorem obest_results {w : World} {tmps : Array Value} {g2 g3 : Nat} {v : Value} {b e : Int} (h2 : Blk w g2 27 #[v]) (h3 : Blk w g3 3 #[.int .i64 b]) (t2 : tmps.getD 2 undef = .pointer (some ⟨g2, 0, none⟩)) (t3 : tmps.getD 3 undef = .pointer (some ⟨g3, 0, none⟩)) (t4 : tmps.getD 4 undef = .int .i64 e) :
  (results Tryz.f35 tmps).run Tryz.prog w = .ok (.tuple #[v, .int .i64 b, .int .i64 e]) w := by
 have c2 := h2.cell 0
 have c3 := h3.cell 0
 rw [Array.getD_eq_getD_getElem?] at t2 t3 t4
 simp [results, Tryz.results35, asAddr, go_sem, t2, t3, t4, c2, c3]
set_option maxHeartbeats 4000000 in
set_option maxRecDepth 100000 in
theorem oBest_any {s : Shop11} {H P Q : Option Addr} {hn hc pn pc on oc : Nat} (hok : Ok11 s) (hpc : pn ≤ pc) (w : World) (g : ShopO (fun _ => True) w H hn P pn Q on s) :
  Calls Tryz.prog 35 #[.agg #[.slice H hn hc, .slice P pn pc, .slice Q on oc]] w fun e w' => (∃ A' c', e = .returned (.tuple #[.slice A' (bestO (setsU s 0 0 (2 ^ on))).1.length c', .int .i64 (bestO (setsU s 0 0 (2 ^ on))).2, .int .i64 0]) ∧ Ints (fun _ => True) w' A' (bestO (setsU s 0 0 (2 ^ on))).1.length (bestO (setsU s 0 0 (2 ^ on))).1) ∧ Below w.heap.size w w' := by
 have hon : s.orders.length = on := g.os.len
 have ho8 : 2 ^ on ≤ 256 := by
  have := hok.no
  have h8 : 2 ^ on ≤ 2 ^ 8 := Nat.pow_le_pow_right (by decide) (by omega)
  exact h8
 obtain ⟨LL, hLL⟩ : ∃ L, setsU s 0 0 (2 ^ on) = L := ⟨_, rfl⟩
 have hmem : ∀ x ∈ LL, x.1 < 256 := fun x hx => by rw [← hLL] at hx; have := setsU_mem hx; omega
 have HMEM := Lib.hid hmem
 rw [hLL]
 have HLL := Lib.hid hLL
 obtain ⟨gc, hgc⟩ : ∃ q, w.heap.size = q := ⟨_, rfl⟩
 obtain ⟨g2, hg2⟩ : ∃ q, gc + 1 = q := ⟨_, rfl⟩
 obtain ⟨g3, hg3⟩ : ∃ q, g2 + 1 = q := ⟨_, rfl⟩
 obtain ⟨W, hW⟩ : ∃ W, ((w.alloc (.cells #[.slice H hn hc, .slice P pn pc, .slice Q on oc] 31)).alloc (.cells #[.slice none 0 0] 27)).alloc (.cells #[.int .i64 0] 3) = W := ⟨_, rfl⟩
 have X : Blk W gc 31 #[.slice H hn hc, .slice P pn pc, .slice Q on oc] := by rw [← hW]; exact ((Blk.new _ _ _ hgc.symm).alloc _).alloc _
 have X2 : Blk W g2 27 #[.slice none 0 0] := by rw [← hW]; exact (Blk.new _ _ _ (by simp [hgc, hg2])).alloc _
 have X3 : Blk W g3 3 #[.int .i64 0] := by rw [← hW]; exact Blk.new _ _ _ (by simp [hgc, hg2, hg3])
 have hBW : Below w.heap.size w W := by rw [← hW]; exact bl_alloc (bl_alloc (bl_alloc (Below.refl _ _) _ (Nat.le_refl _)) _ (Nat.le_refl _)) _ (Nat.le_refl _)
 have HG : Hid (ShopO (fun _ => True) W H hn P pn Q on s) := g.bl hBW
 have HGB : Hid (ShopO (fun k => True ∧ k < w.heap.size) w H hn P pn Q on s) := g.bound
 have HOK := Lib.hid hok
 have HX2 := Lib.hid X2
 have HX3 := Lib.hid X3
 have HBW := Lib.hid hBW
 have x0 := X.cell 0
 have x1 := X.cell 1
 have x2 := X.cell 2
 have h3l : g3 < W.heap.size := X3.lt
 clear g X X2 X3 hok hon hLL hmem
 refine (callsIn_wide (n := 1)).1 ?_
 refine callsIn_of_wp_marks Tryz.func35 rfl trivial ?_ rfl
 simp only [Tryz.ntmps35, List.size_toArray, List.length_cons, List.length_nil, Nat.reduceAdd, Nat.reduceSub, Array.replicate_succ, Array.replicate_zero, List.push_toArray, List.append_toArray, List.nil_append, List.cons_append]
 gi_wp2_with fail
 refine ⟨trivial, ?_⟩
 clear x0 x1 x2 hW
 refine (callsIn_wide.2 (olookU_any HOK.out hpc W HG.out)).mono ?_
 rintro e V1 ⟨⟨gs, kb, U, uc, rfl, hkb, hkg, HXG, HUP, HM⟩, b1⟩
 have HXG := Lib.hid HXG
 have HUP := Lib.hid HUP
 have HM := Lib.hid HM
 have HB1 := Lib.hid b1
 have hz1 := b1.size
 obtain ⟨gS, hgS⟩ : ∃ q, V1.heap.size = q := ⟨_, rfl⟩
 clear b1
 gi_wp2_with fail
 refine ⟨trivial, ?_⟩
 refine (callsIn_wide.2 (osets_any V1)).mono ?_
 rintro e w' ⟨rfl, hw'⟩
 obtain ⟨V3, hV3⟩ : ∃ V, V = w' := ⟨_, rfl⟩
 rw [← hV3] at hw' ⊢
 clear hV3
 have b13 : Below V1.heap.size V1 V3 := by rw [hw']; exact bl_alloc (bl_alloc (bl_alloc (Below.refl _ _) _ (Nat.le_refl _)) _ (Nat.le_refl _)) _ (Nat.le_refl _)
 have S3 : Blk V3 gS 90 #[.pointer (some ⟨gs, 0, none⟩)] := by rw [hw']; exact ((Blk.new _ _ _ hgS.symm).alloc _).alloc _
 have W3 : Blk V3 (gS + 1) 3 #[.int .i64 ((0 : Nat) : Int)] := by rw [hw']; exact (Blk.new _ _ _ (by simp [hgS])).alloc _
 have B3 : Blk V3 (gS + 1 + 1) 3 #[.int .i64 ((0 : Nat) : Int)] := by rw [hw']; exact Blk.new _ _ _ (by simp [hgS])
 have hs3 : V3.heap.size = gS + 3 := by rw [hw']; simp [hgS]
 rw [hgS]
 clear hw'
 gi_wp2_with fail
 have X3 : Blk V3 gs 138 #[.slice H hn hc, .slice P pn pc, .slice Q on oc, .slice U hn uc, .map (some kb)] := HXG.out.bl b13
 have U3 : Ints (fun k => gs < k) V3 U hn (upL s) := HUP.out.keep IntR.good (Keeps.below b13)
 have hgsl : gs < gS := by rw [← hgS]; exact HXG.out.lt
 have U3b : Ints (fun k => gs < k ∧ k < gS) V3 U hn (upL s) := by
  have h1 := (HUP.out.bound IntR.good).keep IntR.good (Keeps.below b13)
  rwa [hgS] at h1
 have M3 : MapC s V3 kb 0 := HM.out.bl b13
 have hkS : kb < gS := by rw [← hgS]; exact HM.out.lt
 have Y2 : Blk V3 g2 27 #[.slice none 0 0] := (HX2.out.bl HB1.out).bl b13
 have Y3 : Blk V3 g3 3 #[.int .i64 0] := (HX3.out.bl HB1.out).bl b13
 have HB3 : Hid (Below w.heap.size w V3) := bl_call hBW (bl_call HB1.out b13 (Nat.le_refl _)) (Nat.le_refl _)
 have HX3g := Lib.hid X3
 have HU3 := Lib.hid U3b
 have HS3 := Lib.hid S3
 have HW3 := Lib.hid W3
 have HB3b := Lib.hid B3
 have HSZ := Lib.hid hs3
 clear b13 X3 U3 U3b S3 W3 B3 hgS
 have hInv : ∀ A, Kept (fun k => (k = g2 ∨ k = g3) ∨ k = kb ∨ V3.heap.size ≤ k) V3 A → SetsInv gS (gS + 1) (gS + 1 + 1) gS gs kb H hn hc P pn pc Q on oc 0 0 s A := fun A hK =>
  ⟨HS3.out.kept hK (by omega), HW3.out.kept hK (by omega), HB3b.out.kept hK (by omega), ⟨⟨U, uc, HX3g.out.kept hK (by omega), (HGB.out.keep ⟨Nat.le_trans HB3.out.size hK.size, fun k hs hlt => (hK.block k (by have := HB3.out.size; omega) (fun h => by have := hs.2; have := HSZ.out; omega)).trans (HB3.out.block k hs.2)⟩).mono fun k hs => ⟨by have := hs.2; omega, by have := hs.2; omega⟩, (HU3.out.keep IntR.good ⟨hK.size, fun k hs hlt => hK.block k hlt (fun h => by have := hs.1; have := hs.2; omega)⟩).mono IntR.good (fun k hs => ⟨by have := hs.1; omega, hs.2⟩)⟩, by omega, hgsl, by have := hK.size; have := HSZ.out; omega⟩⟩
 have HINV := Lib.hid hInv
 clear hInv
 have hJ0 : BestJ (setsU s 0 0 (2 ^ on)) g2 g3 0 (fun k => k = g2 ∨ k = g3) V3 := ⟨([], 0), none, 0, fun _ => False, (fun k => by simp), (fun h => h), (fun h => h), Y2, Y3, SliceOf.nil _ _ _ _ _, rfl⟩
 refine rangeFunc_outerM (m := 1) (gf := 91) (lb := #[.pointer (some ⟨gS, 0, none⟩), .pointer (some ⟨gS + 1, 0, none⟩), .pointer (some ⟨gS + 1 + 1, 0, none⟩)]) rfl eg_sets1 (sets_seq (kb := kb) HOK.out and_zero and_zero (N := 0) (by decide)) (fun _ => rfl) (fun k => k = g2 ∨ k = g3) (BestJ (setsU s 0 0 (2 ^ on)) g2 g3) (fun _ _ _ => False) (fun k h => by omega) (fun k h h2 => by omega) (fun k h => by omega) (fun A B hs hlt hK => hs.at (hK.block kb hs.lt (fun h => h rfl))) (fun A B hs hlt hK => hs.at (hK.block kb hs.lt (fun h => h rfl))) M3 (fun A hK => HINV.out A hK) ?stay (fun cd O A B h => h.elim) hJ0 ?round ?done (fun cd O A D h => h.elim)
 case stay =>
  rintro i O A B ⟨b, A', c', Sx, hO, hn2, hn3, hb2, hb3, hI, hb⟩ hlt hK
  exact ⟨b, A', c', Sx, hO, hn2, hn3, hb2.kept hK (fun h => h ((hO _).2 (.inl rfl))), hb3.kept hK (fun h => h ((hO _).2 (.inr (.inl rfl)))), hI.keep IntR.good ⟨hK.size, fun k hs hlt => hK.block k hlt (fun h => h ((hO _).2 (.inr (.inr hs))))⟩, hb⟩
 case round =>
  intro lp i x O A1 hx hj hlt hsub hK hsA hnl hlA hWl
  obtain ⟨b, A', c', Sx, hO, hn2, hn3, hb2, hb3, hI, hb⟩ := hj
  rw [HLL.out] at hx hb
  have hx256 := HMEM.out x (List.mem_of_getElem? hx)
  have HFS : Hid ((LL.take (i + 1)).foldl bestSt ([], 0) = bestSt b x) := by rw [Hid, take_snoc_get hx, List.foldl_append, hb]; rfl
  obtain ⟨st, hst⟩ : ∃ q, x.1 = q := ⟨_, rfl⟩
  obtain ⟨nv, hnv⟩ : ∃ q, x.2 = q := ⟨_, rfl⟩
  obtain rfl : x = (st, nv) := Prod.ext hst hnv
  obtain ⟨T, hT⟩ : ∃ q, b.1 = q := ⟨_, rfl⟩
  obtain ⟨wb, hwb⟩ : ∃ q, b.2 = q := ⟨_, rfl⟩
  obtain rfl : b = (T, wb) := Prod.ext hT hwb
  dsimp only at hb2 hb3 hI hx256
  have HOF := Lib.hid hO
  have HN2 := Lib.hid hn2
  have HN3 := Lib.hid hn3
  have hEn : encS (st, nv) = #[.int .i64 (st : Int), .int .i64 nv] := rfl
  have hOlt : Hid (∀ k, O k → k < A1.heap.size) := hlt
  clear hx hb hO hst hnv hT hwb hlt hsub hsA hn2 hn3 hK
  rw [hEn, ofold2]
  simp only [List.setIfInBounds_toArray]
  try simp only [List.set_cons_zero, List.set_cons_succ]
  gi_wp2
  refine ⟨Kept.refl _ _, fun A2 hK2 hs2' => ?_⟩
  first | (intro r2; have hx2 : ∃ r3, A2.heap[lp]? = some (.loop r3) := r2; clear hx2 r2) | (intro r2 hr2; clear hr2)
  have hb2' : Blk A2 g2 27 #[.slice A' T.length c'] := hb2.kept hK2 (fun e => hnl (e ▸ (HOF.out _).2 (.inl rfl)))
  have hb3' : Blk A2 g3 3 #[.int .i64 wb] := hb3.kept hK2 (fun e => hnl (e ▸ (HOF.out _).2 (.inr (.inl rfl))))
  have hI' : Ints Sx A2 A' T.length T := hI.keep IntR.good ⟨hK2.size, fun k hs hlt => hK2.block k hlt (fun e => hnl (e ▸ (HOF.out _).2 (.inr (.inr hs))))⟩
  have HLIST := Lib.hid (olist_any st A2 hx256)
  have H2 := Lib.hid hb2'
  have H3 := Lib.hid hb3'
  have HI2 := Lib.hid hI'
  have hA2 : A1.heap.size ≤ A2.heap.size := hK2.size
  clear hb2 hb3 hI hb2' hb3' hI' hK2 hs2'
  gi_wp2_with fail
  refine ⟨trivial, ?_⟩
  refine (CallsIn.inRound lp (callsIn_wide.2 HLIST.out)).mono ?_
  rintro e B1 ⟨⟨Al, cl, rfl, hIL⟩, hgrw⟩
  obtain ⟨tl, htl⟩ : ∃ t, bitL st = t := ⟨_, rfl⟩
  rw [htl] at hIL ⊢
  have HTL := Lib.hid htl
  obtain ⟨nl, hnl2⟩ : ∃ q, tl.length = q := ⟨_, rfl⟩
  rw [hnl2] at hIL ⊢
  have HNL := Lib.hid hnl2
  have HGB : Hid (Below A2.heap.size A2 B1) := hgrw.2
  have HIL : Hid (Ints (fun k => A2.heap.size ≤ k ∧ k < B1.heap.size) B1 Al nl tl) := hIL.bound IntR.good
  have hb2 := H2.out.bl HGB.out
  have hb3 := H3.out.bl HGB.out
  have HIB : Hid (Ints Sx B1 A' T.length T) := HI2.out.keep IntR.good (Keeps.below HGB.out)
  have c2 := hb2.cell 0
  have f2 := hb2.frozen 0
  have l2 := hb2.lt
  have c3 := hb3.cell 0
  have l3 := hb3.lt
  have hne23 : g2 ≠ g3 := by omega
  have hz9 := HGB.out.size
  have HKS : Hid (Kept O A2 B1) := Kept.of_bl HGB.out
  obtain ⟨VF, hVF⟩ : ∃ V, (B1.setCell ⟨g2, 0, none⟩ (.slice Al nl cl)).setCell ⟨g3, 0, none⟩ (.int .i64 nv) = V := ⟨_, rfl⟩
  have k3 : Blk (B1.setCell ⟨g2, 0, none⟩ (.slice Al nl cl)) g3 3 #[.int .i64 wb] := hb3.kept (M := fun q => q = g2) (Kept.setCell _ _ _ rfl) (Ne.symm hne23)
  have d3 := k3.cell 0
  have e3 := k3.frozen 0
  have m3 := k3.lt
  have HF2 : Hid (Blk VF g2 27 #[.slice Al nl cl]) := by rw [Hid, ← hVF]; exact (hb2.set_ 0 _).kept (M := fun q => q = g3) (Kept.setCell _ _ _ rfl) hne23
  have HF3 : Hid (Blk VF g3 3 #[.int .i64 nv]) := by rw [Hid, ← hVF]; exact k3.set_ 0 _
  have kBV : Kept (fun q => q = g2 ∨ q = g3) B1 VF := by rw [← hVF]; exact (Kept.setCell (M := fun q => q = g2 ∨ q = g3) B1 ⟨g2, 0, none⟩ _ (.inl rfl)).trans (Kept.setCell _ ⟨g3, 0, none⟩ _ (.inr rfl))
  have h3A : g3 < A2.heap.size := by have := H3.out.lt; omega
  have h2A : g2 < A2.heap.size := by omega
  have HIF : Hid (Ints (fun k => A2.heap.size ≤ k ∧ k < B1.heap.size) VF Al nl tl) := HIL.out.keep IntR.good ⟨kBV.size, fun k hs hlt => kBV.block k hlt (fun h => by omega)⟩
  have HKV : Hid (Kept O A2 VF) := HKS.out.trans (kBV.mono (fun q _ h => h.elim (fun e => (HOF.out q).2 (.inl e)) (fun e => (HOF.out q).2 (.inr (.inl e)))))
  have hVs : VF.heap.size = B1.heap.size := by rw [← hVF]; simp [World.setCell]
  have HVS := Lib.hid hVs
  have HYES : Hid (bestSt (T, wb) (st, nv) = (tl, nv) → ∃ O' : Foot, (∀ k, O' k → O k ∨ (A1.heap.size ≤ k ∧ k < VF.heap.size)) ∧ BestJ (setsU s 0 0 (2 ^ on)) g2 g3 (i + 1) O' VF) := fun hb => by
   have hvs := HVS.out
   refine ⟨fun k => k = g2 ∨ k = g3 ∨ (A2.heap.size ≤ k ∧ k < B1.heap.size), fun k h => ?_, (tl, nv), Al, cl, fun k => A2.heap.size ≤ k ∧ k < B1.heap.size, fun k => Iff.rfl, (fun h => by omega), (fun h => by omega), ?_, HF3.out, ?_, by rw [HLL.out, HFS.out, hb]⟩
   ·rcases h with h | h | h
    ·exact .inl ((HOF.out k).2 (.inl h))
    ·exact .inl ((HOF.out k).2 (.inr (.inl h)))
    exact .inr (by omega)
   ·show Blk VF g2 _ #[.slice Al tl.length cl]
    rw [HNL.out]; exact HF2.out
   show Ints _ VF Al tl.length tl
   rw [HNL.out]; exact HIF.out
  have HNO : Hid (bestSt (T, wb) (st, nv) = (T, wb) → BestJ (setsU s 0 0 (2 ^ on)) g2 g3 (i + 1) O B1) := fun hb => ⟨(T, wb), A', c', Sx, HOF.out, HN2.out, HN3.out, H2.out.bl HGB.out, H3.out.bl HGB.out, HIB.out, by rw [HLL.out, HFS.out, hb]⟩
  clear hIL hgrw hb2 hb3 k3 kBV hVs htl hnl2 HLIST
  by_cases h1 : wb < nv
  ·have hYES : bestSt (T, wb) (st, nv) = (tl, nv) := by rw [bestSt, if_pos (.inl h1), HTL.out]
   have HY := Lib.hid hYES
   clear hYES
   gi_wp2_with fail
   all_goals try (rename_i q1 q2; exact absurd (Option.some.inj q1) (by simp [undef]))
   refine ⟨trivial, ?_⟩
   gi_wp2_with fail
   obtain ⟨O', hO', hj'⟩ := HYES.out HY.out
   exact ⟨HKV.out, O', hO', hj'⟩
  by_cases h2 : nv = wb
  ·subst h2
   have hcmp := compare_any (c := cl) (d := c') B1 HIL.out HIB.out
   obtain ⟨cv, hcv⟩ : ∃ c, lexC tl T = c := ⟨_, rfl⟩
   rw [hcv] at hcmp
   have HCV := Lib.hid hcv
   have HCP := Lib.hid hcmp
   clear hcmp hcv h1
   gi_wp2_with fail
   refine ⟨trivial, ?_⟩
   refine (CallsIn.inRound lp (callsIn_wide.2 HCP.out)).mono ?_
   rintro e B2 ⟨rfl, hB2⟩
   rw [← hB2]
   clear hB2
   by_cases h3 : cv < 0
   ·have hYES : bestSt (T, nv) (st, nv) = (tl, nv) := by rw [bestSt, if_pos (.inr ⟨rfl, by dsimp only; rw [HTL.out, HCV.out]; exact h3⟩), HTL.out]
    have HY := Lib.hid hYES
    clear hYES
    gi_wp2_with fail
    obtain ⟨O', hO', hj'⟩ := HYES.out HY.out
    exact ⟨HKV.out, O', hO', hj'⟩
   have hNO : bestSt (T, nv) (st, nv) = (T, nv) := by
    rw [bestSt, if_neg]
    rintro (h | ⟨_, h⟩)
    ·exact absurd h (Int.lt_irrefl _)
    dsimp only at h
    rw [HTL.out, HCV.out] at h
    exact h3 h
   have HN := Lib.hid hNO
   clear hNO
   gi_wp2_with fail
   exact ⟨HKS.out, O, fun q h => .inl h, HNO.out HN.out⟩
  have h2b : (nv == wb) = false := by simpa using h2
  have hNO : bestSt (T, wb) (st, nv) = (T, wb) := by
   rw [bestSt, if_neg]
   rintro (h | ⟨h, _⟩)
   ·exact h1 h
   exact h2 h
  have HN := Lib.hid hNO
  clear hNO h2
  gi_wp2_with fail
  refine ⟨trivial, ?_⟩
  gi_wp2_with fail
  exact ⟨HKS.out, O, fun q h => .inl h, HNO.out HN.out⟩
 rintro O W' D ⟨b, Ab, cb, Sx, hO, hn2, hn3, hb2, hb3, hI, hb⟩ hOs hK hsW hD hOD hDD
 rw [List.take_of_length_le (Nat.le_refl _), HLL.out] at hb
 have hbb : bestO LL = b := hb
 obtain ⟨tb, htb⟩ : ∃ q, b.1 = q := ⟨_, rfl⟩
 obtain ⟨wb, hwb⟩ : ∃ q, b.2 = q := ⟨_, rfl⟩
 rw [htb] at hb2 hI
 rw [hwb] at hb3
 obtain ⟨nb, hnb⟩ : ∃ q, tb.length = q := ⟨_, rfl⟩
 rw [hnb] at hb2 hI
 have HTB : Hid ((bestO LL).1 = tb) := by rw [Hid, hbb, htb]
 have HWB : Hid ((bestO LL).2 = wb) := by rw [Hid, hbb, hwb]
 have HNB : Hid (tb.length = nb) := hnb
 have HOE := Lib.hid hO
 have HOD := Lib.hid hOD
 have HDD := Lib.hid hDD
 have HIB := Lib.hid hI
 have hDl : D < W'.heap.size := (Array.getElem?_eq_some_iff.1 hDD).1
 have HBE : Hid (Below w.heap.size w W') := HB3.out.trans (hK.below HB3.out.size (fun k h => by have := HSZ.out; omega))
 have hwD : w.heap.size ≤ D := by have := HB3.out.size; omega
 have kk : Hid (∀ U, Below W'.heap.size W' U → Blk U g2 27 #[.slice Ab nb cb] ∧ Blk U g3 3 #[.int .i64 wb]) := fun U hU => ⟨hb2.bl hU, hb3.bl hU⟩
 clear hO hn2 hn3 hb2 hb3 hI hb hbb htb hwb hnb hOs hK hsW hOD hDD
 gi_wp2_with fail
 refine wpIn_region_inva (F := Fence.wide) (r := none) rfl (InvV W' (fun i => [.slice Ab nb cb, .int .i64 wb, undef, undef, .int .i64 0].getD i undef)) (by kernel_rfl) (by kernel_rfl) (by kernel_rfl) InvV.zero ?step ?fin
 case step =>
  refine StepsI.cons ?_ (StepsI.cons ?_ (StepsI.cons ?_ (StepsI.cons ?_ (StepsI.cons ?_ StepsI.nil))))
  all_goals
   refine StepI.of ?_
   intro ls vs W9 K hI hl hw hU hK
   simp only [fillA, Act.put, List.setIfInBounds_toArray, List.set_cons_zero, List.set_cons_succ, Nat.zero_add, Nat.reduceAdd] at hK ⊢
   have hC := hI.1
  ·
   have k2 := (kk.out W9 hC).1.cell 0
   go_simp
   exact hK _ _ (hI.step (Below.refl _ _) rfl)
  ·
   have k3 := (kk.out W9 hC).2.cell 0
   go_simp
   exact hK _ _ (hI.step (Below.refl _ _) rfl)
  ·
   have q0 : vs 0 = .slice Ab nb cb := hI.2 0 (hw 0 (by simp [waits, Region.binds]))
   simp only [q0] at hK ⊢
   have k2 := (kk.out W9 hC).1
   have n2 := osetCell_noop k2
   have d2 := k2.cell 0
   have f2 := k2.frozen 0
   have l2 := k2.lt
   go_simp
   exact hK _ _ (hI.step (Below.refl _ _) rfl)
  ·
   have q1 : vs 1 = .int .i64 wb := hI.2 1 (hw 1 (by simp [waits, Region.binds]))
   simp only [q1] at hK ⊢
   have k3 := (kk.out W9 hC).2
   have n3 := osetCell_noop k3
   have d3 := k3.cell 0
   have f3 := k3.frozen 0
   have l3 := k3.lt
   go_simp
   exact hK _ _ (hI.step (Below.refl _ _) rfl)
  go_simp
  exact hK _ _ (hI.step (Below.refl _ _) rfl)
 intro ls vs W9 hI hl
 have hC := hI.1
 have q0 : vs 0 = .slice Ab nb cb := hI.2 0 (hl 0 (by decide))
 have q1 : vs 1 = .int .i64 wb := hI.2 1 (hl 1 (by decide))
 have q2 : vs 2 = undef := hI.2 2 (hl 2 (by decide))
 have q3 : vs 3 = undef := hI.2 3 (hl 3 (by decide))
 have q4 : vs 4 = .int .i64 0 := hI.2 4 (hl 4 (by decide))
 simp only [fillA, Act.put, List.setIfInBounds_toArray, List.set_cons_zero, List.set_cons_succ, Nat.zero_add, Nat.reduceAdd, q0, q1, q2, q3, q4]
 clear q0 q1 q2 q3 q4 hI hl
 have HC := Lib.hid hC
 have n2 := (kk.out W9 HC.out).1
 have n3 := (kk.out W9 HC.out).2
 have HDB2 : Hid (W9.heap[D]? = some (.deferred (some []))) := (HC.out.block D hDl).trans HDD.out
 have HKF : Hid (Below w.heap.size w (W9.putObj D (.deferred none))) := obl_put (bl_call HBE.out HC.out (Nat.le_refl _)) (by omega) _
 have HRS : Hid (Ints (fun _ => True) (W9.putObj D (.deferred none)) Ab nb tb) := by
  have h1 := HIB.out.keep IntR.good (Keeps.below HC.out)
  exact (h1.keep IntR.good ⟨by simp, fun q hq _ => World.putObj_heap_other (fun e => HOD.out (by rw [← e]; exact (HOE.out q).2 (.inr (.inr hq))))⟩).mono IntR.good (fun _ _ => trivial)
 have h2n : g2 ≠ D := fun e => HOD.out (e ▸ (HOE.out g2).2 (.inl rfl))
 have h3n : g3 ≠ D := fun e => HOD.out (e ▸ (HOE.out g3).2 (.inr (.inl rfl)))
 have m2 : Blk (W9.putObj D (.deferred none)) g2 27 #[.slice Ab nb cb] := (World.putObj_heap_other h2n).trans n2
 have m3 : Blk (W9.putObj D (.deferred none)) g3 3 #[.int .i64 wb] := (World.putObj_heap_other h3n).trans n3
 clear hC n2 n3
 gi_wp2
 refine ⟨by simp, .inl ⟨_, _, rfl, run_takeDeferred HDB2.out, ?_⟩⟩
 exact ⟨_, obest_results m2 m3 rfl rfl rfl, ⟨Ab, cb, by rw [HTB.out, HWB.out, HNB.out], by rw [HTB.out, HNB.out]; exact HRS.out⟩, HKF.out⟩
end Go.Proofs.YtkpbchnggdnmaaaGreat
