/- A part of the proof that TopMoulds always answers true. -/
import Derived.Test.YtkpbchnggdnmaaaGreatCOrBest
set_option linter.all false
namespace Go.Proofs.YtkpbchnggdnmaaaGreat
open Go.RowKit Go.Shelf Go.Maps Go.Sort
attribute [local go_sem] Oper.semAt_some
def mostW (L : List (Nat × Int)) : Int := L.foldl (fun m x => max m x.2) 0
def withW (wo : Int) (L : List (Nat × Int)) : Int := L.foldl (fun m x => max m (x.2 - wo)) (-1)
theorem max_bd {f : Nat × Int → Int} {hi : Int} : ∀ {L : List (Nat × Int)} {a : Int}, a ≤ hi → (∀ x ∈ L, f x ≤ hi) → a ≤ L.foldl (fun m x => max m (f x)) a ∧ L.foldl (fun m x => max m (f x)) a ≤ hi
 | [], a, h, _ => ⟨Int.le_refl _, h⟩
 | x :: l, a, h, hx => by
  have h1 := hx x List.mem_cons_self
  have h2 := max_bd (f := f) (L := l) (a := max a (f x)) (by omega) (fun y hy => hx y (List.mem_cons_of_mem _ hy))
  rw [List.foldl_cons]
  omega
theorem setsU_worth {s : Shop11} (hok : Ok11 s) {wi bu : Nat} {x : Nat × Int} (h : x ∈ setsU s wi bu (2 ^ s.orders.length)) : 0 ≤ x.2 ∧ x.2 ≤ 90000 := by
 have hlt := setsU_mem h
 unfold setsU at h
 obtain ⟨k, hk, rfl⟩ := List.mem_map.1 h
 have ht := bit_taken hlt
 have h1 := worthJ_bd (ords_ok hok ht) (ords_len hok ht) (ordsL s (bitL k)).length
 unfold worthJ at h1
 rw [List.take_length] at h1
 exact h1
def MostJ (L : List (Nat × Int)) (g8 : Nat) (i : Nat) (O : Foot) (A : World) : Prop := (∀ k, O k ↔ k = g8) ∧ Blk A g8 3 #[.int .i64 ((L.take i).foldl (fun m x => max m x.2) 0)]
def WithJ (wo : Int) (L : List (Nat × Int)) (g9 : Nat) (i : Nat) (O : Foot) (A : World) : Prop := (∀ k, O k ↔ k = g9) ∧ Blk A g9 3 #[.int .i64 ((L.take i).foldl (fun m x => max m (x.2 - wo)) (-1))]
set_option maxHeartbeats 4000000 in
set_option maxRecDepth 100000 in
theorem oCosts_any {s : Shop11} {H P Q : Option Addr} {hn hc pn pc on oc oi bu : Nat} {wo : Int} (hok : Ok11 s) (hpc : pn ≤ pc) (w : World) (g : ShopO (fun _ => True) w H hn P pn Q on s) (hoi : oi < on) (hbu : 2 ^ oi = bu) (hand : ∀ k : Nat, k < 256 → bits BinOp.and IntKind.i64 (k : Int) (bu : Int) = ((k &&& bu : Nat) : Int)) (hwo : (s.orders.getD oi dOrd).worth = wo) (hw0 : 0 ≤ withW wo (setsU s bu 0 (2 ^ on))) :
  Calls Tryz.prog 36 #[.agg #[.slice H hn hc, .slice P pn pc, .slice Q on oc], .int .i64 (oi : Int)] w fun e w' => e = .returned (.tuple #[.int .i64 (mostW (setsU s 0 bu (2 ^ on)) - withW wo (setsU s bu 0 (2 ^ on))), .int .i64 0]) ∧ Below w.heap.size w w' := by
 have hon : s.orders.length = on := g.os.len
 have ho8 : on ≤ 8 := by have := hok.no; omega
 have hole := g.os.le
 obtain ⟨om, hom⟩ : ∃ q : Nat, (on : Int) - 1 = q := ⟨on - 1, by omega⟩
 have w0 : IntKind.i64.wrap ((on : Int) - 1) = (om : Int) := by rw [hom, IntKind.wrap_i64]; omega
 have HOUT : Hid (outB 0 (om : Int) (oi : Int) = false) := outB_f (by omega)
 have hsh : IntKind.i64.wrap (2 ^ oi) = (bu : Int) := by
  have h1 : ((2 : Int) ^ oi) = ((2 ^ oi : Nat) : Int) := by push_cast; rfl
  have h2 : 2 ^ oi ≤ 2 ^ 8 := Nat.pow_le_pow_right (by decide) (by omega)
  rw [h1, hbu, IntKind.wrap_i64]
  have h3 : bu ≤ 256 := by rw [← hbu]; exact h2
  omega
 obtain ⟨L1, hL1⟩ : ∃ L, setsU s 0 bu (2 ^ on) = L := ⟨_, rfl⟩
 obtain ⟨L2, hL2⟩ : ∃ L, setsU s bu 0 (2 ^ on) = L := ⟨_, rfl⟩
 have hb1 : ∀ x ∈ L1, 0 ≤ x.2 ∧ x.2 ≤ 90000 := fun x hx => by rw [← hL1, ← hon] at hx; exact setsU_worth hok hx
 have hb2 : ∀ x ∈ L2, 0 ≤ x.2 ∧ x.2 ≤ 90000 := fun x hx => by rw [← hL2, ← hon] at hx; exact setsU_worth hok hx
 have hwb : 0 ≤ wo ∧ wo ≤ 10000 := by
  have hlt : oi < s.orders.length := by omega
  have h1 := (hok.orders _ (List.getElem_mem hlt)).2.2.2
  rw [← hwo, getD_of (List.getElem?_eq_getElem hlt)]
  exact h1
 have hm1 := max_bd (f := fun x => x.2) (L := L1) (a := 0) (hi := 90000) (by decide) (fun x hx => (hb1 x hx).2)
 have hm2 := max_bd (f := fun x => x.2 - wo) (L := L2) (a := -1) (hi := 90000) (by decide) (fun x hx => by have := hb2 x hx; first | omega | (dsimp only; omega))
 rw [hL2] at hw0
 obtain ⟨mm, hmm⟩ : ∃ m, mostW L1 = m := ⟨_, rfl⟩
 obtain ⟨mw, hmw⟩ : ∃ m, withW wo L2 = m := ⟨_, rfl⟩
 have hm1' : 0 ≤ mm ∧ mm ≤ 90000 := by rw [← hmm]; exact hm1
 have hm2' : mw ≤ 90000 := by rw [← hmw]; exact hm2.2
 rw [hmw] at hw0
 rw [hL1, hL2, hmm, hmw]
 have HL1 := Lib.hid hL1
 have HL2 := Lib.hid hL2
 have HB1b := Lib.hid hb1
 have HB2b := Lib.hid hb2
 have HMM := Lib.hid hmm
 have HMW := Lib.hid hmw
 have HAND := Lib.hid hand
 have HWO := Lib.hid hwo
 have wres : IntKind.i64.wrap (mm - mw) = mm - mw := by rw [IntKind.wrap_i64]; omega
 have hmwn : ¬ mw < 0 := by omega
 have HON := Lib.hid hon
 obtain ⟨gc, hgc⟩ : ∃ q, w.heap.size = q := ⟨_, rfl⟩
 obtain ⟨gO, hgO⟩ : ∃ q, gc + 1 = q := ⟨_, rfl⟩
 obtain ⟨W, hW⟩ : ∃ W, (w.alloc (.cells #[.slice H hn hc, .slice P pn pc, .slice Q on oc] 31)).alloc (.cells #[.int .i64 (oi : Int)] 3) = W := ⟨_, rfl⟩
 have X : Blk W gc 31 #[.slice H hn hc, .slice P pn pc, .slice Q on oc] := by rw [← hW]; exact (Blk.new _ _ _ hgc.symm).alloc _
 have XO : Blk W gO 3 #[.int .i64 (oi : Int)] := by rw [← hW]; exact Blk.new _ _ _ (by simp [hgc, hgO])
 have hBW : Below w.heap.size w W := by rw [← hW]; exact bl_alloc (bl_alloc (Below.refl _ _) _ (Nat.le_refl _)) _ (Nat.le_refl _)
 have HG : Hid (ShopO (fun _ => True) W H hn P pn Q on s) := g.bl hBW
 have HOK := Lib.hid hok
 have HX := Lib.hid X
 have HXO := Lib.hid XO
 have HBW := Lib.hid hBW
 have x0 := X.cell 0
 have x1 := X.cell 1
 have x2 := X.cell 2
 have hOl : gO < W.heap.size := XO.lt
 clear g X XO hok hon hL1 hL2 hmm hmw hb1 hb2 hm1 hm2 hand hwo hom
 refine (callsIn_wide (n := 1)).1 ?_
 refine callsIn_of_wp_marks Tryz.func36 rfl trivial ?_ rfl
 simp only [Tryz.ntmps36, List.size_toArray, List.length_cons, List.length_nil, Nat.reduceAdd, Nat.reduceSub, Array.replicate_succ, Array.replicate_zero, List.push_toArray, List.append_toArray, List.nil_append, List.cons_append]
 gi_wp2_with fail
 refine ⟨trivial, ?_⟩
 clear x0 x1 x2 hW
 refine (callsIn_wide.2 (olook_any HOK.out hpc W HG.out)).mono ?_
 rintro e V1 ⟨⟨gs, kb, rfl, hgs, hkb, HLK, HM⟩, b1⟩
 have HLK := Lib.hid HLK
 have HM := Lib.hid HM
 have HB1 := Lib.hid b1
 have hz1 := b1.size
 have y2 := (HX.out.bl b1).cell 2
 have yo := (HXO.out.bl b1).cell 0
 clear b1
 gi_wp2_with fail
 refine ⟨trivial, ?_⟩
 refine (callsIn_wide.2 (oout1 _ (by exact newc rfl rfl) HOUT.out)).mono ?_
 rintro e V2 ⟨rfl, b2⟩
 have b12 : Below V1.heap.size V1 V2 := bl_call (bl_alloc (Below.refl _ _) _ (Nat.le_refl _)) b2 (Nat.le_refl _)
 obtain ⟨g8, hg8⟩ : ∃ q, V2.heap.size = q := ⟨_, rfl⟩
 obtain ⟨g9, hg9⟩ : ∃ q, g8 + 1 = q := ⟨_, rfl⟩
 obtain ⟨Va, hVa⟩ : ∃ V, (V2.alloc (.cells #[.int .i64 0] 3)).alloc (.cells #[.int .i64 0] 3) = V := ⟨_, rfl⟩
 have A8 : Blk Va g8 3 #[.int .i64 0] := by rw [← hVa]; exact (Blk.new _ _ _ hg8.symm).alloc _
 have A9 : Blk Va g9 3 #[.int .i64 0] := by rw [← hVa]; exact Blk.new _ _ _ (by simp [hg8, hg9])
 have hsa : Va.heap.size = g9 + 1 := by rw [← hVa]; simp [hg8, hg9]
 have b2a : Below V2.heap.size V2 Va := by rw [← hVa]; exact bl_alloc (bl_alloc (Below.refl _ _) _ (Nat.le_refl _)) _ (Nat.le_refl _)
 have n8 := osetCell_noop A8
 have c8 := A8.cell 0
 have f8 := A8.frozen 0
 have l8 := A8.lt
 have c9 := A9.cell 0
 have f9 := A9.frozen 0
 have l9 := A9.lt
 obtain ⟨Vb, hVb⟩ : ∃ V, Va.setCell ⟨g9, 0, none⟩ (.int .i64 (-1)) = V := ⟨_, rfl⟩
 have kab : Kept (fun q => q = g9) Va Vb := by rw [← hVb]; exact Kept.setCell _ _ _ rfl
 have B9 : Blk Vb g9 3 #[.int .i64 (-1)] := by rw [← hVb]; exact A9.set_ 0 _
 have B8 : Blk Vb g8 3 #[.int .i64 0] := A8.kept kab (by omega)
 have hsb : Vb.heap.size = g9 + 1 := by rw [← hVb]; simp [World.setCell, hsa]
 have b1b : Below V1.heap.size V1 Vb := bl_call b12 (b2a.trans (kab.below b2a.size (fun q h => by omega))) (Nat.le_refl _)
 have hz2 := b12.size
 have HB1V := Lib.hid b1b
 have zo := ((HXO.out.bl HB1.out).bl b1b).cell 0
 have H8 := Lib.hid B8
 have H9 := Lib.hid B9
 have HSB := Lib.hid hsb
 have h18 : V1.heap.size ≤ g8 := by omega
 clear b12 b2 b2a kab A8 A9 B8 B9 b1b y2 yo hsa hsb
 gi_wp2_with fail
 refine ⟨trivial, ?_⟩
 clear hVa hVb n8 c8 f8 l8 c9 f9 l9 zo hg8
 refine (callsIn_wide.2 (osets_any Vb)).mono ?_
 rintro e w' ⟨rfl, hw'⟩
 obtain ⟨V3, hV3⟩ : ∃ V, V = w' := ⟨_, rfl⟩
 rw [← hV3] at hw' ⊢
 clear hV3
 obtain ⟨gS, hgS⟩ : ∃ q, Vb.heap.size = q := ⟨_, rfl⟩
 have b13 : Below Vb.heap.size Vb V3 := by rw [hw']; exact bl_alloc (bl_alloc (bl_alloc (Below.refl _ _) _ (Nat.le_refl _)) _ (Nat.le_refl _)) _ (Nat.le_refl _)
 have S3 : Blk V3 gS 90 #[.pointer (some ⟨gs, 0, none⟩)] := by rw [hw']; exact ((Blk.new _ _ _ hgS.symm).alloc _).alloc _
 have W3 : Blk V3 (gS + 1) 3 #[.int .i64 ((0 : Nat) : Int)] := by rw [hw']; exact (Blk.new _ _ _ (by simp [hgS])).alloc _
 have B3 : Blk V3 (gS + 1 + 1) 3 #[.int .i64 (bu : Int)] := by rw [hw']; exact Blk.new _ _ _ (by simp [hgS])
 have hs3 : V3.heap.size = gS + 3 := by rw [hw']; simp [hgS]
 have hSg : gS = g9 + 1 := by rw [← hgS]; exact HSB.out
 have HSG := Lib.hid hSg
 rw [hgS]
 clear hw' hSg
 gi_wp2_with fail
 have hB13 : Below V1.heap.size V1 V3 := bl_call HB1V.out b13 (Nat.le_refl _)
 have HK3 : Hid (LookK V3 V1.heap.size gs kb H hn hc P pn pc Q on oc s) := HLK.out.bl hB13
 have M3 : MapC s V3 kb 0 := HM.out.bl hB13
 have hkl : kb < V1.heap.size := HM.out.lt
 have hgsl : gs < V1.heap.size := HLK.out.lt
 have Y8 : Blk V3 g8 3 #[.int .i64 0] := H8.out.bl b13
 have Y9 : Hid (Blk V3 g9 3 #[.int .i64 (-1)]) := H9.out.bl b13
 have HB3 : Hid (Below W.heap.size W V3) := bl_call HB1.out hB13 (Nat.le_refl _)
 have HS3 := Lib.hid S3
 have HW3 := Lib.hid W3
 have HB3b := Lib.hid B3
 have HSZ := Lib.hid hs3
 clear b13 S3 W3 B3 hgS hB13 H8 H9
 have hInv : ∀ A, Kept (fun k => k = g8 ∨ k = kb ∨ V3.heap.size ≤ k) V3 A → SetsInv gS (gS + 1) (gS + 1 + 1) V1.heap.size gs kb H hn hc P pn pc Q on oc 0 bu s A := fun A hK => by
  have h1 := HSG.out
  have h2 := HSZ.out
  exact ⟨HS3.out.kept hK (by omega), HW3.out.kept hK (by omega), HB3b.out.kept hK (by omega), HK3.out.keptM hK (fun k hk h => by omega)⟩
 have HINV := Lib.hid hInv
 clear hInv
 have hJ0 : MostJ (setsU s 0 bu (2 ^ on)) g8 0 (fun k => k = g8) V3 := ⟨fun k => Iff.rfl, Y8⟩
 have hg8V : g8 < V3.heap.size := Y8.lt
 have hkbV : kb < V3.heap.size := by omega
 clear hs3 Y8
 refine rangeFunc_outerM (m := 1) (gf := 91) (lb := #[.pointer (some ⟨gS, 0, none⟩), .pointer (some ⟨gS + 1, 0, none⟩), .pointer (some ⟨gS + 1 + 1, 0, none⟩)]) rfl eg_sets1 (sets_seq (kb := kb) HOK.out and_zero HAND.out (N := 0) (by decide)) (fun _ => rfl) (fun k => k = g8) (MostJ (setsU s 0 bu (2 ^ on)) g8) (fun _ _ _ => False) (fun k h => h ▸ hg8V) (fun k h h2 => by omega) (fun k h => h ▸ hkbV) (fun A B hs hlt hK => hs.at (hK.block kb hs.lt (fun h => h rfl))) (fun A B hs hlt hK => hs.at (hK.block kb hs.lt (fun h => h rfl))) M3 (fun A hK => HINV.out A hK) ?stay (fun cd O A B h => h.elim) hJ0 ?round ?done (fun cd O A D h => h.elim)
 case stay =>
  rintro i O A B ⟨hO, hb⟩ hlt hK
  exact ⟨hO, hb.kept hK (fun h => h ((hO _).2 rfl))⟩
 case round =>
  intro lp i x O A1 hx hj hlt hsub hK hsA hnl hlA hWl
  obtain ⟨hO, hb⟩ := hj
  rw [HL1.out] at hx hb
  have HSN : Hid ((L1.take (i + 1)).foldl (fun m x => max m x.2) 0 = max ((L1.take i).foldl (fun m x => max m x.2) 0) x.2) := by rw [Hid, take_snoc_get hx, List.foldl_append]; rfl
  obtain ⟨mv, hmv⟩ : ∃ m, (L1.take i).foldl (fun m x => max m x.2) 0 = m := ⟨_, rfl⟩
  rw [hmv] at hb HSN
  obtain ⟨nv, hnv⟩ : ∃ q, x.2 = q := ⟨_, rfl⟩
  rw [hnv] at HSN
  have hEn : encS x = #[.int .i64 (x.1 : Int), .int .i64 nv] := by rw [← hnv]; rfl
  have HOF := Lib.hid hO
  clear hx hO hmv hnv hlt hsub hsA hK
  rw [hEn, ofold2]
  simp only [List.setIfInBounds_toArray]
  try simp only [List.set_cons_zero, List.set_cons_succ]
  gi_wp2
  refine ⟨Kept.refl _ _, fun A2 hK2 hs2' => ?_⟩
  first | (intro r2; have hx2 : ∃ r3, A2.heap[lp]? = some (.loop r3) := r2; clear hx2 r2) | (intro r2 hr2; clear hr2)
  have hb' : Blk A2 g8 3 #[.int .i64 mv] := hb.kept hK2 (fun e => hnl (e ▸ (HOF.out _).2 rfl))
  have c8 := hb'.cell 0
  have f8 := hb'.frozen 0
  have l8 := hb'.lt
  obtain ⟨VF, hVF⟩ : ∃ V, A2.setCell ⟨g8, 0, none⟩ (.int .i64 (max mv nv)) = V := ⟨_, rfl⟩
  have HF : Hid (Blk VF g8 3 #[.int .i64 (max mv nv)]) := by rw [Hid, ← hVF]; exact hb'.set_ 0 _
  have HKF : Hid (Kept O A2 VF) := by rw [Hid, ← hVF]; exact Kept.setCell _ _ _ ((HOF.out _).2 rfl)
  clear hb hb' hK2 hs2'
  gi_wp2_with fail
  exact ⟨HKF.out, O, fun q h => .inl h, HOF.out, by rw [HL1.out, HSN.out]; exact HF.out⟩
 rintro O W1 D ⟨hO, hb⟩ hOs hK hsW hD hOD hDD
 rw [List.take_of_length_le (Nat.le_refl _), HL1.out] at hb
 have hb8 : Blk W1 g8 3 #[.int .i64 mm] := by rw [← HMM.out]; exact hb
 have hz3 := HSZ.out
 have hz4 := HSG.out
 have hB4 : Below W.heap.size W W1 := HB3.out.trans (hK.below HB3.out.size (fun k h => by omega))
 have HK4 : Hid (LookK W1 V1.heap.size gs kb H hn hc P pn pc Q on oc s) := HK3.out.keptM hK (fun k hk h => by omega)
 have Y9' : Hid (Blk W1 g9 3 #[.int .i64 (-1)]) := Y9.out.kept hK (by omega)
 have HM4 := Lib.hid hsW
 have H8 := Lib.hid hb8
 have HDD := Lib.hid hDD
 have hDl : D < W1.heap.size := (Array.getElem?_eq_some_iff.1 hDD).1
 have HB4 := Lib.hid hB4
 have zo := (HXO.out.bl hB4).cell 0
 have h9D : g9 < D := by omega
 have h1D : V1.heap.size ≤ D := by omega
 clear hO hb hb8 hOs hK hsW hOD hDD hB4 hz3 hz4 Y9 HK3 HINV HS3 HW3 HB3b
 gi_wp2_with fail
 refine ⟨trivial, ?_⟩
 clear zo
 refine (callsIn_wide.2 (osets_any W1)).mono ?_
 rintro e w' ⟨rfl, hw'⟩
 obtain ⟨V4, hV4⟩ : ∃ V, V = w' := ⟨_, rfl⟩
 rw [← hV4] at hw' ⊢
 clear hV4
 obtain ⟨gT, hgT⟩ : ∃ q, W1.heap.size = q := ⟨_, rfl⟩
 have b14 : Below W1.heap.size W1 V4 := by rw [hw']; exact bl_alloc (bl_alloc (bl_alloc (Below.refl _ _) _ (Nat.le_refl _)) _ (Nat.le_refl _)) _ (Nat.le_refl _)
 have S4 : Blk V4 gT 90 #[.pointer (some ⟨gs, 0, none⟩)] := by rw [hw']; exact ((Blk.new _ _ _ hgT.symm).alloc _).alloc _
 have W4 : Blk V4 (gT + 1) 3 #[.int .i64 (bu : Int)] := by rw [hw']; exact (Blk.new _ _ _ (by simp [hgT])).alloc _
 have B4 : Blk V4 (gT + 1 + 1) 3 #[.int .i64 ((0 : Nat) : Int)] := by rw [hw']; exact Blk.new _ _ _ (by simp [hgT])
 have hs4 : V4.heap.size = gT + 3 := by rw [hw']; simp [hgT]
 have hDT : D < gT := by rw [← hgT]; exact hDl
 rw [hgT]
 clear hw'
 gi_wp2_with fail
 have HK5 : Hid (LookK V4 V1.heap.size gs kb H hn hc P pn pc Q on oc s) := HK4.out.bl b14
 have M4 : MapC s V4 kb (0 + 5120) := HM4.out.bl b14
 have Y8 : Hid (Blk V4 g8 3 #[.int .i64 mm]) := H8.out.bl b14
 have Y9 : Blk V4 g9 3 #[.int .i64 (-1)] := Y9'.out.bl b14
 have HD4 : Hid (V4.heap[D]? = some (.deferred (some []))) := (b14.block D hDl).trans HDD.out
 have HB5 : Hid (Below W.heap.size W V4) := bl_call HB4.out b14 (Nat.le_refl _)
 have HS4 := Lib.hid S4
 have HW4 := Lib.hid W4
 have HB4b := Lib.hid B4
 have HSZ4 := Lib.hid hs4
 clear b14 S4 W4 B4 hgT H8 Y9' HDD hDl
 have hInv : ∀ A, Kept (fun k => k = g9 ∨ k = kb ∨ V4.heap.size ≤ k) V4 A → SetsInv gT (gT + 1) (gT + 1 + 1) V1.heap.size gs kb H hn hc P pn pc Q on oc bu 0 s A := fun A hK => by
  have h2 := HSZ4.out
  exact ⟨HS4.out.kept hK (by omega), HW4.out.kept hK (by omega), HB4b.out.kept hK (by omega), HK5.out.keptM hK (fun k hk h => by omega)⟩
 have HINV := Lib.hid hInv
 clear hInv
 have hJ0 : WithJ wo (setsU s bu 0 (2 ^ on)) g9 0 (fun k => k = g9) V4 := ⟨fun k => Iff.rfl, Y9⟩
 have hg9V : g9 < V4.heap.size := Y9.lt
 have hkbV : kb < V4.heap.size := by omega
 clear hs4 Y9
 refine rangeFunc_outerM (m := 1) (gf := 91) (lb := #[.pointer (some ⟨gT, 0, none⟩), .pointer (some ⟨gT + 1, 0, none⟩), .pointer (some ⟨gT + 1 + 1, 0, none⟩)]) rfl eg_sets1 (sets_seq (kb := kb) HOK.out HAND.out and_zero (N := 0 + 5120) (by decide)) (fun _ => rfl) (fun k => k = g9) (WithJ wo (setsU s bu 0 (2 ^ on)) g9) (fun _ _ _ => False) (fun k h => h ▸ hg9V) (fun k h h2 => by omega) (fun k h => h ▸ hkbV) (fun A B hs hlt hK => hs.at (hK.block kb hs.lt (fun h => h rfl))) (fun A B hs hlt hK => hs.at (hK.block kb hs.lt (fun h => h rfl))) M4 (fun A hK => HINV.out A hK) ?stay2 (fun cd O A B h => h.elim) hJ0 ?round2 ?done2 (fun cd O A D h => h.elim)
 case stay2 =>
  rintro i O A B ⟨hO, hb⟩ hlt hK
  exact ⟨hO, hb.kept hK (fun h => h ((hO _).2 rfl))⟩
 case round2 =>
  intro lp i x O A1 hx hj hlt hsub hK hsA hnl hlA hWl
  obtain ⟨hO, hb⟩ := hj
  rw [HL2.out] at hx hb
  have hxb := HB2b.out x (List.mem_of_getElem? hx)
  have hmvb := (max_bd (f := fun x => x.2 - wo) (L := L2.take i) (a := -1) (hi := 90000) (by decide) (fun x hx => by have := HB2b.out x (List.mem_of_mem_take hx); first | omega | (dsimp only; omega)))
  have HSN0 : Hid ((L2.take (i + 1)).foldl (fun m x => max m (x.2 - wo)) (-1) = max ((L2.take i).foldl (fun m x => max m (x.2 - wo)) (-1)) (x.2 - wo)) := by rw [Hid, take_snoc_get hx, List.foldl_append]; rfl
  obtain ⟨mv, hmv⟩ : ∃ m, (L2.take i).foldl (fun m x => max m (x.2 - wo)) (-1) = m := ⟨_, rfl⟩
  rw [hmv] at hb HSN0
  obtain ⟨nv, hnv⟩ : ∃ q, x.2 = q := ⟨_, rfl⟩
  rw [hnv] at HSN0 hxb
  obtain ⟨dv, hdv⟩ : ∃ q, nv - wo = q := ⟨_, rfl⟩
  rw [hdv] at HSN0
  have HSN : Hid (((setsU s bu 0 (2 ^ on)).take (i + 1)).foldl (fun m x => max m (x.2 - wo)) (-1) = max mv dv) := by rw [Hid, HL2.out]; exact HSN0.out
  have hEn : encS x = #[.int .i64 (x.1 : Int), .int .i64 nv] := by rw [← hnv]; rfl
  have wd : IntKind.i64.wrap (nv - wo) = dv := by rw [hdv, IntKind.wrap_i64]; omega
  have HOF := Lib.hid hO
  have HK := Lib.hid hK
  clear hx hO hmv hnv hlt hsub hsA hK hxb hmvb hdv HSN0
  rw [hEn, ofold2]
  simp only [List.setIfInBounds_toArray]
  try simp only [List.set_cons_zero, List.set_cons_succ]
  gi_wp2
  refine ⟨Kept.refl _ _, fun A2 hK2 hs2' => ?_⟩
  first | (intro r2; have hx2 : ∃ r3, A2.heap[lp]? = some (.loop r3) := r2; clear hx2 r2) | (intro r2 hr2; clear hr2)
  have hb' : Blk A2 g9 3 #[.int .i64 mv] := hb.kept hK2 (fun e => hnl (e ▸ (HOF.out _).2 rfl))
  have hK4 : Kept (fun k => k = g9 ∨ k = kb ∨ V4.heap.size ≤ k) V4 A2 := HK.out.seq hK2 (fun k _ h => .inr (.inr (h ▸ hWl)))
  have hB6 : Below W.heap.size W A2 := HB5.out.trans (hK4.below HB5.out.size (fun k h => by have := HB5.out.size; omega))
  obtain ⟨U, uc, _, SG, _⟩ := (HINV.out A2 hK4).2.2.2.st
  obtain ⟨bq, oq, za, zb, zc, zd, rfl, hbb, _, _, _, hcw, Hy⟩ := Ords11.get SG.os hoi
  have hzd : zd = wo := by have h1 := HWO.out; rw [getD_of Hy.out] at h1; exact h1
  rw [hzd] at hcw
  have kk : Hid (∀ U, Below A2.heap.size A2 U → U.cell? ⟨g9, 0, none⟩ = some (.int .i64 mv) ∧ U.cell? ⟨gc, 2, none⟩ = some (.slice (some ⟨bq, oq, none⟩) on oc) ∧ U.cell? ⟨gO, 0, none⟩ = some (.int .i64 (oi : Int)) ∧ U.cell? ⟨bq, oq + oi * 4 + 3, none⟩ = some (.int .i64 wo)) := fun U hb => ⟨(hb'.bl hb).cell 0, ((HX.out.bl hB6).bl hb).cell 2, ((HXO.out.bl hB6).bl hb).cell 0, getc hb hcw⟩
  have H9 := Lib.hid hb'
  have hoii : (oi : Int) < on := by omega
  clear hb hb' hK2 hs2' hK4 hB6 SG hcw hzd Hy
  gi_wp2_with fail
  refine wpIn_region_invt (F := Fence.wide.inRound lp) (r := some lp) rfl (InvV A2 (fun i => [.int .i64 mv, .int .i64 nv, .pointer (some ⟨gc, 2, none⟩), .slice (some ⟨bq, oq, none⟩) on oc, .int .i64 (oi : Int), .pointer (some ⟨bq, oq + oi * 4, none⟩), .pointer (some ⟨bq, oq + oi * 4 + 3, none⟩), .int .i64 wo, .int .i64 dv, .int .i64 (max mv dv)].getD i undef)) 10 (by kernel_rfl) (by kernel_rfl) (by kernel_rfl) (by decide) InvV.zero ?step ?fin
  case step =>
   refine StepsI.cons ?_ (StepsI.cons ?_ (StepsI.cons ?_ (StepsI.cons ?_ (StepsI.cons ?_ (StepsI.cons ?_ (StepsI.cons ?_ (StepsI.cons ?_ (StepsI.cons ?_ (StepsI.cons ?_ StepsI.nil)))))))))
   all_goals
    refine StepI.of ?_
    intro ls vs W9 K hI hl hw hU hK
    simp only [fillA, Act.put, List.setIfInBounds_toArray, List.set_cons_zero, List.set_cons_succ, Nat.zero_add, Nat.reduceAdd] at hK ⊢
    have hC := hI.1
   ·
    have k9 := (kk.out W9 hC).1
    have kc := (kk.out W9 hC).2.1
    have ko := (kk.out W9 hC).2.2.1
    have kw := (kk.out W9 hC).2.2.2
    go_simp
    exact hK _ _ (hI.step (Below.refl _ _) rfl)
   ·
    go_simp
    exact hK _ _ (hI.step (Below.refl _ _) rfl)
   ·
    go_simp
    exact hK _ _ (hI.step (Below.refl _ _) rfl)
   ·
    have q2 : vs 2 = .pointer (some ⟨gc, 2, none⟩) := hI.2 2 (hw 2 (by simp [waits, Region.binds]))
    simp only [q2] at hK ⊢
    have k9 := (kk.out W9 hC).1
    have kc := (kk.out W9 hC).2.1
    have ko := (kk.out W9 hC).2.2.1
    have kw := (kk.out W9 hC).2.2.2
    go_simp
    exact hK _ _ (hI.step (Below.refl _ _) rfl)
   ·
    have k9 := (kk.out W9 hC).1
    have kc := (kk.out W9 hC).2.1
    have ko := (kk.out W9 hC).2.2.1
    have kw := (kk.out W9 hC).2.2.2
    go_simp
    exact hK _ _ (hI.step (Below.refl _ _) rfl)
   ·
    have q3 : vs 3 = .slice (some ⟨bq, oq, none⟩) on oc := hI.2 3 (hw 3 (by simp [waits, Region.binds]))
    have q4 : vs 4 = .int .i64 (oi : Int) := hI.2 4 (hw 4 (by simp [waits, Region.binds]))
    simp only [q3, q4] at hK ⊢
    go_simp
    exact hK _ _ (hI.step (Below.refl _ _) rfl)
   ·
    have q5 : vs 5 = .pointer (some ⟨bq, oq + oi * 4, none⟩) := hI.2 5 (hw 5 (by simp [waits, Region.binds]))
    simp only [q5] at hK ⊢
    go_simp
    exact hK _ _ (hI.step (Below.refl _ _) rfl)
   ·
    have q6 : vs 6 = .pointer (some ⟨bq, oq + oi * 4 + 3, none⟩) := hI.2 6 (hw 6 (by simp [waits, Region.binds]))
    simp only [q6] at hK ⊢
    have k9 := (kk.out W9 hC).1
    have kc := (kk.out W9 hC).2.1
    have ko := (kk.out W9 hC).2.2.1
    have kw := (kk.out W9 hC).2.2.2
    go_simp
    exact hK _ _ (hI.step (Below.refl _ _) rfl)
   ·
    have q1 : vs 1 = .int .i64 nv := hI.2 1 (hw 1 (by simp [waits, Region.binds]))
    have q7 : vs 7 = .int .i64 wo := hI.2 7 (hw 7 (by simp [waits, Region.binds]))
    simp only [q1, q7] at hK ⊢
    go_simp
    exact hK _ _ (hI.step (Below.refl _ _) rfl)
   have q0 : vs 0 = .int .i64 mv := hI.2 0 (hw 0 (by simp [waits, Region.binds]))
   have q8 : vs 8 = .int .i64 dv := hI.2 8 (hw 8 (by simp [waits, Region.binds]))
   simp only [q0, q8] at hK ⊢
   go_simp
   exact hK _ _ (hI.step (Below.refl _ _) rfl)
  intro ls vs W9 hI hl hU
  have hC := hI.1
  have q0 : vs 0 = .int .i64 mv := hI.2 0 (hl 0 (by decide))
  have q1 : vs 1 = .int .i64 nv := hI.2 1 (hl 1 (by decide))
  have q2 : vs 2 = .pointer (some ⟨gc, 2, none⟩) := hI.2 2 (hl 2 (by decide))
  have q3 : vs 3 = .slice (some ⟨bq, oq, none⟩) on oc := hI.2 3 (hl 3 (by decide))
  have q4 : vs 4 = .int .i64 (oi : Int) := hI.2 4 (hl 4 (by decide))
  have q5 : vs 5 = .pointer (some ⟨bq, oq + oi * 4, none⟩) := hI.2 5 (hl 5 (by decide))
  have q6 : vs 6 = .pointer (some ⟨bq, oq + oi * 4 + 3, none⟩) := hI.2 6 (hl 6 (by decide))
  have q7 : vs 7 = .int .i64 wo := hI.2 7 (hl 7 (by decide))
  have q8 : vs 8 = .int .i64 dv := hI.2 8 (hl 8 (by decide))
  have q9 : vs 9 = .int .i64 (max mv dv) := hI.2 9 (hl 9 (by decide))
  simp only [fillA, Act.put, List.setIfInBounds_toArray, List.set_cons_zero, List.set_cons_succ, Nat.zero_add, Nat.reduceAdd, List.drop_succ_cons, List.drop_zero, q0, q1, q2, q3, q4, q5, q6, q7, q8, q9]
  clear q0 q1 q2 q3 q4 q5 q6 q7 q8 q9 hI hl hU
  have HC9 := Lib.hid hC
  have X9 := H9.out.bl HC9.out
  have a9 := X9.cell 0
  have f9 := X9.frozen 0
  have l9 := X9.lt
  obtain ⟨VF, hVF⟩ : ∃ V, W9.setCell ⟨g9, 0, none⟩ (.int .i64 (max mv dv)) = V := ⟨_, rfl⟩
  have HF9 : Hid (Blk VF g9 3 #[.int .i64 (max mv dv)]) := by rw [Hid, ← hVF]; exact X9.set_ 0 _
  have HKF : Hid (Kept O A2 VF) := by
   rw [Hid, ← hVF]
   exact (Kept.of_bl HC9.out).trans (Kept.setCell _ ⟨g9, 0, none⟩ _ ((HOF.out _).2 rfl))
  clear hC X9
  gi_wp2_with fail
  exact ⟨HKF.out, O, fun q h => .inl h, HOF.out, by rw [HSN.out]; exact HF9.out⟩
 rintro O W2 D2 ⟨hO, hb⟩ hOs hK hsW hD2 hOD hDD
 rw [List.take_of_length_le (Nat.le_refl _), HL2.out] at hb
 have hb9 : Blk W2 g9 3 #[.int .i64 mw] := by rw [← HMW.out]; exact hb
 have hz4 := HSZ4.out
 have hb8 : Blk W2 g8 3 #[.int .i64 mm] := Y8.out.kept hK (by omega)
 have c8 := hb8.cell 0
 have c9 := hb9.cell 0
 have HD1 : Hid (W2.heap[D]? = some (.deferred (some []))) := (hK.block D (by omega) (fun h => by omega)).trans HD4.out
 have HD2 := Lib.hid hDD
 have hDD2 : D ≠ D2 := by omega
 have HD1' : Hid ((W2.putObj D2 (.deferred none)).heap[D]? = some (.deferred (some []))) := (World.putObj_heap_other hDD2).trans HD1.out
 have HBF : Hid (Below w.heap.size w ((W2.putObj D2 (.deferred none)).putObj D (.deferred none))) := by
  have h1 : Below W.heap.size W W2 := HB5.out.trans (hK.below HB5.out.size (fun k h => by have := HB5.out.size; omega))
  have h2 := bl_call HBW.out h1 (Nat.le_refl _)
  have h3 := HBW.out.size
  exact obl_put (obl_put h2 (by omega) _) (by omega) _
 clear hO hb hb8 hb9 hOs hK hsW hOD hDD hz4
 gi_wp2
 refine ⟨by simp, .inl ⟨_, _, rfl, run_takeDeferred HD2.out, ?_⟩⟩
 refine ⟨by simp, .inl ⟨_, _, rfl, run_takeDeferred HD1'.out, ?_⟩⟩
 exact ⟨.tuple #[.int .i64 (mm - mw), .int .i64 0], by simp [results, Tryz.results36, go_sem], rfl, HBF.out⟩
end Go.Proofs.YtkpbchnggdnmaaaGreat
