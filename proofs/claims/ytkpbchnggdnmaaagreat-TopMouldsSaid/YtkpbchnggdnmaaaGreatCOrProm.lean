/- A part of the proof that TopMoulds always answers true. -/
import Derived.Test.YtkpbchnggdnmaaaGreatCKEnt2
import Derived.Test.YtkpbchnggdnmaaaGreatCOrPlan
import Derived.Test.YtkpbchnggdnmaaaGreatCRegion2
import Derived.Test.YtkpbchnggdnmaaaGreatCTBits
set_option linter.all false
namespace Go.Proofs.YtkpbchnggdnmaaaGreat
open Go.RowKit Go.Shelf Go.Maps
attribute [local go_sem] Oper.semAt_some
theorem infoOrd4' : (Tryz.prog.info? 61).map (fun i => (i.zero, i.size, i.bytes)) = some (some (.agg #[.int .i64 0, .int .i64 0, .int .i64 0, .int .i64 0]), 4, 32) := by kernel_rfl
theorem append_ord {P : Program} (w : World) (t ty : TypeId) {e : TypeId} {i : TypeInfo} {z : Value} (ht : P.underlying t = some (.slice e)) (hi : P.info? e = some i) (hz : i.zero = some z) (hsize : i.size = 4) (hby : i.bytes = 32) {S : Foot} {ad : Addr} {n gn : Nat} {xs : List Ord11} {o : Ord11} (h : Ords11 S w (some ad) n xs) (hn : n ≤ 8)
  (hb : Blk w gn e #[.int .i64 o.part, .int .i64 o.many, .int .i64 o.due, .int .i64 o.worth]) :
  ∃ A' cap' w', (Builtin.append_ #[t, t] ty #[.slice (some ad) n n, .slice (some ⟨gn, 0, none⟩) 1 1]).run P w = .ok (.slice (some ⟨A', 0, none⟩) (n + 1) cap') w' ∧ Ords11 (fun k => w.heap.size ≤ k) w' (some ⟨A', 0, none⟩) (n + 1) (xs ++ [o]) ∧ Below w.heap.size w w' := by
 obtain ⟨olds, hol, holds, _, hrow⟩ := rows_news OrR11.good h
 have hnews : ∀ j u, ([.int .i64 o.part, .int .i64 o.many, .int .i64 o.due, .int .i64 o.worth] : List Value)[j]? = some u → w.cell? ((⟨gn, 0, none⟩ : Addr).add j) = some u := Blk.news hb
 have hr := run_append_grow (P := P) (w := w) t ty e i z ht hi hz ad n n olds (by rw [hol, hsize]) holds ⟨gn, 0, none⟩ 1 1 [.int .i64 o.part, .int .i64 o.many, .int .i64 o.due, .int .i64 o.worth] (by rw [hsize]; rfl) hnews (by omega) (by omega) (growslice_fits (by omega) (by rw [hby]; omega))
 have hlen := h.len
 refine ⟨_, _, _, hr, ⟨by rw [List.length_append, hlen]; rfl, by simp only [maxLen]; omega, fun k x hx => ?_⟩, bl_alloc (Below.refl _ _).drew _ (Nat.le_refl _)⟩
 refine ⟨w.heap.size, 0, [.int .i64 x.part, .int .i64 x.many, .int .i64 x.due, .int .i64 x.worth], rfl, Nat.le_refl _, by simp, rfl, fun j v hv => ?_⟩
 have hB := Blk.new (w.drew) e (olds.toArray ++ ([.int .i64 o.part, .int .i64 o.many, .int .i64 o.due, .int .i64 o.worth] : List Value).toArray ++ Builtin.zeroCells z.cells (grownCap w (n + 1) n e - (n + 1))) (g := w.heap.size) rfl
 have hc := hB.cell (0 + k * 4 + j)
 refine hc.trans ?_
 have hj4 : j < 4 := by have := of_getq' hv; simpa using this
 have key : (olds ++ [.int .i64 o.part, .int .i64 o.many, .int .i64 o.due, .int .i64 o.worth])[k * 4 + j]? = some v := by
  by_cases hk : k < n
  ·rw [List.getElem?_append_left (by rw [hlen]; exact hk)] at hx
   obtain ⟨vs, hR, hvs⟩ := hrow k x hx
   have hR' : vs = [.int .i64 x.part, .int .i64 x.many, .int .i64 x.due, .int .i64 x.worth] := hR
   subst hR'
   have h1 := hvs j v hv
   rw [List.getElem?_append_left (of_getq' h1)]; exact h1
  have hkl : k < n + 1 := by have := of_getq' hx; rw [List.length_append, hlen] at this; exact this
  obtain rfl : k = n := by omega
  rw [List.getElem?_append_right (by rw [hlen]; exact Nat.le_refl _), hlen, Nat.sub_self] at hx
  simp at hx
  subst hx
  rw [List.getElem?_append_right (by rw [hol]; omega), hol, show k * 4 + j - k * 4 = j by omega]
  exact hv
 have hlt := of_getq' key
 rw [Nat.zero_add, Array.getElem?_append_left (by simpa using hlt)]
 simpa using key
def NewEl4 (t : TypeId) (o : Ord11) (v : Value) (w : World) : Prop := ∃ g, v = .slice (some ⟨g, 0, none⟩) 1 1 ∧ Blk w g t #[.int .i64 o.part, .int .i64 o.many, .int .i64 o.due, .int .i64 o.worth]
def NewOrds (B n : Nat) (xs : List Ord11) (v : Value) (w : World) : Prop := ∃ A' c', v = .slice (some ⟨A', 0, none⟩) n c' ∧ Ords11 (fun k => B ≤ k) w (some ⟨A', 0, none⟩) n xs
theorem NewOrds.bl {B n : Nat} {xs : List Ord11} {v : Value} {w w' : World} (h : NewOrds B n xs v w) (hb : Below w.heap.size w w') : NewOrds B n xs v w' := by
 obtain ⟨A', c', h1, h2⟩ := h
 exact ⟨A', c', h1, h2.keep OrR11.good (Keeps.below hb)⟩
theorem eg_prom1 : Enters Tryz.prog 60 := enters_of Tryz.func60 (by kernel_rfl) rfl
set_option maxRecDepth 100000 in
set_option maxHeartbeats 4000000 in
theorem oprom1_any {s : Shop11} {l : List Ord11} {B g kb N gS gL gP gM d : Nat} {part many : Int} {H P Q : Option Addr} {ad : Addr} {hn hc pn pc on oc ln lc : Nat} (hok : Ok11 s) (hlo : ∀ o ∈ l, OrdOk s o) (hln : ln ≤ 8) (ho : OrdOk s ⟨part, many, (d : Int), 0⟩) (hN : N ≤ 900000) (hcap : ln ≤ lc) (w : World) (LK : LookK w B g kb H hn hc P pn pc Q on oc s) (M : MapC s w kb N) (HO : Ords11 (fun k => k ≠ kb ∧ k < B) w (some ad) ln l)
  (c1 : w.cell? ⟨gS, 0, none⟩ = some (.pointer (some ⟨g, 0, none⟩))) (c2 : w.cell? ⟨gL, 0, none⟩ = some (.slice (some ad) ln lc)) (c3 : w.cell? ⟨gP, 0, none⟩ = some (.int .i64 part)) (c4 : w.cell? ⟨gM, 0, none⟩ = some (.int .i64 many)) :
  Calls Tryz.prog 60 #[.int .i64 (d : Int), .pointer (some ⟨gS, 0, none⟩), .pointer (some ⟨gL, 0, none⟩), .pointer (some ⟨gP, 0, none⟩), .pointer (some ⟨gM, 0, none⟩)] w fun e w' => e = .returned (.bool (decide ((lateR s (l ++ [⟨part, many, (d : Int), 0⟩])).2 = 0))) ∧ Kept (fun k => k = kb) w w' ∧ MapC s w' kb (N + 20) := by
 have kk : Hid (∀ V, Below w.heap.size w V → V.cell? ⟨gS, 0, none⟩ = some (.pointer (some ⟨g, 0, none⟩)) ∧ V.cell? ⟨gL, 0, none⟩ = some (.slice (some ad) ln lc) ∧ V.cell? ⟨gP, 0, none⟩ = some (.int .i64 part) ∧ V.cell? ⟨gM, 0, none⟩ = some (.int .i64 many)) := fun V hb => ⟨getc hb c1, getc hb c2, getc hb c3, getc hb c4⟩
 have hlen := HO.len
 have HLO2 : Hid (∀ o ∈ l ++ [⟨part, many, (d : Int), 0⟩], OrdOk s o) := by
  intro o h
  rcases List.mem_append.1 h with h | h
  ·exact hlo o h
  rw [List.mem_singleton.1 h]; exact ho
 have hl9 : (l ++ [⟨part, many, (d : Int), 0⟩] : List Ord11).length ≤ 9 := by rw [List.length_append, hlen]; simp; omega
 obtain ⟨i0, hi0, hz0, hz1, hz2⟩ := info_parts infoOrd4'
 have HOK := Lib.hid hok
 have HLK := Lib.hid LK
 have HM := Lib.hid M
 have HOR := Lib.hid HO
 have hlni : (ln : Int) ≤ lc := by omega
 have hlc : ((ln : Nat) : Int) ≤ ln := Int.le_refl _
 clear c1 c2 c3 c4 hlo hok LK M HO ho hlen
 go_enter Tryz.func60, Tryz.ntmps60
 go_wp2
 refine wp_region_list2 (fun W => Below w.heap.size w W) (fun w w' => Below w.heap.size w w')
  [isV (.pointer (some ⟨g, 0, none⟩)), isV (.slice (some ad) ln lc), isV (.slice (some ad) ln lc), isV (.int .i64 (ln : Int)), isV (.slice (some ad) ln lc), isV (.int .i64 (ln : Int)), isV (.slice (some ad) ln ln), isV (.int .i64 part), isV (.int .i64 many), isV (.int .i64 (d : Int)), isV (.agg #[.int .i64 part, .int .i64 many, .int .i64 (d : Int), .int .i64 0]), NewEl4 61 ⟨part, many, (d : Int), 0⟩, NewOrds w.heap.size (ln + 1) (l ++ [⟨part, many, (d : Int), 0⟩])]
  (by kernel_rfl) (by kernel_rfl) (by kernel_rfl) (by rfl) (by rfl) (by rfl) (by rfl) (by rfl) (Below.refl _ _).drew ?stab ?step ?fin
 case stab => exact (StabL.is (StabL.is (StabL.is (StabL.is (StabL.is (StabL.is (StabL.is (StabL.is (StabL.is (StabL.is (StabL.is (StabL.cons (fun v W V hC hX ⟨g, h1, h2⟩ => ⟨g, h1, h2.bl hX⟩) (StabL.cons (fun v W V hC hX hq => NewOrds.bl hq hX) StabL.nil)))))))))))))
 case step =>
  refine StepsL.is ?_ (StepsL.is ?_ (StepsL.is ?_ (StepsL.is ?_ (StepsL.is ?_ (StepsL.is ?_ (StepsL.is ?_ (StepsL.is ?_ (StepsL.is ?_ (StepsL.is ?_ (StepsL.is ?_ (StepsL.cons ?_ (StepsL.cons ?_ StepsL.nil))))))))))))
  all_goals
   intro vs W K hC hD hU hK
   simp only [fillA, Act.put, List.setIfInBounds_toArray, List.set_cons_zero, List.set_cons_succ, Nat.zero_add, Nat.reduceAdd] at hK ⊢
   simp [waits, Region.binds] at hD
   try simp only [envOf, List.getD_cons_succ, List.getD_cons_zero, isV] at hD
   try simp only [hD] at hK ⊢
  ·obtain ⟨k1, k2, k3, k4⟩ := kk.out W hC
   go_simp; exact hK _ hC (Below.refl _ _)
  ·obtain ⟨k1, k2, k3, k4⟩ := kk.out W hC
   go_simp; exact hK _ hC (Below.refl _ _)
  ·obtain ⟨k1, k2, k3, k4⟩ := kk.out W hC
   go_simp; exact hK _ hC (Below.refl _ _)
  ·go_simp; exact hK _ hC (Below.refl _ _)
  ·obtain ⟨k1, k2, k3, k4⟩ := kk.out W hC
   go_simp; exact hK _ hC (Below.refl _ _)
  ·go_simp; exact hK _ hC (Below.refl _ _)
  ·go_simp; exact hK _ hC (Below.refl _ _)
  ·obtain ⟨k1, k2, k3, k4⟩ := kk.out W hC
   go_simp; exact hK _ hC (Below.refl _ _)
  ·obtain ⟨k1, k2, k3, k4⟩ := kk.out W hC
   go_simp; exact hK _ hC (Below.refl _ _)
  ·go_simp; exact hK _ hC (Below.refl _ _)
  ·go_simp; exact hK _ hC (Below.refl _ _)
  ·go_simp
   exact hK _ _ (bl_alloc hC _ (Nat.le_refl _)) (bl_alloc (Below.refl _ _) _ (Nat.le_refl _)) ⟨_, rfl, Blk.new _ _ _ rfl⟩
  obtain ⟨q6, ⟨g1, q11, hB11⟩⟩ := hD
  simp only [q6, q11] at hK ⊢
  rw [if_pos (by rfl)]
  obtain ⟨A', cap', w', hrun, hO2, hb⟩ := append_ord (P := Tryz.prog) W 29 29 Tryz.underlying29 hi0 hz0 hz1 hz2 (HOR.out.keep OrR11.good (Keeps.below hC)) hln hB11
  refine wp_append_of_run rfl rfl rfl hrun ?_
  exact hK _ _ (bl_call hC hb (Nat.le_refl _)) hb ⟨A', cap', rfl, hO2.mono OrR11.good (fun k h => Nat.le_trans hC.size h)⟩
 intro vs W hC hE hU
 have e0 := hE 0 (by simp)
 have e12 := hE 12 (by simp)
 simp only [envOf, List.getD_cons_succ, List.getD_cons_zero, isV] at e0 e12
 obtain ⟨A', c', q12, hO2⟩ := e12
 simp only [fillA, Act.put, List.setIfInBounds_toArray, List.set_cons_zero, List.set_cons_succ, Nat.zero_add, Nat.reduceAdd, e0, q12]
 have HC := Lib.hid hC
 have hz := hC.size
 have hcall := ocan_any (lc := c') HOK.out HLO2.out hl9 hN W ((HLK.out.bl HC.out).mono (by have := HLK.out.le; omega) (Nat.le_refl _)) (HM.out.bl HC.out) ((hO2.bound OrR11.good).mono OrR11.good (fun k h => ⟨by have := HM.out.lt; have := h.1; omega, h.2⟩))
 obtain ⟨cv, hcv⟩ : ∃ c, decide ((lateR s (l ++ [⟨part, many, (d : Int), 0⟩])).2 = 0) = c := ⟨_, rfl⟩
 rw [hcv] at hcall
 have HCV := Lib.hid hcv
 have HCL := Lib.hid hcall
 clear hcall hcv hE hU e0 q12 hO2 hC
 go_simp
 refine HCL.out.mono ?_
 rintro e W2 ⟨rfl, hk, hm⟩
 have HKF : Hid (Kept (fun k => k = kb) w W2) := (Kept.of_bl HC.out).trans hk
 have HMF := Lib.hid hm
 clear hk hm HCL
 go_simp
 go_wp2
 go_ret
 exact ⟨by rw [HCV.out]; rfl, HKF.out, HMF.out⟩
set_option maxRecDepth 100000 in
set_option maxHeartbeats 4000000 in
theorem oProm_any {s : Shop11} {l : List Ord11} {H P Q T : Option Addr} {hn hc pn pc on oc tn tc dv : Nat} {t : List Int} {part many : Int} (hok : Ok11 s) (hpc : pn ≤ pc) (ht : TakenOk s t) (w : World) (g : ShopO (fun _ => True) w H hn P pn Q on s) (gt : Ints (fun _ => True) w T tn t) (hl : ordsL s t = l) (hlo : ∀ o ∈ l, OrdOk s o) (htn : 0 < tn ∧ tn ≤ 8) (hpart : 0 ≤ part ∧ part < pn) (hmany : 1 ≤ many ∧ many ≤ 50)
  (hdv : leastN (fun d => decide ((lateR s (l ++ [⟨part, many, (d : Int), 0⟩])).2 = 0)) hn = dv) :
  Calls Tryz.prog 34 #[.agg #[.slice H hn hc, .slice P pn pc, .slice Q on oc], .slice T tn tc, .int .i64 part, .int .i64 many] w fun e w' => (e = .returned (if dv = hn then .tuple #[.int .i64 0, .int .i64 9] else .tuple #[.int .i64 (dv : Int), .int .i64 0])) ∧ Below w.heap.size w w' := by
 have hhn := g.hs.len
 have hpnl := g.ps.len
 have hnh := hok.nh
 have hnp := hok.np
 have hhle := g.hs.le
 have hple := g.ps.le
 obtain ⟨pm, hpm⟩ : ∃ q : Nat, (pn : Int) - 1 = q := ⟨pn - 1, by omega⟩
 have w0 : IntKind.i64.wrap ((pn : Int) - 1) = (pm : Int) := by rw [hpm, IntKind.wrap_i64]; omega
 have HOUT1 : Hid (outB 0 (pm : Int) part = false) := outB_f (by omega)
 have HOUT2 : Hid (outB 1 50 many = false) := outB_f (by omega)
 have HORK : Hid (∀ d : Nat, d < hn → OrdOk s ⟨part, many, (d : Int), 0⟩) := fun d hd => ⟨by show 0 ≤ part ∧ part < _; omega, hmany, by show 0 ≤ (d : Int) ∧ (d : Int) < _; omega, by show (0 : Int) ≤ 0 ∧ (0 : Int) ≤ 10000; omega⟩
 obtain ⟨W, hW⟩ : ∃ W, ((w.alloc (.cells #[.slice H hn hc, .slice P pn pc, .slice Q on oc] 31)).alloc (.cells #[.int .i64 part] 3)).alloc (.cells #[.int .i64 many] 3) = W := ⟨_, rfl⟩
 have X : Blk W w.heap.size 31 #[.slice H hn hc, .slice P pn pc, .slice Q on oc] := by rw [← hW]; exact ((Blk.new _ _ _ rfl).alloc _).alloc _
 have XP : Blk W (w.heap.size + 1) 3 #[.int .i64 part] := by rw [← hW]; exact (Blk.new _ _ _ (by simp)).alloc _
 have XM : Blk W (w.heap.size + 1 + 1) 3 #[.int .i64 many] := by rw [← hW]; exact Blk.new _ _ _ (by simp)
 have hBW : Below w.heap.size w W := by rw [← hW]; exact bl_alloc (bl_alloc (bl_alloc (Below.refl _ _) _ (Nat.le_refl _)) _ (Nat.le_refl _)) _ (Nat.le_refl _)
 have HGW : Hid (ShopO (fun _ => True) W H hn P pn Q on s) := g.bl hBW
 have HGT : Hid (Ints (fun _ => True) W T tn t) := gt.keep IntR.good (Keeps.below hBW)
 have HOK := Lib.hid hok
 have HT := Lib.hid ht
 have HLO := Lib.hid hlo
 have HL := Lib.hid hl
 have HDV := Lib.hid hdv
 have x0 := X.cell 0
 have x1 := X.cell 1
 have x2 := X.cell 2
 have hXl := X.lt
 have hMl := XM.lt
 have HX := Lib.hid X
 have HXP := Lib.hid XP
 have HXM := Lib.hid XM
 clear g gt X XP XM hok ht hlo hl hdv hpart hmany hpm
 go_enter Tryz.func34, Tryz.ntmps34
 go_wp2_with fail
 clear x0 x1 x2 hW
 refine (oenterC_any HOK.out hpc HT.out W HGW.out HGT.out).mono ?_
 rintro e V1 ⟨⟨gs, kb, L, lc, rfl, hgs, hkb, HLK, HM, HORD, hcap⟩, b1⟩
 rw [HL.out] at HORD
 obtain ⟨b, off, a0, z0, y0, u0, hLad, _⟩ := Ords11.get HORD htn.1
 obtain ⟨ad, had⟩ : ∃ a : Addr, a = ⟨b, off, none⟩ := ⟨_, rfl⟩
 rw [← had] at hLad
 subst hLad
 clear had
 have HLK := Lib.hid HLK
 have HM := Lib.hid HM
 have HORD := Lib.hid HORD
 have hkl : kb < V1.heap.size := HM.out.lt
 have hz1 := b1.size
 have hzW := hBW.size
 obtain ⟨gc, hgc⟩ : ∃ q, w.heap.size = q := ⟨_, rfl⟩
 obtain ⟨gP, hgP⟩ : ∃ q, gc + 1 = q := ⟨_, rfl⟩
 obtain ⟨gM, hgM⟩ : ∃ q, gP + 1 = q := ⟨_, rfl⟩
 rw [hgc, hgP, hgM]
 rw [hgc] at HX HXP HXM hXl
 rw [hgc, hgP] at hMl
 rw [hgP] at HXP HXM
 rw [hgM] at HXM hMl
 obtain ⟨gS, hgS⟩ : ∃ q, V1.heap.size = q := ⟨_, rfl⟩
 obtain ⟨gL, hgL⟩ : ∃ q, gS + 1 = q := ⟨_, rfl⟩
 obtain ⟨V2, hV2⟩ : ∃ V, (V1.alloc (.cells #[.pointer none] 90)).alloc (.cells #[.slice none 0 0] 29) = V := ⟨_, rfl⟩
 have YS : Blk V2 gS 90 #[.pointer none] := by rw [← hV2]; exact (Blk.new _ _ _ hgS.symm).alloc _
 have YL : Blk V2 gL 29 #[.slice none 0 0] := by rw [← hV2]; exact Blk.new _ _ _ (by rw [World.size_alloc, hgS, hgL])
 have b12 : Below V1.heap.size V1 V2 := by rw [← hV2]; exact bl_alloc (bl_alloc (Below.refl _ _) _ (Nat.le_refl _)) _ (Nat.le_refl _)
 obtain ⟨V3, hV3⟩ : ∃ V, (V2.setCell ⟨gS, 0, none⟩ (.pointer (some ⟨gs, 0, none⟩))).setCell ⟨gL, 0, none⟩ (.slice (some ad) tn lc) = V := ⟨_, rfl⟩
 have hSL : gS ≠ gL := by omega
 have k23 : Kept (fun q => q = gS ∨ q = gL) V2 V3 := by rw [← hV3]; exact (Kept.setCell (M := fun q => q = gS ∨ q = gL) V2 ⟨gS, 0, none⟩ _ (.inl rfl)).trans (Kept.setCell _ ⟨gL, 0, none⟩ _ (.inr rfl))
 have b13 : Below V1.heap.size V1 V3 := b12.trans (k23.below b12.size (fun q h => by omega))
 have ZS : Blk V3 gS 90 #[.pointer (some ⟨gs, 0, none⟩)] := by rw [← hV3]; exact (YS.set_ 0 _).kept (M := fun q => q = gL) (Kept.setCell _ ⟨gL, 0, none⟩ _ rfl) hSL
 have ZL : Blk V3 gL 29 #[.slice (some ad) tn lc] := by rw [← hV3]; exact (YL.kept (M := fun q => q = gS) (Kept.setCell _ ⟨gS, 0, none⟩ _ rfl) (Ne.symm hSL)).set_ 0 _
 have ys0 := YS.cell 0
 have yf0 := YS.frozen 0
 have yl0 := YS.lt
 have ys1 := (YL.kept (M := fun q => q = gS) (Kept.setCell V2 ⟨gS, 0, none⟩ (.pointer (some ⟨gs, 0, none⟩)) rfl) (Ne.symm hSL)).cell 0
 have yf1 := (YL.kept (M := fun q => q = gS) (Kept.setCell V2 ⟨gS, 0, none⟩ (.pointer (some ⟨gs, 0, none⟩)) rfl) (Ne.symm hSL)).frozen 0
 have yl1 := (YL.kept (M := fun q => q = gS) (Kept.setCell V2 ⟨gS, 0, none⟩ (.pointer (some ⟨gs, 0, none⟩)) rfl) (Ne.symm hSL)).lt
 have HB3 : Hid (Below W.heap.size W V3) := bl_call b1 b13 (Nat.le_refl _)
 have HB13 := Lib.hid b13
 have HZS := Lib.hid ZS
 have HZL := Lib.hid ZL
 have q1 := (HX.out.bl HB3.out).cell 1
 have qP := (HXP.out.bl HB3.out).cell 0
 clear b1 b12 b13 k23 ZS ZL YS YL hgc
 have hz3 := HB13.out.size
 go_wp2_with fail
 clear ys0 yf0 yl0 ys1 yf1 yl1 hV2 hV3
 refine (oout1 _ (by exact newc rfl rfl) HOUT1.out).mono ?_
 rintro e V4 ⟨rfl, b4⟩
 have HB4 : Hid (Below V3.heap.size V3 V4) := bl_call (bl_alloc (Below.refl _ _) _ (Nat.le_refl _)) b4 (Nat.le_refl _)
 have qM := ((HXM.out.bl HB3.out).bl HB4.out).cell 0
 clear b4 q1 qP
 go_wp2_with fail
 refine (oout1 _ (by exact newc rfl rfl) HOUT2.out).mono ?_
 rintro e V5 ⟨rfl, b5⟩
 have HB5 : Hid (Below V3.heap.size V3 V5) := bl_call HB4.out (bl_call (bl_alloc (Below.refl _ _) _ (Nat.le_refl _)) b5 (Nat.le_refl _)) (Nat.le_refl _)
 have hz5 := HB5.out.size
 have q0 := ((HX.out.bl HB3.out).bl HB5.out).cell 0
 have HLK5 : Hid (LookK V5 gS gs kb H hn hc P pn pc Q on oc s) := by have := (HLK.out.bl HB13.out).bl HB5.out; rwa [hgS] at this
 have HM5 : Hid (MapC s V5 kb 0) := (HM.out.bl HB13.out).bl HB5.out
 have HO5 : Hid (Ords11 (fun k => k ≠ kb ∧ k < gS) V5 (some ad) tn l) := by
  have := (HORD.out.keep OrR11.good (Keeps.below HB13.out)).keep OrR11.good (Keeps.below HB5.out)
  rwa [hgS] at this
 have hkS : kb < gS := by rw [← hgS]; exact hkl
 have hPs : gP < gS := by omega
 have hkP : kb ≠ gP := by omega
 have hkM : kb ≠ gM := by omega
 have hleast := oleast_any (n := hn) (fun d => decide ((lateR s (l ++ [⟨part, many, (d : Int), 0⟩])).2 = 0)) 60 #[.pointer (some ⟨gS, 0, none⟩), .pointer (some ⟨gL, 0, none⟩), .pointer (some ⟨gP, 0, none⟩), .pointer (some ⟨gM, 0, none⟩)] eg_prom1 (by omega) V5 (fun k V => Kept (fun q => q = kb) V5 V ∧ MapC s V kb (20 * k)) ⟨Kept.refl _ _, HM5.out⟩ (fun d V hd hV => by
  refine (oprom1_any (N := 20 * d) HOK.out HLO.out htn.2 (HORK.out d hd) (by omega) hcap V (HLK5.out.keptM hV.1 (fun q _ h => h)) hV.2 (HO5.out.keep OrR11.good ⟨hV.1.size, fun q hs hlt => hV.1.block q hlt (fun h => hs.1 h)⟩) (((HZS.out.bl HB5.out).kept hV.1 (by omega)).cell 0) (((HZL.out.bl HB5.out).kept hV.1 (by omega)).cell 0) ((((HXP.out.bl HB3.out).bl HB5.out).kept hV.1 (by omega)).cell 0) ((((HXM.out.bl HB3.out).bl HB5.out).kept hV.1 (by omega)).cell 0)).mono ?_
  rintro e V2 ⟨rfl, hk, hm⟩
  exact ⟨rfl, hV.1.trans hk, hm⟩)
 rw [HDV.out] at hleast
 have HLS := Lib.hid hleast
 clear hleast b5 qM
 go_wp2_with fail
 refine HLS.out.mono ?_
 rintro e V6 ⟨rfl, k6, _, hk6, _⟩
 have q6 := (((HX.out.bl HB3.out).bl HB5.out).kept hk6 (by omega)).cell 0
 have HB6 : Hid (Below w.heap.size w V6) := by
  have h1 : Below W.heap.size W V5 := bl_call HB3.out HB5.out (Nat.le_refl _)
  have h2 : Below W.heap.size W V6 := h1.trans (hk6.below h1.size (fun q h => by omega))
  exact bl_call hBW h2 (Nat.le_refl _)
 clear hk6 HLS q0
 by_cases hdn : dv = hn
 ·have hb1 : ((dv : Int) == (hn : Int)) = true := by rw [hdn]; simp
  have HD := Lib.hid hdn
  clear hdn
  go_wp2
  go_ret2
  exact ⟨by first | rfl | (rw [if_pos HD.out]; rfl) | (simp [HD.out]), HB6.out⟩
 have hdi : ¬ (dv : Int) = hn := by omega
 have hb1 : ((dv : Int) == (hn : Int)) = false := by simp [hdi]
 have HD := Lib.hid hdn
 clear hdn hdi
 go_wp2
 go_ret2
 exact ⟨by first | rfl | (rw [if_neg HD.out]; rfl) | (simp [HD.out]), HB6.out⟩
open Go.RowKit Go.Shelf Go.Sort
set_option maxRecDepth 100000 in
set_option maxHeartbeats 1000000 in
theorem olist_any (s : Nat) (w : World) (hs : s < 256) : Calls Tryz.prog 63 #[.int .i64 s] w fun e w' => (∃ A' c', e = .returned (.slice A' (bitL s).length c') ∧ Ints (fun k => w.heap.size ≤ k) w' A' (bitL s).length (bitL s)) ∧ Grw w w' := by
 obtain ⟨i0, hi0, hz0, hz1, hz2⟩ := info_parts infoInt
 obtain ⟨hl8, hlb⟩ := len_bit s hs
 have hlen : Calls Tryz.prog 74 #[.int .u64 s] w fun e w' => e = .returned (.int .i64 (Lib.bitLen s)) ∧ w = w' := Calls.mono (Any.bits_Len Tryz.bitsLen s w (by omega) (by omega)) fun _ _ ⟨he, hw⟩ => ⟨he, hw.symm⟩
 obtain ⟨bl, hbl⟩ : ∃ bl, Lib.bitLen s = bl := ⟨_, rfl⟩
 rw [hbl] at hl8 hlb hlen
 have HLB := Lib.hid hlb
 have HLEN := Lib.hid hlen
 have hb8 := bitL_len s hs
 clear hbl hlen hlb
 go_enter Tryz.func63, Tryz.ntmps63
 go_wp2_with fail
 refine Calls.mono (f := 74) HLEN.out ?_
 rintro e w' ⟨rfl, rfl⟩
 go_wp2_with fail
 go_loopw [2, 3, 7] (fun v _ i' wr => ∃ (k j cap : Nat) (A' : Option Addr) (l1 : List Int), i' = .int .i64 k ∧ k ≤ bl ∧ v = .slice A' j cap ∧ Hid (l1.length = j) ∧ j ≤ k ∧ OwnL IntR 1 (fun _ => False) wr w.heap.size 3 (.slice A' j cap) l1 ∧ Grw w wr ∧ Hid (l1 = bitU s k)) (fun _ _ i' _ => bl - (intOf i').toNat)
 case atStart => exact ⟨0, 0, 0, none, [], rfl, Nat.zero_le _, rfl, rfl, Nat.le_refl _, OwnL.nil _ _ _ _ _ _, Grw.refl _, rfl⟩
 case round =>
  obtain ⟨k, j, cap, A', l1, rfl, hk, rfl, Hj, hjk, hO, hB, Hu⟩ := hrel
  by_cases hlt : k < bl
  ·have hki : (k : Int) < bl := by omega
   have hbt := bit_test s hs k (by omega)
   cases htb : s.testBit k
   ·rw [htb] at hbt
    have HU2 : Hid (l1 = bitU s (k + 1)) := by rw [Hid, bitU_succ, htb, Hu.out]; simp
    clear htb
    go_wp2_with fail
    go_roundw
    case rel => exact ⟨k + 1, j, cap, A', l1, by go_num, by omega, rfl, Hj.out, by omega, hO, hB, HU2⟩
    case measure => simp [intOf]; omega
   rw [htb] at hbt
   have HU2 : Hid (l1 ++ [(k : Int)] = bitU s (k + 1)) := by rw [Hid, bitU_succ, htb, Hu.out]; simp
   clear htb
   go_wp2_with (at_builtin; refine wpList_append_g _ rfl (.tmp 15) (.tmp 17) _ rfl IntR.good w.heap.size 3 i0 _ 8 Tryz.underlying27 hi0 hz0 hz1 hz2 rfl (by omega) _ l1 (k : Int) j Hj.out rfl (hO.alloc IntR.good _) ⟨_, 0, none⟩ 1 [.int .i64 k] rfl rfl (news_new rfl rfl) ?c1 ?c2 ?c3 (fun h => h) ?_)
   case c1 => simp only [maxLen]; omega
   case c2 => omega
   case c3 => have := hB.2.size; simp; omega
   intro A2 cap2 w2 hO2 hg2 _ hd2
   have hB2 : Grw w w2 := ⟨Nat.le_trans hB.1 hd2, bl_grown (bl_alloc hB.2 _ (Nat.le_refl _)) (hO.alloc IntR.good _) hg2 (Nat.le_refl _) (Nat.le_refl _)⟩
   have Hj2 : Hid ((l1 ++ [(k : Int)]).length = j + 1) := by rw [Hid, List.length_append, Hj.out]; rfl
   clear hg2 hd2 hO hB hbt
   go_wp2_with fail
   go_roundw
   case rel => exact ⟨k + 1, j + 1, cap2, _, l1 ++ [(k : Int)], by go_num, by omega, rfl, Hj2, by omega, hO2, hB2, HU2⟩
   case measure => simp [intOf]; omega
  obtain rfl : k = bl := by omega
  have hl : l1 = bitL s := by rw [Hu.out]; exact HLB.out
  have hj : j = (bitL s).length := by rw [← Hj.out, hl]
  have hS := hO.slice (T := fun k => w.heap.size ≤ k) IntR.good rfl (by simp only [maxLen]; omega) (fun _ h => h.elim) (fun _ h _ => h)
  rw [hl, hj] at hS
  have HS := Lib.hid hS
  have HJ := Lib.hid hj
  have HB := Lib.hid hB
  clear hl hj hS hO hB
  go_wp2
  go_ret
  exact ⟨⟨A', cap, by rw [← HJ.out]; rfl, HS.out⟩, HB.out⟩
end Go.Proofs.YtkpbchnggdnmaaaGreat
