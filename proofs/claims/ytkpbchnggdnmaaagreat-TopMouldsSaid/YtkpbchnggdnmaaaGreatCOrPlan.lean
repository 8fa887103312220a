/- A part of the proof that TopMoulds always answers true. -/
import Derived.Test.YtkpbchnggdnmaaaGreatCOrSort
set_option linter.all false
namespace Go.Proofs.YtkpbchnggdnmaaaGreat
open Go.RowKit Go.Shelf Go.Maps
attribute [local go_sem] Oper.semAt_some
set_option maxHeartbeats 4000000 in
set_option maxRecDepth 100000 in
theorem oplan_any {s : Shop11} {l : List Ord11} {B g kb N : Nat} {H P Q L : Option Addr} {hn hc pn pc on oc ln lc : Nat} (hok : Ok11 s) (hlo : ∀ o ∈ l, OrdOk s o) (hl9 : l.length ≤ 9) (hN : N ≤ 900000) (hin : InO (listP s l hn)) (h19 : (listP s l hn).length ≤ 19) (hpt : ∀ x ∈ listP s l hn, 0 ≤ x.1 ∧ x.1 < pn) (w : World) (LK : LookK w B g kb H hn hc P pn pc Q on oc s) (M : MapC s w kb N) (HO : Ords11 (fun k => k ≠ kb ∧ k < B) w L ln l) :
  Calls Tryz.prog 57 #[.pointer (some ⟨g, 0, none⟩), .slice L ln lc] w fun e w' => (∃ A' n' c', e = .returned (.slice A' n' c') ∧ Pairs (fun k => w.heap.size ≤ k) w' A' n' (planO s (listP s l hn))) ∧ Kept (fun k => k = kb) w w' ∧ MapC s w' kb (N + 20) := by
 obtain ⟨U0, uc0, _, hS0, _⟩ := LK.st
 have hhn := hS0.hs.len
 have hpn := hS0.ps.len
 have hnp := hok.np
 have hpn3 : pn ≤ 3 := by omega
 have HHN := Lib.hid hhn
 have HPN := Lib.hid hpn
 have hple := hS0.ps.le
 obtain ⟨iC, hiC, hzC0, hzC1, hzC2⟩ := info_parts infoCasting
 obtain ⟨gb, hgb⟩ : ∃ q, w.heap.size = q := ⟨_, rfl⟩
 obtain ⟨W1, hW⟩ : ∃ W, ((w.alloc (.cells #[.pointer (some ⟨g, 0, none⟩)] 90)).alloc (.cells #[.slice none 0 0] 164)).alloc (.cells #[.int .i64 0, .int .i64 0, .int .i64 0] 94) = W := ⟨_, rfl⟩
 have hsW1 : W1.heap.size = gb + 3 := by rw [← hW, ← hgb]; simp
 have Y0 : Blk W1 gb 90 #[.pointer (some ⟨g, 0, none⟩)] := by rw [← hW]; exact ((Blk.new _ _ _ hgb.symm).alloc _).alloc _
 have Y4 : Blk W1 (gb + 1) 164 #[.slice none 0 0] := by rw [← hW]; exact (Blk.new _ _ _ (by simp [hgb])).alloc _
 have Y5 : Blk W1 (gb + 1 + 1) 94 #[.int .i64 0, .int .i64 0, .int .i64 0] := by rw [← hW]; exact Blk.new _ _ _ (by simp [hgb])
 have x0 := Y0.cell 0
 have hK1 : Kept (fun _ => False) w W1 := by rw [← hW]; exact ((Kept.alloc _ _ _).trans (Kept.alloc _ _ _)).trans (Kept.alloc _ _ _)
 have HOK := Lib.hid hok
 have HLO := Lib.hid hlo
 have HLK := Lib.hid LK
 have HM := Lib.hid M
 have HOO := Lib.hid HO
 have HIN := Lib.hid hin
 have H19 := Lib.hid h19
 have HPT := Lib.hid hpt
 have hkb : kb < gb := by rw [← hgb]; exact M.lt
 have hBg : B ≤ gb := by rw [← hgb]; exact LK.le
 have HY0 := Lib.hid Y0
 have HY4 := Lib.hid Y4
 have HY5 := Lib.hid Y5
 have HK1 := Lib.hid hK1
 clear hhn hpn hok hlo LK M HO Y0 Y4 Y5 hK1 hS0 hin h19 hpt
 refine (callsIn_wide (n := 1)).1 ?_
 refine callsIn_of_wp_marks Tryz.func57 rfl trivial ?_ rfl
 simp only [Tryz.ntmps57, List.size_toArray, List.length_cons, List.length_nil, Nat.reduceAdd, Nat.reduceSub, Array.replicate_succ, Array.replicate_zero, List.push_toArray, List.append_toArray, List.nil_append, List.cons_append]
 gi_wp2_with fail
 refine ⟨trivial, ?_⟩
 clear x0 hW
 refine (callsIn_wide.2 (odays_any W1)).mono ?_
 rintro e w' ⟨rfl, hw'⟩
 obtain ⟨V3, hV3⟩ : ∃ V, V = w' := ⟨_, rfl⟩
 rw [← hV3] at hw' ⊢
 clear hV3
 have b13 : Below W1.heap.size W1 V3 := by rw [hw']; exact bl_alloc (bl_alloc (Below.refl _ _) _ (Nat.le_refl _)) _ (Nat.le_refl _)
 have S3 : Blk V3 (gb + 3) 90 #[.pointer (some ⟨g, 0, none⟩)] := by rw [hw', ← hsW1]; exact (Blk.new _ _ _ rfl).alloc _
 have L3 : Blk V3 (gb + 3 + 1) 29 #[.slice L ln lc] := by rw [hw', ← hsW1]; exact Blk.new _ _ _ (by simp)
 have hs3 : V3.heap.size = gb + 5 := by rw [hw']; simp [hsW1]
 have HS3e := Lib.hid hs3
 rw [hsW1]
 clear hw'
 obtain ⟨g5, hg5⟩ : ∃ q, gb + 1 = q := ⟨_, rfl⟩
 obtain ⟨g6, hg6⟩ : ∃ q, g5 + 1 = q := ⟨_, rfl⟩
 rw [hg5, hg6]
 rw [hg5] at HY4
 rw [hg5, hg6] at HY5
 gi_wp2_with fail
 have hK3 : Kept (fun _ => False) w V3 := HK1.out.trans (Kept.of_bl b13)
 have K3 : LookK V3 B g kb H hn hc P pn pc Q on oc s := HLK.out.keptM hK3 (fun _ _ h => h.elim)
 have M3 : MapC s V3 kb N := HM.out.at (hK3.block kb HM.out.lt (fun h => h))
 have Y0 : Blk V3 gb 90 #[.pointer (some ⟨g, 0, none⟩)] := HY0.out.bl b13
 have Y4 : Blk V3 g5 164 #[.slice none 0 0] := HY4.out.bl b13
 have Y5 : Blk V3 g6 94 #[.int .i64 0, .int .i64 0, .int .i64 0] := HY5.out.bl b13
 have O3 : Ords11 (fun k => k ≠ kb ∧ k < B) V3 L ln l := HOO.out.keep OrR11.good ⟨hK3.size, fun k hs hlt => hK3.block k hlt (fun h => h)⟩
 have hgB := K3.lt
 have HK3 := Lib.hid K3
 have HO3 := Lib.hid O3
 have HS3 := Lib.hid S3
 have HL3 := Lib.hid L3
 have HKW := Lib.hid hK3
 have HZ0 := Lib.hid Y0
 clear b13 hK3 K3 O3 S3 L3 Y0
 have hInv : ∀ A, Kept (fun k => (k = g5 ∨ k = g6) ∨ k = kb ∨ V3.heap.size ≤ k) V3 A → DaysInv (gb + 3) (gb + 3 + 1) B g kb H hn hc P pn pc Q on oc s L ln lc l A := fun A hK =>
  ⟨HS3.out.kept hK (by omega), HL3.out.kept hK (by omega), HK3.out.keptM hK (fun k hk h => by omega), HO3.out.keep OrR11.good ⟨hK.size, fun k hs hlt => hK.block k hlt (fun h => by have := hs.1; have := hs.2; omega)⟩⟩
 have HINV := Lib.hid hInv
 clear hInv
 have HFIN : Hid (∀ A, Kept (fun k => (k = g5 ∨ k = g6) ∨ k = kb ∨ V3.heap.size ≤ k) V3 A → Kept (fun k => k = kb) w A) := fun A hK => by
  have hz := HKW.out.size
  refine HKW.out.any.seq hK (fun k hk h => ?_)
  rw [hgb] at hk
  omega
 have hJ0 : PlanJ s l V3.heap.size g5 g6 0 (fun k => k = g5 ∨ k = g6) V3 := ⟨fun k => k = g5, ⟨⟨none, 0, Y4, OwnL.nil _ _ _ _ _ _, fun k => by simp [Value.ownBlock], by simp [Value.ownBlock]⟩⟩, fun k => Iff.rfl, by omega, Y5⟩
 refine rangeFunc_outerM (m := 1) (gf := 65) (lb := #[.pointer (some ⟨gb + 3, 0, none⟩), .pointer (some ⟨gb + 3 + 1, 0, none⟩)]) rfl eg_days1 (days_seq (kb := kb) HOK.out HLO.out hl9 (N := N) hN) (fun _ => rfl) (fun k => k = g5 ∨ k = g6) (PlanJ s l V3.heap.size g5 g6) (fun _ _ _ => False) (fun k h => by omega) (fun k h h2 => by omega) (fun k h => by omega) (fun A B hs hlt hK => hs.at (hK.block kb hs.lt (fun h => h rfl))) (fun A B hs hlt hK => hs.at (hK.block kb hs.lt (fun h => h rfl))) M3 (fun A hK => HINV.out A hK) ?stay (fun cd O A B h => h.elim) hJ0 ?round ?done (fun cd O A D h => h.elim)
 case stay =>
  rintro i O A B ⟨O1, hc, hO, hg, hb⟩ hlt hK
  exact ⟨O1, hc.stay PairR.good (hK.mono fun k _ h h1 => h ((hO k).2 (.inl h1))), hO, hg, hb.kept hK (fun h => h ((hO _).2 (.inr rfl)))⟩
 case round =>
  intro lp i x O A1 hx hj hlt hsub hK hsA hnl hlA hWl
  obtain ⟨O1, hcol, hO, hg6, j6⟩ := hj
  have hil := of_getq' hx
  rw [days_len] at hil
  rw [days_get s l hil] at hx
  injection hx with hx
  subst hx
  have hin : i < hn := by rw [HHN.out] at hil; exact hil
  have HOF := Lib.hid hO
  have HK := Lib.hid hK
  have HCOL := Lib.hid hcol
  have HG6 := Lib.hid hg6
  obtain ⟨D, hD⟩ : ∃ d, castP s (dueK l i) = d := ⟨_, rfl⟩
  obtain ⟨E, hE⟩ : ∃ d, lastD s l i = d := ⟨_, rfl⟩
  have hLS : listP s l (i + 1) = listP s l i ++ castsD i E D pn := by rw [listP, hD, hE, HPN.out]
  have HLS := Lib.hid hLS
  have HLN : Hid ((listP s l (i + 1)).length ≤ 19) := Nat.le_trans (listP_mono s l (show i + 1 ≤ hn by omega)) H19.out
  have hcb := cast_bd HOK.out HLO.out hl9 i
  have heb : ∀ k, 0 ≤ E.getD k 0 ∧ E.getD k 0 ≤ 460 := by
   intro k
   rw [← hE]
   cases i with
   | zero =>
    show 0 ≤ ([0, 0, 0] : List Int).getD k 0 ∧ ([0, 0, 0] : List Int).getD k 0 ≤ 460
    rcases k with _ | _ | _ | k <;> simp
   | succ i => exact cast_bd HOK.out HLO.out hl9 i k
  rw [hD] at hcb
  rw [hE] at j6
  have hL1 : lastD s l (i + 1) = D := by rw [lastD, hD]
  have HL1 := Lib.hid hL1
  have HL0 := Lib.hid hE
  rw [hD]
  have HCB := Lib.hid hcb
  have HEB := Lib.hid heb
  obtain ⟨c0, hc0⟩ : ∃ c, D.getD 0 0 = c := ⟨_, rfl⟩
  obtain ⟨c1, hc1⟩ : ∃ c, D.getD 1 0 = c := ⟨_, rfl⟩
  obtain ⟨c2, hc2⟩ : ∃ c, D.getD 2 0 = c := ⟨_, rfl⟩
  obtain ⟨e0, he0⟩ : ∃ c, E.getD 0 0 = c := ⟨_, rfl⟩
  obtain ⟨e1, he1⟩ : ∃ c, E.getD 1 0 = c := ⟨_, rfl⟩
  obtain ⟨e2, he2⟩ : ∃ c, E.getD 2 0 = c := ⟨_, rfl⟩
  rw [he0, he1, he2] at j6
  have hEn : encD (i, D) = #[.int .i64 (i : Int), .agg #[.int .i64 c0, .int .i64 c1, .int .i64 c2]] := by rw [← hc0, ← hc1, ← hc2]; rfl
  have HC3 : Hid (∀ k, k < 3 → #[Value.int .i64 c0, .int .i64 c1, .int .i64 c2][k]? = some (.int .i64 (D.getD k 0)) ∧ #[Value.int .i64 e0, .int .i64 e1, .int .i64 e2][k]? = some (.int .i64 (E.getD k 0))) := by
   intro k hk
   rcases (show k = 0 ∨ k = 1 ∨ k = 2 by omega) with rfl | rfl | rfl
   ·rw [hc0, he0]; exact ⟨rfl, rfl⟩
   ·rw [hc1, he1]; exact ⟨rfl, rfl⟩
   rw [hc2, he2]; exact ⟨rfl, rfl⟩
  have HD6 : Hid (#[Value.int .i64 ((lastD s l (i + 1)).getD 0 0), .int .i64 ((lastD s l (i + 1)).getD 1 0), .int .i64 ((lastD s l (i + 1)).getD 2 0)] = #[.int .i64 c0, .int .i64 c1, .int .i64 c2]) := by rw [Hid, hL1, hc0, hc1, hc2]
  have HSM : Hid (c0 = e0 ∧ c1 = e1 ∧ c2 = e2 → listP s l (i + 1) = listP s l i) := by
   rintro ⟨q0, q1, q2⟩
   rw [hLS, castsD_same, List.append_nil]
   intro k hk
   have := HPN.out
   rcases (show k = 0 ∨ k = 1 ∨ k = 2 by omega) with rfl | rfl | rfl
   ·rw [hc0, he0, q0]
   ·rw [hc1, he1, q1]
   rw [hc2, he2, q2]
  clear hO hK hD hE hcb heb hc0 hc1 hc2 he0 he1 he2 hcol hg6 hLS hL1
  rw [hEn, ofold2]
  simp only [List.setIfInBounds_toArray]
  try simp only [List.set_cons_zero, List.set_cons_succ]
  clear hs3
  gi_wp2
  have hs3 := HS3e.out
  refine ⟨Kept.alloc _ _ _, fun A2 hK2 hs2' r2 hr2 => ?_⟩
  clear hr2
  try simp only [World.size_alloc] at hs2'
  have hs2a : A2.heap.size = A1.heap.size + 1 := by omega
  have kA : Kept (fun k => k = lp) A1 A2 := (Kept.alloc (fun k => k = lp) A1 (.cells #[.int .i64 c0, .int .i64 c1, .int .i64 c2] 94)).trans hK2
  have hC2 : Blk A2 A1.heap.size 94 #[.int .i64 c0, .int .i64 c1, .int .i64 c2] := (hK2.block A1.heap.size (by simp) (by omega)).trans (Blk.new _ _ _ rfl)
  have hK3 : Kept (fun k => (k = g5 ∨ k = g6) ∨ k = kb ∨ V3.heap.size ≤ k) V3 A2 := HK.out.seq kA (fun k _ h => .inr (.inr (h ▸ hWl)))
  have b6 : Blk A2 g6 94 #[.int .i64 e0, .int .i64 e1, .int .i64 e2] := j6.kept kA (fun e => hnl (e ▸ (HOF.out _).2 (.inr rfl)))
  have b0 : Blk A2 gb 90 #[.pointer (some ⟨g, 0, none⟩)] := HZ0.out.kept hK3 (by omega)
  have hcol2 : ColSt PairR 2 A2 g5 164 V3.heap.size 166 (listP s l i) O1 := HCOL.out.stay PairR.good (kA.mono fun k _ h h1 => hnl ((HOF.out _).2 (.inl (h ▸ h1))))
  have hLK2 := (HINV.out A2 hK3).2.2.1
  have hO1s : ∀ k, O1 k → k < A1.heap.size ∧ gb < k := fun k h => by
   have h1 := hlt k ((HOF.out _).2 (.inl h))
   have h2 := hsub k ((HOF.out _).2 (.inl h))
   omega
  have HO1S := Lib.hid hO1s
  have HCOL2 := Lib.hid hcol2
  obtain ⟨gC, hgC⟩ : ∃ q, A1.heap.size = q := ⟨_, rfl⟩
  rw [hgC] at hC2 hs2a HO1S
  rw [hgC]
  obtain ⟨U, uc, XG, SG, IG⟩ := hLK2.st
  have HL2 := Lib.hid hLK2
  have HC2 := Lib.hid hC2
  have H6 := Lib.hid b6
  have H0 := Lib.hid b0
  have HXG := Lib.hid XG
  have HGC := Lib.hid hgC
  have x0 := b0.cell 0
  have y1 := XG.cell 1
  have p0 := hC2.cell 0
  have p1 := hC2.cell 1
  have p2 := hC2.cell 2
  have r0 := b6.cell 0
  have r1 := b6.cell 1
  have r2 := b6.cell 2
  have hA1s : ∀ k, O k → k < A1.heap.size := hlt
  have hgl : g < A2.heap.size := XG.lt
  have hgk : g < gb := by omega
  clear hK2 hK3 kA j6 b6 b0 hC2 XG SG IG hLK2 hs2' hlt hgC hcol2 hO1s hs3
  by_cases heq : c0 = e0 ∧ c1 = e1 ∧ c2 = e2
  ·have HSAME := Lib.hid (HSM.out heq)
   obtain ⟨q0, q1, q2⟩ := heq
   subst q0 q1 q2
   have heqv : ∀ W, (Op.equalIn 10000 94 (.agg #[.int .i64 c0, .int .i64 c1, .int .i64 c2]) (.agg #[.int .i64 c0, .int .i64 c1, .int .i64 c2])).run Tryz.prog W = .ok true W := fun W => by rw [eq_pieces]; simp
   gi_wp2_with fail
   refine ⟨Kept.refl _ _, O, fun q h => .inl h, O1, by rw [HSAME.out]; exact HCOL2.out, HOF.out, HG6.out, by rw [HD6.out]; exact H6.out⟩
  have heqv : ∀ W, (Op.equalIn 10000 94 (.agg #[.int .i64 c0, .int .i64 c1, .int .i64 c2]) (.agg #[.int .i64 e0, .int .i64 e1, .int .i64 e2])).run Tryz.prog W = .ok false W := fun W => by rw [eq_pieces, decide_eq_false heq]
  clear heq
  gi_wp2_with fail
  clear x0 y1 p0 p1 p2 r0 r1 r2 heqv
  gi_loopw [9, 27] (fun _ i' wr => ∃ (k : Nat) (O2 : Foot), k ≤ pn ∧ i' = .int .i64 k ∧ Hid (Kept O1 A2 wr) ∧ Hid (∀ q, O2 q → O1 q ∨ (A2.heap.size ≤ q ∧ q < wr.heap.size)) ∧ Hid (ColSt PairR 2 wr g5 164 V3.heap.size 166 (listP s l i ++ castsD i E D k) O2)) (fun _ i' _ => pn - (intOf i').toNat)
  case atStart => exact ⟨0, O1, Nat.zero_le _, rfl, Kept.refl _ _, fun q h => .inl h, by rw [show castsD i E D 0 = [] from rfl, List.append_nil]; exact HCOL2.out⟩
  obtain ⟨wo, hwo⟩ : ∃ V, V = wr := ⟨_, rfl⟩
  rw [← hwo] at hrel ⊢
  clear hwo
  obtain ⟨k, O2, hk, rfl, HKW2, HO2, HCO⟩ := hrel
  by_cases hlt : k < pn
  ·have hki : (k : Int) < pn := by omega
   have hk3 : k < 3 := by omega
   have hk3i : (k : Int) < 3 := by omega
   obtain ⟨v, hv⟩ : ∃ v, D.getD k 0 = v := ⟨_, rfl⟩
   obtain ⟨u, hu⟩ : ∃ v, E.getD k 0 = v := ⟨_, rfl⟩
   have hvb := HCB.out k
   have hub := HEB.out k
   rw [hv] at hvb
   rw [hu] at hub
   obtain ⟨cb, hcb⟩ : ∃ d, v - u = d := ⟨_, rfl⟩
   have w1 : IntKind.i64.wrap (v - u) = cb := by rw [hcb, IntKind.wrap_i64]; omega
   obtain ⟨NN, hNN⟩ : ∃ n, cb.toNat = n := ⟨_, rfl⟩
   have HSC : Hid (castsD i E D (k + 1) = castsD i E D k ++ List.replicate NN ((k : Int), (i : Int))) := by rw [Hid, castsD_succ, hv, hu, hcb, hNN]
   have hNL : (listP s l i ++ castsD i E D k).length + NN ≤ 19 := by
    have h1 := HLN.out
    rw [HLS.out, List.length_append] at h1
    have h2 := castsD_mono i E D (show k + 1 ≤ pn by omega)
    rw [HSC.out, List.length_append, List.length_replicate] at h2
    rw [List.length_append]
    omega
   have hgC1 : ¬ O1 gC := fun h => by have := (HO1S.out gC h).1; omega
   have hcv : wo.cell? ⟨gC, k, none⟩ = some (.int .i64 v) := by
    rw [(HC2.out.kept HKW2.out hgC1).cell k, (HC3.out k hk3).1, hv]
   have hcu : wo.cell? ⟨g6, k, none⟩ = some (.int .i64 u) := by
    rw [(H6.out.kept HKW2.out HG6.out).cell k, (HC3.out k hk3).2, hu]
   have kk : Hid (∀ U, Below wo.heap.size wo U → U.cell? ⟨gC, k, none⟩ = some (.int .i64 v) ∧ U.cell? ⟨g6, k, none⟩ = some (.int .i64 u)) := fun U hb => ⟨getc hb hcv, getc hb hcu⟩
   have HNN : Hid (∀ j : Nat, (j : Int) < cb ↔ j < NN) := fun j => by omega
   clear hv hu hvb hub hcb hNN hcv hcu hgC1
   gi_wp2_with fail
   refine wpIn_region_inva (F := Fence.wide.inRound lp) (r := some lp) rfl (InvV wo (fun i => [.int .i64 (k : Int), .pointer (some ⟨gC, k, none⟩), .int .i64 v, .int .i64 (k : Int), .pointer (some ⟨g6, k, none⟩), .int .i64 u, .int .i64 cb, .int .i64 0].getD i undef)) (by kernel_rfl) (by kernel_rfl) (by kernel_rfl) InvV.zero ?step ?fin
   case step =>
    refine StepsI.cons ?_ (StepsI.cons ?_ (StepsI.cons ?_ (StepsI.cons ?_ (StepsI.cons ?_ (StepsI.cons ?_ (StepsI.cons ?_ (StepsI.cons ?_ StepsI.nil)))))))
    all_goals
     refine StepI.of ?_
     intro ls vs W9 K hI hl hw hU hK
     simp only [fillA, Act.put, List.setIfInBounds_toArray, List.set_cons_zero, List.set_cons_succ, Nat.zero_add, Nat.reduceAdd] at hK ⊢
     have hC := hI.1
    ·
     go_simp
     exact hK _ _ (hI.step (Below.refl _ _) rfl)
    ·
     have q0 : vs 0 = .int .i64 (k : Int) := hI.2 0 (hw 0 (by simp [waits, Region.binds]))
     simp only [q0] at hK ⊢
     go_simp
     exact hK _ _ (hI.step (Below.refl _ _) rfl)
    ·
     have q1 : vs 1 = .pointer (some ⟨gC, k, none⟩) := hI.2 1 (hw 1 (by simp [waits, Region.binds]))
     simp only [q1] at hK ⊢
     obtain ⟨k0, k1⟩ := kk.out W9 hC
     go_simp
     exact hK _ _ (hI.step (Below.refl _ _) rfl)
    ·
     go_simp
     exact hK _ _ (hI.step (Below.refl _ _) rfl)
    ·
     have q3 : vs 3 = .int .i64 (k : Int) := hI.2 3 (hw 3 (by simp [waits, Region.binds]))
     simp only [q3] at hK ⊢
     go_simp
     exact hK _ _ (hI.step (Below.refl _ _) rfl)
    ·
     have q4 : vs 4 = .pointer (some ⟨g6, k, none⟩) := hI.2 4 (hw 4 (by simp [waits, Region.binds]))
     simp only [q4] at hK ⊢
     obtain ⟨k0, k1⟩ := kk.out W9 hC
     go_simp
     exact hK _ _ (hI.step (Below.refl _ _) rfl)
    ·
     have q2 : vs 2 = .int .i64 v := hI.2 2 (hw 2 (by simp [waits, Region.binds]))
     have q5 : vs 5 = .int .i64 u := hI.2 5 (hw 5 (by simp [waits, Region.binds]))
     simp only [q2, q5] at hK ⊢
     go_simp
     exact hK _ _ (hI.step (Below.refl _ _) rfl)
    go_simp
    exact hK _ _ (hI.step (Below.refl _ _) rfl)
   case fin =>
    intro ls vs W9 hI hl
    have hC := hI.1
    have q0 : vs 0 = .int .i64 (k : Int) := hI.2 0 (hl 0 (by decide))
    have q1 : vs 1 = .pointer (some ⟨gC, k, none⟩) := hI.2 1 (hl 1 (by decide))
    have q2 : vs 2 = .int .i64 v := hI.2 2 (hl 2 (by decide))
    have q3 : vs 3 = .int .i64 (k : Int) := hI.2 3 (hl 3 (by decide))
    have q4 : vs 4 = .pointer (some ⟨g6, k, none⟩) := hI.2 4 (hl 4 (by decide))
    have q5 : vs 5 = .int .i64 u := hI.2 5 (hl 5 (by decide))
    have q6 : vs 6 = .int .i64 cb := hI.2 6 (hl 6 (by decide))
    have q7 : vs 7 = .int .i64 0 := hI.2 7 (hl 7 (by decide))
    simp only [fillA, Act.put, List.setIfInBounds_toArray, List.set_cons_zero, List.set_cons_succ, Nat.zero_add, Nat.reduceAdd, q0, q1, q2, q3, q4, q5, q6, q7]
    clear q0 q1 q2 q3 q4 q5 q6 q7 hI hl
    have HW9 := Lib.hid hC
    clear hC
    have HKW9 : Hid (Kept O1 A2 W9) := HKW2.out.trans (Kept.of_bl HW9.out)
    have hz9 := HW9.out.size
    have hzo := HKW2.out.size
    have HCO9 : Hid (ColSt PairR 2 W9 g5 164 V3.heap.size 166 (listP s l i ++ castsD i E D k) O2) := HCO.out.stay PairR.good (Kept.of_bl HW9.out)
    have HO9 : Hid (∀ q, O2 q → O1 q ∨ (A2.heap.size ≤ q ∧ q < W9.heap.size)) := fun q hq => (HO2.out q hq).imp id (fun h => ⟨h.1, by omega⟩)
    go_simp
    gi_wp2_with fail
    gi_loopw [37] (fun i' wr => ∃ (j : Nat) (O3 : Foot), j ≤ NN ∧ i' = .int .i64 j ∧ Hid (Kept O1 A2 wr) ∧ Hid (∀ q, O3 q → O1 q ∨ (A2.heap.size ≤ q ∧ q < wr.heap.size)) ∧ Hid (ColSt PairR 2 wr g5 164 V3.heap.size 166 (listP s l i ++ castsD i E D k ++ List.replicate j ((k : Int), (i : Int))) O3)) (fun i' _ => NN - (intOf i').toNat)
    case atStart => exact ⟨0, O2, Nat.zero_le _, rfl, HKW9.out, HO9.out, by rw [List.replicate_zero, List.append_nil]; exact HCO9.out⟩
    obtain ⟨wi, hwi⟩ : ∃ V, V = wr := ⟨_, rfl⟩
    rw [← hwi] at hrel ⊢
    clear hwi
    obtain ⟨j, O3, hj, rfl, HKi, HOi, HCi⟩ := hrel
    by_cases hjt : j < NN
    ·have hji : (j : Int) < cb := (HNN.out j).2 hjt
     obtain ⟨xs, hxs⟩ : ∃ x, listP s l i ++ castsD i E D k ++ List.replicate j ((k : Int), (i : Int)) = x := ⟨_, rfl⟩
     rw [hxs] at HCi
     have HXS := Lib.hid hxs
     obtain ⟨Ad, cap, hB, hO, hOO, hne⟩ := HCi.out.st
     obtain ⟨kl, hkl⟩ : ∃ q, xs.length = q := ⟨_, rfl⟩
     rw [hkl] at hB hO hOO hne
     have hkl19 : kl + 1 ≤ 19 := by rw [← hkl, ← hxs, List.length_append, List.length_replicate]; omega
     have HKL := Lib.hid hkl
     have HBi := Lib.hid hB
     have HOw := Lib.hid hO
     have HOO := Lib.hid hOO
     have HNE := Lib.hid hne
     have z5 := hB.cell 0
     have hbs := HS3e.out
     have hV3l : V3.heap.size ≤ wi.heap.size := by have := HKi.out.size; have := HGC.out; omega
     clear hkl hB hO hOO hne hbs hxs
     gi_wp2_with (gi_at_builtin; refine wpListIn_append_n _ rfl (.tmp 39) (.tmp 43) _ rfl PairR.good V3.heap.size 166 iC _ 16 Tryz.underlying164 hiC hzC0 hzC1 hzC2 rfl (by omega) _ xs ((k : Int), (i : Int)) kl HKL.out rfl (HOw.out.alloc PairR.good _) ⟨_, 0, none⟩ 1 [.int .i64 (k : Int), .int .i64 (i : Int)] rfl rfl (news_new rfl rfl) ?c1 ?c2 ?c3 (fun h => h) ?_)
     case c1 => simp only [maxLen]; omega
     case c2 => omega
     case c3 => simp; omega
     intro A3 cap3 w3 hO3 hg3 hat3
     have hg5l : g5 < V3.heap.size := by have := HS3e.out; omega
     obtain ⟨O4, hC4, hO4, hK4⟩ := ColSt.grow PairR.good hg5l HBi.out HKL.out HOw.out HOO.out HNE.out _ hO3 hg3 hat3
     have hBg : Blk w3 g5 164 #[.slice Ad kl cap] := (HBi.out.alloc _).grown hg3 (Ne.symm HNE.out)
     have hgc := hBg.cell 0
     have hgf := hBg.frozen 0
     have hgl3 := hBg.lt
     have HC4 : Hid (ColSt PairR 2 (w3.setCell ⟨g5, 0, none⟩ (.slice (some ⟨A3, 0, none⟩) (kl + 1) cap3)) g5 164 V3.heap.size 166 (listP s l i ++ castsD i E D k ++ List.replicate (j + 1) ((k : Int), (i : Int))) O4) := by
      rw [Hid, List.replicate_succ', ← List.append_assoc, HXS.out]; exact hC4
     have hO3s : ∀ q, q < A2.heap.size → O3 q → O1 q := fun q hq h => (HOi.out q h).elim id (fun h => by omega)
     have HK4 : Hid (Kept O1 A2 (w3.setCell ⟨g5, 0, none⟩ (.slice (some ⟨A3, 0, none⟩) (kl + 1) cap3))) := HKi.out.seq hK4 hO3s
     have hzi := HKi.out.size
     have hz4 := hK4.size
     have HO4 : Hid (∀ q, O4 q → O1 q ∨ (A2.heap.size ≤ q ∧ q < (w3.setCell ⟨g5, 0, none⟩ (.slice (some ⟨A3, 0, none⟩) (kl + 1) cap3)).heap.size)) := fun q hq => (hO4 q hq).elim (fun h => (HOi.out q h).imp id (fun h => ⟨h.1, by omega⟩)) (fun h => .inr ⟨by omega, h.2⟩)
     clear hC4 hO4 hK4 hO3 hg3 hat3 hBg z5 hO3s hzi hz4
     gi_wp2_with fail
     exact ⟨⟨j + 1, O4, by omega, by go_num, HK4, HO4, HC4⟩, by simp [intOf]; omega⟩
    obtain rfl : j = NN := by omega
    have hji : ¬ (j : Int) < cb := fun h => hjt ((HNN.out j).1 h)
    gi_wp2_with fail
    exact ⟨⟨k + 1, O3, by omega, by go_num, HKi, HOi, by rw [HSC.out, ← List.append_assoc]; exact HCi⟩, by simp [intOf]; omega⟩
  obtain rfl : k = pn := by omega
  have z0 : wo.cell? ⟨gC, 0, none⟩ = some (.int .i64 c0) := (HC2.out.kept HKW2.out (fun h => by have := (HO1S.out gC h).1; omega)).cell 0
  have z1 : wo.cell? ⟨gC, 1, none⟩ = some (.int .i64 c1) := (HC2.out.kept HKW2.out (fun h => by have := (HO1S.out gC h).1; omega)).cell 1
  have z2 : wo.cell? ⟨gC, 2, none⟩ = some (.int .i64 c2) := (HC2.out.kept HKW2.out (fun h => by have := (HO1S.out gC h).1; omega)).cell 2
  have R6 := H6.out.kept HKW2.out HG6.out
  have r0 := R6.cell 0
  have r1 := R6.cell 1
  have r2 := R6.cell 2
  have f0 := R6.frozen 0
  have f1 := R6.frozen 1
  have f2 := R6.frozen 2
  have hl6 := R6.lt
  obtain ⟨VF, hVF⟩ : ∃ V, ((wo.setCell ⟨g6, 0, none⟩ (.int .i64 c0)).setCell ⟨g6, 1, none⟩ (.int .i64 c1)).setCell ⟨g6, 2, none⟩ (.int .i64 c2) = V := ⟨_, rfl⟩
  have HXF : Hid (Blk VF g6 94 #[.int .i64 c0, .int .i64 c1, .int .i64 c2]) := by rw [Hid, ← hVF]; exact ((R6.set_ 0 _).set_ 1 _).set_ 2 _
  have hKs : Kept (fun q => q = g6) wo VF := by
   rw [← hVF]
   exact ((Kept.setCell (M := fun q => q = g6) wo ⟨g6, 0, none⟩ (.int .i64 c0) rfl).trans (Kept.setCell _ ⟨g6, 1, none⟩ (.int .i64 c1) rfl)).trans (Kept.setCell _ ⟨g6, 2, none⟩ (.int .i64 c2) rfl)
  have hO26 : ¬ O2 g6 := fun h => (HO2.out g6 h).elim HG6.out (fun h => by have := H6.out.lt; omega)
  have HCF : Hid (ColSt PairR 2 VF g5 164 V3.heap.size 166 (listP s l (i + 1)) O2) := by
   rw [Hid, HLS.out]
   exact HCO.out.stay PairR.good (hKs.mono fun q _ h h2 => hO26 (h ▸ h2))
  have HKF : Hid (Kept O A2 VF) := (HKW2.out.mono (fun q _ h => (HOF.out q).2 (.inl h))).trans (hKs.mono (fun q _ h => (HOF.out q).2 (.inr h)))
  have hVs : VF.heap.size = wo.heap.size := by rw [← hVF]; simp [World.setCell]
  have HOR : Hid (∀ q, (O2 q ∨ q = g6) → O q ∨ (A1.heap.size ≤ q ∧ q < VF.heap.size)) := fun q hq => by
   rcases hq with hq | hq
   ·rcases HO2.out q hq with h | h
    ·exact .inl ((HOF.out q).2 (.inl h))
    have := HGC.out; exact .inr (by omega)
   exact .inl ((HOF.out q).2 (.inr hq))
  have HO6 := Lib.hid hO26
  clear R6 hKs hO26 hVs
  gi_wp2_with fail
  refine ⟨HKF.out, fun q => O2 q ∨ q = g6, HOR.out, O2, HCF.out, fun q => Iff.rfl, HO6.out, by rw [HD6.out]; exact HXF.out⟩
 rintro O W' D ⟨O1, hcol, hO, hg6, j6⟩ hOs hK hsW hD hOD hDD
 rw [days_len, HHN.out] at hcol
 obtain ⟨xs, hxs⟩ : ∃ x, listP s l hn = x := ⟨_, rfl⟩
 rw [hxs] at hcol HIN H19 HPT
 have HXS := Lib.hid hxs
 obtain ⟨Ad, cap, hB5, hOw, hOO, hne⟩ := hcol.st
 obtain ⟨M, hM⟩ : ∃ q, xs.length = q := ⟨_, rfl⟩
 rw [hM] at hB5 hOw hOO hne H19
 have HMM := Lib.hid hM
 have hM19 : M ≤ 19 := H19.out
 have HFK := Lib.hid (HFIN.out W' hK)
 have HST := Lib.hid hsW
 have HP5 : Hid (∀ V, Below W'.heap.size W' V → Pairs (fun _ => True) V Ad M xs) := fun V hb => (hOw.slice (T := fun _ => True) PairR.good rfl (by simp only [maxLen]; omega) (fun _ h => h.elim) (fun k h _ => trivial)).keep PairR.good (Keeps.below hb)
 have HLW : Hid (∀ V, Below W'.heap.size W' V → LookK V B g kb H hn hc P pn pc Q on oc s) := fun V hb => ((HINV.out W' hK).2.2.1).bl hb
 have hb0 : Blk W' gb 90 #[.pointer (some ⟨g, 0, none⟩)] := HZ0.out.kept hK (by omega)
 have HB0 : Hid (∀ V, Below W'.heap.size W' V → V.cell? ⟨gb, 0, none⟩ = some (.pointer (some ⟨g, 0, none⟩))) := fun V hb => (hb0.bl hb).cell 0
 have HB5 : Hid (∀ V, Below W'.heap.size W' V → V.cell? ⟨g5, 0, none⟩ = some (.slice Ad M cap)) := fun V hb => (hB5.bl hb).cell 0
 have HDD := Lib.hid hDD
 have hDl : D < W'.heap.size := (Array.getElem?_eq_some_iff.1 hDD).1
 have hDw : gb ≤ D := by omega
 have hkW : kb < W'.heap.size := hsW.lt
 have hgbl : gb < W'.heap.size := hb0.lt
 have hgl : g < W'.heap.size := Nat.lt_of_lt_of_le (HLW.out W' (Below.refl _ _)).lt (HLW.out W' (Below.refl _ _)).le
 have hg5l : g5 < W'.heap.size := hB5.lt
 have c5 := hB5.cell 0
 obtain ⟨iD, hiD, hzD0, hzD1, hzD2⟩ := info_parts infoOrCast
 have hsort := osort_any (c := cap) HIN.out hM19 W' (HP5.out W' (Below.refl _ _))
 have HSORT := Lib.hid hsort
 clear hsort hb0 hDD hsW hK hOs hcol hB5 hOw hOO hne hO hg6 j6 hM hOD hxs hD HY4 HY5 HINV HFIN
 gi_wp2_with fail
 refine ⟨trivial, ?_⟩
 refine (callsIn_wide.2 HSORT.out).mono ?_
 rintro e V1 ⟨⟨v, rfl⟩, b1⟩
 have HB1 := Lib.hid b1
 have c5 := HB5.out V1 b1
 obtain ⟨gH, hgH⟩ : ∃ q, V1.heap.size = q := ⟨_, rfl⟩
 obtain ⟨V2, hV2⟩ : ∃ V, V1.alloc (.cells #[.int .i64 0] 3) = V := ⟨_, rfl⟩
 have hh2 : Blk V2 gH 3 #[.int .i64 0] := by rw [← hV2]; exact Blk.new _ _ _ hgH.symm
 have hs2 : V2.heap.size = gH + 1 := by rw [← hV2]; simp [hgH]
 have b2 : Below W'.heap.size W' V2 := by rw [← hV2]; exact bl_alloc b1 _ (Nat.le_refl _)
 have c52 := HB5.out V2 b2
 have hcH := hh2.cell 0
 have hfH := hh2.frozen 0
 have hlH := hh2.lt
 have hset := osetCell_noop hh2
 have HH2 := Lib.hid hh2
 have HB2 := Lib.hid b2
 have HS2 := Lib.hid hs2
 have hgHW : W'.heap.size ≤ gH := by rw [← hgH]; exact b1.size
 clear b1 b2 hh2 hs2 HSORT
 gi_wp2_with fail
 clear c5 c52 hV2 hgH hcH hfH hset
 gi_loopw [4, 52] (fun cs i' wr => ∃ (k cc : Nat) (Ac : Option Addr), k ≤ M ∧ i' = .int .i64 k ∧ cs = .slice Ac k cc ∧ Hid (Below W'.heap.size W' wr) ∧ Hid (Blk wr gH 3 #[.int .i64 (sumLong s (xs.take k))]) ∧ Hid (OwnL PairR 2 (fun _ => False) wr V2.heap.size 88 (.slice Ac k cc) (planP s xs k))) (fun _ i' _ => M - (intOf i').toNat)
 case atStart => exact ⟨0, 0, none, Nat.zero_le _, rfl, rfl, HB2.out, HH2.out, OwnL.nil _ _ _ _ _ _⟩
 obtain ⟨wo, hwo⟩ : ∃ V, V = wr := ⟨_, rfl⟩
 rw [← hwo] at hrel ⊢
 clear hwo
 obtain ⟨k, cc, Ac, hk, rfl, rfl, HBo, HHo, HOo⟩ := hrel
 by_cases hlt : k < M
 ·have hki : (k : Int) < M := by omega
  obtain ⟨b, off, p', z, rfl, hbb, hc0, hc1, Hx⟩ := Pairs.get (HP5.out wo HBo.out) hlt
  obtain ⟨hp0, hp1⟩ := HPT.out _ (List.mem_of_getElem? Hx.out)
  dsimp only at hp0 hp1
  obtain ⟨p, rfl⟩ : ∃ p : Nat, p' = p := ⟨p'.toNat, by omega⟩
  have hpn : p < pn := by omega
  have hpni : (p : Int) < pn := by omega
  obtain ⟨U, uc, XG, SG, IG⟩ := (HLW.out wo HBo.out).st
  obtain ⟨b2, off2, sn, a2, z2, y2, rfl, hb2, _, _, e2, _, _, Hy⟩ := Parts.get SG.ps hpn
  have hPL := HPN.out
  have hpart : (s.parts.getD p dPart).long = z2 := by rw [getD_of Hy.out]
  have hzb := (HOK.out.parts _ (List.mem_of_getElem? Hy.out)).2.1
  dsimp only at hzb
  have hsb := sumLong_bd HOK.out (xs := xs.take k) (fun x hx => by rw [hPL]; exact HPT.out x (List.mem_of_mem_take hx))
  have hlen : (xs.take k).length ≤ 19 := by rw [List.length_take, HMM.out]; omega
  obtain ⟨hv, hhv⟩ : ∃ v, sumLong s (xs.take k) = v := ⟨_, rfl⟩
  rw [hhv] at hsb HHo
  obtain ⟨nv, hnv⟩ : ∃ v, hv + z2 = v := ⟨_, rfl⟩
  have w1 : IntKind.i64.wrap (hv + z2) = nv := by rw [hnv, IntKind.wrap_i64]; omega
  have HNV : Hid (sumLong s (xs.take (k + 1)) = nv) := by
   rw [Hid, sumLong_snoc s Hx.out, hhv]
   show hv + (s.parts.getD (p : Int).toNat dPart).long = nv
   rw [Int.toNat_natCast, hpart, hnv]
  have HXP : Hid ((xs.getD k (0, 0)).1 = (p : Int)) := by rw [Hid, getD_of Hx.out]
  obtain ⟨V, hV⟩ : ∃ V, wo.alloc (.cells #[.int .i64 (p : Int), .int .i64 z] 166) = V := ⟨_, rfl⟩
  obtain ⟨gx, hgx⟩ : ∃ q, wo.heap.size = q := ⟨_, rfl⟩
  have XV : Blk V gx 166 #[.int .i64 (p : Int), .int .i64 z] := by rw [← hV]; exact Blk.new _ _ _ hgx.symm
  have bV : Below wo.heap.size wo V := by rw [← hV]; exact bl_alloc (Below.refl _ _) _ (Nat.le_refl _)
  have hBV : Below W'.heap.size W' V := bl_call HBo.out bV (Nat.le_refl _)
  have v0 := XV.cell 0
  have XH : Blk V gH 3 #[.int .i64 hv] := HHo.out.bl bV
  have vH := XH.cell 0
  have fH := XH.frozen 0
  have lH := XH.lt
  have vb := HB0.out V hBV
  have XGV := XG.bl bV
  have g1 := XGV.cell 1
  have e2V := getc bV e2
  have hple2 := SG.ps.le
  have HBV := Lib.hid hBV
  have HXV := Lib.hid XV
  have HXH := Lib.hid XH
  have HOV : Hid (OwnL PairR 2 (fun _ => False) V V2.heap.size 88 (.slice Ac k cc) (planP s xs k)) := HOo.out.keep PairR.good (Keeps.below bV)
  have hoW := HBo.out.size
  have hnx : gx ≠ gH := by have := HHo.out.lt; omega
  have hS2 : V2.heap.size = gH + 1 := HS2.out
  have HSZ2 := Lib.hid hS2
  clear XG SG IG Hy hpart hzb hsb hlen hhv hnv bV hBV XV XH XGV hS2 hPL
  refine wpIn_wide.2 ?_
  go_wp2
  clear hc0 hc1 hV hgx
  go_still_tail 12, (by kernel_rfl)
  go_wp2
  refine wp_worldT ?_
  intro Wd hWd
  have hKd : Kept (fun q => q = gH) V Wd := by rw [hWd]; exact (Kept.setCell (M := fun q => q = gH) V ⟨gH, 0, none⟩ (.int .i64 nv) rfl).trans (Kept.drew _ _)
  have hVz := HBV.out.size
  have HBD : Hid (Below W'.heap.size W' Wd) := HBV.out.trans (hKd.below (by omega) (fun q h => by omega))
  have HOD : Hid (OwnL PairR 2 (fun _ => False) Wd V2.heap.size 88 (.slice Ac k cc) (planP s xs k)) := by
   rw [hWd]
   have h1 := HOV.out.keep PairR.good (Keeps.setCell V ⟨gH, 0, none⟩ (.int .i64 nv) (fun h => h.elim (fun h => h) (fun h => by have := (OwnL.block HOV.out gH h).1; have := HSZ2.out; omega)))
   exact h1.keep PairR.good (Keeps.below (Below.refl _ _).drew)
  have hHD : Blk Wd gH 3 #[.int .i64 nv] := by rw [hWd]; exact (HXH.out.set_ 0 _).drew
  have hXD : Blk Wd gx 166 #[.int .i64 (p : Int), .int .i64 z] := HXV.out.kept hKd hnx
  obtain ⟨U2, uc2, XG2, SG2, _⟩ := (HLW.out Wd HBD.out).st
  have kk : Hid (∀ U, Below Wd.heap.size Wd U → U.cell? ⟨gx, 0, none⟩ = some (.int .i64 (p : Int)) ∧ U.cell? ⟨gb, 0, none⟩ = some (.pointer (some ⟨g, 0, none⟩)) ∧ U.cell? ⟨g, 0, none⟩ = some (.slice H hn hc)) := fun U hb => ⟨(hXD.bl hb).cell 0, HB0.out U (bl_call HBD.out hb (Nat.le_refl _)), (XG2.bl hb).cell 0⟩
  have hhle := SG2.hs.le
  obtain ⟨dv, hdv⟩ : ∃ v, leastN (fun d => decide (sumLong s (xs.take (k + 1)) ≤ upN s d)) s.hours.length = v := ⟨_, rfl⟩
  have HDV := Lib.hid hdv
  have hdv2 : leastN (fun d => decide (nv ≤ upN s d)) hn = dv := by rw [← hdv, HNV.out, HHN.out]
  have hn100 : hn ≤ 100 := by have := HOK.out.nh; have := HHN.out; omega
  have HLS : Hid (∀ W9, Below Wd.heap.size Wd W9 → Calls Tryz.prog 59 #[.int .i64 (hn : Int), .func (.func 87) #[] #[.pointer (some ⟨gb, 0, none⟩), .pointer (some ⟨gH, 0, none⟩)]] W9 fun e w' => e = .returned (.int .i64 (dv : Int)) ∧ Below W9.heap.size W9 w') := fun W9 h9 => by
   have h := oleast_any (n := hn) (fun d => decide (nv ≤ upN s d)) 87 #[.pointer (some ⟨gb, 0, none⟩), .pointer (some ⟨gH, 0, none⟩)] eg_plan2 hn100 W9 (fun _ V => Below W9.heap.size W9 V) (Below.refl _ _) (fun d V hd hV => by
    have hBV9 := bl_call h9 hV (Nat.le_refl _)
    refine (oplan2_any V (HLW.out V (bl_call HBD.out hBV9 (Nat.le_refl _))) hd (HB0.out V (bl_call HBD.out hBV9 (Nat.le_refl _))) ((hHD.bl hBV9).cell 0)).mono ?_
    rintro e V2 ⟨rfl, hb⟩
    exact ⟨rfl, bl_call hV hb (Nat.le_refl _)⟩)
   rw [hdv2] at h
   refine h.mono ?_
   rintro e V ⟨rfl, _, _, hb⟩
   exact ⟨rfl, hb⟩
  have HHD := Lib.hid hHD
  clear hdv hdv2 hHD hXD XG2 SG2 hKd hWd v0 vH fH lH vb g1 e2V e2 w1 c5
  refine (wpIn_wide (n := 1)).1 ?_
  refine wpIn_region_invt (F := Fence.wide) (r := none) rfl (InvS Wd 88 [.int .i64 (p : Int), .int .i64 (dv : Int)] (fun i => [.slice Ac k cc, .pointer (some ⟨gx, 0, none⟩), .int .i64 (p : Int), .pointer (some ⟨g, 0, none⟩), .pointer (some ⟨g, 0, none⟩), .pointer (some ⟨g, 0, none⟩), .pointer (some ⟨g, 0, none⟩), .slice H hn hc, .int .i64 (hn : Int), .func (.func 87) #[] #[.pointer (some ⟨gb, 0, none⟩), .pointer (some ⟨gH, 0, none⟩)], .int .i64 (dv : Int), .agg #[.int .i64 (p : Int), .int .i64 (dv : Int)], undef].getD i undef) 12) 13 (by kernel_rfl) (by kernel_rfl) (by kernel_rfl) (by decide) InvS.zero ?step ?fin
  case step =>
   refine StepsI.cons ?_ (StepsI.cons ?_ (StepsI.cons ?_ (StepsI.cons ?_ (StepsI.cons ?_ (StepsI.cons ?_ (StepsI.cons ?_ (StepsI.cons ?_ (StepsI.cons ?_ (StepsI.cons ?_ (StepsI.cons ?_ (StepsI.cons ?_ (StepsI.cons ?_ StepsI.nil))))))))))))
   all_goals
    refine StepI.of ?_
    intro ls vs W9 K hI hl hw hU hK
    simp only [fillA, Act.put, List.setIfInBounds_toArray, List.set_cons_zero, List.set_cons_succ, Nat.zero_add, Nat.reduceAdd] at hK ⊢
    have hC := hI.1
   ·
    have q14 : vs 14 = .slice Ac k cc := (hU 14 _ rfl (by simp [waits, Region.binds])).2
    simp only [q14] at hK ⊢
    go_simp
    exact hK _ _ (hI.step (Below.refl _ _) (by decide) rfl)
   ·
    go_simp
    exact hK _ _ (hI.step (Below.refl _ _) (by decide) rfl)
   ·
    have q1 : vs 1 = .pointer (some ⟨gx, 0, none⟩) := hI.val (hw 1 (by simp [waits, Region.binds])) (by decide)
    simp only [q1] at hK ⊢
    obtain ⟨k0, k1, k2⟩ := kk.out W9 hC
    go_simp
    exact hK _ _ (hI.step (Below.refl _ _) (by decide) rfl)
   ·
    obtain ⟨k0, k1, k2⟩ := kk.out W9 hC
    go_simp
    exact hK _ _ (hI.step (Below.refl _ _) (by decide) rfl)
   ·
    have q3 : vs 3 = .pointer (some ⟨g, 0, none⟩) := hI.val (hw 3 (by simp [waits, Region.binds])) (by decide)
    simp only [q3] at hK ⊢
    go_simp
    exact hK _ _ (hI.step (Below.refl _ _) (by decide) rfl)
   ·
    have q4 : vs 4 = .pointer (some ⟨g, 0, none⟩) := hI.val (hw 4 (by simp [waits, Region.binds])) (by decide)
    simp only [q4] at hK ⊢
    go_simp
    exact hK _ _ (hI.step (Below.refl _ _) (by decide) rfl)
   ·
    have q5 : vs 5 = .pointer (some ⟨g, 0, none⟩) := hI.val (hw 5 (by simp [waits, Region.binds])) (by decide)
    simp only [q5] at hK ⊢
    go_simp
    exact hK _ _ (hI.step (Below.refl _ _) (by decide) rfl)
   ·
    have q6 : vs 6 = .pointer (some ⟨g, 0, none⟩) := hI.val (hw 6 (by simp [waits, Region.binds])) (by decide)
    simp only [q6] at hK ⊢
    obtain ⟨k0, k1, k2⟩ := kk.out W9 hC
    go_simp
    exact hK _ _ (hI.step (Below.refl _ _) (by decide) rfl)
   ·
    have q7 : vs 7 = .slice H hn hc := hI.val (hw 7 (by simp [waits, Region.binds])) (by decide)
    simp only [q7] at hK ⊢
    go_simp
    exact hK _ _ (hI.step (Below.refl _ _) (by decide) rfl)
   ·
    go_simp
    exact hK _ _ (hI.step (Below.refl _ _) (by decide) rfl)
   ·
    have q8 : vs 8 = .int .i64 (hn : Int) := hI.val (hw 8 (by simp [waits, Region.binds])) (by decide)
    have q9 : vs 9 = .func (.func 87) #[] #[.pointer (some ⟨gb, 0, none⟩), .pointer (some ⟨gH, 0, none⟩)] := hI.val (hw 9 (by simp [waits, Region.binds])) (by decide)
    simp only [q8, q9] at hK ⊢
    go_simp
    refine (HLS.out W9 hC).mono ?_
    rintro e w2 ⟨rfl, hb2⟩
    exact hK _ _ (hI.step hb2 (by decide) rfl)
   ·
    have q2 : vs 2 = .int .i64 (p : Int) := hI.val (hw 2 (by simp [waits, Region.binds])) (by decide)
    have q10 : vs 10 = .int .i64 (dv : Int) := hI.val (hw 10 (by simp [waits, Region.binds])) (by decide)
    simp only [q2, q10] at hK ⊢
    go_simp
    exact hK _ _ (hI.step (Below.refl _ _) (by decide) rfl)
   have q11 : vs 11 = .agg #[.int .i64 (p : Int), .int .i64 (dv : Int)] := hI.val (hw 11 (by simp [waits, Region.binds])) (by decide)
   simp only [q11] at hK ⊢
   go_simp
   exact hK _ _ hI.laid
  case fin =>
   intro ls vs W9 hI hl hU
   have hC := hI.1
   have q0 : vs 0 = .slice Ac k cc := hI.val (hl 0 (by decide)) (by decide)
   have q1 : vs 1 = .pointer (some ⟨gx, 0, none⟩) := hI.val (hl 1 (by decide)) (by decide)
   have q2 : vs 2 = .int .i64 (p : Int) := hI.val (hl 2 (by decide)) (by decide)
   have q3 : vs 3 = .pointer (some ⟨g, 0, none⟩) := hI.val (hl 3 (by decide)) (by decide)
   have q4 : vs 4 = .pointer (some ⟨g, 0, none⟩) := hI.val (hl 4 (by decide)) (by decide)
   have q5 : vs 5 = .pointer (some ⟨g, 0, none⟩) := hI.val (hl 5 (by decide)) (by decide)
   have q6 : vs 6 = .pointer (some ⟨g, 0, none⟩) := hI.val (hl 6 (by decide)) (by decide)
   have q7 : vs 7 = .slice H hn hc := hI.val (hl 7 (by decide)) (by decide)
   have q8 : vs 8 = .int .i64 (hn : Int) := hI.val (hl 8 (by decide)) (by decide)
   have q9 : vs 9 = .func (.func 87) #[] #[.pointer (some ⟨gb, 0, none⟩), .pointer (some ⟨gH, 0, none⟩)] := hI.val (hl 9 (by decide)) (by decide)
   have q10 : vs 10 = .int .i64 (dv : Int) := hI.val (hl 10 (by decide)) (by decide)
   have q11 : vs 11 = .agg #[.int .i64 (p : Int), .int .i64 (dv : Int)] := hI.val (hl 11 (by decide)) (by decide)
   obtain ⟨gy, q12, hgy, hGY⟩ := hI.2.2 (hl 12 (by decide))
   have HGY := Lib.hid hGY
   have q14 : vs 14 = .slice Ac k cc := hU 14 (by decide)
   simp only [fillA, Act.put, List.setIfInBounds_toArray, List.set_cons_zero, List.set_cons_succ, Nat.zero_add, Nat.reduceAdd, List.drop_succ_cons, List.drop_zero, q0, q1, q2, q3, q4, q5, q6, q7, q8, q9, q10, q11, q12, q14]
   clear q0 q1 q2 q3 q4 q5 q6 q7 q8 q9 q10 q11 q12 q14 hI hl hU hGY
   have HC9 := Lib.hid hC
   clear hC
   have hz9 := HC9.out.size
   have HO9 : Hid (OwnL PairR 2 (fun _ => False) W9 V2.heap.size 88 (.slice Ac k cc) (planP s xs k)) := HOD.out.keep PairR.good (Keeps.below HC9.out)
   have HB9 : Hid (Below W'.heap.size W' W9) := bl_call HBD.out HC9.out (Nat.le_refl _)
   have HH9 : Hid (Blk W9 gH 3 #[.int .i64 nv]) := HHD.out.bl HC9.out
   have HPL : Hid ((planP s xs k).length = k) := planP_len s xs k
   have hHl := HH9.out.lt
   have hnews := Blk.news HGY.out
   have HNW := Lib.hid hnews
   clear hnews
   have hsge : V2.heap.size ≤ W9.heap.size := by have := HSZ2.out; omega
   clear hgy
   gi_wp2_with (gi_at_builtin; refine wpListIn_append_n _ rfl (.tmp 68) (.tmp 80) _ rfl PairR.good V2.heap.size 88 iD _ 16 Tryz.underlying77 hiD hzD0 hzD1 hzD2 rfl (by omega) _ (planP s xs k) ((p : Int), (dv : Int)) k HPL.out rfl HO9.out ⟨gy, 0, none⟩ 1 [.int .i64 (p : Int), .int .i64 (dv : Int)] rfl rfl HNW.out ?c1 ?c2 ?c3 (fun h => h) ?_)
   case c1 => simp only [maxLen]; omega
   case c2 => omega
   case c3 => omega
   intro A3 cap3 w3 hO3 hg3 hat3
   have hs2 := HSZ2.out
   have hne3 : (Value.slice Ac k cc).ownBlock ≠ some gH := fun h => by have := (OwnL.block HO9.out gH h).1; omega
   have HBF : Hid (Below W'.heap.size W' w3) := bl_grown HB9.out HO9.out hg3 (by omega) (by omega)
   have HHF : Hid (Blk w3 gH 3 #[.int .i64 (sumLong s (xs.take (k + 1)))]) := by rw [Hid, HNV.out]; exact HH9.out.grown hg3 hne3.symm
   have HOF : Hid (OwnL PairR 2 (fun _ => False) w3 V2.heap.size 88 (.slice (some ⟨A3, 0, none⟩) (k + 1) cap3) (planP s xs (k + 1))) := by
    rw [Hid, planP_succ, HXP.out, HDV.out]; exact hO3
   clear hO3 hg3 hat3 hne3 hs2
   gi_wp2_with fail
   go_wp2
   exact ⟨⟨k + 1, cap3, _, by omega, by go_num, rfl, HBF.out, HHF.out, HOF.out⟩, by simp [intOf]; omega⟩
 obtain rfl : k = M := by omega
 have HPLN : Hid (planP s xs k = planO s (listP s l hn)) := by rw [Hid, HXS.out, planO, HMM.out]; rfl
 have HRES : Hid (Pairs (fun q => w.heap.size ≤ q) (wo.putObj D (.deferred none)) Ac k (planO s (listP s l hn))) := by
  rw [Hid, ← HPLN.out]
  have h1 := HOo.out.slice (T := fun q => q ≠ D ∧ w.heap.size ≤ q) PairR.good rfl (by simp only [maxLen]; omega) (fun _ h => h.elim) (fun q h _ => by have := HS2.out; omega)
  exact (h1.keep PairR.good ⟨by simp, fun q hq _ => World.putObj_heap_other hq.1⟩).mono PairR.good (fun _ h => h.2)
 have HKF : Hid (Kept (fun q => q = kb) w (wo.putObj D (.deferred none))) := by
  have h1 : Kept (fun q => q = kb) w wo := HFK.out.trans (Kept.of_bl HBo.out)
  exact h1.seq (Kept.putObj (M := fun q => q = D) _ _ _ rfl) (fun q hq h => by omega)
 have HMF : Hid (MapC s (wo.putObj D (.deferred none)) kb (N + 20)) := (HST.out.bl HBo.out).at (World.putObj_heap_other (by omega))
 have HDF : Hid (wo.heap[D]? = some (.deferred (some []))) := (HBo.out.block D hDl).trans HDD.out
 clear c5
 gi_wp2
 refine ⟨by simp, .inl ⟨_, _, rfl, run_takeDeferred HDF.out, ?_⟩⟩
 exact ⟨.slice Ac k cc, by simp [results, Tryz.results57, go_sem], ⟨Ac, k, cc, rfl, HRES.out⟩, HKF.out, HMF.out⟩
end Go.Proofs.YtkpbchnggdnmaaaGreat
