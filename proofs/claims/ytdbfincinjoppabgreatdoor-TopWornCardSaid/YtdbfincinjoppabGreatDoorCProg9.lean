/- A part of the proof that TopWorn always answers true. -/
import Derived.Laws.EntriesVeiled
import Derived.Test.YtdbfincinjoppabGreatDoorCProg8
set_option linter.all false
namespace Go.Proofs.YtdbfincinjoppabGreatDoor
open Go.RowKit Go.Shelf
attribute [local go_sem] Oper.semAt_some
theorem eg_all : Enters Tryz.prog 87 := enters_of Tryz.func87 (by kernel_rfl) rfl
set_option maxRecDepth 100000 in
set_option maxHeartbeats 2000000 in
theorem all_seq {A0 B0 C0 : Option Addr} {n ca mm cb q cc : Nat} {c : Claim} (hok : OkC c) (gc : Nat) :
  SeqL Tryz.prog 87 #[.pointer (some ⟨gc, 0, none⟩)] (fun t => #[tv t]) (allT c.causes) (fun A => BoxAt A gc A0 n ca B0 mm cb C0 q cc c) := by
 intro l O0 J Jx W hO0 hInv hJ hJx hR h0
 have hfill := fun W1 ts h1 h2 h3 h4 h5 => fill_in (A0 := A0) (B0 := B0) (C0 := C0) (n := n) (ca := ca) (mm := mm) (cb := cb) (q := q) (cc := cc) hok l gc W.heap.size (W.heap.size + 1) (W.heap.size + 1 + 1) O0 J Jx W (allT c.causes) hInv (by omega) (fun i O A B => hJ i O A B) hR c.causes [] 0 0 O0 W1 ts rfl rfl (Nat.zero_le _) h1 (fun j u hu => by rw [allT_exts, Nat.zero_add, hu]; rfl) h2 h3 (fun k hk => .inl hk) h4 h5
 have HFILL := Lib.hid hfill
 clear hfill
 rw [app11]
 refine (callsIn_wide (n := 0)).1 ?_
 refine callsIn_of_wp Tryz.func87 rfl trivial ?_ rfl
 simp only [Tryz.ntmps87, List.size_toArray, List.length_cons, List.length_nil, Nat.reduceAdd, Nat.reduceSub, Array.replicate_succ, Array.replicate_zero, List.push_toArray, List.append_toArray, List.nil_append, List.cons_append]
 gi_wp2_with fail
 refine ⟨trivial, rfl, ?_⟩
 have hK1 : Kept (fun _ => False) W (((W.alloc (.cells #[.func (.yield l) #[] #[]] 139)).alloc (.cells #[.int .i64 0, .int .i64 0, .int .i64 0, .int .i64 0, .int .i64 0] 98)).alloc (.cells #[.func (.func 88) #[] #[.pointer (some ⟨gc, 0, none⟩), .pointer (some ⟨W.heap.size, 0, none⟩), .pointer (some ⟨W.heap.size + 1, 0, none⟩), .pointer (some ⟨W.heap.size + 1 + 1, 0, none⟩)]] 159)) := ((Kept.alloc _ _ _).trans (Kept.alloc _ _ _)).trans (Kept.alloc _ _ _)
 refine (HFILL.out _ [0, 0, 0, 0, 0] ⟨rfl, rfl, ?f⟩ (hJ _ _ _ _ h0 hO0 hK1.any) ?lt hK1.any ⟨?zy, ?zf, ?zt, ?zoy, ?zof, ?zot, by omega, by omega⟩ _).mono ?_
 case f =>
  intro j _
  rcases j with _ | _ | _ | _ | _ | j <;> rfl
 case lt => intro k hk; have := hO0 k hk; simp; omega
 case zy => exact ((Blk.new _ _ _ rfl).alloc _).alloc _
 case zf => exact Blk.new _ _ _ (by simp)
 case zt => exact (Blk.new _ _ _ (by simp)).alloc _
 case zoy => exact fun h => by have := hO0 _ h; omega
 case zof => exact fun h => by have := hO0 _ h; omega
 case zot => exact fun h => by have := hO0 _ h; omega
 rintro e B ⟨O1, hO1, hKB, _, hcase⟩
 have hsz := hKB.size
 simp at hsz
 have HK2 : Hid (Kept (fun k => O0 k ∨ W.heap.size ≤ k) W B) := hK1.any.seq hKB (fun k _ h => h.elim .inl (fun e => .inr (by omega)))
 have HO2 : Hid (∀ k, O1 k → O0 k ∨ (W.heap.size ≤ k ∧ k < B.heap.size)) := fun k hk => (hO1 k hk).imp id (fun h => ⟨by have := h.1; simp at this; omega, h.2⟩)
 clear hK1 hKB hO1 HFILL
 rcases hcase with ⟨rfl, hj'⟩ | ⟨rfl, hx'⟩
 ·gi_wp2
  go_end0
  exact ⟨⟨_, rfl⟩, HK2.out, O1, HO2.out, .inl (by rw [allT_exts]; simpa using hj')⟩
 gi_wp2
 go_end0
 exact ⟨⟨_, rfl⟩, HK2.out, O1, HO2.out, .inr hx'⟩
theorem ball_any {A0 B0 C0 : Option Addr} {n ca m cb q cc : Nat} (w : World) :
  Calls Tryz.prog 57 #[.agg #[.slice A0 n ca, .slice B0 m cb, .slice C0 q cc]] w fun e w' => e = .returned (.func (.func 87) #[] #[.pointer (some ⟨w.heap.size, 0, none⟩)]) ∧ w' = w.alloc (.cells #[.slice A0 n ca, .slice B0 m cb, .slice C0 q cc] 95) := by
 go_enter Tryz.func57, Tryz.ntmps57
 go_wp2
 go_ret
 exact ⟨rfl, rfl⟩
theorem btruths_any {A0 B0 C0 : Option Addr} {n ca m cb q cc : Nat} (w : World) :
  Calls Tryz.prog 37 #[.agg #[.slice A0 n ca, .slice B0 m cb, .slice C0 q cc]] w fun e w' => e = .returned (.func (.func 69) #[] #[.pointer (some ⟨w.heap.size, 0, none⟩)]) ∧ w' = w.alloc (.cells #[.slice A0 n ca, .slice B0 m cb, .slice C0 q cc] 95) := by
 go_enter Tryz.func37, Tryz.ntmps37
 go_wp2
 go_ret
 exact ⟨rfl, rfl⟩
theorem buntrue_any {A0 B0 C0 : Option Addr} {n ca m cb q cc : Nat} {a0 a1 a2 a3 a4 : Int} (w : World) :
  Calls Tryz.prog 59 #[.agg #[.slice A0 n ca, .slice B0 m cb, .slice C0 q cc], .agg #[.int .i64 a0, .int .i64 a1, .int .i64 a2, .int .i64 a3, .int .i64 a4]] w fun e w' => e = .returned (.func (.func 90) #[] #[.pointer (some ⟨w.heap.size, 0, none⟩), .pointer (some ⟨w.heap.size + 1, 0, none⟩)]) ∧ w' = (w.alloc (.cells #[.slice A0 n ca, .slice B0 m cb, .slice C0 q cc] 95)).alloc (.cells #[.int .i64 a0, .int .i64 a1, .int .i64 a2, .int .i64 a3, .int .i64 a4] 98) := by
 go_enter Tryz.func59, Tryz.ntmps59
 go_wp2
 go_ret
 exact ⟨rfl, rfl⟩
open Go.RowKit Go.Shelf
attribute [local go_sem] Oper.semAt_some
theorem eg_untrue : Enters Tryz.prog 90 := enters_of Tryz.func90 (by kernel_rfl) rfl
def untrueK (c : Claim) (t : List Int) (k : Nat) : List Int := ((List.range k).filter fun i => !measOk c t (c.meas.getD i dMeas)).map fun i : Nat => (i : Int)
theorem untrueK_all (c : Claim) (t : List Int) : untrueK c t c.meas.length = untrueL c t := rfl
theorem untrueK_no {c : Claim} {t : List Int} {k : Nat} {x : Meas} (hx : c.meas[k]? = some x) (h : measOk c t x = true) : untrueK c t (k + 1) = untrueK c t k := by
 unfold untrueK; rw [range_filter_succ, getD_of hx, h]; simp
theorem untrueK_yes {c : Claim} {t : List Int} {k : Nat} {x : Meas} (hx : c.meas[k]? = some x) (h : measOk c t x = false) : untrueK c t (k + 1) = untrueK c t k ++ [(k : Int)] := by
 unfold untrueK; rw [range_filter_succ, getD_of hx, h]; simp
theorem untrueK_pre (c : Claim) (t : List Int) {k n : Nat} (h : k ≤ n) : ∃ l, untrueK c t n = untrueK c t k ++ l := by
 induction n with
 | zero =>
  have hk0 : k = 0 := by omega
  subst hk0
  exact ⟨[], rfl⟩
 | succ n ih =>
  rcases Nat.lt_or_eq_of_le h with h1 | h1
  ·obtain ⟨l, hl⟩ := ih (by omega)
   refine ⟨l ++ (if !measOk c t (c.meas.getD n dMeas) then [(n : Int)] else []), ?_⟩
   rw [← List.append_assoc, ← hl]; unfold untrueK; rw [range_filter_succ]
  exact ⟨[], by rw [h1]; simp⟩
theorem untrueK_get {c : Claim} {t : List Int} {k : Nat} {x : Meas} (hx : c.meas[k]? = some x) (h : measOk c t x = false) : (untrueL c t)[(untrueK c t k).length]? = some (k : Int) := by
 obtain ⟨l, hl⟩ := untrueK_pre c t (k := k + 1) (n := c.meas.length) (of_getq hx)
 rw [← untrueK_all, hl, untrueK_yes hx h, List.append_assoc, List.getElem?_append_right (Nat.le_refl _)]
 simp
theorem measOk_out (c : Claim) (t : List Int) (a z : Int) (L e : Int) (hL : len c t a.toNat = L) (he : (c.feats.getD a.toNat dFeat).err = e) : outB (-e) e (z - L) = !measOk c t ⟨a, z⟩ := by
 unfold measOk
 dsimp only
 rw [hL, he]
 unfold outB inB
 by_cases h1 : z - L < -e <;> by_cases h2 : e < z - L <;> simp [h1, h2] <;> omega
structure UnBox (w : World) (gc gu : Nat) (A : Option Addr) (n ca : Nat) (B : Option Addr) (m cb : Nat) (C : Option Addr) (q cc : Nat) (c : Claim) (a0 a1 a2 a3 a4 : Int) : Prop where
 box : BoxAt w gc A n ca B m cb C q cc c
 tr : Blk w gu 98 #[.int .i64 a0, .int .i64 a1, .int .i64 a2, .int .i64 a3, .int .i64 a4]
set_option maxRecDepth 100000 in
set_option maxHeartbeats 4000000 in
theorem untrue_seq {A0 B0 C0 : Option Addr} {n ca mm cb q cc : Nat} {c : Claim} (hok : OkC c) (gc gu : Nat) (a0 a1 a2 a3 a4 : Int) (hT : TruthOk c ([a0, a1, a2, a3, a4].take mm)) :
  SeqL Tryz.prog 90 #[.pointer (some ⟨gc, 0, none⟩), .pointer (some ⟨gu, 0, none⟩)] (fun i : Int => #[.int .i64 i]) (untrueL c ([a0, a1, a2, a3, a4].take mm)) (fun A => UnBox A gc gu A0 n ca B0 mm cb C0 q cc c a0 a1 a2 a3 a4) := by
 intro l O0 J Jx W hO0 hInv hJ hJx hR h0
 obtain ⟨t, ht⟩ : ∃ t, [a0, a1, a2, a3, a4].take mm = t := ⟨_, rfl⟩
 have HT := Lib.hid ht
 rw [ht] at hR hT ⊢
 clear ht
 rw [app12]
 have hI0 := hInv W (Kept.refl _ _)
 have hgc := hI0.box.box.lt
 have hgu := hI0.tr.lt
 have hb0 := hI0.box.box.cell 0
 have hb1 := hI0.box.box.cell 1
 have hb2 := hI0.box.box.cell 2
 have hlq := hI0.box.at_.ms.le
 have Hq := Lib.hid hI0.box.at_.ms.len
 clear hI0
 refine (callsIn_wide (n := 1)).1 ?_
 refine callsIn_of_wp Tryz.func90 rfl trivial ?_ rfl
 simp only [Tryz.ntmps90, List.size_toArray, List.length_cons, List.length_nil, Nat.reduceAdd, Nat.reduceSub, Array.replicate_succ, Array.replicate_zero, List.push_toArray, List.append_toArray, List.nil_append, List.cons_append]
 gi_wp2
 clear hb0 hb1 hb2
 gi_loopw [5, 6, 7, 14] (fun _ _ _ i' wr => ∃ (k : Nat) (O1 : Foot), i' = .int .i64 k ∧ k ≤ q ∧ Hid (Kept (fun k => O0 k ∨ W.heap.size ≤ k) W wr) ∧ Hid (∀ k, O1 k → O0 k ∨ (W.heap.size ≤ k ∧ k < wr.heap.size)) ∧ Hid (J (untrueK c t k).length O1 wr)) (fun _ _ _ i' _ => q - (intOf i').toNat)
 case atStart => exact ⟨0, O0, rfl, Nat.zero_le _, Kept.refl _ _, fun k hk => .inl hk, h0⟩
 case round =>
  obtain ⟨k, O1, rfl, hk, HK, HO, HJ⟩ := hrel
  by_cases hlt : k < q
  ·have hI := hInv wr HK.out
   obtain ⟨bm, om, a, z, rfl, hbm, hc0, hc1, Hx⟩ := Meass.get hI.box.at_.ms hlt
   obtain ⟨hfa0, hfa1, hz0, hz1⟩ := hok.meas Hx.out
   dsimp only at hfa0 hfa1 hz0 hz1
   obtain ⟨f, rfl⟩ := Int.eq_ofNat_of_zero_le hfa0
   have hfn : f < n := by have := hI.box.at_.fs.len; omega
   obtain ⟨bf, of, sf, nom, er, rfl, hbf, hcf0, hcf1, hcf2, _, HF⟩ := Feats.get hI.box.at_.fs hfn
   obtain ⟨_, _, her0, her1⟩ := hok.feat HF.out
   dsimp only at her0 her1
   have hgc' := hI.box.box.lt
   have hgu' := hI.tr.lt
   have hb0 := hI.box.box.cell 0
   have hki : (k : Int) < q := by omega
   have hfi : (f : Int) < n := by omega
   have hln := hI.box.at_.fs.le
   have hff : f < c.feats.length := by rw [hI.box.at_.fs.len]; exact hfn
   generalize hL : len c t f = L
   have hLb := len_bd hok hT hff
   rw [hL] at hLb
   obtain ⟨hL0, hL1⟩ := hLb
   have HL := Lib.hid hL
   have Hob := Lib.hid (measOk_out c t f z L er (by simpa using hL) (by simp only [Int.toNat_natCast]; rw [getD_of HF.out]))
   have HI := Lib.hid hI
   clear hI hL hcf0 hcf1
   gi_wp2
   obtain ⟨w0, hw0⟩ : ∃ w0, wr.alloc (.cells #[.int .i64 f, .int .i64 z] 49) = w0 := ⟨_, rfl⟩
   have HB0 : Hid (Below wr.heap.size wr w0) := by rw [← hw0]; exact bl_alloc (Below.refl _ _) _ (Nat.le_refl _)
   have HM0 : Hid (Blk w0 wr.heap.size 49 #[.int .i64 f, .int .i64 z]) := by rw [← hw0]; exact Blk.new _ _ _ rfl
   rw [hw0]
   clear hw0
   have HI0 : Hid (UnBox w0 gc gu (some ⟨bf, of, none⟩) n ca B0 mm cb (some ⟨bm, om, none⟩) q cc c a0 a1 a2 a3 a4) := hInv w0 (HK.out.trans (Kept.of_bl HB0.out))
   have hw1 : IntKind.i64.wrap (-er) = -er := by rw [IntKind.wrap_i64]; omega
   have hw2 : IntKind.i64.wrap (z - L) = z - L := by rw [IntKind.wrap_i64]; omega
   have kk : Hid (∀ w, Below w0.heap.size w0 w → w.cell? ⟨wr.heap.size, 0, none⟩ = some (.int .i64 f) ∧ w.cell? ⟨wr.heap.size, 1, none⟩ = some (.int .i64 z) ∧ w.cell? ⟨gu, 0, none⟩ = some (.int .i64 a0) ∧ w.cell? ⟨gu, 1, none⟩ = some (.int .i64 a1) ∧ w.cell? ⟨gu, 2, none⟩ = some (.int .i64 a2) ∧ w.cell? ⟨gu, 3, none⟩ = some (.int .i64 a3) ∧ w.cell? ⟨gu, 4, none⟩ = some (.int .i64 a4)) :=
    fun w hb => ⟨(HM0.out.bl hb).cell 0, (HM0.out.bl hb).cell 1, (HI0.out.tr.bl hb).cell 0, (HI0.out.tr.bl hb).cell 1, (HI0.out.tr.bl hb).cell 2, (HI0.out.tr.bl hb).cell 3, (HI0.out.tr.bl hb).cell 4⟩
   have HLEN : Hid (∀ w, Below w0.heap.size w0 w → Calls Tryz.prog 56 #[.agg #[.slice (some ⟨bf, of, none⟩) n ca, .slice B0 mm cb, .slice (some ⟨bm, om, none⟩) q cc], .agg #[.int .i64 a0, .int .i64 a1, .int .i64 a2, .int .i64 a3, .int .i64 a4], .int .i64 f] w fun e w' => e = .returned (.int .i64 L) ∧ Below w.heap.size w w') :=
    fun w hb => (blength_any f w (HI0.out.box.at_.keep (Keeps.below hb)) hok (by rw [HT.out]; exact hT) hff).mono fun e w' ⟨he, hb'⟩ => ⟨by rw [he, HT.out, HL.out], hb'⟩
   cases hob : outB (-er) er (z - L)
   ·refine wpIn_region_list (F := Fence.wide) (r := none) rfl (fun w => Below w0.heap.size w0 w) (fun w w' => Below w.heap.size w w')
     [isV (.int .i64 er), isV (.int .i64 (-er)), isV (.int .i64 er), isV (.pointer (some ⟨wr.heap.size, 1, none⟩)), isV (.int .i64 z), isV (.func (.func 56) #[.agg #[.slice (some ⟨bf, of, none⟩) n ca, .slice B0 mm cb, .slice (some ⟨bm, om, none⟩) q cc]] #[]), isV (.agg #[.int .i64 a0, .int .i64 a1, .int .i64 a2, .int .i64 a3, .int .i64 a4]),
      isV (.pointer (some ⟨wr.heap.size, 0, none⟩)), isV (.int .i64 f), isV (.int .i64 L), isV (.int .i64 (z - L)), (fun v w => ∃ g, v = .slice (some ⟨g, 0, none⟩) 1 1 ∧ w.cell? ⟨g, 0, none⟩ = some (.int .i64 (z - L))), isV (.bool false), isV (.bool false), isV undef, isV undef, isV undef, isV undef, isV (.bool false)]
     (by kernel_rfl) (by kernel_rfl) (by kernel_rfl) (by simp) (Below.refl _ _).drew ?stab ?step ?fin
    case stab =>
     refine (StabL.is (StabL.is (StabL.is (StabL.is (StabL.is (StabL.is (StabL.is (StabL.is (StabL.is (StabL.is (StabL.is (StabL.cons ?_ (StabL.is (StabL.is (StabL.is (StabL.is (StabL.is (StabL.is (StabL.is StabL.nil)))))))))))))))))))
     rintro v w w' hC hX ⟨g, rfl, hg⟩
     exact ⟨g, rfl, getc hX hg⟩
    case step =>
     refine StepsL.is ?_ (StepsL.is ?_ (StepsL.is ?_ (StepsL.is ?_ (StepsL.is ?_ (StepsL.is ?_ (StepsL.is ?_ (StepsL.is ?_ (StepsL.is ?_ (StepsL.is ?_ (StepsL.is ?_ (StepsL.cons ?_ (StepsL.is ?_ (StepsL.is ?_ (StepsL.is ?_ (StepsL.is ?_ (StepsL.is ?_ (StepsL.is ?_ (StepsL.is ?_ StepsL.nil))))))))))))))))))
     all_goals
      intro vs w K hC hD hU hK
      simp only [fillA, Act.put, List.setIfInBounds_toArray, List.set_cons_zero, List.set_cons_succ, Nat.zero_add, Nat.reduceAdd] at hK ⊢
      simp [waits, Region.binds] at hD
      try simp only [envOf, List.getD_cons_succ, List.getD_cons_zero, isV] at hD
     all_goals try ((try simp only [hD] at hK ⊢); obtain ⟨k1, k2, k3, k4, k5, k6, k7⟩ := kk.out w hC; go_simp; exact hK _ hC (Below.refl _ _))
     ·simp only [hD] at hK ⊢
      go_simp
      refine (HLEN.out w hC).mono ?_
      rintro e w' ⟨rfl, hb⟩
      exact hK _ (bl_call hC hb (Nat.le_refl _)) hb
     ·simp only [hD] at hK ⊢
      go_simp
      exact hK _ _ (bl_alloc hC _ (Nat.le_refl _)) (bl_alloc (Below.refl _ _) _ (Nat.le_refl _)) ⟨_, rfl, newc rfl rfl⟩
     ·obtain ⟨h1, h2, ⟨g, h3, hg⟩, h4⟩ := hD
      simp only [h1, h2, h3] at hK ⊢
      clear h4 h1 h2 h3
      go_simp
      refine (out1_any _ hg hob).mono ?_
      rintro e w' ⟨rfl, hb⟩
      exact hK _ (bl_call hC hb (Nat.le_refl _)) hb
     all_goals (simp only [hD] at hK ⊢; simp [Region.wanted, yielded])
    case fin =>
     intro vs w hC hE hU
     have e18 := hE 18 (by simp)
     simp only [envOf, List.getD_cons_succ, List.getD_cons_zero, isV] at e18
     simp only [fillA, Act.put, List.setIfInBounds_toArray, List.set_cons_zero, List.set_cons_succ, Nat.zero_add, Nat.reduceAdd, e18]
     have HC := Lib.hid hC
     clear hE hU hC
     simp [wpOpsIn]
     gi_wp2
     have hok' : measOk c t ⟨f, z⟩ = true := by have := Hob.out; rw [hob] at this; simpa using this.symm
     have hKw : Kept (fun _ => False) wr w := (Kept.of_bl HB0.out).trans (Kept.of_bl HC.out)
     refine ⟨⟨k + 1, O1, by go_num, by omega, HK.out.trans hKw.any, fun j hj => (HO.out j hj).imp id (fun h => ⟨h.1, by have := hKw.size; omega⟩), ?_⟩, by simp [intOf]; omega⟩
     rw [Hid, untrueK_no Hx.out hok']
     exact hJ _ _ _ _ HJ.out (fun j hj => (HO.out j hj).elim (fun h => by have := hO0 j h; have := HK.out.size; omega) (fun h => h.2)) hKw.any
   refine wpIn_region_list (F := Fence.wide) (r := none) rfl (fun w => Below w0.heap.size w0 w) (fun w w' => Below w.heap.size w w')
    [isV (.int .i64 er), isV (.int .i64 (-er)), isV (.int .i64 er), isV (.pointer (some ⟨wr.heap.size, 1, none⟩)), isV (.int .i64 z), isV (.func (.func 56) #[.agg #[.slice (some ⟨bf, of, none⟩) n ca, .slice B0 mm cb, .slice (some ⟨bm, om, none⟩) q cc]] #[]), isV (.agg #[.int .i64 a0, .int .i64 a1, .int .i64 a2, .int .i64 a3, .int .i64 a4]),
     isV (.pointer (some ⟨wr.heap.size, 0, none⟩)), isV (.int .i64 f), isV (.int .i64 L), isV (.int .i64 (z - L)), (fun v w => ∃ g, v = .slice (some ⟨g, 0, none⟩) 1 1 ∧ w.cell? ⟨g, 0, none⟩ = some (.int .i64 (z - L))), isV (.bool true), isV (.bool true), isV (.func (.yield l) #[] #[]), isV (.int .i64 k)]
    (by kernel_rfl) (by kernel_rfl) (by kernel_rfl) (by simp) (Below.refl _ _).drew ?stab ?step ?fin
   case stab =>
    refine (StabL.is (StabL.is (StabL.is (StabL.is (StabL.is (StabL.is (StabL.is (StabL.is (StabL.is (StabL.is (StabL.is (StabL.cons ?_ (StabL.is (StabL.is (StabL.is (StabL.is StabL.nil))))))))))))))))
    rintro v w w' hC hX ⟨g, rfl, hg⟩
    exact ⟨g, rfl, getc hX hg⟩
   case step =>
    refine StepsL.is ?_ (StepsL.is ?_ (StepsL.is ?_ (StepsL.is ?_ (StepsL.is ?_ (StepsL.is ?_ (StepsL.is ?_ (StepsL.is ?_ (StepsL.is ?_ (StepsL.is ?_ (StepsL.is ?_ (StepsL.cons ?_ (StepsL.is ?_ (StepsL.is ?_ (StepsL.is ?_ (StepsL.is ?_ StepsL.nil)))))))))))))))
    all_goals
     intro vs w K hC hD hU hK
     simp only [fillA, Act.put, List.setIfInBounds_toArray, List.set_cons_zero, List.set_cons_succ, Nat.zero_add, Nat.reduceAdd] at hK ⊢
     simp [waits, Region.binds] at hD
     try simp only [envOf, List.getD_cons_succ, List.getD_cons_zero, isV] at hD
    all_goals try ((try simp only [hD] at hK ⊢); obtain ⟨k1, k2, k3, k4, k5, k6, k7⟩ := kk.out w hC; go_simp; exact hK _ hC (Below.refl _ _))
    ·simp only [hD] at hK ⊢
     go_simp
     refine (HLEN.out w hC).mono ?_
     rintro e w' ⟨rfl, hb⟩
     exact hK _ (bl_call hC hb (Nat.le_refl _)) hb
    ·simp only [hD] at hK ⊢
     go_simp
     exact hK _ _ (bl_alloc hC _ (Nat.le_refl _)) (bl_alloc (Below.refl _ _) _ (Nat.le_refl _)) ⟨_, rfl, newc rfl rfl⟩
    ·obtain ⟨h1, h2, ⟨g, h3, hg⟩, h4⟩ := hD
     simp only [h1, h2, h3] at hK ⊢
     clear h4 h1 h2 h3
     go_simp
     refine (out1_any _ hg hob).mono ?_
     rintro e w' ⟨rfl, hb⟩
     exact hK _ (bl_call hC hb (Nat.le_refl _)) hb
    all_goals (simp only [hD] at hK ⊢; simp [Region.wanted, yielded]; go_simp; exact hK _ hC (Below.refl _ _))
   case fin =>
    intro vs w hC hE hU
    have e13 := hE 13 (by simp)
    have e14 := hE 14 (by simp)
    have e15 := hE 15 (by simp)
    simp only [envOf, List.getD_cons_succ, List.getD_cons_zero, isV] at e13 e14 e15
    simp only [fillA, Act.put, List.setIfInBounds_toArray, List.set_cons_zero, List.set_cons_succ, Nat.zero_add, Nat.reduceAdd, e13, e14, e15]
    have hok' : measOk c t ⟨f, z⟩ = false := by have := Hob.out; rw [hob] at this; simpa using this.symm
    have hKw : Kept (fun _ => False) wr w := (Kept.of_bl HB0.out).trans (Kept.of_bl hC)
    have hO1lt : ∀ j, O1 j → j < wr.heap.size := fun j hj => (HO.out j hj).elim (fun h => by have := hO0 j h; have := HK.out.size; omega) (fun h => h.2)
    have hKW : Kept (fun k => O0 k ∨ W.heap.size ≤ k) W w := HK.out.trans hKw.any
    obtain ⟨fn, tmps, assign, body, hy, hRd⟩ := hR _ k O1 w (untrueK_get Hx.out hok') (hJ _ _ _ _ HJ.out hO1lt hKw.any) (fun j hj => by have := hO1lt j hj; have := hKw.size; omega) (fun j hj => (HO.out j hj).imp id (fun h => h.1)) hKW 0
    have HRD := Lib.hid hRd
    have HKW := Lib.hid hKW
    have Hok' := Lib.hid hok'
    have HOw : Hid (∀ j, O1 j → O0 j ∨ (W.heap.size ≤ j ∧ j < w.heap.size)) := fun j hj => (HO.out j hj).imp id (fun h => ⟨h.1, by have := hKw.size; omega⟩)
    clear hE hU hC hRd hKW hKw hO1lt e13 e14 e15 hok'
    simp [wpOpsIn, show List.range' 16 3 = [16, 17, 18] from rfl, Region.wanted, yielded]
    gi_wp2_with fail
    refine HRD.out.mono ?_
    clear HRD
    rintro e B ⟨O2, hO2, hKB, hcase⟩
    have HKB : Hid (Kept (fun k => O0 k ∨ W.heap.size ≤ k) W B) := HKW.out.trans (hKB.mono fun j _ h => (HOw.out j h).imp id (fun h => h.1))
    have HOB : Hid (∀ j, O2 j → O0 j ∨ (W.heap.size ≤ j ∧ j < B.heap.size)) := fun j hj => (hO2 j hj).elim (fun h => (HOw.out j h).imp id (fun h => ⟨h.1, by have := hKB.size; omega⟩)) (fun h => .inr ⟨by have := HKW.out.size; omega, h.2⟩)
    clear hO2 hKB
    rcases hcase with ⟨rfl, hj'⟩ | ⟨rfl, hx'⟩
    ·have HJB : Hid (J (untrueK c t (k + 1)).length O2 B) := by rw [Hid, untrueK_yes Hx.out Hok'.out]; simpa using hj'
     clear hj'
     gi_wp2
     exact ⟨⟨k + 1, O2, by go_num, by omega, HKB, HOB, HJB⟩, by simp [intOf]; omega⟩
    gi_wp2
    refine bodyPost_ret (results_none rfl _ _ _) rfl ?_
    exact ⟨⟨_, rfl⟩, HKB.out, O2, HOB.out, .inr hx'⟩
  obtain rfl : k = q := by omega
  gi_wp2
  go_end0
  refine ⟨⟨_, rfl⟩, HK.out, O1, HO.out, .inl ?_⟩
  have := HJ.out
  rw [← Hq.out, untrueK_all] at this
  exact this
end Go.Proofs.YtdbfincinjoppabGreatDoor
