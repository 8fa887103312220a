/- A part of the proof that TopWorn always answers true. -/
import Derived.Test.YtdbfincinjoppabGreatDoorCCastPlan2
import Derived.Test.YtdbfincinjoppabGreatDoorCKSeek
import Derived.Test.YtdbfincinjoppabGreatDoorCRegion8
set_option linter.all false
namespace Go.Proofs.YtdbfincinjoppabGreatDoor
open Go.RowKit Go.Shelf
theorem more_bits : ∀ k : Nat, k < 6 → ∀ s : Nat, s < 2 ^ k → bits BinOp.or .i64 (s : Int) ((2 : Int) ^ k) = ((s + 2 ^ k : Nat) : Int) ∧ s + 2 ^ k < 2 ^ (k + 1) ∧ bitL (s + 2 ^ k) = bitL s ++ [(k : Int)] := by decide +kernel
theorem pow_i : ∀ k : Nat, k < 6 → IntKind.i64.wrap ((2 : Int) ^ k) = 2 ^ k := by decide +kernel
theorem pow6 : ∀ k : Nat, k < 7 → 2 ^ k ≤ 64 := by decide
set_option maxRecDepth 100000 in
set_option maxHeartbeats 4000000 in
theorem ksome_any {Ad C P : Option Addr} {n ca q cc m pc : Nat} {s : Shop} {l : List SeenC} {p : List (Int × Int)} {klo khi : Int} (w : World) (g : Moulds (fun _ => True) w Ad n s.moulds) (gs : SeenCs (fun _ => True) w C q l) (gp : Pairs (fun _ => True) w P m p) (hca : n ≤ ca) (h1 : s.klo = klo) (h2 : s.khi = khi) :
  Calls Tryz.prog 24 #[.agg #[.int .i64 klo, .int .i64 khi, .slice Ad n ca], .slice C q cc, .slice P m pc] w fun e w' => IntsT w.heap.size (someR s l p) e w' ∧ Below w.heap.size w w' := by
 obtain ⟨W, hW⟩ : ∃ W, w.alloc (.cells #[.int .i64 klo, .int .i64 khi, .slice Ad n ca] 26) = W := ⟨_, rfl⟩
 have hBW : Below w.heap.size w W := by rw [← hW]; exact bl_alloc (Below.refl _ _) _ (Nat.le_refl _)
 have HO := Lib.hid (kopen_any (ca := ca) (cc := cc) (pc := pc) W (g.keep MouldR.good (Keeps.below hBW)) (gs.keep SeenCR.good (Keeps.below hBW)) (gp.keep PairR.good (Keeps.below hBW)) hca h1 h2)
 have HBW := Lib.hid hBW
 have HML := Lib.hid gp.len
 have HW := Lib.hid hW
 clear g gs gp hBW hW
 go_enter Tryz.func24, Tryz.ntmps24
 go_wp2_with fail
 rw [HW.out]
 refine HO.out.mono ?_
 rintro e W1 ⟨⟨A, c, rfl, hA⟩, b1⟩
 have B1 : Hid (Below w.heap.size w W1) := HBW.out.trans (b1.mono HBW.out.size)
 clear b1
 by_cases he : orderE s l p = 0
 ·obtain ⟨hok, hk, hp1, hp6⟩ := order_zero he
  rw [openR_0 he] at hA ⊢
  dsimp only at hA ⊢
  obtain ⟨o, ho⟩ : ∃ o, allL s l p = o := ⟨_, rfl⟩
  have HU : Hid (∀ j, (o.getD j []).length ≤ 32 ∧ ∀ a ∈ o.getD j [], a ∈ univ8) := by rw [← ho]; exact all_hu hok hk
  have hol : o.length = m := by rw [← ho]; unfold allL; rw [List.length_map]; exact HML.out
  have hm6 : m ≤ 6 := by have := HML.out; omega
  have HR : Hid (someR s l p = (someK o m, 0)) := by rw [Hid, someR_0 he, ho, HML.out]
  rw [ho, hol] at hA
  rw [ho, hol]
  have HA : Hid (Ords (fun _ => True) W1 A m o) := hA.mono OrdR.good (fun _ _ => trivial)
  have HOL := Lib.hid hol
  clear he hok hk hp1 hp6 ho hA hol
  go_wp2_with fail
  go_loopw [9, 10, 11, 24] (fun v _ _ i' wr => ∃ k sv : Nat, i' = .int .i64 k ∧ k ≤ m ∧ v = .int .i64 (sv : Int) ∧ Hid (sv < 2 ^ k) ∧ Hid (bitL sv = someK o k) ∧ Hid (Below W1.heap.size W1 wr)) (fun _ _ _ i' _ => m - (intOf i').toNat)
  case atStart => exact ⟨0, 0, rfl, Nat.zero_le _, rfl, by show 0 < 1; omega, (by decide : bitL 0 = []), Below.refl _ _⟩
  case round =>
   obtain ⟨k, sv, rfl, hk, rfl, HS, HE, HB⟩ := hrel
   have HBw : Hid (Below w.heap.size w wr) := B1.out.trans (HB.out.mono B1.out.size)
   have hs64 : sv < 64 := by have := HS.out; have := pow6 k (by omega); omega
   by_cases hlt : k < m
   ·have hki : (k : Int) < m := by omega
    have hk64 : (k : Int) < 64 := by omega
    obtain ⟨hor, hlt2, hbm⟩ := more_bits k (by omega) sv HS.out
    have hpw := pow_i k (by omega)
    obtain ⟨mv, hmv⟩ : ∃ mv, sv + 2 ^ k = mv := ⟨_, rfl⟩
    rw [hmv] at hor hlt2 hbm
    have hm64 : mv < 64 := by have := pow6 (k + 1) (by omega); omega
    have hbl := bitL_len mv (by omega)
    have HST := Lib.hid (some_succ o k)
    obtain ⟨bl, hbl2⟩ : ∃ bl, (bitL mv).length = bl := ⟨_, rfl⟩
    have HBL : Hid ((someK o k).length + 1 = bl) := by rw [Hid, ← hbl2, hbm, List.length_append, HE.out]; rfl
    have HBM : Hid (bitL mv = someK o k ++ [(k : Int)]) := by rw [Hid, hbm, HE.out]
    rw [hbl2] at hbl
    have HONE : Hid (∀ V, Calls Tryz.prog 54 #[.int .u64 (mv : Int)] V fun e w' => e = .returned (.int .i64 (bl : Int)) ∧ V = w') := fun V => by have := ones_any mv (by omega) V; rw [hbl2] at this; exact this
    have HIS : Hid (∀ i, i < 8 → hasN (bitL mv) i = (hasN (someK o k) i || decide (i = k))) := fun i _ => by rw [HBM.out, has_snoc]
    obtain ⟨gv, hgv⟩ : ∃ gv, giveR o (fun _ => true) (fun j => hasN (someK o k) j || decide (j = k)) [] = gv := ⟨_, rfl⟩
    have hgv6 : gv ≤ 6 := by rw [← hgv]; exact give_le8 _ _ _ _ (by rw [HOL.out]; exact hm6)
    have HGV := Lib.hid hgv
    have HLT2 := Lib.hid hlt2
    clear hgv hbl2 hmv hlt2 hbm
    go_wp2_with fail
    refine (kgive_set HU.out (by rw [HOL.out]; exact hm6) mv (by omega) _ HIS.out wr (HA.out.keep OrdR.good (Keeps.below HB.out))).mono ?_
    rintro e W3 ⟨rfl, b3⟩
    rw [HGV.out]
    have HB3 : Hid (Below W1.heap.size W1 W3) := bl_call HB.out b3 (Nat.le_refl _)
    clear b3
    go_wp2_with fail
    refine (HONE.out _).mono ?_
    rintro e W4 ⟨rfl, rfl⟩
    by_cases hgl : gv = bl
    ·have HN : Hid (someK o (k + 1) = someK o k ++ [(k : Int)]) := by rw [Hid, HST.out, HGV.out, HBL.out, if_pos hgl]
     have hgi : ((gv : Int) == bl) = true := by rw [hgl]; simp
     go_wp2_with fail
     go_roundw
     case rel => exact ⟨k + 1, mv, by go_num, by omega, rfl, HLT2, by rw [Hid, HN.out, HBM.out], HB3⟩
     case measure => simp [intOf]; omega
    have HN : Hid (someK o (k + 1) = someK o k) := by rw [Hid, HST.out, HGV.out, HBL.out, if_neg hgl]
    have hgi : ((gv : Int) == bl) = false := by simp; omega
    go_wp2_with fail
    go_roundw
    case rel => exact ⟨k + 1, sv, by go_num, by omega, rfl, by have := HS.out; rw [Hid, Nat.pow_succ]; omega, by rw [Hid, HN.out]; exact HE.out, HB3⟩
    case measure => simp [intOf]; omega
   obtain rfl : k = m := by omega
   have hki : ¬ (k : Int) < k := by omega
   go_wp2_with fail
   refine (klist_any sv wr (by omega)).mono ?_
   rintro e W4 ⟨⟨A4, c4, rfl, i4⟩, g4⟩
   have HE4 : Hid (Below w.heap.size w W4) := bl_call HBw.out g4.2 (Nat.le_refl _)
   have HI4 : Hid (Ints (fun k => w.heap.size ≤ k) W4 A4 (bitL sv).length (bitL sv)) := i4.mono IntR.good (fun k h => Nat.le_trans HBw.out.size h)
   clear i4 g4
   go_wp2_with fail
   go_ret2
   exact ⟨by rw [HR.out, ← HE.out]; exact ⟨A4, c4, rfl, HI4.out⟩, HE4.out⟩
 have HR := Lib.hid (someR_bad he)
 rw [openR_e he]
 obtain ⟨oe, hoe⟩ : ∃ oe, orderE s l p = oe := ⟨_, rfl⟩
 rw [hoe] at he
 have hob : (oe != 0) = true := by simpa using he
 have HR2 : Hid (someR s l p = ([], oe)) := by rw [Hid, HR.out, hoe]
 rw [hoe]
 clear hA HR hoe he
 go_wp2_with fail
 go_ret2
 exact ⟨by rw [HR2.out]; exact IntsT.nil, B1.out⟩
open Go.RowKit Go.Shelf
theorem noneIn {xs : List (Nat × Nat)} {b : Nat × Nat} : ∀ y ∈ xs.take 0, y ≠ b := fun y hy => by rw [List.take_zero] at hy; cases hy
set_option maxRecDepth 100000 in
set_option maxHeartbeats 1000000 in
theorem kindex_any {S : Foot} {A : Option Addr} {m c : Nat} {xs : List (Nat × Nat)} (a z : Nat) (w : World) (h : Pls S w A m xs) :
  Calls Tryz.prog 84 #[.slice A m c, .agg #[.int .i64 (a : Int), .int .i64 (z : Int)]] w fun e w' => (∃ i : Int, e = .returned (.int .i64 i) ∧ (0 ≤ i ↔ (a, z) ∈ xs)) ∧ Below w.heap.size w w' := by
 obtain ⟨W, hW⟩ : ∃ W, w.alloc (.cells #[.int .i64 (a : Int), .int .i64 (z : Int)] 37) = W := ⟨_, rfl⟩
 obtain ⟨g9, hg9⟩ : ∃ g, w.heap.size = g := ⟨_, rfl⟩
 have hBW : Below w.heap.size w W := by rw [← hW]; exact bl_alloc (Below.refl _ _) _ (Nat.le_refl _)
 have hX : Blk W g9 37 #[.int .i64 (a : Int), .int .i64 (z : Int)] := by rw [← hW, ← hg9]; exact Blk.new _ _ _ rfl
 have HBW := Lib.hid hBW
 have HX := Lib.hid hX
 have HP : Hid (Pls S W A m xs) := h.keep PlR.good (Keeps.below hBW)
 have HML := Lib.hid h.len
 have hml := h.le
 clear h hBW hX
 go_enter Tryz.func84, Tryz.ntmps84
 go_wp2_with fail
 clear hW
 go_loopw [5, 8] (fun _ i' wr => ∃ k : Nat, i' = .int .i64 k ∧ k ≤ m ∧ Hid (∀ y ∈ xs.take k, y ≠ (a, z)) ∧ Hid (Below W.heap.size W wr)) (fun _ i' _ => m - (intOf i').toNat)
 case atStart => exact ⟨0, rfl, Nat.zero_le _, noneIn, Below.refl _ _⟩
 case round =>
  obtain ⟨k, rfl, hk, HT, HB⟩ := hrel
  by_cases hlt : k < m
  ·have hki : (k : Int) < m := by omega
   obtain ⟨b2, off2, am, ac, rfl, hb2, hd0, hd1, Hat⟩ := Pls.get (HP.out.keep PlR.good (Keeps.below HB.out)) hlt
   have hTS : Hid (xs.take (k + 1) = xs.take k ++ [(am, ac)]) := take_snoc_get Hat.out
   go_wp2_with fail
   have kk : Hid (∀ V : World, Below wr.heap.size wr V → V.cell? ⟨g9, 0, none⟩ = some (.int .i64 (a : Int)) ∧ V.cell? ⟨g9, 1, none⟩ = some (.int .i64 (z : Int)) ∧ V.cell? ⟨b2, off2 + k * 2, none⟩ = some (.int .i64 (am : Int)) ∧ V.cell? ⟨b2, off2 + k * 2 + 1, none⟩ = some (.int .i64 (ac : Int))) := fun V hV => by
    have hx := HX.out.bl (bl_call HB.out hV (Nat.le_refl _))
    exact ⟨hx.cell 0, hx.cell 1, getc hV hd0, getc hV hd1⟩
   obtain ⟨bb, hbb⟩ : ∃ bb, decide ((a, z) = (am, ac)) = bb := ⟨_, rfl⟩
   have HBB := Lib.hid hbb
   clear hbb
   refine wp_region_list (fun V => Below wr.heap.size wr V) (fun _ _ => True)
    [isV (.agg #[.int .i64 (a : Int), .int .i64 (z : Int)]), isV (.slice (some ⟨b2, off2, none⟩) m c), isV (.int .i64 (k : Int)), isV (.pointer (some ⟨b2, off2 + k * 2, none⟩)), isV (.agg #[.int .i64 (am : Int), .int .i64 (ac : Int)]), isV (.bool bb)]
    (by kernel_rfl) (by kernel_rfl) (by kernel_rfl) (by simp) (by simp) (Below.refl _ _).drew ?stab ?step ?fin
   case stab => exact (StabL.is (StabL.is (StabL.is (StabL.is (StabL.is (StabL.is StabL.nil))))))
   case step =>
    refine StepsL.isA ?_ (StepsL.isA ?_ (StepsL.isA ?_ (StepsL.isA ?_ (StepsL.isA ?_ (StepsL.isA ?_ StepsL.nil)))))
    ·intro vs t W K ha hC hD hU hK
     have r3 : t.tmps[3]? = some (.pointer (some ⟨g9, 0, none⟩)) := by rw [ha]; kernel_rfl
     clear ha hU hD
     rw [if_pos (by rfl)]
     obtain ⟨k0, k1, k2, k3⟩ := kk.out W hC
     go_simp
     exact hK _ hC trivial
    ·intro vs t W K ha hC hD hU hK
     have r0 : t.tmps[0]? = some (.slice (some ⟨b2, off2, none⟩) m c) := by rw [ha]; kernel_rfl
     clear ha hU hD
     rw [if_pos (by rfl)]
     go_simp
     exact hK _ hC trivial
    ·intro vs t W K ha hC hD hU hK
     have r5 : t.tmps[5]? = some (.int .i64 (k : Int)) := by rw [ha]; kernel_rfl
     clear ha hU hD
     rw [if_pos (by rfl)]
     go_simp
     exact hK _ hC trivial
    ·intro vs t W K ha hC hD hU hK
     have r12 : t.tmps[12]? = some (vs 1) := by rw [ha]; kernel_rfl
     have q1 : vs 1 = .slice (some ⟨b2, off2, none⟩) m c := hD 1 (by simp [waits, Region.binds])
     rw [q1] at r12
     have r13 : t.tmps[13]? = some (vs 2) := by rw [ha]; kernel_rfl
     have q2 : vs 2 = .int .i64 (k : Int) := hD 2 (by simp [waits, Region.binds])
     rw [q2] at r13
     clear ha hU hD
     rw [if_pos (by rfl)]
     go_simp
     exact hK _ hC trivial
    ·intro vs t W K ha hC hD hU hK
     have r14 : t.tmps[14]? = some (vs 3) := by rw [ha]; kernel_rfl
     have q3 : vs 3 = .pointer (some ⟨b2, off2 + k * 2, none⟩) := hD 3 (by simp [waits, Region.binds])
     rw [q3] at r14
     clear ha hU hD
     rw [if_pos (by rfl)]
     obtain ⟨k0, k1, k2, k3⟩ := kk.out W hC
     go_simp
     exact hK _ hC trivial
    intro vs t W K ha hC hD hU hK
    have r11 : t.tmps[11]? = some (vs 0) := by rw [ha]; kernel_rfl
    have q0 : vs 0 = .agg #[.int .i64 (a : Int), .int .i64 (z : Int)] := hD 0 (by simp [waits, Region.binds])
    rw [q0] at r11
    have r15 : t.tmps[15]? = some (vs 4) := by rw [ha]; kernel_rfl
    have q4 : vs 4 = .agg #[.int .i64 (am : Int), .int .i64 (ac : Int)] := hD 4 (by simp [waits, Region.binds])
    rw [q4] at r15
    clear ha hU hD
    rw [if_pos (by rfl)]
    go_simp
    by_cases h1 : a = am
    ·by_cases h2 : z = ac
     ·have hb : bb = true := by rw [← HBB.out, h1, h2]; simp
      subst hb
      rw [if_pos (by omega), if_pos (by omega)]
      go_simp
      exact hK _ hC trivial
     have hb : bb = false := by rw [← HBB.out]; simp [h2]
     subst hb
     rw [if_pos (by omega), if_neg (by omega)]
     go_simp
     exact hK _ hC trivial
    have hb : bb = false := by rw [← HBB.out]; simp [h1]
    subst hb
    rw [if_neg (by omega)]
    go_simp
    exact hK _ hC trivial
   intro vs W9 hC hE hU
   have e5 := hE 5 (by simp)
   simp only [envOf, List.getD_cons_succ, List.getD_cons_zero, isV] at e5
   simp only [fillA, Act.put, List.setIfInBounds_toArray, List.set_cons_zero, List.set_cons_succ, Nat.zero_add, Nat.reduceAdd, e5]
   obtain ⟨u0, hu0⟩ : ∃ v0, vs 0 = v0 := ⟨_, rfl⟩
   obtain ⟨u1, hu1⟩ : ∃ v0, vs 1 = v0 := ⟨_, rfl⟩
   obtain ⟨u2, hu2⟩ : ∃ v0, vs 2 = v0 := ⟨_, rfl⟩
   obtain ⟨u3, hu3⟩ : ∃ v0, vs 3 = v0 := ⟨_, rfl⟩
   obtain ⟨u4, hu4⟩ : ∃ v0, vs 4 = v0 := ⟨_, rfl⟩
   rw [hu0, hu1, hu2, hu3, hu4]
   have HB9 : Hid (Below W.heap.size W W9) := bl_call HB.out hC (Nat.le_refl _)
   clear hu0 hu1 hu2 hu3 hu4 hE hU e5 hC HB
   cases bb with
   | true =>
    have heq : (a, z) = (am, ac) := of_decide_eq_true HBB.out
    have HIN : Hid ((a, z) ∈ xs) := by rw [Hid, heq]; exact List.mem_of_getElem? Hat.out
    clear heq
    go_simp
    go_wp2_with fail
    go_ret
    exact ⟨⟨k, rfl, by simp [HIN.out]⟩, HBW.out.trans (HB9.out.mono HBW.out.size)⟩
   | false =>
    have hne : (am, ac) ≠ (a, z) := fun e => of_decide_eq_false HBB.out e.symm
    have HT2 : Hid (∀ y ∈ xs.take (k + 1), y ≠ (a, z)) := by
     rw [Hid, hTS.out]
     intro y hy
     rcases List.mem_append.1 hy with hy | hy
     ·exact HT.out y hy
     simp at hy; rw [hy]; exact hne
    clear hne
    go_simp
    go_wp2_with fail
    go_roundw
    case rel => exact ⟨k + 1, by go_num, by omega, HT2, HB9⟩
    case measure => simp [intOf]; omega
  obtain rfl : k = m := by omega
  have hki : ¬ (k : Int) < k := by omega
  have HN : Hid ((a, z) ∉ xs) := fun h => by
   have h2 := HT.out (a, z)
   rw [List.take_of_length_le (by have := HML.out; omega)] at h2
   exact h2 h rfl
  go_wp2_with fail
  go_ret
  have hend := HBW.out.trans (HB.out.mono HBW.out.size)
  exact ⟨⟨-1, rfl, by simp [HN.out]⟩, by first | exact hend | (rw [← hg9]; exact hend)⟩
set_option maxRecDepth 100000 in
theorem kcontains_any {S : Foot} {A : Option Addr} {m c : Nat} {xs : List (Nat × Nat)} (a z : Nat) (w : World) (h : Pls S w A m xs) :
  Calls Tryz.prog 52 #[.slice A m c, .agg #[.int .i64 (a : Int), .int .i64 (z : Int)]] w fun e w' => e = .returned (.bool (xs.contains (a, z))) ∧ Below w.heap.size w w' := by
 obtain ⟨W, hW⟩ : ∃ W, w.alloc (.cells #[.int .i64 (a : Int), .int .i64 (z : Int)] 37) = W := ⟨_, rfl⟩
 have hBW : Below w.heap.size w W := by rw [← hW]; exact bl_alloc (Below.refl _ _) _ (Nat.le_refl _)
 have hX : Blk W w.heap.size 37 #[.int .i64 (a : Int), .int .i64 (z : Int)] := by rw [← hW]; exact Blk.new _ _ _ rfl
 have x0 := hX.cell 0
 have x1 := hX.cell 1
 have xl := hX.lt
 clear hX
 have HI := Lib.hid (kindex_any (c := c) a z W (h.keep PlR.good (Keeps.below hBW)))
 obtain ⟨bb, hbb⟩ : ∃ bb, xs.contains (a, z) = bb := ⟨_, rfl⟩
 have HBB : Hid ((a, z) ∈ xs ↔ bb = true) := by rw [Hid, ← hbb]; exact List.contains_iff_mem.symm
 rw [hbb]
 clear hbb h
 go_enter Tryz.func52, Tryz.ntmps52
 go_wp2_with fail
 refine HI.out.mono ?_
 rintro e w' ⟨⟨i, rfl, hi⟩, hb⟩
 have HB2 : Hid (Below w.heap.size w w') := hBW.trans (hb.mono hBW.size)
 have hd : decide (0 ≤ i) = bb := by
  have := hi.trans HBB.out
  cases bb with
  | true => exact decide_eq_true (this.2 rfl)
  | false => exact decide_eq_false fun h => by have := this.1 h; cases this
 clear hi hb hBW
 go_wp2_with fail
 go_ret
 exact ⟨rfl, HB2.out⟩
open Go.RowKit Go.Shelf
def cellsPl (xs : List (Nat × Nat)) : List Value := xs.flatMap fun x => [.int .i64 (x.1 : Int), .int .i64 (x.2 : Int)]
theorem cellsPl_len (xs : List (Nat × Nat)) : (cellsPl xs).length = xs.length * 2 := by
 induction xs with
 | nil => rfl
 | cons x xs ih => unfold cellsPl at *; rw [List.flatMap_cons, List.length_append, ih]; simp; omega
theorem cellsPl_snoc (xs : List (Nat × Nat)) (x : Nat × Nat) : cellsPl (xs ++ [x]) = cellsPl xs ++ [.int .i64 (x.1 : Int), .int .i64 (x.2 : Int)] := by
 unfold cellsPl; rw [List.flatMap_append]; simp
theorem cellsPl_get : ∀ (xs : List (Nat × Nat)) (k : Nat) (x : Nat × Nat), xs[k]? = some x → (cellsPl xs)[k * 2]? = some (.int .i64 (x.1 : Int)) ∧ (cellsPl xs)[k * 2 + 1]? = some (.int .i64 (x.2 : Int))
 | [], k, x, h => by simp at h
 | y :: xs, 0, x, h => by simp at h; subst h; exact ⟨rfl, rfl⟩
 | y :: xs, k + 1, x, h => by
  obtain ⟨h1, h2⟩ := cellsPl_get xs k x (by simpa using h)
  have e : cellsPl (y :: xs) = .int .i64 (y.1 : Int) :: .int .i64 (y.2 : Int) :: cellsPl xs := rfl
  rw [e]
  refine ⟨?_, ?_⟩
  ·rw [show (k + 1) * 2 = k * 2 + 1 + 1 by omega, List.getElem?_cons_succ, List.getElem?_cons_succ]; exact h1
  rw [show (k + 1) * 2 + 1 = k * 2 + 1 + 1 + 1 by omega, List.getElem?_cons_succ, List.getElem?_cons_succ]; exact h2
theorem cellsPl_one (xs : List (Nat × Nat)) : ∀ v ∈ cellsPl xs, v.oneCell' = true := by
 intro v hv
 unfold cellsPl at hv
 rw [List.mem_flatMap] at hv
 obtain ⟨x, _, hv⟩ := hv
 simp at hv
 rcases hv with rfl | rfl <;> rfl
theorem Pls.of_blk {S : Foot} {w : World} {g : Nat} {t : TypeId} {xs : List (Nat × Nat)} (h : Blk w g t (cellsPl xs).toArray) (hS : S g) (hn : xs.length ≤ 1000) : Pls S w (some ⟨g, 0, none⟩) xs.length xs :=
 ⟨rfl, by unfold maxLen; omega, fun k x hx => by
  obtain ⟨h1, h2⟩ := cellsPl_get xs k x hx
  refine ⟨g, 0, [.int .i64 (x.1 : Int), .int .i64 (x.2 : Int)], rfl, hS, h.lt, rfl, fun j v hv => ?_⟩
  rw [Nat.zero_add, h.cell]
  match j, hv with
  | 0, hv => simp at hv; subst hv; simpa using h1
  | 1, hv => simp at hv; subst hv; simpa using h2
  | j + 2, hv => simp at hv⟩
theorem Pls.cells {S : Foot} {w : World} {b off n : Nat} {xs : List (Nat × Nat)} (h : Pls S w (some ⟨b, off, none⟩) n xs) (j : Nat) (v : Value) (hv : (cellsPl xs)[j]? = some v) : w.cell? ((⟨b, off, none⟩ : Addr).add j) = some v := by
 have hj : j < xs.length * 2 := by have := of_getq' hv; rwa [cellsPl_len] at this
 have hk : j / 2 < xs.length := by omega
 obtain ⟨h1, h2⟩ := cellsPl_get xs (j / 2) _ (List.getElem?_eq_getElem hk)
 obtain ⟨b', off', a, z, e, _, c1, c2, hx⟩ := Pls.get h (k := j / 2) (by rw [← h.len]; exact hk)
 injection e with e; injection e with e1 e2; subst e1 e2
 have hx := hx.out
 rw [List.getElem?_eq_getElem hk] at hx
 injection hx with hx
 rw [hx] at h1 h2
 rw [add_at]
 by_cases hm : j % 2 = 0
 ·rw [show j = j / 2 * 2 by omega] at hv ⊢
  rw [h1] at hv; injection hv with hv; subst hv
  exact c1
 rw [show j = j / 2 * 2 + 1 by omega] at hv ⊢
 rw [h2] at hv; injection hv with hv; subst hv
 rw [← Nat.add_assoc]; exact c2
theorem Pls.nilA {S : Foot} {w : World} {n : Nat} {xs : List (Nat × Nat)} (h : Pls S w none n xs) : n = 0 ∧ xs = [] := by
 cases xs with
 | nil => exact ⟨h.len.symm, rfl⟩
 | cons x xs => obtain ⟨b, off, vs, hA, _⟩ := h.2.2 0 x rfl; cases hA
theorem copy_run {P : Program} {S : Foot} {w : World} {t ty e : TypeId} {g i cp : Nat} {A : Option Addr} {plan : List (Nat × Nat)} {cur : Array Value} (hu : P.underlying t = some (.slice e)) (hs : (P.info? e).map (·.size) = some 2)
  (hB : Blk w g e cur) (hsz : cur.size = (i + 1) * 2) (hP : Pls S w A i plan) :
  (Builtin.copy_ #[t, t] ty #[.slice (some ⟨g, 0, none⟩) (i + 1) (i + 1), .slice A i cp]).run P w = .ok (goInt i) (w.setRow g (putAt cur 0 (cellsPl plan))) := by
 obtain ⟨inf, hinf, hi⟩ := Option.map_eq_some_iff.1 hs
 cases A with
 | none =>
  obtain ⟨rfl, rfl⟩ := hP.nilA
  have hsr : w.setRow g (putAt cur 0 (cellsPl [])) = w := setRow_same w g cur e hB
  rw [hsr]
  simp [Builtin.copy_, run_underlying hu, Builtin.lenOf, Builtin.firstCells, sizeOf, typeInfo, hinf, hi, storeCells]
 | some a =>
  have hlen := cellsPl_len plan
  rw [hP.len] at hlen
  have hl : (loadCells a (i * 2)).run P w = .ok (cellsPl plan).toArray w := by
   rw [← hlen]
   by_cases hi0 : plan = []
   ·subst hi0; exact run_loadCells_list (P := P) w a [] (fun j v hv => by simp at hv)
   obtain ⟨x, xs, rfl⟩ := List.exists_cons_of_ne_nil hi0
   obtain ⟨b, off, vs, hA, _⟩ := hP.2.2 0 x rfl
   injection hA with hA; subst hA
   exact run_loadCells_list (P := P) w _ _ hP.cells
  have hst := run_storeCells_put (P := P) g 0 e (cellsPl plan) 0 cur w hB (by rw [hlen]; omega) (cellsPl_one plan)
  have hmin : Nat.min i (i + 1) = i := Nat.min_eq_left (Nat.le_succ i)
  simp [Builtin.copy_, run_underlying hu, Builtin.lenOf, Builtin.firstCells, sizeOf, typeInfo, hinf, hi, hl, hmin, hst]
theorem putAt_pre {cur : Array Value} {vs : List Value} {us : List Value} (h : cur.size = vs.length + us.length) : putAt (putAt cur 0 vs) vs.length us = (vs ++ us).toArray := by
 apply Array.ext_getElem?
 intro j
 rw [putAt_get _ _ _ _ (by rw [putAt_size]; omega), putAt_get _ _ _ _ (by omega)]
 simp only [List.getElem?_toArray]
 by_cases h1 : vs.length ≤ j ∧ j < vs.length + us.length
 ·rw [if_pos h1, List.getElem?_append_right h1.1]
 rw [if_neg h1]
 by_cases h2 : j < vs.length
 ·rw [if_pos ⟨Nat.zero_le _, by omega⟩, List.getElem?_append_left h2]; rfl
 rw [if_neg (by omega), Array.getElem?_eq_none (by omega), List.getElem?_eq_none (by simp; omega)]
theorem wpList_store_k {P : Program} {ops : Array Oper} {rest : List Oper} {o : Oper} {a : Act} {w : World} {Q : Exit → Act → World → Prop} (hgd : o.guard = none) (ty : TypeId) (x y : Operand) (ho : o.op = .store ty x y)
  (g off : Nat) (cells : Array Value) (hx : a.eval x = .pointer (some ⟨g, off, none⟩)) (hy : a.eval y = .agg cells)
  (t : TypeId) (old new : Array Value) (hg : Blk w g t old) (hnew : putAt old off cells.toList = new) (hi : (P.info? ty).map (·.size) = some cells.size)
  (hold : off + cells.size ≤ old.size) (h1 : cells.all (·.oneCell') = true)
  (h : ∀ V, Blk V g t new → Kept (fun k => k = g) w V → wpList P ops Q rest (a.put o.dst undef) V) : wpList P ops Q (o :: rest) a w :=
 wpList_plain hgd fun K hK => by
  refine wp_store_part ty x y ho g off cells hx hy t old hg hi hold h1 ?_
  rw [hnew]
  exact hK _ _ (h _ (hg.setRow _) (Kept.setRow _ _ _ rfl))
open Go.RowKit Go.Shelf
theorem all_bits : ∀ m : Nat, m < 7 → ∀ j : Nat, j < m → bits BinOp.and .i64 ((((2 ^ m : Nat) : Int) - 1) / 2 ^ j) 1 = 1 := by decide +kernel
theorem rest_bits : ∀ m : Nat, m < 7 → ∀ k : Nat, k < m → ∀ j : Nat, j < m → bits BinOp.and .i64 ((bits BinOp.andNot .i64 (((2 ^ m : Nat) : Int) - 1) (((2 ^ (k + 1) : Nat) : Int) - 1)) / 2 ^ j) 1 = if decide (k < j) then 1 else 0 := by decide +kernel
def planQ (o : List (List Pl)) (m : Nat) (set : List Int) : Bool := !decide (giveR o (fun a => hasN set a.1) (fun _ => true) [] < m)
def pickQ (o : List (List Pl)) (m : Nat) (set : List Int) (k : Nat) (plan : List Pl) (a : Pl) : Bool := hasN set a.1 && !plan.contains a && decide (giveR o (fun p => hasN set p.1) (fun j => decide (k < j)) (plan ++ [a]) = m - k - 1)
theorem planK_step {o : List (List Pl)} {m : Nat} {set : List Int} {k : Nat} (hm : o.length = m) : planK o set (k + 1) = match (o.getD k []).find? (pickQ o m set k (planK o set k)) with
  | some a => planK o set k ++ [a]
  | none => planK o set k := by
 subst hm; exact planK_succ o set k
theorem planR_bad {s : Shop} {l : List SeenC} {p : List (Int × Int)} (h : orderE s l p ≠ 0) : planR s l p = ([], [], orderE s l p) := by rw [planR, if_pos h]
theorem planR_none {s : Shop} {l : List SeenC} {p : List (Int × Int)} (h : orderE s l p = 0) (hf : (setsL s.moulds.length).find? (planQ (allL s l p) p.length) = none) : planR s l p = ([], [], 8) := by
 rw [planR, if_neg (by simp [h])]
 have : (fun set : List Int => !decide (giveR (allL s l p) (fun a => hasN set a.1) (fun _ => true) [] < p.length)) = planQ (allL s l p) p.length := rfl
 rw [this, hf]
theorem planR_some {s : Shop} {l : List SeenC} {p : List (Int × Int)} {set : List Int} (h : orderE s l p = 0) (hf : (setsL s.moulds.length).find? (planQ (allL s l p) p.length) = some set) : planR s l p = (planK (allL s l p) set p.length, set, 0) := by
 rw [planR, if_neg (by simp [h])]
 have : (fun set : List Int => !decide (giveR (allL s l p) (fun a => hasN set a.1) (fun _ => true) [] < p.length)) = planQ (allL s l p) p.length := rfl
 rw [this, hf]
theorem plan_known {o : List (List Pl)} {m : Nat} {set : List Int} (hu : ∀ j, (o.getD j []).length ≤ 32 ∧ ∀ a ∈ o.getD j [], a ∈ univ8) (hm : o.length = m) (hq : planQ o m set = true) : ∀ k, k ≤ m → (planK o set k).length = k ∧ ∀ a ∈ planK o set k, a ∈ univ8 := by
 subst hm
 have hF : 32 + univ8.length * (32 + 1) ≤ seekF := by rw [univ8_len]; unfold seekF; omega
 have hc : CanP o (fun p => hasN set p.1) (fun _ => true) [] o.length := by
  refine (can_iff hu hF).1 ?_
  rw [count_all]
  have h1 := give_le o (fun p => hasN set p.1) (fun _ => true) [] o.length
  rw [count_all] at h1
  unfold planQ at hq
  simp at hq
  have h2 : giveR o (fun p => hasN set p.1) (fun _ => true) [] ≤ o.length := h1
  omega
 intro k hk
 obtain ⟨h1, _, _, h4⟩ := plan_can hu hF hc k hk
 refine ⟨h1, fun a ha => ?_⟩
 obtain ⟨i, hi, he⟩ := List.getElem_of_mem ha
 exact (hu i).2 a (h4 i a (by rw [List.getElem?_eq_getElem hi, he])).1
def PlanT (B : Nat) (r : List Pl × List Int × Int) (e : Ending) (w' : World) : Prop := ∃ A c A2 c2, e = .returned (.tuple #[.slice A r.1.length c, .slice A2 r.2.1.length c2, .int .i64 r.2.2]) ∧ Pls (fun k => B ≤ k) w' A r.1.length r.1 ∧ Ints (fun k => B ≤ k) w' A2 r.2.1.length r.2.1
theorem PlanT.nil {B : Nat} {e : Int} {w' : World} : PlanT B ([], [], e) (.returned (.tuple #[.slice none 0 0, .slice none 0 0, .int .i64 e])) w' := ⟨none, 0, none, 0, rfl, ⟨rfl, Nat.zero_le _, fun k x hx => by simp at hx⟩, ⟨rfl, Nat.zero_le _, fun k x hx => by simp at hx⟩⟩
theorem make_pl (n : Nat) (hn : n ≤ 10) (w : World) : ∃ (V : World) (cur : Array Value), (Instr.makeSlice 69 (.int .i64 (n : Int)) (.int .i64 (n : Int))).run Tryz.prog w = .ok (.slice (some ⟨w.heap.size, 0, none⟩) n n) V ∧ Below w.heap.size w V ∧ Blk V w.heap.size 37 cur ∧ cur.size = n * 2 := by
 obtain ⟨iP, hiP, hz0, hz1, hz2⟩ := info_parts infoPl7
 have h := run_make (P := Tryz.prog) w 69 37 iP _ Tryz.underlying69 hiP hz0 .i64 .i64 (n : Int) (n : Int) (by omega) (by omega) (by rw [hz2]; omega) (by omega)
 rw [Int.toNat_natCast] at h
 exact ⟨_, _, h, bl_alloc (Below.refl _ _) _ (Nat.le_refl _), Blk.new _ _ _ rfl, by rw [size_madeCells, hz1]⟩
theorem infoPlS2 {x y : Value} : (Tryz.prog.info? 37).map (·.size) = some (#[x, y] : Array Value).size := by kernel_rfl
theorem infoPlS : (Tryz.prog.info? 37).map (·.size) = some 2 := by kernel_rfl
end Go.Proofs.YtdbfincinjoppabGreatDoor
