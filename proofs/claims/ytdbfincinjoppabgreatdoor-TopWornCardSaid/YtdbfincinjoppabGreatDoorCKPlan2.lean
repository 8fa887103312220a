/- A part of the proof that TopWorn always answers true. -/
import Derived.Test.YtdbfincinjoppabGreatDoorCKSome
set_option linter.all false
namespace Go.Proofs.YtdbfincinjoppabGreatDoor
open Go.RowKit Go.Shelf
set_option maxRecDepth 100000 in
set_option maxHeartbeats 8000000 in
theorem kplan_any {Ad C P : Option Addr} {n ca q cc m pc : Nat} {s : Shop} {l : List SeenC} {p : List (Int × Int)} {klo khi : Int} (w : World) (g : Moulds (fun _ => True) w Ad n s.moulds) (gs : SeenCs (fun _ => True) w C q l) (gp : Pairs (fun _ => True) w P m p) (hca : n ≤ ca) (h1 : s.klo = klo) (h2 : s.khi = khi) :
  Calls Tryz.prog 22 #[.agg #[.int .i64 klo, .int .i64 khi, .slice Ad n ca], .slice C q cc, .slice P m pc] w fun e w' => PlanT w.heap.size (planR s l p) e w' ∧ Below w.heap.size w w' := by
 obtain ⟨W, hW⟩ : ∃ W, w.alloc (.cells #[.int .i64 klo, .int .i64 khi, .slice Ad n ca] 26) = W := ⟨_, rfl⟩
 have hBW : Below w.heap.size w W := by rw [← hW]; exact bl_alloc (Below.refl _ _) _ (Nat.le_refl _)
 have hX : Blk W w.heap.size 26 #[.int .i64 klo, .int .i64 khi, .slice Ad n ca] := by rw [← hW]; exact Blk.new _ _ _ rfl
 have HO := Lib.hid (kopen_any (ca := ca) (cc := cc) (pc := pc) W (g.keep MouldR.good (Keeps.below hBW)) (gs.keep SeenCR.good (Keeps.below hBW)) (gp.keep PairR.good (Keeps.below hBW)) hca h1 h2)
 have HBW := Lib.hid hBW
 have HX := Lib.hid hX
 have HML := Lib.hid gp.len
 have HNL := Lib.hid g.len
 have HW := Lib.hid hW
 clear g gs gp hBW hW hX
 go_enter Tryz.func22, Tryz.ntmps22
 go_wp2_with fail
 rw [HW.out]
 refine HO.out.mono ?_
 rintro e W1 ⟨⟨A, c, rfl, hA⟩, b1⟩
 have B1 : Hid (Below w.heap.size w W1) := HBW.out.trans (b1.mono HBW.out.size)
 have hX1 := HX.out.bl b1
 have x2 := hX1.cell 2
 have xl := hX1.lt
 clear b1 hX1
 by_cases he : orderE s l p = 0
 ·obtain ⟨hok, hk, hp1, hp6⟩ := order_zero he
  rw [openR_0 he] at hA ⊢
  dsimp only at hA ⊢
  obtain ⟨o, ho⟩ : ∃ o, allL s l p = o := ⟨_, rfl⟩
  have HU : Hid (∀ j, (o.getD j []).length ≤ 32 ∧ ∀ a ∈ o.getD j [], a ∈ univ8) := by rw [← ho]; exact all_hu hok hk
  have hol : o.length = m := by rw [← ho]; unfold allL; rw [List.length_map]; exact HML.out
  have hm6 : m ≤ 6 := by have := HML.out; omega
  have hn4 : n ≤ 4 := by have := HNL.out; have := hok.nm; omega
  have HLS : Hid (∀ set, (setsL n).find? (planQ o m) = some set → planR s l p = (planK o set m, set, 0)) := fun set hf => by
   have h := planR_some he (set := set) (by rw [HNL.out, HML.out, ho]; exact hf)
   rw [HML.out, ho] at h
   exact h
  have HLN : Hid ((setsL n).find? (planQ o m) = none → planR s l p = ([], [], 8)) := fun hf => planR_none he (by rw [HNL.out, HML.out, ho]; exact hf)
  rw [ho, hol] at hA
  rw [ho, hol]
  have HA : Hid (Ords (fun _ => True) W1 A m o) := hA.mono OrdR.good (fun _ _ => trivial)
  have HOL := Lib.hid hol
  obtain ⟨hw2, hpp1, hpp64⟩ := two_pow6 m (by omega)
  have HALL : Hid (∀ j : Nat, j < m → bits BinOp.and .i64 ((((2 ^ m : Nat) : Int) - 1) / 2 ^ j) 1 = 1) := all_bits m (by omega)
  have HREST : Hid (∀ k : Nat, k < m → ∀ j : Nat, j < m → bits BinOp.and .i64 ((bits BinOp.andNot .i64 (((2 ^ m : Nat) : Int) - 1) (((2 ^ (k + 1) : Nat) : Int) - 1)) / 2 ^ j) 1 = if decide (k < j) then 1 else 0) := rest_bits m (by omega)
  obtain ⟨qm, hqm⟩ : ∃ qm : Nat, 2 ^ m = qm := ⟨_, rfl⟩
  rw [hqm] at hw2 hpp1 hpp64 HALL HREST
  have hw3 : IntKind.i64.wrap ((qm : Int) - 1) = qm - 1 := by rw [IntKind.wrap_i64]; omega
  have hm64 : (m : Int) < 64 := by omega
  clear he hok hk hp1 hp6 ho hA hol hqm
  go_wp2_with fail
  refine (ksets_any n (by omega) W1).mono ?_
  rintro e W2 ⟨⟨A2, c2, rfl, hI⟩, b2⟩
  obtain ⟨ls, hls⟩ : ∃ ls, (setsM n).length = ls := ⟨_, rfl⟩
  rw [hls] at hI ⊢
  have HI := Lib.hid hI
  have HLSS := Lib.hid hls
  have B2 : Hid (Below W1.heap.size W1 W2) := b2
  have hls64 := hI.le
  clear hI b2 hls x2 xl
  go_wp2_with fail
  go_loopw [6, 38] (fun v i' wr => ∃ k : Nat, i' = .int .i64 k ∧ k ≤ ls ∧ v = .slice none 0 0 ∧ Hid (∀ y ∈ (setsL n).take k, planQ o m y = false) ∧ Hid (Below W2.heap.size W2 wr)) (fun _ i' _ => ls - (intOf i').toNat)
  case atStart => exact ⟨0, rfl, Nat.zero_le _, rfl, by rw [Hid, List.take_zero]; exact (fun y hy => by cases hy), Below.refl _ _⟩
  case round =>
   obtain ⟨k, rfl, hk, rfl, HT, HB⟩ := hrel
   have HBA : Hid (Below W1.heap.size W1 wr) := B2.out.trans (HB.out.mono B2.out.size)
   have HBw : Hid (Below w.heap.size w wr) := B1.out.trans (HBA.out.mono B1.out.size)
   by_cases hlt : k < ls
   ·have hki : (k : Int) < ls := by omega
    obtain ⟨b3, off3, x, rfl, hd3, Hx⟩ := Ints.get (HI.out.keep IntR.good (Keeps.below HB.out)) hlt
    obtain ⟨sv, hsv, rfl⟩ : ∃ sv : Nat, (setsM n)[k]? = some sv ∧ x = (sv : Int) := by
     have h := Hx.out
     have hkl : k < (setsM n).length := by rw [HLSS.out]; exact hlt
     rw [List.getElem?_map, List.getElem?_eq_getElem hkl] at h
     exact ⟨_, List.getElem?_eq_getElem hkl, by simpa using h.symm⟩
    have hs64 := setsM_lt n (by omega) sv (List.mem_of_getElem? hsv)
    obtain ⟨set, hset⟩ : ∃ set, bitL sv = set := ⟨_, rfl⟩
    have HSET : Hid ((setsL n)[k]? = some set) := by rw [Hid, ← setsM_bits n (by omega), List.getElem?_map, hsv, ← hset]; rfl
    have HBIT : Hid (∀ a ∈ univ8, bits BinOp.and .i64 ((sv : Int) / 2 ^ a.1) 1 = if hasN set a.1 then 1 else 0) := fun a ha => by rw [← hset]; exact mask_bits sv (by omega) a.1 (by have := (univ8_bd a ha).1; omega)
    obtain ⟨gv, hgv⟩ : ∃ gv, giveR o (fun a => hasN set a.1) (fun _ => true) [] = gv := ⟨_, rfl⟩
    have hgv6 : gv ≤ 6 := by rw [← hgv]; exact give_le8 _ _ _ _ (by rw [HOL.out]; exact hm6)
    have HGV := Lib.hid hgv
    have HSE := Lib.hid hset
    clear hsv hgv hset
    go_wp2_with fail
    refine (kgive_any (L := 32) (univ := univ8) (fixed := []) (is := fun _ => true) HU.out univ8_bd (fun a h => by cases h) (by decide) (by rw [univ8_len]; omega) (by omega) (by rw [HOL.out]; exact hm6) (fun i => by rw [univ8_len]; have := (HU.out i).1; unfold seekF; omega) HBIT.out (fun i hi => by rw [if_pos rfl]; exact HALL.out i (by rw [← HOL.out]; exact hi)) wr (HA.out.keep OrdR.good (Keeps.below HBA.out)) (SliceOf.nil _ _ _ _ _)).mono ?_
    rintro e W3 ⟨rfl, b3⟩
    rw [HGV.out]
    have HB3 : Hid (Below W2.heap.size W2 W3) := bl_call HB.out b3 (Nat.le_refl _)
    have HB3A : Hid (Below W1.heap.size W1 W3) := bl_call HBA.out b3 (Nat.le_refl _)
    have HB3w : Hid (Below w.heap.size w W3) := bl_call HBw.out b3 (Nat.le_refl _)
    clear b3 hd3
    by_cases hgl : gv < m
    ·have hgi : (gv : Int) < m := by omega
     have HT2 : Hid (∀ y ∈ (setsL n).take (k + 1), planQ o m y = false) := by
      rw [Hid, take_snoc_get HSET.out]
      intro y hy
      rcases List.mem_append.1 hy with hy | hy
      ·exact HT.out y hy
      simp at hy; rw [hy]; unfold planQ; rw [HGV.out, decide_eq_true hgl]; rfl
     go_wp2_with fail
     go_roundw
     case rel => exact ⟨k + 1, by go_num, by omega, rfl, HT2, HB3⟩
     case measure => simp [intOf]; omega
    have hgi : ¬ (gv : Int) < m := by omega
    have hPQ : planQ o m set = true := by unfold planQ; rw [HGV.out, decide_eq_false hgl]; rfl
    have HR : Hid (planR s l p = (planK o set m, set, 0)) := HLS.out _ (find_at HT.out HSET.out hPQ)
    have HPK : Hid (∀ i, i ≤ m → (planK o set i).length = i ∧ ∀ a ∈ planK o set i, a ∈ univ8) := plan_known HU.out HOL.out hPQ
    clear hPQ
    go_wp2_with fail
    go_loopw [6, 51] (fun v i' wr => ∃ (i c : Nat) (Ap : Option Addr), i' = .int .i64 i ∧ i ≤ m ∧ v = .slice Ap i c ∧ Hid (Pls (fun k => w.heap.size ≤ k) wr Ap i (planK o set i)) ∧ Hid (Below W3.heap.size W3 wr)) (fun _ i' _ => m - (intOf i').toNat)
    case atStart => exact ⟨0, 0, none, rfl, Nat.zero_le _, rfl, ⟨rfl, Nat.zero_le _, fun k x hx => by simp [planK] at hx⟩, Below.refl _ _⟩
    case round =>
     obtain ⟨i, cp, Ap, rfl, him, rfl, HP, HBi⟩ := hrel
     have HBiA : Hid (Below W1.heap.size W1 wr) := HB3A.out.trans (HBi.out.mono HB3A.out.size)
     have HBiw : Hid (Below w.heap.size w wr) := HB3w.out.trans (HBi.out.mono HB3w.out.size)
     by_cases hlt2 : i < m
     ·have hii : (i : Int) < m := by omega
      obtain ⟨b4, off4, A1, n1, cx, xs, rfl, hb4, hd4, hP4, Hxs⟩ := Ords.get (HA.out.keep OrdR.good (Keeps.below HBiA.out)) hlt2
      have HXS := Lib.hid hP4
      have hn1 := hP4.le
      have HXG : Hid (o.getD i [] = xs) := getD_of Hxs.out
      have HXL := Lib.hid hP4.len
      obtain ⟨plan, hplan⟩ : ∃ plan, planK o set i = plan := ⟨_, rfl⟩
      rw [hplan] at HP
      have HPI : Hid (plan.length = i ∧ ∀ a ∈ plan, a ∈ univ8) := by have := HPK.out i (by omega); rw [hplan] at this; exact this
      have HSTEP := Lib.hid (planK_step (set := set) (k := i) HOL.out)
      rw [hplan, HXG.out] at HSTEP
      have HRE := HREST.out i hlt2
      obtain ⟨i1, hi1⟩ : ∃ i1, i + 1 = i1 := ⟨_, rfl⟩
      have hwi : IntKind.i64.wrap ((i : Int) + 1) = i1 := by rw [IntKind.wrap_i64]; omega
      obtain ⟨hw4, hr1, hr64⟩ := two_pow6 i1 (by omega)
      rw [hi1] at HRE
      obtain ⟨r, hr⟩ : ∃ r : Nat, 2 ^ i1 = r := ⟨_, rfl⟩
      rw [hr] at HRE hw4 hr1 hr64
      have hw5 : IntKind.i64.wrap ((r : Int) - 1) = r - 1 := by rw [IntKind.wrap_i64]; omega
      obtain ⟨rest, hrest⟩ : ∃ rest, bits BinOp.andNot .i64 ((qm : Int) - 1) ((r : Int) - 1) = rest := ⟨_, rfl⟩
      rw [hrest] at HRE
      have HRE2 := Lib.hid HRE
      have hi64 : (i1 : Int) < 64 := by omega
      have hii1 : (i : Int) < i1 := by omega
      obtain ⟨d1, hd1⟩ : ∃ d1, m - i = d1 := ⟨_, rfl⟩
      obtain ⟨d2, hd2⟩ : ∃ d2, m - i - 1 = d2 := ⟨_, rfl⟩
      have hwd1 : IntKind.i64.wrap ((m : Int) - i) = d1 := by rw [IntKind.wrap_i64]; omega
      have hwd2 : IntKind.i64.wrap ((d1 : Int) - 1) = d2 := by rw [IntKind.wrap_i64]; omega
      have HI1 := Lib.hid hi1
      have HD2 := Lib.hid hd2
      clear HRE hr hplan hP4 hi1 hd1 hd2
      go_wp2_with fail
      clear hrest hd4 hw4 hw5
      obtain ⟨Wm, hWm⟩ : ∃ Wm : World, Wm = wr := ⟨_, rfl⟩
      subst hWm
      go_loopw [6, 64] (fun v i' wr => ∃ j : Nat, i' = .int .i64 j ∧ j ≤ n1 ∧ v = .slice Ap i cp ∧ Hid (∀ y ∈ xs.take j, pickQ o m set i plan y = false) ∧ Hid (Below Wm.heap.size Wm wr)) (fun _ i' _ => n1 - (intOf i').toNat)
      case atStart => exact ⟨0, rfl, Nat.zero_le _, rfl, by rw [Hid, List.take_zero]; exact (fun y hy => by cases hy), Below.refl _ _⟩
      case round =>
       obtain ⟨j, rfl, hj, rfl, HTJ, HBJ⟩ := hrel
       have HBJ3 : Hid (Below W3.heap.size W3 wr) := bl_call HBi.out HBJ.out (Nat.le_refl _)
       by_cases hlt3 : j < n1
       ·have hji : (j : Int) < n1 := by omega
        obtain ⟨b5, off5, am, ac, rfl, hb5, hd0, hd1, Hat⟩ := Pls.get (HXS.out.keep PlR.good (Keeps.below HBJ.out)) hlt3
        have hTS : Hid (xs.take (j + 1) = xs.take j ++ [(am, ac)]) := take_snoc_get Hat.out
        have hau : (am, ac) ∈ univ8 := (HU.out i).2 _ (by rw [HXG.out]; exact List.mem_of_getElem? Hat.out)
        obtain ⟨ham, hac⟩ := univ8_bd _ hau
        dsimp only at ham hac
        have HAU := Lib.hid hau
        obtain ⟨V, hV⟩ : ∃ V, wr.alloc (.cells #[.int .i64 (am : Int), .int .i64 (ac : Int)] 37) = V := ⟨_, rfl⟩
        obtain ⟨g9, hg9⟩ : ∃ g, wr.heap.size = g := ⟨_, rfl⟩
        have hbV : Below wr.heap.size wr V := by rw [← hV]; exact bl_alloc (Below.refl _ _) _ (Nat.le_refl _)
        have HBV : Hid (Below Wm.heap.size Wm V) := bl_call HBJ.out hbV (Nat.le_refl _)
        have hM9 : Blk V g9 37 #[.int .i64 (am : Int), .int .i64 (ac : Int)] := by rw [← hV, ← hg9]; exact Blk.new _ _ _ rfl
        have k0 := hM9.cell 0
        have k1 := hM9.cell 1
        have kl := hM9.lt
        have HM9 := Lib.hid hM9
        have ham' : (am : Int) < 64 := by omega
        have hbit := HBIT.out _ hau
        dsimp only at hbit
        clear hbV hau hM9
        cases hoka : hasN set am with
        | false =>
         rw [hoka, if_neg (by decide)] at hbit
         have HT2 : Hid (∀ y ∈ xs.take (j + 1), pickQ o m set i plan y = false) := by
          rw [Hid, hTS.out]
          intro y hy
          rcases List.mem_append.1 hy with hy | hy
          ·exact HTJ.out y hy
          simp at hy; rw [hy]; unfold pickQ; rw [hoka]; rfl
         clear hoka
         go_wp2_with fail
         go_roundw
         case rel => exact ⟨j + 1, by go_num, by omega, rfl, HT2, HBV⟩
         case measure => simp [intOf]; omega
        | true =>
         rw [hoka, if_pos rfl] at hbit
         have HOA := Lib.hid hoka
         clear hoka
         go_wp2_with fail
         refine (kcontains_any am ac V (HP.out.keep PlR.good (Keeps.below HBV.out))).mono ?_
         rintro e V2 ⟨rfl, hb2⟩
         have HBV2 : Hid (Below Wm.heap.size Wm V2) := bl_call HBV.out hb2 (Nat.le_refl _)
         have hM2 := HM9.out.bl hb2
         have kl2 := hM2.lt
         have HM2 := Lib.hid hM2
         clear hb2 hM2 k0 k1 hd0 hd1
         cases hct : plan.contains (am, ac) with
         | true =>
          have HT2 : Hid (∀ y ∈ xs.take (j + 1), pickQ o m set i plan y = false) := by
           rw [Hid, hTS.out]
           intro y hy
           rcases List.mem_append.1 hy with hy | hy
           ·exact HTJ.out y hy
           simp at hy; rw [hy]; unfold pickQ; rw [hct, Bool.not_true, Bool.and_false, Bool.false_and]
          clear hct
          go_wp2_with fail
          go_roundw
          case rel => exact ⟨j + 1, by go_num, by omega, rfl, HT2, HBV2⟩
          case measure => simp [intOf]; omega
         | false =>
          have HCT := Lib.hid hct
          clear hct
          obtain ⟨V3, cur, hmk, hb3, hB3, hcs⟩ := make_pl i1 (by have := HI1.out; omega) V2
          obtain ⟨gs, hgs⟩ : ∃ g, V2.heap.size = g := ⟨_, rfl⟩
          rw [hgs] at hmk hB3
          have HBV3 : Hid (Below Wm.heap.size Wm V3) := bl_call HBV2.out hb3 (Nat.le_refl _)
          have hM3 := HM2.out.bl hb3
          have hgs9 : g9 < gs := by omega
          have hgsr : Wm.heap.size ≤ gs := by have := HBV2.out.size; omega
          have hgsl := hB3.lt
          have hcr := copy_run (P := Tryz.prog) (ty := 3) (cp := cp) Tryz.underlying69 infoPlS hB3 (by rw [hcs, HI1.out]) (HP.out.keep PlR.good (Keeps.below HBV3.out))
          rw [HI1.out] at hcr
          have hcl : (cellsPl plan).length = i * 2 := by rw [cellsPl_len, HPI.out.1]
          obtain ⟨V4, hV4⟩ : ∃ V4, V3.setRow gs (putAt cur 0 (cellsPl plan)) = V4 := ⟨_, rfl⟩
          rw [hV4] at hcr
          have hB4 : Blk V4 gs 37 (putAt cur 0 (cellsPl plan)) := by rw [← hV4]; exact hB3.setRow _
          have hk4 : Kept (fun k => k = gs) V3 V4 := by rw [← hV4]; exact Kept.setRow _ _ _ rfl
          have hM4 : Blk V4 g9 37 #[.int .i64 (am : Int), .int .i64 (ac : Int)] := (hk4.block _ hM3.lt (by omega)).trans hM3
          have hnew : putAt (putAt cur 0 (cellsPl plan)) (i * 2) (#[Value.int .i64 (am : Int), .int .i64 (ac : Int)] : Array Value).toList = (cellsPl (plan ++ [(am, ac)])).toArray := by
           rw [cellsPl_snoc, ← hcl]
           exact putAt_pre (by rw [hcs, hcl, ← HI1.out]; simp; omega)
          have hold : i * 2 + (#[Value.int .i64 (am : Int), .int .i64 (ac : Int)] : Array Value).size ≤ (putAt cur 0 (cellsPl plan)).size := by rw [putAt_size, hcs, ← HI1.out]; simp; omega
          have HBV4 : Hid (Below Wm.heap.size Wm V4) := HBV3.out.trans (hk4.below HBV3.out.size (fun k hk => by omega))
          have k0 := hM4.cell 0
          have k1 := hM4.cell 1
          have kl4 := hM4.lt
          have HON : Hid ((#[Value.int .i64 (am : Int), .int .i64 (ac : Int)] : Array Value).all (·.oneCell') = true) := by rw [Hid]; simp [Value.oneCell']
          have HB4 := Lib.hid hB4
          have HNEW := Lib.hid hnew
          have HOLD := Lib.hid hold
          clear hM3 hB3 hV4 hb3 hk4 hM4 hB4 hnew hold hgs
          go_wp2_with (with_reducible show wpList _ _ _ (_ :: _) _ _; (refine wpList_store_k rfl 37 (.tmp 88) (.tmp 87) rfl gs (i * 2) #[.int .i64 (am : Int), .int .i64 (ac : Int)] rfl rfl _ _ _ HB4.out HNEW.out infoPlS2 HOLD.out HON.out ?_))
          intro V5 hB5 hk5
          have hlen1 : (plan ++ [(am, ac)]).length = i1 := by rw [List.length_append, HPI.out.1, ← HI1.out]; rfl
          have HBV5 : Hid (Below Wm.heap.size Wm V5) := HBV4.out.trans (hk5.below HBV4.out.size (fun k hk => by omega))
          have hPL : Pls (fun k => w.heap.size ≤ k) V5 (some ⟨gs, 0, none⟩) i1 (plan ++ [(am, ac)]) := by
           have h := Pls.of_blk (S := fun k => w.heap.size ≤ k) hB5 (by have := HBiw.out.size; omega) (by rw [hlen1]; omega)
           rw [hlen1] at h
           exact h
          have HPL := Lib.hid hPL
          have HL1 := Lib.hid hlen1
          have HBA5 : Hid (Below W1.heap.size W1 V5) := bl_call HBiA.out HBV5.out (Nat.le_refl _)
          clear hB5 hk5 hlen1 hPL k0 k1 kl4 hcr hmk kl kl2 hgsl
          go_wp2_with fail
          obtain ⟨gw, hgw⟩ : ∃ gw, giveR o (fun p => hasN set p.1) (fun j => decide (i < j)) (plan ++ [(am, ac)]) = gw := ⟨_, rfl⟩
          have hgw6 : gw ≤ 6 := by rw [← hgw]; exact give_le8 _ _ _ _ (by rw [HOL.out]; exact hm6)
          have HGW := Lib.hid hgw
          clear hgw
          refine (kgive_any (L := 32) (univ := univ8) (fixed := plan ++ [(am, ac)]) (is := fun j => decide (i < j)) (ok := fun p => hasN set p.1) HU.out univ8_bd (fun x hx => by
           rcases List.mem_append.1 hx with hx | hx
           ·exact univ8_bd x (HPI.out.2 x hx)
           simp at hx; rw [hx]; exact univ8_bd _ HAU.out) (by rw [HL1.out]; omega) (by rw [univ8_len]; omega) (by omega) (by rw [HOL.out]; exact hm6) (fun i => by rw [univ8_len]; have := (HU.out i).1; unfold seekF; omega) HBIT.out (fun j hj => HRE2.out j (by rw [← HOL.out]; exact hj)) V5 (HA.out.keep OrdR.good (Keeps.below HBA5.out)) (HPL.out.mono PlR.good (fun _ _ => trivial))).mono ?_
          rintro e V6 ⟨rfl, b6⟩
          rw [HGW.out]
          have HBV6 : Hid (Below Wm.heap.size Wm V6) := bl_call HBV5.out b6 (Nat.le_refl _)
          have HPL6 : Hid (Pls (fun k => w.heap.size ≤ k) V6 (some ⟨gs, 0, none⟩) i1 (plan ++ [(am, ac)])) := HPL.out.keep PlR.good (Keeps.below b6)
          clear b6
          by_cases hgd : gw = d2
          ·have hgi2 : ((gw : Int) == d2) = true := by rw [hgd]; simp
           have hpick : pickQ o m set i plan (am, ac) = true := by
            unfold pickQ
            rw [HCT.out, HGW.out, HD2.out, decide_eq_true hgd, Bool.not_false, Bool.and_true, Bool.and_true]
            exact HOA.out
           have HNX : Hid (planK o set i1 = plan ++ [(am, ac)]) := by
            have h := HSTEP.out
            rw [find_at HTJ.out Hat.out hpick, HI1.out] at h
            exact h
           have HB7 : Hid (Below W3.heap.size W3 V6) := bl_call HBi.out HBV6.out (Nat.le_refl _)
           clear hpick
           go_wp2_with fail
           go_roundw
           case rel => exact ⟨i1, i1, _, by first | rfl | go_num, by have := HI1.out; omega, rfl, by rw [Hid, HNX.out]; exact HPL6.out, HB7⟩
           case measure => have := HI1.out; simp [intOf]; omega
          have hgi2 : ((gw : Int) == d2) = false := by simp; omega
          have HT2 : Hid (∀ y ∈ xs.take (j + 1), pickQ o m set i plan y = false) := by
           rw [Hid, hTS.out]
           intro y hy
           rcases List.mem_append.1 hy with hy | hy
           ·exact HTJ.out y hy
           simp at hy; rw [hy]; unfold pickQ; rw [HGW.out, HD2.out, decide_eq_false hgd, Bool.and_false]
          go_wp2_with fail
          go_roundw
          case rel => exact ⟨j + 1, by go_num, by omega, rfl, HT2, HBV6⟩
          case measure => simp [intOf]; omega
       exfalso
       obtain rfl : j = n1 := by omega
       have h := find_none HTJ.out (by have := HXL.out; omega)
       have h2 := HSTEP.out
       rw [h] at h2
       have h3 := (HPK.out (i + 1) (by omega)).1
       rw [h2] at h3
       have := HPI.out.1
       dsimp only at h3
       omega
     obtain rfl : i = m := by omega
     have hii : ¬ (i : Int) < i := by omega
     go_wp2_with fail
     refine (klist_any sv wr (by omega)).mono ?_
     rintro e W4 ⟨⟨A4, c4, rfl, i4⟩, g4⟩
     have HE4 : Hid (Below w.heap.size w W4) := bl_call HBiw.out g4.2 (Nat.le_refl _)
     have HI4 : Hid (Ints (fun k => w.heap.size ≤ k) W4 A4 (bitL sv).length (bitL sv)) := i4.mono IntR.good (fun k h => Nat.le_trans HBiw.out.size h)
     have HP4 : Hid (Pls (fun k => w.heap.size ≤ k) W4 Ap i (planK o set i)) := HP.out.keep PlR.good (Keeps.below g4.2)
     clear i4 g4
     go_wp2_with fail
     go_ret3
     have hpl := (HPK.out i (Nat.le_refl _)).1
     refine ⟨by rw [HR.out, ← HSE.out]; exact ⟨Ap, cp, A4, c4, by rw [HSE.out]; dsimp only; rw [hpl]; rfl, by rw [HSE.out]; dsimp only; rw [hpl]; exact HP4.out, HI4.out⟩, HE4.out⟩
   obtain rfl : k = ls := by omega
   have hki : ¬ (k : Int) < k := by omega
   have HR : Hid (planR s l p = ([], [], 8)) := HLN.out (find_none HT.out (by rw [← setsM_bits n (by omega), List.length_map, HLSS.out]; exact Nat.le_refl _))
   go_wp2_with fail
   go_ret3
   exact ⟨by rw [HR.out]; exact PlanT.nil, HBw.out⟩
 have HR := Lib.hid (planR_bad he)
 rw [openR_e he]
 obtain ⟨oe, hoe⟩ : ∃ oe, orderE s l p = oe := ⟨_, rfl⟩
 rw [hoe] at he
 have hob : (oe != 0) = true := by simpa using he
 have HR2 : Hid (planR s l p = ([], [], oe)) := by rw [Hid, HR.out, hoe]
 rw [hoe]
 clear hA HR hoe he x2 xl
 go_wp2_with fail
 go_ret3
 exact ⟨by rw [HR2.out]; exact PlanT.nil, B1.out⟩
end Go.Proofs.YtdbfincinjoppabGreatDoor
