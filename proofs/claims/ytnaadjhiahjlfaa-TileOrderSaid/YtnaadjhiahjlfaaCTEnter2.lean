/- Walks: the loop of a hall that is looked at. -/
import Derived.Test.YtnaadjhiahjlfaaCTEnter1
set_option linter.unusedVariables false
set_option linter.unusedSimpArgs false
set_option linter.all false
namespace Go.Proofs.Ytnaadjhiahjlfaa
open Go.RowKit Go.Shelf
attribute [local go_sem] Oper.semAt_some

/-- the first loop in some code -/
def firstLoopC : Code → Option Code
  | .loop c => some c
  | .seq a b => match firstLoopC a with
    | some c => some c
    | none => firstLoopC b
  | .block _ c => firstLoopC c
  | .scope c => firstLoopC c
  | .cond _ a b => match firstLoopC a with
    | some c => some c
    | none => firstLoopC b
  | _ => none
noncomputable def enterLoop : Code := (Try.f60.body.bind firstLoopC).getD .skip

def DefersAt (ds : List Nat) (B : Nat) (w : World) : Prop := ds.Nodup ∧ ∀ D ∈ ds, B ≤ D ∧ w.heap[D]? = some (.deferred (some []))
theorem DefersAt.kept {ds : List Nat} {B : Nat} {w w' : World} {M : Foot} (h : DefersAt ds B w) (hk : Kept M w w') (hM : ∀ D, M D → D < w.heap.size → D ∉ ds) : DefersAt ds B w' :=
  ⟨h.1, fun D hD => ⟨(h.2 D hD).1, (hk.block D (Array.getElem?_eq_some_iff.1 (h.2 D hD).2).1 (fun hm => hM D hm (Array.getElem?_eq_some_iff.1 (h.2 D hD).2).1 hD)).trans (h.2 D hD).2⟩⟩
theorem DefersAt.lt {ds : List Nat} {B : Nat} {w : World} (h : DefersAt ds B w) {D : Nat} (hD : D ∈ ds) : D < w.heap.size := (Array.getElem?_eq_some_iff.1 (h.2 D hD).2).1
theorem DefersAt.cons {ds : List Nat} {B D : Nat} {w : World} (h : DefersAt ds B w) (hn : D ∉ ds) (hB : B ≤ D) (hD : w.heap[D]? = some (.deferred (some []))) : DefersAt (D :: ds) B w :=
  ⟨List.nodup_cons.2 ⟨hn, h.1⟩, fun E hE => by rcases List.mem_cons.1 hE with rfl | hE; exact ⟨hB, hD⟩; exact h.2 E hE⟩

theorem wide8_fun (h : Hall) (l : List Seen) (k : Nat) : Value.agg (cellsF fun a => wideOf ((twosL h l k).take (twosL h l k).length) a) = wideV h l k := by
  rw [List.take_length]; rfl

theorem size_widths {f : Nat → Int × Int} : (Try.prog.info? 162).map (·.size) = some (cellsF f).size := by rw [cellsF_size]; kernel_rfl

set_option maxRecDepth 100000 in
set_option maxHeartbeats 1000000 in
theorem enter_loop {A B C : Option Addr} {n ca m cb q cc : Nat} {h : Hall} {l : List Seen} {alo ahi most : Int} {W2 : World} {gm gh B0 : Nat} {rv : Value} {T0 : TypeId}
    (hokh : OkH h) (hl6 : l.length ≤ 6) (hsn : ∀ (k : Nat) (y : Seen), l[k]? = some y → 0 ≤ y.air ∧ y.air ≤ 40) (hn : h.tiles.length = n) (hB0 : B0 ≤ gm) (hgmh : gm < gh)
    (MH : Blk W2 gh T0 #[.int .i64 alo, .int .i64 ahi, .int .i64 most, .slice A n ca, .slice B m cb, .slice C q cc, .map (some gm), rv]) (MM : MapOf W2 gm [])
    (hb : HallAt (fun k => True ∧ k < B0) W2 A n B m h) (sb : Seens (fun k => True ∧ k < B0) W2 C q l)
    {Q : Exit → Act → World → Prop} (c0 c1 c2 c3 c5 c6 c14 c15 c16 c17 c18 c19 c20 c21 c22 c23 c24 c25 c26 c27 c28 c29 c30 c31 c32 c33 c34 c35 c36 c87 v7 v8 v9 v10 v11 v12 v13 v39 v40 v41 v42 v43 v44 v45 v46 v47 v48 v49 v50 v51 v52 v53 v54 v55 v56 v57 v58 v59 v60 v61 v62 v63 v64 v65 v66 v67 v68 v69 v70 v71 v72 v73 v74 v75 v76 v77 v78 v79 v80 v81 v82 v83 v84 v85 v86 : Value)
    (hexit : ∀ (ds : List Nat) (u : Nat → Value) (w' : World), DefersAt ds W2.heap.size w' → Kept (fun j => j = gm ∨ W2.heap.size ≤ j) W2 w' → MapOf w' gm (knownV h l n) → (∀ t, t < n → twosL h l t ≠ []) → Q (.exit 0) { tmps := #[c0, c1, c2, c3, .pointer (some ⟨gh, 0, none⟩), c5, c6, u 7, u 8, u 9, u 10, u 11, u 12, u 13, c14, c15, c16, c17, c18, c19, c20, c21, c22, c23, c24, c25, c26, c27, c28, c29, c30, c31, c32, c33, c34, c35, c36, .int .i64 n, u 38, u 39, u 40, u 41, u 42, u 43, u 44, u 45, u 46, u 47, u 48, u 49, u 50, u 51, u 52, u 53, u 54, u 55, u 56, u 57, u 58, u 59, u 60, u 61, u 62, u 63, u 64, u 65, u 66, u 67, u 68, u 69, u 70, u 71, u 72, u 73, u 74, u 75, u 76, u 77, u 78, u 79, u 80, u 81, u 82, u 83, u 84, u 85, u 86, c87], defers := ds.map markD } w')
    (hret : ∀ (ds : List Nat) (tmps : Array Value) (w' : World), DefersAt ds W2.heap.size w' → Kept (fun j => j = gm ∨ W2.heap.size ≤ j) W2 w' → (∃ t, t < n ∧ twosL h l t = []) → (∀ w, (results Try.f60 tmps).run Try.prog w = .ok (.tuple #[.pointer (some ⟨gh, 0, none⟩), .bool false, .int .i64 0]) w) → Q .ret { tmps := tmps, defers := ds.map markD } w') :
    (Code.loop enterLoop).wpIn Fence.wide 1 Try.prog Q { tmps := #[c0, c1, c2, c3, .pointer (some ⟨gh, 0, none⟩), c5, c6, v7, v8, v9, v10, v11, v12, v13, c14, c15, c16, c17, c18, c19, c20, c21, c22, c23, c24, c25, c26, c27, c28, c29, c30, c31, c32, c33, c34, c35, c36, .int .i64 n, .int .i64 0, v39, v40, v41, v42, v43, v44, v45, v46, v47, v48, v49, v50, v51, v52, v53, v54, v55, v56, v57, v58, v59, v60, v61, v62, v63, v64, v65, v66, v67, v68, v69, v70, v71, v72, v73, v74, v75, v76, v77, v78, v79, v80, v81, v82, v83, v84, v85, v86, c87], defers := [] } W2 := by
  have hgmlt := MM.lt
  have hghlt := MH.lt
  have Hn := Lib.hid hn
  have hlen := hb.ts.le
  have HEX := Lib.hid hexit
  have HRT := Lib.hid hret
  clear hexit hret
  refine wpIn_loop (fun a' w' => ∃ (k : Nat) (ds : List Nat) (u : Nat → Value), k ≤ n ∧ Hid (DefersAt ds W2.heap.size w') ∧ Hid (Kept (fun j => j = gm ∨ W2.heap.size ≤ j) W2 w') ∧ Hid (MapOf w' gm (knownV h l k)) ∧ Hid (∀ t, t < k → twosL h l t ≠ []) ∧ a' = { tmps := #[c0, c1, c2, c3, .pointer (some ⟨gh, 0, none⟩), c5, c6, u 7, u 8, u 9, u 10, u 11, u 12, u 13, c14, c15, c16, c17, c18, c19, c20, c21, c22, c23, c24, c25, c26, c27, c28, c29, c30, c31, c32, c33, c34, c35, c36, .int .i64 n, .int .i64 k, u 39, u 40, u 41, u 42, u 43, u 44, u 45, u 46, u 47, u 48, u 49, u 50, u 51, u 52, u 53, u 54, u 55, u 56, u 57, u 58, u 59, u 60, u 61, u 62, u 63, u 64, u 65, u 66, u 67, u 68, u 69, u 70, u 71, u 72, u 73, u 74, u 75, u 76, u 77, u 78, u 79, u 80, u 81, u 82, u 83, u 84, u 85, u 86, c87], defers := ds.map markD }) (fun a' _ => n - (intOf (a'.tmps.getD 38 undef)).toNat) ?_ ?_
  · exact ⟨0, [], (fun i => (#[c0, c1, c2, c3, .pointer (some ⟨gh, 0, none⟩), c5, c6, v7, v8, v9, v10, v11, v12, v13, c14, c15, c16, c17, c18, c19, c20, c21, c22, c23, c24, c25, c26, c27, c28, c29, c30, c31, c32, c33, c34, c35, c36, .int .i64 n, .int .i64 0, v39, v40, v41, v42, v43, v44, v45, v46, v47, v48, v49, v50, v51, v52, v53, v54, v55, v56, v57, v58, v59, v60, v61, v62, v63, v64, v65, v66, v67, v68, v69, v70, v71, v72, v73, v74, v75, v76, v77, v78, v79, v80, v81, v82, v83, v84, v85, v86, c87] : Array Value).getD i undef), Nat.zero_le _, ⟨List.nodup_nil, fun D h => by cases h⟩, Kept.refl _ _, MM, (fun t h => by omega), rfl⟩
  · rintro a' wr ⟨k, ds, u, hk, HD, HK, HM, HT, rfl⟩
    conv => arg 4; whnf
    refine wpIn_wide.2 ?_
    by_cases hlt : k < n
    · have hki : (k : Int) < n := by omega
      obtain ⟨wa, hwa⟩ : ∃ wa, wr.alloc (.cells Try.zeroCells162 162) = wa := ⟨_, rfl⟩
      go_wp2_with fail
      refine (truths_call gh k _).mono ?_
      rintro e w' ⟨rfl, rfl⟩
      obtain ⟨gw, hgw⟩ : ∃ gw, wr.heap.size = gw := ⟨_, rfl⟩
      obtain ⟨gf, hgf⟩ : ∃ gf, wa.heap.size = gf := ⟨_, rfl⟩
      have e1 : gf = gw + 1 := by rw [← hgf, ← hwa, ← hgw]; simp
      have e2 : (wa.alloc (.cells #[.bool false] 4)).heap.size = gf + 1 := by rw [← hgf]; simp
      have q1 : Blk wa gw 162 (cellsF fun _ => (0, 0)) := by rw [← hwa, ← zeros82]; exact Blk.new _ _ _ hgw.symm
      obtain ⟨wd, hwd⟩ : ∃ wd, ((wa.alloc (.cells #[.bool false] 4)).alloc (.cells #[.pointer (some ⟨gh, 0, none⟩)] 110)).alloc (.cells #[.int .i64 k] 3) = wd := ⟨_, rfl⟩
      have e3 : wd.heap.size = gf + 3 := by rw [← hwd]; simp [hgf]
      have q2 : Blk wd gw 162 (cellsF fun _ => (0, 0)) := by rw [← hwd]; exact ((q1.alloc _).alloc _).alloc _
      have q3 : Blk wd gf 4 #[.bool false] := by rw [← hwd]; exact ((Blk.new _ _ _ hgf.symm).alloc _).alloc _
      have q4 : Blk wd (gf + 1) 110 #[.pointer (some ⟨gh, 0, none⟩)] := by rw [← hwd]; exact (Blk.new _ _ _ e2.symm).alloc _
      have q5 : Blk wd (gf + 2) 3 #[.int .i64 k] := by rw [← hwd]; exact Blk.new _ _ _ (by simp [hgf])
      have hKd : Kept (fun _ => False) wr wd := by rw [← hwd, ← hwa]; exact (((Kept.alloc _ _ _).trans (Kept.alloc _ _ _)).trans (Kept.alloc _ _ _)).trans (Kept.alloc _ _ _)
      have eb : (wa.alloc (.cells #[.bool false] 4)).heap.size + 1 = gf + 2 := by rw [e2]
      rw [eb, e2, hwd, hgw, hgf]
      have hsz : W2.heap.size ≤ gw := by rw [← hgw]; exact HK.out.size
      have HSW : Hid (wr.heap.size = gw) := hgw
      have HSD : Hid (wd.heap.size = gf + 3) := e3
      have hkT : k < h.tiles.length := by rw [Hn.out]; exact hlt
      have hK2d : Kept (fun j => j = gm ∨ W2.heap.size ≤ j) W2 wd := HK.out.trans hKd.any
      have hDd : DefersAt ds W2.heap.size wd := HD.out.kept hKd (fun D hD => hD.elim)
      have hMd : MapOf wd gm (knownV h l k) := HM.out.at (hKd.block _ HM.out.lt (fun h => h))
      clear eb e2 hwd hwa q1 hgw hgf hKd e3 hki
      have HKD := Lib.hid hK2d
      have HDD := Lib.hid hDd
      have HMD := Lib.hid hMd
      clear hK2d hDd hMd
      subst e1
      go_wp2_with fail
      refine (wpIn_wide (n := 1)).1 ?_
      have KA : ∀ A', Kept (fun j => (j = gw ∨ j = gw + 1) ∨ wd.heap.size ≤ j) wd A' → Kept (fun j => j = gm ∨ W2.heap.size ≤ j) W2 A' := fun A' hK => HKD.out.seq hK (fun i _ h => by have := HSD.out; omega)
      refine rangeFunc_outer (m := 1) (gf := 134) (lb := #[.pointer (some ⟨gw + 2, 0, none⟩), .pointer (some ⟨gw + 3, 0, none⟩)]) rfl eg_truths (truths_seq (T := A) (n := n) (ct := ca) (R := B) (m := m) (L := C) (q := q) (cl := cc) (h := h) (l := l) (gw + 2) (gw + 3) gh k hkT (hokh.tile hkT) hl6 hsn) (fun _ => rfl) (fun j => j = gw ∨ j = gw + 1) (EnterJ gw (gw + 1) (twosL h l k)) (fun _ _ _ => False) ?o0 ?inv (fun i O A B h1 _ hK => h1.stay hK) (fun _ _ _ _ h _ _ => h) ?init (enter_round (by omega) _ (fun p hp => twos_bd hokh hkT hp) _ _ _ _ _ _ _ _ _ _ _ _ _ _ _ _ _ _ _ _ _ _ _ _ _ _ _ _ _ _ _ _ _ _ _ _ _ _ _ _ _ _ _ _ _ _ _ _ _ _ _ _ _ _ _ _ _ _ _ _ _ _ _ _ _ _ _ _ _ _ _ _ _ _ _ _ _ _ _ _ _ _ _ _ _ _ _ _) ?done (fun _ _ _ _ h _ _ _ _ _ => h.elim)
      case o0 => intro j hj; have := HSD.out; omega
      case inv =>
        intro A' hK
        have hKA := KA A' hK
        have h1 : Blk A' (gw + 2) 110 #[.pointer (some ⟨gh, 0, none⟩)] := (hK.block _ q4.lt (by have := HSD.out; omega)).trans q4
        have h2 : Blk A' (gw + 3) 3 #[.int .i64 k] := (hK.block _ q5.lt (by have := HSD.out; omega)).trans q5
        have h3 := (hKA.block _ hghlt (by omega)).trans MH
        exact ⟨⟨_, h1⟩, ⟨_, h2⟩, Blk.cell h3 3, Blk.cell h3 5, (hb.keep (hKA.keeps (fun j hj e => by omega))).mono (fun _ _ => trivial), (sb.keep SeenR.good (hKA.keeps (fun j hj e => by omega))).mono SeenR.good (fun _ _ => trivial)⟩
      case init => exact ⟨rfl, q2, q3⟩
      case done =>
        rintro O w9 D ⟨hOe, hB1, hB2⟩ hO hK9 hD hnD hDb
        have KA9 := KA w9 hK9
        have DD : DefersAt (D :: ds) W2.heap.size w9 := (HDD.out.kept hK9 (fun E hE hlt hm => by have := HSD.out; have := HSW.out; have := HD.out.lt hm; omega)).cons (fun hm => by have := HDD.out.lt hm; omega) (by have := HSD.out; omega) hDb
        have hMM : MapOf w9 gm (knownV h l k) := HMD.out.at (hK9.block _ HMD.out.lt (by have := HSD.out; omega))
        have HDD9 := Lib.hid DD
        have HKA9 := Lib.hid KA9
        have b0 := hB2.cell 0
        have HB1 := Lib.hid hB1
        clear DD KA9 hB2 hB1 hOe hO hnD hD hDb hK9
        by_cases hnil : twosL h l k = []
        · have hz : decide (0 < (twosL h l k).length) = false := by rw [hnil]; rfl
          rw [hz] at b0
          have HNIL := Lib.hid hnil
          clear hz hnil
          gi_wp2_with fail
          go_wp2_with fail
          exact HRT.out (D :: ds) _ w9 HDD9.out HKA9.out ⟨k, hlt, HNIL.out⟩ (fun w => by simp [results, Try.results60, go_sem])
        · have hz : decide (0 < (twosL h l k).length) = true := decide_eq_true (List.length_pos_iff.2 hnil)
          rw [hz] at b0
          have HNIL := Lib.hid hnil
          clear hz hnil
          gi_wp2_with fail
          go_wp2_with fail
          have hM9 : Blk w9 gh T0 #[.int .i64 alo, .int .i64 ahi, .int .i64 most, .slice A n ca, .slice B m cb, .slice C q cc, .map (some gm), rv] := (HKA9.out.block _ hghlt (by omega)).trans MH
          have hp6 := hM9.cell 6
          have HP6 : Hid (w9.cell? ⟨gh, 6, none⟩ = some (.map (some gm))) := hp6
          clear hM9 hp6 b0
          refine wp_region_list (fun W => Below w9.heap.size w9 W) (fun w w' => Below w.heap.size w w')
            [isV (.pointer (some ⟨gh, 0, none⟩)), isV (.pointer (some ⟨gh, 0, none⟩)), isV (.pointer (some ⟨gh, 6, none⟩)), isV (.map (some gm)), isV (.int .i64 k), isV (wideV h l k)]
            (by kernel_rfl) (by kernel_rfl) (by kernel_rfl) (by simp) (by simp) (Below.refl _ _).drew ?stab ?step ?fin
          case stab => exact StabL.is (StabL.is (StabL.is (StabL.is (StabL.is (StabL.is StabL.nil)))))
          case step =>
            refine StepsL.is ?_ (StepsL.is ?_ (StepsL.is ?_ (StepsL.is ?_ (StepsL.is ?_ (StepsL.is ?_ StepsL.nil)))))
            all_goals
              intro vs W K hC hD hU hK
              simp only [fillA, Act.put, List.setIfInBounds_toArray, List.set_cons_zero, List.set_cons_succ, Nat.zero_add, Nat.reduceAdd] at hK ⊢
              simp [waits, Region.binds] at hD
              try simp only [envOf, List.getD_cons_succ, List.getD_cons_zero, isV] at hD
            · go_simp; exact hK _ hC (Below.refl _ _)
            · (try simp only [hD] at hK ⊢); go_simp; exact hK _ hC (Below.refl _ _)
            · (try simp only [hD] at hK ⊢); go_simp; exact hK _ hC (Below.refl _ _)
            · (try simp only [hD] at hK ⊢); have k1 := getc hC HP6.out; go_simp; exact hK _ hC (Below.refl _ _)
            · go_simp; exact hK _ hC (Below.refl _ _)
            · have hB := HB1.out.bl hC
              have hK2 := hK _ hC (Below.refl _ _)
              rw [if_pos (by simp [Region.wanted])]
              refine wp_load_row 162 (.tmp 8) rfl gw rfl _ _ (0, 0) _ hB Try.underlying162 rfl size_widths ?_
              rw [wide8_fun]
              exact hK2
          case fin =>
            intro vs W hC hE hU
            have e3 := hE 3 (by simp)
            have e4 := hE 4 (by simp)
            have e5 := hE 5 (by simp)
            simp only [envOf, List.getD_cons_succ, List.getD_cons_zero, isV] at e3 e4 e5
            simp only [fillA, Act.put, List.setIfInBounds_toArray, List.set_cons_zero, List.set_cons_succ, Nat.zero_add, Nat.reduceAdd, e3, e4, e5]
            clear e3 e4 e5 hE hU
            simp [Region.wanted, yielded]
            obtain ⟨w', hrun, hM', hg⟩ := (hMM.bl hC).put (P := Try.prog) Try.underlying163 Try.underlying3 (wideV h l k)
            rw [knownV_len] at hrun
            rw [← knownV_succ] at hM'
            have hKw : Kept (fun j => j = gm) w9 w' := (Kept.of_bl hC).trans (Kept.grown hg (fun j e => by injection e with e; exact e.symm))
            have hDw : DefersAt (D :: ds) W2.heap.size w' := HDD9.out.kept hKw (fun E hE _ hm => by have := (HDD9.out.2 E hm).1; omega)
            have HR := Lib.hid (⟨hM', HKA9.out.trans (hKw.mono fun _ _ h => .inl h), hDw⟩ : _ ∧ _ ∧ _)
            clear hM' hg hKw hDw hC
            go_simp
            go_wp2_with fail
            refine ⟨⟨k + 1, D :: ds, (fun i => (#[c0, c1, c2, c3, .pointer (some ⟨gh, 0, none⟩), c5, c6, .int .i64 k, .pointer (some ⟨gw, 0, none⟩), .pointer (some ⟨gw + 1, 0, none⟩), u 10, u 11, u 12, u 13, c14, c15, c16, c17, c18, c19, c20, c21, c22, c23, c24, c25, c26, c27, c28, c29, c30, c31, c32, c33, c34, c35, c36, .int .i64 n, u 38, .bool true, .int .i64 k, .pointer (some ⟨gh, 0, none⟩), .int .i64 k, .func (.func 134) #[] #[.pointer (some ⟨gw + 2, 0, none⟩), .pointer (some ⟨gw + 3, 0, none⟩)], u 44, u 45, u 46, u 47, u 48, u 49, u 50, u 51, u 52, u 53, u 54, u 55, u 56, u 57, u 58, u 59, u 60, u 61, u 62, u 63, u 64, u 65, u 66, u 67, u 68, u 69, u 70, u 71, u 72, u 73, u 74, u 75, u 76, .bool true, .bool false, u 79, vs 0, vs 1, vs 2, .map (some gm), .int .i64 k, wideV h l k, .int .i64 ((k : Int) + 1), c87] : Array Value).getD i undef), by omega, HR.out.2.2, HR.out.2.1, HR.out.1, fun t ht => ?_, ?_⟩, by simp [intOf]; omega⟩
            · by_cases e : t = k
              · rw [e]; exact HNIL.out
              · exact HT.out t (by omega)
            · simp [markD]
    · obtain rfl : k = n := by omega
      go_wp2
      exact HEX.out ds (fun i => (#[c0, c1, c2, c3, .pointer (some ⟨gh, 0, none⟩), c5, c6, u 7, u 8, u 9, u 10, u 11, u 12, u 13, c14, c15, c16, c17, c18, c19, c20, c21, c22, c23, c24, c25, c26, c27, c28, c29, c30, c31, c32, c33, c34, c35, c36, .int .i64 k, .int .i64 k, .bool false, u 40, u 41, u 42, u 43, u 44, u 45, u 46, u 47, u 48, u 49, u 50, u 51, u 52, u 53, u 54, u 55, u 56, u 57, u 58, u 59, u 60, u 61, u 62, u 63, u 64, u 65, u 66, u 67, u 68, u 69, u 70, u 71, u 72, u 73, u 74, u 75, u 76, u 77, u 78, u 79, u 80, u 81, u 82, u 83, u 84, u 85, u 86, c87] : Array Value).getD i undef) wr HD.out HK.out HM.out HT.out

end Go.Proofs.Ytnaadjhiahjlfaa
