/- A part of the proof that TopWorn always answers true. -/
import Derived.Test.YtdbfincinjoppabGreatDoorCIter
import Derived.Test.YtdbfincinjoppabGreatDoorCKMap
import Derived.Test.YtdbfincinjoppabGreatDoorCRegion
set_option linter.all false
namespace Go.Proofs.YtdbfincinjoppabGreatDoor
open Go.RowKit Go.Shelf
theorem Ords.get {S : Foot} {w : World} {A : Option Addr} {n k : Nat} {xs : List (List (Nat × Nat))} (h : Ords S w A n xs) (hk : k < n) :
  ∃ (b off : Nat) (A1 : Option Addr) (n1 c1 : Nat) (x : List (Nat × Nat)), A = some ⟨b, off, none⟩ ∧ b < w.heap.size ∧ w.cell? ⟨b, off + k, none⟩ = some (.slice A1 n1 c1) ∧ Pls S w A1 n1 x ∧ Hid (xs[k]? = some x) := by
 have hlt : k < xs.length := by rw [h.1]; exact hk
 obtain ⟨b, off, vs, hA, _, hb, ⟨A1, n1, c1, rfl, hs⟩, hc⟩ := h.2.2 k xs[k] (List.getElem?_eq_getElem hlt)
 exact ⟨b, off, A1, n1, c1, xs[k], hA, hb, by simpa using hc 0 _ rfl, hs, List.getElem?_eq_getElem hlt⟩
def metF (met : List Pl) (a : Pl) : Option Int := if a ∈ met then some 1 else none
structure GBox (w : World) (go gmo gof gsk gm : Nat) (o : List (List Pl)) (mo : Int) (S : Foot) (A : Option Addr) (n c : Nat) : Prop where
 ob : Blk w go 113 #[.slice A n c]
 ord : Ords S w A n o
 mo : Blk w gmo 3 #[.int .i64 mo]
 of : Blk w gof 151 #[.map (some gm)]
 sk : Blk w gsk 152 #[.func (.func 83) #[] #[.pointer (some ⟨go, 0, none⟩), .pointer (some ⟨gmo, 0, none⟩), .pointer (some ⟨gof, 0, none⟩), .pointer (some ⟨gsk, 0, none⟩)]]
def Clr (go gmo gof gsk : Nat) (S : Foot) (k : Nat) : Prop := go ≠ k ∧ gmo ≠ k ∧ gof ≠ k ∧ gsk ≠ k ∧ ¬ S k
theorem GBox.kept {w w' : World} {go gmo gof gsk gm : Nat} {o : List (List Pl)} {mo : Int} {S M : Foot} {A : Option Addr} {n c : Nat} (h : GBox w go gmo gof gsk gm o mo S A n c) (k : Kept M w w') (hM : ∀ k, M k → Clr go gmo gof gsk S k) : GBox w' go gmo gof gsk gm o mo S A n c :=
 ⟨(k.block _ h.ob.lt (fun e => (hM _ e).1 rfl)).trans h.ob, h.ord.keep OrdR.good (k.keeps fun j hj hm => (hM _ hm).2.2.2.2 hj), (k.block _ h.mo.lt (fun e => (hM _ e).2.1 rfl)).trans h.mo, (k.block _ h.of.lt (fun e => (hM _ e).2.2.1 rfl)).trans h.of, (k.block _ h.sk.lt (fun e => (hM _ e).2.2.2.1 rfl)).trans h.sk⟩
structure SeekS (gm gmet : Nat) (univ : List Pl) (N : Nat) (w : World) (n1 : Nat) (f : List (Pl × Int)) (met : List Pl) : Prop where
 m1 : MapP w gm n1 (ofL f)
 m2 : MapP w gmet met.length (metF met)
 nd : met.Nodup
 sub : ∀ a ∈ met, a ∈ univ
 fok : ∀ a k, ofL f a = some k → k < (N : Int) ∧ -1 ≤ k
def SeekT (gm gmet : Nat) (univ : List Pl) (N : Nat) (w : World) (n1 : Nat) (met : List Pl) (R : Bool × List (Pl × Int) × List Pl) (e : Ending) (w' : World) : Prop :=
 e = .returned (.bool R.1) ∧ Kept (fun k => k = gm ∨ k = gmet) w w' ∧ ∃ n1', n1' + met.length ≤ n1 + R.2.2.length ∧ met.length ≤ R.2.2.length ∧ SeekS gm gmet univ N w' n1' R.2.1 R.2.2
structure SeekI (o : List (List Pl)) (ok : Pl → Bool) (gm gmet : Nat) (univ : List Pl) (L : Nat) (w : World) (n1 n i : Nat) (x : List Pl) (f : List (Pl × Int)) (met : List Pl) (p np n1p : Nat) (fp : List (Pl × Int)) (metp : List Pl) (wr : World) : Prop where
 kept : Kept (fun k => k = gm ∨ k = gmet) w wr
 s : SeekS gm gmet univ o.length wr n1p fp metp
 eq : seekL o ok n x i f met = seekL o ok np (x.drop p) i fp metp
 fuel : (x.drop p).length + (univ.length - metp.length) * (L + 1) ≤ np
 le : met.length ≤ metp.length
 n1 : n1p + met.length ≤ n1 + metp.length
theorem SeekS.bl {gm gmet : Nat} {univ : List Pl} {N : Nat} {w w' : World} {n1 : Nat} {f : List (Pl × Int)} {met : List Pl} (h : SeekS gm gmet univ N w n1 f met) (b : Below w.heap.size w w') : SeekS gm gmet univ N w' n1 f met :=
 ⟨h.m1.at (b.block _ h.m1.lt), h.m2.at (b.block _ h.m2.lt), h.nd, h.sub, h.fok⟩
section
variable {o : List (List Pl)} {ok : Pl → Bool} {n i : Nat} {a : Pl} {r : List Pl} {f : List (Pl × Int)} {met : List Pl}
theorem seek_skip (h : ok a = false ∨ a ∈ met) : seekL o ok (n + 1) (a :: r) i f met = seekL o ok n r i f met := by
 rw [seekL, if_pos]
 rcases h with h | h <;> simp [h]
theorem seek_free (h1 : ok a = true) (h2 : a ∉ met) (h3 : ofL f a = none) : seekL o ok (n + 1) (a :: r) i f met = (true, (a, (i : Int)) :: f, a :: met) := by
 rw [seekL, if_neg (by simp [h1, h2]), h3]
theorem seek_fixed {k : Int} (h1 : ok a = true) (h2 : a ∉ met) (h3 : ofL f a = some k) (h4 : k < 0) : seekL o ok (n + 1) (a :: r) i f met = seekL o ok n r i f (a :: met) := by
 rw [seekL, if_neg (by simp [h1, h2]), h3]
 dsimp only
 rw [if_pos h4]
theorem seek_yes {k : Nat} (h1 : ok a = true) (h2 : a ∉ met) (h3 : ofL f a = some (k : Int)) (h4 : (seekL o ok n (o.getD k []) k f (a :: met)).1 = true) :
  seekL o ok (n + 1) (a :: r) i f met = (true, (a, (i : Int)) :: (seekL o ok n (o.getD k []) k f (a :: met)).2.1, (seekL o ok n (o.getD k []) k f (a :: met)).2.2) := by
 rw [seekL, if_neg (by simp [h1, h2]), h3]
 dsimp only
 rw [if_neg (by omega), Int.toNat_natCast, if_pos h4]
theorem seek_no {k : Nat} (h1 : ok a = true) (h2 : a ∉ met) (h3 : ofL f a = some (k : Int)) (h4 : (seekL o ok n (o.getD k []) k f (a :: met)).1 = false) :
  seekL o ok (n + 1) (a :: r) i f met = seekL o ok n r i (seekL o ok n (o.getD k []) k f (a :: met)).2.1 (seekL o ok n (o.getD k []) k f (a :: met)).2.2 := by
 rw [seekL, if_neg (by simp [h1, h2]), h3]
 dsimp only
 rw [if_neg (by omega), Int.toNat_natCast, if_neg (by rw [h4]; decide)]
end
theorem metF_cons (a : Pl) (met : List Pl) (y : Pl) : (if a = y then some 1 else metF met y) = metF (a :: met) y := by
 unfold metF
 by_cases h : a = y
 ·rw [if_pos h, if_pos (by rw [h]; exact List.mem_cons_self)]
 rw [if_neg h]
 by_cases h2 : y ∈ met
 ·rw [if_pos h2, if_pos (List.mem_cons_of_mem _ h2)]
 rw [if_neg h2, if_neg (fun h3 => by rcases List.mem_cons.1 h3 with h3 | h3; exact h h3.symm; exact h2 h3)]
section
variable {o : List (List Pl)} {ok : Pl → Bool} {univ : List Pl} {L go gmo gof gsk gm gmet n c : Nat} {A : Option Addr} {S : Foot} {mo : Int}
set_option maxRecDepth 100000 in
set_option maxHeartbeats 4000000 in
theorem seek_any (hu : ∀ j, (o.getD j []).length ≤ L ∧ ∀ a ∈ o.getD j [], a ∈ univ) (hpl : ∀ a ∈ univ, a.1 < 4 ∧ a.2 < 8) (hU : univ.length ≤ 1000) (hL : L ≤ 1000) (hN : o.length ≤ 6) (hok : ∀ a ∈ univ, bits BinOp.and .i64 (mo / 2 ^ a.1) 1 = if ok a then 1 else 0)
  (hC1 : Clr go gmo gof gsk S gm) (hC2 : Clr go gmo gof gsk S gmet) (hne : gm ≠ gmet) :
  ∀ (D n0 i : Nat) (f : List (Pl × Int)) (met : List Pl) (n1 : Nat) (w : World), univ.length - met.length < D → GBox w go gmo gof gsk gm o mo S A n c → SeekS gm gmet univ o.length w n1 f met → i < o.length → (o.getD i []).length + (univ.length - met.length) * (L + 1) ≤ n0 → n1 + univ.length ≤ 1000000 + met.length →
  Calls Tryz.prog 83 #[.int .i64 (i : Int), .map (some gmet), .pointer (some ⟨go, 0, none⟩), .pointer (some ⟨gmo, 0, none⟩), .pointer (some ⟨gof, 0, none⟩), .pointer (some ⟨gsk, 0, none⟩)] w fun e w' => SeekT gm gmet univ o.length w n1 met (seekL o ok n0 (o.getD i []) i f met) e w' := by
 intro D
 induction D with
 | zero => intro n0 i f met n1 w h; omega
 | succ D ih =>
  intro n0 i f met n1 w hD gB hS hi hn hn1
  have hM : ∀ k, (k = gm ∨ k = gmet) → Clr go gmo gof gsk S k := fun k h => by rcases h with rfl | rfl <;> assumption
  have hin : i < n := by rw [← gB.ord.len]; exact hi
  obtain ⟨b, off, A1, m, c1, x, rfl, hb, hd, hP, Hx⟩ := Ords.get gB.ord hin
  have hx : o.getD i [] = x := getD_of Hx.out
  have hml := hP.len
  have hmL : m ≤ 1000 := by
   rw [← hml, ← hx]
   exact Nat.le_trans (hu i).1 hL
  rw [hx] at hn ⊢
  have I0 : SeekI o ok gm gmet univ L w n1 n0 i x f met 0 n0 n1 f met w := ⟨Kept.refl _ _, hS, rfl, hn, Nat.le_refl _, Nat.le_refl _⟩
  have HG := Lib.hid gB
  have HP := Lib.hid hP
  have o0 := gB.ob.cell 0
  have ol := gB.ob.lt
  have hi6 : (i : Int) < n := by omega
  have HFU := Lib.hid hn
  have HN1 := Lib.hid hn1
  have HX := Lib.hid hx
  have HD := Lib.hid hD
  have HIH := Lib.hid ih
  have HUU := Lib.hid hu
  have HPL := Lib.hid hpl
  have HM := Lib.hid hM
  have HML := Lib.hid hml
  have HOK := Lib.hid hok
  clear gB hP hn hn1 hx hD ih hu hpl hM hml hS hok
  go_enter Tryz.func83, Tryz.ntmps83
  go_wp2_with fail
  clear hd o0 ol hb
  go_loopw [10, 11, 12, 18] (fun _ _ _ i' wr => ∃ (p np n1p : Nat) (fp : List (Pl × Int)) (metp : List Pl), i' = .int .i64 p ∧ p ≤ m ∧ Hid (SeekI o ok gm gmet univ L w n1 n0 i x f met p np n1p fp metp wr)) (fun _ _ _ i' _ => m - (intOf i').toNat)
  case atStart => exact ⟨0, n0, n1, f, met, rfl, Nat.zero_le _, I0⟩
  case round =>
   clear I0
   obtain ⟨p, np, n1p, fp, metp, rfl, hp, HI⟩ := hrel
   by_cases hlt : p < m
   ·have hpi : (p : Int) < m := by omega
    have HB : Hid (GBox wr go gmo gof gsk gm o mo S (some ⟨b, off, none⟩) n c) := HG.out.kept HI.out.kept HM.out
    have hP2 : Pls S wr A1 m x := HP.out.keep PlR.good (HI.out.kept.keeps fun j hj hm => (HM.out _ hm).2.2.2.2 hj)
    obtain ⟨b2, off2, am, ac, rfl, hb2, hd0, hd1, Hat⟩ := Pls.get hP2 hlt
    have hdr : Hid (x.drop p = (am, ac) :: x.drop (p + 1)) := by
     have h := Hat.out
     obtain ⟨h1, h2⟩ := List.getElem?_eq_some_iff.1 h
     rw [Hid, List.drop_eq_getElem_cons h1, h2]
    have hau : (am, ac) ∈ univ := (HUU.out i).2 _ (by rw [HX.out]; exact List.mem_of_getElem? Hat.out)
    obtain ⟨ham, hac⟩ := HPL.out _ hau
    dsimp only at ham hac
    have hkey := keyP_ok (am, ac) (by dsimp only; omega) (by dsimp only; omega)
    have HKEY := Lib.hid hkey
    have HAU := Lib.hid hau
    obtain ⟨np', rfl⟩ : ∃ q, np = q + 1 := by
     have h := HI.out.fuel
     rw [hdr.out, List.length_cons] at h
     exact ⟨np - 1, by omega⟩
    obtain ⟨V, hV⟩ : ∃ V, wr.alloc (.cells #[.int .i64 (am : Int), .int .i64 (ac : Int)] 37) = V := ⟨_, rfl⟩
    obtain ⟨g9, hg9⟩ : ∃ g, wr.heap.size = g := ⟨_, rfl⟩
    have hbV : Below wr.heap.size wr V := by rw [← hV]; exact bl_alloc (Below.refl _ _) _ (Nat.le_refl _)
    have KV : Hid (Kept (fun k => k = gm ∨ k = gmet) w V) := HI.out.kept.trans (Kept.of_bl hbV)
    have HS : Hid (SeekS gm gmet univ o.length V n1p fp metp) := HI.out.s.bl hbV
    have hM9 : Blk V g9 37 #[.int .i64 (am : Int), .int .i64 (ac : Int)] := by rw [← hV, ← hg9]; exact Blk.new _ _ _ rfl
    have k0 := hM9.cell 0
    have k1 := hM9.cell 1
    have kl := hM9.lt
    have hgl : gm < g9 ∧ gmet < g9 := by rw [← hg9]; exact ⟨HI.out.s.m1.lt, HI.out.s.m2.lt⟩
    have HBV : Hid (GBox V go gmo gof gsk gm o mo S (some ⟨b, off, none⟩) n c) := HG.out.kept KV.out HM.out
    have mo0 := HBV.out.mo.cell 0
    have mol := HBV.out.mo.lt
    have ham' : (am : Int) < 64 := by omega
    have hbit := HOK.out _ hau
    dsimp only at hbit
    clear hP2 hbV HB hau hkey
    cases hoka : ok (am, ac) with
    | false =>
     have HOA := Lib.hid hoka
     rw [hoka, if_neg (by decide)] at hbit
     clear hM9 hoka
     go_wp2_with fail
     go_roundw
     case rel => exact ⟨p + 1, np', n1p, fp, metp, by go_num, by omega, ⟨KV.out, HS.out, by rw [HI.out.eq, hdr.out, seek_skip (.inl HOA.out)], by have h := HI.out.fuel; rw [hdr.out, List.length_cons] at h; omega, HI.out.le, HI.out.n1⟩⟩
     case measure => simp [intOf]; omega
    | true =>
     have HOA := Lib.hid hoka
     rw [hoka, if_pos rfl] at hbit
     clear hoka
     by_cases hmt : (am, ac) ∈ metp
     ·have hlk : (Instr.lookup 151 (.map (some gmet)) (.agg #[.int .i64 (am : Int), .int .i64 (ac : Int)]) false).run Tryz.prog V = .ok (.int .i64 1) V := by
       have h := HS.out.m2.look keyP_law Tryz.underlying3 Tryz.underlying151 zeroInt7 (am, ac) HKEY.out false
       rw [show metF metp (am, ac) = some 1 from if_pos hmt] at h
       exact h
      have HMT := Lib.hid hmt
      clear hM9 hmt
      go_wp2_with fail
      go_roundw
      case rel => exact ⟨p + 1, np', n1p, fp, metp, by go_num, by omega, ⟨KV.out, HS.out, by rw [HI.out.eq, hdr.out, seek_skip (.inr HMT.out)], by have h := HI.out.fuel; rw [hdr.out, List.length_cons] at h; omega, HI.out.le, HI.out.n1⟩⟩
      case measure => simp [intOf]; omega
     have hlk : (Instr.lookup 151 (.map (some gmet)) (.agg #[.int .i64 (am : Int), .int .i64 (ac : Int)]) false).run Tryz.prog V = .ok (.int .i64 0) V := by
      have h := HS.out.m2.look keyP_law Tryz.underlying3 Tryz.underlying151 zeroInt7 (am, ac) HKEY.out false
      rw [show metF metp (am, ac) = none from if_neg hmt] at h
      exact h
     have HMT := Lib.hid hmt
     have hlt2 : metp.length < univ.length := by
      have := nodup_le ((am, ac) :: metp) univ (List.nodup_cons.2 ⟨hmt, HS.out.nd⟩) (fun y hy => by rcases List.mem_cons.1 hy with rfl | hy; exact HAU.out; exact HS.out.sub y hy)
      rw [List.length_cons] at this
      omega
     have HLT2 := Lib.hid hlt2
     have HM9 := Lib.hid hM9
     clear hmt hlt2 hM9
     go_wp2_with fail
     clear hlk mo0
     obtain ⟨st, o1, hme, hlk, hst⟩ := HS.out.m2.count kvP_inj keyP_law Tryz.underlying3 Tryz.underlying151 zeroInt7 (by have := HLT2.out; omega) (am, ac) HKEY.out (c := 0) (by rw [show metF metp (am, ac) = none from if_neg HMT.out]; rfl) (wf_i64 (by omega) (by omega))
     simp only [kvP, Int.zero_add] at hme hlk hst
     have HLK := Lib.hid hlk
     have HME := Lib.hid hme
     have HST := Lib.hid hst
     have HSB : Hid (∀ W : World, (Kept (fun j => j = gmet) V W ∧ (W.heap[gmet]? = V.heap[gmet]? ∨ W.heap[gmet]? = some o1)) → (Kept (fun j => j = gmet) V (ChangeMaps.setBlock W gmet o1) ∧ ((ChangeMaps.setBlock W gmet o1).heap[gmet]? = V.heap[gmet]? ∨ (ChangeMaps.setBlock W gmet o1).heap[gmet]? = some o1)) ∧ (ChangeMaps.setBlock W gmet o1).heap[gmet]? = some o1) := fun W hC => by
      have hlt : gmet < W.heap.size := by have := hC.1.size; omega
      have h1 : (ChangeMaps.setBlock W gmet o1).heap[gmet]? = some o1 := by simp [ChangeMaps.setBlock, hlt]
      exact ⟨⟨hC.1.trans ⟨rfl, rfl, rfl, by simp [ChangeMaps.setBlock], fun j hj hn => by simp [ChangeMaps.setBlock]; rw [Array.getElem?_setIfInBounds, if_neg (fun e => hn e.symm)]⟩, .inr h1⟩, h1⟩
     have kk2 : Hid (∀ W : World, (Kept (fun j => j = gmet) V W ∧ (W.heap[gmet]? = V.heap[gmet]? ∨ W.heap[gmet]? = some o1)) → W.cell? ⟨g9, 0, none⟩ = some (.int .i64 (am : Int)) ∧ W.cell? ⟨g9, 1, none⟩ = some (.int .i64 (ac : Int))) := fun W hC => by
      have hb : Blk W g9 37 #[.int .i64 (am : Int), .int .i64 (ac : Int)] := (hC.1.block _ HM9.out.lt (by omega)).trans HM9.out
      exact ⟨hb.cell 0, hb.cell 1⟩
     clear hme hlk hst
     refine wp_region_list (fun W => Kept (fun j => j = gmet) V W ∧ (W.heap[gmet]? = V.heap[gmet]? ∨ W.heap[gmet]? = some o1)) (fun w w' => w.heap[gmet]? = some o1 → w'.heap[gmet]? = some o1)
      [isV (.map (some gmet)), isV (.agg #[.int .i64 (am : Int), .int .i64 (ac : Int)]), isV (.int .i64 0), isV (.int .i64 1), fun v W => v = .tuple #[.int .i64 0, goInt st] ∧ W.heap[gmet]? = some o1, isV (goInt st)]
      (by kernel_rfl) (by kernel_rfl) (by kernel_rfl) (by simp) (by simp) ⟨(Kept.refl _ _).trans (Kept.drew _ _), .inl rfl⟩ ?stab9 ?step9 ?fin9
     case stab9 => exact (StabL.is (StabL.is (StabL.is (StabL.is (StabL.cons (fun v W V hC hX h => ⟨h.1, hX h.2⟩) (StabL.is StabL.nil))))))
     case step9 =>
      refine StepsL.isA ?_ (StepsL.isA ?_ (StepsL.isA ?_ (StepsL.isA ?_ (StepsL.consA ?_ (StepsL.isA ?_ StepsL.nil)))))
      all_goals intro vs a W K ha hC hD hU hK
      all_goals try rw [if_pos (by rfl)]
      ·
       have r1 : a.tmps[1]? = some (.map (some gmet)) := by rw [ha]; kernel_rfl
       clear ha hU hD
       go_simp
       exact hK _ hC (fun h => h)
      ·
       have r10 : a.tmps[10]? = some (.pointer (some ⟨g9, 0, none⟩)) := by rw [ha]; kernel_rfl
       clear ha hU hD
       obtain ⟨k0, k1⟩ := kk2.out W hC
       go_simp
       exact hK _ hC (fun h => h)
      ·
       have r34 : a.tmps[34]? = some (vs 0) := by rw [ha]; kernel_rfl
       have q0 : vs 0 = .map (some gmet) := hD 0 (by simp [waits, Region.binds])
       rw [q0] at r34
       have r35 : a.tmps[35]? = some (vs 1) := by rw [ha]; kernel_rfl
       have q1 : vs 1 = .agg #[.int .i64 (am : Int), .int .i64 (ac : Int)] := hD 1 (by simp [waits, Region.binds])
       rw [q1] at r35
       clear ha hU hD
       have hlk := HLK.out W hC.2
       go_simp
       exact hK _ hC (fun h => h)
      ·
       have r36 : a.tmps[36]? = some (vs 2) := by rw [ha]; kernel_rfl
       have q2 : vs 2 = .int .i64 0 := hD 2 (by simp [waits, Region.binds])
       rw [q2] at r36
       clear ha hU hD
       go_simp
       exact hK _ hC (fun h => h)
      ·
       have r34 : a.tmps[34]? = some (vs 0) := by rw [ha]; kernel_rfl
       have q0 : vs 0 = .map (some gmet) := hD 0 (by simp [waits, Region.binds])
       rw [q0] at r34
       have r35 : a.tmps[35]? = some (vs 1) := by rw [ha]; kernel_rfl
       have q1 : vs 1 = .agg #[.int .i64 (am : Int), .int .i64 (ac : Int)] := hD 1 (by simp [waits, Region.binds])
       rw [q1] at r35
       clear ha hU hD
       have hme := HME.out W hC.2
       have hC' := HSB.out W hC
       go_simp
       exact hK _ _ hC'.1 (fun _ => hC'.2) ⟨rfl, hC'.2⟩
      have r38 : a.tmps[38]? = some (vs 4) := by rw [ha]; kernel_rfl
      have q4 : (fun v W => v = .tuple #[.int .i64 0, goInt st] ∧ W.heap[gmet]? = some o1) (vs 4) W := hD 4 (by simp [waits, Region.binds])
      obtain ⟨q4, _⟩ := q4
      rw [q4] at r38
      clear ha hU hD
      go_simp
      exact hK _ hC (fun h => h)
     intro vs W hC hE hU
     have e0 := hE 0 (by simp)
     have e3 := hE 3 (by simp)
     have e4 := hE 4 (by simp)
     have e5 := hE 5 (by simp)
     simp only [envOf, List.getD_cons_succ, List.getD_cons_zero, isV] at e0 e3 e4 e5
     simp only [fillA, Act.put, List.setIfInBounds_toArray, List.set_cons_zero, List.set_cons_succ, Nat.zero_add, Nat.reduceAdd, e0, e3, e5]
     have e4' := e4.2
     clear e0 e3 e4 e5 hE hU
     simp [Region.wanted, yielded]
     obtain ⟨W3, hrun, hg3, hN4⟩ := HST.out W e4'
     simp only [goInt] at hrun
     have hk4 : Kept (fun j => j = gmet) V W3 := hC.1.trans (Kept.grown hg3 (fun j hj => by injection hj with hj; exact hj.symm))
     have hKB4 : Blk W3 g9 37 #[.int .i64 (am : Int), .int .i64 (ac : Int)] := (hk4.block _ HM9.out.lt (by omega)).trans HM9.out
     have hq0 := hKB4.cell 0
     have hq1 := hKB4.cell 1
     have hql := hKB4.lt
     have HM93 := Lib.hid hKB4
     have KW : Hid (Kept (fun k => k = gm ∨ k = gmet) w W3) := KV.out.trans (hk4.mono fun j _ h => .inr h)
     have HBW : Hid (GBox W3 go gmo gof gsk gm o mo S (some ⟨b, off, none⟩) n c) := HG.out.kept KW.out HM.out
     have HSW : Hid (SeekS gm gmet univ o.length W3 n1p fp ((am, ac) :: metp)) := ⟨HS.out.m1.at (hk4.block _ HS.out.m1.lt hne), by rw [List.length_cons]; exact hN4.congr (fun y => metF_cons _ _ _), List.nodup_cons.2 ⟨HMT.out, HS.out.nd⟩, fun y hy => by rcases List.mem_cons.1 hy with rfl | hy; exact HAU.out; exact HS.out.sub y hy, HS.out.fok⟩
     have of0 := HBW.out.of.cell 0
     have ofl := HBW.out.of.lt
     clear hg3 hC hN4 hk4 e4' hKB4
     go_simp
     cases hof : ofL fp (am, ac) with
     | none =>
      have HOF := Lib.hid hof
      have hlk : (Instr.lookup 151 (.map (some gm)) (.agg #[.int .i64 (am : Int), .int .i64 (ac : Int)]) true).run Tryz.prog W3 = .ok (.tuple #[.int .i64 0, .bool false]) W3 := by
       have h := HSW.out.m1.look keyP_law Tryz.underlying3 Tryz.underlying151 zeroInt7 (am, ac) HKEY.out true
       rw [hof] at h
       exact h
      have hn1p : n1p ≤ 1000000 := by have := HI.out.n1; have := HN1.out; have := HLT2.out; have := HI.out.le; omega
      obtain ⟨W4, hput, hN5, hg5⟩ := HSW.out.m1.put kvP_inj keyP_law Tryz.underlying3 Tryz.underlying151 (by omega) (am, ac) HKEY.out (i : Int) (wf_i64 (by omega) (by omega))
      simp only [kvP] at hput
      have HG5 := Lib.hid hg5
      have HN5 := Lib.hid hN5
      clear hof hN5 hg5
      go_wp2_with fail
      go_ret
      have hk5 : Kept (fun k => k = gm) W3 W4 := Kept.grown HG5.out (fun j hj => by injection hj with hj; exact hj.symm)
      rw [HI.out.eq, hdr.out, seek_free HOA.out HMT.out HOF.out]
      refine ⟨rfl, KW.out.trans (hk5.mono fun j _ h => .inl h), n1p + 1, ?_, ?_, HN5.out.congr (fun y => (ofL_cons _ _ _ _).symm), HSW.out.m2.at (hk5.block _ HSW.out.m2.lt (fun e => hne e.symm)), HSW.out.nd, HSW.out.sub, fun a k h => ?_⟩
      ·have := HI.out.n1; simp only [List.length_cons]; omega
      ·have := HI.out.le; simp only [List.length_cons]; omega
      ·rw [ofL_cons] at h
       by_cases e : (am, ac) = a
       ·rw [if_pos e] at h; injection h with h; omega
       ·rw [if_neg e] at h; exact HSW.out.fok a k h
     | some k =>
      have HOF := Lib.hid hof
      have hlk : (Instr.lookup 151 (.map (some gm)) (.agg #[.int .i64 (am : Int), .int .i64 (ac : Int)]) true).run Tryz.prog W3 = .ok (.tuple #[.int .i64 k, .bool true]) W3 := by
       have h := HSW.out.m1.look keyP_law Tryz.underlying3 Tryz.underlying151 zeroInt7 (am, ac) HKEY.out true
       rw [hof] at h
       exact h
      have hfo := HSW.out.fok _ _ hof
      have hfuel : (x.drop (p + 1)).length + (univ.length - metp.length) * (L + 1) ≤ np' := by have h := HI.out.fuel; rw [hdr.out, List.length_cons] at h; omega
      have hsub : (univ.length - metp.length) * (L + 1) = (univ.length - (metp.length + 1)) * (L + 1) + (L + 1) := by
       have := HLT2.out
       rw [show univ.length - metp.length = (univ.length - (metp.length + 1)) + 1 by omega, Nat.succ_mul]
      have HFL : Hid ((x.drop (p + 1)).length + (univ.length - (metp.length + 1)) * (L + 1) + (L + 1) ≤ np') := by rw [Hid]; omega
      clear hfuel hsub hof
      by_cases hk : k < 0
      ·have HK := Lib.hid hk
       have hkn : ¬ (0 ≤ k) := by omega
       go_wp2_with fail
       go_roundw
       case rel => exact ⟨p + 1, np', n1p, fp, (am, ac) :: metp, by go_num, by omega, ⟨KW.out, HSW.out, by rw [HI.out.eq, hdr.out, seek_fixed HOA.out HMT.out HOF.out HK.out], by have := HFL.out; simp only [List.length_cons]; omega, by have := HI.out.le; simp only [List.length_cons]; omega, by have := HI.out.n1; simp only [List.length_cons]; omega⟩⟩
       case measure => simp [intOf]; omega
      obtain ⟨kn, rfl⟩ : ∃ kn : Nat, k = kn := ⟨k.toNat, by omega⟩
      have hkn : (0 : Int) ≤ kn := by omega
      have sk0 := HBW.out.sk.cell 0
      have skl := HBW.out.sk.lt
      go_wp2_with fail
      clear sk0 skl hq0 hq1 of0 ofl hlk
      refine (HIH.out np' kn fp ((am, ac) :: metp) n1p W3 (by have := HD.out; have := HLT2.out; have := HI.out.le; simp only [List.length_cons]; omega) HBW.out HSW.out (by omega) (by have := HFL.out; have := (HUU.out kn).1; simp only [List.length_cons]; omega) (by have := HI.out.n1; have := HN1.out; simp only [List.length_cons]; omega)).mono ?_
      obtain ⟨R, hR⟩ : ∃ R, seekL o ok np' (o.getD kn []) kn fp ((am, ac) :: metp) = R := ⟨_, rfl⟩
      rw [hR]
      obtain ⟨rb, fr, mr⟩ := R
      rintro e W4 ⟨he, hk5, n1', l1, l2, hS4⟩
      dsimp only at he l1 l2 hS4
      subst he
      have HR := Lib.hid hR
      have KW4 : Hid (Kept (fun k => k = gm ∨ k = gmet) w W4) := KW.out.trans hk5
      have HBW4 : Hid (GBox W4 go gmo gof gsk gm o mo S (some ⟨b, off, none⟩) n c) := HG.out.kept KW4.out HM.out
      have hg9W : g9 < W3.heap.size := hql
      have hKB5 : Blk W4 g9 37 #[.int .i64 (am : Int), .int .i64 (ac : Int)] := (hk5.block _ hql (by omega)).trans HM93.out
      have hq0 := hKB5.cell 0
      have hq1 := hKB5.cell 1
      have hql2 := hKB5.lt
      have of0 := HBW4.out.of.cell 0
      have ofl := HBW4.out.of.lt
      have HL1 := Lib.hid l1
      have HL2 := Lib.hid l2
      have HS4 := Lib.hid hS4
      clear hR hk5 l1 l2 hS4 hKB5
      cases rb with
      | false =>
       have hE : Hid (seekL o ok (np' + 1) ((am, ac) :: x.drop (p + 1)) i fp metp = seekL o ok np' (x.drop (p + 1)) i fr mr) := by
        rw [Hid, seek_no HOA.out HMT.out HOF.out (by rw [HR.out]), HR.out]
       go_wp2_with fail
       go_roundw
       case rel => exact ⟨p + 1, np', n1', fr, mr, by go_num, by omega, ⟨KW4.out, HS4.out, by rw [HI.out.eq, hdr.out, hE.out], by
        have h1 := HFL.out
        have h2 : (univ.length - mr.length) * (L + 1) ≤ (univ.length - (metp.length + 1)) * (L + 1) := Nat.mul_le_mul_right _ (by have := HL2.out; rw [List.length_cons] at this; omega)
        omega, by have := HI.out.le; have := HL2.out; rw [List.length_cons] at this; omega, by have := HI.out.n1; have := HL1.out; rw [List.length_cons] at this; omega⟩⟩
       case measure => simp [intOf]; omega
      | true =>
       have hn1p : n1' ≤ 1000000 := by
        have := HI.out.n1; have := HN1.out; have := HLT2.out; have := HI.out.le; have h := HL1.out; rw [List.length_cons] at h
        have := nodup_le mr univ HS4.out.nd HS4.out.sub
        omega
       obtain ⟨W5, hput, hN5, hg5⟩ := HS4.out.m1.put kvP_inj keyP_law Tryz.underlying3 Tryz.underlying151 (by omega) (am, ac) HKEY.out (i : Int) (wf_i64 (by omega) (by omega))
       simp only [kvP] at hput
       have HG5 := Lib.hid hg5
       have HN5 := Lib.hid hN5
       clear hN5 hg5
       go_wp2_with fail
       go_ret
       have hk5 : Kept (fun k => k = gm) W4 W5 := Kept.grown HG5.out (fun j hj => by injection hj with hj; exact hj.symm)
       rw [HI.out.eq, hdr.out, seek_yes HOA.out HMT.out HOF.out (by rw [HR.out]), HR.out]
       refine ⟨rfl, KW4.out.trans (hk5.mono fun j _ h => .inl h), n1' + 1, ?_, ?_, HN5.out.congr (fun y => (ofL_cons _ _ _ _).symm), HS4.out.m2.at (hk5.block _ HS4.out.m2.lt (fun e => hne e.symm)), HS4.out.nd, HS4.out.sub, fun a k h => ?_⟩
       ·have := HI.out.n1; have := HL1.out; simp only [List.length_cons] at this ⊢; omega
       ·have := HI.out.le; have := HL2.out; simp only [List.length_cons] at this ⊢; omega
       dsimp only at h
       rw [ofL_cons] at h
       by_cases e : (am, ac) = a
       ·rw [if_pos e] at h; injection h with h; omega
       rw [if_neg e] at h; exact HS4.out.fok a k h
   obtain rfl : p = m := by omega
   have hpi : ¬ (p : Int) < p := by omega
   go_wp2_with fail
   go_ret
   have hdr : x.drop p = [] := List.drop_eq_nil_of_le (by have := HML.out; omega)
   have hE : seekL o ok np [] i fp metp = (false, fp, metp) := by cases np <;> rw [seekL]
   rw [HI.out.eq, hdr, hE]
   exact ⟨rfl, HI.out.kept, n1p, HI.out.n1, HI.out.le, HI.out.s⟩
end
end Go.Proofs.YtdbfincinjoppabGreatDoor
