/- A part of the proof that TopWorn always answers true. -/
import Derived.Test.YtdbfincinjoppabGreatDoorCKFit
set_option linter.all false
namespace Go.Proofs.YtdbfincinjoppabGreatDoor
open Go.RowKit Go.Shelf
theorem fitsR_bad {s : Shop} {l : List SeenC} {a z : Int} (e : (seen7 s l).2 ≠ 0) : fitsR s l a z = ([], (seen7 s l).2) := by rw [fitsR, if_pos e]
theorem fitsR_p {s : Shop} {l : List SeenC} {a z : Int} (e : (seen7 s l).2 = 0) (h : rangeE ⟨a, z⟩ 0 20000 ≠ 0) : fitsR s l a z = ([], rangeE ⟨a, z⟩ 0 20000) := by rw [fitsR, if_neg (by simp [e]), if_pos h]
theorem fitsR_no {s : Shop} {l : List SeenC} {a z : Int} (e : (seen7 s l).2 = 0) (h : rangeE ⟨a, z⟩ 0 20000 = 0) (hk : known7 s l = []) : fitsR s l a z = ([], 9) := by rw [fitsR, if_neg (by simp [e]), if_neg (by simp [h]), if_pos hk]
theorem fitsR_n {s : Shop} {l : List SeenC} {a z : Int} (e : (seen7 s l).2 = 0) (h : rangeE ⟨a, z⟩ 0 20000 = 0) (hk : known7 s l ≠ []) : fitsR s l a z = (fit7 s l a z, 0) := by rw [fitsR, if_neg (by simp [e]), if_neg (by simp [h]), if_neg hk]
def PlsT (B : Nat) (r : List (Nat × Nat) × Int) (e : Ending) (w' : World) : Prop := ∃ A c, e = .returned (.tuple #[.slice A r.1.length c, .int .i64 r.2]) ∧ Pls (fun k => B ≤ k) w' A r.1.length r.1
theorem PlsT.nil {B : Nat} {e : Int} {w' : World} : PlsT B ([], e) (.returned (.tuple #[.slice none 0 0, .int .i64 e])) w' := ⟨none, 0, rfl, rfl, Nat.zero_le _, fun k x hx => by simp at hx⟩
set_option maxRecDepth 100000 in
set_option maxHeartbeats 2000000 in
theorem kFits_any {Ad C : Option Addr} {n ca q cc : Nat} {s : Shop} {l : List SeenC} {klo khi : Int} (a z : Int) (w : World) (g : Moulds (fun _ => True) w Ad n s.moulds) (gs : SeenCs (fun _ => True) w C q l) (hca : n ≤ ca) (h1 : s.klo = klo) (h2 : s.khi = khi) :
  Calls Tryz.prog 20 #[.agg #[.int .i64 klo, .int .i64 khi, .slice Ad n ca], .slice C q cc, .agg #[.int .i64 a, .int .i64 z]] w fun e w' => PlsT w.heap.size (fitsR s l a z) e w' ∧ Below w.heap.size w w' := by
 obtain ⟨W, hW⟩ : ∃ W, (w.alloc (.cells #[.int .i64 klo, .int .i64 khi, .slice Ad n ca] 26)).alloc (.cells #[.int .i64 a, .int .i64 z] 23) = W := ⟨_, rfl⟩
 have X5 : Blk W (w.heap.size + 1) 23 #[.int .i64 a, .int .i64 z] := by rw [← hW]; exact Blk.new _ _ _ (by simp)
 have hBW : Below w.heap.size w W := by rw [← hW]; exact bl_alloc (bl_alloc (Below.refl _ _) _ (Nat.le_refl _)) _ (Nat.le_refl _)
 have hc := g.keep MouldR.good (Keeps.below hBW)
 have hs := gs.keep SeenCR.good (Keeps.below hBW)
 have hWs : w.heap.size ≤ W.heap.size := hBW.size
 have HW := Lib.hid hW
 clear hW g gs
 go_enter Tryz.func20, Tryz.ntmps20
 go_wp2_with fail
 rw [HW.out]
 refine (kenter_any W hc hs hca h1 h2).mono ?_
 rintro e W1 ⟨b1, p, rfl, hbx⟩
 have B1 : Below w.heap.size w W1 := hBW.trans (b1.mono hWs)
 have Y5 := X5.bl b1
 clear X5
 by_cases he : (seen7 s l).2 = 0
 ·obtain ⟨gh, rfl, hbox⟩ := hbx he
  have HOK : Hid (OkS s) := okS_of (seen7_zero he).1
  have HE := Lib.hid he
  rw [he]
  clear he hbx
  have z0 := Y5.cell 0
  have z1 := Y5.cell 1
  go_wp2_with fail
  refine (ksize_any a z W1).mono ?_
  rintro e W2 ⟨rfl, b2⟩
  have B2 : Below w.heap.size w W2 := bl_call B1 b2 (Nat.le_refl _)
  have Y52 := Y5.bl b2
  have hbox2 := hbox.bl b2
  clear z0 z1 Y5 hbox b2
  obtain ⟨re, hre⟩ : ∃ re, rangeE ⟨a, z⟩ 0 20000 = re := ⟨_, rfl⟩
  rw [hre]
  have HRE := Lib.hid hre
  clear hre
  by_cases hr : re = 0
  ·have hrb : (re != 0) = false := by rw [hr]; rfl
   have HR0 : Hid (rangeE ⟨a, z⟩ 0 20000 = 0) := by rw [Hid, HRE.out, hr]
   clear hr
   obtain ⟨⟨D, kc, hB, hI, hz, hnz⟩, _⟩ := id hbox2
   have s68 : W2.cell? ⟨gh, 68, none⟩ = some (.slice D (known7 s l).length kc) := (hB.cell 68).trans shopC_68
   have hghl := hB.lt
   by_cases hk : known7 s l = []
   ·have HR := Lib.hid (fitsR_no HE.out HR0.out hk)
    obtain ⟨rfl, rfl⟩ := hz hk
    rw [hk] at s68
    have heq := eqnil_t
    clear hz hnz hk hI hB hbox2
    go_wp2_with fail
    go_ret2
    exact ⟨by rw [HR.out]; exact PlsT.nil, B2⟩
   have HR := Lib.hid (fitsR_n HE.out HR0.out hk)
   obtain ⟨gk, rfl⟩ := hnz hk
   have heq := fun V => eqnil_f gk (known7 s l).length kc V
   have HK := Lib.hid hk
   have HBX := Lib.hid hbox2
   have z0 := Y52.cell 0
   have z1 := Y52.cell 1
   clear hz hnz hk hI hB hbox2
   go_wp2_with fail
   refine (kfits_any HOK.out HK.out a z W2 HBX.out).mono ?_
   rintro e W3 ⟨⟨A9, c9, rfl, hP⟩, b3⟩
   have B3 : Below w.heap.size w W3 := bl_call B2 b3 (Nat.le_refl _)
   clear z0 z1 s68 heq
   go_wp2_with fail
   go_ret2
   exact ⟨by rw [HR.out]; exact ⟨A9, c9, rfl, hP.mono PlR.good (fun k h => Nat.le_trans B2.size h)⟩, B3⟩
  have hrb : (re != 0) = true := by simpa using hr
  have HR : Hid (fitsR s l a z = ([], re)) := by rw [Hid, fitsR_p HE.out (by rw [HRE.out]; exact hr), HRE.out]
  clear hr hbox2
  go_wp2_with fail
  go_ret2
  exact ⟨by rw [HR.out]; exact PlsT.nil, B2⟩
 have HR := Lib.hid (fitsR_bad (a := a) (z := z) he)
 have heb : ((seen7 s l).2 != 0) = true := by simpa using he
 have heb2 : ((seen7 s l).2 == 0) = false := by simpa using he
 clear he hbx
 go_wp2_with fail
 go_ret2
 exact ⟨by rw [HR.out]; exact PlsT.nil, B1⟩
theorem infoPls7 : (Tryz.prog.info? 69).map (fun i => (i.zero, i.size, i.bytes)) = some (some (.slice none 0 0), 1, 24) := by kernel_rfl
theorem kopen1_any (k a z : Int) (w : World) :
  Calls Tryz.prog 80 #[.int .i64 k, .agg #[.int .i64 a, .int .i64 z]] w fun e w' => e = .returned (.int .i64 (rangeE ⟨a, z⟩ 0 20000)) ∧ Below w.heap.size w w' := by
 go_enter Tryz.func80, Tryz.ntmps80
 go_wp2_with (go_at_call 47; refine (ksize_any a z _).mono ?_; rintro e w' ⟨rfl, hb⟩)
 go_ret
 exact ⟨by rfl, bl_call (bl_alloc (Below.refl _ _) _ (Nat.le_refl _)) hb (Nat.le_refl _)⟩
abbrev OrdR : Rd (List (Nat × Nat)) := SlR PlR 2
theorem OrdR.good : OrdR.Good 1 := SlR.good PlR.good
abbrev Ords := SliceOf OrdR 1
def pieceE (p : List (Int × Int)) (k : Nat) : Int := rangeE ⟨(p.getD k (0, 0)).1, (p.getD k (0, 0)).2⟩ 0 20000
def openR (s : Shop) (l : List SeenC) (p : List (Int × Int)) : List (List (Nat × Nat)) × Int := if orderE s l p ≠ 0 then ([], orderE s l p) else (allL s l p, 0)
theorem openR_bad {s : Shop} {l : List SeenC} {p : List (Int × Int)} (e : (seen7 s l).2 ≠ 0) : openR s l p = ([], (seen7 s l).2) := by
 have : orderE s l p = (seen7 s l).2 := by rw [orderE, if_pos e]
 rw [openR, this, if_pos e]
theorem openR_long {s : Shop} {l : List SeenC} {p : List (Int × Int)} (e : (seen7 s l).2 = 0) (h : outB 1 6 (p.length : Int) = true) : openR s l p = ([], 3) := by
 have : orderE s l p = 3 := by rw [orderE, if_neg (by simp [e]), if_pos (by unfold outB at h; simp at h; omega)]
 rw [openR, this, if_pos (by decide)]
theorem orderE_n {s : Shop} {l : List SeenC} {p : List (Int × Int)} (e : (seen7 s l).2 = 0) (h : outB 1 6 (p.length : Int) = false) : orderE s l p = match firstErr (pieceE p) p.length with
  | some (_, e) => e
  | none => if known7 s l = [] then 9 else 0 := by
 rw [orderE, if_neg (by simp [e]), if_neg (by unfold outB at h; simp at h; omega)]; rfl
theorem openR_p {s : Shop} {l : List SeenC} {p : List (Int × Int)} (e : (seen7 s l).2 = 0) (h : outB 1 6 (p.length : Int) = false) (h2 : (firstP (pieceE p) p.length).2 ≠ 0) : openR s l p = ([], (firstP (pieceE p) p.length).2) := by
 have : orderE s l p = (firstP (pieceE p) p.length).2 := by
  rw [orderE_n e h]
  unfold firstP at h2 ⊢
  cases hf : firstErr (pieceE p) p.length with
  | none => rw [hf] at h2; exact absurd rfl h2
  | some x => rfl
 rw [openR, this, if_pos h2]
theorem openR_no {s : Shop} {l : List SeenC} {p : List (Int × Int)} (e : (seen7 s l).2 = 0) (h : outB 1 6 (p.length : Int) = false) (h2 : (firstP (pieceE p) p.length).2 = 0) : openR s l p = if known7 s l = [] then ([], 9) else (allL s l p, 0) := by
 have h3 : firstErr (pieceE p) p.length = none := by
  rcases firstErr_cases (pieceE p) p.length with ⟨h4, _⟩ | ⟨k, _, h4, h5, _⟩
  ·exact h4
  rw [firstP_some h4] at h2; exact absurd h2 h5
 have : orderE s l p = if known7 s l = [] then 9 else 0 := by rw [orderE_n e h, h3]
 rw [openR, this]
 by_cases hk : known7 s l = []
 ·rw [if_pos hk, if_pos (by decide), if_pos hk]
 rw [if_neg hk, if_neg (by decide), if_neg hk]
def OrdT (B : Nat) (r : List (List (Nat × Nat)) × Int) (e : Ending) (w' : World) : Prop := ∃ A c, e = .returned (.tuple #[.slice A r.1.length c, .int .i64 r.2]) ∧ Ords (fun k => B ≤ k) w' A r.1.length r.1
theorem OrdT.nil {B : Nat} {e : Int} {w' : World} : OrdT B ([], e) (.returned (.tuple #[.slice none 0 0, .int .i64 e])) w' := ⟨none, 0, rfl, rfl, Nat.zero_le _, fun k x hx => by simp at hx⟩
theorem app20 (a b : Value) : (#[a, b] ++ #[] : Array Value) = #[a, b] := rfl
theorem all_snoc {s : Shop} {l : List SeenC} {p : List (Int × Int)} {k : Nat} {a z : Int} (h : p[k]? = some (a, z)) : (allL s l p).take (k + 1) = (allL s l p).take k ++ [fit7 s l a z] := by
 unfold allL
 exact take_snoc_get (by rw [List.getElem?_map, h]; rfl)
set_option maxRecDepth 100000 in
set_option maxHeartbeats 4000000 in
theorem kopen_any {Ad C P : Option Addr} {n ca q cc m pc : Nat} {s : Shop} {l : List SeenC} {p : List (Int × Int)} {klo khi : Int} (w : World) (g : Moulds (fun _ => True) w Ad n s.moulds) (gs : SeenCs (fun _ => True) w C q l) (gp : Pairs (fun _ => True) w P m p) (hca : n ≤ ca) (h1 : s.klo = klo) (h2 : s.khi = khi) :
  Calls Tryz.prog 49 #[.agg #[.int .i64 klo, .int .i64 khi, .slice Ad n ca], .slice C q cc, .slice P m pc] w fun e w' => OrdT w.heap.size (openR s l p) e w' ∧ Below w.heap.size w w' := by
 obtain ⟨iS, hiS, hzS0, hzS1, hzS2⟩ := info_parts infoPls7
 obtain ⟨W, hW⟩ : ∃ W, w.alloc (.cells #[.int .i64 klo, .int .i64 khi, .slice Ad n ca] 26) = W := ⟨_, rfl⟩
 have hBW : Below w.heap.size w W := by rw [← hW]; exact bl_alloc (Below.refl _ _) _ (Nat.le_refl _)
 have hc := g.keep MouldR.good (Keeps.below hBW)
 have hs := gs.keep SeenCR.good (Keeps.below hBW)
 have hp := gp.keep PairR.good (Keeps.below hBW)
 have hWs : w.heap.size ≤ W.heap.size := hBW.size
 have hmle := gp.le
 have HML := Lib.hid gp.len
 have HW := Lib.hid hW
 have HP := Lib.hid hp
 clear hW g gs gp hp
 go_enter Tryz.func49, Tryz.ntmps49
 go_wp2_with fail
 rw [HW.out]
 refine (kenter_any W hc hs hca h1 h2).mono ?_
 rintro e W1 ⟨b1, pp, rfl, hbx⟩
 have B1 : Below w.heap.size w W1 := hBW.trans (b1.mono hWs)
 by_cases he : (seen7 s l).2 = 0
 ·obtain ⟨gh, rfl, hbox⟩ := hbx he
  have HOK : Hid (OkS s) := okS_of (seen7_zero he).1
  have HE := Lib.hid he
  rw [he]
  clear he hbx
  cases ho : outB 1 6 (m : Int)
  ·have HO := Lib.hid ho
   have hm6 : 1 ≤ m ∧ m ≤ 6 := by have := outB_iff.1 ho; omega
   go_wp2_with fail
   refine (kout1 _ (by exact newc rfl rfl) ho).mono ?_
   rintro e W2 ⟨rfl, c2⟩
   have b2 : Below W1.heap.size W1 W2 := bl_call (bl_alloc (Below.refl _ _) _ (Nat.le_refl _)) c2 (Nat.le_refl _)
   have B2 : Below w.heap.size w W2 := bl_call B1 b2 (Nat.le_refl _)
   have hbox2 := hbox.bl b2
   have HP2 : Hid (Pairs (fun _ => True) W2 P m p) := HP.out.keep PairR.good (Keeps.below (bl_call b1 b2 (Nat.le_refl _)))
   clear c2 ho hbox b2
   go_wp2_with fail
   refine (kfirstP_any (pieceE p) 80 #[] eg_KO _ HP2.out (fun k a z V hV hx => by
    rw [app20]
    refine (kopen1_any k a z V).mono ?_
    rintro e V2 ⟨rfl, hb⟩
    exact ⟨by unfold pieceE; rw [getD_of hx.out], hb⟩)).mono ?_
   rintro e W3 ⟨rfl, b3⟩
   have B3 : Below w.heap.size w W3 := bl_call B2 b3 (Nat.le_refl _)
   have hbox3 := hbox2.bl b3
   have HP3 : Hid (Pairs (fun _ => True) W3 P m p) := HP2.out.keep PairR.good (Keeps.below b3)
   clear hbox2 b3
   obtain ⟨e1, he1⟩ : ∃ e1, (firstP (pieceE p) m).2 = e1 := ⟨_, rfl⟩
   obtain ⟨e0, he0⟩ : ∃ e0, (firstP (pieceE p) m).1 = e0 := ⟨_, rfl⟩
   rw [he1, he0]
   have HE1 := Lib.hid he1
   clear he1 he0
   by_cases hr : e1 = 0
   ·have HE2 : Hid ((firstP (pieceE p) p.length).2 = 0) := by rw [Hid, HML.out, HE1.out, hr]
    have HR := Lib.hid (openR_no HE.out (by rw [HML.out]; exact HO.out) HE2.out)
    subst hr
    obtain ⟨⟨D, kc, hB, hI, hz, hnz⟩, _⟩ := id hbox3
    have s68 : W3.cell? ⟨gh, 68, none⟩ = some (.slice D (known7 s l).length kc) := (hB.cell 68).trans shopC_68
    have hghl := hB.lt
    by_cases hk : known7 s l = []
    ·have HR2 : Hid (openR s l p = ([], 9)) := by rw [Hid, HR.out, if_pos hk]
     obtain ⟨rfl, rfl⟩ := hz hk
     rw [hk] at s68
     have heq := eqnil_t
     clear hz hnz hk hI hB hbox3
     go_wp2_with fail
     go_ret2
     exact ⟨by rw [HR2.out]; exact OrdT.nil, B3⟩
    have HR2 : Hid (openR s l p = (allL s l p, 0)) := by rw [Hid, HR.out, if_neg hk]
    obtain ⟨gk, rfl⟩ := hnz hk
    have heq := fun V => eqnil_f gk (known7 s l).length kc V
    have HK := Lib.hid hk
    have HBX := Lib.hid hbox3
    have HB3 := Lib.hid B3
    have hAL : (allL s l p).length = m := by unfold allL; rw [List.length_map]; exact HML.out
    have HAL := Lib.hid hAL
    clear hz hnz hk hI hB hbox3 hAL
    go_wp2_with fail
    clear s68 heq
    go_loopw [6, 10, 46] (fun o _ i' wr => ∃ (k c : Nat) (An : Option Addr), i' = .int .i64 k ∧ k ≤ m ∧ o = .slice An k c ∧ Hid (OwnT (fun k => W3.heap.size ≤ k) OrdR 1 wr W3.heap.size 69 (.slice An k c) ((allL s l p).take k)) ∧ Hid (Below W3.heap.size W3 wr)) (fun _ _ i' _ => m - (intOf i').toNat)
    case atStart => exact ⟨0, 0, none, rfl, Nat.zero_le _, rfl, by rw [List.take_zero]; exact OwnT.nil _ _ _ _ _ _, Below.refl _ _⟩
    case round =>
     obtain ⟨k, c, An, rfl, hk, rfl, HO2, HB⟩ := hrel
     by_cases hlt : k < m
     ·have hki : (k : Int) < m := by omega
      obtain ⟨b, off, a, z, rfl, hb0, hd0, hd1, Hx⟩ := Pairs.get (HP3.out.keep PairR.good (Keeps.below HB.out)) hlt
      have HTL : Hid (((allL s l p).take k).length = k) := by rw [Hid, List.length_take, HAL.out]; omega
      have HTS : Hid ((allL s l p).take (k + 1) = (allL s l p).take k ++ [fit7 s l a z]) := all_snoc Hx.out
      obtain ⟨V, hV⟩ : ∃ V, wr.alloc (.cells #[.int .i64 a, .int .i64 z] 23) = V := ⟨_, rfl⟩
      have bV : Below wr.heap.size wr V := by rw [← hV]; exact bl_alloc (Below.refl _ _) _ (Nat.le_refl _)
      have hZ : Blk V wr.heap.size 23 #[.int .i64 a, .int .i64 z] := by rw [← hV]; exact Blk.new _ _ _ rfl
      have k0 := hZ.cell 0
      have k1 := hZ.cell 1
      have HBV : Hid (Below W3.heap.size W3 V) := bl_call HB.out bV (Nat.le_refl _)
      have HOV : Hid (OwnT (fun k => W3.heap.size ≤ k) OrdR 1 V W3.heap.size 69 (.slice An k c) ((allL s l p).take k)) := OwnT.below OrdR.good HO2.out bV
      clear bV hZ HO2 HB
      go_wp2_with fail
      clear k0 k1 hV hd0 hd1
      refine (kfits_any HOK.out HK.out a z V (HBX.out.bl HBV.out)).mono ?_
      rintro e V2 ⟨⟨A9, c9, rfl, hP9⟩, b2⟩
      have HB2 : Hid (Below W3.heap.size W3 V2) := bl_call HBV.out b2 (Nat.le_refl _)
      have hOb : ∀ g, (Value.slice An k c).ownBlock = some g → g < V.heap.size := fun g hg => (OwnL.block HOV.out g hg).2
      have HOb := Lib.hid hOb
      have HO3 : Hid (OwnT (fun k => W3.heap.size ≤ k) OrdR 1 V2 W3.heap.size 69 (.slice An k c) ((allL s l p).take k)) := OwnT.below OrdR.good HOV.out b2
      have hVs := HBV.out.size
      have HP9 := Lib.hid hP9
      clear b2 HBV HOV hOb hP9
      go_wp2_with (at_builtin; refine wpList_append_t _ rfl (.tmp 50) (.tmp 54) _ rfl (fun k => W3.heap.size ≤ k) OrdR.good W3.heap.size 69 iS _ 24 Tryz.underlying113 hiS hzS0 hzS1 hzS2 rfl (by omega) (.slice An k c) ((allL s l p).take k) (fit7 s l a z) k HTL.out rfl (OwnT.below OrdR.good HO3.out (bl_alloc (Below.refl _ _) _ (Nat.le_refl _))) ⟨_, 0, none⟩ 1 [.slice A9 (fit7 s l a z).length c9] rfl ⟨_, _, _, rfl, (HP9.out.keep PlR.good (Keeps.alloc _ _)).mono PlR.good (fun g hg => ⟨by omega, fun e => by have := HOb.out g e; omega⟩)⟩ (news_new rfl rfl) ?c1 ?c2 ?c3 ?_)
      case c1 => simp only [maxLen]; omega
      case c2 => omega
      case c3 => have := HB2.out.size; simp; omega
      intro A' cap' w3 hown2 hg2 hat2
      have hB3 : Below W3.heap.size W3 w3 := bl_grown (bl_alloc HB2.out _ (Nat.le_refl _)) (OwnT.below OrdR.good HO3.out (bl_alloc (Below.refl _ _) _ (Nat.le_refl _))) hg2 (Nat.le_refl _) (Nat.le_refl _)
      have HO4 : Hid (OwnT (fun k => W3.heap.size ≤ k) OrdR 1 w3 W3.heap.size 69 (.slice (some ⟨A', 0, none⟩) (k + 1) cap') ((allL s l p).take (k + 1))) := by rw [Hid, HTS.out]; exact hown2
      have HB4 := Lib.hid hB3
      clear hown2 hg2 hat2 hB3
      go_wp2_with fail
      go_roundw
      case rel => exact ⟨k + 1, cap', some ⟨A', 0, none⟩, by go_num, by omega, by simp, HO4, HB4⟩
      case measure => simp [intOf]; omega
     obtain rfl : m = k := by omega
     have hki : ¬ ((m : Int)) < m := by omega
     go_wp2_with fail
     go_ret2
     have hfull : (allL s l p).take m = allL s l p := List.take_of_length_le (by rw [HAL.out]; exact Nat.le_refl _)
     have hO := HO2.out
     rw [hfull] at hO
     have hL : Ords (fun k => w.heap.size ≤ k) wr An m (allL s l p) := OwnT.slice OrdR.good hO rfl (by simp only [maxLen]; omega) (fun k h => Nat.le_trans HB3.out.size h) (fun k h => Nat.le_trans HB3.out.size h)
     refine ⟨?_, bl_call HB3.out HB.out (Nat.le_refl _)⟩
     rw [HR2.out]
     exact ⟨An, c, by rw [HAL.out]; rfl, by rw [HAL.out]; exact hL⟩
   have hrb : (e1 != 0) = true := by simpa using hr
   have hrb2 : (e1 == 0) = false := by simpa using hr
   have HR : Hid (openR s l p = ([], e1)) := by
    have := openR_p HE.out (by rw [HML.out]; exact HO.out) (by rw [HML.out, HE1.out]; exact hr)
    rw [HML.out, HE1.out] at this
    exact this
   clear hr hbox3
   go_wp2_with fail
   go_ret2
   exact ⟨by rw [HR.out]; exact OrdT.nil, B3⟩
  have HR : Hid (openR s l p = ([], 3)) := openR_long HE.out (by rw [HML.out]; exact ho)
  go_wp2_with fail
  refine (kout1 _ (by exact newc rfl rfl) ho).mono ?_
  rintro e W2 ⟨rfl, c2⟩
  have B2 : Below w.heap.size w W2 := bl_call (bl_alloc B1 _ (Nat.le_refl _)) c2 (Nat.le_refl _)
  clear c2 ho hbox
  go_wp2_with fail
  go_ret2
  exact ⟨by rw [HR.out]; exact OrdT.nil, B2⟩
 have HR := Lib.hid (openR_bad (p := p) he)
 have heb : ((seen7 s l).2 != 0) = true := by simpa using he
 have heb2 : ((seen7 s l).2 == 0) = false := by simpa using he
 clear he hbx
 go_wp2_with fail
 go_ret2
 exact ⟨by rw [HR.out]; exact OrdT.nil, B1⟩
end Go.Proofs.YtdbfincinjoppabGreatDoor
