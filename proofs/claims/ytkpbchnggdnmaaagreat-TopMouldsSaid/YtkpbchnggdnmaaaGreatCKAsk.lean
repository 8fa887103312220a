/- A part of the proof that TopMoulds always answers true. -/
import Derived.Test.YtkpbchnggdnmaaaGreatCCastHall2
import Derived.Test.YtkpbchnggdnmaaaGreatCCastHall3
import Derived.Test.YtkpbchnggdnmaaaGreatCCastPlan2
import Derived.Test.YtkpbchnggdnmaaaGreatCKOpen
set_option linter.all false
namespace Go.Proofs.YtkpbchnggdnmaaaGreat
open Go.RowKit Go.Shelf
def univ8 : List Pl := (List.range 4).flatMap fun m => (List.range 8).map fun c => (m, c)
theorem univ8_len : univ8.length = 32 := by decide +kernel
theorem univ8_bd : ∀ a ∈ univ8, a.1 < 4 ∧ a.2 < 8 := by decide +kernel
theorem univ8_mem {a : Pl} (h1 : a.1 < 4) (h2 : a.2 < 8) : a ∈ univ8 := by
 unfold univ8
 rw [List.mem_flatMap]
 exact ⟨a.1, List.mem_range.2 h1, List.mem_map.2 ⟨a.2, List.mem_range.2 h2, rfl⟩⟩
theorem fit_mem {s : Shop} {l : List SeenC} {a z : Int} (hok : OkS s) (hk : known7 s l ≠ []) : (fit7 s l a z).length ≤ 32 ∧ ∀ x ∈ fit7 s l a z, x ∈ univ8 := by
 constructor
 ·obtain ⟨m1, hm1⟩ : ∃ m, s.moulds.length = m + 1 := ⟨s.moulds.length - 1, by have := hok.nm; omega⟩
  have hlt : m1 < s.moulds.length := by omega
  have h2 := fitU_len (l := l) (a := a) (z := z) hok m1 (castsN s m1) hlt (Nat.le_refl _)
  have h3 := (castsN_bd hok hlt).2.1
  have h4 := hok.nm.2
  rw [← fitU_all (a := a) (z := z) hok hk, hm1, ← fitU_next]
  omega
 intro x hx
 unfold fit7 at hx
 have hx := (List.mem_filter.1 hx).1
 unfold placesL at hx
 rw [List.mem_flatMap] at hx
 obtain ⟨m, hm, hx⟩ := hx
 rw [List.mem_map] at hx
 obtain ⟨c, hc, rfl⟩ := hx
 have hm := List.mem_range.1 hm
 have hc := List.mem_range.1 hc
 have h3 := (castsN_bd hok hm).2.1
 have h4 := hok.nm.2
 unfold castsN at h3
 exact univ8_mem (by dsimp only; omega) (by dsimp only; omega)
theorem all_hu {s : Shop} {l : List SeenC} {p : List (Int × Int)} (hok : OkS s) (hk : known7 s l ≠ []) (j : Nat) : ((allL s l p).getD j []).length ≤ 32 ∧ ∀ a ∈ (allL s l p).getD j [], a ∈ univ8 := by
 unfold allL
 rw [List.getD_eq_getElem?_getD, List.getElem?_map]
 cases p[j]? with
 | none => exact ⟨Nat.zero_le _, fun a h => by cases h⟩
 | some x => exact fit_mem hok hk
theorem mask_bits : ∀ s : Nat, s < 256 → ∀ i : Nat, i < 8 → bits BinOp.and .i64 ((s : Int) / 2 ^ i) 1 = if hasN (bitL s) i then 1 else 0 := by decide +kernel
theorem ones_bits : ∀ i : Nat, i < 4 → bits BinOp.and .i64 ((-1 : Int) / 2 ^ i) 1 = 1 := by decide +kernel
theorem order_zero {s : Shop} {l : List SeenC} {p : List (Int × Int)} (h : orderE s l p = 0) : OkS s ∧ known7 s l ≠ [] ∧ 1 ≤ p.length ∧ p.length ≤ 6 := by
 unfold orderE at h
 by_cases he : (seen7 s l).2 = 0
 ·rw [if_neg (by simp [he])] at h
  by_cases hp : 1 ≤ p.length ∧ p.length ≤ 6
  ·rw [if_neg (by simpa using hp)] at h
   refine ⟨okS_of (seen7_zero he).1, ?_, hp⟩
   intro hk
   split at h
   ·rename_i k e hf
    rcases firstErr_cases (fun k => rangeE ⟨(p.getD k (0, 0)).1, (p.getD k (0, 0)).2⟩ 0 20000) p.length with ⟨h4, _⟩ | ⟨k', _, h4, h5, _⟩
    ·rw [h4] at hf; cases hf
    rw [h4] at hf; injection hf with hf; injection hf with _ hf; exact h5 (hf.trans h)
   rw [if_pos hk] at h; cases h
  rw [if_pos hp] at h; cases h
 rw [if_pos he] at h; exact absurd h he
def IntsT (B : Nat) (r : List Int × Int) (e : Ending) (w' : World) : Prop := ∃ A c, e = .returned (.tuple #[.slice A r.1.length c, .int .i64 r.2]) ∧ Ints (fun k => B ≤ k) w' A r.1.length r.1
theorem IntsT.nil {B : Nat} {e : Int} {w' : World} : IntsT B ([], e) (.returned (.tuple #[.slice none 0 0, .int .i64 e])) w' := ⟨none, 0, rfl, rfl, Nat.zero_le _, fun k x hx => by simp at hx⟩
theorem find_at {α : Type} {q : α → Bool} {x : α} : ∀ {L : List α} {k : Nat}, (∀ y ∈ L.take k, q y = false) → L[k]? = some x → q x = true → L.find? q = some x
 | [], k, _, h, _ => by simp at h
 | a :: L, 0, _, h, hq => by simp at h; subst h; rw [List.find?_cons, hq]
 | a :: L, k + 1, h0, h, hq => by
  rw [List.take_succ_cons] at h0
  rw [List.find?_cons, h0 a List.mem_cons_self]
  exact find_at (fun y hy => h0 y (List.mem_cons_of_mem _ hy)) (by simpa using h) hq
theorem find_none {α : Type} {q : α → Bool} {L : List α} {k : Nat} (h : ∀ y ∈ L.take k, q y = false) (hk : L.length ≤ k) : L.find? q = none := by
 rw [List.take_of_length_le hk] at h
 rw [List.find?_eq_none]
 intro x hx hq
 rw [h x hx] at hq; cases hq
theorem kgive_set {o : List (List Pl)} {n c : Nat} {A : Option Addr} (hu : ∀ j, (o.getD j []).length ≤ 32 ∧ ∀ a ∈ o.getD j [], a ∈ univ8) (hN : o.length ≤ 6) (s : Nat) (hs : s < 256) (is : Nat → Bool) (his : ∀ i, i < 8 → hasN (bitL s) i = is i) (w : World) (g : Ords (fun _ => True) w A n o) :
  Calls Tryz.prog 44 #[.slice A n c, .int .i64 (s : Int), .int .i64 (-1), .slice none 0 0] w fun e w' => e = .returned (.int .i64 (giveR o (fun _ => true) is [] : Nat)) ∧ Below w.heap.size w w' :=
 kgive_any (L := 32) (univ := univ8) (fixed := []) hu univ8_bd (fun a h => by cases h) (by decide) (by rw [univ8_len]; omega) (by omega) hN (fun i => by rw [univ8_len]; have := (hu i).1; unfold seekF; omega)
  (fun a ha => by rw [if_pos rfl]; exact ones_bits a.1 (univ8_bd a ha).1) (fun i hi => by rw [← his i (by omega)]; exact mask_bits s hs i (by omega)) w g (SliceOf.nil _ _ _ _ _)
theorem lacksR_bad {s : Shop} {l : List SeenC} {p : List (Int × Int)} (h : orderE s l p ≠ 0) : lacksR s l p = ([], orderE s l p) := by rw [lacksR, if_pos h]
theorem openR_e {s : Shop} {l : List SeenC} {p : List (Int × Int)} (h : orderE s l p ≠ 0) : openR s l p = ([], orderE s l p) := by rw [openR, if_pos h]
theorem openR_0 {s : Shop} {l : List SeenC} {p : List (Int × Int)} (h : orderE s l p = 0) : openR s l p = (allL s l p, 0) := by rw [openR, if_neg (by simp [h])]
theorem someR_bad {s : Shop} {l : List SeenC} {p : List (Int × Int)} (h : orderE s l p ≠ 0) : someR s l p = ([], orderE s l p) := by rw [someR, if_pos h]
theorem someR_0 {s : Shop} {l : List SeenC} {p : List (Int × Int)} (h : orderE s l p = 0) : someR s l p = (someK (allL s l p) p.length, 0) := by rw [someR, if_neg (by simp [h])]
def lackQ (o : List (List Pl)) (set : List Int) : Bool := decide (giveR o (fun _ => true) (fun i => hasN set i) [] < set.length)
theorem lacksR_some {s : Shop} {l : List SeenC} {p : List (Int × Int)} {set : List Int} (h : orderE s l p = 0) (hf : (setsL p.length).find? (lackQ (allL s l p)) = some set) : lacksR s l p = (set, 0) := by
 rw [lacksR, if_neg (by simp [h])]
 have : (fun set : List Int => decide (giveR (allL s l p) (fun _ => true) (fun i => hasN set i) [] < set.length)) = lackQ (allL s l p) := rfl
 rw [this, hf]
theorem lacksR_none {s : Shop} {l : List SeenC} {p : List (Int × Int)} (h : orderE s l p = 0) (hf : (setsL p.length).find? (lackQ (allL s l p)) = none) : lacksR s l p = ([], 4) := by
 rw [lacksR, if_neg (by simp [h])]
 have : (fun set : List Int => decide (giveR (allL s l p) (fun _ => true) (fun i => hasN set i) [] < set.length)) = lackQ (allL s l p) := rfl
 rw [this, hf]
theorem setsM_lt : ∀ n, n < 7 → ∀ s ∈ setsM n, s < 64 := by decide +kernel
theorem give_le8 (o : List (List Pl)) (ok : Pl → Bool) (is : Nat → Bool) (fixed : List Pl) (h : o.length ≤ 6) : giveR o ok is fixed ≤ 6 := by
 have h1 := give_le o ok is fixed o.length
 have h2 : ∀ k, countK is k ≤ k := fun k => by unfold countK; exact Nat.le_trans (List.length_filter_le _ _) (by simp)
 have := h2 o.length
 unfold giveR
 omega
set_option maxRecDepth 100000 in
set_option maxHeartbeats 4000000 in
theorem klacks_any {Ad C P : Option Addr} {n ca q cc m pc : Nat} {s : Shop} {l : List SeenC} {p : List (Int × Int)} {klo khi : Int} (w : World) (g : Moulds (fun _ => True) w Ad n s.moulds) (gs : SeenCs (fun _ => True) w C q l) (gp : Pairs (fun _ => True) w P m p) (hca : n ≤ ca) (h1 : s.klo = klo) (h2 : s.khi = khi) :
  Calls Tryz.prog 26 #[.agg #[.int .i64 klo, .int .i64 khi, .slice Ad n ca], .slice C q cc, .slice P m pc] w fun e w' => IntsT w.heap.size (lacksR s l p) e w' ∧ Below w.heap.size w w' := by
 obtain ⟨W, hW⟩ : ∃ W, w.alloc (.cells #[.int .i64 klo, .int .i64 khi, .slice Ad n ca] 26) = W := ⟨_, rfl⟩
 have hBW : Below w.heap.size w W := by rw [← hW]; exact bl_alloc (Below.refl _ _) _ (Nat.le_refl _)
 have HO := Lib.hid (kopen_any (ca := ca) (cc := cc) (pc := pc) W (g.keep MouldR.good (Keeps.below hBW)) (gs.keep SeenCR.good (Keeps.below hBW)) (gp.keep PairR.good (Keeps.below hBW)) hca h1 h2)
 have HBW := Lib.hid hBW
 have HML := Lib.hid gp.len
 have HW := Lib.hid hW
 clear g gs gp hBW hW
 go_enter Tryz.func26, Tryz.ntmps26
 go_wp2_with fail
 rw [HW.out]
 refine HO.out.mono ?_
 rintro e W1 ⟨⟨A, c, rfl, hA⟩, b1⟩
 have B1 : Hid (Below w.heap.size w W1) := HBW.out.trans (b1.mono HBW.out.size)
 clear b1
 by_cases he : orderE s l p = 0
 ·obtain ⟨hok, hk, hp1, hp6⟩ := order_zero he
  rw [openR_0 he] at hA ⊢
  dsimp only at hA ⊢
  obtain ⟨o, ho⟩ : ∃ o, allL s l p = o := ⟨_, rfl⟩
  have HU : Hid (∀ j, (o.getD j []).length ≤ 32 ∧ ∀ a ∈ o.getD j [], a ∈ univ8) := by rw [← ho]; exact all_hu hok hk
  have hol : o.length = m := by rw [← ho]; unfold allL; rw [List.length_map]; exact HML.out
  have hm6 : m ≤ 6 := by have := HML.out; omega
  have HLS : Hid (∀ set, (setsL m).find? (lackQ o) = some set → lacksR s l p = (set, 0)) := fun set hf => lacksR_some he (by rw [HML.out, ho]; exact hf)
  have HLN : Hid ((setsL m).find? (lackQ o) = none → lacksR s l p = ([], 4)) := fun hf => lacksR_none he (by rw [HML.out, ho]; exact hf)
  rw [ho, hol] at hA
  rw [ho, hol]
  have HA : Hid (Ords (fun _ => True) W1 A m o) := hA.mono OrdR.good (fun _ _ => trivial)
  have HOL := Lib.hid hol
  clear he hok hk hp1 hp6 ho hA hol
  go_wp2_with fail
  refine (ksets_any m hm6 W1).mono ?_
  rintro e W2 ⟨⟨A2, c2, rfl, hI⟩, b2⟩
  obtain ⟨ls, hls⟩ : ∃ ls, (setsM m).length = ls := ⟨_, rfl⟩
  rw [hls] at hI ⊢
  have HI := Lib.hid hI
  have HLSS := Lib.hid hls
  have B2 : Hid (Below W1.heap.size W1 W2) := b2
  have hls64 := hI.le
  clear hI b2 hls
  go_wp2_with fail
  go_loopw [11, 26] (fun _ i' wr => ∃ k : Nat, i' = .int .i64 k ∧ k ≤ ls ∧ Hid (∀ y ∈ (setsL m).take k, lackQ o y = false) ∧ Hid (Below W2.heap.size W2 wr)) (fun _ i' _ => ls - (intOf i').toNat)
  case atStart => exact ⟨0, rfl, Nat.zero_le _, by rw [Hid, List.take_zero]; exact (fun y hy => by cases hy), Below.refl _ _⟩
  case round =>
   obtain ⟨k, rfl, hk, HT, HB⟩ := hrel
   have HBA : Hid (Below W1.heap.size W1 wr) := B2.out.trans (HB.out.mono B2.out.size)
   have HBw : Hid (Below w.heap.size w wr) := B1.out.trans (HBA.out.mono B1.out.size)
   by_cases hlt : k < ls
   ·have hki : (k : Int) < ls := by omega
    obtain ⟨b3, off3, x, rfl, hd3, Hx⟩ := Ints.get (HI.out.keep IntR.good (Keeps.below HB.out)) hlt
    obtain ⟨sv, hsv, rfl⟩ : ∃ sv : Nat, (setsM m)[k]? = some sv ∧ x = (sv : Int) := by
     have h := Hx.out
     have hkl : k < (setsM m).length := by rw [HLSS.out]; exact hlt
     rw [List.getElem?_map, List.getElem?_eq_getElem hkl] at h
     exact ⟨_, List.getElem?_eq_getElem hkl, by simpa using h.symm⟩
    have hs64 := setsM_lt m (by omega) sv (List.mem_of_getElem? hsv)
    have HSET : Hid ((setsL m)[k]? = some (bitL sv)) := by rw [Hid, ← setsM_bits m (by omega), List.getElem?_map, hsv]; rfl
    obtain ⟨gv, hgv⟩ : ∃ gv, giveR o (fun _ => true) (fun i => hasN (bitL sv) i) [] = gv := ⟨_, rfl⟩
    have hgv6 : gv ≤ 6 := by rw [← hgv]; exact give_le8 _ _ _ _ (by rw [HOL.out]; exact hm6)
    have HGV := Lib.hid hgv
    have hbl := bitL_len sv (by omega)
    obtain ⟨bl, hbl2⟩ : ∃ bl, (bitL sv).length = bl := ⟨_, rfl⟩
    have HBL := Lib.hid hbl2
    rw [hbl2] at hbl
    have HONE : Hid (∀ V, Calls Tryz.prog 54 #[.int .u64 (sv : Int)] V fun e w' => e = .returned (.int .i64 (bl : Int)) ∧ V = w') := fun V => by have := ones_any sv (by omega) V; rw [hbl2] at this; exact this
    clear hsv hgv hbl2
    go_wp2_with fail
    refine (kgive_set HU.out (by rw [HOL.out]; exact hm6) sv (by omega) (fun i => hasN (bitL sv) i) (fun i hi => rfl) wr (HA.out.keep OrdR.good (Keeps.below HBA.out))).mono ?_
    rintro e W3 ⟨rfl, b3⟩
    rw [HGV.out]
    have HB3 : Hid (Below W2.heap.size W2 W3) := bl_call HB.out b3 (Nat.le_refl _)
    have HB3w : Hid (Below w.heap.size w W3) := bl_call HBw.out b3 (Nat.le_refl _)
    clear b3 hd3
    go_wp2_with fail
    refine (HONE.out _).mono ?_
    rintro e W4 ⟨rfl, rfl⟩
    by_cases hgl : gv < bl
    ·have HR : Hid (lacksR s l p = (bitL sv, 0)) := HLS.out _ (find_at HT.out HSET.out (by unfold lackQ; rw [HGV.out, HBL.out]; exact decide_eq_true hgl))
     have hgi : (gv : Int) < bl := by omega
     go_wp2_with fail
     refine (klist_any sv W3 (by omega)).mono ?_
     rintro e W4 ⟨⟨A4, c4, rfl, i4⟩, g4⟩
     have HE : Hid (Below w.heap.size w W4) := bl_call HB3w.out g4.2 (Nat.le_refl _)
     have HI4 : Hid (Ints (fun k => w.heap.size ≤ k) W4 A4 (bitL sv).length (bitL sv)) := i4.mono IntR.good (fun k h => Nat.le_trans HB3w.out.size h)
     clear i4 g4
     go_wp2_with fail
     go_ret2
     exact ⟨by rw [HR.out]; exact ⟨A4, c4, rfl, HI4.out⟩, HE.out⟩
    have hgi : ¬ (gv : Int) < bl := by omega
    have HT2 : Hid (∀ y ∈ (setsL m).take (k + 1), lackQ o y = false) := by
     rw [Hid, take_snoc_get HSET.out]
     intro y hy
     rcases List.mem_append.1 hy with hy | hy
     ·exact HT.out y hy
     simp at hy; rw [hy]; unfold lackQ; rw [HGV.out, HBL.out]; exact decide_eq_false hgl
    go_wp2_with fail
    go_roundw
    case rel => exact ⟨k + 1, by go_num, by omega, HT2, HB3⟩
    case measure => simp [intOf]; omega
   obtain rfl : k = ls := by omega
   have hki : ¬ (k : Int) < k := by omega
   have HR : Hid (lacksR s l p = ([], 4)) := HLN.out (find_none HT.out (by rw [← setsM_bits m (by omega), List.length_map, HLSS.out]; exact Nat.le_refl _))
   go_wp2_with fail
   go_ret2
   exact ⟨by rw [HR.out]; exact IntsT.nil, HBw.out⟩
 have HR := Lib.hid (lacksR_bad he)
 rw [openR_e he]
 obtain ⟨oe, hoe⟩ : ∃ oe, orderE s l p = oe := ⟨_, rfl⟩
 rw [hoe] at he
 have hob : (oe != 0) = true := by simpa using he
 have HR2 : Hid (lacksR s l p = ([], oe)) := by rw [Hid, HR.out, hoe]
 rw [hoe]
 clear hA HR hoe he
 go_wp2_with fail
 go_ret2
 exact ⟨by rw [HR2.out]; exact IntsT.nil, B1.out⟩
open Go.RowKit Go.Shelf
theorem more_bits : ∀ k : Nat, k < 6 → ∀ s : Nat, s < 2 ^ k → bits BinOp.or .i64 (s : Int) ((2 : Int) ^ k) = ((s + 2 ^ k : Nat) : Int) ∧ s + 2 ^ k < 2 ^ (k + 1) ∧ bitL (s + 2 ^ k) = bitL s ++ [(k : Int)] := by decide +kernel
theorem pow_i : ∀ k : Nat, k < 6 → IntKind.i64.wrap ((2 : Int) ^ k) = 2 ^ k := by decide +kernel
theorem pow6 : ∀ k : Nat, k < 7 → 2 ^ k ≤ 64 := by decide
set_option maxRecDepth 100000 in
set_option maxHeartbeats 4000000 in
theorem ksome_any {Ad C P : Option Addr} {n ca q cc m pc : Nat} {s : Shop} {l : List SeenC} {p : List (Int × Int)} {klo khi : Int} (w : World) (g : Moulds (fun _ => True) w Ad n s.moulds) (gs : SeenCs (fun _ => True) w C q l) (gp : Pairs (fun _ => True) w P m p) (hca : n ≤ ca) (h1 : s.klo = klo) (h2 : s.khi = khi) :
  Calls Tryz.prog 27 #[.agg #[.int .i64 klo, .int .i64 khi, .slice Ad n ca], .slice C q cc, .slice P m pc] w fun e w' => IntsT w.heap.size (someR s l p) e w' ∧ Below w.heap.size w w' := by
 obtain ⟨W, hW⟩ : ∃ W, w.alloc (.cells #[.int .i64 klo, .int .i64 khi, .slice Ad n ca] 26) = W := ⟨_, rfl⟩
 have hBW : Below w.heap.size w W := by rw [← hW]; exact bl_alloc (Below.refl _ _) _ (Nat.le_refl _)
 have HO := Lib.hid (kopen_any (ca := ca) (cc := cc) (pc := pc) W (g.keep MouldR.good (Keeps.below hBW)) (gs.keep SeenCR.good (Keeps.below hBW)) (gp.keep PairR.good (Keeps.below hBW)) hca h1 h2)
 have HBW := Lib.hid hBW
 have HML := Lib.hid gp.len
 have HW := Lib.hid hW
 clear g gs gp hBW hW
 go_enter Tryz.func27, Tryz.ntmps27
 go_wp2_with fail
 rw [HW.out]
 refine HO.out.mono ?_
 rintro e W1 ⟨⟨A, c, rfl, hA⟩, b1⟩
 have B1 : Hid (Below w.heap.size w W1) := HBW.out.trans (b1.mono HBW.out.size)
 clear b1
 by_cases he : orderE s l p = 0
 ·obtain ⟨hok, hk, hp1, hp6⟩ := order_zero he
  rw [openR_0 he] at hA ⊢
  dsimp only at hA ⊢
  obtain ⟨o, ho⟩ : ∃ o, allL s l p = o := ⟨_, rfl⟩
  have HU : Hid (∀ j, (o.getD j []).length ≤ 32 ∧ ∀ a ∈ o.getD j [], a ∈ univ8) := by rw [← ho]; exact all_hu hok hk
  have hol : o.length = m := by rw [← ho]; unfold allL; rw [List.length_map]; exact HML.out
  have hm6 : m ≤ 6 := by have := HML.out; omega
  have HR : Hid (someR s l p = (someK o m, 0)) := by rw [Hid, someR_0 he, ho, HML.out]
  rw [ho, hol] at hA
  rw [ho, hol]
  have HA : Hid (Ords (fun _ => True) W1 A m o) := hA.mono OrdR.good (fun _ _ => trivial)
  have HOL := Lib.hid hol
  clear he hok hk hp1 hp6 ho hA hol
  go_wp2_with fail
  go_loopw [9, 10, 11, 24] (fun v _ _ i' wr => ∃ k sv : Nat, i' = .int .i64 k ∧ k ≤ m ∧ v = .int .i64 (sv : Int) ∧ Hid (sv < 2 ^ k) ∧ Hid (bitL sv = someK o k) ∧ Hid (Below W1.heap.size W1 wr)) (fun _ _ _ i' _ => m - (intOf i').toNat)
  case atStart => exact ⟨0, 0, rfl, Nat.zero_le _, rfl, by show 0 < 1; omega, (by decide : bitL 0 = []), Below.refl _ _⟩
  case round =>
   obtain ⟨k, sv, rfl, hk, rfl, HS, HE, HB⟩ := hrel
   have HBw : Hid (Below w.heap.size w wr) := B1.out.trans (HB.out.mono B1.out.size)
   have hs64 : sv < 64 := by have := HS.out; have := pow6 k (by omega); omega
   by_cases hlt : k < m
   ·have hki : (k : Int) < m := by omega
    have hk64 : (k : Int) < 64 := by omega
    obtain ⟨hor, hlt2, hbm⟩ := more_bits k (by omega) sv HS.out
    have hpw := pow_i k (by omega)
    obtain ⟨mv, hmv⟩ : ∃ mv, sv + 2 ^ k = mv := ⟨_, rfl⟩
    rw [hmv] at hor hlt2 hbm
    have hm64 : mv < 64 := by have := pow6 (k + 1) (by omega); omega
    have hbl := bitL_len mv (by omega)
    have HST := Lib.hid (some_succ o k)
    obtain ⟨bl, hbl2⟩ : ∃ bl, (bitL mv).length = bl := ⟨_, rfl⟩
    have HBL : Hid ((someK o k).length + 1 = bl) := by rw [Hid, ← hbl2, hbm, List.length_append, HE.out]; rfl
    have HBM : Hid (bitL mv = someK o k ++ [(k : Int)]) := by rw [Hid, hbm, HE.out]
    rw [hbl2] at hbl
    have HONE : Hid (∀ V, Calls Tryz.prog 54 #[.int .u64 (mv : Int)] V fun e w' => e = .returned (.int .i64 (bl : Int)) ∧ V = w') := fun V => by have := ones_any mv (by omega) V; rw [hbl2] at this; exact this
    have HIS : Hid (∀ i, i < 8 → hasN (bitL mv) i = (hasN (someK o k) i || decide (i = k))) := fun i _ => by rw [HBM.out, has_snoc]
    obtain ⟨gv, hgv⟩ : ∃ gv, giveR o (fun _ => true) (fun j => hasN (someK o k) j || decide (j = k)) [] = gv := ⟨_, rfl⟩
    have hgv6 : gv ≤ 6 := by rw [← hgv]; exact give_le8 _ _ _ _ (by rw [HOL.out]; exact hm6)
    have HGV := Lib.hid hgv
    have HLT2 := Lib.hid hlt2
    clear hgv hbl2 hmv hlt2 hbm
    go_wp2_with fail
    refine (kgive_set HU.out (by rw [HOL.out]; exact hm6) mv (by omega) _ HIS.out wr (HA.out.keep OrdR.good (Keeps.below HB.out))).mono ?_
    rintro e W3 ⟨rfl, b3⟩
    rw [HGV.out]
    have HB3 : Hid (Below W1.heap.size W1 W3) := bl_call HB.out b3 (Nat.le_refl _)
    clear b3
    go_wp2_with fail
    refine (HONE.out _).mono ?_
    rintro e W4 ⟨rfl, rfl⟩
    by_cases hgl : gv = bl
    ·have HN : Hid (someK o (k + 1) = someK o k ++ [(k : Int)]) := by rw [Hid, HST.out, HGV.out, HBL.out, if_pos hgl]
     have hgi : ((gv : Int) == bl) = true := by rw [hgl]; simp
     go_wp2_with fail
     go_roundw
     case rel => exact ⟨k + 1, mv, by go_num, by omega, rfl, HLT2, by rw [Hid, HN.out, HBM.out], HB3⟩
     case measure => simp [intOf]; omega
    have HN : Hid (someK o (k + 1) = someK o k) := by rw [Hid, HST.out, HGV.out, HBL.out, if_neg hgl]
    have hgi : ((gv : Int) == bl) = false := by simp; omega
    go_wp2_with fail
    go_roundw
    case rel => exact ⟨k + 1, sv, by go_num, by omega, rfl, by have := HS.out; rw [Hid, Nat.pow_succ]; omega, by rw [Hid, HN.out]; exact HE.out, HB3⟩
    case measure => simp [intOf]; omega
   obtain rfl : k = m := by omega
   have hki : ¬ (k : Int) < k := by omega
   go_wp2_with fail
   refine (klist_any sv wr (by omega)).mono ?_
   rintro e W4 ⟨⟨A4, c4, rfl, i4⟩, g4⟩
   have HE4 : Hid (Below w.heap.size w W4) := bl_call HBw.out g4.2 (Nat.le_refl _)
   have HI4 : Hid (Ints (fun k => w.heap.size ≤ k) W4 A4 (bitL sv).length (bitL sv)) := i4.mono IntR.good (fun k h => Nat.le_trans HBw.out.size h)
   clear i4 g4
   go_wp2_with fail
   go_ret2
   exact ⟨by rw [HR.out, ← HE.out]; exact ⟨A4, c4, rfl, HI4.out⟩, HE4.out⟩
 have HR := Lib.hid (someR_bad he)
 rw [openR_e he]
 obtain ⟨oe, hoe⟩ : ∃ oe, orderE s l p = oe := ⟨_, rfl⟩
 rw [hoe] at he
 have hob : (oe != 0) = true := by simpa using he
 have HR2 : Hid (someR s l p = ([], oe)) := by rw [Hid, HR.out, hoe]
 rw [hoe]
 clear hA HR hoe he
 go_wp2_with fail
 go_ret2
 exact ⟨by rw [HR2.out]; exact IntsT.nil, B1.out⟩
end Go.Proofs.YtkpbchnggdnmaaaGreat
