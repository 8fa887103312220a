/- Walks, layer 7: which pieces lack casts; the most pieces with casts. -/
import Derived.Test.YtpdldmichpmgmaaGreatCCastSomes
import Derived.Test.YtpdldmichpmgmaaGreatCKFitss
import Derived.Test.YtpdldmichpmgmaaGreatCKSeeks
import Derived.Test.YtpdldmichpmgmaaGreatCKSorts
import Derived.Test.YtpdldmichpmgmaaGreatCTRegs
set_option linter.unusedVariables false
set_option linter.unusedSimpArgs false
set_option linter.all false
namespace Go.Proofs.YtpdldmichpmgmaaGreat
open Go.RowKit Go.Shelf

/-- all casts that a shop can have -/
def univ8 : List Pl := (List.range 4).flatMap fun m => (List.range 8).map fun c => (m, c)
theorem univ8_len : univ8.length = 32 := by decide +kernel
theorem univ8_bd : ∀ a ∈ univ8, a.1 < 4 ∧ a.2 < 8 := by decide +kernel
theorem univ8_mem {a : Pl} (h1 : a.1 < 4) (h2 : a.2 < 8) : a ∈ univ8 := by
  unfold univ8
  rw [List.mem_flatMap]
  exact ⟨a.1, List.mem_range.2 h1, List.mem_map.2 ⟨a.2, List.mem_range.2 h2, rfl⟩⟩
theorem fit_mem {s : Shop} {l : List SeenC} {a z : Int} (hok : OkS s) (hk : known7 s l ≠ []) : (fit7 s l a z).length ≤ 32 ∧ ∀ x ∈ fit7 s l a z, x ∈ univ8 := by
  constructor
  · obtain ⟨m1, hm1⟩ : ∃ m, s.moulds.length = m + 1 := ⟨s.moulds.length - 1, by have := hok.nm; omega⟩
    have hlt : m1 < s.moulds.length := by omega
    have h2 := fitU_len (l := l) (a := a) (z := z) hok m1 (castsN s m1) hlt (Nat.le_refl _)
    have h3 := (castsN_bd hok hlt).2.1
    have h4 := hok.nm.2
    rw [← fitU_all (a := a) (z := z) hok hk, hm1, ← fitU_next]
    omega
  · intro x hx
    unfold fit7 at hx
    have hx := (List.mem_filter.1 hx).1
    unfold placesL at hx
    rw [List.mem_flatMap] at hx
    obtain ⟨m, hm, hx⟩ := hx
    rw [List.mem_map] at hx
    obtain ⟨c, hc, rfl⟩ := hx
    have hm := List.mem_range.1 hm
    have hc := List.mem_range.1 hc
    have h3 := (castsN_bd hok hm).2.1
    have h4 := hok.nm.2
    unfold castsN at h3
    exact univ8_mem (by dsimp only; omega) (by dsimp only; omega)
theorem all_hu {s : Shop} {l : List SeenC} {p : List (Int × Int)} (hok : OkS s) (hk : known7 s l ≠ []) (j : Nat) : ((allL s l p).getD j []).length ≤ 32 ∧ ∀ a ∈ (allL s l p).getD j [], a ∈ univ8 := by
  unfold allL
  rw [List.getD_eq_getElem?_getD, List.getElem?_map]
  cases p[j]? with
  | none => exact ⟨Nat.zero_le _, fun a h => by cases h⟩
  | some x => exact fit_mem hok hk
theorem mask_bits : ∀ s : Nat, s < 256 → ∀ i : Nat, i < 8 → bits BinOp.and .i64 ((s : Int) / 2 ^ i) 1 = if hasN (bitL s) i then 1 else 0 := by decide +kernel
theorem ones_bits : ∀ i : Nat, i < 4 → bits BinOp.and .i64 ((-1 : Int) / 2 ^ i) 1 = 1 := by decide +kernel
theorem order_zero {s : Shop} {l : List SeenC} {p : List (Int × Int)} (h : orderE s l p = 0) : OkS s ∧ known7 s l ≠ [] ∧ 1 ≤ p.length ∧ p.length ≤ 6 := by
  unfold orderE at h
  by_cases he : (seen7 s l).2 = 0
  · rw [if_neg (by simp [he])] at h
    by_cases hp : 1 ≤ p.length ∧ p.length ≤ 6
    · rw [if_neg (by simpa using hp)] at h
      refine ⟨okS_of (seen7_zero he).1, ?_, hp⟩
      intro hk
      split at h
      · rename_i k e hf
        rcases firstErr_cases (fun k => rangeE ⟨(p.getD k (0, 0)).1, (p.getD k (0, 0)).2⟩ 0 20000) p.length with ⟨h4, _⟩ | ⟨k', _, h4, h5, _⟩
        · rw [h4] at hf; cases hf
        · rw [h4] at hf; injection hf with hf; injection hf with _ hf; exact h5 (hf.trans h)
      · rw [if_pos hk] at h; cases h
    · rw [if_pos hp] at h; cases h
  · rw [if_pos he] at h; exact absurd h he
/-- new ints and an error, as an answer -/
def IntsT (B : Nat) (r : List Int × Int) (e : Ending) (w' : World) : Prop := ∃ A c, e = .returned (.tuple #[.slice A r.1.length c, .int .i64 r.2]) ∧ Ints (fun k => B ≤ k) w' A r.1.length r.1
theorem IntsT.nil {B : Nat} {e : Int} {w' : World} : IntsT B ([], e) (.returned (.tuple #[.slice none 0 0, .int .i64 e])) w' := ⟨none, 0, rfl, rfl, Nat.zero_le _, fun k x hx => by simp at hx⟩
theorem find_at {α : Type} {q : α → Bool} {x : α} : ∀ {L : List α} {k : Nat}, (∀ y ∈ L.take k, q y = false) → L[k]? = some x → q x = true → L.find? q = some x
  | [], k, _, h, _ => by simp at h
  | a :: L, 0, _, h, hq => by simp at h; subst h; rw [List.find?_cons, hq]
  | a :: L, k + 1, h0, h, hq => by
    rw [List.take_succ_cons] at h0
    rw [List.find?_cons, h0 a List.mem_cons_self]
    exact find_at (fun y hy => h0 y (List.mem_cons_of_mem _ hy)) (by simpa using h) hq
theorem find_none {α : Type} {q : α → Bool} {L : List α} {k : Nat} (h : ∀ y ∈ L.take k, q y = false) (hk : L.length ≤ k) : L.find? q = none := by
  rw [List.take_of_length_le hk] at h
  rw [List.find?_eq_none]
  intro x hx hq
  rw [h x hx] at hq; cases hq
/-- how many of some pieces can have casts, as the program asks -/
theorem kgive_set {o : List (List Pl)} {n c : Nat} {A : Option Addr} (hu : ∀ j, (o.getD j []).length ≤ 32 ∧ ∀ a ∈ o.getD j [], a ∈ univ8) (hN : o.length ≤ 6) (s : Nat) (hs : s < 256) (is : Nat → Bool) (his : ∀ i, i < 8 → hasN (bitL s) i = is i) (w : World) (g : Ords (fun _ => True) w A n o) :
    Calls Tryz.prog 32 #[.slice A n c, .int .i64 (s : Int), .int .i64 (-1), .slice none 0 0] w fun e w' => e = .returned (.int .i64 (giveR o (fun _ => true) is [] : Nat)) ∧ Below w.heap.size w w' :=
  kgive_any (L := 32) (univ := univ8) (fixed := []) hu univ8_bd (fun a h => by cases h) (by decide) (by rw [univ8_len]; omega) (by omega) hN (fun i => by rw [univ8_len]; have := (hu i).1; unfold seekF; omega)
    (fun a ha => by rw [if_pos rfl]; exact ones_bits a.1 (univ8_bd a ha).1) (fun i hi => by rw [← his i (by omega)]; exact mask_bits s hs i (by omega)) w g (SliceOf.nil _ _ _ _ _)

theorem lacksR_bad {s : Shop} {l : List SeenC} {p : List (Int × Int)} (h : orderE s l p ≠ 0) : lacksR s l p = ([], orderE s l p) := by rw [lacksR, if_pos h]
theorem openR_e {s : Shop} {l : List SeenC} {p : List (Int × Int)} (h : orderE s l p ≠ 0) : openR s l p = ([], orderE s l p) := by rw [openR, if_pos h]
theorem openR_0 {s : Shop} {l : List SeenC} {p : List (Int × Int)} (h : orderE s l p = 0) : openR s l p = (allL s l p, 0) := by rw [openR, if_neg (by simp [h])]
theorem someR_bad {s : Shop} {l : List SeenC} {p : List (Int × Int)} (h : orderE s l p ≠ 0) : someR s l p = ([], orderE s l p) := by rw [someR, if_pos h]
theorem someR_0 {s : Shop} {l : List SeenC} {p : List (Int × Int)} (h : orderE s l p = 0) : someR s l p = (someK (allL s l p) p.length, 0) := by rw [someR, if_neg (by simp [h])]
/-- does a set of pieces lack casts, as the program asks -/
def lackQ (o : List (List Pl)) (set : List Int) : Bool := decide (giveR o (fun _ => true) (fun i => hasN set i) [] < set.length)
theorem lacksR_some {s : Shop} {l : List SeenC} {p : List (Int × Int)} {set : List Int} (h : orderE s l p = 0) (hf : (setsL p.length).find? (lackQ (allL s l p)) = some set) : lacksR s l p = (set, 0) := by
  rw [lacksR, if_neg (by simp [h])]
  have : (fun set : List Int => decide (giveR (allL s l p) (fun _ => true) (fun i => hasN set i) [] < set.length)) = lackQ (allL s l p) := rfl
  rw [this, hf]
theorem lacksR_none {s : Shop} {l : List SeenC} {p : List (Int × Int)} (h : orderE s l p = 0) (hf : (setsL p.length).find? (lackQ (allL s l p)) = none) : lacksR s l p = ([], 4) := by
  rw [lacksR, if_neg (by simp [h])]
  have : (fun set : List Int => decide (giveR (allL s l p) (fun _ => true) (fun i => hasN set i) [] < set.length)) = lackQ (allL s l p) := rfl
  rw [this, hf]
theorem setsM_lt : ∀ n, n < 7 → ∀ s ∈ setsM n, s < 64 := by decide +kernel
theorem give_le8 (o : List (List Pl)) (ok : Pl → Bool) (is : Nat → Bool) (fixed : List Pl) (h : o.length ≤ 6) : giveR o ok is fixed ≤ 6 := by
  have h1 := give_le o ok is fixed o.length
  have h2 : ∀ k, countK is k ≤ k := fun k => by unfold countK; exact Nat.le_trans (List.length_filter_le _ _) (by simp)
  have := h2 o.length
  unfold giveR
  omega
set_option maxRecDepth 100000 in
set_option maxHeartbeats 4000000 in
theorem klacks_any {Ad C P : Option Addr} {n ca q cc m pc : Nat} {s : Shop} {l : List SeenC} {p : List (Int × Int)} {klo khi : Int} (w : World) (g : Moulds (fun _ => True) w Ad n s.moulds) (gs : SeenCs (fun _ => True) w C q l) (gp : Pairs (fun _ => True) w P m p) (hca : n ≤ ca) (h1 : s.klo = klo) (h2 : s.khi = khi) :
    Calls Tryz.prog 11 #[.agg #[.int .i64 klo, .int .i64 khi, .slice Ad n ca], .slice C q cc, .slice P m pc] w fun e w' => IntsT w.heap.size (lacksR s l p) e w' ∧ Below w.heap.size w w' := by
  obtain ⟨W, hW⟩ : ∃ W, w.alloc (.cells #[.int .i64 klo, .int .i64 khi, .slice Ad n ca] 26) = W := ⟨_, rfl⟩
  have hBW : Below w.heap.size w W := by rw [← hW]; exact bl_alloc (Below.refl _ _) _ (Nat.le_refl _)
  have HO := Lib.hid (kopen_any (ca := ca) (cc := cc) (pc := pc) W (g.keep MouldR.good (Keeps.below hBW)) (gs.keep SeenCR.good (Keeps.below hBW)) (gp.keep PairR.good (Keeps.below hBW)) hca h1 h2)
  have HBW := Lib.hid hBW
  have HML := Lib.hid gp.len
  have HW := Lib.hid hW
  clear g gs gp hBW hW
  go_enter Tryz.func11, Tryz.ntmps11
  go_wp2_with fail
  rw [HW.out]
  refine HO.out.mono ?_
  rintro e W1 ⟨⟨A, c, rfl, hA⟩, b1⟩
  have B1 : Hid (Below w.heap.size w W1) := HBW.out.trans (b1.mono HBW.out.size)
  clear b1
  by_cases he : orderE s l p = 0
  · obtain ⟨hok, hk, hp1, hp6⟩ := order_zero he
    rw [openR_0 he] at hA ⊢
    dsimp only at hA ⊢
    obtain ⟨o, ho⟩ : ∃ o, allL s l p = o := ⟨_, rfl⟩
    have HU : Hid (∀ j, (o.getD j []).length ≤ 32 ∧ ∀ a ∈ o.getD j [], a ∈ univ8) := by rw [← ho]; exact all_hu hok hk
    have hol : o.length = m := by rw [← ho]; unfold allL; rw [List.length_map]; exact HML.out
    have hm6 : m ≤ 6 := by have := HML.out; omega
    have HLS : Hid (∀ set, (setsL m).find? (lackQ o) = some set → lacksR s l p = (set, 0)) := fun set hf => lacksR_some he (by rw [HML.out, ho]; exact hf)
    have HLN : Hid ((setsL m).find? (lackQ o) = none → lacksR s l p = ([], 4)) := fun hf => lacksR_none he (by rw [HML.out, ho]; exact hf)
    rw [ho, hol] at hA
    rw [ho, hol]
    have HA : Hid (Ords (fun _ => True) W1 A m o) := hA.mono OrdR.good (fun _ _ => trivial)
    have HOL := Lib.hid hol
    clear he hok hk hp1 hp6 ho hA hol
    go_wp2_with fail
    refine (ksets_any m hm6 W1).mono ?_
    rintro e W2 ⟨⟨A2, c2, rfl, hI⟩, b2⟩
    obtain ⟨ls, hls⟩ : ∃ ls, (setsM m).length = ls := ⟨_, rfl⟩
    rw [hls] at hI ⊢
    have HI := Lib.hid hI
    have HLSS := Lib.hid hls
    have B2 : Hid (Below W1.heap.size W1 W2) := b2
    have hls64 := hI.le
    clear hI b2 hls
    go_wp2_with fail
    go_loopw [11, 26] (fun _ i' wr => ∃ k : Nat, i' = .int .i64 k ∧ k ≤ ls ∧ Hid (∀ y ∈ (setsL m).take k, lackQ o y = false) ∧ Hid (Below W2.heap.size W2 wr)) (fun _ i' _ => ls - (intOf i').toNat)
    case atStart => exact ⟨0, rfl, Nat.zero_le _, by rw [Hid, List.take_zero]; exact (fun y hy => by cases hy), Below.refl _ _⟩
    case round =>
      obtain ⟨k, rfl, hk, HT, HB⟩ := hrel
      have HBA : Hid (Below W1.heap.size W1 wr) := B2.out.trans (HB.out.mono B2.out.size)
      have HBw : Hid (Below w.heap.size w wr) := B1.out.trans (HBA.out.mono B1.out.size)
      by_cases hlt : k < ls
      · have hki : (k : Int) < ls := by omega
        obtain ⟨b3, off3, x, rfl, hd3, Hx⟩ := Ints.get (HI.out.keep IntR.good (Keeps.below HB.out)) hlt
        obtain ⟨sv, hsv, rfl⟩ : ∃ sv : Nat, (setsM m)[k]? = some sv ∧ x = (sv : Int) := by
          have h := Hx.out
          have hkl : k < (setsM m).length := by rw [HLSS.out]; exact hlt
          rw [List.getElem?_map, List.getElem?_eq_getElem hkl] at h
          exact ⟨_, List.getElem?_eq_getElem hkl, by simpa using h.symm⟩
        have hs64 := setsM_lt m (by omega) sv (List.mem_of_getElem? hsv)
        have HSET : Hid ((setsL m)[k]? = some (bitL sv)) := by rw [Hid, ← setsM_bits m (by omega), List.getElem?_map, hsv]; rfl
        obtain ⟨gv, hgv⟩ : ∃ gv, giveR o (fun _ => true) (fun i => hasN (bitL sv) i) [] = gv := ⟨_, rfl⟩
        have hgv6 : gv ≤ 6 := by rw [← hgv]; exact give_le8 _ _ _ _ (by rw [HOL.out]; exact hm6)
        have HGV := Lib.hid hgv
        have hbl := bitL_len sv (by omega)
        obtain ⟨bl, hbl2⟩ : ∃ bl, (bitL sv).length = bl := ⟨_, rfl⟩
        have HBL := Lib.hid hbl2
        rw [hbl2] at hbl
        have HONE : Hid (∀ V, Calls Tryz.prog 37 #[.int .u64 (sv : Int)] V fun e w' => e = .returned (.int .i64 (bl : Int)) ∧ V = w') := fun V => by have := ones_any sv (by omega) V; rw [hbl2] at this; exact this
        clear hsv hgv hbl2
        go_wp2_with fail
        refine (kgive_set HU.out (by rw [HOL.out]; exact hm6) sv (by omega) (fun i => hasN (bitL sv) i) (fun i hi => rfl) wr (HA.out.keep OrdR.good (Keeps.below HBA.out))).mono ?_
        rintro e W3 ⟨rfl, b3⟩
        rw [HGV.out]
        have HB3 : Hid (Below W2.heap.size W2 W3) := bl_call HB.out b3 (Nat.le_refl _)
        have HB3w : Hid (Below w.heap.size w W3) := bl_call HBw.out b3 (Nat.le_refl _)
        clear b3 hd3
        go_wp2_with fail
        refine (HONE.out _).mono ?_
        rintro e W4 ⟨rfl, rfl⟩
        by_cases hgl : gv < bl
        · have HR : Hid (lacksR s l p = (bitL sv, 0)) := HLS.out _ (find_at HT.out HSET.out (by unfold lackQ; rw [HGV.out, HBL.out]; exact decide_eq_true hgl))
          have hgi : (gv : Int) < bl := by omega
          go_wp2_with fail
          refine (klist_any sv W3 (by omega)).mono ?_
          rintro e W4 ⟨⟨A4, c4, rfl, i4⟩, g4⟩
          have HE : Hid (Below w.heap.size w W4) := bl_call HB3w.out g4.2 (Nat.le_refl _)
          have HI4 : Hid (Ints (fun k => w.heap.size ≤ k) W4 A4 (bitL sv).length (bitL sv)) := i4.mono IntR.good (fun k h => Nat.le_trans HB3w.out.size h)
          clear i4 g4
          go_wp2_with fail
          go_ret2
          exact ⟨by rw [HR.out]; exact ⟨A4, c4, rfl, HI4.out⟩, HE.out⟩
        · have hgi : ¬ (gv : Int) < bl := by omega
          have HT2 : Hid (∀ y ∈ (setsL m).take (k + 1), lackQ o y = false) := by
            rw [Hid, take_snoc_get HSET.out]
            intro y hy
            rcases List.mem_append.1 hy with hy | hy
            · exact HT.out y hy
            · simp at hy; rw [hy]; unfold lackQ; rw [HGV.out, HBL.out]; exact decide_eq_false hgl
          go_wp2_with fail
          go_roundw
          case rel => exact ⟨k + 1, by go_num, by omega, HT2, HB3⟩
          case measure => simp [intOf]; omega
      · obtain rfl : k = ls := by omega
        have hki : ¬ (k : Int) < k := by omega
        have HR : Hid (lacksR s l p = ([], 4)) := HLN.out (find_none HT.out (by rw [← setsM_bits m (by omega), List.length_map, HLSS.out]; exact Nat.le_refl _))
        go_wp2_with fail
        go_ret2
        exact ⟨by rw [HR.out]; exact IntsT.nil, HBw.out⟩
  · have HR := Lib.hid (lacksR_bad he)
    rw [openR_e he]
    obtain ⟨oe, hoe⟩ : ∃ oe, orderE s l p = oe := ⟨_, rfl⟩
    rw [hoe] at he
    have hob : (oe != 0) = true := by simpa using he
    have HR2 : Hid (lacksR s l p = ([], oe)) := by rw [Hid, HR.out, hoe]
    rw [hoe]
    clear hA HR hoe he
    go_wp2_with fail
    go_ret2
    exact ⟨by rw [HR2.out]; exact IntsT.nil, B1.out⟩
end Go.Proofs.YtpdldmichpmgmaaGreat

namespace Go.Proofs.YtpdldmichpmgmaaGreat
open Go.RowKit Go.Shelf

theorem more_bits : ∀ k : Nat, k < 6 → ∀ s : Nat, s < 2 ^ k → bits BinOp.or .i64 (s : Int) ((2 : Int) ^ k) = ((s + 2 ^ k : Nat) : Int) ∧ s + 2 ^ k < 2 ^ (k + 1) ∧ bitL (s + 2 ^ k) = bitL s ++ [(k : Int)] := by decide +kernel
theorem pow_i : ∀ k : Nat, k < 6 → IntKind.i64.wrap ((2 : Int) ^ k) = 2 ^ k := by decide +kernel
theorem pow6 : ∀ k : Nat, k < 7 → 2 ^ k ≤ 64 := by decide
set_option maxRecDepth 100000 in
set_option maxHeartbeats 4000000 in
theorem ksome_any {Ad C P : Option Addr} {n ca q cc m pc : Nat} {s : Shop} {l : List SeenC} {p : List (Int × Int)} {klo khi : Int} (w : World) (g : Moulds (fun _ => True) w Ad n s.moulds) (gs : SeenCs (fun _ => True) w C q l) (gp : Pairs (fun _ => True) w P m p) (hca : n ≤ ca) (h1 : s.klo = klo) (h2 : s.khi = khi) :
    Calls Tryz.prog 13 #[.agg #[.int .i64 klo, .int .i64 khi, .slice Ad n ca], .slice C q cc, .slice P m pc] w fun e w' => IntsT w.heap.size (someR s l p) e w' ∧ Below w.heap.size w w' := by
  obtain ⟨W, hW⟩ : ∃ W, w.alloc (.cells #[.int .i64 klo, .int .i64 khi, .slice Ad n ca] 26) = W := ⟨_, rfl⟩
  have hBW : Below w.heap.size w W := by rw [← hW]; exact bl_alloc (Below.refl _ _) _ (Nat.le_refl _)
  have HO := Lib.hid (kopen_any (ca := ca) (cc := cc) (pc := pc) W (g.keep MouldR.good (Keeps.below hBW)) (gs.keep SeenCR.good (Keeps.below hBW)) (gp.keep PairR.good (Keeps.below hBW)) hca h1 h2)
  have HBW := Lib.hid hBW
  have HML := Lib.hid gp.len
  have HW := Lib.hid hW
  clear g gs gp hBW hW
  go_enter Tryz.func13, Tryz.ntmps13
  go_wp2_with fail
  rw [HW.out]
  refine HO.out.mono ?_
  rintro e W1 ⟨⟨A, c, rfl, hA⟩, b1⟩
  have B1 : Hid (Below w.heap.size w W1) := HBW.out.trans (b1.mono HBW.out.size)
  clear b1
  by_cases he : orderE s l p = 0
  · obtain ⟨hok, hk, hp1, hp6⟩ := order_zero he
    rw [openR_0 he] at hA ⊢
    dsimp only at hA ⊢
    obtain ⟨o, ho⟩ : ∃ o, allL s l p = o := ⟨_, rfl⟩
    have HU : Hid (∀ j, (o.getD j []).length ≤ 32 ∧ ∀ a ∈ o.getD j [], a ∈ univ8) := by rw [← ho]; exact all_hu hok hk
    have hol : o.length = m := by rw [← ho]; unfold allL; rw [List.length_map]; exact HML.out
    have hm6 : m ≤ 6 := by have := HML.out; omega
    have HR : Hid (someR s l p = (someK o m, 0)) := by rw [Hid, someR_0 he, ho, HML.out]
    rw [ho, hol] at hA
    rw [ho, hol]
    have HA : Hid (Ords (fun _ => True) W1 A m o) := hA.mono OrdR.good (fun _ _ => trivial)
    have HOL := Lib.hid hol
    clear he hok hk hp1 hp6 ho hA hol
    go_wp2_with fail
    go_loopw [9, 10, 11, 24] (fun v _ _ i' wr => ∃ k sv : Nat, i' = .int .i64 k ∧ k ≤ m ∧ v = .int .i64 (sv : Int) ∧ Hid (sv < 2 ^ k) ∧ Hid (bitL sv = someK o k) ∧ Hid (Below W1.heap.size W1 wr)) (fun _ _ _ i' _ => m - (intOf i').toNat)
    case atStart => exact ⟨0, 0, rfl, Nat.zero_le _, rfl, by show 0 < 1; omega, (by decide : bitL 0 = []), Below.refl _ _⟩
    case round =>
      obtain ⟨k, sv, rfl, hk, rfl, HS, HE, HB⟩ := hrel
      have HBw : Hid (Below w.heap.size w wr) := B1.out.trans (HB.out.mono B1.out.size)
      have hs64 : sv < 64 := by have := HS.out; have := pow6 k (by omega); omega
      by_cases hlt : k < m
      · have hki : (k : Int) < m := by omega
        have hk64 : (k : Int) < 64 := by omega
        obtain ⟨hor, hlt2, hbm⟩ := more_bits k (by omega) sv HS.out
        have hpw := pow_i k (by omega)
        obtain ⟨mv, hmv⟩ : ∃ mv, sv + 2 ^ k = mv := ⟨_, rfl⟩
        rw [hmv] at hor hlt2 hbm
        have hm64 : mv < 64 := by have := pow6 (k + 1) (by omega); omega
        have hbl := bitL_len mv (by omega)
        have HST := Lib.hid (some_succ o k)
        obtain ⟨bl, hbl2⟩ : ∃ bl, (bitL mv).length = bl := ⟨_, rfl⟩
        have HBL : Hid ((someK o k).length + 1 = bl) := by rw [Hid, ← hbl2, hbm, List.length_append, HE.out]; rfl
        have HBM : Hid (bitL mv = someK o k ++ [(k : Int)]) := by rw [Hid, hbm, HE.out]
        rw [hbl2] at hbl
        have HONE : Hid (∀ V, Calls Tryz.prog 37 #[.int .u64 (mv : Int)] V fun e w' => e = .returned (.int .i64 (bl : Int)) ∧ V = w') := fun V => by have := ones_any mv (by omega) V; rw [hbl2] at this; exact this
        have HIS : Hid (∀ i, i < 8 → hasN (bitL mv) i = (hasN (someK o k) i || decide (i = k))) := fun i _ => by rw [HBM.out, has_snoc]
        obtain ⟨gv, hgv⟩ : ∃ gv, giveR o (fun _ => true) (fun j => hasN (someK o k) j || decide (j = k)) [] = gv := ⟨_, rfl⟩
        have hgv6 : gv ≤ 6 := by rw [← hgv]; exact give_le8 _ _ _ _ (by rw [HOL.out]; exact hm6)
        have HGV := Lib.hid hgv
        have HLT2 := Lib.hid hlt2
        clear hgv hbl2 hmv hlt2 hbm
        go_wp2_with fail
        refine (kgive_set HU.out (by rw [HOL.out]; exact hm6) mv (by omega) _ HIS.out wr (HA.out.keep OrdR.good (Keeps.below HB.out))).mono ?_
        rintro e W3 ⟨rfl, b3⟩
        rw [HGV.out]
        have HB3 : Hid (Below W1.heap.size W1 W3) := bl_call HB.out b3 (Nat.le_refl _)
        clear b3
        go_wp2_with fail
        refine (HONE.out _).mono ?_
        rintro e W4 ⟨rfl, rfl⟩
        by_cases hgl : gv = bl
        · have HN : Hid (someK o (k + 1) = someK o k ++ [(k : Int)]) := by rw [Hid, HST.out, HGV.out, HBL.out, if_pos hgl]
          have hgi : ((gv : Int) == bl) = true := by rw [hgl]; simp
          go_wp2_with fail
          go_roundw
          case rel => exact ⟨k + 1, mv, by go_num, by omega, rfl, HLT2, by rw [Hid, HN.out, HBM.out], HB3⟩
          case measure => simp [intOf]; omega
        · have HN : Hid (someK o (k + 1) = someK o k) := by rw [Hid, HST.out, HGV.out, HBL.out, if_neg hgl]
          have hgi : ((gv : Int) == bl) = false := by simp; omega
          go_wp2_with fail
          go_roundw
          case rel => exact ⟨k + 1, sv, by go_num, by omega, rfl, by have := HS.out; rw [Hid, Nat.pow_succ]; omega, by rw [Hid, HN.out]; exact HE.out, HB3⟩
          case measure => simp [intOf]; omega
      · obtain rfl : k = m := by omega
        have hki : ¬ (k : Int) < k := by omega
        go_wp2_with fail
        refine (klist_any sv wr (by omega)).mono ?_
        rintro e W4 ⟨⟨A4, c4, rfl, i4⟩, g4⟩
        have HE4 : Hid (Below w.heap.size w W4) := bl_call HBw.out g4.2 (Nat.le_refl _)
        have HI4 : Hid (Ints (fun k => w.heap.size ≤ k) W4 A4 (bitL sv).length (bitL sv)) := i4.mono IntR.good (fun k h => Nat.le_trans HBw.out.size h)
        clear i4 g4
        go_wp2_with fail
        go_ret2
        exact ⟨by rw [HR.out, ← HE.out]; exact ⟨A4, c4, rfl, HI4.out⟩, HE4.out⟩
  · have HR := Lib.hid (someR_bad he)
    rw [openR_e he]
    obtain ⟨oe, hoe⟩ : ∃ oe, orderE s l p = oe := ⟨_, rfl⟩
    rw [hoe] at he
    have hob : (oe != 0) = true := by simpa using he
    have HR2 : Hid (someR s l p = ([], oe)) := by rw [Hid, HR.out, hoe]
    rw [hoe]
    clear hA HR hoe he
    go_wp2_with fail
    go_ret2
    exact ⟨by rw [HR2.out]; exact IntsT.nil, B1.out⟩
end Go.Proofs.YtpdldmichpmgmaaGreat

namespace Go.Proofs.YtpdldmichpmgmaaGreat
open Go.RowKit Go.Shelf

theorem noneIn {xs : List (Nat × Nat)} {b : Nat × Nat} : ∀ y ∈ xs.take 0, y ≠ b := fun y hy => by rw [List.take_zero] at hy; cases hy
set_option maxRecDepth 100000 in
set_option maxHeartbeats 1000000 in
theorem kindex_any {S : Foot} {A : Option Addr} {m c : Nat} {xs : List (Nat × Nat)} (a z : Nat) (w : World) (h : Pls S w A m xs) :
    Calls Tryz.prog 64 #[.slice A m c, .agg #[.int .i64 (a : Int), .int .i64 (z : Int)]] w fun e w' => (∃ i : Int, e = .returned (.int .i64 i) ∧ (0 ≤ i ↔ (a, z) ∈ xs)) ∧ Below w.heap.size w w' := by
  obtain ⟨W, hW⟩ : ∃ W, w.alloc (.cells #[.int .i64 (a : Int), .int .i64 (z : Int)] 54) = W := ⟨_, rfl⟩
  obtain ⟨g9, hg9⟩ : ∃ g, w.heap.size = g := ⟨_, rfl⟩
  have hBW : Below w.heap.size w W := by rw [← hW]; exact bl_alloc (Below.refl _ _) _ (Nat.le_refl _)
  have hX : Blk W g9 54 #[.int .i64 (a : Int), .int .i64 (z : Int)] := by rw [← hW, ← hg9]; exact Blk.new _ _ _ rfl
  have HBW := Lib.hid hBW
  have HX := Lib.hid hX
  have HP : Hid (Pls S W A m xs) := h.keep PlR.good (Keeps.below hBW)
  have HML := Lib.hid h.len
  have hml := h.le
  clear h hBW hX
  go_enter Tryz.func64, Tryz.ntmps64
  go_wp2_with fail
  clear hW
  go_loopw [5, 8] (fun _ i' wr => ∃ k : Nat, i' = .int .i64 k ∧ k ≤ m ∧ Hid (∀ y ∈ xs.take k, y ≠ (a, z)) ∧ Hid (Below W.heap.size W wr)) (fun _ i' _ => m - (intOf i').toNat)
  case atStart => exact ⟨0, rfl, Nat.zero_le _, noneIn, Below.refl _ _⟩
  case round =>
    obtain ⟨k, rfl, hk, HT, HB⟩ := hrel
    by_cases hlt : k < m
    · have hki : (k : Int) < m := by omega
      obtain ⟨b2, off2, am, ac, rfl, hb2, hd0, hd1, Hat⟩ := Pls.get (HP.out.keep PlR.good (Keeps.below HB.out)) hlt
      have hTS : Hid (xs.take (k + 1) = xs.take k ++ [(am, ac)]) := take_snoc_get Hat.out
      go_wp2_with fail
      have kk : Hid (∀ V : World, Below wr.heap.size wr V → V.cell? ⟨g9, 0, none⟩ = some (.int .i64 (a : Int)) ∧ V.cell? ⟨g9, 1, none⟩ = some (.int .i64 (z : Int)) ∧ V.cell? ⟨b2, off2 + k * 2, none⟩ = some (.int .i64 (am : Int)) ∧ V.cell? ⟨b2, off2 + k * 2 + 1, none⟩ = some (.int .i64 (ac : Int))) := fun V hV => by
        have hx := HX.out.bl (bl_call HB.out hV (Nat.le_refl _))
        exact ⟨hx.cell 0, hx.cell 1, getc hV hd0, getc hV hd1⟩
      obtain ⟨bb, hbb⟩ : ∃ bb, decide ((a, z) = (am, ac)) = bb := ⟨_, rfl⟩
      have HBB := Lib.hid hbb
      clear hbb
      refine wp_region_list (fun V => Below wr.heap.size wr V) (fun _ _ => True)
        [isV (.agg #[.int .i64 (a : Int), .int .i64 (z : Int)]), isV (.slice (some ⟨b2, off2, none⟩) m c), isV (.int .i64 (k : Int)), isV (.pointer (some ⟨b2, off2 + k * 2, none⟩)), isV (.agg #[.int .i64 (am : Int), .int .i64 (ac : Int)]), isV (.bool bb)]
        (by kernel_rfl) (by kernel_rfl) (by kernel_rfl) (by simp) (by simp) (Below.refl _ _).drew ?stab ?step ?fin
      case stab => exact (StabL.is (StabL.is (StabL.is (StabL.is (StabL.is (StabL.is StabL.nil))))))
      case step =>
        refine StepsL.isA ?_ (StepsL.isA ?_ (StepsL.isA ?_ (StepsL.isA ?_ (StepsL.isA ?_ (StepsL.isA ?_ StepsL.nil)))))
        · intro vs t W K ha hC hD hU hK
          have r3 : t.tmps[3]? = some (.pointer (some ⟨g9, 0, none⟩)) := by rw [ha]; kernel_rfl
          clear ha hU hD
          rw [if_pos (by rfl)]
          obtain ⟨k0, k1, k2, k3⟩ := kk.out W hC
          go_simp
          exact hK _ hC trivial
        · intro vs t W K ha hC hD hU hK
          have r0 : t.tmps[0]? = some (.slice (some ⟨b2, off2, none⟩) m c) := by rw [ha]; kernel_rfl
          clear ha hU hD
          rw [if_pos (by rfl)]
          go_simp
          exact hK _ hC trivial
        · intro vs t W K ha hC hD hU hK
          have r5 : t.tmps[5]? = some (.int .i64 (k : Int)) := by rw [ha]; kernel_rfl
          clear ha hU hD
          rw [if_pos (by rfl)]
          go_simp
          exact hK _ hC trivial
        · intro vs t W K ha hC hD hU hK
          have r12 : t.tmps[12]? = some (vs 1) := by rw [ha]; kernel_rfl
          have q1 : vs 1 = .slice (some ⟨b2, off2, none⟩) m c := hD 1 (by simp [waits, Region.binds])
          rw [q1] at r12
          have r13 : t.tmps[13]? = some (vs 2) := by rw [ha]; kernel_rfl
          have q2 : vs 2 = .int .i64 (k : Int) := hD 2 (by simp [waits, Region.binds])
          rw [q2] at r13
          clear ha hU hD
          rw [if_pos (by rfl)]
          go_simp
          exact hK _ hC trivial
        · intro vs t W K ha hC hD hU hK
          have r14 : t.tmps[14]? = some (vs 3) := by rw [ha]; kernel_rfl
          have q3 : vs 3 = .pointer (some ⟨b2, off2 + k * 2, none⟩) := hD 3 (by simp [waits, Region.binds])
          rw [q3] at r14
          clear ha hU hD
          rw [if_pos (by rfl)]
          obtain ⟨k0, k1, k2, k3⟩ := kk.out W hC
          go_simp
          exact hK _ hC trivial
        · intro vs t W K ha hC hD hU hK
          have r11 : t.tmps[11]? = some (vs 0) := by rw [ha]; kernel_rfl
          have q0 : vs 0 = .agg #[.int .i64 (a : Int), .int .i64 (z : Int)] := hD 0 (by simp [waits, Region.binds])
          rw [q0] at r11
          have r15 : t.tmps[15]? = some (vs 4) := by rw [ha]; kernel_rfl
          have q4 : vs 4 = .agg #[.int .i64 (am : Int), .int .i64 (ac : Int)] := hD 4 (by simp [waits, Region.binds])
          rw [q4] at r15
          clear ha hU hD
          rw [if_pos (by rfl)]
          go_simp
          by_cases h1 : a = am
          · by_cases h2 : z = ac
            · have hb : bb = true := by rw [← HBB.out, h1, h2]; simp
              subst hb
              rw [if_pos (by omega), if_pos (by omega)]
              go_simp
              exact hK _ hC trivial
            · have hb : bb = false := by rw [← HBB.out]; simp [h2]
              subst hb
              rw [if_pos (by omega), if_neg (by omega)]
              go_simp
              exact hK _ hC trivial
          · have hb : bb = false := by rw [← HBB.out]; simp [h1]
            subst hb
            rw [if_neg (by omega)]
            go_simp
            exact hK _ hC trivial
      case fin =>
        intro vs W9 hC hE hU
        have e5 := hE 5 (by simp)
        simp only [envOf, List.getD_cons_succ, List.getD_cons_zero, isV] at e5
        simp only [fillA, Act.put, List.setIfInBounds_toArray, List.set_cons_zero, List.set_cons_succ, Nat.zero_add, Nat.reduceAdd, e5]
        obtain ⟨u0, hu0⟩ : ∃ v0, vs 0 = v0 := ⟨_, rfl⟩
        obtain ⟨u1, hu1⟩ : ∃ v0, vs 1 = v0 := ⟨_, rfl⟩
        obtain ⟨u2, hu2⟩ : ∃ v0, vs 2 = v0 := ⟨_, rfl⟩
        obtain ⟨u3, hu3⟩ : ∃ v0, vs 3 = v0 := ⟨_, rfl⟩
        obtain ⟨u4, hu4⟩ : ∃ v0, vs 4 = v0 := ⟨_, rfl⟩
        rw [hu0, hu1, hu2, hu3, hu4]
        have HB9 : Hid (Below W.heap.size W W9) := bl_call HB.out hC (Nat.le_refl _)
        clear hu0 hu1 hu2 hu3 hu4 hE hU e5 hC HB
        cases bb with
        | true =>
          have heq : (a, z) = (am, ac) := of_decide_eq_true HBB.out
          have HIN : Hid ((a, z) ∈ xs) := by rw [Hid, heq]; exact List.mem_of_getElem? Hat.out
          clear heq
          go_simp
          go_wp2_with fail
          go_ret
          exact ⟨⟨k, rfl, by simp [HIN.out]⟩, HBW.out.trans (HB9.out.mono HBW.out.size)⟩
        | false =>
          have hne : (am, ac) ≠ (a, z) := fun e => of_decide_eq_false HBB.out e.symm
          have HT2 : Hid (∀ y ∈ xs.take (k + 1), y ≠ (a, z)) := by
            rw [Hid, hTS.out]
            intro y hy
            rcases List.mem_append.1 hy with hy | hy
            · exact HT.out y hy
            · simp at hy; rw [hy]; exact hne
          clear hne
          go_simp
          go_wp2_with fail
          go_roundw
          case rel => exact ⟨k + 1, by go_num, by omega, HT2, HB9⟩
          case measure => simp [intOf]; omega
    · obtain rfl : k = m := by omega
      have hki : ¬ (k : Int) < k := by omega
      have HN : Hid ((a, z) ∉ xs) := fun h => by
        have h2 := HT.out (a, z)
        rw [List.take_of_length_le (by have := HML.out; omega)] at h2
        exact h2 h rfl
      go_wp2_with fail
      go_ret
      have hend := HBW.out.trans (HB.out.mono HBW.out.size)
      exact ⟨⟨-1, rfl, by simp [HN.out]⟩, by first | exact hend | (rw [← hg9]; exact hend)⟩

set_option maxRecDepth 100000 in
theorem kcontains_any {S : Foot} {A : Option Addr} {m c : Nat} {xs : List (Nat × Nat)} (a z : Nat) (w : World) (h : Pls S w A m xs) :
    Calls Tryz.prog 33 #[.slice A m c, .agg #[.int .i64 (a : Int), .int .i64 (z : Int)]] w fun e w' => e = .returned (.bool (xs.contains (a, z))) ∧ Below w.heap.size w w' := by
  obtain ⟨W, hW⟩ : ∃ W, w.alloc (.cells #[.int .i64 (a : Int), .int .i64 (z : Int)] 54) = W := ⟨_, rfl⟩
  have hBW : Below w.heap.size w W := by rw [← hW]; exact bl_alloc (Below.refl _ _) _ (Nat.le_refl _)
  have hX : Blk W w.heap.size 54 #[.int .i64 (a : Int), .int .i64 (z : Int)] := by rw [← hW]; exact Blk.new _ _ _ rfl
  have x0 := hX.cell 0
  have x1 := hX.cell 1
  have xl := hX.lt
  clear hX
  have HI := Lib.hid (kindex_any (c := c) a z W (h.keep PlR.good (Keeps.below hBW)))
  obtain ⟨bb, hbb⟩ : ∃ bb, xs.contains (a, z) = bb := ⟨_, rfl⟩
  have HBB : Hid ((a, z) ∈ xs ↔ bb = true) := by rw [Hid, ← hbb]; exact List.contains_iff_mem.symm
  rw [hbb]
  clear hbb h
  go_enter Tryz.func33, Tryz.ntmps33
  go_wp2_with fail
  refine HI.out.mono ?_
  rintro e w' ⟨⟨i, rfl, hi⟩, hb⟩
  have HB2 : Hid (Below w.heap.size w w') := hBW.trans (hb.mono hBW.size)
  have hd : decide (0 ≤ i) = bb := by
    have := hi.trans HBB.out
    cases bb with
    | true => exact decide_eq_true (this.2 rfl)
    | false => exact decide_eq_false fun h => by have := this.1 h; cases this
  clear hi hb hBW
  go_wp2_with fail
  go_ret
  exact ⟨rfl, HB2.out⟩
end Go.Proofs.YtpdldmichpmgmaaGreat

namespace Go.Proofs.YtpdldmichpmgmaaGreat
open Go.RowKit Go.Shelf

/-- casts, as they lie -/
def cellsPl (xs : List (Nat × Nat)) : List Value := xs.flatMap fun x => [.int .i64 (x.1 : Int), .int .i64 (x.2 : Int)]
theorem cellsPl_len (xs : List (Nat × Nat)) : (cellsPl xs).length = xs.length * 2 := by
  induction xs with
  | nil => rfl
  | cons x xs ih => unfold cellsPl at *; rw [List.flatMap_cons, List.length_append, ih]; simp; omega
theorem cellsPl_snoc (xs : List (Nat × Nat)) (x : Nat × Nat) : cellsPl (xs ++ [x]) = cellsPl xs ++ [.int .i64 (x.1 : Int), .int .i64 (x.2 : Int)] := by
  unfold cellsPl; rw [List.flatMap_append]; simp
theorem cellsPl_get : ∀ (xs : List (Nat × Nat)) (k : Nat) (x : Nat × Nat), xs[k]? = some x → (cellsPl xs)[k * 2]? = some (.int .i64 (x.1 : Int)) ∧ (cellsPl xs)[k * 2 + 1]? = some (.int .i64 (x.2 : Int))
  | [], k, x, h => by simp at h
  | y :: xs, 0, x, h => by simp at h; subst h; exact ⟨rfl, rfl⟩
  | y :: xs, k + 1, x, h => by
    obtain ⟨h1, h2⟩ := cellsPl_get xs k x (by simpa using h)
    have e : cellsPl (y :: xs) = .int .i64 (y.1 : Int) :: .int .i64 (y.2 : Int) :: cellsPl xs := rfl
    rw [e]
    refine ⟨?_, ?_⟩
    · rw [show (k + 1) * 2 = k * 2 + 1 + 1 by omega, List.getElem?_cons_succ, List.getElem?_cons_succ]; exact h1
    · rw [show (k + 1) * 2 + 1 = k * 2 + 1 + 1 + 1 by omega, List.getElem?_cons_succ, List.getElem?_cons_succ]; exact h2
theorem cellsPl_one (xs : List (Nat × Nat)) : ∀ v ∈ cellsPl xs, v.oneCell' = true := by
  intro v hv
  unfold cellsPl at hv
  rw [List.mem_flatMap] at hv
  obtain ⟨x, _, hv⟩ := hv
  simp at hv
  rcases hv with rfl | rfl <;> rfl
theorem Pls.of_blk {S : Foot} {w : World} {g : Nat} {t : TypeId} {xs : List (Nat × Nat)} (h : Blk w g t (cellsPl xs).toArray) (hS : S g) (hn : xs.length ≤ 1000) : Pls S w (some ⟨g, 0, none⟩) xs.length xs :=
  ⟨rfl, by unfold maxLen; omega, fun k x hx => by
    obtain ⟨h1, h2⟩ := cellsPl_get xs k x hx
    refine ⟨g, 0, [.int .i64 (x.1 : Int), .int .i64 (x.2 : Int)], rfl, hS, h.lt, rfl, fun j v hv => ?_⟩
    rw [Nat.zero_add, h.cell]
    match j, hv with
    | 0, hv => simp at hv; subst hv; simpa using h1
    | 1, hv => simp at hv; subst hv; simpa using h2
    | j + 2, hv => simp at hv⟩
theorem Pls.cells {S : Foot} {w : World} {b off n : Nat} {xs : List (Nat × Nat)} (h : Pls S w (some ⟨b, off, none⟩) n xs) (j : Nat) (v : Value) (hv : (cellsPl xs)[j]? = some v) : w.cell? ((⟨b, off, none⟩ : Addr).add j) = some v := by
  have hj : j < xs.length * 2 := by have := of_getq' hv; rwa [cellsPl_len] at this
  have hk : j / 2 < xs.length := by omega
  obtain ⟨h1, h2⟩ := cellsPl_get xs (j / 2) _ (List.getElem?_eq_getElem hk)
  obtain ⟨b', off', a, z, e, _, c1, c2, hx⟩ := Pls.get h (k := j / 2) (by rw [← h.len]; exact hk)
  injection e with e; injection e with e1 e2; subst e1 e2
  have hx := hx.out
  rw [List.getElem?_eq_getElem hk] at hx
  injection hx with hx
  rw [hx] at h1 h2
  rw [add_at]
  by_cases hm : j % 2 = 0
  · rw [show j = j / 2 * 2 by omega] at hv ⊢
    rw [h1] at hv; injection hv with hv; subst hv
    exact c1
  · rw [show j = j / 2 * 2 + 1 by omega] at hv ⊢
    rw [h2] at hv; injection hv with hv; subst hv
    rw [← Nat.add_assoc]; exact c2
theorem Pls.nilA {S : Foot} {w : World} {n : Nat} {xs : List (Nat × Nat)} (h : Pls S w none n xs) : n = 0 ∧ xs = [] := by
  cases xs with
  | nil => exact ⟨h.len.symm, rfl⟩
  | cons x xs => obtain ⟨b, off, vs, hA, _⟩ := h.2.2 0 x rfl; cases hA
theorem copy_run {P : Program} {S : Foot} {w : World} {t ty e : TypeId} {g i cp : Nat} {A : Option Addr} {plan : List (Nat × Nat)} {cur : Array Value} (hu : P.underlying t = some (.slice e)) (hs : (P.info? e).map (·.size) = some 2)
    (hB : Blk w g e cur) (hsz : cur.size = (i + 1) * 2) (hP : Pls S w A i plan) :
    (Builtin.copy_ #[t, t] ty #[.slice (some ⟨g, 0, none⟩) (i + 1) (i + 1), .slice A i cp]).run P w = .ok (goInt i) (w.setRow g (putAt cur 0 (cellsPl plan))) := by
  obtain ⟨inf, hinf, hi⟩ := Option.map_eq_some_iff.1 hs
  cases A with
  | none =>
    obtain ⟨rfl, rfl⟩ := hP.nilA
    have hsr : w.setRow g (putAt cur 0 (cellsPl [])) = w := setRow_same w g cur e hB
    rw [hsr]
    simp [Builtin.copy_, run_underlying hu, Builtin.lenOf, Builtin.firstCells, sizeOf, typeInfo, hinf, hi, storeCells]
  | some a =>
    have hlen := cellsPl_len plan
    rw [hP.len] at hlen
    have hl : (loadCells a (i * 2)).run P w = .ok (cellsPl plan).toArray w := by
      rw [← hlen]
      by_cases hi0 : plan = []
      · subst hi0; exact run_loadCells_list (P := P) w a [] (fun j v hv => by simp at hv)
      · obtain ⟨x, xs, rfl⟩ := List.exists_cons_of_ne_nil hi0
        obtain ⟨b, off, vs, hA, _⟩ := hP.2.2 0 x rfl
        injection hA with hA; subst hA
        exact run_loadCells_list (P := P) w _ _ hP.cells
    have hst := run_storeCells_put (P := P) g 0 e (cellsPl plan) 0 cur w hB (by rw [hlen]; omega) (cellsPl_one plan)
    have hmin : Nat.min i (i + 1) = i := Nat.min_eq_left (Nat.le_succ i)
    simp [Builtin.copy_, run_underlying hu, Builtin.lenOf, Builtin.firstCells, sizeOf, typeInfo, hinf, hi, hl, hmin, hst]
theorem putAt_pre {cur : Array Value} {vs : List Value} {us : List Value} (h : cur.size = vs.length + us.length) : putAt (putAt cur 0 vs) vs.length us = (vs ++ us).toArray := by
  apply Array.ext_getElem?
  intro j
  rw [putAt_get _ _ _ _ (by rw [putAt_size]; omega), putAt_get _ _ _ _ (by omega)]
  simp only [List.getElem?_toArray]
  by_cases h1 : vs.length ≤ j ∧ j < vs.length + us.length
  · rw [if_pos h1, List.getElem?_append_right h1.1]
  · rw [if_neg h1]
    by_cases h2 : j < vs.length
    · rw [if_pos ⟨Nat.zero_le _, by omega⟩, List.getElem?_append_left h2]; rfl
    · rw [if_neg (by omega), Array.getElem?_eq_none (by omega), List.getElem?_eq_none (by simp; omega)]
theorem wpList_copy_k {P : Program} (w : World) {ops : Array Oper} {rest : List Oper} {o : Oper} {a : Act} {Q : Exit → Act → World → Prop} (hgd : o.guard = none) (d s : Operand) (t t' : TypeId)
    (ho : o.op = .call { callee := .builtin .copy, args := #[d, s], argTypes := #[t, t'] }) (v u : Value) (hd : a.eval d = v) (hs : a.eval s = u) {v' : Value} {w' : World}
    (hr : (Builtin.copy_ #[t, t'] o.type #[v, u]).run P w = .ok v' w') (h : wpList P ops Q rest (a.put o.dst v') w') : wpList P ops Q (o :: rest) a w :=
  wpList_plain hgd fun K hK => by
    unfold Oper.wp execOp
    simp only [ho, resolve, invoke, builtin, Sem.run_bind, Sem.run_pure, Result.andThen_ok, List.map_toArray, List.map_cons, List.map_nil, hd, hs, hr]
    exact hK _ _ h
theorem wpList_store_k {P : Program} {ops : Array Oper} {rest : List Oper} {o : Oper} {a : Act} {w : World} {Q : Exit → Act → World → Prop} (hgd : o.guard = none) (ty : TypeId) (x y : Operand) (ho : o.op = .store ty x y)
    (g off : Nat) (cells : Array Value) (hx : a.eval x = .pointer (some ⟨g, off, none⟩)) (hy : a.eval y = .agg cells)
    (t : TypeId) (old new : Array Value) (hg : Blk w g t old) (hnew : putAt old off cells.toList = new) (hi : (P.info? ty).map (·.size) = some cells.size)
    (hold : off + cells.size ≤ old.size) (h1 : cells.all (·.oneCell') = true)
    (h : ∀ V, Blk V g t new → Kept (fun k => k = g) w V → wpList P ops Q rest (a.put o.dst undef) V) : wpList P ops Q (o :: rest) a w :=
  wpList_plain hgd fun K hK => by
    refine wp_store_part ty x y ho g off cells hx hy t old hg hi hold h1 ?_
    rw [hnew]
    exact hK _ _ (h _ (hg.setRow _) (Kept.setRow _ _ _ rfl))
end Go.Proofs.YtpdldmichpmgmaaGreat

namespace Go.Proofs.YtpdldmichpmgmaaGreat
open Go.RowKit Go.Shelf

theorem all_bits : ∀ m : Nat, m < 7 → ∀ j : Nat, j < m → bits BinOp.and .i64 ((((2 ^ m : Nat) : Int) - 1) / 2 ^ j) 1 = 1 := by decide +kernel
theorem rest_bits : ∀ m : Nat, m < 7 → ∀ k : Nat, k < m → ∀ j : Nat, j < m → bits BinOp.and .i64 ((bits BinOp.andNot .i64 (((2 ^ m : Nat) : Int) - 1) (((2 ^ (k + 1) : Nat) : Int) - 1)) / 2 ^ j) 1 = if decide (k < j) then 1 else 0 := by decide +kernel
/-- can all pieces have casts of some moulds, as the program asks -/
def planQ (o : List (List Pl)) (m : Nat) (set : List Int) : Bool := !decide (giveR o (fun a => hasN set a.1) (fun _ => true) [] < m)
/-- is a cast one that the plan takes -/
def pickQ (o : List (List Pl)) (m : Nat) (set : List Int) (k : Nat) (plan : List Pl) (a : Pl) : Bool := hasN set a.1 && !plan.contains a && decide (giveR o (fun p => hasN set p.1) (fun j => decide (k < j)) (plan ++ [a]) = m - k - 1)
theorem planK_step {o : List (List Pl)} {m : Nat} {set : List Int} {k : Nat} (hm : o.length = m) : planK o set (k + 1) = match (o.getD k []).find? (pickQ o m set k (planK o set k)) with
    | some a => planK o set k ++ [a]
    | none => planK o set k := by
  subst hm; exact planK_succ o set k
theorem planR_bad {s : Shop} {l : List SeenC} {p : List (Int × Int)} (h : orderE s l p ≠ 0) : planR s l p = ([], [], orderE s l p) := by rw [planR, if_pos h]
theorem planR_none {s : Shop} {l : List SeenC} {p : List (Int × Int)} (h : orderE s l p = 0) (hf : (setsL s.moulds.length).find? (planQ (allL s l p) p.length) = none) : planR s l p = ([], [], 8) := by
  rw [planR, if_neg (by simp [h])]
  have : (fun set : List Int => !decide (giveR (allL s l p) (fun a => hasN set a.1) (fun _ => true) [] < p.length)) = planQ (allL s l p) p.length := rfl
  rw [this, hf]
theorem planR_some {s : Shop} {l : List SeenC} {p : List (Int × Int)} {set : List Int} (h : orderE s l p = 0) (hf : (setsL s.moulds.length).find? (planQ (allL s l p) p.length) = some set) : planR s l p = (planK (allL s l p) set p.length, set, 0) := by
  rw [planR, if_neg (by simp [h])]
  have : (fun set : List Int => !decide (giveR (allL s l p) (fun a => hasN set a.1) (fun _ => true) [] < p.length)) = planQ (allL s l p) p.length := rfl
  rw [this, hf]
/-- what is known of a plan as it grows -/
theorem plan_known {o : List (List Pl)} {m : Nat} {set : List Int} (hu : ∀ j, (o.getD j []).length ≤ 32 ∧ ∀ a ∈ o.getD j [], a ∈ univ8) (hm : o.length = m) (hq : planQ o m set = true) : ∀ k, k ≤ m → (planK o set k).length = k ∧ ∀ a ∈ planK o set k, a ∈ univ8 := by
  subst hm
  have hF : 32 + univ8.length * (32 + 1) ≤ seekF := by rw [univ8_len]; unfold seekF; omega
  have hc : CanP o (fun p => hasN set p.1) (fun _ => true) [] o.length := by
    refine (can_iff hu hF).1 ?_
    rw [count_all]
    have h1 := give_le o (fun p => hasN set p.1) (fun _ => true) [] o.length
    rw [count_all] at h1
    unfold planQ at hq
    simp at hq
    have h2 : giveR o (fun p => hasN set p.1) (fun _ => true) [] ≤ o.length := h1
    omega
  intro k hk
  obtain ⟨h1, _, _, h4⟩ := plan_can hu hF hc k hk
  refine ⟨h1, fun a ha => ?_⟩
  obtain ⟨i, hi, he⟩ := List.getElem_of_mem ha
  exact (hu i).2 a (h4 i a (by rw [List.getElem?_eq_getElem hi, he])).1
/-- a plan, moulds and an error, as an answer -/
def PlanT (B : Nat) (r : List Pl × List Int × Int) (e : Ending) (w' : World) : Prop := ∃ A c A2 c2, e = .returned (.tuple #[.slice A r.1.length c, .slice A2 r.2.1.length c2, .int .i64 r.2.2]) ∧ Pls (fun k => B ≤ k) w' A r.1.length r.1 ∧ Ints (fun k => B ≤ k) w' A2 r.2.1.length r.2.1
theorem PlanT.nil {B : Nat} {e : Int} {w' : World} : PlanT B ([], [], e) (.returned (.tuple #[.slice none 0 0, .slice none 0 0, .int .i64 e])) w' := ⟨none, 0, none, 0, rfl, ⟨rfl, Nat.zero_le _, fun k x hx => by simp at hx⟩, ⟨rfl, Nat.zero_le _, fun k x hx => by simp at hx⟩⟩

theorem make_pl (n : Nat) (hn : n ≤ 10) (w : World) : ∃ (V : World) (cur : Array Value), (Instr.makeSlice 29 (.int .i64 (n : Int)) (.int .i64 (n : Int))).run Tryz.prog w = .ok (.slice (some ⟨w.heap.size, 0, none⟩) n n) V ∧ Below w.heap.size w V ∧ Blk V w.heap.size 54 cur ∧ cur.size = n * 2 := by
  obtain ⟨iP, hiP, hz0, hz1, hz2⟩ := info_parts infoPl7
  have h := run_make (P := Tryz.prog) w 29 54 iP _ Tryz.underlying29 hiP hz0 .i64 .i64 (n : Int) (n : Int) (by omega) (by omega) (by rw [hz2]; omega) (by omega)
  rw [Int.toNat_natCast] at h
  exact ⟨_, _, h, bl_alloc (Below.refl _ _) _ (Nat.le_refl _), Blk.new _ _ _ rfl, by rw [size_madeCells, hz1]⟩
theorem infoPlS2 {x y : Value} : (Tryz.prog.info? 54).map (·.size) = some (#[x, y] : Array Value).size := by kernel_rfl
theorem infoPlS : (Tryz.prog.info? 54).map (·.size) = some 2 := by kernel_rfl
end Go.Proofs.YtpdldmichpmgmaaGreat

namespace Go.Proofs.YtpdldmichpmgmaaGreat
open Go.RowKit Go.Shelf

set_option maxRecDepth 100000 in
set_option maxHeartbeats 8000000 in
theorem kplan_any {Ad C P : Option Addr} {n ca q cc m pc : Nat} {s : Shop} {l : List SeenC} {p : List (Int × Int)} {klo khi : Int} (w : World) (g : Moulds (fun _ => True) w Ad n s.moulds) (gs : SeenCs (fun _ => True) w C q l) (gp : Pairs (fun _ => True) w P m p) (hca : n ≤ ca) (h1 : s.klo = klo) (h2 : s.khi = khi) :
    Calls Tryz.prog 7 #[.agg #[.int .i64 klo, .int .i64 khi, .slice Ad n ca], .slice C q cc, .slice P m pc] w fun e w' => PlanT w.heap.size (planR s l p) e w' ∧ Below w.heap.size w w' := by
  obtain ⟨W, hW⟩ : ∃ W, w.alloc (.cells #[.int .i64 klo, .int .i64 khi, .slice Ad n ca] 26) = W := ⟨_, rfl⟩
  have hBW : Below w.heap.size w W := by rw [← hW]; exact bl_alloc (Below.refl _ _) _ (Nat.le_refl _)
  have hX : Blk W w.heap.size 26 #[.int .i64 klo, .int .i64 khi, .slice Ad n ca] := by rw [← hW]; exact Blk.new _ _ _ rfl
  have HO := Lib.hid (kopen_any (ca := ca) (cc := cc) (pc := pc) W (g.keep MouldR.good (Keeps.below hBW)) (gs.keep SeenCR.good (Keeps.below hBW)) (gp.keep PairR.good (Keeps.below hBW)) hca h1 h2)
  have HBW := Lib.hid hBW
  have HX := Lib.hid hX
  have HML := Lib.hid gp.len
  have HNL := Lib.hid g.len
  have HW := Lib.hid hW
  clear g gs gp hBW hW hX
  go_enter Tryz.func7, Tryz.ntmps7
  go_wp2_with fail
  rw [HW.out]
  refine HO.out.mono ?_
  rintro e W1 ⟨⟨A, c, rfl, hA⟩, b1⟩
  have B1 : Hid (Below w.heap.size w W1) := HBW.out.trans (b1.mono HBW.out.size)
  have hX1 := HX.out.bl b1
  have x2 := hX1.cell 2
  have xl := hX1.lt
  clear b1 hX1
  by_cases he : orderE s l p = 0
  · obtain ⟨hok, hk, hp1, hp6⟩ := order_zero he
    rw [openR_0 he] at hA ⊢
    dsimp only at hA ⊢
    obtain ⟨o, ho⟩ : ∃ o, allL s l p = o := ⟨_, rfl⟩
    have HU : Hid (∀ j, (o.getD j []).length ≤ 32 ∧ ∀ a ∈ o.getD j [], a ∈ univ8) := by rw [← ho]; exact all_hu hok hk
    have hol : o.length = m := by rw [← ho]; unfold allL; rw [List.length_map]; exact HML.out
    have hm6 : m ≤ 6 := by have := HML.out; omega
    have hn4 : n ≤ 4 := by have := HNL.out; have := hok.nm; omega
    have HLS : Hid (∀ set, (setsL n).find? (planQ o m) = some set → planR s l p = (planK o set m, set, 0)) := fun set hf => by
      have h := planR_some he (set := set) (by rw [HNL.out, HML.out, ho]; exact hf)
      rw [HML.out, ho] at h
      exact h
    have HLN : Hid ((setsL n).find? (planQ o m) = none → planR s l p = ([], [], 8)) := fun hf => planR_none he (by rw [HNL.out, HML.out, ho]; exact hf)
    rw [ho, hol] at hA
    rw [ho, hol]
    have HA : Hid (Ords (fun _ => True) W1 A m o) := hA.mono OrdR.good (fun _ _ => trivial)
    have HOL := Lib.hid hol
    obtain ⟨hw2, hpp1, hpp64⟩ := two_pow6 m (by omega)
    have HALL : Hid (∀ j : Nat, j < m → bits BinOp.and .i64 ((((2 ^ m : Nat) : Int) - 1) / 2 ^ j) 1 = 1) := all_bits m (by omega)
    have HREST : Hid (∀ k : Nat, k < m → ∀ j : Nat, j < m → bits BinOp.and .i64 ((bits BinOp.andNot .i64 (((2 ^ m : Nat) : Int) - 1) (((2 ^ (k + 1) : Nat) : Int) - 1)) / 2 ^ j) 1 = if decide (k < j) then 1 else 0) := rest_bits m (by omega)
    obtain ⟨qm, hqm⟩ : ∃ qm : Nat, 2 ^ m = qm := ⟨_, rfl⟩
    rw [hqm] at hw2 hpp1 hpp64 HALL HREST
    have hw3 : IntKind.i64.wrap ((qm : Int) - 1) = qm - 1 := by rw [IntKind.wrap_i64]; omega
    have hm64 : (m : Int) < 64 := by omega
    clear he hok hk hp1 hp6 ho hA hol hqm
    go_wp2_with fail
    refine (ksets_any n (by omega) W1).mono ?_
    rintro e W2 ⟨⟨A2, c2, rfl, hI⟩, b2⟩
    obtain ⟨ls, hls⟩ : ∃ ls, (setsM n).length = ls := ⟨_, rfl⟩
    rw [hls] at hI ⊢
    have HI := Lib.hid hI
    have HLSS := Lib.hid hls
    have B2 : Hid (Below W1.heap.size W1 W2) := b2
    have hls64 := hI.le
    clear hI b2 hls x2 xl
    go_wp2_with fail
    go_loopw [6, 38] (fun v i' wr => ∃ k : Nat, i' = .int .i64 k ∧ k ≤ ls ∧ v = .slice none 0 0 ∧ Hid (∀ y ∈ (setsL n).take k, planQ o m y = false) ∧ Hid (Below W2.heap.size W2 wr)) (fun _ i' _ => ls - (intOf i').toNat)
    case atStart => exact ⟨0, rfl, Nat.zero_le _, rfl, by rw [Hid, List.take_zero]; exact (fun y hy => by cases hy), Below.refl _ _⟩
    case round =>
      obtain ⟨k, rfl, hk, rfl, HT, HB⟩ := hrel
      have HBA : Hid (Below W1.heap.size W1 wr) := B2.out.trans (HB.out.mono B2.out.size)
      have HBw : Hid (Below w.heap.size w wr) := B1.out.trans (HBA.out.mono B1.out.size)
      by_cases hlt : k < ls
      · have hki : (k : Int) < ls := by omega
        obtain ⟨b3, off3, x, rfl, hd3, Hx⟩ := Ints.get (HI.out.keep IntR.good (Keeps.below HB.out)) hlt
        obtain ⟨sv, hsv, rfl⟩ : ∃ sv : Nat, (setsM n)[k]? = some sv ∧ x = (sv : Int) := by
          have h := Hx.out
          have hkl : k < (setsM n).length := by rw [HLSS.out]; exact hlt
          rw [List.getElem?_map, List.getElem?_eq_getElem hkl] at h
          exact ⟨_, List.getElem?_eq_getElem hkl, by simpa using h.symm⟩
        have hs64 := setsM_lt n (by omega) sv (List.mem_of_getElem? hsv)
        obtain ⟨set, hset⟩ : ∃ set, bitL sv = set := ⟨_, rfl⟩
        have HSET : Hid ((setsL n)[k]? = some set) := by rw [Hid, ← setsM_bits n (by omega), List.getElem?_map, hsv, ← hset]; rfl
        have HBIT : Hid (∀ a ∈ univ8, bits BinOp.and .i64 ((sv : Int) / 2 ^ a.1) 1 = if hasN set a.1 then 1 else 0) := fun a ha => by rw [← hset]; exact mask_bits sv (by omega) a.1 (by have := (univ8_bd a ha).1; omega)
        obtain ⟨gv, hgv⟩ : ∃ gv, giveR o (fun a => hasN set a.1) (fun _ => true) [] = gv := ⟨_, rfl⟩
        have hgv6 : gv ≤ 6 := by rw [← hgv]; exact give_le8 _ _ _ _ (by rw [HOL.out]; exact hm6)
        have HGV := Lib.hid hgv
        have HSE := Lib.hid hset
        clear hsv hgv hset
        go_wp2_with fail
        refine (kgive_any (L := 32) (univ := univ8) (fixed := []) (is := fun _ => true) HU.out univ8_bd (fun a h => by cases h) (by decide) (by rw [univ8_len]; omega) (by omega) (by rw [HOL.out]; exact hm6) (fun i => by rw [univ8_len]; have := (HU.out i).1; unfold seekF; omega) HBIT.out (fun i hi => by rw [if_pos rfl]; exact HALL.out i (by rw [← HOL.out]; exact hi)) wr (HA.out.keep OrdR.good (Keeps.below HBA.out)) (SliceOf.nil _ _ _ _ _)).mono ?_
        rintro e W3 ⟨rfl, b3⟩
        rw [HGV.out]
        have HB3 : Hid (Below W2.heap.size W2 W3) := bl_call HB.out b3 (Nat.le_refl _)
        have HB3A : Hid (Below W1.heap.size W1 W3) := bl_call HBA.out b3 (Nat.le_refl _)
        have HB3w : Hid (Below w.heap.size w W3) := bl_call HBw.out b3 (Nat.le_refl _)
        clear b3 hd3
        by_cases hgl : gv < m
        · have hgi : (gv : Int) < m := by omega
          have HT2 : Hid (∀ y ∈ (setsL n).take (k + 1), planQ o m y = false) := by
            rw [Hid, take_snoc_get HSET.out]
            intro y hy
            rcases List.mem_append.1 hy with hy | hy
            · exact HT.out y hy
            · simp at hy; rw [hy]; unfold planQ; rw [HGV.out, decide_eq_true hgl]; rfl
          go_wp2_with fail
          go_roundw
          case rel => exact ⟨k + 1, by go_num, by omega, rfl, HT2, HB3⟩
          case measure => simp [intOf]; omega
        · have hgi : ¬ (gv : Int) < m := by omega
          have hPQ : planQ o m set = true := by unfold planQ; rw [HGV.out, decide_eq_false hgl]; rfl
          have HR : Hid (planR s l p = (planK o set m, set, 0)) := HLS.out _ (find_at HT.out HSET.out hPQ)
          have HPK : Hid (∀ i, i ≤ m → (planK o set i).length = i ∧ ∀ a ∈ planK o set i, a ∈ univ8) := plan_known HU.out HOL.out hPQ
          clear hPQ
          go_wp2_with fail
          go_loopw [6, 51] (fun v i' wr => ∃ (i c : Nat) (Ap : Option Addr), i' = .int .i64 i ∧ i ≤ m ∧ v = .slice Ap i c ∧ Hid (Pls (fun k => w.heap.size ≤ k) wr Ap i (planK o set i)) ∧ Hid (Below W3.heap.size W3 wr)) (fun _ i' _ => m - (intOf i').toNat)
          case atStart => exact ⟨0, 0, none, rfl, Nat.zero_le _, rfl, ⟨rfl, Nat.zero_le _, fun k x hx => by simp [planK] at hx⟩, Below.refl _ _⟩
          case round =>
            obtain ⟨i, cp, Ap, rfl, him, rfl, HP, HBi⟩ := hrel
            have HBiA : Hid (Below W1.heap.size W1 wr) := HB3A.out.trans (HBi.out.mono HB3A.out.size)
            have HBiw : Hid (Below w.heap.size w wr) := HB3w.out.trans (HBi.out.mono HB3w.out.size)
            by_cases hlt2 : i < m
            · have hii : (i : Int) < m := by omega
              obtain ⟨b4, off4, A1, n1, cx, xs, rfl, hb4, hd4, hP4, Hxs⟩ := Ords.get (HA.out.keep OrdR.good (Keeps.below HBiA.out)) hlt2
              have HXS := Lib.hid hP4
              have hn1 := hP4.le
              have HXG : Hid (o.getD i [] = xs) := getD_of Hxs.out
              have HXL := Lib.hid hP4.len
              obtain ⟨plan, hplan⟩ : ∃ plan, planK o set i = plan := ⟨_, rfl⟩
              rw [hplan] at HP
              have HPI : Hid (plan.length = i ∧ ∀ a ∈ plan, a ∈ univ8) := by have := HPK.out i (by omega); rw [hplan] at this; exact this
              have HSTEP := Lib.hid (planK_step (set := set) (k := i) HOL.out)
              rw [hplan, HXG.out] at HSTEP
              have HRE := HREST.out i hlt2
              obtain ⟨i1, hi1⟩ : ∃ i1, i + 1 = i1 := ⟨_, rfl⟩
              have hwi : IntKind.i64.wrap ((i : Int) + 1) = i1 := by rw [IntKind.wrap_i64]; omega
              obtain ⟨hw4, hr1, hr64⟩ := two_pow6 i1 (by omega)
              rw [hi1] at HRE
              obtain ⟨r, hr⟩ : ∃ r : Nat, 2 ^ i1 = r := ⟨_, rfl⟩
              rw [hr] at HRE hw4 hr1 hr64
              have hw5 : IntKind.i64.wrap ((r : Int) - 1) = r - 1 := by rw [IntKind.wrap_i64]; omega
              obtain ⟨rest, hrest⟩ : ∃ rest, bits BinOp.andNot .i64 ((qm : Int) - 1) ((r : Int) - 1) = rest := ⟨_, rfl⟩
              rw [hrest] at HRE
              have HRE2 := Lib.hid HRE
              have hi64 : (i1 : Int) < 64 := by omega
              have hii1 : (i : Int) < i1 := by omega
              obtain ⟨d1, hd1⟩ : ∃ d1, m - i = d1 := ⟨_, rfl⟩
              obtain ⟨d2, hd2⟩ : ∃ d2, m - i - 1 = d2 := ⟨_, rfl⟩
              have hwd1 : IntKind.i64.wrap ((m : Int) - i) = d1 := by rw [IntKind.wrap_i64]; omega
              have hwd2 : IntKind.i64.wrap ((d1 : Int) - 1) = d2 := by rw [IntKind.wrap_i64]; omega
              have HI1 := Lib.hid hi1
              have HD2 := Lib.hid hd2
              clear HRE hr hplan hP4 hi1 hd1 hd2
              go_wp2_with fail
              clear hrest hd4 hw4 hw5
              obtain ⟨Wm, hWm⟩ : ∃ Wm : World, Wm = wr := ⟨_, rfl⟩
              subst hWm
              go_loopw [6, 64] (fun v i' wr => ∃ j : Nat, i' = .int .i64 j ∧ j ≤ n1 ∧ v = .slice Ap i cp ∧ Hid (∀ y ∈ xs.take j, pickQ o m set i plan y = false) ∧ Hid (Below Wm.heap.size Wm wr)) (fun _ i' _ => n1 - (intOf i').toNat)
              case atStart => exact ⟨0, rfl, Nat.zero_le _, rfl, by rw [Hid, List.take_zero]; exact (fun y hy => by cases hy), Below.refl _ _⟩
              case round =>
                obtain ⟨j, rfl, hj, rfl, HTJ, HBJ⟩ := hrel
                have HBJ3 : Hid (Below W3.heap.size W3 wr) := bl_call HBi.out HBJ.out (Nat.le_refl _)
                by_cases hlt3 : j < n1
                · have hji : (j : Int) < n1 := by omega
                  obtain ⟨b5, off5, am, ac, rfl, hb5, hd0, hd1, Hat⟩ := Pls.get (HXS.out.keep PlR.good (Keeps.below HBJ.out)) hlt3
                  have hTS : Hid (xs.take (j + 1) = xs.take j ++ [(am, ac)]) := take_snoc_get Hat.out
                  have hau : (am, ac) ∈ univ8 := (HU.out i).2 _ (by rw [HXG.out]; exact List.mem_of_getElem? Hat.out)
                  obtain ⟨ham, hac⟩ := univ8_bd _ hau
                  dsimp only at ham hac
                  have HAU := Lib.hid hau
                  obtain ⟨V, hV⟩ : ∃ V, wr.alloc (.cells #[.int .i64 (am : Int), .int .i64 (ac : Int)] 54) = V := ⟨_, rfl⟩
                  obtain ⟨g9, hg9⟩ : ∃ g, wr.heap.size = g := ⟨_, rfl⟩
                  have hbV : Below wr.heap.size wr V := by rw [← hV]; exact bl_alloc (Below.refl _ _) _ (Nat.le_refl _)
                  have HBV : Hid (Below Wm.heap.size Wm V) := bl_call HBJ.out hbV (Nat.le_refl _)
                  have hM9 : Blk V g9 54 #[.int .i64 (am : Int), .int .i64 (ac : Int)] := by rw [← hV, ← hg9]; exact Blk.new _ _ _ rfl
                  have k0 := hM9.cell 0
                  have k1 := hM9.cell 1
                  have kl := hM9.lt
                  have HM9 := Lib.hid hM9
                  have ham' : (am : Int) < 64 := by omega
                  have hbit := HBIT.out _ hau
                  dsimp only at hbit
                  clear hbV hau hM9
                  cases hoka : hasN set am with
                  | false =>
                    rw [hoka, if_neg (by decide)] at hbit
                    have HT2 : Hid (∀ y ∈ xs.take (j + 1), pickQ o m set i plan y = false) := by
                      rw [Hid, hTS.out]
                      intro y hy
                      rcases List.mem_append.1 hy with hy | hy
                      · exact HTJ.out y hy
                      · simp at hy; rw [hy]; unfold pickQ; rw [hoka]; rfl
                    clear hoka
                    go_wp2_with fail
                    go_roundw
                    case rel => exact ⟨j + 1, by go_num, by omega, rfl, HT2, HBV⟩
                    case measure => simp [intOf]; omega
                  | true =>
                    rw [hoka, if_pos rfl] at hbit
                    have HOA := Lib.hid hoka
                    clear hoka
                    go_wp2_with fail
                    refine (kcontains_any am ac V (HP.out.keep PlR.good (Keeps.below HBV.out))).mono ?_
                    rintro e V2 ⟨rfl, hb2⟩
                    have HBV2 : Hid (Below Wm.heap.size Wm V2) := bl_call HBV.out hb2 (Nat.le_refl _)
                    have hM2 := HM9.out.bl hb2
                    have kl2 := hM2.lt
                    have HM2 := Lib.hid hM2
                    clear hb2 hM2 k0 k1 hd0 hd1
                    cases hct : plan.contains (am, ac) with
                    | true =>
                      have HT2 : Hid (∀ y ∈ xs.take (j + 1), pickQ o m set i plan y = false) := by
                        rw [Hid, hTS.out]
                        intro y hy
                        rcases List.mem_append.1 hy with hy | hy
                        · exact HTJ.out y hy
                        · simp at hy; rw [hy]; unfold pickQ; rw [hct, Bool.not_true, Bool.and_false, Bool.false_and]
                      clear hct
                      go_wp2_with fail
                      go_roundw
                      case rel => exact ⟨j + 1, by go_num, by omega, rfl, HT2, HBV2⟩
                      case measure => simp [intOf]; omega
                    | false =>
                      have HCT := Lib.hid hct
                      clear hct
                      obtain ⟨V3, cur, hmk, hb3, hB3, hcs⟩ := make_pl i1 (by have := HI1.out; omega) V2
                      obtain ⟨gs, hgs⟩ : ∃ g, V2.heap.size = g := ⟨_, rfl⟩
                      rw [hgs] at hmk hB3
                      have HBV3 : Hid (Below Wm.heap.size Wm V3) := bl_call HBV2.out hb3 (Nat.le_refl _)
                      have hM3 := HM2.out.bl hb3
                      have hgs9 : g9 < gs := by omega
                      have hgsr : Wm.heap.size ≤ gs := by have := HBV2.out.size; omega
                      have hgsl := hB3.lt
                      have hcr := copy_run (P := Tryz.prog) (ty := 3) (cp := cp) Tryz.underlying29 infoPlS hB3 (by rw [hcs, HI1.out]) (HP.out.keep PlR.good (Keeps.below HBV3.out))
                      rw [HI1.out] at hcr
                      have hcl : (cellsPl plan).length = i * 2 := by rw [cellsPl_len, HPI.out.1]
                      obtain ⟨V4, hV4⟩ : ∃ V4, V3.setRow gs (putAt cur 0 (cellsPl plan)) = V4 := ⟨_, rfl⟩
                      rw [hV4] at hcr
                      have hB4 : Blk V4 gs 54 (putAt cur 0 (cellsPl plan)) := by rw [← hV4]; exact hB3.setRow _
                      have hk4 : Kept (fun k => k = gs) V3 V4 := by rw [← hV4]; exact Kept.setRow _ _ _ rfl
                      have hM4 : Blk V4 g9 54 #[.int .i64 (am : Int), .int .i64 (ac : Int)] := (hk4.block _ hM3.lt (by omega)).trans hM3
                      have hnew : putAt (putAt cur 0 (cellsPl plan)) (i * 2) (#[Value.int .i64 (am : Int), .int .i64 (ac : Int)] : Array Value).toList = (cellsPl (plan ++ [(am, ac)])).toArray := by
                        rw [cellsPl_snoc, ← hcl]
                        exact putAt_pre (by rw [hcs, hcl, ← HI1.out]; simp; omega)
                      have hold : i * 2 + (#[Value.int .i64 (am : Int), .int .i64 (ac : Int)] : Array Value).size ≤ (putAt cur 0 (cellsPl plan)).size := by rw [putAt_size, hcs, ← HI1.out]; simp; omega
                      have HBV4 : Hid (Below Wm.heap.size Wm V4) := HBV3.out.trans (hk4.below HBV3.out.size (fun k hk => by omega))
                      have k0 := hM4.cell 0
                      have k1 := hM4.cell 1
                      have kl4 := hM4.lt
                      have HON : Hid ((#[Value.int .i64 (am : Int), .int .i64 (ac : Int)] : Array Value).all (·.oneCell') = true) := by rw [Hid]; simp [Value.oneCell']
                      have HB4 := Lib.hid hB4
                      have HNEW := Lib.hid hnew
                      have HOLD := Lib.hid hold
                      clear hM3 hB3 hV4 hb3 hk4 hM4 hB4 hnew hold hgs
                      go_wp2_with (with_reducible show wpList _ _ _ (_ :: _) _ _; (refine wpList_store_k rfl 54 (.tmp 88) (.tmp 87) rfl gs (i * 2) #[.int .i64 (am : Int), .int .i64 (ac : Int)] rfl rfl _ _ _ HB4.out HNEW.out infoPlS2 HOLD.out HON.out ?_))
                      intro V5 hB5 hk5
                      have hlen1 : (plan ++ [(am, ac)]).length = i1 := by rw [List.length_append, HPI.out.1, ← HI1.out]; rfl
                      have HBV5 : Hid (Below Wm.heap.size Wm V5) := HBV4.out.trans (hk5.below HBV4.out.size (fun k hk => by omega))
                      have hPL : Pls (fun k => w.heap.size ≤ k) V5 (some ⟨gs, 0, none⟩) i1 (plan ++ [(am, ac)]) := by
                        have h := Pls.of_blk (S := fun k => w.heap.size ≤ k) hB5 (by have := HBiw.out.size; omega) (by rw [hlen1]; omega)
                        rw [hlen1] at h
                        exact h
                      have HPL := Lib.hid hPL
                      have HL1 := Lib.hid hlen1
                      have HBA5 : Hid (Below W1.heap.size W1 V5) := bl_call HBiA.out HBV5.out (Nat.le_refl _)
                      clear hB5 hk5 hlen1 hPL k0 k1 kl4 hcr hmk kl kl2 hgsl
                      go_wp2_with fail
                      obtain ⟨gw, hgw⟩ : ∃ gw, giveR o (fun p => hasN set p.1) (fun j => decide (i < j)) (plan ++ [(am, ac)]) = gw := ⟨_, rfl⟩
                      have hgw6 : gw ≤ 6 := by rw [← hgw]; exact give_le8 _ _ _ _ (by rw [HOL.out]; exact hm6)
                      have HGW := Lib.hid hgw
                      clear hgw
                      refine (kgive_any (L := 32) (univ := univ8) (fixed := plan ++ [(am, ac)]) (is := fun j => decide (i < j)) (ok := fun p => hasN set p.1) HU.out univ8_bd (fun x hx => by
                        rcases List.mem_append.1 hx with hx | hx
                        · exact univ8_bd x (HPI.out.2 x hx)
                        · simp at hx; rw [hx]; exact univ8_bd _ HAU.out) (by rw [HL1.out]; omega) (by rw [univ8_len]; omega) (by omega) (by rw [HOL.out]; exact hm6) (fun i => by rw [univ8_len]; have := (HU.out i).1; unfold seekF; omega) HBIT.out (fun j hj => HRE2.out j (by rw [← HOL.out]; exact hj)) V5 (HA.out.keep OrdR.good (Keeps.below HBA5.out)) (HPL.out.mono PlR.good (fun _ _ => trivial))).mono ?_
                      rintro e V6 ⟨rfl, b6⟩
                      rw [HGW.out]
                      have HBV6 : Hid (Below Wm.heap.size Wm V6) := bl_call HBV5.out b6 (Nat.le_refl _)
                      have HPL6 : Hid (Pls (fun k => w.heap.size ≤ k) V6 (some ⟨gs, 0, none⟩) i1 (plan ++ [(am, ac)])) := HPL.out.keep PlR.good (Keeps.below b6)
                      clear b6
                      by_cases hgd : gw = d2
                      · have hgi2 : ((gw : Int) == d2) = true := by rw [hgd]; simp
                        have hpick : pickQ o m set i plan (am, ac) = true := by
                          unfold pickQ
                          rw [HCT.out, HGW.out, HD2.out, decide_eq_true hgd, Bool.not_false, Bool.and_true, Bool.and_true]
                          exact HOA.out
                        have HNX : Hid (planK o set i1 = plan ++ [(am, ac)]) := by
                          have h := HSTEP.out
                          rw [find_at HTJ.out Hat.out hpick, HI1.out] at h
                          exact h
                        have HB7 : Hid (Below W3.heap.size W3 V6) := bl_call HBi.out HBV6.out (Nat.le_refl _)
                        clear hpick
                        go_wp2_with fail
                        go_roundw
                        case rel => exact ⟨i1, i1, _, by first | rfl | go_num, by have := HI1.out; omega, rfl, by rw [Hid, HNX.out]; exact HPL6.out, HB7⟩
                        case measure => have := HI1.out; simp [intOf]; omega
                      · have hgi2 : ((gw : Int) == d2) = false := by simp; omega
                        have HT2 : Hid (∀ y ∈ xs.take (j + 1), pickQ o m set i plan y = false) := by
                          rw [Hid, hTS.out]
                          intro y hy
                          rcases List.mem_append.1 hy with hy | hy
                          · exact HTJ.out y hy
                          · simp at hy; rw [hy]; unfold pickQ; rw [HGW.out, HD2.out, decide_eq_false hgd, Bool.and_false]
                        go_wp2_with fail
                        go_roundw
                        case rel => exact ⟨j + 1, by go_num, by omega, rfl, HT2, HBV6⟩
                        case measure => simp [intOf]; omega
                · exfalso
                  obtain rfl : j = n1 := by omega
                  have h := find_none HTJ.out (by have := HXL.out; omega)
                  have h2 := HSTEP.out
                  rw [h] at h2
                  have h3 := (HPK.out (i + 1) (by omega)).1
                  rw [h2] at h3
                  have := HPI.out.1
                  dsimp only at h3
                  omega
            · obtain rfl : i = m := by omega
              have hii : ¬ (i : Int) < i := by omega
              go_wp2_with fail
              refine (klist_any sv wr (by omega)).mono ?_
              rintro e W4 ⟨⟨A4, c4, rfl, i4⟩, g4⟩
              have HE4 : Hid (Below w.heap.size w W4) := bl_call HBiw.out g4.2 (Nat.le_refl _)
              have HI4 : Hid (Ints (fun k => w.heap.size ≤ k) W4 A4 (bitL sv).length (bitL sv)) := i4.mono IntR.good (fun k h => Nat.le_trans HBiw.out.size h)
              have HP4 : Hid (Pls (fun k => w.heap.size ≤ k) W4 Ap i (planK o set i)) := HP.out.keep PlR.good (Keeps.below g4.2)
              clear i4 g4
              go_wp2_with fail
              go_ret3
              have hpl := (HPK.out i (Nat.le_refl _)).1
              refine ⟨by rw [HR.out, ← HSE.out]; exact ⟨Ap, cp, A4, c4, by rw [HSE.out]; dsimp only; rw [hpl]; rfl, by rw [HSE.out]; dsimp only; rw [hpl]; exact HP4.out, HI4.out⟩, HE4.out⟩
      · obtain rfl : k = ls := by omega
        have hki : ¬ (k : Int) < k := by omega
        have HR : Hid (planR s l p = ([], [], 8)) := HLN.out (find_none HT.out (by rw [← setsM_bits n (by omega), List.length_map, HLSS.out]; exact Nat.le_refl _))
        go_wp2_with fail
        go_ret3
        exact ⟨by rw [HR.out]; exact PlanT.nil, HBw.out⟩
  · have HR := Lib.hid (planR_bad he)
    rw [openR_e he]
    obtain ⟨oe, hoe⟩ : ∃ oe, orderE s l p = oe := ⟨_, rfl⟩
    rw [hoe] at he
    have hob : (oe != 0) = true := by simpa using he
    have HR2 : Hid (planR s l p = ([], [], oe)) := by rw [Hid, HR.out, hoe]
    rw [hoe]
    clear hA HR hoe he x2 xl
    go_wp2_with fail
    go_ret3
    exact ⟨by rw [HR2.out]; exact PlanT.nil, B1.out⟩
end Go.Proofs.YtpdldmichpmgmaaGreat
