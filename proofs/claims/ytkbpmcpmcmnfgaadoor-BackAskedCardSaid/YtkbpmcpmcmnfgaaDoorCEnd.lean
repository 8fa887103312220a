/- The library's two tables: what the row's list gives, and a world for the witness. -/
import Derived.Test.YtkbpmcpmcmnfgaaDoorCards
import Derived.Test.YtkbpmcpmcmnfgaaDoorTie
import Derived.ProofKit
import Derived.OpenShut
import Derived.Deep.DeepHandedRow
import Derived.Lib.LaidTab
import Derived.Stop.LaidErr
import Derived.Test.YtkbpmcpmcmnfgaaDoorCBackPureB
import Derived.Test.YtkbpmcpmcmnfgaaDoorCLaw6
import Derived.Test.YtkbpmcpmcmnfgaaDoorCProg24
import Derived.Test.YtkbpmcpmcmnfgaaDoorCRefC
import Derived.Test.YtkbpmcpmcmnfgaaDoorCTold
set_option linter.unusedVariables false
set_option linter.unusedSimpArgs false
set_option linter.all false
namespace Go.Proofs.YtkbpmcpmcmnfgaaDoor
open Go.ChangeShapes Go.WideShapes Go.ChangeAt Go.RowKit

theorem own : ownKnob Tryd.prog.godebug = none := by kernel_rfl
theorem gTab : Tryd.prog.globalNamed "math/bits.deBruijn64tab" = some 1 := by kernel_rfl
theorem gTabType : (Tryd.prog.globals[1]?).map (·.type) = some 148 := by kernel_rfl
theorem cellsT : Tryd.prog.cellsOf 148 = 64 := by kernel_rfl
theorem cellsB : Tryd.prog.cellsOf 5 = 1 := by kernel_rfl
def zs64 : List Int := [0, 1, 56, 2, 57, 49, 28, 3, 61, 58, 42, 50, 38, 29, 17, 4, 62, 47, 59, 36, 45, 43, 51, 22, 53, 39, 33, 30, 24, 18, 12, 5, 63, 55, 48, 27, 60, 41, 37, 16, 46, 35, 44, 21, 52, 32, 23, 11, 54, 26, 40, 15, 34, 20, 31, 10, 25, 14, 19, 9, 13, 8, 7, 6]
def zs32 : List Int := [0, 1, 28, 2, 29, 14, 24, 3, 30, 22, 20, 15, 25, 17, 4, 8, 31, 27, 13, 23, 21, 19, 16, 7, 26, 12, 18, 6, 11, 5, 10, 9]
abbrev laidL : List (String × DataW Unit) := [("math/bits.deBruijn32tab", Rows.laid_math_bits_deBruijn32tab), ("math/bits.deBruijn64tab", Rows.laid_math_bits_deBruijn64tab)]
theorem laid_is : laidL = [("math/bits.deBruijn32tab", Lib.tabData .u8 zs32), ("math/bits.deBruijn64tab", Lib.tabData .u8 zs64)] := rfl
theorem table {W : World} (h : laidMetH Tryd.prog laidL W) : Lib.TabIs Tryd.prog W "math/bits.deBruijn64tab" .u8 zs64 := by
  have h2 : laidMet Tryd.prog laidL W := h
  rw [laid_is] at h2
  exact Lib.tabIs_of_head (rest := []) gTab gTabType Tryd.underlying148 Tryd.underlying5 cellsB cellsT h2.tail
theorem tabOk {W : World} (h : laidMetH Tryd.prog laidL W) : TabOk W := by
  have ht := table h
  exact ⟨ht.cell gTab 0 (by decide), ht.cell gTab 1 (by decide), ht.cell gTab 3 (by decide), ht.cell gTab 7 (by decide), ht.cell gTab 15 (by decide)⟩

/-- the cells of a table -/
def tabCells (zs : List Int) : Array Value := (zs.map fun z => Value.int .u8 z).toArray
def putTab (cs : Array Value) : Obj → Obj
  | .cells _ t frozen => .cells cs t frozen
  | o => o
/-- A WORLD FOR THE WITNESS: the settled one, the two tables holding what their initialisers lay. -/
noncomputable def laidWorld (os : Os) : World :=
  { World.holding Tryd.prog os ⟨#[], #[], []⟩ with heap := ((World.holding Tryd.prog os ⟨#[], #[], []⟩).heap.modify 0 (putTab (tabCells zs32))).modify 1 (putTab (tabCells zs64)) }

end Go.Proofs.YtkbpmcpmcmnfgaaDoor

namespace Go.Proofs.YtkbpmcpmcmnfgaaDoor

theorem askF_spec (g : Nat → Int) : ∀ k, 1 ≤ k → ∃ i : Nat, i < k ∧ askF g k = ((i : Int), g i) ∧ ∀ j, j < k → g i ≤ g j ∧ (j < i → g i < g j) := by
  intro k
  induction k with
  | zero => intro h; omega
  | succ k ih =>
    intro _
    by_cases hk : k = 0
    · subst hk
      refine ⟨0, by omega, by simp [askF], fun j hj => ?_⟩
      obtain rfl : j = 0 := by omega
      exact ⟨Int.le_refl _, fun h => absurd h (Nat.lt_irrefl _)⟩
    · obtain ⟨i, hi, he, hm⟩ := ih (by omega)
      by_cases hl : g k < g i
      · refine ⟨k, by omega, by rw [askF, if_pos (.inr (by rw [he]; exact hl))], fun j hj => ?_⟩
        by_cases hjk : j = k
        · subst hjk; exact ⟨Int.le_refl _, fun h => absurd h (Nat.lt_irrefl _)⟩
        · have := hm j (by omega)
          exact ⟨by omega, fun _ => by omega⟩
      · refine ⟨i, by omega, by rw [askF, if_neg (by rw [he]; exact fun e => e.elim hk hl), he], fun j hj => ?_⟩
        by_cases hjk : j = k
        · subst hjk; exact ⟨by omega, fun h => by omega⟩
        · exact hm j (by omega)

theorem off_nat {c : Claim} (h : OkC c) {f : Nat} (hf : f < c.feats.length) : 0 ≤ offOf c f := by
  have := h.feat (List.getElem?_eq_getElem hf)
  unfold offOf; rw [getD_of (List.getElem?_eq_getElem hf)]; omega
theorem left_ge {c : Claim} {L : List (List Int)} {f : Nat} (hf : 0 ≤ offOf c f) (n : Int) : ((pop 32 (maskN c f L n) : Nat) : Int) ≤ leftR c L f := by
  obtain ⟨g1, g2, g3⟩ := maxOf_go ((L.flatMap (winL c f)).map fun n => ((pop 32 (maskN c f L n) : Nat) : Int)) 0
  by_cases h0 : maskN c f L n = 0
  · rw [h0, show pop 32 0 = 0 by decide]; exact g1
  · refine g2 _ (List.mem_map.2 ⟨n, List.mem_flatMap.2 ?_, rfl⟩)
    refine Classical.byContradiction fun hc => h0 (maskN_zero.2 fun t ht => ?_)
    cases hb : hitB c f n t
    · rfl
    · exact absurd ⟨t, ht, (mem_winL hf).2 hb⟩ hc
theorem left_pos {c : Claim} {L : List (List Int)} {f : Nat} (hf : 0 ≤ offOf c f) (hL : L ≠ []) : 1 ≤ leftR c L f := by
  obtain ⟨t, ht⟩ := List.exists_mem_of_ne_nil _ hL
  refine Int.le_trans ?_ (left_ge hf (len c t f))
  have hb : (maskN c f L (len c t f)).testBit (setN t) = true := by
    rw [maskN_bit, List.any_eq_true]
    exact ⟨t, ht, by simp [hitB]; omega⟩
  have : 0 < pop 32 (maskN c f L (len c t f)) := by
    rw [pop_count, List.countP_pos_iff]
    exact ⟨setN t, List.mem_range.2 (setN_lt t), hb⟩
  omega
theorem meas_hit (c : Claim) (f : Nat) (z : Int) (t : List Int) : measOk c t ⟨f, z⟩ = hitB c f z t := by
  unfold measOk hitB offOf
  simp only [Int.toNat_natCast]
  rw [Bool.eq_iff_iff, inB_iff]
  simp
theorem explains_pop {c : Claim} (h : OkC c) {f : Nat} {z : Int} (he : err (withC c ⟨f, z⟩) = 0) : (explainsL (withC c ⟨f, z⟩)).length = pop 32 (maskN c f (agreeL c) z) := by
  rw [explains_ord (okC_of he), List.length_map, ← List.countP_eq_length_filter, ← ord_pop]
  refine List.countP_congr fun v hv => ?_
  rw [maskN_bit, List.any_eq_true, List.any_eq_true]
  constructor
  · rintro ⟨t, ht, hs⟩
    obtain ⟨h1, h2⟩ := agree_with.1 ht
    exact ⟨t, h1, by rw [← meas_hit, h2, hs]; rfl⟩
  · rintro ⟨t, ht, hs⟩
    obtain ⟨h1, h2⟩ := Bool.and_eq_true_iff.1 hs
    exact ⟨t, agree_with.2 ⟨ht, by rw [meas_hit, h1]⟩, h2⟩
/-- what Ask answers -/
theorem ask_ok {c : Claim} (he : err c = 0) (ha : agreeL c ≠ []) : ∃ (f : Nat) (n : Nat), f < c.feats.length ∧ 1 ≤ n ∧ askR c = ((f : Int), (n : Int), 0)
    ∧ (∀ z, err (withC c ⟨f, z⟩) = 0 → (explainsL (withC c ⟨f, z⟩)).length ≤ n)
    ∧ ∀ k, k < c.feats.length → (n : Int) ≤ leftR c (agreeL c) k ∧ (k = f → leftR c (agreeL c) k = n) ∧ (k < f → (n : Int) < leftR c (agreeL c) k) := by
  have hok := okC_of he
  obtain ⟨i, hi, hf, hm⟩ := askF_spec (leftR c (agreeL c)) c.feats.length hok.nf.1
  have hp := left_pos (off_nat hok hi) ha
  refine ⟨i, (leftR c (agreeL c) i).toNat, hi, by omega, ?_, fun z hz => ?_, fun k hk => ?_⟩
  · rw [askR, err8_ok he ha, if_neg (by decide), hf]
    have : (((leftR c (agreeL c) i).toNat : Nat) : Int) = leftR c (agreeL c) i := by omega
    rw [this]
  · rw [explains_pop hok hz]
    have := left_ge (L := agreeL c) (off_nat hok hi) z
    omega
  · have := hm k hk
    exact ⟨by omega, fun h => by subst h; omega, fun h => by have := this.2 h; omega⟩
theorem ask_none {c : Claim} (he : err c = 0) (ha : agreeL c = []) : askR c = (0, 0, 8) := by rw [askR, err8_none he ha, if_pos (by decide)]
theorem ask_bad {c : Claim} (he : err c ≠ 0) : askR c = (0, 0, err c) := by rw [askR, err8_bad he, if_pos he]

end Go.Proofs.YtkbpmcpmcmnfgaaDoor

namespace Go.Proofs.YtkbpmcpmcmnfgaaDoor
open Go.RowKit

set_option maxRecDepth 100000 in
set_option maxHeartbeats 1600000 in
theorem askedLaw_any {S T : Foot} {A B C X Y : Option Addr} {n ca m cb q cc nx cx ny cy : Nat} {c : Claim} {xs ys : List Int} (w : World) (htab : TabOk w) (h : ClaimAt (fun _ => True) w A n B m C q c) (hca : n ≤ ca) (hcb : m ≤ cb) (hX : Bytes S w X nx xs) (hY : Bytes T w Y ny ys) :
    Calls Tryd.prog 11 #[.agg #[.slice A n ca, .slice B m cb, .slice C q cc], .slice X nx cx, .slice Y ny cy] w fun e w' => e = .returned (.bool true) ∧ Below w.heap.size w w' := by
  obtain ⟨W0, hW0⟩ : ∃ W0, w.alloc (.cells #[.slice A n ca, .slice B m cb, .slice C q cc] 26) = W0 := ⟨_, rfl⟩
  have X1 : Blk W0 w.heap.size 26 #[.slice A n ca, .slice B m cb, .slice C q cc] := by rw [← hW0]; exact Blk.new _ _ _ rfl
  have hB0 : Below w.heap.size w W0 := by rw [← hW0]; exact bl_alloc (Below.refl _ _) _ (Nat.le_refl _)
  have e1 := h.keep (Keeps.below hB0)
  have t0 := htab.bl hB0
  have hX0 := hX.keep U8R.good (Keeps.below hB0)
  have hY0 := hY.keep U8R.good (Keeps.below hB0)
  have HW0 := Lib.hid hW0
  have Hm := Lib.hid h.cs.len
  have Hn := Lib.hid h.fs.len
  have Hq := Lib.hid h.ms.len
  clear hW0 h htab hX hY
  have q0 : W0.cell? ⟨w.heap.size, 0, none⟩ = some (.slice A n ca) := X1.cell 0
  have q1 : W0.cell? ⟨w.heap.size, 1, none⟩ = some (.slice B m cb) := X1.cell 1
  have q2 : W0.cell? ⟨w.heap.size, 2, none⟩ = some (.slice C q cc) := X1.cell 2
  by_cases he : err c = 0
  · have hv : ((check c).2.2 == 0) = true := by have he' : (check c).2.2 = 0 := he; simpa using he'
    have hok := okC_of he
    have hn5 : n ≤ 5 := by rw [← Hn.out]; exact hok.nf.2
    have hn1 : 1 ≤ n := by rw [← Hn.out]; exact hok.nf.1
    have hq8 : q ≤ 8 := by rw [← Hq.out]; exact hok.nm
    by_cases hqe : q = 8
    · have hqb : ((q : Int) == 8) = true := by subst hqe; rfl
      clear he hqe hok
      go_enter Tryd.func11, Tryd.ntmps11
      go_wp2_with fail
      rw [HW0.out]
      refine (bask_any W0 e1 hca hcb).mono ?_
      rintro e u1 ⟨rfl, k1⟩
      have b1 : Below W0.heap.size W0 u1 := k1
      have c0 := getc b1 q0
      have c1 := getc b1 q1
      have c2 := getc b1 q2
      go_wp2_with fail
      clear c0 c1
      refine (valid_any u1 (e1.keep (Keeps.below b1))).mono ?_
      rintro e u2 ⟨rfl, k2⟩
      rw [hv]
      have b2 := bl_call b1 k2 (Nat.le_refl _)
      have d2 := getc b2 q2
      go_wp2_with fail
      refine (awake_any _ (t0.bl b2)).mono ?_
      rintro e u3 ⟨rfl, k3⟩
      go_wp2
      go_ret
      exact ⟨rfl, bl_call (bl_call hB0 b2 (Nat.le_refl _)) k3 (Nat.le_refl _)⟩
    · have hqb : ((q : Int) == 8) = false := by simp; omega
      by_cases ha : agreeL c = []
      · have HR := Lib.hid (ask_none he ha)
        have HA := Lib.hid ha
        clear he ha hqe
        go_enter Tryd.func11, Tryd.ntmps11
        go_wp2_with fail
        rw [HW0.out]
        refine (bask_any W0 e1 hca hcb).mono ?_
        rintro e u1 ⟨rfl, k1⟩
        rw [HR.out]
        have b1 : Below W0.heap.size W0 u1 := k1
        have c0 := getc b1 q0
        have c1 := getc b1 q1
        have c2 := getc b1 q2
        go_wp2_with fail
        clear c0 c1 c2
        refine (valid_any u1 (e1.keep (Keeps.below b1))).mono ?_
        rintro e u2 ⟨rfl, k2⟩
        rw [hv]
        have b2 := bl_call b1 k2 (Nat.le_refl _)
        have d0 := getc b2 q0
        have d1 := getc b2 q1
        have d2 := getc b2 q2
        go_wp2_with fail
        clear d0 d1 d2
        refine (agree_any u2 (e1.keep (Keeps.below b2)) hok).mono ?_
        rintro e u3 ⟨AT, nT, cT, rfl, hT, k3⟩
        obtain rfl : nT = 0 := by rw [← hT.len, HA.out]; rfl
        have b3 := bl_call b2 k3 (Nat.le_refl _)
        go_wp2_with fail
        refine (awake_any _ (t0.bl b3)).mono ?_
        rintro e u4 ⟨rfl, k4⟩
        go_wp2
        go_ret
        exact ⟨rfl, bl_call (bl_call hB0 b3 (Nat.le_refl _)) k4 (Nat.le_refl _)⟩
      · obtain ⟨f, nk, hf, hn1', hR, hall, hleft⟩ := ask_ok he ha
        have HR := Lib.hid hR
        have HA := Lib.hid ha
        have HAll := Lib.hid hall
        have HLeft := Lib.hid hleft
        have hfn : f < n := by rw [← Hn.out]; exact hf
        obtain ⟨X0, hx0, hx0b⟩ := turnR_byte hX0 0
        obtain ⟨X1v, hx1, hx1b⟩ := turnR_byte hX0 1
        obtain ⟨X2v, hx2, hx2b⟩ := turnR_byte hX0 2
        obtain ⟨Y0, hy0, hy0b⟩ := turnR_byte hY0 0
        have HX0 := Lib.hid hx0
        have HX1 := Lib.hid hx1
        have HX2 := Lib.hid hx2
        have HY0 := Lib.hid hy0
        clear he ha hqe hR hall hleft hx0 hx1 hx2 hy0
        go_enter Tryd.func11, Tryd.ntmps11
        go_wp2_with fail
        rw [HW0.out]
        refine (bask_any W0 e1 hca hcb).mono ?_
        rintro e u1 ⟨rfl, k1⟩
        rw [HR.out]
        have b1 : Below W0.heap.size W0 u1 := k1
        have c0 := getc b1 q0
        have c1 := getc b1 q1
        have c2 := getc b1 q2
        go_wp2_with fail
        clear c0 c1 c2
        refine (valid_any u1 (e1.keep (Keeps.below b1))).mono ?_
        rintro e u2 ⟨rfl, k2⟩
        rw [hv]
        have b2 := bl_call b1 k2 (Nat.le_refl _)
        have d0 := getc b2 q0
        have d1 := getc b2 q1
        have d2 := getc b2 q2
        go_wp2_with fail
        clear d0 d1 d2
        refine (agree_any u2 (e1.keep (Keeps.below b2)) hok).mono ?_
        rintro e u3 ⟨AT, nT, cT, rfl, hT, k3⟩
        have b3 := bl_call b2 k3 (Nat.le_refl _)
        have hnT : 0 < nT := by rw [← hT.len]; exact List.length_pos_iff.2 HA.out
        have hTle := hT.le
        have hnTi : ¬ (nT : Int) = 0 := by omega
        have hnTb : ((nT : Int) == 0) = false := by simp; omega
        have hf0 : decide ((f : Int) < 0) = false := decide_eq_false (by omega)
        have hf1 : ¬ (f : Int) < 0 := by omega
        have hf2 : (f : Int) < n := by omega
        have hf3 : ¬ (f : Int) ≥ n := by omega
        have hf4 : decide ((f : Int) ≥ (n : Int)) = false := decide_eq_false (by omega)
        have hk1 : ¬ (nk : Int) < 1 := by omega
        have hk2 : decide ((nk : Int) < 1) = false := decide_eq_false (by omega)
        have e3 := e1.keep (Keeps.below b3)
        have g0 := getc b3 q0
        have g1 := getc b3 q1
        have g2 := getc b3 q2
        go_wp2_with fail
        refine (turn_any 0 u3 (hX0.keep U8R.good (Keeps.below b3)) (by decide)).mono ?_
        rintro e w' ⟨rfl, rfl⟩
        rw [HX0.out]
        go_wp2_with fail
        refine (turn_any 1 u3 (hX0.keep U8R.good (Keeps.below b3)) (by decide)).mono ?_
        rintro e w' ⟨rfl, rfl⟩
        rw [HX1.out]
        have hw1 : IntKind.i64.wrap (256 * (X1v : Int)) = 256 * (X1v : Int) := by rw [IntKind.wrap_i64]; omega
        obtain ⟨Z, hZ⟩ : ∃ Z : Nat, X0 + 256 * X1v = Z := ⟨_, rfl⟩
        have hZb : Z < 65536 := by omega
        have hw2 : IntKind.i64.wrap ((X0 : Int) + 256 * (X1v : Int)) = (Z : Int) := by rw [IntKind.wrap_i64]; omega
        have htm := turn_rem Z nT
        have hjT : Z % nT < nT := Nat.mod_lt _ hnT
        obtain ⟨j, hj⟩ : ∃ j : Nat, Z % nT = j := ⟨_, rfl⟩
        rw [hj] at htm hjT
        have hjb : j < 65536 := by rw [← hj]; exact Nat.lt_of_le_of_lt (Nat.mod_le _ _) hZb
        have hw3 : IntKind.i64.wrap (j : Int) = (j : Int) := by rw [IntKind.wrap_i64]; omega
        have hji : (j : Int) < nT := by omega
        have hji0 : (0 : Int) ≤ j := by omega
        obtain ⟨bT, oT, t, A', n', c', rfl, hcT, hIt, Ht⟩ := hT.get hjT
        have htm' : t ∈ agreeL c := List.mem_of_getElem? Ht.out
        have htr := (allT_ok hok (List.mem_filter.1 htm').1).2
        clear hZ hj htm'
        obtain ⟨bf, of_, sf, nom, er, rfl, hbf, hcf0, hcf1, hcf2, _, HF⟩ := e3.fs.get hfn
        obtain ⟨_, _, he1, he2⟩ := hok.feat HF.out
        dsimp only at he1 he2
        go_wp2_with fail
        clear hcf0 hcf1
        refine (length_any f u3 e3 hok hIt htr hf).mono ?_
        rintro e u4 ⟨rfl, k4⟩
        have b4 := bl_call b3 k4 (Nat.le_refl _)
        obtain ⟨L, hL⟩ : ∃ L, len c t f = L := ⟨_, rfl⟩
        have hLb := len_bd hok htr hf
        rw [hL] at hLb ⊢
        obtain ⟨hL1, hL2⟩ := hLb
        clear hL
        go_wp2_with fail
        refine (turn_any 0 u4 (hY0.keep U8R.good (Keeps.below b4)) (by decide)).mono ?_
        rintro e w' ⟨rfl, rfl⟩
        rw [HY0.out]
        obtain ⟨dd, hdd⟩ : ∃ dd : Int, 2 * er + 1 = dd := ⟨_, rfl⟩
        have hdb : 1 ≤ dd ∧ dd ≤ 201 := by omega
        have hd0' : (dd == 0) = false := by simp; omega
        have hd1' : ¬ dd = 0 := by omega
        have hv1 : IntKind.i64.wrap (2 * er) = 2 * er := by rw [IntKind.wrap_i64]; omega
        have hv2 : IntKind.i64.wrap (2 * er + 1) = dd := by rw [hdd]; rw [IntKind.wrap_i64]; omega
        obtain ⟨v, hvv⟩ : ∃ v : Int, (Y0 : Int) % dd = v := ⟨_, rfl⟩
        have hvb : 0 ≤ v ∧ v < dd := ⟨by rw [← hvv]; exact Int.emod_nonneg _ hd1', by rw [← hvv]; exact Int.emod_lt_of_pos _ (by omega)⟩
        have hv3 : Int.tmod (Y0 : Int) dd = v := by rw [← hvv]; exact Int.tmod_eq_emod_of_nonneg (by omega)
        have hv4 : IntKind.i64.wrap v = v := by rw [IntKind.wrap_i64]; omega
        have hv5 : IntKind.i64.wrap (L + v) = L + v := by rw [IntKind.wrap_i64]; omega
        obtain ⟨z, hz⟩ : ∃ z : Int, L + v - er = z := ⟨_, rfl⟩
        have hv6 : IntKind.i64.wrap (L + v - er) = z := by rw [hz]; rw [IntKind.wrap_i64]; omega
        clear hdd hvv hz
        have g0 := getc b4 q0
        have g1 := getc b4 q1
        have g2 := getc b4 q2
        go_wp2_with fail
        have e4 := e1.keep (Keeps.below b4)
        clear g0 g1 g2
        refine (with_any (f : Int) z u4 e4 (by omega)).mono ?_
        rintro e u5 ⟨C', cq', rfl, hD, k5⟩
        obtain ⟨d, hd⟩ : ∃ d, withC c ⟨(f : Int), z⟩ = d := ⟨_, rfl⟩
        have Hd := Lib.hid hd
        rw [hd] at hD
        clear hd
        obtain ⟨u6, hu6⟩ : ∃ u6, u5.alloc (.cells #[.slice (some ⟨bf, of_, none⟩) n ca, .slice B m cb, .slice C' (q + 1) cq'] 26) = u6 := ⟨_, rfl⟩
        have D6 : Blk u6 u5.heap.size 26 #[.slice (some ⟨bf, of_, none⟩) n ca, .slice B m cb, .slice C' (q + 1) cq'] := by rw [← hu6]; exact Blk.new _ _ _ rfl
        have b6 : Below W0.heap.size W0 u6 := by rw [← hu6]; exact bl_alloc (bl_call b4 k5 (Nat.le_refl _)) _ (Nat.le_refl _)
        have hD6 : ClaimAt (fun _ => True) u6 (some ⟨bf, of_, none⟩) n B m C' (q + 1) d := by rw [← hu6]; exact hD.keep (Keeps.alloc _ _)
        have hT6 : Rows (fun _ => True) u6 (some ⟨bT, oT, none⟩) nT (agreeL c) := by rw [← hu6]; exact hT.keep (SlR.good IntR.good) (Keeps.below (bl_alloc (bl_call (bl_call (Below.refl _ _) k4 (Nat.le_refl _)) k5 (Nat.le_refl _)) _ (Nat.le_refl _)))
        have c0 : u6.cell? ⟨u5.heap.size, 0, none⟩ = some (.slice (some ⟨bf, of_, none⟩) n ca) := D6.cell 0
        have c1 : u6.cell? ⟨u5.heap.size, 1, none⟩ = some (.slice B m cb) := D6.cell 1
        have c2 : u6.cell? ⟨u5.heap.size, 2, none⟩ = some (.slice C' (q + 1) cq') := D6.cell 2
        go_wp2_with fail
        clear hu6 c0 c1 c2 hT hD k4 k5 hIt
        refine (valid_any u6 hD6).mono ?_
        rintro e u7 ⟨rfl, k7⟩
        have hkn : X2v % n < n := Nat.mod_lt _ (by omega)
        have htm2 := turn_rem X2v n
        obtain ⟨k, hk⟩ : ∃ k : Nat, X2v % n = k := ⟨_, rfl⟩
        rw [hk] at hkn htm2
        have hkb : k < 256 := by rw [← hk]; exact Nat.lt_of_le_of_lt (Nat.mod_le _ _) hx2b
        clear hk
        have hwk : IntKind.i64.wrap (k : Int) = (k : Int) := by rw [IntKind.wrap_i64]; omega
        have hni : ¬ (n : Int) = 0 := by omega
        have hnb : ((n : Int) == 0) = false := by simp; omega
        have hkf : k < c.feats.length := by rw [Hn.out]; exact hkn
        obtain ⟨hl1, hl2, hl3⟩ := HLeft.out k hkf
        obtain ⟨G, hG⟩ : ∃ G, leftR c (agreeL c) k = G := ⟨_, rfl⟩
        rw [hG] at hl1 hl2 hl3
        have HG := Lib.hid hG
        clear hG
        have hge : (G ≥ (nk : Int)) := hl1
        have hgeb : decide (G ≥ (nk : Int)) = true := decide_eq_true hl1
        by_cases hed : err d = 0
        · have hvd : ((check d).2.2 == 0) = true := by have he' : (check d).2.2 = 0 := hed; simpa using he'
          have hlen := HAll.out z (by rw [Hd.out]; exact hed)
          rw [Hd.out] at hlen
          have hokd := okC_of hed
          have d0 : u7.cell? ⟨u5.heap.size, 0, none⟩ = some (.slice (some ⟨bf, of_, none⟩) n ca) := (D6.bl k7).cell 0
          have d1 : u7.cell? ⟨u5.heap.size, 1, none⟩ = some (.slice B m cb) := (D6.bl k7).cell 1
          have d2 : u7.cell? ⟨u5.heap.size, 2, none⟩ = some (.slice C' (q + 1) cq') := (D6.bl k7).cell 2
          rw [hvd]
          clear hed
          go_wp2_with fail
          clear d0 d1 d2
          refine (explains_any u7 (hD6.keep (Keeps.below k7)) hokd).mono ?_
          rintro e u8 ⟨AE, nE, cE, rfl, hE, k8⟩
          rw [← show nE = (explainsL d).length from hE.len.symm] at hlen
          have hgt : ¬ (nE : Int) > nk := by omega
          have hgtb : decide ((nE : Int) > (nk : Int)) = false := decide_eq_false hgt
          have b8 := bl_call b6 (bl_call k7 k8 (Nat.le_refl _)) (Nat.le_refl _)
          have hT8 := hT6.keep (SlR.good IntR.good) (Keeps.below (bl_call k7 k8 (Nat.le_refl _)))
          have HT : Hid (∀ z_, Calls Tryd.prog 49 #[.slice X nx cx, .int .i64 2] (u8.drewN z_) (fun e w' => e = .returned (.int .i64 X2v) ∧ w' = u8.drewN z_)) := fun z_ => (turn_any (c := cx) 2 _ ((hX0.keep U8R.good (Keeps.below b8)).keep U8R.good (Keeps.drewN _ _)) (by decide)).mono fun e w' hh => ⟨by rw [hh.1, HX2.out], hh.2.symm⟩
          have m0 := getc b8 q0
          have m1 := getc b8 q1
          have m2 := getc b8 q2
          go_wp2_with fail
          go_quiet ((go_at_call 49; with_reducible refine Calls.quiet_of_same (n := _) (HT.out _)))
          go_wp2_with fail
          refine (left12_any k _ (e1.keep (Keeps.below (bl_drewN b8 _))) hok (hT8.keep (SlR.good IntR.good) (Keeps.drewN _ _)) HA.out hkf).mono ?_
          rintro e u10 ⟨rfl, k10⟩
          rw [HG.out]
          have b10 := bl_call (bl_drewN b8 _) k10 (Nat.le_refl _)
          by_cases hkf2 : k = f
          · have hne : ((k : Int) != (f : Int)) = false := by subst hkf2; simp
            have hGe : (G == (nk : Int)) = true := by rw [hl2 hkf2]; simp
            have hkge : decide ((k : Int) ≥ (f : Int)) = true := decide_eq_true (by omega)
            have hkge' : (k : Int) ≥ f := by omega
            clear hl2 hl3
            go_wp2_with fail
            refine (awake_any _ (t0.bl b10)).mono ?_
            rintro e u11 ⟨rfl, k11⟩
            go_wp2
            go_ret
            exact ⟨rfl, bl_call (bl_call hB0 b10 (Nat.le_refl _)) k11 (Nat.le_refl _)⟩
          · have hne : ((k : Int) != (f : Int)) = true := by simp; omega
            by_cases hlt2 : k < f
            · have hkge : decide ((k : Int) ≥ (f : Int)) = false := decide_eq_false (by omega)
              have hkge' : ¬ (k : Int) ≥ f := by omega
              have hGg : decide (G > (nk : Int)) = true := decide_eq_true (hl3 hlt2)
              have hGg' : G > (nk : Int) := hl3 hlt2
              clear hl2 hl3
              go_wp2_with fail
              refine (awake_any _ (t0.bl b10)).mono ?_
              rintro e u11 ⟨rfl, k11⟩
              go_wp2
              go_ret
              exact ⟨rfl, bl_call (bl_call hB0 b10 (Nat.le_refl _)) k11 (Nat.le_refl _)⟩
            · have hkge : decide ((k : Int) ≥ (f : Int)) = true := decide_eq_true (by omega)
              have hkge' : (k : Int) ≥ f := by omega
              clear hl2 hl3
              go_wp2_with fail
              refine (awake_any _ (t0.bl b10)).mono ?_
              rintro e u11 ⟨rfl, k11⟩
              go_wp2
              go_ret
              exact ⟨rfl, bl_call (bl_call hB0 b10 (Nat.le_refl _)) k11 (Nat.le_refl _)⟩
        · have hvd : ((check d).2.2 == 0) = false := by have he' : (check d).2.2 ≠ 0 := hed; simpa using he'
          rw [hvd]
          clear hed
          have b8 := bl_call b6 k7 (Nat.le_refl _)
          have hT8 := hT6.keep (SlR.good IntR.good) (Keeps.below k7)
          have HT : Hid (∀ z_, Calls Tryd.prog 49 #[.slice X nx cx, .int .i64 2] (u7.drewN z_) (fun e w' => e = .returned (.int .i64 X2v) ∧ w' = u7.drewN z_)) := fun z_ => (turn_any (c := cx) 2 _ ((hX0.keep U8R.good (Keeps.below b8)).keep U8R.good (Keeps.drewN _ _)) (by decide)).mono fun e w' hh => ⟨by rw [hh.1, HX2.out], hh.2.symm⟩
          have m0 := getc b8 q0
          have m1 := getc b8 q1
          have m2 := getc b8 q2
          go_wp2_with fail
          go_quiet ((go_at_call 49; with_reducible refine Calls.quiet_of_same (n := _) (HT.out _)))
          go_wp2_with fail
          refine (left12_any k _ (e1.keep (Keeps.below (bl_drewN b8 _))) hok (hT8.keep (SlR.good IntR.good) (Keeps.drewN _ _)) HA.out hkf).mono ?_
          rintro e u10 ⟨rfl, k10⟩
          rw [HG.out]
          have b10 := bl_call (bl_drewN b8 _) k10 (Nat.le_refl _)
          by_cases hkf2 : k = f
          · have hne : ((k : Int) != (f : Int)) = false := by subst hkf2; simp
            have hGe : (G == (nk : Int)) = true := by rw [hl2 hkf2]; simp
            have hkge : decide ((k : Int) ≥ (f : Int)) = true := decide_eq_true (by omega)
            have hkge' : (k : Int) ≥ f := by omega
            clear hl2 hl3
            go_wp2_with fail
            refine (awake_any _ (t0.bl b10)).mono ?_
            rintro e u11 ⟨rfl, k11⟩
            go_wp2
            go_ret
            exact ⟨rfl, bl_call (bl_call hB0 b10 (Nat.le_refl _)) k11 (Nat.le_refl _)⟩
          · have hne : ((k : Int) != (f : Int)) = true := by simp; omega
            by_cases hlt2 : k < f
            · have hkge : decide ((k : Int) ≥ (f : Int)) = false := decide_eq_false (by omega)
              have hkge' : ¬ (k : Int) ≥ f := by omega
              have hGg : decide (G > (nk : Int)) = true := decide_eq_true (hl3 hlt2)
              have hGg' : G > (nk : Int) := hl3 hlt2
              clear hl2 hl3
              go_wp2_with fail
              refine (awake_any _ (t0.bl b10)).mono ?_
              rintro e u11 ⟨rfl, k11⟩
              go_wp2
              go_ret
              exact ⟨rfl, bl_call (bl_call hB0 b10 (Nat.le_refl _)) k11 (Nat.le_refl _)⟩
            · have hkge : decide ((k : Int) ≥ (f : Int)) = true := decide_eq_true (by omega)
              have hkge' : (k : Int) ≥ f := by omega
              clear hl2 hl3
              go_wp2_with fail
              refine (awake_any _ (t0.bl b10)).mono ?_
              rintro e u11 ⟨rfl, k11⟩
              go_wp2
              go_ret
              exact ⟨rfl, bl_call (bl_call hB0 b10 (Nat.le_refl _)) k11 (Nat.le_refl _)⟩
  · have hv : ((check c).2.2 == 0) = false := by have he' : (check c).2.2 ≠ 0 := he; simpa using he'
    clear he
    go_enter Tryd.func11, Tryd.ntmps11
    go_wp2_with fail
    rw [HW0.out]
    refine (bask_any W0 e1 hca hcb).mono ?_
    rintro e u1 ⟨rfl, k1⟩
    have b1 : Below W0.heap.size W0 u1 := k1
    have c0 := getc b1 q0
    have c1 := getc b1 q1
    have c2 := getc b1 q2
    go_wp2_with fail
    clear c0 c1 c2
    refine (valid_any u1 (e1.keep (Keeps.below b1))).mono ?_
    rintro e u2 ⟨rfl, k2⟩
    rw [hv]
    have b2 := bl_call b1 k2 (Nat.le_refl _)
    go_wp2_with fail
    refine (awake_any _ (t0.bl b2)).mono ?_
    rintro e u3 ⟨rfl, k3⟩
    go_wp2
    go_ret
    exact ⟨rfl, bl_call (bl_call hB0 b2 (Nat.le_refl _)) k3 (Nat.le_refl _)⟩

end Go.Proofs.YtkbpmcpmcmnfgaaDoor
