/- Walks: the program's Lay. -/
import Derived.Test.YtpbimgafafkjgaaCTLeast
set_option linter.unusedVariables false
set_option linter.unusedSimpArgs false
set_option linter.all false
namespace Go.Proofs.Ytpbimgafafkjgaa
open Go.RowKit Go.Shelf

def KeptOwn (W0 : World) (m : Nat) (x : List (List Int) × Int) (v : Value) (Y : Foot) (A : World) : Prop := ∃ gO T cs, v = .slice (some ⟨gO, 0, none⟩) m m ∧ Y = (fun k => k = gO) ∧ Blk A gO T cs ∧ x.1.length = m ∧ RowsV W0 m cs x.1
theorem kept_enc {W0 : World} {m : Nat} (x : List (List Int) × Int) (args : Array Value) (Y : Foot) (A : World) (h : KeptEnc W0 m x args Y A) : ∃ B n c, args = #[.slice B n c, .int .i64 x.2] ∧ KeptOwn W0 m x (.slice B n c) Y A := by
  obtain ⟨gO, T, cs, ha, hY, hB, hl, hr⟩ := h
  exact ⟨_, _, _, ha, gO, T, cs, rfl, hY, hB, hl, hr⟩
theorem kept_own {W0 : World} {m : Nat} (x : List (List Int) × Int) (v : Value) (Y : Foot) (A B : World) (h : KeptOwn W0 m x v Y A) (hk : Kept (fun k => ¬ Y k) A B) (_ : ∀ k, Y k → k < A.heap.size) : KeptOwn W0 m x v Y B := by
  obtain ⟨gO, T, cs, hv, rfl, hB, hl, hr⟩ := h
  exact ⟨gO, T, cs, hv, rfl, (hk.block _ hB.lt (fun hn => hn rfl)).trans hB, hl, hr⟩
theorem lay_enc {W0 : World} {m : Nat} (x : List (List Int) × Int) (args : Array Value) (Y : Foot) (A : World) (h : LayEnc W0 m x args Y A) : ∃ B n c, args = #[.slice B n c, .int .i64 x.2] ∧ True := by
  obtain ⟨_, gR, T, cs, ha, _⟩ := h
  exact ⟨_, _, _, ha, trivial⟩
/-- rows, as they lie in memory behind it -/
theorem KeptOwn.rows {W0 W : World} {m : Nat} {x : List (List Int) × Int} {B : Option Addr} {n c : Nat} {Y : Foot} (h : KeptOwn W0 m x (.slice B n c) Y W) (hb : Below W0.heap.size W0 W) (hm : m ≤ maxLen) : Rows (fun _ => True) W B n x.1 := by
  obtain ⟨gO, T, cs, hv, _, hB, hl, hr⟩ := h
  injection hv with e1 e2 e3
  subst e1 e2
  refine ⟨hl, hm, fun k y hy => ?_⟩
  obtain ⟨v, hv, A, n', c', rfl, hI⟩ := hr.2 k y hy
  refine ⟨gO, 0, [.slice A n' c'], rfl, trivial, hB.lt, ⟨A, n', c', rfl, (hI.keep IntR.good (Keeps.belowB hb (fun k hk => hk))).mono IntR.good (fun _ _ => trivial)⟩, fun j u hu => ?_⟩
  cases j with
  | zero => simp at hu; subst hu; rw [show 0 + k * 1 + 0 = k by omega, hB.cell k]; exact hv
  | succ j => simp at hu

theorem rowP_lt {h : Hall} (hk : OkH h) : ∀ r, r < h.rows.length → rowP h r < 9 := fun r hr => (fitS_row (l := []) hk hr).1
theorem bitL_zero : bitL 0 = [] := by decide
theorem bitL_one : ∀ i : Nat, i < 8 → bitL (2 ^ i) = [(i : Int)] ∧ 2 ^ i < 256 := by decide
theorem least_lay {h : Hall} {l : List Seen} (hk : OkH h) (u : Nat) (hu : u < 256) : leastL (layP h l h.rows.length u 0) = leastL (layL h l h.rows.length (bitL u) 0) := by
  have := hk.nt
  rw [layP_layL (by omega) (rowP_lt hk) _ _ _ (Nat.le_refl _) hu]
section
variable {h : Hall} {l : List Seen}
theorem hallE_bad (e : (seen8 h l).2 ≠ 0) : hallE h l = (seen8 h l).2 := by rw [hallE, if_pos e]
theorem hallE_no (e : (seen8 h l).2 = 0) (a : agree8 h l = false) : hallE h l = 9 := by rw [hallE, if_neg (by simp [e]), if_pos a]
theorem hallE_ok (e : (seen8 h l).2 = 0) (a : agree8 h l = true) : hallE h l = 0 := by rw [hallE, if_neg (by simp [e]), if_neg (by rw [a]; decide)]
theorem layR_bad (e : hallE h l ≠ 0) : layR h l = ([], 0, hallE h l) := by rw [layR, if_pos e]
theorem layR_ok (e : hallE h l = 0) (hk : OkH h) : layR h l = match leastL (layP h l h.rows.length 0 0) with
  | none => ([], 0, 8)
  | some (rows, gap) => (rows, gap, 0) := by
  rw [layR, if_neg (by simp [e]), best_all, least_lay hk 0 (by decide), bitL_zero]; rfl
end

/-- what Lay answers -/
def LayOk (w : World) (r : List (List Int) × Int × Int) (e : Ending) (w' : World) : Prop := Below w.heap.size w w' ∧ ∃ A n c, e = .returned (.tuple #[.slice A n c, .int .i64 r.2.1, .int .i64 r.2.2]) ∧ Rows (fun _ => True) w' A n r.1

set_option maxRecDepth 100000 in
set_option maxHeartbeats 1000000 in
theorem tlay_any {A B C : Option Addr} {n ca m cb q cc : Nat} {h : Hall} {l : List Seen} {alo ahi most : Int} (w : World) (g : HallAt (fun _ => True) w A n B m h) (gs : Seens (fun _ => True) w C q l) (hca : n ≤ ca) (h1 : h.alo = alo) (h2 : h.ahi = ahi) (h3 : h.most = most) :
    Calls Try.prog 28 #[.agg #[.int .i64 alo, .int .i64 ahi, .int .i64 most, .slice A n ca, .slice B m cb], .slice C q cc] w (LayOk w (layR h l)) := by
  obtain ⟨W, hW⟩ : ∃ W, w.alloc (.cells #[.int .i64 alo, .int .i64 ahi, .int .i64 most, .slice A n ca, .slice B m cb] 27) = W := ⟨_, rfl⟩
  have hBW : Below w.heap.size w W := by rw [← hW]; exact bl_alloc (Below.refl _ _) _ (Nat.le_refl _)
  have hc : HallAt (fun _ => True) W A n B m h := g.keep (Keeps.below hBW)
  have hs : Seens (fun _ => True) W C q l := gs.keep SeenR.good (Keeps.below hBW)
  have hWs : w.heap.size ≤ W.heap.size := hBW.size
  have HW := Lib.hid hW
  have Hm := Lib.hid hc.rs.len
  clear hW g gs
  go_enter Try.func28, Try.ntmps28
  go_wp2_with fail
  rw [HW.out]
  refine (tenter_any W hc hs hca h1 h2 h3).mono ?_
  rintro e W1 ⟨b1, p, ag, rfl, hag, hbx⟩
  have B1 : Below w.heap.size w W1 := hBW.trans (b1.mono hWs)
  by_cases he : (seen8 h l).2 = 0
  · have hag := hag he
    have hbx := hbx he
    obtain ⟨hc0, _, _⟩ := seen_zero he
    have hokh := okH_of hc0
    have hnr := hokh.nr
    have hm1 : 1 ≤ m := by rw [← Hm.out]; exact hnr.1
    have hm3 : m ≤ 3 := by rw [← Hm.out]; exact hnr.2
    have HE := Lib.hid he
    rw [he]
    subst hag
    cases hga : agree8 h l
    · have HR : Hid (layR h l = ([], 0, 9)) := by rw [Hid, layR_bad (by rw [hallE_no HE.out hga]; decide), hallE_no HE.out hga]
      clear hbx he hnr
      go_wp2_with fail
      go_ret3
      exact ⟨B1, none, 0, 0, by rw [HR.out]; rfl, by rw [HR.out]; exact SliceOf.nil _ _ _ _ _⟩
    · obtain ⟨gh, rfl, hbox⟩ := hbx hga
      have HRR := Lib.hid (layR_ok (hallE_ok HE.out hga) hokh)
      have HOK := Lib.hid hokh
      have HAG := Lib.hid hga
      have HBOX := Lib.hid hbox
      clear hbx he hnr hga hokh hbox hc0
      go_wp2_with fail
      refine (layings_any 0 W1 HBOX.out HOK.out HAG.out).mono ?_
      rintro e W2 ⟨⟨g2, g5, g3, gF, base, rfl, lb⟩, b2⟩
      have HLB := Lib.hid lb
      clear lb
      go_wp2_with fail
      refine (kept_call _ _ W2).mono ?_
      rintro e W3 ⟨rfl, hW3⟩
      have b3 : Below W2.heap.size W2 W3 := by rw [hW3]; exact bl_alloc (Below.refl _ _) _ (Nat.le_refl _)
      have hK3 : Blk W3 W2.heap.size 119 #[.func (.func 92) #[] #[.pointer (some ⟨g2, 0, none⟩), .pointer (some ⟨g5, 0, none⟩), .pointer (some ⟨g3, 0, none⟩)]] := by rw [hW3]; exact Blk.new _ _ _ rfl
      have HK3 := Lib.hid hK3
      have HB3 := Lib.hid b3
      clear hW3 hK3 b3
      go_wp2_with fail
      refine (least_any (Own := KeptOwn W2 m) eg_kept kept_enc kept_own (kept_seq (gK := W2.heap.size) eg_layings hm1 hm3 (layings_seq HLB.out HOK.out Hm.out hm3 (by decide))) W3 (fun A hA => ⟨bl_call HB3.out hA (Nat.le_refl _), _, HK3.out.bl hA⟩)).mono ?_
      rintro e W4 ⟨hr, b4⟩
      have B4 : Below w.heap.size w W4 := bl_call (bl_call (bl_call B1 b2 (Nat.le_refl _)) HB3.out (Nat.le_refl _)) b4 (Nat.le_refl _)
      have B24 : Below W2.heap.size W2 W4 := bl_call HB3.out b4 (Nat.le_refl _)
      have HB4 := Lib.hid B4
      have HB24 := Lib.hid B24
      rw [Hm.out] at HRR
      clear B4 B24 b4 b2 B1
      unfold LeastR at hr
      cases hle : leastL (layP h l m 0 0) with
      | none =>
        rw [hle] at hr
        have HR : Hid (layR h l = ([], 0, 8)) := by rw [Hid, HRR.out, hle]
        subst hr
        clear hle HRR
        go_wp2_with fail
        go_ret3
        exact ⟨HB4.out, none, 0, 0, by rw [HR.out]; rfl, by rw [HR.out]; exact SliceOf.nil _ _ _ _ _⟩
      | some x =>
        rw [hle] at hr
        obtain ⟨Ad, nn, c, Y, he4, ho⟩ := hr
        obtain ⟨rows, gp⟩ := x
        have HR : Hid (layR h l = (rows, gp, 0)) := by rw [Hid, HRR.out, hle]
        have HO := Lib.hid (ho.rows HB24.out (by simp only [maxLen]; omega))
        subst he4
        clear hle HRR ho
        go_wp2_with fail
        go_ret3
        exact ⟨HB4.out, Ad, nn, c, by rw [HR.out]; rfl, by rw [HR.out]; exact HO.out⟩
  · have HR := Lib.hid (layR_bad (by rw [hallE_bad he]; exact he))
    have HRE := Lib.hid (hallE_bad he)
    have heb : ((seen8 h l).2 != 0) = true := by simpa using he
    clear he hag hbx
    go_wp2_with fail
    go_ret3
    exact ⟨B1, none, 0, 0, by rw [HR.out, HRE.out]; rfl, by rw [HR.out]; exact SliceOf.nil _ _ _ _ _⟩

end Go.Proofs.Ytpbimgafafkjgaa
