/- Walks, layer 7, the reference: Lacks and Some. -/
import Derived.Test.YtpdldmichpmgmaaGreatCKFews
import Derived.Test.YtpdldmichpmgmaaGreatCKPlnP
import Derived.Test.YtpdldmichpmgmaaGreatCKRefM
import Derived.Test.YtpdldmichpmgmaaGreatCKRefT
set_option linter.unusedVariables false
set_option linter.unusedSimpArgs false
set_option linter.all false
namespace Go.Proofs.YtpdldmichpmgmaaGreat
open Go.RowKit Go.Shelf

/-- numbers and an error, as an answer -/
def IntsF (r : List Int × Int) (e : Ending) (w' : World) : Prop := ∃ A c, e = .returned (.tuple #[.slice A r.1.length c, .int .i64 r.2]) ∧ Ints (fun _ => True) w' A r.1.length r.1
theorem IntsF.nil {e : Int} {w' : World} : IntsF ([], e) (.returned (.tuple #[.slice none 0 0, .int .i64 e])) w' := ⟨none, 0, rfl, SliceOf.nil _ _ _ _ _⟩
theorem chosen40 {all : List (List Pl)} (h : ∀ x ∈ all, x.length ≤ 40) (set : List Int) : ∀ x ∈ chosenL all set, x.length ≤ 40 := by
  intro x hx
  unfold chosenL at hx
  obtain ⟨i, _, rfl⟩ := List.mem_map.1 hx
  rw [List.getD_eq_getElem?_getD]
  cases hy : all[i.toNat]? with
  | none => simp
  | some y => exact h y (List.mem_of_getElem? hy)

set_option maxHeartbeats 16000000 in
set_option maxRecDepth 100000 in
theorem rlacks7_any {A C P : Option Addr} {n ca q cc m pc : Nat} {s : Shop} {l : List SeenC} {p : List (Int × Int)} {klo khi : Int} (w : World) (g : Moulds (fun _ => True) w A n s.moulds) (gs : SeenCs (fun _ => True) w C q l) (gp : Pairs (fun _ => True) w P m p) (h1 : s.klo = klo) (h2 : s.khi = khi) :
    Calls Tryz.prog 12 #[.agg #[.int .i64 klo, .int .i64 khi, .slice A n ca], .slice C q cc, .slice P m pc] w fun e w' => IntsF (lacksR s l p) e w' ∧ Below w.heap.size w w' := by
  obtain ⟨W0, hW⟩ : ∃ W0, w.alloc (.cells #[.int .i64 klo, .int .i64 khi, .slice A n ca] 26) = W0 := ⟨_, rfl⟩
  have X : Blk W0 w.heap.size 26 #[.int .i64 klo, .int .i64 khi, .slice A n ca] := by rw [← hW]; exact Blk.new _ _ _ rfl
  have hBW : Below w.heap.size w W0 := by rw [← hW]; exact bl_alloc (Below.refl _ _) _ (Nat.le_refl _)
  have HG : Hid (∀ V, Below W0.heap.size W0 V → Moulds (fun _ => True) V A n s.moulds) := fun V hb => (g.keep MouldR.good (Keeps.below hBW)).keep MouldR.good (Keeps.below hb)
  have HS : Hid (∀ V, Below W0.heap.size W0 V → SeenCs (fun _ => True) V C q l) := fun V hb => (gs.keep SeenCR.good (Keeps.below hBW)).keep SeenCR.good (Keeps.below hb)
  have HP : Hid (∀ V, Below W0.heap.size W0 V → Pairs (fun _ => True) V P m p) := fun V hb => (gp.keep PairR.good (Keeps.below hBW)).keep PairR.good (Keeps.below hb)
  have kk : Hid (∀ V, Below W0.heap.size W0 V → V.cell? ⟨w.heap.size, 0, none⟩ = some (.int .i64 klo) ∧ V.cell? ⟨w.heap.size, 1, none⟩ = some (.int .i64 khi) ∧ V.cell? ⟨w.heap.size, 2, none⟩ = some (.slice A n ca)) := fun V hb => ⟨(X.bl hb).cell 0, (X.bl hb).cell 1, (X.bl hb).cell 2⟩
  have Hm := Lib.hid gp.len
  have hml := gp.le
  clear X g gs gp
  obtain ⟨x0, x1, x2⟩ := kk.out W0 (Below.refl _ _)
  go_enter Tryz.func12, Tryz.ntmps12
  go_wp2_with fail
  clear hW x0 x1 x2
  refine (rorder7_any W0 (HG.out W0 (Below.refl _ _)) (HS.out W0 (Below.refl _ _)) (HP.out W0 (Below.refl _ _)) h1 h2).mono ?_
  rintro e V1 ⟨rfl, b1⟩
  by_cases h0 : orderE s l p = 0
  · have HOE := Lib.hid h0
    obtain ⟨hok, _, hp1, hp6⟩ := order_zero h0
    rw [Hm.out] at hp1 hp6
    rw [h0]
    clear h0 hok
    have HB1 := Lib.hid b1
    obtain ⟨x0, x1, x2⟩ := kk.out V1 b1
    clear b1
    go_wp2_with fail
    clear x0 x1 x2
    refine (rall7_0 V1 (HG.out V1 HB1.out) (HS.out V1 HB1.out) (HP.out V1 HB1.out) h1 h2 HOE.out).mono ?_
    rintro e V2 ⟨⟨F1, f1, rfl, hF⟩, c2⟩
    have HB2 : Hid (Below W0.heap.size W0 V2) := bl_call HB1.out c2 (Nat.le_refl _)
    go_wp2_with fail
    refine (rfewest7_any V2 hF (by omega) (all40 HOE.out)).mono ?_
    rintro e V3 ⟨⟨J1, j1, rfl, hJ⟩, c3⟩
    have HB3 : Hid (Below W0.heap.size W0 V3) := bl_call HB2.out c3 (Nat.le_refl _)
    have hl0 := lacksR_0 HOE.out
    clear hF c2 c3
    cases hfl : fewestL (allL s l p) with
    | none =>
      rw [hfl] at hl0
      have HL0 := Lib.hid hl0
      clear hl0 hJ hfl
      go_wp2_with fail
      go_ret2
      refine ⟨?_, bl_call hBW HB3.out (Nat.le_refl _)⟩
      rw [HL0.out]
      exact IntsF.nil
    | some X2 =>
      rw [hfl] at hl0 hJ
      have HL0 := Lib.hid hl0
      have HJ := Lib.hid hJ
      dsimp only [Option.getD_some, Option.isSome_some]
      obtain ⟨nX, hnX⟩ : ∃ x, X2.length = x := ⟨_, rfl⟩
      have HNX := Lib.hid hnX
      rw [hnX]
      clear hl0 hJ hfl hnX
      go_wp2_with fail
      go_ret2
      refine ⟨?_, bl_call hBW HB3.out (Nat.le_refl _)⟩
      rw [HL0.out]
      exact ⟨J1, j1, by simp [HNX.out], HJ.out⟩
  · have HR := Lib.hid (lacksR_bad h0)
    obtain ⟨ev, hev⟩ : ∃ x, orderE s l p = x := ⟨_, rfl⟩
    rw [hev] at h0 HR
    rw [hev]
    have hvb : (ev != 0) = true := by simpa using h0
    have HB1 := Lib.hid b1
    clear h0 hev b1
    go_wp2_with fail
    go_ret2
    refine ⟨?_, bl_call hBW HB1.out (Nat.le_refl _)⟩
    rw [HR.out]
    exact IntsF.nil

set_option maxHeartbeats 16000000 in
set_option maxRecDepth 100000 in
theorem rsome7_any {A C P : Option Addr} {n ca q cc m pc : Nat} {s : Shop} {l : List SeenC} {p : List (Int × Int)} {klo khi : Int} (w : World) (g : Moulds (fun _ => True) w A n s.moulds) (gs : SeenCs (fun _ => True) w C q l) (gp : Pairs (fun _ => True) w P m p) (h1 : s.klo = klo) (h2 : s.khi = khi) :
    Calls Tryz.prog 14 #[.agg #[.int .i64 klo, .int .i64 khi, .slice A n ca], .slice C q cc, .slice P m pc] w fun e w' => IntsF (someR s l p) e w' ∧ Below w.heap.size w w' := by
  obtain ⟨W0, hW⟩ : ∃ W0, w.alloc (.cells #[.int .i64 klo, .int .i64 khi, .slice A n ca] 26) = W0 := ⟨_, rfl⟩
  have X : Blk W0 w.heap.size 26 #[.int .i64 klo, .int .i64 khi, .slice A n ca] := by rw [← hW]; exact Blk.new _ _ _ rfl
  have hBW : Below w.heap.size w W0 := by rw [← hW]; exact bl_alloc (Below.refl _ _) _ (Nat.le_refl _)
  have HG : Hid (∀ V, Below W0.heap.size W0 V → Moulds (fun _ => True) V A n s.moulds) := fun V hb => (g.keep MouldR.good (Keeps.below hBW)).keep MouldR.good (Keeps.below hb)
  have HS : Hid (∀ V, Below W0.heap.size W0 V → SeenCs (fun _ => True) V C q l) := fun V hb => (gs.keep SeenCR.good (Keeps.below hBW)).keep SeenCR.good (Keeps.below hb)
  have HP : Hid (∀ V, Below W0.heap.size W0 V → Pairs (fun _ => True) V P m p) := fun V hb => (gp.keep PairR.good (Keeps.below hBW)).keep PairR.good (Keeps.below hb)
  have kk : Hid (∀ V, Below W0.heap.size W0 V → V.cell? ⟨w.heap.size, 0, none⟩ = some (.int .i64 klo) ∧ V.cell? ⟨w.heap.size, 1, none⟩ = some (.int .i64 khi) ∧ V.cell? ⟨w.heap.size, 2, none⟩ = some (.slice A n ca)) := fun V hb => ⟨(X.bl hb).cell 0, (X.bl hb).cell 1, (X.bl hb).cell 2⟩
  have Hm := Lib.hid gp.len
  have hml := gp.le
  clear X g gs gp
  obtain ⟨x0, x1, x2⟩ := kk.out W0 (Below.refl _ _)
  go_enter Tryz.func14, Tryz.ntmps14
  go_wp2_with fail
  clear hW x0 x1 x2
  refine (rorder7_any W0 (HG.out W0 (Below.refl _ _)) (HS.out W0 (Below.refl _ _)) (HP.out W0 (Below.refl _ _)) h1 h2).mono ?_
  rintro e V1 ⟨rfl, b1⟩
  by_cases h0 : orderE s l p = 0
  · have HOE := Lib.hid h0
    obtain ⟨hok, _, hp1, hp6⟩ := order_zero h0
    rw [Hm.out] at hp1 hp6
    rw [h0]
    clear h0 hok
    have HB1 := Lib.hid b1
    obtain ⟨x0, x1, x2⟩ := kk.out V1 b1
    clear b1
    go_wp2_with fail
    clear x0 x1 x2
    refine (rall7_0 V1 (HG.out V1 HB1.out) (HS.out V1 HB1.out) (HP.out V1 HB1.out) h1 h2 HOE.out).mono ?_
    rintro e V2 ⟨⟨F1, f1, rfl, hF⟩, c2⟩
    have HF : Hid (∀ V, Below V2.heap.size V2 V → Ords (fun k => V1.heap.size ≤ k ∧ k < V2.heap.size) V F1 m (allL s l p)) := fun V hb => (SliceOf.bound OrdR.good hF).keep OrdR.good (Keeps.below hb)
    have HB2 : Hid (Below W0.heap.size W0 V2) := bl_call HB1.out c2 (Nat.le_refl _)
    clear hF c2
    go_wp2_with fail
    go_loopw [10] (fun i wr => ∃ k : Nat, k ≤ m ∧ i = .int .i64 k ∧ Hid (Below V2.heap.size V2 wr) ∧ Hid (∀ x, IsSet m x → k < x.length → someB (allL s l p) x = false)) (fun i _ => (intOf i).toNat)
    case atStart => exact ⟨m, Nat.le_refl _, rfl, Below.refl _ _, fun x hx hl => by have := set_len hx; omega⟩
    case round =>
      obtain ⟨k, hk, rfl, HB, HN⟩ := hrel
      have HBw : Hid (Below W0.heap.size W0 wr) := bl_call HB2.out HB.out (Nat.le_refl _)
      by_cases hlt : 0 < k
      · have hki : (0 : Int) < k := by omega
        go_wp2_with fail
        refine (rlists7_any k (S := fun _ => True) (xs := []) wr (SliceOf.nil _ _ _ _ _) (by omega) (fun y hy => by simp at hy) (by omega)).mono ?_
        rw [fromN_nil, listsB_nil, numF_zero]
        rintro e V3 ⟨⟨R, rc, rfl, hR⟩, c3⟩
        obtain ⟨LL, hLL⟩ : ∃ LL, lexL k (numbersL m) = LL := ⟨_, rfl⟩
        have HLL := Lib.hid hLL
        rw [hLL] at hR ⊢
        obtain ⟨qn, hq⟩ : ∃ q, LL.length = q := ⟨_, rfl⟩
        rw [hq] at hR ⊢
        have HQ := Lib.hid hq
        have HR : Hid (∀ V, Below V3.heap.size V3 V → Rows7 (fun _ => True) V R qn LL) := fun V hb => (hR.keep Rows7.good (Keeps.below hb)).mono Rows7.good (fun _ _ => trivial)
        have H23 : Hid (Below V2.heap.size V2 V3) := bl_call HB.out c3 (Nat.le_refl _)
        have hql := hR.le
        clear hLL hq hR c3 HB
        go_wp2_with fail
        go_loopw [12] (fun i wr => ∃ j : Nat, j ≤ qn ∧ i = .int .i64 j ∧ Hid (Below V3.heap.size V3 wr) ∧ Hid (∀ x ∈ LL.take j, someB (allL s l p) x = false)) (fun i _ => qn - (intOf i).toNat)
        case atStart => exact ⟨0, Nat.zero_le _, rfl, Below.refl _ _, fun x hx => by simp at hx⟩
        case round =>
          obtain ⟨j, hj, rfl, HBj, HNj⟩ := hrel
          by_cases hlj : j < qn
          · have hji : (j : Int) < qn := by omega
            obtain ⟨bR, oR, A1, n1, c1, t, rfl, _, htc, ht, Ht⟩ := Rows7.get (HR.out wr HBj.out) hlj
            have hbd := lex_bd (show t ∈ lexL k (numbersL m) by rw [HLL.out]; exact List.mem_of_getElem? Ht.out)
            have Hn1 := Lib.hid ht.len
            have hn1 : n1 ≤ 8 := by rw [← Hn1.out, hbd.1]; omega
            have HT : Hid (∀ V, Below wr.heap.size wr V → Ints (fun _ => True) V A1 n1 t) := fun V hb => ht.keep IntR.good (Keeps.below hb)
            have kt : Hid (∀ V, Below wr.heap.size wr V → V.cell? ⟨bR, oR + j, none⟩ = some (.slice A1 n1 c1)) := fun V hb => getc hb htc
            have H2w : Hid (Below V2.heap.size V2 wr) := bl_call H23.out HBj.out (Nat.le_refl _)
            have HBD := Lib.hid hbd.2
            have hsz2 := H2w.out.size
            clear ht hbd
            go_wp2_with fail
            refine (rchosen7_any wr (HF.out wr H2w.out) (HT.out wr (Below.refl _ _)) HBD.out hn1 (fun k hk => by omega)).mono ?_
            rintro e V4 ⟨⟨G1, g1, rfl, hG, _⟩, c4⟩
            go_wp2_with fail
            refine (rfewest7_any V4 hG hn1 (chosen40 (all40 HOE.out) _)).mono ?_
            rintro e V5 ⟨⟨J1, j1, rfl, _⟩, c5⟩
            obtain ⟨lk, hlk⟩ : ∃ x, (fewestL (chosenL (allL s l p) t)).isSome = x := ⟨_, rfl⟩
            obtain ⟨jn, hjn⟩ : ∃ x, ((fewestL (chosenL (allL s l p) t)).getD []).length = x := ⟨_, rfl⟩
            rw [hlk, hjn]
            have hpb : someB (allL s l p) t = !lk := by
              rw [← hlk]
              unfold someB
              cases fewestL (chosenL (allL s l p) t) <;> rfl
            have HPB := Lib.hid hpb
            have Hw5 : Hid (Below wr.heap.size wr V5) := bl_call c4 c5 (Nat.le_refl _)
            have htc5 := kt.out V5 Hw5.out
            clear hlk hjn hpb hG c4 c5 htc
            cases lk with
            | true =>
              have HN2 : Hid (∀ x ∈ LL.take (j + 1), someB (allL s l p) x = false) := fun x hx => by
                rw [take_snoc_get Ht.out] at hx
                rcases List.mem_append.1 hx with hx | hx
                · exact HNj.out x hx
                · rw [List.mem_singleton] at hx; rw [hx, HPB.out]; rfl
              have H35 : Hid (Below V3.heap.size V3 V5) := bl_call HBj.out Hw5.out (Nat.le_refl _)
              clear htc5
              go_wp2_with fail
              go_roundw
              case rel => exact ⟨j + 1, by omega, by go_num, H35.out, HN2.out⟩
              case measure => simp [intOf]; omega
            | false =>
              have HPF : Hid (someR s l p = (t, 0)) := some_found (k := k) (j := j) HOE.out (by rw [Hm.out]; exact HN.out) (by rw [Hm.out, HLL.out]; exact HNj.out) (by rw [Hm.out, HLL.out]; exact Ht.out) (by rw [HPB.out]; rfl)
              have HT5 : Hid (Ints (fun _ => True) V5 A1 n1 t) := HT.out V5 Hw5.out
              have HBE : Hid (Below w.heap.size w V5) := bl_call hBW (bl_call HB2.out (bl_call H2w.out Hw5.out (Nat.le_refl _)) (Nat.le_refl _)) (Nat.le_refl _)
              go_wp2_with fail
              go_ret2
              refine ⟨?_, HBE.out⟩
              rw [HPF.out]
              exact ⟨A1, c1, by simp [Hn1.out], by simpa [Hn1.out] using HT5.out⟩
          · obtain rfl : j = qn := by omega
            have hji : ¬ (j : Int) < j := by omega
            have HN2 : Hid (∀ x, IsSet m x → k - 1 < x.length → someB (allL s l p) x = false) := fun x hx hl => by
              by_cases he : x.length = k
              · have hm2 := set_lex hx
                rw [he, HLL.out] at hm2
                exact HNj.out x (by rw [List.take_of_length_le (by rw [HQ.out]; exact Nat.le_refl _)]; exact hm2)
              · exact HN.out x hx (by omega)
            have H2w : Hid (Below V2.heap.size V2 wr) := bl_call H23.out HBj.out (Nat.le_refl _)
            have hw1 : IntKind.i64.wrap ((k : Int) - 1) = ((k - 1 : Nat) : Int) := by rw [IntKind.wrap_i64]; omega
            go_wp2_with fail
            go_roundw
            case rel => exact ⟨k - 1, by omega, rfl, H2w.out, HN2.out⟩
            case measure => simp [intOf]; omega
      · obtain rfl : k = 0 := by omega
        have HPN : Hid (someR s l p = ([], 0)) := some_not HOE.out (by rw [Hm.out]; exact HN.out)
        go_wp2_with fail
        go_ret2
        refine ⟨?_, bl_call hBW HBw.out (Nat.le_refl _)⟩
        rw [HPN.out]
        exact IntsF.nil
  · have HR := Lib.hid (someR_bad h0)
    obtain ⟨ev, hev⟩ : ∃ x, orderE s l p = x := ⟨_, rfl⟩
    rw [hev] at h0 HR
    rw [hev]
    have hvb : (ev != 0) = true := by simpa using h0
    have HB1 := Lib.hid b1
    clear h0 hev b1
    go_wp2_with fail
    go_ret2
    refine ⟨?_, bl_call hBW HB1.out (Nat.le_refl _)⟩
    rw [HR.out]
    exact IntsF.nil
end Go.Proofs.YtpdldmichpmgmaaGreat
