/- Walks, layer 7, the reference: Fewest. -/
import Derived.Test.YtpdldmichpmgmaaGreatCKRefN
import Derived.Test.YtpdldmichpmgmaaGreatCKRefO
set_option linter.unusedVariables false
set_option linter.unusedSimpArgs false
set_option linter.all false
namespace Go.Proofs.YtpdldmichpmgmaaGreat
open Go.RowKit Go.Shelf

theorem Rows7.get {S : Foot} {w : World} {A : Option Addr} {n k : Nat} {xs : List (List Int)} (h : Rows7 S w A n xs) (hk : k < n) :
    ∃ (b off : Nat) (A1 : Option Addr) (n1 c1 : Nat) (x : List Int), A = some ⟨b, off, none⟩ ∧ b < w.heap.size ∧ w.cell? ⟨b, off + k, none⟩ = some (.slice A1 n1 c1) ∧ Ints S w A1 n1 x ∧ Hid (xs[k]? = some x) := by
  have hlt : k < xs.length := by rw [h.1]; exact hk
  obtain ⟨b, off, vs, hA, _, hb, ⟨A1, n1, c1, rfl, hs⟩, hc⟩ := h.2.2 k xs[k] (List.getElem?_eq_getElem hlt)
  exact ⟨b, off, A1, n1, c1, xs[k], hA, hb, by simpa using hc 0 _ rfl, hs, List.getElem?_eq_getElem hlt⟩
/-- what is first in a list that is read so far -/
theorem find_first {α : Type} {p : α → Bool} {pre post : List α} {t : α} (h : ∀ x ∈ pre, p x = false) (ht : p t = true) : (pre ++ t :: post).find? p = some t := by
  rw [List.find?_append, List.find?_eq_none.2 (fun x hx => by rw [h x hx]; decide)]
  simp [ht]
/-- the lists of Fewest, up to one -/
def fewU (n k : Nat) : List (List Int) := (List.range k).flatMap fun j => lexL (j + 1) (numbersL n)
theorem fewU_succ (n k : Nat) : fewU n (k + 1) = fewU n k ++ lexL (k + 1) (numbersL n) := by unfold fewU; rw [List.range_succ, List.flatMap_append, List.flatMap_singleton]
theorem fewU_split (n : Nat) {k m : Nat} (h : k < m) : ∃ post, fewU n m = fewU n k ++ lexL (k + 1) (numbersL n) ++ post := by
  induction m with
  | zero => omega
  | succ m ih =>
    rw [fewU_succ]
    by_cases e : k = m
    · subst e; exact ⟨[], by simp⟩
    · obtain ⟨post, hp⟩ := ih (by omega)
      exact ⟨post ++ lexL (m + 1) (numbersL n), by rw [hp, List.append_assoc]⟩
theorem fewest_def (all : List (List Pl)) : fewestL all = (fewU all.length all.length).find? (lackB all) := rfl
theorem few_found {p : List Int → Bool} {n k j : Nat} {t : List Int} (hk : k < n) (h1 : ∀ x ∈ fewU n k, p x = false) (h2 : ∀ x ∈ (lexL (k + 1) (numbersL n)).take j, p x = false) (ht : (lexL (k + 1) (numbersL n))[j]? = some t) (hp : p t = true) : (fewU n n).find? p = some t := by
  obtain ⟨post, e⟩ := fewU_split n hk
  obtain ⟨hj, hj2⟩ := List.getElem?_eq_some_iff.1 ht
  have e2 : lexL (k + 1) (numbersL n) = (lexL (k + 1) (numbersL n)).take j ++ t :: (lexL (k + 1) (numbersL n)).drop (j + 1) := by
    rw [← hj2, List.getElem_cons_drop, List.take_append_drop]
  rw [e, e2, List.append_assoc, List.append_assoc, List.cons_append, ← List.append_assoc]
  refine find_first (fun x hx => ?_) hp
  rcases List.mem_append.1 hx with hx | hx
  · exact h1 x hx
  · exact h2 x hx
theorem listsB_nil (k : Nat) (of : List Int) : listsB [] k of = lexL k of := by unfold listsB; simp
theorem numF_zero (b : Nat) : numF 0 b = numbersL b := rfl
theorem lex_bd {n k : Nat} {t : List Int} (h : t ∈ lexL k (numbersL n)) : t.length = k ∧ ∀ i ∈ t, 0 ≤ i ∧ i < n := ⟨(lex_set h).2, (lex_set h).1.2⟩
/-- the fewest pieces that lack casts, and whether some do, as an answer -/
def FewT (r : Option (List Int)) (e : Ending) (w' : World) : Prop := ∃ D c, e = .returned (.tuple #[.slice D (r.getD []).length c, .bool r.isSome]) ∧ Ints (fun _ => True) w' D (r.getD []).length (r.getD [])

set_option maxHeartbeats 8000000 in
set_option maxRecDepth 100000 in
theorem rfewest7_any {S : Foot} {A : Option Addr} {n c : Nat} {all : List (List Pl)} (w : World) (h : Ords S w A n all) (hn : n ≤ 8) (hl : ∀ l ∈ all, l.length ≤ 40) :
    Calls Tryz.prog 26 #[.slice A n c] w fun e w' => FewT (fewestL all) e w' ∧ Below w.heap.size w w' := by
  have Hn := Lib.hid h.len
  have hnl := h.le
  have HA : Hid (∀ V, Below w.heap.size w V → Ords S V A n all) := fun V hb => h.keep OrdR.good (Keeps.below hb)
  have HL := Lib.hid hl
  have HFD : Hid (fewestL all = (fewU n n).find? (lackB all)) := by rw [Hid, fewest_def, Hn.out]
  clear h hl
  go_enter Tryz.func26, Tryz.ntmps26
  go_wp2_with fail
  go_loopw [4] (fun i wr => ∃ k : Nat, k ≤ n ∧ i = .int .i64 ((k + 1 : Nat) : Int) ∧ Hid (Below w.heap.size w wr) ∧ Hid (∀ x ∈ fewU n k, lackB all x = false)) (fun i _ => n + 1 - (intOf i).toNat)
  case atStart => exact ⟨0, Nat.zero_le _, rfl, Below.refl _ _, fun x hx => by simp [fewU] at hx⟩
  case round =>
    obtain ⟨k, hk, rfl, HB, HN⟩ := hrel
    obtain ⟨k1, hk1⟩ : ∃ k1, k + 1 = k1 := ⟨_, rfl⟩
    have HK := Lib.hid hk1
    rw [hk1]
    by_cases hlt : k < n
    · have hki : (k1 : Int) ≤ n := by omega
      have hk1n : k1 ≤ n := by omega
      clear hk1
      go_wp2_with fail
      refine (rlists7_any k1 (S := fun _ => True) (xs := []) wr (SliceOf.nil _ _ _ _ _) hn (fun y hy => by simp at hy) (by omega)).mono ?_
      rw [fromN_nil, listsB_nil, numF_zero]
      rintro e V1 ⟨⟨R, rc, rfl, hR⟩, c1⟩
      obtain ⟨LL, hLL⟩ : ∃ LL, lexL k1 (numbersL n) = LL := ⟨_, rfl⟩
      have HLL := Lib.hid hLL
      rw [hLL] at hR ⊢
      obtain ⟨q, hq⟩ : ∃ q, LL.length = q := ⟨_, rfl⟩
      rw [hq] at hR ⊢
      have HQ := Lib.hid hq
      have HR : Hid (∀ V, Below V1.heap.size V1 V → Rows7 (fun _ => True) V R q LL) := fun V hb => (hR.keep Rows7.good (Keeps.below hb)).mono Rows7.good (fun _ _ => trivial)
      have HB1 : Hid (Below w.heap.size w V1) := bl_call HB.out c1 (Nat.le_refl _)
      have hql := hR.le
      clear hLL hq hR c1 HB
      go_wp2_with fail
      go_loopw [6] (fun i wr => ∃ j : Nat, j ≤ q ∧ i = .int .i64 j ∧ Hid (Below V1.heap.size V1 wr) ∧ Hid (∀ x ∈ LL.take j, lackB all x = false)) (fun i _ => q - (intOf i).toNat)
      case atStart => exact ⟨0, Nat.zero_le _, rfl, Below.refl _ _, fun x hx => by simp at hx⟩
      case round =>
        obtain ⟨j, hj, rfl, HBj, HNj⟩ := hrel
        by_cases hlj : j < q
        · have hji : (j : Int) < q := by omega
          obtain ⟨bR, oR, A1, n1, c1, t, rfl, _, htc, ht, Ht⟩ := Rows7.get (HR.out wr HBj.out) hlj
          have hbd := lex_bd (show t ∈ lexL k1 (numbersL n) by rw [HLL.out]; exact List.mem_of_getElem? Ht.out)
          have Hn1 := Lib.hid ht.len
          have hn1 : n1 ≤ 8 := by rw [← Hn1.out, hbd.1]; omega
          have HT : Hid (∀ V, Below wr.heap.size wr V → Ints (fun _ => True) V A1 n1 t) := fun V hb => (ht.keep IntR.good (Keeps.below hb)).mono IntR.good (fun _ _ => trivial)
          have HBw : Hid (Below w.heap.size w wr) := bl_call HB1.out HBj.out (Nat.le_refl _)
          have HBD := Lib.hid hbd.2
          clear ht hbd
          go_wp2_with fail
          refine (rlack7_any wr (HA.out wr HBw.out) (HT.out wr (Below.refl _ _)) HBD.out hn1 HL.out).mono ?_
          rintro e V2 ⟨rfl, c2⟩
          have htc2 := getc c2 htc
          obtain ⟨lk, hlk⟩ : ∃ lk, lackB all t = lk := ⟨_, rfl⟩
          rw [hlk]
          cases lk with
          | true =>
            have HFF : Hid (fewestL all = some t) := by
              rw [Hid, HFD.out]
              exact few_found (k := k) (j := j) hlt HN.out (by rw [HK.out, HLL.out]; exact HNj.out) (by rw [HK.out, HLL.out]; exact Ht.out) hlk
            have HT2 : Hid (Ints (fun _ => True) V2 A1 n1 t) := HT.out V2 c2
            have HB2 : Hid (Below w.heap.size w V2) := bl_call HBw.out c2 (Nat.le_refl _)
            clear c2 hlk htc
            go_wp2_with fail
            go_ret2
            refine ⟨?_, HB2.out⟩
            rw [HFF.out]
            exact ⟨A1, c1, by simp [Hn1.out], by simpa [Hn1.out] using HT2.out⟩
          | false =>
            have HN2 : Hid (∀ x ∈ LL.take (j + 1), lackB all x = false) := fun x hx => by
              rw [take_snoc_get Ht.out] at hx
              rcases List.mem_append.1 hx with hx | hx
              · exact HNj.out x hx
              · rw [List.mem_singleton] at hx; rw [hx]; exact hlk
            have HB2 : Hid (Below V1.heap.size V1 V2) := bl_call HBj.out c2 (Nat.le_refl _)
            clear c2 hlk htc htc2
            go_wp2_with fail
            go_roundw
            case rel => exact ⟨j + 1, by omega, by go_num, HB2.out, HN2.out⟩
            case measure => simp [intOf]; omega
        · obtain rfl : j = q := by omega
          have hji : ¬ (j : Int) < j := by omega
          have HN2 : Hid (∀ x ∈ fewU n (k + 1), lackB all x = false) := fun x hx => by
            rw [fewU_succ, HK.out, HLL.out] at hx
            rcases List.mem_append.1 hx with hx | hx
            · exact HN.out x hx
            · exact HNj.out x (by rw [List.take_of_length_le (by rw [HQ.out]; exact Nat.le_refl _)]; exact hx)
          have HB2 : Hid (Below w.heap.size w wr) := bl_call HB1.out HBj.out (Nat.le_refl _)
          have hw1 : IntKind.i64.wrap ((k1 : Int) + 1) = (k1 : Int) + 1 := by rw [IntKind.wrap_i64]; omega
          go_wp2_with fail
          go_roundw
          case rel => exact ⟨k + 1, by omega, by rw [HK.out]; go_num, HB2.out, HN2.out⟩
          case measure => simp [intOf]; omega
    · obtain rfl : k = n := by omega
      have hki : ¬ (k1 : Int) ≤ k := by omega
      have HFF : Hid (fewestL all = none) := by rw [Hid, HFD.out]; exact List.find?_eq_none.2 fun x hx => by rw [HN.out x hx]; decide
      clear hk1
      go_wp2_with fail
      go_ret2
      refine ⟨?_, HB.out⟩
      rw [HFF.out]
      exact ⟨none, 0, rfl, SliceOf.nil _ _ _ _ _⟩
end Go.Proofs.YtpdldmichpmgmaaGreat
