/- Walks, layer 7, the reference: Chosen, the casts that fit each of some pieces. -/
import Derived.Test.YtpdldmichpmgmaaGreatCCastSomes
import Derived.Test.YtpdldmichpmgmaaGreatCKFews
set_option linter.unusedVariables false
set_option linter.unusedSimpArgs false
set_option linter.all false
namespace Go.Proofs.YtpdldmichpmgmaaGreat
open Go.RowKit Go.Shelf

theorem chosenL_snoc {all : List (List Pl)} {set : List Int} {k : Nat} {x : Nat} {L : List Pl} (hx : set[k]? = some (x : Int)) (hL : all[x]? = some L) : (chosenL all set).take (k + 1) = (chosenL all set).take k ++ [L] :=
  take_snoc_get (by unfold chosenL; rw [List.getElem?_map, hx, Option.map_some, Int.toNat_natCast, getD_of hL])
theorem chosenL_len (all : List (List Pl)) (set : List Int) : (chosenL all set).length = set.length := by unfold chosenL; rw [List.length_map]

set_option maxHeartbeats 8000000 in
set_option maxRecDepth 100000 in
theorem rchosen7_any {S T : Foot} {A B : Option Addr} {n c m d : Nat} {all : List (List Pl)} {set : List Int} (w : World) (h : Ords S w A n all) (g : Ints T w B m set) (hb : ∀ i ∈ set, 0 ≤ i ∧ i < n) (hm : m ≤ 8) (hS : ∀ k, S k → k < w.heap.size) :
    Calls Tryz.prog 38 #[.slice A n c, .slice B m d] w fun e w' => (∃ A' c', e = .returned (.slice A' m c') ∧ Ords (fun _ => True) w' A' m (chosenL all set) ∧ m ≤ c') ∧ Below w.heap.size w w' := by
  obtain ⟨i1, hi1, hy0, hy1, hy2⟩ := info_parts infoPls7
  have Hm := Lib.hid g.len
  have hml := g.le
  have HA : Hid (∀ V, Below w.heap.size w V → Ords S V A n all) := fun V hb => h.keep OrdR.good (Keeps.below hb)
  have HM : Hid (∀ V, Below w.heap.size w V → Ints T V B m set) := fun V hb => g.keep IntR.good (Keeps.below hb)
  have HB0 := Lib.hid hb
  have HOL : Hid ((chosenL all set).length = m) := by rw [Hid, chosenL_len]; exact Hm.out
  have HSS := Lib.hid hS
  clear h g hb hS
  go_enter Tryz.func38, Tryz.ntmps38
  go_wp2_with fail
  go_loopw [5, 6] (fun o i wr => ∃ (r cap : Nat) (An : Option Addr), r ≤ m ∧ i = .int .i64 r ∧ o = .slice An r cap ∧ Hid (Below w.heap.size w wr) ∧ Hid (OwnT S OrdR 1 wr w.heap.size 29 (.slice An r cap) ((chosenL all set).take r))) (fun _ i _ => m - (intOf i).toNat)
  case atStart => exact ⟨0, 0, none, Nat.zero_le _, rfl, rfl, Below.refl _ _, by rw [List.take_zero]; exact OwnT.nil _ _ _ _ _ _⟩
  case round =>
    obtain ⟨r, cap, An, hr, rfl, rfl, HB, HO⟩ := hrel
    by_cases hlt : r < m
    · have hri : (r : Int) < m := by omega
      obtain ⟨bb, ob, x, rfl, hxc, Hx⟩ := Ints.get (HM.out wr HB.out) hlt
      have hx := HB0.out x (List.mem_of_getElem? Hx.out)
      obtain ⟨xi, rfl⟩ : ∃ xi : Nat, x = xi := ⟨x.toNat, by omega⟩
      have hxn : xi < n := by omega
      have hxin : (xi : Int) < n := by omega
      obtain ⟨bA, oA, A1, n1, c1, L, rfl, _, hLc, hL, HxL⟩ := Ords.get (HA.out wr HB.out) hxn
      have HSN := Lib.hid (chosenL_snoc Hx.out HxL.out)
      have hlL : L.length = n1 := hL.len
      have HTL : Hid (((chosenL all set).take r).length = r) := by rw [Hid, List.length_take, HOL.out]; omega
      have hOb : ∀ g, (Value.slice An r cap).ownBlock = some g → w.heap.size ≤ g := fun g hg => (OwnL.block HO.out g hg).1
      have HOb := Lib.hid hOb
      have HL := Lib.hid hL
      clear hOb hL
      go_wp2_with (at_builtin; go_loud (refine wpList_append_t _ rfl (.tmp 13) (.tmp 21) _ rfl S OrdR.good w.heap.size 29 i1 _ 24 Tryz.underlying63 hi1 hy0 hy1 hy2 rfl (by omega) (.slice An r cap) ((chosenL all set).take r) L r HTL.out rfl (OwnT.below OrdR.good HO.out (bl_alloc (Below.refl _ _) _ (Nat.le_refl _))) ⟨wr.heap.size, 0, none⟩ 1 [.slice A1 n1 c1] rfl ⟨_, _, _, rfl, (HL.out.keep PlR.good (Keeps.alloc _ _)).mono PlR.good (fun g hg => ⟨hg, fun e => by have := HOb.out g e; have := HSS.out g hg; omega⟩)⟩ (news_new rfl rfl) ?c1 ?c2 ?c3 ?_))
      case c1 => simp only [maxLen]; omega
      case c2 => omega
      case c3 => have := HB.out.size; simp; omega
      intro A' cap' w3 hown2 hg2 hat2
      have HB3 : Hid (Below w.heap.size w w3) := bl_grown (bl_alloc HB.out _ (Nat.le_refl _)) (OwnT.below OrdR.good HO.out (bl_alloc (Below.refl _ _) _ (Nat.le_refl _))) hg2 (Nat.le_refl _) (Nat.le_refl _)
      have HO4 : Hid (OwnT S OrdR 1 w3 w.heap.size 29 (.slice (some ⟨A', 0, none⟩) (r + 1) cap') ((chosenL all set).take (r + 1))) := by rw [Hid, HSN.out]; exact hown2
      clear hown2 hg2 hat2 hLc hxc
      go_wp2_with fail
      go_roundw
      case rel => exact ⟨r + 1, cap', some ⟨A', 0, none⟩, by omega, by go_num, rfl, HB3.out, HO4.out⟩
      case measure => simp [intOf]; omega
    · obtain rfl : r = m := by omega
      have hri : ¬ (r : Int) < r := by omega
      have hfull : (chosenL all set).take r = chosenL all set := List.take_of_length_le (by rw [HOL.out]; exact Nat.le_refl _)
      have hcap := OwnL.cap7 HO.out
      rw [hfull] at HO
      go_wp2_with fail
      go_ret
      exact ⟨⟨An, cap, rfl, OwnT.slice OrdR.good HO.out rfl (by simp only [maxLen]; omega) (fun _ _ => trivial) (fun _ _ => trivial), hcap⟩, HB.out⟩
end Go.Proofs.YtpdldmichpmgmaaGreat
