/- Walks, layer 7, the reference: Only, the casts that fit each piece, of some moulds, but for some casts. -/
import Derived.Test.YtpdldmichpmgmaaGreatCCastSomes
import Derived.Test.YtpdldmichpmgmaaGreatCKOuts
import Derived.Test.YtpdldmichpmgmaaGreatCKRefN
set_option linter.unusedVariables false
set_option linter.unusedSimpArgs false
set_option linter.all false
namespace Go.Proofs.YtpdldmichpmgmaaGreat
open Go.RowKit Go.Shelf

def onlyP (set : List Int) (but : List Pl) (a : Pl) : Bool := hasN set a.1 && !but.contains a
theorem onlyL_def (all : List (List Pl)) (set : List Int) (but : List Pl) : onlyL all set but = all.map fun l => l.filter (onlyP set but) := rfl
theorem onlyL_snoc {all : List (List Pl)} {set : List Int} {but : List Pl} {k : Nat} {l : List Pl} (h : all[k]? = some l) : (onlyL all set but).take (k + 1) = (onlyL all set but).take k ++ [l.filter (onlyP set but)] :=
  take_snoc_get (by rw [onlyL_def, List.getElem?_map, h]; rfl)
theorem onlyL_len (all : List (List Pl)) (set : List Int) (but : List Pl) : (onlyL all set but).length = all.length := by rw [onlyL_def, List.length_map]
theorem filt_snoc {f : Pl → Bool} {l : List Pl} {k : Nat} {a : Pl} (h : l[k]? = some a) : (l.take (k + 1)).filter f = if f a then (l.take k).filter f ++ [a] else (l.take k).filter f := by
  rw [take_snoc_get h, List.filter_append]
  split <;> rename_i e <;> simp [e]
theorem onlyP_of {set : List Int} {but : List Pl} {a : Pl} : onlyP set but a = (decide ((a.1 : Int) ∈ set) && !decide (a ∈ but)) := by unfold onlyP hasN; rw [List.contains_eq_mem]

set_option maxHeartbeats 8000000 in
set_option maxRecDepth 100000 in
theorem ronly7_any {S T U : Foot} {A B C : Option Addr} {n c m d q e0 : Nat} {all : List (List Pl)} {set : List Int} {but : List Pl} (w : World) (h : Ords S w A n all) (g : Ints T w B m set) (gb : Pls U w C q but) (hn : n ≤ 8) (hl : ∀ l ∈ all, l.length ≤ 40) :
    Calls Tryz.prog 27 #[.slice A n c, .slice B m d, .slice C q e0] w fun e w' => (∃ A' c', e = .returned (.slice A' n c') ∧ Ords (fun k => w.heap.size ≤ k) w' A' n (onlyL all set but) ∧ n ≤ c') ∧ Below w.heap.size w w' := by
  obtain ⟨i0, hi0, hz0, hz1, hz2⟩ := info_parts infoPl7
  obtain ⟨i1, hi1, hy0, hy1, hy2⟩ := info_parts infoPls7
  have Hn := Lib.hid h.len
  have hnl := h.le
  have HA : Hid (∀ V, Below w.heap.size w V → Ords S V A n all) := fun V hb => h.keep OrdR.good (Keeps.below hb)
  have HM : Hid (∀ V, Below w.heap.size w V → Ints T V B m set) := fun V hb => g.keep IntR.good (Keeps.below hb)
  have HC : Hid (∀ V, Below w.heap.size w V → Pls U V C q but) := fun V hb => gb.keep PlR.good (Keeps.below hb)
  have HL := Lib.hid hl
  have HOL : Hid ((onlyL all set but).length = n) := by rw [Hid, onlyL_len]; exact Hn.out
  clear h g gb hl
  go_enter Tryz.func27, Tryz.ntmps27
  go_wp2_with fail
  go_loopw [7, 8] (fun o i wr => ∃ (r cap : Nat) (An : Option Addr), r ≤ n ∧ i = .int .i64 r ∧ o = .slice An r cap ∧ Hid (Below w.heap.size w wr) ∧ Hid (OwnT (fun k => w.heap.size ≤ k) OrdR 1 wr w.heap.size 29 (.slice An r cap) ((onlyL all set but).take r))) (fun _ i _ => n - (intOf i).toNat)
  case atStart => exact ⟨0, 0, none, Nat.zero_le _, rfl, rfl, Below.refl _ _, by rw [List.take_zero]; exact OwnT.nil _ _ _ _ _ _⟩
  case round =>
    obtain ⟨r, cap, An, hr, rfl, rfl, HB, HO⟩ := hrel
    by_cases hlt : r < n
    · have hri : (r : Int) < n := by omega
      obtain ⟨bA, oA, A1, n1, c1, L, rfl, _, hLc, hL, HxL⟩ := Ords.get (HA.out w (Below.refl _ _)) hlt
      have HL1 : Hid (L.length = n1) := hL.len
      have hn40 : n1 ≤ 40 := by rw [← HL1.out]; exact HL.out L (List.mem_of_getElem? HxL.out)
      have HLs : Hid (∀ V, Below w.heap.size w V → Pls S V A1 n1 L) := fun V hb => hL.keep PlR.good (Keeps.below hb)
      have HLc : Hid (∀ V, Below w.heap.size w V → V.cell? ⟨bA, oA + r, none⟩ = some (.slice A1 n1 c1)) := fun V hb => getc hb hLc
      have HSN := Lib.hid (onlyL_snoc (set := set) (but := but) HxL.out)
      have hTL : ((onlyL all set but).take r).length = r := by rw [List.length_take, HOL.out]; omega
      have HTL := Lib.hid hTL
      obtain ⟨W1, hW1⟩ : ∃ V, V = wr := ⟨_, rfl⟩
      subst hW1
      have hOb : ∀ g, (Value.slice An r cap).ownBlock = some g → g < W1.heap.size := fun g hg => (OwnL.block HO.out g hg).2
      have HOb := Lib.hid hOb
      have hwW := HB.out.size
      clear hL hLc hTL hOb
      go_wp2_with fail
      go_loopw [9, 10] (fun o i wr => ∃ (k len cp : Nat) (Al : Option Addr), k ≤ n1 ∧ len ≤ k ∧ i = .int .i64 k ∧ o = .slice Al len cp ∧ Hid (Below W1.heap.size W1 wr) ∧ Hid (OwnL PlR 2 (fun _ => False) wr W1.heap.size 54 (.slice Al len cp) ((L.take k).filter (onlyP set but))) ∧ Hid (((L.take k).filter (onlyP set but)).length = len)) (fun _ i _ => n1 - (intOf i).toNat)
      case atStart => exact ⟨0, 0, 0, none, Nat.zero_le _, Nat.le_refl _, rfl, rfl, Below.refl _ _, OwnL.nil _ _ _ _ _ _, rfl⟩
      case round =>
        obtain ⟨k, len, cp, Al, hk, hlk, rfl, rfl, HBk, HOk, Hlen⟩ := hrel
        have HBw : Hid (Below w.heap.size w wr) := bl_call HB.out HBk.out (Nat.le_refl _)
        have hLc := HLc.out wr HBw.out
        by_cases hlt2 : k < n1
        · have hki : (k : Int) < n1 := by omega
          obtain ⟨b2, o2, ya, yb, rfl, hb2, d0, d1, Hy⟩ := Pls.get (HLs.out wr HBw.out) hlt2
          have HFS := Lib.hid (filt_snoc (f := onlyP set but) Hy.out)
          obtain ⟨K, hK⟩ : ∃ K, (L.take k).filter (onlyP set but) = K := ⟨_, rfl⟩
          rw [hK] at HOk Hlen HFS
          clear hK
          go_wp2_with fail
          refine (has_any (ya : Int) wr (HM.out wr HBw.out)).mono ?_
          rintro e V1 ⟨rfl, rfl⟩
          by_cases h1 : (ya : Int) ∈ set
          · rw [decide_eq_true h1]
            go_wp2_with fail
            refine (has7_any (ya, yb) wr (HC.out wr HBw.out)).mono ?_
            rintro e V1 ⟨rfl, c2⟩
            have HB1 : Hid (Below W1.heap.size W1 V1) := bl_call HBk.out c2 (Nat.le_refl _)
            have HO1 : Hid (OwnL PlR 2 (fun _ => False) V1 W1.heap.size 54 (.slice Al len cp) K) := HOk.out.below PlR.good c2
            have e0 := getc c2 d0
            have e1 := getc c2 d1
            have e2 := getc c2 hLc
            clear c2 d0 d1 HOk HBk hLc
            by_cases h2 : (ya, yb) ∈ but
            · have HF2 : Hid ((L.take (k + 1)).filter (onlyP set but) = K) := by rw [Hid, HFS.out, if_neg (by rw [onlyP_of]; simp [h2])]
              rw [decide_eq_true h2]
              go_wp2_with fail
              go_roundw
              case rel => exact ⟨k + 1, len, cp, Al, by omega, by omega, by go_num, rfl, HB1.out, by rw [HF2.out]; exact HO1.out, by rw [HF2.out]; exact Hlen.out⟩
              case measure => simp [intOf]; omega
            · have HF2 : Hid ((L.take (k + 1)).filter (onlyP set but) = K ++ [(ya, yb)]) := by rw [Hid, HFS.out, if_pos (by rw [onlyP_of]; simp [h1, h2])]
              rw [decide_eq_false h2]
              go_wp2_with (at_builtin; refine wpList_append_n _ rfl (.tmp 48) (.tmp 56) _ rfl PlR.good W1.heap.size 54 i0 _ 16 Tryz.underlying29 hi0 hz0 hz1 hz2 rfl (by omega) _ K (ya, yb) len Hlen.out rfl (HO1.out.alloc PlR.good _) ⟨V1.heap.size, 0, none⟩ 1 [.int .i64 ya, .int .i64 yb] rfl rfl (news_new rfl (by simp)) ?c1 ?c2 ?c3 (fun h => h) ?_)
              case c1 => simp only [maxLen]; omega
              case c2 => omega
              case c3 => have := HB1.out.size; simp; omega
              intro A' cap' w2 hown2 hg2 hat2
              have hB2 : Below W1.heap.size W1 w2 := bl_grown (bl_alloc HB1.out _ (Nat.le_refl _)) (HO1.out.alloc PlR.good _) hg2 (Nat.le_refl _) (Nat.le_refl _)
              have HOW := Lib.hid hown2
              clear hg2 hat2 hown2 e0 e1 e2
              go_wp2
              go_roundw
              case rel => exact ⟨k + 1, len + 1, cap', _, by omega, by omega, by go_num, rfl, hB2, by rw [HF2.out]; exact HOW.out, by rw [Hid, HF2.out, List.length_append, Hlen.out]; rfl⟩
              case measure => simp [intOf]; omega
          · have HF2 : Hid ((L.take (k + 1)).filter (onlyP set but) = K) := by rw [Hid, HFS.out, if_neg (by rw [onlyP_of]; simp [h1])]
            rw [decide_eq_false h1]
            go_wp2_with fail
            go_roundw
            case rel => exact ⟨k + 1, len, cp, Al, by omega, by omega, by go_num, rfl, HBk.out, by rw [HF2.out]; exact HOk.out, by rw [HF2.out]; exact Hlen.out⟩
            case measure => simp [intOf]; omega
        · obtain rfl : k = n1 := by omega
          have hki : ¬ (k : Int) < k := by omega
          have HFL : Hid ((L.take k).filter (onlyP set but) = L.filter (onlyP set but)) := by rw [Hid, List.take_of_length_le (by rw [HL1.out]; exact Nat.le_refl _)]
          rw [HFL.out] at HOk Hlen
          obtain ⟨Y, hY⟩ : ∃ Y, L.filter (onlyP set but) = Y := ⟨_, rfl⟩
          rw [hY] at HOk Hlen HSN
          have hPl : Pls (fun k => W1.heap.size ≤ k) wr Al len Y := HOk.out.slice PlR.good rfl (by simp only [maxLen]; omega) (fun _ h => h.elim) (fun _ h _ => h)
          have HPl := Lib.hid hPl
          have HO2 : Hid (OwnT (fun k => w.heap.size ≤ k) OrdR 1 wr w.heap.size 29 (.slice An r cap) ((onlyL all set but).take r)) := OwnT.below OrdR.good HO.out HBk.out
          clear hY hPl HOk
          go_wp2_with (at_builtin; go_loud (refine wpList_append_t _ rfl (.tmp 58) (.tmp 60) _ rfl (fun k => w.heap.size ≤ k) OrdR.good w.heap.size 29 i1 _ 24 Tryz.underlying63 hi1 hy0 hy1 hy2 rfl (by omega) (.slice An r cap) ((onlyL all set but).take r) Y r HTL.out rfl (OwnT.below OrdR.good HO2.out (bl_alloc (Below.refl _ _) _ (Nat.le_refl _))) ⟨wr.heap.size, 0, none⟩ 1 [.slice Al len cp] rfl ⟨_, _, _, rfl, (HPl.out.keep PlR.good (Keeps.alloc _ _)).mono PlR.good (fun g hg => ⟨by omega, fun e => by have := HOb.out g e; omega⟩)⟩ (news_new rfl rfl) ?c1 ?c2 ?c3 ?_))
          case c1 => simp only [maxLen]; omega
          case c2 => omega
          case c3 => have := HBw.out.size; simp; omega
          intro A' cap' w3 hown2 hg2 hat2
          have HB3 : Hid (Below w.heap.size w w3) := bl_grown (bl_alloc HBw.out _ (Nat.le_refl _)) (OwnT.below OrdR.good HO2.out (bl_alloc (Below.refl _ _) _ (Nat.le_refl _))) hg2 (Nat.le_refl _) (Nat.le_refl _)
          have HO4 : Hid (OwnT (fun k => w.heap.size ≤ k) OrdR 1 w3 w.heap.size 29 (.slice (some ⟨A', 0, none⟩) (r + 1) cap') ((onlyL all set but).take (r + 1))) := by rw [Hid, HSN.out]; exact hown2
          clear hown2 hg2 hat2 hLc
          go_wp2_with fail
          go_roundw
          case rel => exact ⟨r + 1, cap', some ⟨A', 0, none⟩, by omega, by go_num, rfl, HB3.out, HO4.out⟩
          case measure => simp [intOf]; omega
    · obtain rfl : r = n := by omega
      have hri : ¬ (r : Int) < r := by omega
      have hfull : (onlyL all set but).take r = onlyL all set but := List.take_of_length_le (by rw [HOL.out]; exact Nat.le_refl _)
      have hcap := OwnL.cap7 HO.out
      rw [hfull] at HO
      go_wp2_with fail
      go_ret
      exact ⟨⟨An, cap, rfl, OwnT.slice OrdR.good HO.out rfl (by simp only [maxLen]; omega) (fun _ h => h) (fun _ h => h), hcap⟩, HB.out⟩
end Go.Proofs.YtpdldmichpmgmaaGreat
