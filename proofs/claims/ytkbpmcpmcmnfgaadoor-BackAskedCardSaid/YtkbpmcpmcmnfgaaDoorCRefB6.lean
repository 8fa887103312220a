/- Walks: the reference of layer 12: Explains. -/
import Derived.Test.YtkbpmcpmcmnfgaaDoorCRefB5
set_option linter.unusedVariables false
set_option linter.unusedSimpArgs false
set_option linter.all false
namespace Go.Proofs.YtkbpmcpmcmnfgaaDoor
open Go.RowKit

set_option maxRecDepth 100000 in
set_option maxHeartbeats 4000000 in
theorem explains_any {A B C : Option Addr} {n ca m cb q cc : Nat} {c : Claim} {S : Foot} (w : World) (h : ClaimAt S w A n B m C q c) (hok : OkC c) :
    Calls Tryd.prog 50 #[.agg #[.slice A n ca, .slice B m cb, .slice C q cc]] w fun e w' => ∃ A' n' c', e = .returned (.slice A' n' c') ∧ Rows (fun _ => True) w' A' n' (explainsL c) ∧ Below w.heap.size w w' := by
  obtain ⟨i1, hi1, hy0, hy1, hy2⟩ := info_parts infoInts
  have hm5 : m ≤ 5 := by rw [← h.cs.len]; exact hok.nc
  have Hm := Lib.hid h.cs.len
  go_enter Tryd.func50, Tryd.ntmps50
  go_wp2_with fail
  refine (agree_any _ (h.keep (Keeps.alloc _ _)) hok).mono ?_
  rintro e wa ⟨At, nt, ct, rfl, hT, hBa⟩
  have hx1 : wa.cell? ⟨w.heap.size, 1, none⟩ = some (.slice B m cb) := getc hBa (newc rfl rfl)
  have hBwa : Below w.heap.size w wa := bl_call (bl_alloc (Below.refl _ _) _ (Nat.le_refl _)) hBa (Nat.le_refl _)
  have hwlt : w.heap.size < wa.heap.size := by have := hBa.size; simp at this; omega
  have hntl : nt ≤ 32768 := by rw [← hT.len]; exact Nat.le_trans (List.length_filter_le _ _) (allT_len hok).1
  have Hnt := Lib.hid hT.len
  have hTb := hT.bound (SlR.good IntR.good)
  clear hBa h hT
  go_wp2
  go_loopw [4, 5] (fun v i wr => ∃ (p nm cm : Nat) (Am : Option Addr) (out : List (List Int)), p ≤ m + 1 ∧ i = .int .i64 p ∧ v = .slice Am nm cm ∧ nm ≤ p * 32 ∧ Hid (out.length = nm) ∧ OwnV (SlR IntR 1) 1 wr wa.heap.size 34 (.slice Am nm cm) out ∧ Below wa.heap.size wa wr ∧ Hid (out = (List.range p).flatMap fun many => (listsL m many 0).filter (isSet (agreeL c)))) (fun _ i _ => (m + 1 - intOf i).toNat)
  case atStart => exact ⟨0, 0, 0, none, [], Nat.zero_le _, rfl, rfl, Nat.zero_le _, rfl, OwnV.nil _ _ _ _ _, Below.refl _ _, rfl⟩
  case round =>
    obtain ⟨p, nm, cm, Am, out, hp, rfl, rfl, hnm, Hml, hM, hB, Hf⟩ := hrel
    have hx1r := getc hB hx1
    by_cases hlt : p ≤ m
    · have hpi : (p : Int) ≤ m := by omega
      have Hstep : Hid ((List.range (p + 1)).flatMap (fun many => (listsL m many 0).filter (isSet (agreeL c))) = out ++ (listsL m p 0).filter (isSet (agreeL c))) := by
        rw [Hid, Hf.out, List.range_succ, List.flatMap_append]
        simp only [List.flatMap_cons, List.flatMap_nil, List.append_nil]
      have hnm5 : nm ≤ 160 := by omega
      have HMb := Lib.hid (OwnL.block hM)
      obtain ⟨wb, hwb⟩ : ∃ wb : Nat, wb = wr.heap.size := ⟨_, rfl⟩
      have Hwb := Lib.hid hwb
      clear hwb
      go_wp2_with (go_at_call 82; refine (lists_any m hm5 p (by omega) 0 _ _ _ rfl rfl (Nat.zero_le _)).mono ?_; rintro e wc ⟨Ar, nr, cr, rfl, hR, hBc⟩)
      have hR2 : Rows (fun k => wb ≤ k ∧ k < wc.heap.size) wc Ar nr (listsL m p 0) := by rw [Hwb.out]; exact hR.bound (SlR.good IntR.good)
      have hwbc : wb ≤ wc.heap.size := by rw [Hwb.out]; exact hBc.size
      have hMb0 : Hid (∀ k, (Value.slice Am nm cm).ownBlock = some k → k < wb ∨ wc.heap.size ≤ k) := fun k hk => .inl (by rw [Hwb.out]; exact (HMb.out k hk).2)
      have hMc := OwnV.below (SlR.good IntR.good) hM hBc
      have hBn := bl_call hB hBc (Nat.le_refl _)
      have hsm := listsL_small m (by omega) p (by omega) 0 (by omega)
      have hnr : nr ≤ 32 := by rw [← hR.len]; exact hsm.1
      have Hnr := Lib.hid hR.len
      clear hM hB hBc hsm hR hx1r
      obtain ⟨wo, rfl⟩ : ∃ wo : World, wo = wr := ⟨_, rfl⟩
      go_loopw [4, 7] (fun v i wr' => ∃ (j nm' cm' : Nat) (Am' : Option Addr) (more : List (List Int)), j ≤ nr ∧ i = .int .i64 j ∧ v = .slice Am' nm' cm' ∧ nm' ≤ nm + j ∧ Hid (more.length = nm') ∧ OwnV (SlR IntR 1) 1 wr' wa.heap.size 34 (.slice Am' nm' cm') more ∧ Below wa.heap.size wa wr' ∧ Keeps (fun k => wb ≤ k ∧ k < wc.heap.size) wc wr' ∧ Hid (∀ k, (Value.slice Am' nm' cm').ownBlock = some k → k < wb ∨ wc.heap.size ≤ k) ∧ Hid (more = out ++ ((listsL m p 0).take j).filter (isSet (agreeL c)))) (fun _ i _ => nr - (intOf i).toNat)
      case atStart => exact ⟨0, nm, cm, Am, out, Nat.zero_le _, rfl, rfl, by omega, Hml, hMc, hBn, Keeps.refl _ _, hMb0, by rw [Hid]; simp⟩
      case round =>
        obtain ⟨j, nm', cm', Am', more, hj, rfl, rfl, hnm', Hml', hM, hB4, hB5, hMb1, Hmf⟩ := hrel
        by_cases hlt2 : j < nr
        · have hRr := hR2.keep (SlR.good IntR.good) hB5
          obtain ⟨bo, oo, u, Au, nu, cu, rfl, hco, hU, Hou⟩ := Rows.get hRr hlt2
          have hbo := World.block_lt_of_cell? wr _ hco
          dsimp only at hbo
          have Hstep2 := Lib.hid (filter_take_succ Hou.out (isSet (agreeL c)))
          have hTr := hTb.keep (SlR.good IntR.good) (Keeps.below hB4)
          obtain ⟨wq, hwq⟩ : ∃ wq : World, wq = wr := ⟨_, rfl⟩
          have Hwq := Lib.hid hwq
          clear hwq
          go_wp2
          obtain ⟨wo2, rfl⟩ : ∃ wo2 : World, wo2 = wr := ⟨_, rfl⟩
          go_loopw [8, 9] (fun v i wr' => ∃ (k : Nat) (b : Bool), k ≤ nt ∧ i = .int .i64 k ∧ v = .bool b ∧ Below wo2.heap.size wo2 wr' ∧ Hid (b = isSet ((agreeL c).take k) u)) (fun v i _ => nt - (intOf i).toNat)
          case atStart => exact ⟨0, false, Nat.zero_le _, rfl, rfl, Below.refl _ _, rfl⟩
          case round =>
            obtain ⟨k, b, hk, rfl, rfl, hB6, Hb⟩ := hrel
            have hco2 := getc hB6 hco
            have hU2 := hU.keep IntR.good (Keeps.below hB6)
            have hbo2 := World.block_lt_of_cell? wr _ hco2
            dsimp only at hbo2
            cases b with
            | true =>
              have hall : Hid (isSet (agreeL c) u = true) := isSet_take Hb.out.symm
              have Hs : Hid (more ++ [u] = out ++ ((listsL m p 0).take (j + 1)).filter (isSet (agreeL c))) := by rw [Hid, Hstep2.out, if_pos hall.out, ← List.append_assoc, ← Hmf.out]
              have hMw := OwnV.below (SlR.good IntR.good) hM hB6
              have hMbk := OwnL.block hM
              have hB8 := bl_call hB4 hB6 (Nat.le_refl _)
              have hsz8 := hB8.size
              have hsz9 := hB6.size
              have hsz7 := hB5.size
              clear hM hB4 hRr hTr hco hU
              rcases Nat.lt_or_ge k nt with hkk | hkk
              all_goals
                go_wp2_with (at_builtin; refine wpList_append_v _ rfl _ _ _ rfl (SlR.good IntR.good) wa.heap.size 34 i1 _ 24 Tryd.underlying30 hi1 hy0 hy1 hy2 rfl (by omega) _ more u nm' Hml'.out rfl (OwnV.below (SlR.good IntR.good) hMw (bl_alloc (Below.refl _ _) _ (Nat.le_refl _))) ⟨_, 0, none⟩ 1 [.slice Au nu cu] rfl ⟨_, _, _, rfl, (hU2.keep IntR.good (Keeps.alloc _ _)).mono IntR.good (fun g hg e => by rcases hMb1.out g e with h | h <;> omega)⟩ (news_new rfl rfl) (by simp only [maxLen]; omega) (by omega) (by first | omega | (simp; omega)) ?_)
                intro A3 cap3 w3 hM3 hg3 hat3
                have hB9 : Below wa.heap.size wa w3 := bl_grown (bl_alloc hB8 _ (Nat.le_refl _)) (OwnV.below (SlR.good IntR.good) hMw (bl_alloc (Below.refl _ _) _ (Nat.le_refl _))) hg3 (Nat.le_refl _) (Nat.le_refl _)
                have hB7 : Keeps (fun k => wb ≤ k ∧ k < wc.heap.size) wc w3 := by
                  refine ((hB5.trans (Keeps.below hB6)).trans (Keeps.alloc _ _)).trans (Keeps.grown hg3 fun k hk hc => ?_)
                  rcases hMb1.out k hk with h | h <;> omega
                have hMb2 : Hid (∀ k, (Value.slice (some ⟨A3, 0, none⟩) (nm' + 1) cap3).ownBlock = some k → k < wb ∨ wc.heap.size ≤ k) := by
                  intro k hk
                  have e : A3 = k := by simpa [Value.ownBlock] using hk
                  subst e
                  rcases hat3 with e | e
                  · exact hMb1.out _ e
                  · right; first | omega | (rw [e]; simp; omega)
                clear hg3 hat3 hMw hU2 hB5 hB6 hB8
                go_wp2
                go_roundw
                case rel => exact ⟨j + 1, nm' + 1, cap3, _, _, by omega, by go_num, rfl, by omega, by rw [Hid, List.length_append, Hml'.out]; rfl, hM3, hB9, hB7, hMb2, Hs⟩
                case measure => simp [intOf]; omega
            | false =>
              by_cases hlt3 : k < nt
              · obtain ⟨bt, ot, t, Av, nv, cv, rfl, hct, hV, Hot⟩ := Rows.get (hTr.keep (SlR.good IntR.good) (Keeps.below hB6)) hlt3
                have hmem : t ∈ allT c.causes := (List.mem_filter.1 (List.mem_of_getElem? Hot.out)).1
                have hnv : nv ≤ 1000000 := by rw [← hV.len, (allT_ok hok hmem).1]; have := hok.nc; omega
                have Hs : Hid (decide (setL t = u) = isSet ((agreeL c).take (k + 1)) u) := by
                  rw [Hid, take_snoc_get Hot.out, isSet_snoc, ← Hb.out, Bool.false_or]
                have hbt := World.block_lt_of_cell? wr _ hct
                dsimp only at hbt
                clear hmem
                go_wp2
                go_region_held3 (fun w' => w'.cell? ⟨bt, ot + k, none⟩ = some (.slice Av nv cv) ∧ w'.cell? ⟨bo, oo + j, none⟩ = some (.slice Au nu cu))
                  (first | exact ⟨hct, hco2⟩ | exact ⟨getc hb1 hct, getc hb1 hco2⟩ | exact ⟨getc (bl_drewN hb1 _) hct, getc (bl_drewN hb1 _) hco2⟩)
                  (first | (go_at_call 40; refine (set_any _ (hV.keep IntR.good (Keeps.drew _)) hnv).mono ?_; rintro e w1 ⟨A1, n1, c1, rfl, hW, hb1⟩) | (go_at_call 22; refine (ints_any _ hW ((hU2.keep IntR.good (Keeps.drew _)).keep IntR.good (Keeps.below hb1))).mono ?_; rintro e w2 ⟨rfl, q1, rfl⟩))
                rename_i hHeld
                clear hHeld
                have hB7 := bl_drewN (bl_call hB6.drew hb1 (Nat.le_refl _)) q1
                clear hb1 hB6 hW hV hct hco2 hU2 hTr hM hRr
                go_wp2
                go_roundw
                case rel => exact ⟨k + 1, _, by omega, by go_num, rfl, hB7, Hs⟩
                case measure => simp [intOf]; omega
              · obtain rfl : k = nt := by omega
                have hall : Hid (isSet (agreeL c) u = false) := by have := Hb.out; rw [List.take_of_length_le (by rw [Hnt.out]; exact Nat.le_refl _)] at this; exact this.symm
                have Hs : Hid (more = out ++ ((listsL m p 0).take (j + 1)).filter (isSet (agreeL c))) := by rw [Hid, Hstep2.out, if_neg (by rw [hall.out]; decide), List.append_nil, ← Hmf.out]
                have hMw := OwnV.below (SlR.good IntR.good) hM hB6
                have hB8 := bl_call hB4 hB6 (Nat.le_refl _)
                have hB7 := hB5.trans (Keeps.below hB6)
                clear hM hB4 hB5 hB6 hRr hTr hco hU hco2 hU2
                go_wp2
                go_roundw
                case rel => exact ⟨j + 1, nm', cm', _, _, by omega, by go_num, rfl, by omega, Hml', hMw, hB8, hB7, hMb1, Hs⟩
                case measure => simp [intOf]; omega
        · obtain rfl : j = nr := by omega
          have Hs : Hid (more = (List.range (p + 1)).flatMap fun many => (listsL m many 0).filter (isSet (agreeL c))) := by rw [Hid, Hstep.out, Hmf.out, List.take_of_length_le (by rw [Hnr.out]; exact Nat.le_refl _)]
          go_wp2
          go_roundw
          case rel => exact ⟨p + 1, nm', cm', Am', more, by omega, by go_num, rfl, by omega, Hml', hM, hB4, Hs⟩
          case measure => simp [intOf]; omega
    · obtain rfl : p = m + 1 := by omega
      have hpi : ¬ ((m + 1 : Nat) : Int) ≤ m := by omega
      have hpi' : ¬ (m : Int) + 1 ≤ m := by omega
      have hfin : Hid (explainsL c = out) := by rw [Hid, Hf.out, explainsL, Hm.out]
      go_wp2
      go_ret
      refine ⟨Am, nm, ⟨cm, rfl⟩, ?_, bl_call hBwa hB (Nat.le_refl _)⟩
      rw [hfin.out]
      exact OwnV.slice (SlR.good IntR.good) hM rfl (by simp only [maxLen]; omega) (fun _ => trivial)
end Go.Proofs.YtkbpmcpmcmnfgaaDoor
