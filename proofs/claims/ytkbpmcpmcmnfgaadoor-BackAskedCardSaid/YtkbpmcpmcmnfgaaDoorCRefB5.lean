/- Walks: the reference: Lists, Explains, Sets, Same. -/
import Derived.Test.YtkbpmcpmcmnfgaaDoorCRefB4
set_option linter.unusedVariables false
set_option linter.unusedSimpArgs false
set_option linter.all false
namespace Go.Proofs.YtkbpmcpmcmnfgaaDoor
open Go.RowKit

set_option maxRecDepth 100000 in
set_option maxHeartbeats 4000000 in
theorem lists_any (below : Nat) (hbel : below ≤ 5) : ∀ (m : Nat), m ≤ 5 → ∀ (n : Nat) (ni mi : Int) (w : World), ni = n → mi = m → n ≤ below →
    Calls Tryd.prog 82 #[.int .i64 ni, .int .i64 below, .int .i64 mi] w fun e w' => ∃ A' n' c', e = .returned (.slice A' n' c') ∧ Rows (fun k => w.heap.size ≤ k) w' A' n' (listsL below m n) ∧ Below w.heap.size w w' := by
  intro m
  obtain ⟨i0, hi0, hz0, hz1, hz2⟩ := info_parts infoInt
  obtain ⟨i1, hi1, hy0, hy1, hy2⟩ := info_parts infoInts
  induction m with
  | zero =>
    intro _ n ni mi w hni hmi _
    subst hni
    subst hmi
    go_enter Tryd.func82, Tryd.ntmps82
    go_wp2
    go_ret
    exact ⟨_, _, _, rfl, Rows.one _ _ rfl (Nat.le_refl _), bl_alloc (Below.refl _ _) _ (Nat.le_refl _)⟩
  | succ m ih =>
    intro hm5 s ni mi w0 hni hmi hs6
    subst hni
    have ih' := Lib.hid (ih (by omega))
    clear ih
    have hM0 : (mi == 0) = false := by simp; omega
    have hMp : 1 ≤ mi := by omega
    have hMl : mi ≤ 5 := by omega
    have HM1 : Hid (mi - 1 = m) := by rw [Hid]; omega
    clear hmi
    go_enter Tryd.func82, Tryd.ntmps82
    go_wp2
    go_loopw [7, 8] (fun v i wr => ∃ (q nm cm : Nat) (Am : Option Addr) (out : List (List Int)), s ≤ q ∧ q ≤ below ∧ i = .int .i64 q ∧ v = .slice Am nm cm ∧ nm ≤ (q - s) * 32 ∧ Hid (out.length = nm) ∧ OwnT (fun k => w0.heap.size ≤ k) (SlR IntR 1) 1 wr w0.heap.size 34 (.slice Am nm cm) out ∧ Below w0.heap.size w0 wr ∧ Hid (out = (List.range (q - s)).flatMap fun i => (listsL below m (s + i + 1)).map fun r => ((s + i : Nat) : Int) :: r)) (fun _ i _ => (below - intOf i).toNat)
    case atStart => exact ⟨s, 0, 0, none, [], Nat.le_refl _, hs6, rfl, rfl, by omega, rfl, OwnT.nil _ _ _ _ _ _, Below.refl _ _, by rw [Hid, Nat.sub_self]; rfl⟩
    case round =>
      obtain ⟨q, nm, cm, Am, out, hsq, hq, rfl, rfl, hnm, Hml, hM, hB, Hf⟩ := hrel
      by_cases hlt : q < below
      · have Hstep : Hid ((List.range (q + 1 - s)).flatMap (fun i => (listsL below m (s + i + 1)).map fun r => ((s + i : Nat) : Int) :: r) = out ++ (listsL below m (q + 1)).map fun r => (q : Int) :: r) := by
          rw [Hid, Hf.out, show q + 1 - s = (q - s) + 1 by omega, List.range_succ, List.flatMap_append]
          simp only [List.flatMap_cons, List.flatMap_nil, List.append_nil, show s + (q - s) = q by omega]
        have hnm5 : nm ≤ 160 := by omega
        have HMb := Lib.hid (OwnL.block hM)
        obtain ⟨wb, hwb⟩ : ∃ wb : Nat, wb = wr.heap.size := ⟨_, rfl⟩
        have Hwb := Lib.hid hwb
        clear hwb
        go_wp2_with (go_at_call 82; refine (ih'.out (q + 1) _ _ _ (by omega) HM1.out (by omega)).mono ?_; rintro e wc ⟨Ar, nr, cr, rfl, hR, hBc⟩)
        have hR2 : Rows (fun k => wb ≤ k ∧ k < wc.heap.size) wc Ar nr (listsL below m (q + 1)) := by rw [Hwb.out]; exact hR.bound (SlR.good IntR.good)
        have hwbc : wb ≤ wc.heap.size := by rw [Hwb.out]; exact hBc.size
        have hMb0 : Hid (∀ k, (Value.slice Am nm cm).ownBlock = some k → k < wb ∨ wc.heap.size ≤ k) := fun k hk => .inl (by rw [Hwb.out]; exact (HMb.out k hk).2)
        have hMc := OwnT.below (SlR.good IntR.good) hM hBc
        have hBn := bl_call hB hBc (Nat.le_refl _)
        have hsm := listsL_small below (by omega) m (by omega) (q + 1) (by omega)
        have hnr : nr ≤ 32 := by rw [← hR.len]; exact hsm.1
        have Hshort := Lib.hid hsm.2
        have Hnr := Lib.hid hR.len
        clear hM hB hBc hsm
        obtain ⟨wo, rfl⟩ : ∃ wo : World, wo = wr := ⟨_, rfl⟩
        go_loopw [7, 10] (fun v i wr' => ∃ (j nm' cm' : Nat) (Am' : Option Addr) (more : List (List Int)), j ≤ nr ∧ i = .int .i64 j ∧ v = .slice Am' nm' cm' ∧ nm' ≤ nm + j ∧ Hid (more.length = nm') ∧ OwnT (fun k => w0.heap.size ≤ k) (SlR IntR 1) 1 wr' w0.heap.size 34 (.slice Am' nm' cm') more ∧ Below w0.heap.size w0 wr' ∧ Keeps (fun k => wb ≤ k ∧ k < wc.heap.size) wc wr' ∧ Hid (∀ k, (Value.slice Am' nm' cm').ownBlock = some k → k < wb ∨ wc.heap.size ≤ k) ∧ Hid (more = out ++ ((listsL below m (q + 1)).take j).map fun r => (q : Int) :: r)) (fun _ i _ => nr - (intOf i).toNat)
        case atStart => exact ⟨0, nm, cm, Am, out, Nat.zero_le _, rfl, rfl, by omega, Hml, hMc, hBn, Keeps.refl _ _, hMb0, by rw [Hid]; simp⟩
        case round =>
          obtain ⟨j, nm', cm', Am', more, hj, rfl, rfl, hnm', Hml', hM, hB4, hB5, hMb1, Hmf⟩ := hrel
          by_cases hlt2 : j < nr
          · have hRr := hR2.keep (SlR.good IntR.good) hB5
            obtain ⟨bo, oo, u, Au, nu, cu, rfl, hco, hU, Hou⟩ := Rows.get hRr hlt2
            have hbo := World.block_lt_of_cell? wr _ hco
            dsimp only at hbo
            have Hu := Lib.hid hU.len
            have hnu : nu ≤ 5 := by rw [← hU.len]; exact Hshort.out u (List.mem_of_getElem? Hou.out)
            have hsz5 := hB5.size
            go_wp2_with (at_builtin; refine wpList_append_ints _ rfl (.tmp 34) (.tmp 38) _ rfl wr.heap.size 3 i0 _ 8 Tryd.underlying34 hi0 hz0 hz1 hz2 rfl _ [(q : Int)] 1 rfl rfl (OwnL.lit1 wr wr.heap.size 3 (q : Int) (Nat.le_refl _) rfl) Au nu cu u rfl (hU.keep IntR.good (Keeps.alloc _ _)) ?d1 ?d2 ?d3 ?_)
            case d1 => simp only [maxLen]; omega
            case d2 => omega
            try case d3 => simp
            intro A1 cap1 w1 hO1 hg1 _
            have hBq1 : Below wr.heap.size wr w1 := bl_grown (bl_alloc (Below.refl _ _) _ (Nat.le_refl _)) (OwnL.lit1 wr wr.heap.size 3 (q : Int) (Nat.le_refl _) rfl) hg1 (Nat.le_refl _) (Nat.le_refl _)
            have hI2 : Ints (fun k => wr.heap.size ≤ k) w1 A1 (1 + nu) ([(q : Int)] ++ u) := hO1.slice IntR.good rfl (by simp only [maxLen]; omega) (fun _ h => h.elim) (fun g h1 _ => h1)
            have hM2 := OwnT.below (SlR.good IntR.good) hM hBq1
            have hMb := OwnL.block hM
            clear hg1 hO1
            go_wp2_with (at_builtin; refine wpList_append_t _ rfl (.tmp 32) (.tmp 40) _ rfl (fun k => w0.heap.size ≤ k) (SlR.good IntR.good) w0.heap.size 34 i1 _ 24 Tryd.underlying30 hi1 hy0 hy1 hy2 rfl (by omega) _ more ([(q : Int)] ++ u) nm' Hml'.out rfl (OwnT.below (SlR.good IntR.good) hM2 (bl_alloc (Below.refl _ _) _ (Nat.le_refl _))) ⟨_, 0, none⟩ 1 [.slice A1 (1 + nu) cap1] rfl ⟨_, _, _, rfl, (hI2.keep IntR.good (Keeps.alloc _ _)).mono IntR.good (fun g hg => ⟨by have := hB4.size; omega, fun e => by have := hMb g e; omega⟩)⟩ (news_new rfl rfl) ?f1 ?f2 ?f3 ?_)
            case f1 => simp only [maxLen]; omega
            case f2 => omega
            case f3 => have := hB4.size; have := hBq1.size; simp; omega
            intro A3 cap3 w3 hM3 hg3 hat3
            have hB7 : Keeps (fun k => wb ≤ k ∧ k < wc.heap.size) wc w3 := by
              refine ((hB5.trans (Keeps.below hBq1)).trans (Keeps.alloc _ _)).trans (Keeps.grown hg3 fun k hk hc => ?_)
              rcases hMb1.out k hk with h | h <;> omega
            have hMb2 : Hid (∀ k, (Value.slice (some ⟨A3, 0, none⟩) (nm' + 1) cap3).ownBlock = some k → k < wb ∨ wc.heap.size ≤ k) := by
              intro k hk
              have e : A3 = k := by simpa [Value.ownBlock] using hk
              subst e
              rcases hat3 with e | e
              · exact hMb1.out _ e
              · right; rw [e]; have := hBq1.size; simp; omega
            have hB3 : Below w0.heap.size w0 w3 := bl_grown (bl_alloc (bl_call hB4 hBq1 (Nat.le_refl _)) _ (Nat.le_refl _)) (OwnT.below (SlR.good IntR.good) hM2 (bl_alloc (Below.refl _ _) _ (Nat.le_refl _))) hg3 (Nat.le_refl _) (Nat.le_refl _)
            clear hg3 hat3 hBq1 hM2 hI2 hMb hM hB4 hB5
            go_wp2
            go_roundw
            case rel => exact ⟨j + 1, nm' + 1, cap3, _, _, by omega, by go_num, rfl, by omega, by rw [Hid, List.length_append, Hml'.out]; rfl, hM3, hB3, hB7, hMb2, by rw [Hid, take_snoc_get Hou.out, List.map_append, ← List.append_assoc, ← Hmf.out]; rfl⟩
            case measure => simp [intOf]; omega
          · obtain rfl : j = nr := by omega
            go_wp2
            go_roundw
            case rel => exact ⟨q + 1, nm', cm', Am', more, by omega, by omega, by go_num, rfl, by omega, Hml', hM, hB4, by rw [Hid, Hstep.out, Hmf.out, List.take_of_length_le (by rw [Hnr.out]; exact Nat.le_refl _)]⟩
            case measure => simp [intOf]; omega
      · obtain rfl : q = below := by omega
        go_wp2
        go_ret
        refine ⟨Am, nm, cm, rfl, ?_, hB⟩
        have hS := OwnT.slice (U := fun k => w0.heap.size ≤ k) (SlR.good IntR.good) hM rfl (by simp only [maxLen]; omega) (fun _ h => h) (fun _ h => h)
        rw [Hf.out] at hS
        exact hS
end Go.Proofs.YtkbpmcpmcmnfgaaDoor
