/- Walks: the reference of layer 12: measures that are not true, all truths. -/
import Derived.Deep.RegionHeld3
import Derived.Test.YtkbpmcpmcmnfgaaDoorCRefB2
set_option linter.unusedVariables false
set_option linter.unusedSimpArgs false
set_option linter.all false
namespace Go.Proofs.YtkbpmcpmcmnfgaaDoor
open Go.RowKit

set_option maxHeartbeats 1000000 in
theorem untrue_any {A B C D : Option Addr} {n ca m cb q cc nt ct : Nat} {c : Claim} {t : List Int} {S T : Foot} (w : World) (h : ClaimAt S w A n B m C q c) (hok : OkC c) (ht : Ints T w D nt t) (hT : TruthOk c t) :
    Calls Tryd.prog 74 #[.agg #[.slice A n ca, .slice B m cb, .slice C q cc], .slice D nt ct] w fun e w' => ∃ A' n' c', e = .returned (.slice A' n' c') ∧ Ints (fun k => w.heap.size ≤ k) w' A' n' (untrueL c t) ∧ Below w.heap.size w w' := by
  obtain ⟨i0, hi0, hz0, hz1, hz2⟩ := info_parts infoInt
  have hq8 : q ≤ 8 := by rw [← h.ms.len]; exact hok.nm
  have hn5 : n ≤ 5 := by rw [← h.fs.len]; exact hok.nf.2
  have Hq := Lib.hid h.ms.len
  have Hn := Lib.hid h.fs.len
  obtain ⟨W, hW⟩ : ∃ W, w.alloc (.cells #[.slice A n ca, .slice B m cb, .slice C q cc] 26) = W := ⟨_, rfl⟩
  have hx0 : W.cell? ⟨w.heap.size, 0, none⟩ = some (.slice A n ca) := by rw [← hW]; exact newc rfl rfl
  have hx1 : W.cell? ⟨w.heap.size, 1, none⟩ = some (.slice B m cb) := by rw [← hW]; exact newc rfl rfl
  have hx2 : W.cell? ⟨w.heap.size, 2, none⟩ = some (.slice C q cc) := by rw [← hW]; exact newc rfl rfl
  have hc : ClaimAt S W A n B m C q c := by rw [← hW]; exact h.keep (Keeps.alloc _ _)
  have ht' : Ints T W D nt t := by rw [← hW]; exact ht.keep IntR.good (Keeps.alloc _ _)
  have hBW : Below w.heap.size w W := by rw [← hW]; exact bl_alloc (Below.refl _ _) _ (Nat.le_refl _)
  have hWs : W.heap.size = w.heap.size + 1 := by rw [← hW]; simp
  have HW := Lib.hid hW
  have HWs := Lib.hid hWs
  clear hW hWs h ht
  go_enter Tryd.func74, Tryd.ntmps74
  go_wp2
  rw [HW.out]
  go_loopw [5, 6] (fun v i wr => ∃ (k n' cap : Nat) (A' : Option Addr) (l : List Int), k ≤ q ∧ i = .int .i64 k ∧ v = .slice A' n' cap ∧ n' ≤ k ∧ Hid (l.length = n') ∧ OwnL IntR 1 (fun _ => False) wr W.heap.size 3 (.slice A' n' cap) l ∧ Below W.heap.size W wr ∧ Hid (l = ((List.range k).filter fun i => !measOk c t (c.meas.getD i dMeas)).map fun i : Nat => (i : Int))) (fun _ i _ => q - (intOf i).toNat)
  case atStart => exact ⟨0, 0, 0, none, [], Nat.zero_le _, rfl, rfl, Nat.le_refl _, rfl, OwnL.nil _ _ _ _ _ _, Below.refl _ _, rfl⟩
  case round =>
    obtain ⟨k, n', cap, A', l, hk, rfl, rfl, hn', Hl, hO, hB, Hf⟩ := hrel
    have hy0 := getc hB hx0
    have hy1 := getc hB hx1
    have hy2 := getc hB hx2
    have hcr := hc.keep (Keeps.below hB)
    have htr := ht'.keep IntR.good (Keeps.below hB)
    have hlt0 : w.heap.size < wr.heap.size := by have := hB.size; rw [HWs.out] at this; omega
    by_cases hlt : k < q
    · obtain ⟨b, off, a, z, rfl, hbb, hc0, hc1, Hx⟩ := hcr.ms.get hlt
      obtain ⟨ha0, ha1, hz0', hz1'⟩ := hok.meas Hx.out
      dsimp only at ha0 ha1 hz0' hz1'
      obtain ⟨f, rfl⟩ := Int.eq_ofNat_of_zero_le ha0
      have hfn : f < c.feats.length := by omega
      have hfn' : f < n := by rw [← Hn.out]; exact hfn
      have hfi : (f : Int) < n := by omega
      obtain ⟨bf, of, sf, nom, er, hAe, hbf, hcf0, hcf1, hcf2, _, HF⟩ := hcr.fs.get hfn'
      have HA := Lib.hid hAe
      clear hAe
      subst HA
      obtain ⟨_, _, he0, he1⟩ := hok.feat HF.out
      dsimp only at he0 he1
      obtain ⟨hlb, hub⟩ := len_bd hok hT hfn
      have Hm : Hid (measOk c t (c.meas.getD k dMeas) = inB z (len c t f - er) (len c t f + er)) := by
        rw [Hid, getD_of Hx.out]; unfold measOk; simp only [Int.toNat_natCast]; rw [getD_of HF.out]
      clear ha1
      generalize hL : len c t f = L at Hm hlb hub
      have HL := Lib.hid hL
      clear hL
      have hm0 : (wr.alloc (.cells #[.int .i64 f, .int .i64 z] 62)).cell? ⟨wr.heap.size, 0, none⟩ = some (.int .i64 f) := newc rfl rfl
      have hm1 : (wr.alloc (.cells #[.int .i64 f, .int .i64 z] 62)).cell? ⟨wr.heap.size, 1, none⟩ = some (.int .i64 z) := newc rfl rfl
      go_wp2
      go_region_held3 (fun w' => w'.cell? ⟨w.heap.size, 0, none⟩ = some (.slice (some ⟨bf, of, none⟩) n ca) ∧ w'.cell? ⟨w.heap.size, 1, none⟩ = some (.slice B m cb) ∧ w'.cell? ⟨w.heap.size, 2, none⟩ = some (.slice (some ⟨b, off, none⟩) q cc) ∧ w'.cell? ⟨wr.heap.size, 0, none⟩ = some (.int .i64 f) ∧ w'.cell? ⟨bf, of + f * 3 + 2, none⟩ = some (.int .i64 er))
        (first | exact ⟨oldc hy0, oldc hy1, oldc hy2, newc rfl rfl, oldc hcf2⟩ | exact ⟨getc hb1 (oldc hy0), getc hb1 (oldc hy1), getc hb1 (oldc hy2), getc hb1 (newc rfl rfl), getc hb1 (oldc hcf2)⟩)
        (first | (go_at_call 43; refine (length_any f _ ((hcr.keep (Keeps.alloc _ _)).keep (Keeps.drew _)) hok ((htr.keep IntR.good (Keeps.alloc _ _)).keep IntR.good (Keeps.drew _)) hT hfn).mono ?_; rintro e w1 ⟨rfl, hb1⟩; rw [HL.out]))
      have hm1' := getc hb1 hm1
      have hB2 : Below W.heap.size W w1 := bl_call (bl_alloc hB _ (Nat.le_refl _)).drew hb1 (Nat.le_refl _)
      have hO2 : OwnL IntR 1 (fun _ => False) w1 W.heap.size 3 (.slice A' n' cap) l := ((hO.alloc IntR.good _).keep IntR.good (Keeps.drew _)).below IntR.good hb1
      rename_i hHeld
      clear hHeld hb1 hm0 hm1 hO hB hc hcr hy0 hy1 hy2 hc0 hc1 hcf0 hcf1 hcf2 htr
      cases hin : inB z (L - er) (L + er)
      · have Hs : Hid (l ++ [(k : Int)] = ((List.range (k + 1)).filter fun i => !measOk c t (c.meas.getD i dMeas)).map fun i : Nat => (i : Int)) := by
          rw [Hid, range_filter_succ, ← Hf.out, if_pos (by rw [Hm.out, hin]; rfl)]
        go_wp2_with (first
          | (go_at_call 58; refine (in12_any _ _ _ _).mono ?_; rintro e w' ⟨rfl, rfl⟩)
          | (at_builtin; refine wpList_append_n _ rfl _ _ _ rfl IntR.good W.heap.size 3 i0 _ 8 Tryd.underlying34 hi0 hz0 hz1 hz2 rfl (by omega) _ l (k : Int) n' Hl.out rfl (hO2.alloc IntR.good _) ⟨_, 0, none⟩ 1 [.int .i64 k] rfl rfl (news_new rfl rfl) ?c1 ?c2 ?c3 (fun h => h) ?_))
        case c1 => simp only [maxLen]; omega
        case c2 => omega
        case c3 => have := hB2.size; simp; omega
        intro A2 cap2 w2 hO3 hg2 _
        have hB3 : Below W.heap.size W w2 := bl_grown (bl_alloc hB2 _ (Nat.le_refl _)) (hO2.alloc IntR.good _) hg2 (Nat.le_refl _) (Nat.le_refl _)
        clear hg2 hO2 hB2
        go_wp2
        go_roundw
        case rel => exact ⟨k + 1, n' + 1, cap2, _, _, by omega, by go_num, rfl, by omega, by rw [Hid, List.length_append, Hl.out]; rfl, hO3, hB3, Hs⟩
        case measure => simp [intOf]; omega
      · have Hs : Hid (l = ((List.range (k + 1)).filter fun i => !measOk c t (c.meas.getD i dMeas)).map fun i : Nat => (i : Int)) := by
          rw [Hid, range_filter_succ, ← Hf.out, if_neg (by rw [Hm.out, hin]; decide), List.append_nil]
        go_wp2_with (go_at_call 58; refine (in12_any _ _ _ _).mono ?_; rintro e w' ⟨rfl, rfl⟩)
        go_roundw
        case rel => exact ⟨k + 1, n', cap, _, _, by omega, by go_num, rfl, by omega, Hl, hO2, hB2, Hs⟩
        case measure => simp [intOf]; omega
    · obtain rfl : k = q := by omega
      go_wp2
      go_ret
      refine ⟨A', n', cap, rfl, ?_, hBW.trans (hB.mono (by rw [HWs.out]; omega))⟩
      have hS := hO.slice (T := fun k => w.heap.size ≤ k) IntR.good rfl (by simp only [maxLen]; omega) (fun _ h => h.elim) (fun _ h _ => by rw [HWs.out] at h; omega)
      rw [Hf.out, ← Hq.out] at hS
      exact hS

theorem infoInts : (Tryd.prog.info? 34).map (fun i => (i.zero, i.size, i.bytes)) = some (some (.slice none 0 0), 1, 24) := by kernel_rfl

theorem Rows.one {S : Foot} (W : World) (t : TypeId) {g : Nat} (hg : g = W.heap.size) (hS : S g) : Rows S (W.alloc (.cells #[.slice none 0 0] t)) (some ⟨g, 0, none⟩) 1 [[]] := by
  subst hg
  refine ⟨rfl, by decide, fun k x hx => ?_⟩
  cases k with
  | zero =>
    simp at hx; subst hx
    refine ⟨_, 0, _, rfl, hS, by simp, ⟨none, 0, 0, rfl, SliceOf.nil _ _ _ _ _⟩, fun j v hv => ?_⟩
    have := cell_of_row (W.alloc (.cells #[.slice none 0 0] t)) W.heap.size j _ t (0, 0) (heap_alloc_new W _)
    rw [show 0 + 0 * 1 + j = j by omega, this]
    simpa using hv
  | succ k => simp at hx

set_option maxHeartbeats 4000000 in
set_option maxRecDepth 100000 in
theorem all_any {A B C : Option Addr} {n ca m cb q cc : Nat} {c : Claim} {S : Foot} (w : World) (h : ClaimAt S w A n B m C q c) (hok : OkC c) :
    Calls Tryd.prog 73 #[.agg #[.slice A n ca, .slice B m cb, .slice C q cc]] w fun e w' => ∃ A' n' c', e = .returned (.slice A' n' c') ∧ Rows (fun _ => True) w' A' n' (allT c.causes) ∧ Below w.heap.size w w' := by
  obtain ⟨i0, hi0, hz0, hz1, hz2⟩ := info_parts infoInt
  obtain ⟨i1, hi1, hy0, hy1, hy2⟩ := info_parts infoInts
  have hm5 : m ≤ 5 := by rw [← h.cs.len]; exact hok.nc
  have Hm := Lib.hid h.cs.len
  obtain ⟨W, hW⟩ : ∃ W, (w.alloc (.cells #[.slice A n ca, .slice B m cb, .slice C q cc] 26)).alloc (.cells #[.slice none 0 0] 34) = W := ⟨_, rfl⟩
  have hx1 : W.cell? ⟨w.heap.size, 1, none⟩ = some (.slice B m cb) := by rw [← hW]; exact oldc (newc rfl rfl)
  have hc : ClaimAt S W A n B m C q c := by rw [← hW]; exact (h.keep (Keeps.alloc _ _)).keep (Keeps.alloc _ _)
  have hR0 : Rows (fun _ => True) W (some ⟨w.heap.size + 1, 0, none⟩) 1 [[]] := by rw [← hW]; exact Rows.one _ _ (by simp) trivial
  have hBW : Below w.heap.size w W := by rw [← hW]; exact bl_alloc (bl_alloc (Below.refl _ _) _ (Nat.le_refl _)) _ (Nat.le_refl _)
  have hWs : W.heap.size = w.heap.size + 2 := by rw [← hW]; simp
  have HW := Lib.hid hW
  have HWs := Lib.hid hWs
  clear hW hWs h
  go_enter Tryd.func73, Tryd.ntmps73
  go_wp2
  rw [HW.out]
  go_loopw [3, 4] (fun v i wr => ∃ (k no co : Nat) (Ao : Option Addr) (outs : List (List Int)), k ≤ m ∧ i = .int .i64 k ∧ v = .slice Ao no co ∧ Rows (fun _ => True) wr Ao no outs ∧ Below W.heap.size W wr ∧ Hid (outs = allGo [[]] (c.causes.take k))) (fun _ i _ => m - (intOf i).toNat)
  case atStart => exact ⟨0, 1, 1, _, [[]], Nat.zero_le _, rfl, rfl, hR0, Below.refl _ _, rfl⟩
  case round =>
    obtain ⟨k, no, co, Ao, outs, hk, rfl, rfl, hR, hB, Hf⟩ := hrel
    have hx1r := getc hB hx1
    have hcr := hc.keep (Keeps.below hB)
    have hno : no ≤ 32768 := by rw [← hR.len, Hf.out]; exact allTake_len hok k
    have Hshort : Hid (∀ u ∈ outs, u.length ≤ 5) := by rw [Hid, Hf.out]; exact fun u hu => allTake_short hok k hu
    by_cases hlt : k < m
    · obtain ⟨b, off, s, lo, hi, P, np, cp, per, rfl, hbb, hc0, hc1, hc2, hc3, hs, hper, Hx⟩ := hcr.cs.get hlt
      obtain ⟨_, _, hlo1, hlo2, hhi, hwide⟩ := hok.cause Hx.out
      dsimp only at hlo1 hlo2 hhi hwide
      have Hnext : Hid (allGo [[]] (c.causes.take (k + 1)) = outs.flatMap fun t => (vals ⟨s.data.toList, lo, hi, per⟩).map fun v => t ++ [v]) := by rw [Hid, take_snoc_get Hx.out, allGo_snoc, ← Hf.out]
      have hv8 := vals_len (x := ⟨s.data.toList, lo, hi, per⟩) hlo2 hwide
      generalize hxx : (⟨s.data.toList, lo, hi, per⟩ : Cause) = xx at Hnext hv8
      have Hlo : Hid (xx.lo = lo) := by rw [← hxx]; rfl
      have Hhi : Hid (xx.hi = hi) := by rw [← hxx]; rfl
      obtain ⟨cnt, hcnt⟩ := Int.eq_ofNat_of_zero_le (show 0 ≤ hi - lo + 1 by omega)
      have Hcnt := Lib.hid hcnt
      have hc7 : cnt ≤ 7 := by omega
      have hclo : lo + cnt = hi + 1 := by omega
      have Hclo := Lib.hid hclo
      clear hxx hcnt hclo
      have hv8' : (vals xx).length ≤ 8 := hv8.2
      clear hv8
      obtain ⟨Wa, hWa⟩ : ∃ Wa, wr.alloc (.cells #[.int .i64 lo, .int .i64 hi] 44) = Wa := ⟨_, rfl⟩
      have ha0 : Wa.cell? ⟨wr.heap.size, 0, none⟩ = some (.int .i64 lo) := by rw [← hWa]; exact newc rfl rfl
      have ha1 : Wa.cell? ⟨wr.heap.size, 1, none⟩ = some (.int .i64 hi) := by rw [← hWa]; exact newc rfl rfl
      have hRa : Rows (fun _ => True) Wa Ao no outs := by rw [← hWa]; exact hR.keep (SlR.good IntR.good) (Keeps.alloc _ _)
      have hBa : Below W.heap.size W Wa := by rw [← hWa]; exact bl_alloc hB _ (Nat.le_refl _)
      have hWas : Wa.heap.size = wr.heap.size + 1 := by rw [← hWa]; simp
      have HWa := Lib.hid hWa
      have HWas := Lib.hid hWas
      clear hWa hWas hR hB hc hcr
      go_wp2
      rw [HWa.out]
      clear hc0 hc1 hc2 hc3 hper hbb hx1r
      obtain ⟨wo, rfl⟩ : ∃ wo : World, wo = wr := ⟨_, rfl⟩
      go_loopw [6, 7] (fun v i wr' => ∃ (j nm cm : Nat) (Am : Option Addr) (more : List (List Int)), j ≤ no ∧ i = .int .i64 j ∧ v = .slice Am nm cm ∧ nm ≤ j * 8 ∧ Hid (more.length = nm) ∧ OwnV (SlR IntR 1) 1 wr' Wa.heap.size 34 (.slice Am nm cm) more ∧ Below Wa.heap.size Wa wr' ∧ Hid (more = (outs.take j).flatMap fun t => (vals xx).map fun v => t ++ [v])) (fun _ i _ => no - (intOf i).toNat)
      case atStart => exact ⟨0, 0, 0, none, [], Nat.zero_le _, rfl, rfl, Nat.zero_le _, rfl, OwnV.nil _ _ _ _ _, Below.refl _ _, rfl⟩
      case round =>
        obtain ⟨j, nm, cm, Am, more, hj, rfl, rfl, hnm, Hml, hM, hB2, Hmf⟩ := hrel
        by_cases hlt2 : j < no
        · have hRr := hRa.keep (SlR.good IntR.good) (Keeps.below hB2)
          obtain ⟨bo, oo, u, Au, nu, cu, rfl, hco, hU, Hou⟩ := Rows.get hRr hlt2
          have hbo := World.block_lt_of_cell? wr _ hco
          dsimp only at hbo
          have Hu := Lib.hid hU.len
          have hnu : nu ≤ 5 := by rw [← hU.len]; exact Hshort.out u (List.mem_of_getElem? Hou.out)
          have hao := getc hB2 ha0
          have haz := getc hB2 ha1
          have hwlt : wo.heap.size < Wa.heap.size := by rw [HWas.out]; omega
          go_wp2_with (at_builtin; refine wpList_append_ints _ rfl (.tmp 30) (.tmp 34) _ rfl wr.heap.size 3 i0 _ 8 Tryd.underlying34 hi0 hz0 hz1 hz2 rfl _ [] 0 rfl rfl (OwnL.lit wr wr.heap.size 3 (Nat.le_refl _) rfl) Au nu cu u rfl (hU.keep IntR.good (Keeps.alloc _ _)) ?d1 ?d2 ?d3 ?_)
          case d1 => simp only [maxLen]; omega
          case d2 => omega
          case d3 => simp
          intro A1 cap1 w1 hO1 hg1 _
          have hBq1 : Below wr.heap.size wr w1 := bl_grown (bl_alloc (Below.refl _ _) _ (Nat.le_refl _)) (OwnL.lit wr wr.heap.size 3 (Nat.le_refl _) rfl) hg1 (Nat.le_refl _) (Nat.le_refl _)
          clear hg1
          go_wp2_with (at_builtin; refine wpList_append_n _ rfl (.tmp 35) (.tmp 36) _ rfl IntR.good wr.heap.size 3 i0 _ 8 Tryd.underlying34 hi0 hz0 hz1 hz2 rfl (by omega) _ u (0) nu Hu.out rfl (hO1.alloc IntR.good _) ⟨_, 0, none⟩ 1 [.int .i64 (0)] rfl rfl (news_new rfl rfl) ?e1 ?e2 ?e3 (fun h => h) ?_)
          case e1 => simp only [maxLen]; omega
          case e2 => omega
          case e3 => have := hBq1.size; simp; omega
          intro A2 cap2 w2 hO2 hg2 _
          have hBq2 : Below wr.heap.size wr w2 := bl_grown (bl_alloc hBq1 _ (Nat.le_refl _)) (hO1.alloc IntR.good _) hg2 (Nat.le_refl _) (Nat.le_refl _)
          have hI2 : Ints (fun k => wr.heap.size ≤ k) w2 (some ⟨A2, 0, none⟩) (nu + 1) (u ++ [0]) := hO2.slice IntR.good rfl (by simp only [maxLen]; omega) (fun _ h => h.elim) (fun g h1 _ => h1)
          have hM2 := OwnV.below (SlR.good IntR.good) hM hBq2
          have hMb := OwnL.block hM
          clear hg2 hBq1 hO1 hO2
          go_wp2_with (at_builtin; refine wpList_append_v _ rfl (.tmp 29) (.tmp 38) _ rfl (SlR.good IntR.good) Wa.heap.size 34 i1 _ 24 Tryd.underlying30 hi1 hy0 hy1 hy2 rfl (by omega) _ more (u ++ [0]) nm Hml.out rfl (OwnV.below (SlR.good IntR.good) hM2 (bl_alloc (Below.refl _ _) _ (Nat.le_refl _))) ⟨_, 0, none⟩ 1 [.slice (some ⟨A2, 0, none⟩) (nu + 1) cap2] rfl ⟨_, _, _, rfl, (hI2.keep IntR.good (Keeps.alloc _ _)).mono IntR.good (fun g hg e => by have := hMb g e; omega)⟩ (news_new rfl rfl) ?f1 ?f2 ?f3 ?_)
          case f1 => simp only [maxLen]; omega
          case f2 => omega
          case f3 => have := hB2.size; have := hBq2.size; simp; omega
          intro A3 cap3 w3 hM3 hg3 _
          have hB3 : Below Wa.heap.size Wa w3 := bl_grown (bl_alloc (bl_call hB2 hBq2 (Nat.le_refl _)) _ (Nat.le_refl _)) (OwnV.below (SlR.good IntR.good) hM2 (bl_alloc (Below.refl _ _) _ (Nat.le_refl _))) hg3 (Nat.le_refl _) (Nat.le_refl _)
          clear hg3 hBq2 hM2 hI2 hMb hM hB2
          have hao' := getc hB3 ha0
          have haz' := getc hB3 ha1
          go_wp2
          obtain ⟨wo2, rfl⟩ : ∃ wo2 : World, wo2 = wr := ⟨_, rfl⟩
          clear hao haz hRr hco hU
          go_loopw [6, 8] (fun v i wr' => ∃ (p nm' cm' : Nat) (Am' : Option Addr) (more' : List (List Int)), p ≤ cnt ∧ i = .int .i64 (lo + p) ∧ v = .slice Am' nm' cm' ∧ nm' ≤ nm + 1 + p ∧ Hid (more'.length = nm') ∧ OwnV (SlR IntR 1) 1 wr' Wa.heap.size 34 (.slice Am' nm' cm') more' ∧ Below Wa.heap.size Wa wr' ∧ Hid (more' = more ++ partT u xx p)) (fun _ i _ => (hi + 1 - intOf i).toNat)
          case atStart => exact ⟨0, nm + 1, cap3, _, _, Nat.zero_le _, by simp, rfl, by omega, by rw [Hid, List.length_append, Hml.out]; rfl, hM3, hB3, rfl⟩
          case round =>
            clear hao' haz' hB3 hM3
            obtain ⟨p, nm', cm', Am', more', hp, rfl, rfl, hnm', Hml', hM', hB4, Hmf'⟩ := hrel
            have hao := getc hB4 ha0
            have haz := getc hB4 ha1
            by_cases hlt3 : p < cnt
            · have hRr := hRa.keep (SlR.good IntR.good) (Keeps.below hB4)
              obtain ⟨bo', oo', u', Au', nu', cu', hbe, hco, hU, Hou'⟩ := Rows.get hRr hlt2
              obtain ⟨rfl, rfl⟩ : bo = bo' ∧ oo = oo' := by injection hbe with hbe; injection hbe with e1 e2; exact ⟨e1, e2⟩
              obtain rfl : u = u' := by have e := Hou.out.symm.trans Hou'.out; injection e
              have hbo2 := World.block_lt_of_cell? wr _ hco
              dsimp only at hbo2
              have Hu' := Lib.hid hU.len
              have hnu' : nu' ≤ 5 := by rw [← hU.len]; exact Hshort.out u (List.mem_of_getElem? Hou.out)
              have hle3 : lo + p ≤ hi := by have := Hclo.out; omega
              have hpp : 0 ≤ (p : Int) := by omega
              go_wp2_with (at_builtin; refine wpList_append_ints _ rfl (.tmp 49) (.tmp 53) _ rfl wr.heap.size 3 i0 _ 8 Tryd.underlying34 hi0 hz0 hz1 hz2 rfl _ [] 0 rfl rfl (OwnL.lit wr wr.heap.size 3 (Nat.le_refl _) rfl) Au' nu' cu' u rfl (hU.keep IntR.good (Keeps.alloc _ _)) ?xd1 ?xd2 ?xd3 ?_)
              case xd1 => simp only [maxLen]; omega
              case xd2 => omega
              try case xd3 => simp
              intro A1 cap1 w1 hO1 hg1 _
              have hBq1 : Below wr.heap.size wr w1 := bl_grown (bl_alloc (Below.refl _ _) _ (Nat.le_refl _)) (OwnL.lit wr wr.heap.size 3 (Nat.le_refl _) rfl) hg1 (Nat.le_refl _) (Nat.le_refl _)
              clear hg1
              go_wp2_with (at_builtin; refine wpList_append_n _ rfl (.tmp 54) (.tmp 56) _ rfl IntR.good wr.heap.size 3 i0 _ 8 Tryd.underlying34 hi0 hz0 hz1 hz2 rfl (by omega) _ u (lo + p) nu' Hu'.out rfl (hO1.alloc IntR.good _) ⟨_, 0, none⟩ 1 [.int .i64 (lo + p)] rfl rfl (news_new rfl rfl) ?xe1 ?xe2 ?xe3 (fun h => h) ?_)
              case xe1 => simp only [maxLen]; omega
              case xe2 => omega
              case xe3 => have := hBq1.size; simp; omega
              intro A2 cap2 w2 hO2 hg2 _
              have hBq2 : Below wr.heap.size wr w2 := bl_grown (bl_alloc hBq1 _ (Nat.le_refl _)) (hO1.alloc IntR.good _) hg2 (Nat.le_refl _) (Nat.le_refl _)
              have hI2 : Ints (fun k => wr.heap.size ≤ k) w2 (some ⟨A2, 0, none⟩) (nu' + 1) (u ++ [lo + p]) := hO2.slice IntR.good rfl (by simp only [maxLen]; omega) (fun _ h => h.elim) (fun g h1 _ => h1)
              have hM2 := OwnV.below (SlR.good IntR.good) hM' hBq2
              have hMb := OwnL.block hM'
              clear hg2 hBq1 hO1 hO2
              go_wp2_with (at_builtin; refine wpList_append_v _ rfl (.tmp 48) (.tmp 58) _ rfl (SlR.good IntR.good) Wa.heap.size 34 i1 _ 24 Tryd.underlying30 hi1 hy0 hy1 hy2 rfl (by omega) _ more' (u ++ [lo + p]) nm' Hml'.out rfl (OwnV.below (SlR.good IntR.good) hM2 (bl_alloc (Below.refl _ _) _ (Nat.le_refl _))) ⟨_, 0, none⟩ 1 [.slice (some ⟨A2, 0, none⟩) (nu' + 1) cap2] rfl ⟨_, _, _, rfl, (hI2.keep IntR.good (Keeps.alloc _ _)).mono IntR.good (fun g hg e => by have := hMb g e; omega)⟩ (news_new rfl rfl) ?xf1 ?xf2 ?xf3 ?_)
              case xf1 => simp only [maxLen]; omega
              case xf2 => omega
              case xf3 => have := hB4.size; have := hBq2.size; simp; omega
              intro A3 cap3 w3 hM3 hg3 _
              have hB3 : Below Wa.heap.size Wa w3 := bl_grown (bl_alloc (bl_call hB4 hBq2 (Nat.le_refl _)) _ (Nat.le_refl _)) (OwnV.below (SlR.good IntR.good) hM2 (bl_alloc (Below.refl _ _) _ (Nat.le_refl _))) hg3 (Nat.le_refl _) (Nat.le_refl _)
              clear hg3 hBq2 hM2 hI2 hMb hM' hB4
              go_wp2
              go_roundw
              case rel => exact ⟨p + 1, nm' + 1, cap3, _, _, by omega, by go_num, rfl, by omega, by rw [Hid, List.length_append, Hml'.out]; rfl, hM3, hB3, by rw [Hid, partT_succ, ← List.append_assoc, ← Hmf'.out, Hlo.out]⟩
              case measure => simp [intOf]; omega
            · obtain rfl : p = cnt := by omega
              have hle3 : ¬ lo + p ≤ hi := by have := Hclo.out; omega
              have Hend : Hid (more' = (outs.take (j + 1)).flatMap fun t => (vals xx).map fun v => t ++ [v]) := by
                rw [Hid, flatMap_take_succ Hou.out, ← Hmf.out, Hmf'.out]
                have e : p = (xx.hi - xx.lo + 1).toNat := by rw [Hlo.out, Hhi.out, Hcnt.out]; rfl
                rw [e, partT_all]
              go_wp2
              go_roundw
              case rel => exact ⟨j + 1, nm', cm', Am', more', by omega, by go_num, rfl, by omega, Hml', hM', hB4, Hend⟩
              case measure => simp [intOf]; omega
        · obtain rfl : j = no := by omega
          go_wp2
          go_roundw
          case rel =>
            refine ⟨k + 1, nm, cm, Am, more, by omega, by go_num, rfl, hM.slice (SlR.good IntR.good) rfl (by simp only [maxLen]; omega) (fun _ => trivial), hBa.trans (hB2.mono hBa.size), ?_⟩
            rw [Hid, Hnext.out, Hmf.out, List.take_of_length_le (by rw [hRa.len]; exact Nat.le_refl _)]
          case measure => simp [intOf]; omega
    · obtain rfl : k = m := by omega
      go_wp2
      go_ret
      refine ⟨Ao, no, co, rfl, ?_, hBW.trans (hB.mono (by rw [HWs.out]; omega))⟩
      rw [Hf.out, List.take_of_length_le (by rw [Hm.out]; exact Nat.le_refl _)] at hR
      exact hR

end Go.Proofs.YtkbpmcpmcmnfgaaDoor
