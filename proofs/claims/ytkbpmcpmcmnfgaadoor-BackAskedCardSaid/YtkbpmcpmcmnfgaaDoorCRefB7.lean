/- Walks: the reference of layer 12: Sets, Same, Must. -/
import Derived.Test.YtkbpmcpmcmnfgaaDoorCPlain
import Derived.Test.YtkbpmcpmcmnfgaaDoorCRefB6
set_option linter.unusedVariables false
set_option linter.unusedSimpArgs false
set_option linter.all false
namespace Go.Proofs.YtkbpmcpmcmnfgaaDoor
open Go.RowKit

set_option maxRecDepth 100000 in
set_option maxHeartbeats 1000000 in
theorem same_any {S T : Foot} {A B : Option Addr} {n c m d : Nat} {xs ys : List (List Int)} (w : World) (h : Rows S w A n xs) (g : Rows T w B m ys) :
    Calls Tryd.prog 19 #[.slice A n c, .slice B m d] w fun e w' => e = .returned (.bool (decide (xs = ys))) ∧ ∃ q, w' = w.drewN q := by
  have hle := h.le
  have gle := g.le
  by_cases hnm : n = m
  · obtain rfl : n = m := hnm
    have hb : ((n : Int) != (n : Int)) = false := by simp
    go_enter Tryd.func19, Tryd.ntmps19
    go_wp2
    go_loopw [5] (fun i wr => ∃ k : Nat, k ≤ n ∧ i = .int .i64 k ∧ Hid (xs.take k = ys.take k) ∧ ∃ q, wr = w.drewN q) (fun i _ => n - (intOf i).toNat)
    case atStart => exact ⟨0, Nat.zero_le _, rfl, by simp [Hid], 0, rfl⟩
    case round =>
      obtain ⟨k, hk, rfl, Hn, q, hq⟩ := hrel
      have Hq := Lib.hid hq
      clear hq
      by_cases hlt : k < n
      · obtain ⟨b, off, x, A1, n1, c1, rfl, hcell, hI, Hx⟩ := Rows.get (h.keep (SlR.good IntR.good) (w' := wr) (by rw [Hq.out]; exact Keeps.drewN _ _)) hlt
        obtain ⟨b', off', y, A2, n2, c2, rfl, hcell', hI', Hy⟩ := Rows.get (g.keep (SlR.good IntR.good) (w' := wr) (by rw [Hq.out]; exact Keeps.drewN _ _)) hlt
        by_cases hm : x = y
        · have HM := Lib.hid hm
          have hmb := decide_eq_true hm
          clear hm
          go_wp2
          go_still_tail 8, (by kernel_rfl)
          go_wp2_with (go_at_call 22; refine (ints_any _ (hI.keep IntR.good (Keeps.drew _)) (hI'.keep IntR.good (Keeps.drew _))).mono ?_; rintro e w2 ⟨rfl, q1, rfl⟩)
          go_roundw
          case rel => exact ⟨k + 1, by omega, by go_num, by rw [Hid, take_snoc_get Hx.out, take_snoc_get Hy.out, Hn.out, HM.out], _, by rw [Hq.out]; simp only [World.drew_drewN, World.drewN_drewN]; exact rfl⟩
          case measure => simp [intOf]; omega
        · have HM := Lib.hid hm
          have hmb := decide_eq_false hm
          clear hm
          go_wp2
          go_still_tail 8, (by kernel_rfl)
          go_wp2_with (go_at_call 22; refine (ints_any _ (hI.keep IntR.good (Keeps.drew _)) (hI'.keep IntR.good (Keeps.drew _))).mono ?_; rintro e w2 ⟨rfl, q1, rfl⟩)
          go_ret
          refine ⟨ret_bool ?_, _, by rw [Hq.out]; simp only [World.drew_drewN, World.drewN_drewN]; exact rfl⟩
          symm; rw [decide_eq_false_iff_not]; rintro rfl
          have h1 := Hx.out; rw [Hy.out] at h1; exact HM.out (Option.some.inj h1).symm
      · go_wp2
        go_ret
        refine ⟨ret_bool ?_, _, Hq.out⟩
        symm; rw [decide_eq_true_iff]
        have := Hn.out
        rwa [List.take_of_length_le (by rw [h.len]; omega), List.take_of_length_le (by rw [g.len]; omega)] at this
  · have hb : ((n : Int) != (m : Int)) = true := by simp; omega
    have HM := Lib.hid hnm
    clear hnm
    go_enter Tryd.func19, Tryd.ntmps19
    go_wp2
    go_ret
    exact ⟨ret_bool (by symm; rw [decide_eq_false_iff_not]; rintro rfl; exact HM.out (h.len.symm.trans g.len)), 0, rfl⟩

/-- the head of a function of a claim: the claim is laid, Check is called -/
theorem box_cell {w w1 : World} {t : TypeId} {cs : Array Value} {i : Nat} {v : Value} (hb : Below (w.alloc (.cells cs t)).heap.size (w.alloc (.cells cs t)) w1) (hi : cs[i]? = some v) : w1.cell? ⟨w.heap.size, i, none⟩ = some v := getc hb (newc hi rfl)

set_option maxRecDepth 100000 in
set_option maxHeartbeats 4000000 in
theorem sets12_any {A B C : Option Addr} {n ca m cb q cc : Nat} {c : Claim} (w : World) (h : ClaimAt (fun _ => True) w A n B m C q c) :
    Calls Tryd.prog 18 #[.agg #[.slice A n ca, .slice B m cb, .slice C q cc]] w fun e w' => ∃ A' n' c', e = .returned (.tuple #[.slice A' n' c', .int .i64 (setsR c).2]) ∧ Rows (fun _ => True) w' A' n' (setsR c).1 ∧ Below w.heap.size w w' := by
  obtain ⟨i1, hi1, hy0, hy1, hy2⟩ := info_parts infoInts
  by_cases he : err c = 0
  · have hok := okC_of he
    have hbe : ((check c).2.2 != 0) = false := by simpa [err] using he
    have HR : Hid (setsR c = (setsL c, 0)) := by rw [Hid, setsR, if_neg (by simp [he])]
    clear he
    go_enter Tryd.func18, Tryd.ntmps18
    go_wp2_with fail
    refine (check12_any _ (h.keep (Keeps.alloc _ _))).mono ?_
    rintro e w1 ⟨rfl, hb1⟩
    have h0 := box_cell hb1 (i := 0) rfl
    have h1 := box_cell hb1 (i := 1) rfl
    have h2 := box_cell hb1 (i := 2) rfl
    go_wp2_with fail
    refine (explains_any _ ((h.keep (Keeps.alloc _ _)).keep (Keeps.below hb1)) hok).mono ?_
    rintro e wa ⟨At, nt, ct, rfl, hT, hBa⟩
    have hBwa : Below w.heap.size w wa := bl_call (bl_call (bl_alloc (Below.refl _ _) _ (Nat.le_refl _)) hb1 (Nat.le_refl _)) hBa (Nat.le_refl _)
    have hntl : nt ≤ 192 := by rw [← hT.len]; exact explains_len hok
    have Hnt := Lib.hid hT.len
    have hTb := hT.bound (SlR.good IntR.good)
    clear h hb1 h0 h1 h2 hBa hT
    go_wp2
    go_loopw [8, 9] (fun v i wr => ∃ (p nm cm : Nat) (Am : Option Addr) (out : List (List Int)), p ≤ nt ∧ i = .int .i64 p ∧ v = .slice Am nm cm ∧ nm ≤ p ∧ Hid (out.length = nm) ∧ OwnL (SlR IntR 1) 1 (fun k => k < wa.heap.size) wr wa.heap.size 34 (.slice Am nm cm) out ∧ Below wa.heap.size wa wr ∧ Hid (out = ((explainsL c).take p).filter fun s => !smallerIn (explainsL c) s)) (fun _ i _ => nt - (intOf i).toNat)
    case atStart => exact ⟨0, 0, 0, none, [], Nat.zero_le _, rfl, rfl, Nat.zero_le _, rfl, OwnL.nil _ _ _ _ _ _, Below.refl _ _, rfl⟩
    case round =>
      obtain ⟨p, nm, cm, Am, out, hp, rfl, rfl, hnm, Hml, hM, hB, Hf⟩ := hrel
      by_cases hlt : p < nt
      · have hTr := hTb.keep (SlR.good IntR.good) (Keeps.below hB)
        obtain ⟨bo, oo, u, Au, nu, cu, rfl, hco, hU, Hou⟩ := Rows.get hTr hlt
        have hbo := World.block_lt_of_cell? wr _ hco
        dsimp only at hbo
        have Hstep := Lib.hid (filter_take_succ Hou.out fun s => !smallerIn (explainsL c) s)
        have Hu := Lib.hid hU.len
        have hnu := hU.le
        go_wp2
        obtain ⟨wo, rfl⟩ : ∃ wo : World, wo = wr := ⟨_, rfl⟩
        go_loopw [10, 11] (fun v i wr' => ∃ (k : Nat) (b : Bool), k ≤ nt ∧ i = .int .i64 k ∧ v = .bool b ∧ Hid (b = smallerIn ((explainsL c).take k) u) ∧ Hid (∃ z, wr' = wo.drewN z)) (fun v i _ => nt - (intOf i).toNat)
        case atStart => exact ⟨0, false, Nat.zero_le _, rfl, rfl, rfl, 0, rfl⟩
        case round =>
          obtain ⟨k, b, hk, rfl, rfl, Hb, Hz⟩ := hrel
          by_cases hlt2 : k < nt
          · obtain ⟨z, hz⟩ := Hz.out
            have Hzz := Lib.hid hz
            clear hz
            have hkw : Keeps (fun k => True ∧ k < wa.heap.size) wo wr := by rw [Hzz.out]; exact Keeps.drewN _ _
            have hTq := hTr.keep (SlR.good IntR.good) hkw
            obtain ⟨b2, o2, t, Av, nv, cv, hAe, hct, hV, Hot⟩ := Rows.get hTq hlt2
            obtain ⟨rfl, rfl⟩ : bo = b2 ∧ oo = o2 := by injection hAe with hAe; injection hAe with e1 e2; exact ⟨e1, e2⟩
            have hco2 : wr.cell? ⟨bo, oo + p, none⟩ = some (.slice Au nu cu) := by rw [Hzz.out]; exact hco
            have hU2 := hU.keep IntR.good hkw
            have Hv := Lib.hid hV.len
            have hnv := hV.le
            have Hs : Hid (smallerIn ((explainsL c).take (k + 1)) u = (b || (decide (nv < nu) && partL t u))) := by
              rw [Hid, take_snoc_get Hot.out]
              unfold smallerIn at Hb ⊢
              rw [List.any_append, ← Hb.out, ← Hv.out, ← Hu.out]; simp
            clear hkw
            have fin : ∀ (b' : Bool) (n' : Nat), b' = (b || (decide (nv < nu) && partL t u)) → ∃ z', wr.drewN n' = wo.drewN z' := fun _ n' _ => ⟨z + n', by rw [Hzz.out, World.drewN_drewN]⟩
            have Fin := Lib.hid fin
            clear fin hTq
            cases b with
            | true =>
              go_wp2
              go_quiet (fail)
              go_wp2
              go_roundw
              case rel => exact ⟨k + 1, true, by omega, by go_num, rfl, by rw [Hid, Hs.out]; rfl, Fin.out true _ (by rfl)⟩
              case measure => simp [intOf]; omega
            | false =>
              by_cases hlt3 : nv < nu
              · have hlt3i : (nv : Int) < nu := by omega
                have hd : decide ((nv : Int) < nu) = true := decide_eq_true hlt3i
                have Hp : Hid (smallerIn ((explainsL c).take (k + 1)) u = partL t u) := by rw [Hid, Hs.out, decide_eq_true hlt3]; rfl
                go_wp2
                go_quiet ((go_at_call 67; exact Calls.quiet_of_same ((part_any _ (hV.keep IntR.good (Keeps.drewN _ _)) (hU2.keep IntR.good (Keeps.drewN _ _))).mono fun _ _ h => ⟨h.1, h.2.symm⟩)))
                go_wp2
                go_roundw
                case rel => exact ⟨k + 1, _, by omega, by go_num, rfl, Hp.symm, Fin.out _ _ rfl⟩
                case measure => simp [intOf]; omega
              · have hlt3i : ¬ (nv : Int) < nu := by omega
                have hd : decide ((nv : Int) < nu) = false := decide_eq_false hlt3i
                have Hp : Hid (smallerIn ((explainsL c).take (k + 1)) u = false) := by rw [Hid, Hs.out, decide_eq_false hlt3]; rfl
                go_wp2
                go_quiet (fail)
                go_wp2
                go_roundw
                case rel => exact ⟨k + 1, false, by omega, by go_num, rfl, Hp.symm, Fin.out _ _ rfl⟩
                case measure => simp [intOf]; omega
          · obtain rfl : k = nt := by omega
            have hkw : Below wo.heap.size wo wr := by obtain ⟨z, hz⟩ := Hz.out; rw [hz]; exact bl_drewN (Below.refl _ _) _
            have Hall : Hid (b = smallerIn (explainsL c) u) := by have := Hb.out; rwa [List.take_of_length_le (by rw [Hnt.out]; exact Nat.le_refl _)] at this
            have hMw := hM.below (SlR.good IntR.good) hkw
            have hBw := bl_call hB hkw (Nat.le_refl _)
            have hUw := hU.keep IntR.good (Keeps.below hkw)
            have hcow := getc hkw hco
            have hbow := World.block_lt_of_cell? wr _ hcow
            have hsz := hBw.size
            dsimp only at hbow
            clear hkw hM hB hU hco hTr hTb
            cases b with
            | true =>
              have Hs : Hid (out = ((explainsL c).take (p + 1)).filter fun s => !smallerIn (explainsL c) s) := by rw [Hid, Hstep.out, if_neg (by rw [← Hall.out]; decide), List.append_nil, ← Hf.out]
              go_wp2
              go_roundw
              case rel => exact ⟨p + 1, nm, cm, _, _, by omega, by go_num, rfl, by omega, Hml, hMw, hBw, Hs⟩
              case measure => simp [intOf]; omega
            | false =>
              have Hs : Hid (out ++ [u] = ((explainsL c).take (p + 1)).filter fun s => !smallerIn (explainsL c) s) := by rw [Hid, Hstep.out, if_pos (by rw [← Hall.out]; decide), ← Hf.out]
              go_wp2_with (at_builtin; refine wpList_append_n _ rfl _ _ _ rfl (SlR.good IntR.good) wa.heap.size 34 i1 _ 24 Tryd.underlying30 hi1 hy0 hy1 hy2 rfl (by omega) _ out u nm Hml.out rfl (hMw.alloc (SlR.good IntR.good) _) ⟨_, 0, none⟩ 1 [.slice Au nu cu] rfl ⟨_, _, _, rfl, (hUw.keep IntR.good (Keeps.alloc _ _)).mono IntR.good (fun g hg => hg.2)⟩ (news_new rfl rfl) (by simp only [maxLen]; omega) (by omega) (by first | omega | (simp; omega)) (fun h => by simp at h; omega) ?_)
              intro A2 cap2 w2 hO3 hg2 _
              have hB3 : Below wa.heap.size wa w2 := bl_grown (bl_alloc hBw _ (Nat.le_refl _)) (hMw.alloc (SlR.good IntR.good) _) hg2 (Nat.le_refl _) (Nat.le_refl _)
              clear hg2 hMw hBw
              go_wp2
              go_roundw
              case rel => exact ⟨p + 1, nm + 1, cap2, _, _, by omega, by go_num, rfl, by omega, by rw [Hid, List.length_append, Hml.out]; rfl, hO3, hB3, Hs⟩
              case measure => simp [intOf]; omega
      · obtain rfl : p = nt := by omega
        have hfin : Hid (setsL c = out) := by rw [Hid, Hf.out, setsL, List.take_of_length_le (by rw [Hnt.out]; exact Nat.le_refl _)]
        go_wp2
        go_ret2
        refine ⟨Am, nm, cm, by rw [HR.out]; rfl, ?_, bl_call hBwa hB (Nat.le_refl _)⟩
        rw [HR.out, hfin.out]
        exact hM.slice (SlR.good IntR.good) rfl (by simp only [maxLen]; omega) (fun _ _ => trivial) (fun _ _ _ => trivial)
  · have hbe : ((check c).2.2 != 0) = true := by simpa [err] using he
    have HR : Hid (setsR c = ([], err c)) := by rw [Hid, setsR, if_pos he]
    clear he
    go_enter Tryd.func18, Tryd.ntmps18
    go_wp2_with (go_at_call 16; refine (check12_any _ (h.keep (Keeps.alloc _ _))).mono ?_; rintro e w1 ⟨rfl, hb1⟩)
    go_ret2
    exact ⟨none, 0, 0, by rw [HR.out]; rfl, by rw [HR.out]; exact SliceOf.nil _ _ _ _ _, bl_call (bl_alloc (Below.refl _ _) _ (Nat.le_refl _)) hb1 (Nat.le_refl _)⟩

end Go.Proofs.YtkbpmcpmcmnfgaaDoor
