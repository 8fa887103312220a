/- Walks: the reference of layer 12: Explains; its lists lie in new blocks. -/
import Derived.Deep.OwnRows
import Derived.Test.YtkbpmcpmcmnfgaaDoorCBackPureB
import Derived.Test.YtkbpmcpmcmnfgaaDoorCRange
import Derived.Test.YtkbpmcpmcmnfgaaDoorCRefB10
import Derived.Test.YtkbpmcpmcmnfgaaDoorCRefB6
set_option linter.unusedVariables false
set_option linter.unusedSimpArgs false
set_option linter.all false
namespace Go.Proofs.YtkbpmcpmcmnfgaaDoor
open Go.RowKit

set_option maxRecDepth 100000 in
set_option maxHeartbeats 4000000 in
theorem explains_low {A B C : Option Addr} {n ca m cb q cc : Nat} {c : Claim} {S : Foot} (w : World) (h : ClaimAt S w A n B m C q c) (hok : OkC c) :
    Calls Tryd.prog 50 #[.agg #[.slice A n ca, .slice B m cb, .slice C q cc]] w fun e w' => ∃ A' n' c', e = .returned (.slice A' n' c') ∧ Rows (fun k => w.heap.size ≤ k) w' A' n' (explainsL c) ∧ Below w.heap.size w w' := by
  obtain ⟨i1, hi1, hy0, hy1, hy2⟩ := info_parts infoInts
  have hm5 : m ≤ 5 := by rw [← h.cs.len]; exact hok.nc
  have Hm := Lib.hid h.cs.len
  go_enter Tryd.func50, Tryd.ntmps50
  go_wp2_with fail
  refine (agree_any _ (h.keep (Keeps.alloc _ _)) hok).mono ?_
  rintro e wa ⟨At, nt, ct, rfl, hT, hBa⟩
  have hx1 : wa.cell? ⟨w.heap.size, 1, none⟩ = some (.slice B m cb) := getc hBa (newc rfl rfl)
  have hBwa : Below w.heap.size w wa := bl_call (bl_alloc (Below.refl _ _) _ (Nat.le_refl _)) hBa (Nat.le_refl _)
  have hwlt : w.heap.size < wa.heap.size := by have := hBa.size; simp at this; omega
  have hntl : nt ≤ 32768 := by rw [← hT.len]; exact Nat.le_trans (List.length_filter_le _ _) (allT_len hok).1
  have Hnt := Lib.hid hT.len
  have hTb := hT.bound (SlR.good IntR.good)
  clear hBa h hT
  go_wp2
  go_loopw [4, 5] (fun v i wr => ∃ (p nm cm : Nat) (Am : Option Addr) (out : List (List Int)), p ≤ m + 1 ∧ i = .int .i64 p ∧ v = .slice Am nm cm ∧ nm ≤ p * 32 ∧ Hid (out.length = nm) ∧ OwnT (fun k => w.heap.size ≤ k) (SlR IntR 1) 1 wr wa.heap.size 34 (.slice Am nm cm) out ∧ Below wa.heap.size wa wr ∧ Hid (out = (List.range p).flatMap fun many => (listsL m many 0).filter (isSet (agreeL c)))) (fun _ i _ => (m + 1 - intOf i).toNat)
  case atStart => exact ⟨0, 0, 0, none, [], Nat.zero_le _, rfl, rfl, Nat.zero_le _, rfl, OwnT.nil _ _ _ _ _ _, Below.refl _ _, rfl⟩
  case round =>
    obtain ⟨p, nm, cm, Am, out, hp, rfl, rfl, hnm, Hml, hM, hB, Hf⟩ := hrel
    have hx1r := getc hB hx1
    by_cases hlt : p ≤ m
    · have hpi : (p : Int) ≤ m := by omega
      have Hstep : Hid ((List.range (p + 1)).flatMap (fun many => (listsL m many 0).filter (isSet (agreeL c))) = out ++ (listsL m p 0).filter (isSet (agreeL c))) := by
        rw [Hid, Hf.out, List.range_succ, List.flatMap_append]
        simp only [List.flatMap_cons, List.flatMap_nil, List.append_nil]
      have hnm5 : nm ≤ 160 := by omega
      have HMb := Lib.hid (OwnL.block hM)
      obtain ⟨wb, hwb⟩ : ∃ wb : Nat, wb = wr.heap.size := ⟨_, rfl⟩
      have Hwb := Lib.hid hwb
      have hwb2 : w.heap.size ≤ wb := by rw [hwb]; have := hB.size; omega
      clear hwb
      go_wp2_with (go_at_call 82; refine (lists_any m hm5 p (by omega) 0 _ _ _ rfl rfl (Nat.zero_le _)).mono ?_; rintro e wc ⟨Ar, nr, cr, rfl, hR, hBc⟩)
      have hR2 : Rows (fun k => wb ≤ k ∧ k < wc.heap.size) wc Ar nr (listsL m p 0) := by rw [Hwb.out]; exact hR.bound (SlR.good IntR.good)
      have hwbc : wb ≤ wc.heap.size := by rw [Hwb.out]; exact hBc.size
      have hMb0 : Hid (∀ k, (Value.slice Am nm cm).ownBlock = some k → k < wb ∨ wc.heap.size ≤ k) := fun k hk => .inl (by rw [Hwb.out]; exact (HMb.out k hk).2)
      have hMc := OwnT.below (SlR.good IntR.good) hM hBc
      have hBn := bl_call hB hBc (Nat.le_refl _)
      have hsm := listsL_small m (by omega) p (by omega) 0 (by omega)
      have hnr : nr ≤ 32 := by rw [← hR.len]; exact hsm.1
      have Hnr := Lib.hid hR.len
      clear hM hB hBc hsm hR hx1r
      obtain ⟨wo, rfl⟩ : ∃ wo : World, wo = wr := ⟨_, rfl⟩
      go_loopw [4, 7] (fun v i wr' => ∃ (j nm' cm' : Nat) (Am' : Option Addr) (more : List (List Int)), j ≤ nr ∧ i = .int .i64 j ∧ v = .slice Am' nm' cm' ∧ nm' ≤ nm + j ∧ Hid (more.length = nm') ∧ OwnT (fun k => w.heap.size ≤ k) (SlR IntR 1) 1 wr' wa.heap.size 34 (.slice Am' nm' cm') more ∧ Below wa.heap.size wa wr' ∧ Keeps (fun k => wb ≤ k ∧ k < wc.heap.size) wc wr' ∧ Hid (∀ k, (Value.slice Am' nm' cm').ownBlock = some k → k < wb ∨ wc.heap.size ≤ k) ∧ Hid (more = out ++ ((listsL m p 0).take j).filter (isSet (agreeL c)))) (fun _ i _ => nr - (intOf i).toNat)
      case atStart => exact ⟨0, nm, cm, Am, out, Nat.zero_le _, rfl, rfl, by omega, Hml, hMc, hBn, Keeps.refl _ _, hMb0, by rw [Hid]; simp⟩
      case round =>
        obtain ⟨j, nm', cm', Am', more, hj, rfl, rfl, hnm', Hml', hM, hB4, hB5, hMb1, Hmf⟩ := hrel
        by_cases hlt2 : j < nr
        · have hRr := hR2.keep (SlR.good IntR.good) hB5
          obtain ⟨bo, oo, u, Au, nu, cu, rfl, hco, hU, Hou⟩ := Rows.get hRr hlt2
          have hbo := World.block_lt_of_cell? wr _ hco
          dsimp only at hbo
          have Hstep2 := Lib.hid (filter_take_succ Hou.out (isSet (agreeL c)))
          have hTr := hTb.keep (SlR.good IntR.good) (Keeps.below hB4)
          obtain ⟨wq, hwq⟩ : ∃ wq : World, wq = wr := ⟨_, rfl⟩
          have Hwq := Lib.hid hwq
          clear hwq
          go_wp2
          obtain ⟨wo2, rfl⟩ : ∃ wo2 : World, wo2 = wr := ⟨_, rfl⟩
          go_loopw [8, 9] (fun v i wr' => ∃ (k : Nat) (b : Bool), k ≤ nt ∧ i = .int .i64 k ∧ v = .bool b ∧ Below wo2.heap.size wo2 wr' ∧ Hid (b = isSet ((agreeL c).take k) u)) (fun v i _ => nt - (intOf i).toNat)
          case atStart => exact ⟨0, false, Nat.zero_le _, rfl, rfl, Below.refl _ _, rfl⟩
          case round =>
            obtain ⟨k, b, hk, rfl, rfl, hB6, Hb⟩ := hrel
            have hco2 := getc hB6 hco
            have hU2 := hU.keep IntR.good (Keeps.below hB6)
            have hbo2 := World.block_lt_of_cell? wr _ hco2
            dsimp only at hbo2
            cases b with
            | true =>
              have hall : Hid (isSet (agreeL c) u = true) := isSet_take Hb.out.symm
              have Hs : Hid (more ++ [u] = out ++ ((listsL m p 0).take (j + 1)).filter (isSet (agreeL c))) := by rw [Hid, Hstep2.out, if_pos hall.out, ← List.append_assoc, ← Hmf.out]
              have hMw := OwnT.below (SlR.good IntR.good) hM hB6
              have hMbk := OwnL.block hM
              have hB8 := bl_call hB4 hB6 (Nat.le_refl _)
              have hsz8 := hB8.size
              have hsz9 := hB6.size
              have hsz7 := hB5.size
              clear hM hB4 hRr hTr hco hU
              rcases Nat.lt_or_ge k nt with hkk | hkk
              all_goals
                go_wp2_with (at_builtin; refine wpList_append_t _ rfl _ _ _ rfl (fun k => w.heap.size ≤ k) (SlR.good IntR.good) wa.heap.size 34 i1 _ 24 Tryd.underlying30 hi1 hy0 hy1 hy2 rfl (by omega) _ more u nm' Hml'.out rfl (OwnT.below (SlR.good IntR.good) hMw (bl_alloc (Below.refl _ _) _ (Nat.le_refl _))) ⟨_, 0, none⟩ 1 [.slice Au nu cu] rfl ⟨_, _, _, rfl, (hU2.keep IntR.good (Keeps.alloc _ _)).mono IntR.good (fun g hg => ⟨by omega, fun e => by rcases hMb1.out g e with h | h <;> omega⟩)⟩ (news_new rfl rfl) (by simp only [maxLen]; omega) (by omega) (by first | omega | (simp; omega)) ?_)
                intro A3 cap3 w3 hM3 hg3 hat3
                have hB9 : Below wa.heap.size wa w3 := bl_grown (bl_alloc hB8 _ (Nat.le_refl _)) (OwnT.below (SlR.good IntR.good) hMw (bl_alloc (Below.refl _ _) _ (Nat.le_refl _))) hg3 (Nat.le_refl _) (Nat.le_refl _)
                have hB7 : Keeps (fun k => wb ≤ k ∧ k < wc.heap.size) wc w3 := by
                  refine ((hB5.trans (Keeps.below hB6)).trans (Keeps.alloc _ _)).trans (Keeps.grown hg3 fun k hk hc => ?_)
                  rcases hMb1.out k hk with h | h <;> omega
                have hMb2 : Hid (∀ k, (Value.slice (some ⟨A3, 0, none⟩) (nm' + 1) cap3).ownBlock = some k → k < wb ∨ wc.heap.size ≤ k) := by
                  intro k hk
                  have e : A3 = k := by simpa [Value.ownBlock] using hk
                  subst e
                  rcases hat3 with e | e
                  · exact hMb1.out _ e
                  · right; first | omega | (rw [e]; simp; omega)
                clear hg3 hat3 hMw hU2 hB5 hB6 hB8
                go_wp2
                go_roundw
                case rel => exact ⟨j + 1, nm' + 1, cap3, _, _, by omega, by go_num, rfl, by omega, by rw [Hid, List.length_append, Hml'.out]; rfl, hM3, hB9, hB7, hMb2, Hs⟩
                case measure => simp [intOf]; omega
            | false =>
              by_cases hlt3 : k < nt
              · obtain ⟨bt, ot, t, Av, nv, cv, rfl, hct, hV, Hot⟩ := Rows.get (hTr.keep (SlR.good IntR.good) (Keeps.below hB6)) hlt3
                have hmem : t ∈ allT c.causes := (List.mem_filter.1 (List.mem_of_getElem? Hot.out)).1
                have hnv : nv ≤ 1000000 := by rw [← hV.len, (allT_ok hok hmem).1]; have := hok.nc; omega
                have Hs : Hid (decide (setL t = u) = isSet ((agreeL c).take (k + 1)) u) := by
                  rw [Hid, take_snoc_get Hot.out, isSet_snoc, ← Hb.out, Bool.false_or]
                have hbt := World.block_lt_of_cell? wr _ hct
                dsimp only at hbt
                clear hmem
                go_wp2
                go_region_held3 (fun w' => w'.cell? ⟨bt, ot + k, none⟩ = some (.slice Av nv cv) ∧ w'.cell? ⟨bo, oo + j, none⟩ = some (.slice Au nu cu))
                  (first | exact ⟨hct, hco2⟩ | exact ⟨getc hb1 hct, getc hb1 hco2⟩ | exact ⟨getc (bl_drewN hb1 _) hct, getc (bl_drewN hb1 _) hco2⟩)
                  (first | (go_at_call 40; refine (set_any _ (hV.keep IntR.good (Keeps.drew _)) hnv).mono ?_; rintro e w1 ⟨A1, n1, c1, rfl, hW, hb1⟩) | (go_at_call 22; refine (ints_any _ hW ((hU2.keep IntR.good (Keeps.drew _)).keep IntR.good (Keeps.below hb1))).mono ?_; rintro e w2 ⟨rfl, q1, rfl⟩))
                rename_i hHeld
                clear hHeld
                have hB7 := bl_drewN (bl_call hB6.drew hb1 (Nat.le_refl _)) q1
                clear hb1 hB6 hW hV hct hco2 hU2 hTr hM hRr
                go_wp2
                go_roundw
                case rel => exact ⟨k + 1, _, by omega, by go_num, rfl, hB7, Hs⟩
                case measure => simp [intOf]; omega
              · obtain rfl : k = nt := by omega
                have hall : Hid (isSet (agreeL c) u = false) := by have := Hb.out; rw [List.take_of_length_le (by rw [Hnt.out]; exact Nat.le_refl _)] at this; exact this.symm
                have Hs : Hid (more = out ++ ((listsL m p 0).take (j + 1)).filter (isSet (agreeL c))) := by rw [Hid, Hstep2.out, if_neg (by rw [hall.out]; decide), List.append_nil, ← Hmf.out]
                have hMw := OwnT.below (SlR.good IntR.good) hM hB6
                have hB8 := bl_call hB4 hB6 (Nat.le_refl _)
                have hB7 := hB5.trans (Keeps.below hB6)
                clear hM hB4 hB5 hB6 hRr hTr hco hU hco2 hU2
                go_wp2
                go_roundw
                case rel => exact ⟨j + 1, nm', cm', _, _, by omega, by go_num, rfl, by omega, Hml', hMw, hB8, hB7, hMb1, Hs⟩
                case measure => simp [intOf]; omega
        · obtain rfl : j = nr := by omega
          have Hs : Hid (more = (List.range (p + 1)).flatMap fun many => (listsL m many 0).filter (isSet (agreeL c))) := by rw [Hid, Hstep.out, Hmf.out, List.take_of_length_le (by rw [Hnr.out]; exact Nat.le_refl _)]
          go_wp2
          go_roundw
          case rel => exact ⟨p + 1, nm', cm', Am', more, by omega, by go_num, rfl, by omega, Hml', hM, hB4, Hs⟩
          case measure => simp [intOf]; omega
    · obtain rfl : p = m + 1 := by omega
      have hpi : ¬ ((m + 1 : Nat) : Int) ≤ m := by omega
      have hpi' : ¬ (m : Int) + 1 ≤ m := by omega
      have hfin : Hid (explainsL c = out) := by rw [Hid, Hf.out, explainsL, Hm.out]
      go_wp2
      go_ret
      refine ⟨Am, nm, ⟨cm, rfl⟩, ?_, bl_call hBwa hB (Nat.le_refl _)⟩
      rw [hfin.out]
      exact OwnT.slice (SlR.good IntR.good) hM rfl (by simp only [maxLen]; omega) (fun _ h => h) (fun k hk => by omega)
end Go.Proofs.YtkbpmcpmcmnfgaaDoor

namespace Go.Proofs.YtkbpmcpmcmnfgaaDoor
open Go.RowKit

theorem explains_short {c : Claim} (h : OkC c) {s : List Int} (hs : s ∈ explainsL c) : s.length ≤ 5 := by
  rw [explains_ord h] at hs
  obtain ⟨v, hv, rfl⟩ := List.mem_map.1 hs
  exact listN_len v (ord_lt v (List.mem_filter.1 hv).1)
theorem bl_kept {B : Nat} {a b c : World} {M : Foot} (h : Below B a b) (k : Kept M b c) (hs : B ≤ b.heap.size) (hM : ∀ j, M j → B ≤ j) : Below B a c := h.trans (k.below hs hM)
/-- the cells of a block, by a function -/
def rowC (N : Nat) (F : Nat → Value) : Array Value := ((List.range N).map F).toArray
theorem rowC_get {N : Nat} {F : Nat → Value} {p : Nat} (h : p < N) : (rowC N F)[p]? = some (F p) := by simp [rowC, h]
theorem rowC_set (N : Nat) (F : Nat → Value) (p : Nat) (v : Value) : (rowC N F).setIfInBounds p v = rowC N (fun q => if q = p then v else F q) := by
  apply Array.ext_getElem?
  intro i
  rw [Array.getElem?_setIfInBounds]
  by_cases hi : i < N
  · rw [rowC_get hi]
    by_cases h : p = i
    · subst h; simp [rowC, hi]
    · rw [if_neg h, rowC_get hi, if_neg (fun e => h e.symm)]
  · have h1 : ∀ G : Nat → Value, (rowC N G)[i]? = none := fun G => Array.getElem?_eq_none (by simp [rowC]; omega)
    rw [h1, h1]
    split
    · rw [if_neg (by simp [rowC]; omega)]
    · rfl
theorem rowC_congr {N : Nat} {F G : Nat → Value} (h : ∀ p, p < N → F p = G p) : rowC N F = rowC N G := by
  unfold rowC
  exact congrArg List.toArray (List.map_congr_left fun p hp => h p (List.mem_range.1 hp))
theorem rowC_made (N : Nat) (z : Value) : madeCells #[z] N = rowC N (fun _ => z) := by
  apply Array.ext_getElem?
  intro i
  by_cases hi : i < N
  · rw [rowC_get hi, Array.getElem?_eq_getElem (by rw [size_madeCells]; exact hi)]
    simp [madeCells, Nat.mod_one]
  · rw [Array.getElem?_eq_none (by rw [size_madeCells]; omega), Array.getElem?_eq_none (by simp [rowC]; omega)]
theorem Blk.row {w : World} {g : Nat} {t : TypeId} {N : Nat} {F : Nat → Value} (h : Blk w g t (rowC N F)) {p : Nat} (hp : p < N) : w.cell? ⟨g, p, none⟩ = some (F p) := (h.cell p).trans (rowC_get hp)
theorem Blk.rowSet {w : World} {g : Nat} {t : TypeId} {N : Nat} {F : Nat → Value} (h : Blk w g t (rowC N F)) (p : Nat) (v : Value) : Blk (w.setCell ⟨g, p, none⟩ v) g t (rowC N (fun q => if q = p then v else F q)) := by rw [← rowC_set]; exact h.set_ p v
theorem Blk.rowNew {w : World} {t : TypeId} (N : Nat) (z : Value) {g : Nat} (hg : g = w.heap.size) : Blk (w.alloc (.cells (madeCells #[z] N) t)) g t (rowC N (fun _ => z)) := by rw [rowC_made]; exact Blk.new _ _ _ hg
theorem Blk.rowEq {w : World} {g : Nat} {t : TypeId} {N : Nat} {F G : Nat → Value} (h : Blk w g t (rowC N F)) (he : ∀ p, p < N → F p = G p) : Blk w g t (rowC N G) := by rw [← rowC_congr he]; exact h

theorem ClaimAt.bnd {S : Foot} {w : World} {A B C : Option Addr} {n m q : Nat} {c : Claim} (h : ClaimAt S w A n B m C q c) : ClaimAt (fun k => S k ∧ k < w.heap.size) w A n B m C q c :=
  ⟨h.fs.bound FeatR.good, h.cs.bound CauseR.good, h.ms.bound MeasR.good⟩
theorem infoBool : (Tryd.prog.info? 4).map (fun i => (i.zero, i.size, i.bytes)) = some (some (.bool false), 1, 1) := by kernel_rfl

set_option maxRecDepth 100000 in
set_option maxHeartbeats 8000000 in
theorem left12_any {A B C T : Option Addr} {n ca m cb q cc nT cT : Nat} {c : Claim} (f : Nat) (w : World) (h : ClaimAt (fun _ => True) w A n B m C q c) (hok : OkC c) (hL : Rows (fun _ => True) w T nT (agreeL c)) (ha : agreeL c ≠ []) (hf : f < c.feats.length) :
    Calls Tryd.prog 51 #[.agg #[.slice A n ca, .slice B m cb, .slice C q cc], .slice T nT cT, .int .i64 f] w fun e w' => e = .returned (.int .i64 (leftR c (agreeL c) f)) ∧ Below w.heap.size w w' := by
  have hfn : f < n := by rw [← h.fs.len]; exact hf
  have hfi : (f : Int) < n := by omega
  obtain ⟨bf, of, sf, nom, er, rfl, hbf, hcf0, hcf1, hcf2, _, HF⟩ := h.fs.get hfn
  obtain ⟨_, _, he1, he2⟩ := hok.feat HF.out
  have hoff : Hid (offOf c f = er) := by rw [Hid, offOf, getD_of HF.out]
  have hntl : nT ≤ 32768 := by rw [← hL.len]; exact Nat.le_trans (List.length_filter_le _ _) (allT_len hok).1
  have hnt1 : 0 < nT := by rw [← hL.len]; exact List.length_pos_iff.2 ha
  have hnt1i : (0 : Int) < nT := by omega
  have Hnt := Lib.hid hL.len
  have Ha := Lib.hid ha
  have Hf := Lib.hid hf
  have Hok : Hid (∀ t ∈ agreeL c, TruthOk c t) := fun t ht => (allT_ok hok (List.mem_filter.1 ht).1).2
  have Htl : Hid (∀ t ∈ agreeL c, t.length ≤ 5) := fun t ht => by rw [(allT_ok hok (List.mem_filter.1 ht).1).1]; exact hok.nc
  obtain ⟨bt, ot, t0, A0, n0, c0, rfl, hc0, hV0, H0⟩ := Rows.get hL hnt1
  simp only [Nat.add_zero] at hc0
  have hT0 := Hok.out t0 (List.mem_of_getElem? H0.out)
  have hbt := World.block_lt_of_cell? _ _ hc0
  dsimp only at hbt
  clear ha hf
  go_enter Tryd.func51, Tryd.ntmps51
  go_wp2
  obtain ⟨wa, hwa⟩ : ∃ wa, w.alloc (.cells #[.slice (some ⟨bf, of, none⟩) n ca, .slice B m cb, .slice C q cc] 26) = wa := ⟨_, rfl⟩
  have hBa : Below w.heap.size w wa := by rw [← hwa]; exact bl_alloc (Below.refl _ _) _ (Nat.le_refl _)
  have hX : Blk wa w.heap.size 26 #[.slice (some ⟨bf, of, none⟩) n ca, .slice B m cb, .slice C q cc] := by rw [← hwa]; exact Blk.new _ _ _ rfl
  rw [hwa]
  have hca := h.keep (Keeps.below hBa)
  have hTa := hL.keep (SlR.good IntR.good) (Keeps.below hBa)
  have hc0a := getc hBa hc0
  have hV0a := hV0.keep IntR.good (Keeps.below hBa)
  clear hwa hcf0 hcf1 hcf2 hc0 hV0 h hL
  have hx0 := hX.cell 0
  have hx1 := hX.cell 1
  have hx2 := hX.cell 2
  have hbg := hX.lt
  generalize hL0 : len c t0 f = L0
  have HL0 := Lib.hid hL0
  have hL0b : -5000 ≤ L0 ∧ L0 ≤ 105000 := by rw [← hL0]; exact len_bd hok hT0 Hf.out
  clear hL0
  have kk : Hid (∀ W', Below wa.heap.size wa W' → W'.cell? ⟨w.heap.size, 0, none⟩ = some (.slice (some ⟨bf, of, none⟩) n ca) ∧ W'.cell? ⟨w.heap.size, 1, none⟩ = some (.slice B m cb) ∧ W'.cell? ⟨w.heap.size, 2, none⟩ = some (.slice C q cc) ∧ W'.cell? ⟨bt, ot, none⟩ = some (.slice A0 n0 c0)) := fun W' hb => ⟨getc hb hx0, getc hb hx1, getc hb hx2, getc hb hc0a⟩
  have HLEN : Hid (∀ W', Below wa.heap.size wa W' → Calls Tryd.prog 43 #[.agg #[.slice (some ⟨bf, of, none⟩) n ca, .slice B m cb, .slice C q cc], .slice A0 n0 c0, .int .i64 f] W' fun e w' => e = .returned (.int .i64 L0) ∧ Below W'.heap.size W' w') := fun W' hb =>
    (length_any f _ (hca.keep (Keeps.below hb)) hok (hV0a.keep IntR.good (Keeps.below hb)) hT0 Hf.out).mono fun e w' ⟨he, hb'⟩ => ⟨by rw [he, HL0.out], hb'⟩
  clear hx0 hx1 hx2
  refine wp_region_list (fun W => Below wa.heap.size wa W) (fun w w' => Below w.heap.size w w')
    [isV (.agg #[.slice (some ⟨bf, of, none⟩) n ca, .slice B m cb, .slice C q cc]), isV (.slice (some ⟨bt, ot, none⟩) nT cT), isV (.pointer (some ⟨bt, ot, none⟩)), isV (.slice A0 n0 c0), isV (.int .i64 f), isV (.int .i64 L0), isV (.agg #[.slice (some ⟨bf, of, none⟩) n ca, .slice B m cb, .slice C q cc]), isV (.slice (some ⟨bt, ot, none⟩) nT cT), isV (.pointer (some ⟨bt, ot, none⟩)), isV (.slice A0 n0 c0), isV (.int .i64 f), isV (.int .i64 L0), isV (.int .i64 L0), isV (.int .i64 L0)]
    (by kernel_rfl) (by kernel_rfl) (by kernel_rfl) (by simp) (by simp) (Below.refl _ _).drew ?stab2 ?step2 ?fin2
  case stab2 => exact (StabL.is (StabL.is (StabL.is (StabL.is (StabL.is (StabL.is (StabL.is (StabL.is (StabL.is (StabL.is (StabL.is (StabL.is (StabL.is (StabL.is StabL.nil))))))))))))))
  case step2 =>
    refine StepsL.isA ?_ (StepsL.isA ?_ (StepsL.isA ?_ (StepsL.isA ?_ (StepsL.isA ?_ (StepsL.isA ?_ (StepsL.isA ?_ (StepsL.isA ?_ (StepsL.isA ?_ (StepsL.isA ?_ (StepsL.isA ?_ (StepsL.isA ?_ (StepsL.isA ?_ (StepsL.isA ?_ StepsL.nil)))))))))))))
    · -- 0 load
      intro vs a W K ha hC hD hU hK
      have r3 : a.tmps[3]? = some (.pointer (some ⟨w.heap.size, 0, none⟩)) := by rw [ha]; kernel_rfl
      clear ha hU hD
      rw [if_pos (by rfl)]
      obtain ⟨k0, k1, k2, k3⟩ := kk.out W hC
      go_simp
      exact hK _ hC (Below.refl _ _)
    · -- 1 move
      intro vs a W K ha hC hD hU hK
      have r1 : a.tmps[1]? = some (.slice (some ⟨bt, ot, none⟩) nT cT) := by rw [ha]; kernel_rfl
      clear ha hU hD
      rw [if_pos (by rfl)]
      go_simp
      exact hK _ hC (Below.refl _ _)
    · -- 2 indexAddr
      intro vs a W K ha hC hD hU hK
      have r28 : a.tmps[28]? = some (vs 1) := by rw [ha]; kernel_rfl
      have q1 : vs 1 = .slice (some ⟨bt, ot, none⟩) nT cT := hD 1 (by simp [waits, Region.binds])
      rw [q1] at r28
      clear ha hU hD
      rw [if_pos (by rfl)]
      go_simp
      exact hK _ hC (Below.refl _ _)
    · -- 3 load
      intro vs a W K ha hC hD hU hK
      have r29 : a.tmps[29]? = some (vs 2) := by rw [ha]; kernel_rfl
      have q2 : vs 2 = .pointer (some ⟨bt, ot, none⟩) := hD 2 (by simp [waits, Region.binds])
      rw [q2] at r29
      clear ha hU hD
      rw [if_pos (by rfl)]
      obtain ⟨k0, k1, k2, k3⟩ := kk.out W hC
      go_simp
      exact hK _ hC (Below.refl _ _)
    · -- 4 move
      intro vs a W K ha hC hD hU hK
      have r2 : a.tmps[2]? = some (.int .i64 f) := by rw [ha]; kernel_rfl
      clear ha hU hD
      rw [if_pos (by rfl)]
      go_simp
      exact hK _ hC (Below.refl _ _)
    · -- 5 call
      intro vs a W K ha hC hD hU hK
      have r27 : a.tmps[27]? = some (vs 0) := by rw [ha]; kernel_rfl
      have q0 : vs 0 = .agg #[.slice (some ⟨bf, of, none⟩) n ca, .slice B m cb, .slice C q cc] := hD 0 (by simp [waits, Region.binds])
      rw [q0] at r27
      have r30 : a.tmps[30]? = some (vs 3) := by rw [ha]; kernel_rfl
      have q3 : vs 3 = .slice A0 n0 c0 := hD 3 (by simp [waits, Region.binds])
      rw [q3] at r30
      have r31 : a.tmps[31]? = some (vs 4) := by rw [ha]; kernel_rfl
      have q4 : vs 4 = .int .i64 f := hD 4 (by simp [waits, Region.binds])
      rw [q4] at r31
      clear ha hU hD
      rw [if_pos (by rfl)]
      go_simp
      refine (HLEN.out _ hC).mono ?_
      rintro e w' ⟨rfl, hb⟩
      exact hK _ (bl_call hC hb (Nat.le_refl _)) hb
    · -- 6 load
      intro vs a W K ha hC hD hU hK
      have r3 : a.tmps[3]? = some (.pointer (some ⟨w.heap.size, 0, none⟩)) := by rw [ha]; kernel_rfl
      clear ha hU hD
      rw [if_pos (by rfl)]
      obtain ⟨k0, k1, k2, k3⟩ := kk.out W hC
      go_simp
      exact hK _ hC (Below.refl _ _)
    · -- 7 move
      intro vs a W K ha hC hD hU hK
      have r1 : a.tmps[1]? = some (.slice (some ⟨bt, ot, none⟩) nT cT) := by rw [ha]; kernel_rfl
      clear ha hU hD
      rw [if_pos (by rfl)]
      go_simp
      exact hK _ hC (Below.refl _ _)
    · -- 8 indexAddr
      intro vs a W K ha hC hD hU hK
      have r34 : a.tmps[34]? = some (vs 7) := by rw [ha]; kernel_rfl
      have q7 : vs 7 = .slice (some ⟨bt, ot, none⟩) nT cT := hD 7 (by simp [waits, Region.binds])
      rw [q7] at r34
      clear ha hU hD
      rw [if_pos (by rfl)]
      go_simp
      exact hK _ hC (Below.refl _ _)
    · -- 9 load
      intro vs a W K ha hC hD hU hK
      have r35 : a.tmps[35]? = some (vs 8) := by rw [ha]; kernel_rfl
      have q8 : vs 8 = .pointer (some ⟨bt, ot, none⟩) := hD 8 (by simp [waits, Region.binds])
      rw [q8] at r35
      clear ha hU hD
      rw [if_pos (by rfl)]
      obtain ⟨k0, k1, k2, k3⟩ := kk.out W hC
      go_simp
      exact hK _ hC (Below.refl _ _)
    · -- 10 move
      intro vs a W K ha hC hD hU hK
      have r2 : a.tmps[2]? = some (.int .i64 f) := by rw [ha]; kernel_rfl
      clear ha hU hD
      rw [if_pos (by rfl)]
      go_simp
      exact hK _ hC (Below.refl _ _)
    · -- 11 call
      intro vs a W K ha hC hD hU hK
      have r33 : a.tmps[33]? = some (vs 6) := by rw [ha]; kernel_rfl
      have q6 : vs 6 = .agg #[.slice (some ⟨bf, of, none⟩) n ca, .slice B m cb, .slice C q cc] := hD 6 (by simp [waits, Region.binds])
      rw [q6] at r33
      have r36 : a.tmps[36]? = some (vs 9) := by rw [ha]; kernel_rfl
      have q9 : vs 9 = .slice A0 n0 c0 := hD 9 (by simp [waits, Region.binds])
      rw [q9] at r36
      have r37 : a.tmps[37]? = some (vs 10) := by rw [ha]; kernel_rfl
      have q10 : vs 10 = .int .i64 f := hD 10 (by simp [waits, Region.binds])
      rw [q10] at r37
      clear ha hU hD
      rw [if_pos (by rfl)]
      go_simp
      refine (HLEN.out _ hC).mono ?_
      rintro e w' ⟨rfl, hb⟩
      exact hK _ (bl_call hC hb (Nat.le_refl _)) hb
    · -- 12 assign
      intro vs a W K ha hC hD hU hK
      have r32 : a.tmps[32]? = some (vs 5) := by rw [ha]; kernel_rfl
      have q5 : vs 5 = .int .i64 L0 := hD 5 (by simp [waits, Region.binds])
      rw [q5] at r32
      clear ha hU hD
      rw [if_pos (by rfl)]
      go_simp
      exact hK _ hC (Below.refl _ _)
    · -- 13 assign
      intro vs a W K ha hC hD hU hK
      have r38 : a.tmps[38]? = some (vs 11) := by rw [ha]; kernel_rfl
      have q11 : vs 11 = .int .i64 L0 := hD 11 (by simp [waits, Region.binds])
      rw [q11] at r38
      clear ha hU hD
      rw [if_pos (by rfl)]
      go_simp
      exact hK _ hC (Below.refl _ _)
  case fin2 =>
    intro vs wb hC hE hU
    have e12 := hE 12 (by simp)
    have e13 := hE 13 (by simp)
    simp only [envOf, List.getD_cons_succ, List.getD_cons_zero, isV] at e12 e13
    simp only [fillA, Act.put, List.setIfInBounds_toArray, List.set_cons_zero, List.set_cons_succ, Nat.zero_add, Nat.reduceAdd, e12, e13]
    clear e12 e13 hE hU kk HLEN
    simp
    have hBwb := bl_call hBa hC (Nat.le_refl _)
    have hXb := hX.bl hC
    have hcb := hca.keep (Keeps.below hC)
    have hTb := hTa.keep (SlR.good IntR.good) (Keeps.below hC)
    have hbtb : bt < wb.heap.size := Nat.lt_of_lt_of_le hbt (Nat.le_trans hBa.size hC.size)
    have hsb : w.heap.size < wb.heap.size := Nat.lt_of_lt_of_le hbg hC.size
    clear hca hTa hX hC hBa hbg hbt hc0a hV0a
    have hl0 : Hid (((agreeL c).map fun t => len c t f)[0]? = some L0) := by rw [Hid, List.getElem?_map, H0.out, ← HL0.out]; rfl
    have Hfin : Hid (endsOf ((agreeL c).map fun t => len c t f) = ends L0 L0 ((agreeL c).map fun t => len c t f)) := (endsOf_take hl0.out).symm
    clear hT0
    go_wp2
    go_loopw [8, 9, 10] (fun l8 l9 i wr => ∃ (k : Nat) (lo hi : Int), k ≤ nT ∧ i = .int .i64 k ∧ l8 = .int .i64 lo ∧ l9 = .int .i64 hi ∧ (-5000 ≤ lo ∧ lo ≤ hi ∧ hi ≤ 105000) ∧ Below wb.heap.size wb wr ∧ Hid ((lo, hi) = ends L0 L0 (((agreeL c).take k).map fun t => len c t f))) (fun _ _ i _ => nT - (intOf i).toNat)
    case atStart => exact ⟨0, L0, L0, Nat.zero_le _, rfl, rfl, rfl, ⟨hL0b.1, Int.le_refl _, hL0b.2⟩, Below.refl _ _, rfl⟩
    case round =>
      obtain ⟨k, lo, hi, hk, rfl, rfl, rfl, hlh, hB, Hl⟩ := hrel
      by_cases hlt : k < nT
      · have hTr := hTb.keep (SlR.good IntR.good) (Keeps.below hB)
        obtain ⟨b2, o2, t, Av, nv, cv, hAe, hck, hVk, Hot⟩ := Rows.get hTr hlt
        obtain ⟨rfl, rfl⟩ : bt = b2 ∧ ot = o2 := by injection hAe with hAe; injection hAe with e1 e2; exact ⟨e1, e2⟩
        have hTk := Hok.out t (List.mem_of_getElem? Hot.out)
        have hlb := len_bd hok hTk Hf.out
        generalize hLe : len c t f = L at hlb
        have HLk := Lib.hid hLe
        have Hs : Hid (ends L0 L0 (((agreeL c).take (k + 1)).map fun t => len c t f) = (min lo L, max hi L)) := by
          rw [Hid, take_snoc_get Hot.out, List.map_append, List.map_cons, List.map_nil, ends_snoc, ← Hl.out, hLe]
        clear hLe
        obtain ⟨mn, hmn⟩ : ∃ mn, (if L < lo then L else lo) = mn := ⟨_, rfl⟩
        obtain ⟨mx, hmx⟩ : ∃ mx, (if hi < L then L else hi) = mx := ⟨_, rfl⟩
        have Hmn := Lib.hid hmn
        have Hmx := Lib.hid hmx
        have hbd : -5000 ≤ mn ∧ mn ≤ mx ∧ mx ≤ 105000 := by
          rw [← hmn, ← hmx]
          split <;> split <;> omega
        have hki : (k : Int) < nT := by omega
        have hXr := hXb.bl hB
        have kk2 : Hid (∀ W', Below wr.heap.size wr W' → W'.cell? ⟨w.heap.size, 0, none⟩ = some (.slice (some ⟨bf, of, none⟩) n ca) ∧ W'.cell? ⟨w.heap.size, 1, none⟩ = some (.slice B m cb) ∧ W'.cell? ⟨w.heap.size, 2, none⟩ = some (.slice C q cc) ∧ W'.cell? ⟨bt, ot + k, none⟩ = some (.slice Av nv cv)) := fun W' hb => ⟨(hXr.bl hb).cell 0, (hXr.bl hb).cell 1, (hXr.bl hb).cell 2, getc hb hck⟩
        have HLEN2 : Hid (∀ W', Below wr.heap.size wr W' → Calls Tryd.prog 43 #[.agg #[.slice (some ⟨bf, of, none⟩) n ca, .slice B m cb, .slice C q cc], .slice Av nv cv, .int .i64 f] W' fun e w' => e = .returned (.int .i64 L) ∧ Below W'.heap.size W' w') := fun W' hb =>
          (length_any f _ ((hcb.keep (Keeps.below hB)).keep (Keeps.below hb)) hok (hVk.keep IntR.good (Keeps.below hb)) hTk Hf.out).mono fun e w' ⟨he, hb'⟩ => ⟨by rw [he, HLk.out], hb'⟩
        have hBH := Lib.hid hB
        clear hck hXr hTr hVk hB
        go_wp2
        refine wp_region_list (fun W => Below wr.heap.size wr W) (fun w w' => Below w.heap.size w w')
          [isV (.int .i64 lo), isV (.agg #[.slice (some ⟨bf, of, none⟩) n ca, .slice B m cb, .slice C q cc]), isV (.slice (some ⟨bt, ot, none⟩) nT cT), isV (.int .i64 k), isV (.pointer (some ⟨bt, ot + k, none⟩)), isV (.slice Av nv cv), isV (.int .i64 f), isV (.int .i64 L), isV (.int .i64 mn), isV (.int .i64 hi), isV (.agg #[.slice (some ⟨bf, of, none⟩) n ca, .slice B m cb, .slice C q cc]), isV (.slice (some ⟨bt, ot, none⟩) nT cT), isV (.int .i64 k), isV (.pointer (some ⟨bt, ot + k, none⟩)), isV (.slice Av nv cv), isV (.int .i64 f), isV (.int .i64 L), isV (.int .i64 mx), isV (.int .i64 mn), isV (.int .i64 mx)]
          (by kernel_rfl) (by kernel_rfl) (by kernel_rfl) (by simp) (by simp) (Below.refl _ _).drew ?stab6 ?step6 ?fin6
        case stab6 => exact (StabL.is (StabL.is (StabL.is (StabL.is (StabL.is (StabL.is (StabL.is (StabL.is (StabL.is (StabL.is (StabL.is (StabL.is (StabL.is (StabL.is (StabL.is (StabL.is (StabL.is (StabL.is (StabL.is (StabL.is StabL.nil))))))))))))))))))))
        case step6 =>
          refine StepsL.isA ?_ (StepsL.isA ?_ (StepsL.isA ?_ (StepsL.isA ?_ (StepsL.isA ?_ (StepsL.isA ?_ (StepsL.isA ?_ (StepsL.isA ?_ (StepsL.isA ?_ (StepsL.isA ?_ (StepsL.isA ?_ (StepsL.isA ?_ (StepsL.isA ?_ (StepsL.isA ?_ (StepsL.isA ?_ (StepsL.isA ?_ (StepsL.isA ?_ (StepsL.isA ?_ (StepsL.isA ?_ (StepsL.isA ?_ StepsL.nil)))))))))))))))))))
          · -- 0 move
            intro vs a W K ha hC hD hU hK
            have r8 : a.tmps[8]? = some (vs 18) := by rw [ha]; kernel_rfl
            have u18 : vs 18 = .int .i64 lo := (hU 18 _ rfl (by simp [waits, Region.binds])).trans (by kernel_rfl)
            rw [u18] at r8
            clear ha hU hD
            rw [if_pos (by rfl)]
            go_simp
            exact hK _ hC (Below.refl _ _)
          · -- 1 load
            intro vs a W K ha hC hD hU hK
            have r3 : a.tmps[3]? = some (.pointer (some ⟨w.heap.size, 0, none⟩)) := by rw [ha]; kernel_rfl
            clear ha hU hD
            rw [if_pos (by rfl)]
            obtain ⟨k0, k1, k2, k3⟩ := kk2.out W hC
            go_simp
            exact hK _ hC (Below.refl _ _)
          · -- 2 move
            intro vs a W K ha hC hD hU hK
            have r1 : a.tmps[1]? = some (.slice (some ⟨bt, ot, none⟩) nT cT) := by rw [ha]; kernel_rfl
            clear ha hU hD
            rw [if_pos (by rfl)]
            go_simp
            exact hK _ hC (Below.refl _ _)
          · -- 3 move
            intro vs a W K ha hC hD hU hK
            have r10 : a.tmps[10]? = some (.int .i64 k) := by rw [ha]; kernel_rfl
            clear ha hU hD
            rw [if_pos (by rfl)]
            go_simp
            exact hK _ hC (Below.refl _ _)
          · -- 4 indexAddr
            intro vs a W K ha hC hD hU hK
            have r47 : a.tmps[47]? = some (vs 2) := by rw [ha]; kernel_rfl
            have q2 : vs 2 = .slice (some ⟨bt, ot, none⟩) nT cT := hD 2 (by simp [waits, Region.binds])
            rw [q2] at r47
            have r48 : a.tmps[48]? = some (vs 3) := by rw [ha]; kernel_rfl
            have q3 : vs 3 = .int .i64 k := hD 3 (by simp [waits, Region.binds])
            rw [q3] at r48
            clear ha hU hD
            rw [if_pos (by rfl)]
            go_simp
            exact hK _ hC (Below.refl _ _)
          · -- 5 load
            intro vs a W K ha hC hD hU hK
            have r49 : a.tmps[49]? = some (vs 4) := by rw [ha]; kernel_rfl
            have q4 : vs 4 = .pointer (some ⟨bt, ot + k, none⟩) := hD 4 (by simp [waits, Region.binds])
            rw [q4] at r49
            clear ha hU hD
            rw [if_pos (by rfl)]
            obtain ⟨k0, k1, k2, k3⟩ := kk2.out W hC
            go_simp
            exact hK _ hC (Below.refl _ _)
          · -- 6 move
            intro vs a W K ha hC hD hU hK
            have r2 : a.tmps[2]? = some (.int .i64 f) := by rw [ha]; kernel_rfl
            clear ha hU hD
            rw [if_pos (by rfl)]
            go_simp
            exact hK _ hC (Below.refl _ _)
          · -- 7 call
            intro vs a W K ha hC hD hU hK
            have r46 : a.tmps[46]? = some (vs 1) := by rw [ha]; kernel_rfl
            have q1 : vs 1 = .agg #[.slice (some ⟨bf, of, none⟩) n ca, .slice B m cb, .slice C q cc] := hD 1 (by simp [waits, Region.binds])
            rw [q1] at r46
            have r50 : a.tmps[50]? = some (vs 5) := by rw [ha]; kernel_rfl
            have q5 : vs 5 = .slice Av nv cv := hD 5 (by simp [waits, Region.binds])
            rw [q5] at r50
            have r51 : a.tmps[51]? = some (vs 6) := by rw [ha]; kernel_rfl
            have q6 : vs 6 = .int .i64 f := hD 6 (by simp [waits, Region.binds])
            rw [q6] at r51
            clear ha hU hD
            rw [if_pos (by rfl)]
            go_simp
            refine (HLEN2.out _ hC).mono ?_
            rintro e w' ⟨rfl, hb⟩
            exact hK _ (bl_call hC hb (Nat.le_refl _)) hb
          · -- 8 min
            intro vs a W K ha hC hD hU hK
            have r45 : a.tmps[45]? = some (vs 0) := by rw [ha]; kernel_rfl
            have q0 : vs 0 = .int .i64 lo := hD 0 (by simp [waits, Region.binds])
            rw [q0] at r45
            have r52 : a.tmps[52]? = some (vs 7) := by rw [ha]; kernel_rfl
            have q7 : vs 7 = .int .i64 L := hD 7 (by simp [waits, Region.binds])
            rw [q7] at r52
            clear ha hU hD
            rw [if_pos (by rfl)]
            go_simp
            exact hK _ hC (Below.refl _ _)
          · -- 9 move
            intro vs a W K ha hC hD hU hK
            have r9 : a.tmps[9]? = some (vs 19) := by rw [ha]; kernel_rfl
            have u19 : vs 19 = .int .i64 hi := (hU 19 _ rfl (by simp [waits, Region.binds])).trans (by kernel_rfl)
            rw [u19] at r9
            clear ha hU hD
            rw [if_pos (by rfl)]
            go_simp
            exact hK _ hC (Below.refl _ _)
          · -- 10 load
            intro vs a W K ha hC hD hU hK
            have r3 : a.tmps[3]? = some (.pointer (some ⟨w.heap.size, 0, none⟩)) := by rw [ha]; kernel_rfl
            clear ha hU hD
            rw [if_pos (by rfl)]
            obtain ⟨k0, k1, k2, k3⟩ := kk2.out W hC
            go_simp
            exact hK _ hC (Below.refl _ _)
          · -- 11 move
            intro vs a W K ha hC hD hU hK
            have r1 : a.tmps[1]? = some (.slice (some ⟨bt, ot, none⟩) nT cT) := by rw [ha]; kernel_rfl
            clear ha hU hD
            rw [if_pos (by rfl)]
            go_simp
            exact hK _ hC (Below.refl _ _)
          · -- 12 move
            intro vs a W K ha hC hD hU hK
            have r10 : a.tmps[10]? = some (.int .i64 k) := by rw [ha]; kernel_rfl
            clear ha hU hD
            rw [if_pos (by rfl)]
            go_simp
            exact hK _ hC (Below.refl _ _)
          · -- 13 indexAddr
            intro vs a W K ha hC hD hU hK
            have r56 : a.tmps[56]? = some (vs 11) := by rw [ha]; kernel_rfl
            have q11 : vs 11 = .slice (some ⟨bt, ot, none⟩) nT cT := hD 11 (by simp [waits, Region.binds])
            rw [q11] at r56
            have r57 : a.tmps[57]? = some (vs 12) := by rw [ha]; kernel_rfl
            have q12 : vs 12 = .int .i64 k := hD 12 (by simp [waits, Region.binds])
            rw [q12] at r57
            clear ha hU hD
            rw [if_pos (by rfl)]
            go_simp
            exact hK _ hC (Below.refl _ _)
          · -- 14 load
            intro vs a W K ha hC hD hU hK
            have r58 : a.tmps[58]? = some (vs 13) := by rw [ha]; kernel_rfl
            have q13 : vs 13 = .pointer (some ⟨bt, ot + k, none⟩) := hD 13 (by simp [waits, Region.binds])
            rw [q13] at r58
            clear ha hU hD
            rw [if_pos (by rfl)]
            obtain ⟨k0, k1, k2, k3⟩ := kk2.out W hC
            go_simp
            exact hK _ hC (Below.refl _ _)
          · -- 15 move
            intro vs a W K ha hC hD hU hK
            have r2 : a.tmps[2]? = some (.int .i64 f) := by rw [ha]; kernel_rfl
            clear ha hU hD
            rw [if_pos (by rfl)]
            go_simp
            exact hK _ hC (Below.refl _ _)
          · -- 16 call
            intro vs a W K ha hC hD hU hK
            have r55 : a.tmps[55]? = some (vs 10) := by rw [ha]; kernel_rfl
            have q10 : vs 10 = .agg #[.slice (some ⟨bf, of, none⟩) n ca, .slice B m cb, .slice C q cc] := hD 10 (by simp [waits, Region.binds])
            rw [q10] at r55
            have r59 : a.tmps[59]? = some (vs 14) := by rw [ha]; kernel_rfl
            have q14 : vs 14 = .slice Av nv cv := hD 14 (by simp [waits, Region.binds])
            rw [q14] at r59
            have r60 : a.tmps[60]? = some (vs 15) := by rw [ha]; kernel_rfl
            have q15 : vs 15 = .int .i64 f := hD 15 (by simp [waits, Region.binds])
            rw [q15] at r60
            clear ha hU hD
            rw [if_pos (by rfl)]
            go_simp
            refine (HLEN2.out _ hC).mono ?_
            rintro e w' ⟨rfl, hb⟩
            exact hK _ (bl_call hC hb (Nat.le_refl _)) hb
          · -- 17 max
            intro vs a W K ha hC hD hU hK
            have r54 : a.tmps[54]? = some (vs 9) := by rw [ha]; kernel_rfl
            have q9 : vs 9 = .int .i64 hi := hD 9 (by simp [waits, Region.binds])
            rw [q9] at r54
            have r61 : a.tmps[61]? = some (vs 16) := by rw [ha]; kernel_rfl
            have q16 : vs 16 = .int .i64 L := hD 16 (by simp [waits, Region.binds])
            rw [q16] at r61
            clear ha hU hD
            rw [if_pos (by rfl)]
            go_simp
            exact hK _ hC (Below.refl _ _)
          · -- 18 assign
            intro vs a W K ha hC hD hU hK
            have r53 : a.tmps[53]? = some (vs 8) := by rw [ha]; kernel_rfl
            have q8 : vs 8 = .int .i64 mn := hD 8 (by simp [waits, Region.binds])
            rw [q8] at r53
            clear ha hU hD
            rw [if_pos (by rfl)]
            go_simp
            exact hK _ hC (Below.refl _ _)
          · -- 19 assign
            intro vs a W K ha hC hD hU hK
            have r62 : a.tmps[62]? = some (vs 17) := by rw [ha]; kernel_rfl
            have q17 : vs 17 = .int .i64 mx := hD 17 (by simp [waits, Region.binds])
            rw [q17] at r62
            clear ha hU hD
            rw [if_pos (by rfl)]
            go_simp
            exact hK _ hC (Below.refl _ _)
        case fin6 =>
          intro vs W hC hE hU
          have e18 := hE 18 (by simp)
          have e19 := hE 19 (by simp)
          simp only [envOf, List.getD_cons_succ, List.getD_cons_zero, isV] at e18 e19
          simp only [fillA, Act.put, List.setIfInBounds_toArray, List.set_cons_zero, List.set_cons_succ, Nat.zero_add, Nat.reduceAdd, e18, e19]
          clear e18 e19 hE hU kk2 HLEN2
          simp
          have HCC := Lib.hid hC
          clear hC hmn hmx
          go_wp2
          go_roundw
          case rel => exact ⟨k + 1, mn, mx, by omega, by go_num, rfl, rfl, hbd, bl_call hBH.out HCC.out (Nat.le_refl _), by rw [Hid, Hs.out, ← min_if lo L, ← max_if hi L, Hmn.out, Hmx.out]⟩
          case measure => simp [intOf]; omega
      · obtain rfl : nT = k := by omega
        have HE : Hid ((lo, hi) = endsOf ((agreeL c).map fun t => len c t f)) := by rw [Hid, Hl.out, Hfin.out, List.take_of_length_le (by rw [Hnt.out]; exact Nat.le_refl _)]
        obtain ⟨N, hN⟩ : ∃ N : Nat, (N : Int) = hi - lo + 2 * er + 1 := ⟨(hi - lo + 2 * er + 1).toNat, by omega⟩
        have HN : Hid ((N : Int) = hi - lo + 2 * offOf c f + 1) := by rw [Hid, hoff.out]; exact hN
        have hN1 : 1 ≤ N := by omega
        have hN2 : N ≤ 200000 := by omega
        have hw1 : IntKind.i64.wrap (hi - lo) = hi - lo := by rw [IntKind.wrap_i64]; omega
        have hw2 : IntKind.i64.wrap (2 * er) = 2 * er := by rw [IntKind.wrap_i64]; omega
        have hw3 : IntKind.i64.wrap (hi - lo + 2 * er) = hi - lo + 2 * er := by rw [IntKind.wrap_i64]; omega
        have hw4 : IntKind.i64.wrap (hi - lo + 2 * er + 1) = N := by rw [IntKind.wrap_i64]; omega
        have HNE := Lib.hid hN
        have hmk := run_make_row' (P := Tryd.prog) 34 3 (.int .i64 0) 8 Tryd.underlying34 infoInt rfl .i64 .i64 N (by omega) (by omega)
        have hmb := run_make_row' (P := Tryd.prog) 113 4 (.bool false) 1 Tryd.underlying113 infoBool rfl .i64 .i64 N (by omega) (by omega)
        have HMB := Lib.hid hmb
        clear hmb hN
        have hXr := hXb.bl hB
        have hcr := (hcb.keep (Keeps.below hB)).bnd
        have hTr := (hTb.keep (SlR.good IntR.good) (Keeps.below hB)).bound (SlR.good IntR.good)
        have hBwr := bl_call hBwb hB (Nat.le_refl _)
        have hbtr : bt < wr.heap.size := Nat.lt_of_lt_of_le hbtb hB.size
        have hsr : w.heap.size < wr.heap.size := Nat.lt_of_lt_of_le hsb hB.size
        have hm0 : wr.cell? ⟨w.heap.size, 0, none⟩ = some (.slice (some ⟨bf, of, none⟩) n ca) := hXr.cell 0
        have hm1 : wr.cell? ⟨w.heap.size, 1, none⟩ = some (.slice B m cb) := hXr.cell 1
        have hm2 : wr.cell? ⟨w.heap.size, 2, none⟩ = some (.slice C q cc) := hXr.cell 2
        clear hXb hcb hTb hBwb hB hbtb hsb Hl Hfin hl0
        go_wp2_with fail
        clear hm0 hm1 hm2
        have HW2 := Lib.hid hw2
        clear hw1 hw2 hw3 hw4 hmk
        obtain ⟨gm, hgm⟩ : ∃ gm, wr.heap.size = gm := ⟨_, rfl⟩
        obtain ⟨wm, hwm⟩ : ∃ wm, wr.alloc (.cells (madeCells #[.int .i64 0] N) 3) = wm := ⟨_, rfl⟩
        have hBm : Below wr.heap.size wr wm := by rw [← hwm]; exact bl_alloc (Below.refl _ _) _ (Nat.le_refl _)
        have hM : Blk wm gm 3 (rowC N (fun _ => .int .i64 0)) := by rw [← hwm]; exact Blk.rowNew N _ hgm.symm
        rw [hwm, hgm]
        rw [hgm] at hsr hbtr hTr hcr
        have hXm := hXr.bl hBm
        have hcm := hcr.keep (Keeps.below hBm)
        have hTm := (hTr.keep (SlR.good IntR.good) (Keeps.below hBm)).mono (SlR.good IntR.good) (fun k h => h.2)
        have hBwm := bl_call hBwr hBm (Nat.le_refl _)
        have hgml := hM.lt
        have HGM : Hid (w.heap.size ≤ gm) := Nat.le_of_lt hsr
        clear hwm hgm hBm hXr hcr hTr hBwr
        refine (explains_low _ hcm hok).mono ?_
        rintro e we ⟨As, ns, cs, rfl, hS, hBe⟩
        have hns : ns ≤ 192 := by rw [← hS.len]; exact explains_len hok
        have Hns := Lib.hid hS.len
        have hXe := hXm.bl hBe
        have hce := hcm.keep (Keeps.below hBe)
        have hTe := (hTm.keep (SlR.good IntR.good) (Keeps.below hBe))
        have hBwe := bl_call hBwm hBe (Nat.le_refl _)
        have hMe := hM.bl hBe
        have hgme := hMe.lt
        have hSe := hS.mono (SlR.good IntR.good) (T := fun k => gm < k) (fun k hk => Nat.lt_of_lt_of_le hgml hk)
        clear hXm hcm hTm hBwm hM hBe hS hgml
        go_wp2
        go_loopw [13] (fun i wr => ∃ k : Nat, k ≤ ns ∧ i = .int .i64 k ∧ Kept (fun j => j = gm) we wr ∧ Blk wr gm 3 (rowC N (fun p => .int .i64 (manyC c f lo (agreeL c) ((explainsL c).take k) p)))) (fun i _ => ns - (intOf i).toNat)
        case atStart => exact ⟨0, Nat.zero_le _, rfl, Kept.refl _ _, hMe.rowEq fun p _ => rfl⟩
        case round =>
          obtain ⟨k, hk, rfl, hK, hMk⟩ := hrel
          by_cases hlt : k < ns
          · have hki : (k : Int) < ns := by omega
            have hSr := hSe.keep (SlR.good IntR.good) (hK.keeps (fun j hj => by omega))
            obtain ⟨bs, os, s, As2, ns2, cs2, rfl, hcs, hVs, Hos⟩ := Rows.get hSr hlt
            have Hst := Lib.hid (take_snoc_get Hos.out)
            have hTk := hTe.keep (SlR.good IntR.good) (hK.keeps (fun j hj => by omega))
            have hXk : Blk wr w.heap.size 26 #[.slice (some ⟨bf, of, none⟩) n ca, .slice B m cb, .slice C q cc] := (hK.block _ hXe.lt (by omega)).trans hXe
            have hce2 := hce.keep (hK.keeps (fun j hj => by omega))
            have hns2 : ns2 ≤ 1000000 := by
              have := explains_short hok (List.mem_of_getElem? Hos.out)
              rw [← hVs.len]; omega
            have hbsl := World.block_lt_of_cell? wr _ hcs
            dsimp only at hbsl
            have hsw : we.heap.size ≤ wr.heap.size := hK.size
            have hmb := HMB.out
            go_wp2
            clear hmb
            obtain ⟨gs, hgs⟩ : ∃ gs, wr.heap.size = gs := ⟨_, rfl⟩
            obtain ⟨ws, hws⟩ : ∃ ws, wr.alloc (.cells (madeCells #[.bool false] N) 4) = ws := ⟨_, rfl⟩
            have hBs : Below wr.heap.size wr ws := by rw [← hws]; exact bl_alloc (Below.refl _ _) _ (Nat.le_refl _)
            have hH : Blk ws gs 4 (rowC N (fun _ => .bool false)) := by rw [← hws]; exact Blk.rowNew N _ hgs.symm
            rw [hws, hgs]
            have hXs := hXk.bl hBs
            have hMs := hMk.bl hBs
            have hcs2 := hce2.keep (Keeps.below hBs)
            have hTs := hTk.keep (SlR.good IntR.good) (Keeps.below hBs)
            have hVs2 := (hVs.bound IntR.good).keep IntR.good (Keeps.below hBs)
            have hcss := getc hBs hcs
            have hKws : Kept (fun j => j = gm) we ws := hK.trans (Kept.of_bl hBs)
            have hMl := hMk.lt
            rw [hgs] at hsw hbsl hVs2 hMl
            clear hws hgs hBs hXk hMk hce2 hTk hVs hcs hSr hK
            have hgsl := hH.lt
            go_loopw [15] (fun i wr => ∃ j : Nat, j ≤ nT ∧ i = .int .i64 j ∧ Kept (fun x => x = gs) ws wr ∧ Blk wr gs 4 (rowC N (fun p => .bool (shownB c f lo s ((agreeL c).take j) p)))) (fun i _ => nT - (intOf i).toNat)
            case atStart => exact ⟨0, Nat.zero_le _, rfl, Kept.refl _ _, hH.rowEq fun p _ => rfl⟩
            case round =>
              obtain ⟨j, hj, rfl, hKj, hHj⟩ := hrel
              by_cases hjt : j < nT
              · have hji : (j : Int) < nT := by omega
                have hTj := hTs.keep (SlR.good IntR.good) (hKj.keeps (fun x hx => by omega))
                obtain ⟨b3, o3, t, Av, nv, cv, hAe, hck, hVk, Hot⟩ := Rows.get hTj hjt
                obtain ⟨rfl, rfl⟩ : bt = b3 ∧ ot = o3 := by injection hAe with hAe; injection hAe with e1 e2; exact ⟨e1, e2⟩
                have hTk := Hok.out t (List.mem_of_getElem? Hot.out)
                have hnv : nv ≤ 1000000 := by have := Htl.out t (List.mem_of_getElem? Hot.out); rw [← hVk.len]; omega
                have hVj := hVs2.keep IntR.good (hKj.keeps (fun x hx => by omega))
                have hcsj : wr.cell? ⟨bs, os + k, none⟩ = some (.slice As2 ns2 cs2) := Kept.cell hKj hcss (by dsimp only; omega)
                have hbt := World.block_lt_of_cell? wr _ hck
                have hbs := World.block_lt_of_cell? wr _ hcsj
                dsimp only at hbt hbs
                have Hsn := Lib.hid (fun p => shownB_snoc c f lo s ((agreeL c).take j) t p)
                have HTK := Lib.hid (take_snoc_get Hot.out)
                obtain ⟨wq, hwq⟩ : ∃ wq : World, wr = wq := ⟨_, rfl⟩
                rw [hwq] at hck hcsj hVk hVj hHj hKj hbt hbs ⊢
                clear hwq hTj
                go_wp2
                go_region_held3 (fun w' => w'.cell? ⟨bt, ot + j, none⟩ = some (.slice Av nv cv) ∧ w'.cell? ⟨bs, os + k, none⟩ = some (.slice As2 ns2 cs2))
                  (first | exact ⟨hck, hcsj⟩ | exact ⟨getc hb1 hck, getc hb1 hcsj⟩ | exact ⟨getc (bl_drewN hb1 _) hck, getc (bl_drewN hb1 _) hcsj⟩)
                  (first | (go_at_call 40; refine (set_any _ (hVk.keep IntR.good (Keeps.drew _)) hnv).mono ?_; rintro e w1 ⟨A1, n1, c1, rfl, hW, hb1⟩) | (go_at_call 22; refine (ints_any _ hW ((hVj.keep IntR.good (Keeps.drew _)).keep IntR.good (Keeps.below hb1))).mono ?_; rintro e w2 ⟨rfl, q1, rfl⟩))
                rename_i hHeld
                clear hHeld
                have hB1 : Below wq.heap.size wq (w1.drewN q1) := bl_drewN (bl_call (Below.refl _ _).drew hb1 (Nat.le_refl _)) q1
                obtain ⟨wx, hwx⟩ : ∃ wx, w1.drewN q1 = wx := ⟨_, rfl⟩
                rw [hwx] at hB1 ⊢
                have hKx : Kept (fun x => x = gs) ws wx := hKj.trans (Kept.of_bl hB1)
                have hHx := hHj.bl hB1
                have hckx := getc hB1 hck
                have hVx := hVk.keep IntR.good (Keeps.below hB1)
                have hcx := hcs2.keep (hKx.keeps (fun x hx => by omega))
                have hXx : Blk wx w.heap.size 26 #[.slice (some ⟨bf, of, none⟩) n ca, .slice B m cb, .slice C q cc] := (hKx.block _ hXs.lt (by omega)).trans hXs
                have hbtx := World.block_lt_of_cell? _ _ hckx
                have hbgx := hXx.lt
                dsimp only at hbtx
                clear hwx hB1 hb1 hW hck hcsj hVk hVj hHj hKj hbt hbs
                cases hd : decide (setL t = s)
                · have HS := Lib.hid (fun p => (Hsn.out p).trans (show _ = shownB c f lo s ((agreeL c).take j) p by rw [hd]; simp))
                  clear hd
                  go_wp2
                  go_roundw
                  case rel => exact ⟨j + 1, by omega, by go_num, hKx, hHx.rowEq fun p _ => by rw [HTK.out, HS.out]⟩
                  case measure => simp [intOf]; omega
                · have HLE : lo ≤ len c t f ∧ len c t f ≤ hi := by
                    have := endsOf_in (L := (agreeL c).map fun t => len c t f) (List.mem_map.2 ⟨t, List.mem_of_getElem? Hot.out, rfl⟩)
                    rw [← HE.out] at this; exact this
                  have hHIT : ∀ (p at0 : Nat), (at0 : Int) = len c t f - lo → hitB c f (lo - offOf c f + p) t = (decide (at0 ≤ p) && decide (p < at0 + (2 * er + 1).toNat)) := fun p at0 hat => by
                    unfold hitB
                    rw [hoff.out]
                    congr 1 <;> exact decide_eq_decide.2 (by omega)
                  have HS : Hid (∀ p, shownB c f lo s ((agreeL c).take j ++ [t]) p = (shownB c f lo s ((agreeL c).take j) p || hitB c f (lo - offOf c f + p) t)) := fun p => (Hsn.out p).trans (by rw [hd, Bool.true_and])
                  have HLEN : Hid (∀ W, ClaimAt (fun k => True ∧ k < gm) W (some ⟨bf, of, none⟩) n B m C q c → Ints (fun _ => True) W Av nv t → Calls Tryd.prog 43 #[.agg #[.slice (some ⟨bf, of, none⟩) n ca, .slice B m cb, .slice C q cc], .slice Av nv cv, .int .i64 f] W fun e w' => e = .returned (.int .i64 (len c t f)) ∧ Below W.heap.size W w') := fun W h1 h2 => length_any f W h1 hok h2 hTk Hf.out
                  obtain ⟨L, hL⟩ : ∃ L, len c t f = L := ⟨_, rfl⟩
                  rw [hL] at HLE hHIT HLEN
                  clear hL hd
                  obtain ⟨at0, hat⟩ : ∃ at0 : Nat, (at0 : Int) = L - lo := ⟨(L - lo).toNat, by omega⟩
                  have HIT : Hid (∀ p : Nat, hitB c f (lo - offOf c f + p) t = (decide (at0 ≤ p) && decide (p < at0 + (2 * er + 1).toNat))) := fun p => hHIT p at0 hat
                  clear hHIT
                  have hNE := HNE.out
                  have hat2 : (at0 : Int) + 2 * er + 1 ≤ N := by omega
                  have hwa : IntKind.i64.wrap (L - lo) = at0 := by rw [IntKind.wrap_i64]; omega
                  have hw2 := HW2.out
                  have hw3 : IntKind.i64.wrap (at0 + 2 * er) = at0 + 2 * er := by rw [IntKind.wrap_i64]; omega
                  clear hNE hat HLE
                  have hx0 : wx.cell? ⟨w.heap.size, 0, none⟩ = some (.slice (some ⟨bf, of, none⟩) n ca) := hXx.cell 0
                  have hx1 : wx.cell? ⟨w.heap.size, 1, none⟩ = some (.slice B m cb) := hXx.cell 1
                  have hx2 : wx.cell? ⟨w.heap.size, 2, none⟩ = some (.slice C q cc) := hXx.cell 2
                  have HVX := Lib.hid (hVx.mono IntR.good (T := fun _ => True) (fun _ _ => trivial))
                  have HCX := Lib.hid hcx
                  clear hVx hcx hXx
                  go_wp2
                  go_region_held3 (fun w' => w'.cell? ⟨w.heap.size, 0, none⟩ = some (.slice (some ⟨bf, of, none⟩) n ca) ∧ w'.cell? ⟨w.heap.size, 1, none⟩ = some (.slice B m cb) ∧ w'.cell? ⟨w.heap.size, 2, none⟩ = some (.slice C q cc) ∧ w'.cell? ⟨bt, ot + j, none⟩ = some (.slice Av nv cv))
                    (first | exact ⟨hx0, hx1, hx2, hckx⟩ | exact ⟨getc hb2 hx0, getc hb2 hx1, getc hb2 hx2, getc hb2 hckx⟩ | exact ⟨getc (bl_drewN hb2 _) hx0, getc (bl_drewN hb2 _) hx1, getc (bl_drewN hb2 _) hx2, getc (bl_drewN hb2 _) hckx⟩)
                    (first | (go_at_call 43; refine (HLEN.out _ (HCX.out.keep (Keeps.drew _)) (HVX.out.keep IntR.good (Keeps.drew _))).mono ?_; rintro e w2 ⟨rfl, hb2⟩))
                  rename_i hHeld
                  clear hHeld
                  have hB2 : Below wx.heap.size wx w2 := bl_call (Below.refl _ _).drew hb2 (Nat.le_refl _)
                  have hKy : Kept (fun x => x = gs) ws w2 := hKx.trans (Kept.of_bl hB2)
                  have hHy := hHx.bl hB2
                  clear hb2 hB2 hKx hHx hx0 hx1 hx2 hckx hbtx hbgx hwa
                  go_wp2
                  go_loopw [17] (fun i wr => ∃ x : Nat, (x : Int) ≤ 2 * er + 1 ∧ i = .int .i64 ((at0 + x : Nat) : Int) ∧ Kept (fun y => y = gs) ws wr ∧ Blk wr gs 4 (rowC N (fun p => .bool (shownB c f lo s ((agreeL c).take j) p || (decide (at0 ≤ p) && decide (p < at0 + x)))))) (fun i _ => (at0 + 2 * er + 1 - intOf i).toNat)
                  case atStart => exact ⟨0, by omega, rfl, hKy, hHy.rowEq fun p _ => by
                    have : (decide (at0 ≤ p) && decide (p < at0 + 0)) = false := by simp
                    rw [this, Bool.or_false]⟩
                  case round =>
                    obtain ⟨x, hx, rfl, hKz, hHz⟩ := hrel
                    by_cases hlt3 : (x : Int) ≤ 2 * er
                    · have hle : ((at0 + x : Nat) : Int) ≤ at0 + 2 * er := by omega
                      have hidx : at0 + x < N := by omega
                      have hidxi : ((at0 + x : Nat) : Int) < N := by omega
                      have hcz := hHz.row hidx
                      have hfz := hHz.frozen (at0 + x)
                      have hlz := hHz.lt
                      have hE : ∀ p, (shownB c f lo s ((agreeL c).take j) p || (decide (at0 ≤ p) && decide (p < at0 + (x + 1)))) = if p = at0 + x then true else (shownB c f lo s ((agreeL c).take j) p || (decide (at0 ≤ p) && decide (p < at0 + x))) := fun p => by
                        split
                        · rename_i h; subst h; simp
                        · rename_i h
                          have : decide (p < at0 + (x + 1)) = decide (p < at0 + x) := decide_eq_decide.2 (by omega)
                          rw [this]
                      have HE2 := Lib.hid hE
                      clear hE
                      obtain ⟨ax, hax⟩ : ∃ ax, at0 + x = ax := ⟨_, rfl⟩
                      rw [hax] at hle hidx hidxi hcz hfz
                      have HZ := Lib.hid hHz
                      have HAX := Lib.hid hax
                      rw [hax]
                      clear hHz hax
                      go_wp2
                      go_roundw
                      case rel => exact ⟨x + 1, by omega, by rw [show at0 + (x + 1) = ax + 1 by rw [← HAX.out]; omega]; go_num, hKz.trans (Kept.setCell _ _ _ rfl), (HZ.out.rowSet ax (.bool true)).rowEq fun p _ => by rw [HE2.out, HAX.out]; split <;> rfl⟩
                      case measure => simp [intOf]; omega
                    · have hle : ¬ ((at0 + x : Nat) : Int) ≤ at0 + 2 * er := by omega
                      have hxe : x = (2 * er + 1).toNat := by omega
                      have HXE := Lib.hid hxe
                      clear hxe
                      go_wp2
                      go_roundw
                      case rel => exact ⟨j + 1, by omega, by go_num, hKz, hHz.rowEq fun p _ => by rw [HTK.out, HS.out, HIT.out, HXE.out]⟩
                      case measure => simp [intOf]; omega
              · obtain rfl : nT = j := by omega
                rw [List.take_of_length_le (by rw [Hnt.out]; exact Nat.le_refl _)] at hHj
                have hMj : Blk wr gm 3 (rowC N (fun p => .int .i64 (manyC c f lo (agreeL c) ((explainsL c).take k) p))) := (hKj.block _ hMs.lt (by omega)).trans hMs
                have hKwr : Kept (fun j => j = gm) we wr := hKws.seq hKj (fun i hi he => by omega)
                have hmc : ∀ p, manyC c f lo (agreeL c) ((explainsL c).take k) p ≤ 192 := fun p => Nat.le_trans List.countP_le_length (by rw [List.length_take]; omega)
                have HMS : Hid (∀ p, manyC c f lo (agreeL c) ((explainsL c).take (k + 1)) p = manyC c f lo (agreeL c) ((explainsL c).take k) p + if shownB c f lo s (agreeL c) p then 1 else 0) := fun p => by rw [Hst.out, manyC_snoc]
                obtain ⟨F, hF⟩ : ∃ F, manyC c f lo (agreeL c) ((explainsL c).take k) = F := ⟨_, rfl⟩
                obtain ⟨G, hG⟩ : ∃ G, manyC c f lo (agreeL c) ((explainsL c).take (k + 1)) = G := ⟨_, rfl⟩
                obtain ⟨H, hH2⟩ : ∃ H, shownB c f lo s (agreeL c) = H := ⟨_, rfl⟩
                rw [hF] at hMj hmc HMS
                rw [hG] at HMS
                rw [hH2] at HMS hHj
                have HMC := Lib.hid hmc
                have HG := Lib.hid hG
                have hne : gm ≠ gs := by omega
                clear hF hG hH2 hmc hKj hKws hMs hH hTs hVs2 hcs2 hXs hcss
                go_wp2
                obtain ⟨wt, hwt⟩ : ∃ wt : World, wr = wt := ⟨_, rfl⟩
                rw [hwt] at hHj hMj hKwr ⊢
                clear hwt
                go_loopw [18] (fun i wr => ∃ x : Nat, x ≤ N ∧ i = .int .i64 x ∧ Kept (fun y => y = gm) wt wr ∧ Blk wr gm 3 (rowC N (fun p => .int .i64 ((if p < x then G p else F p : Nat) : Int)))) (fun i _ => N - (intOf i).toNat)
                case atStart => exact ⟨0, Nat.zero_le _, rfl, Kept.refl _ _, hMj.rowEq fun p _ => rfl⟩
                case round =>
                  obtain ⟨x, hx, rfl, hKz, hMz⟩ := hrel
                  by_cases hlt3 : x < N
                  · have hxi : (x : Int) < N := by omega
                    have hHz : Blk wr gs 4 (rowC N (fun p => .bool (H p))) := (hKz.block _ hHj.lt (by omega)).trans hHj
                    have hch := hHz.row hlt3
                    have hchl := hHz.lt
                    have hcm : wr.cell? ⟨gm, x, none⟩ = some (.int .i64 (F x : Nat)) := by rw [hMz.row hlt3, if_neg (by omega)]
                    have hcml := hMz.lt
                    have hcmf := hMz.frozen x
                    have hFx := HMC.out x
                    have HGx := Lib.hid (HMS.out x)
                    clear hHz
                    cases hhx : H x with
                    | true =>
                      rw [hhx] at hch HGx
                      have HMZ := Lib.hid hMz
                      have hwf : IntKind.i64.wrap ((F x : Nat) + 1) = ((F x + 1 : Nat) : Int) := by rw [IntKind.wrap_i64]; omega
                      have HGx2 : Hid (G x = F x + 1) := HGx.out
                      clear hhx HGx hMz
                      go_wp2
                      go_roundw
                      case rel => exact ⟨x + 1, by omega, by go_num, hKz.trans (Kept.setCell _ _ _ rfl), (HMZ.out.rowSet x (.int .i64 ((F x + 1 : Nat) : Int))).rowEq fun p _ => by
                        by_cases hp : p = x
                        · subst hp; rw [if_pos rfl, if_pos (by omega), HGx2.out]
                        · rw [if_neg hp]
                          by_cases hp2 : p < x
                          · rw [if_pos hp2, if_pos (by omega)]
                          · rw [if_neg hp2, if_neg (by omega)]⟩
                      case measure => simp [intOf]; omega
                    | false =>
                      rw [hhx] at hch HGx
                      have HGx2 : Hid (G x = F x) := HGx.out
                      have HMZ := Lib.hid hMz
                      clear hhx HGx hMz
                      go_wp2
                      go_roundw
                      case rel => exact ⟨x + 1, by omega, by go_num, hKz, HMZ.out.rowEq fun p _ => by
                        by_cases hp : p = x
                        · subst hp; rw [if_neg (by omega), if_pos (by omega), HGx2.out]
                        · by_cases hp2 : p < x
                          · rw [if_pos hp2, if_pos (by omega)]
                          · rw [if_neg hp2, if_neg (by omega)]⟩
                      case measure => simp [intOf]; omega
                  · obtain rfl : N = x := by omega
                    have hKf := hKwr.trans hKz
                    clear hKwr hKz hHj hMj
                    go_wp2
                    go_roundw
                    case rel => exact ⟨k + 1, by omega, by go_num, hKf, hMz.rowEq fun p hp => by rw [if_pos hp, HG.out]⟩
                    case measure => simp [intOf]; omega
          · obtain rfl : k = ns := by omega
            have HR : Hid (((maxTo (manyC c f lo (agreeL c) (explainsL c)) N : Nat) : Int) = leftR c (agreeL c) f) := left_ref hok Hf.out HE.out HN.out
            rw [List.take_of_length_le (by rw [Hns.out]; exact Nat.le_refl _)] at hMk
            have hmb : ∀ p, manyC c f lo (agreeL c) (explainsL c) p ≤ 192 := fun p => Nat.le_trans (List.countP_le_length) (by rw [Hns.out]; exact hns)
            have HBW : Hid (Below w.heap.size w wr) := bl_kept hBwe hK (by have := hBwe.size; omega) (fun j hj => by omega)
            obtain ⟨F, hF⟩ : ∃ F, manyC c f lo (agreeL c) (explainsL c) = F := ⟨_, rfl⟩
            rw [hF] at HR hMk hmb
            have HMB := Lib.hid hmb
            have hgl := hMk.lt
            clear hF hmb hK hSe hXe hce hTe hMe
            go_wp2
            go_loop [19, 20] (fun mo i => ∃ x : Nat, x ≤ N ∧ i = .int .i64 x ∧ mo = .int .i64 (maxTo F x : Nat)) (fun _ i => N - (intOf i).toNat)
            case atStart => exact ⟨0, Nat.zero_le _, rfl, rfl⟩
            case round =>
              obtain ⟨x, hx, rfl, rfl⟩ := hrel
              by_cases hlt2 : x < N
              · have hxi : (x : Int) < N := by omega
                have hcx := hMk.row hlt2
                have hS : Hid ((if maxTo F x < F x then ((F x : Nat) : Int) else (maxTo F x : Nat)) = (maxTo F (x + 1) : Nat)) := by
                  rw [Hid]; simp only [maxTo]; split <;> omega
                go_wp2
                go_round
                case rel => exact ⟨x + 1, by omega, by go_num, by rw [hS.out]⟩
                case measure => simp [intOf]; omega
              · obtain rfl : x = N := by omega
                go_wp2
                go_ret
                exact ⟨by rw [← HR.out]; rfl, HBW.out⟩

end Go.Proofs.YtkbpmcpmcmnfgaaDoor
