/- A part of the proof that TopWorn always answers true. -/
import Derived.Test.YtdbfincinjoppabGreatDoorCKBase
set_option linter.all false
namespace Go.Proofs.YtdbfincinjoppabGreatDoor
open Go.RowKit Go.Shelf
theorem mouldE_back {l : List Mould} {k : Nat} {s : List UInt8} {a z y u c : Int} (h : l[k]? = some ⟨s, a, z, y, u, c⟩) : mouldE l k = if isName s then (if s ∈ (l.take k).map (·.name) then 5 else if ((outB 1 20000 a || outB 1 20000 z) || (outB 0 20 y || outB 0 20 u)) || outB 1 8 c then 7 else if outB a (a + 12) z || outB y (y + 3) u then 2 else 0) else 6 := by
 unfold mouldE
 rw [getD_of h]
 unfold fresh mouldN
 dsimp only
 simp only [outB_inB]
 cases isName s
 ·simp
 by_cases hm : s ∈ (l.take k).map (·.name)
 ·simp only [if_pos hm]; simp
 simp only [if_neg hm, Bool.or_assoc]; simp
def firstP (E : Nat → Int) (n : Nat) : Int × Int := match firstErr E n with
 | some (k, e) => ((k : Int), e)
 | none => (0, 0)
theorem firstP_some {E : Nat → Int} {n k : Nat} {e : Int} (h : firstErr E n = some (k, e)) : firstP E n = ((k : Int), e) := by unfold firstP; rw [h]
theorem firstP_none {E : Nat → Int} {n : Nat} (h : firstErr E n = none) : firstP E n = (0, 0) := by unfold firstP; rw [h]
theorem eg_KC : Enters Tryz.prog 122 := enters_of Tryz.func122 (by kernel_rfl) rfl
theorem eg_KS : Enters Tryz.prog 94 := enters_of Tryz.func94 (by kernel_rfl) rfl
theorem eg_KO : Enters Tryz.prog 80 := enters_of Tryz.func80 (by kernel_rfl) rfl
set_option maxHeartbeats 1000000 in
theorem kfirstM_any {S : Foot} {A : Option Addr} {n c : Nat} {xs : List Mould} (E : Nat → Int) (g : Nat) (lb : Array Value) (eg : ∀ args w, (callFunc g args).run Tryz.prog w = .ok (.enter g args) w) (w : World) (h : Moulds S w A n xs)
  (hp : ∀ (k : Nat) (s : ByteArray) (a z y u c5 : Int) (W : World), Below w.heap.size w W → s.size ≤ 9223372036854775807 → Hid (xs[k]? = some ⟨s.data.toList, a, z, y, u, c5⟩) → Calls Tryz.prog g (#[.int .i64 k, .agg #[.string s, .int .i64 a, .int .i64 z, .int .i64 y, .int .i64 u, .int .i64 c5]] ++ lb) W fun e W' => e = .returned (.int .i64 (E k)) ∧ Below W.heap.size W W') :
  Calls Tryz.prog 121 #[.slice A n c, .func (.func g) #[] lb] w fun e w' => e = .returned (.tuple #[.int .i64 (firstP E n).1, .int .i64 (firstP E n).2]) ∧ Below w.heap.size w w' := by
 have hle := h.le
 have HP := Lib.hid hp
 have HG := Lib.hid eg
 clear hp eg
 go_enter Tryz.func121, Tryz.ntmps121
 go_wp2
 go_loopw [6, 7, 8, 11] (fun _ _ _ i wr => ∃ k : Nat, k ≤ n ∧ i = .int .i64 k ∧ Below w.heap.size w wr ∧ Hid (∀ j, j < k → E j = 0)) (fun _ _ _ i _ => n - (intOf i).toNat)
 case atStart => exact ⟨0, Nat.zero_le _, rfl, Below.refl _ _, fun j h => by omega⟩
 case round =>
  obtain ⟨k, hk, rfl, hB, Hz⟩ := hrel
  by_cases hlt : k < n
  ·have hki : (k : Int) < n := by omega
   have hr := h.keep MouldR.good (Keeps.below hB)
   obtain ⟨b, off, s, a, z, y, u, c5, rfl, hb0, hc0, hc1, hc2, hc3, hc4, hc5, hs, Hx⟩ := Moulds.get hr hlt
   have hB1 : Below w.heap.size w (wr.alloc (.cells #[.string s, .int .i64 a, .int .i64 z, .int .i64 y, .int .i64 u, .int .i64 c5] 33)) := bl_alloc hB _ (Nat.le_refl _)
   have hcall := HP.out k s a z y u c5 _ hB1 hs Hx
   have eg : ∀ args w, (callFunc g args).run Tryz.prog w = .ok (.enter g args) w := HG.out
   obtain ⟨lv, hlv⟩ : ∃ v, E k = v := ⟨_, rfl⟩
   rw [hlv] at hcall
   have HLV := Lib.hid hlv
   clear hlv hr
   by_cases he : lv = 0
   ·have hne : (lv != 0) = false := by rw [he]; rfl
    have HE := Lib.hid he
    clear he
    go_wp2_with (go_at_fn g; refine hcall.mono ?_; rintro e w2 ⟨rfl, hb2⟩)
    have hB2 := bl_call hB1 hb2 (Nat.le_refl _)
    go_roundw
    case rel => exact ⟨k + 1, by omega, by go_num, hB2, upto_succ Hz.out (by rw [HLV.out, HE.out])⟩
    case measure => simp [intOf]; omega
   have hne : (lv != 0) = true := by simpa using he
   have HE := Lib.hid he
   clear he
   go_wp2_with (go_at_fn g; refine hcall.mono ?_; rintro e w2 ⟨rfl, hb2⟩)
   have hB2 := bl_call hB1 hb2 (Nat.le_refl _)
   go_ret2
   refine ⟨?_, hB2⟩
   rw [firstP_some (firstErr_some hlt Hz.out (by rw [HLV.out]; exact HE.out)), HLV.out]; rfl
  obtain rfl : k = n := by omega
  go_wp2
  go_ret2
  refine ⟨?_, hB⟩
  rw [firstP_none (firstErr_none Hz.out)]; rfl
set_option maxHeartbeats 1000000 in
theorem kfirstS_any {S : Foot} {A : Option Addr} {n c : Nat} {xs : List SeenC} (E : Nat → Int) (g : Nat) (lb : Array Value) (eg : ∀ args w, (callFunc g args).run Tryz.prog w = .ok (.enter g args) w) (w : World) (h : SeenCs S w A n xs)
  (hp : ∀ (k : Nat) (a z y u : Int) (W : World), Below w.heap.size w W → Hid (xs[k]? = some ⟨a, z, y, u⟩) → Calls Tryz.prog g (#[.int .i64 k, .agg #[.int .i64 a, .int .i64 z, .int .i64 y, .int .i64 u]] ++ lb) W fun e W' => e = .returned (.int .i64 (E k)) ∧ Below W.heap.size W W') :
  Calls Tryz.prog 93 #[.slice A n c, .func (.func g) #[] lb] w fun e w' => e = .returned (.tuple #[.int .i64 (firstP E n).1, .int .i64 (firstP E n).2]) ∧ Below w.heap.size w w' := by
 have hle := h.le
 have HP := Lib.hid hp
 have HG := Lib.hid eg
 clear hp eg
 go_enter Tryz.func93, Tryz.ntmps93
 go_wp2
 go_loopw [6, 7, 8, 11] (fun _ _ _ i wr => ∃ k : Nat, k ≤ n ∧ i = .int .i64 k ∧ Below w.heap.size w wr ∧ Hid (∀ j, j < k → E j = 0)) (fun _ _ _ i _ => n - (intOf i).toNat)
 case atStart => exact ⟨0, Nat.zero_le _, rfl, Below.refl _ _, fun j h => by omega⟩
 case round =>
  obtain ⟨k, hk, rfl, hB, Hz⟩ := hrel
  by_cases hlt : k < n
  ·have hki : (k : Int) < n := by omega
   have hr := h.keep SeenCR.good (Keeps.below hB)
   obtain ⟨b, off, a, z, y, u, rfl, hb0, hc0, hc1, hc2, hc3, Hx⟩ := SeenCs.get hr hlt
   have hB1 : Below w.heap.size w (wr.alloc (.cells #[.int .i64 a, .int .i64 z, .int .i64 y, .int .i64 u] 109)) := bl_alloc hB _ (Nat.le_refl _)
   have hcall := HP.out k a z y u _ hB1 Hx
   have eg : ∀ args w, (callFunc g args).run Tryz.prog w = .ok (.enter g args) w := HG.out
   obtain ⟨lv, hlv⟩ : ∃ v, E k = v := ⟨_, rfl⟩
   rw [hlv] at hcall
   have HLV := Lib.hid hlv
   clear hlv hr
   by_cases he : lv = 0
   ·have hne : (lv != 0) = false := by rw [he]; rfl
    have HE := Lib.hid he
    clear he
    go_wp2_with (go_at_fn g; refine hcall.mono ?_; rintro e w2 ⟨rfl, hb2⟩)
    have hB2 := bl_call hB1 hb2 (Nat.le_refl _)
    go_roundw
    case rel => exact ⟨k + 1, by omega, by go_num, hB2, upto_succ Hz.out (by rw [HLV.out, HE.out])⟩
    case measure => simp [intOf]; omega
   have hne : (lv != 0) = true := by simpa using he
   have HE := Lib.hid he
   clear he
   go_wp2_with (go_at_fn g; refine hcall.mono ?_; rintro e w2 ⟨rfl, hb2⟩)
   have hB2 := bl_call hB1 hb2 (Nat.le_refl _)
   go_ret2
   refine ⟨?_, hB2⟩
   rw [firstP_some (firstErr_some hlt Hz.out (by rw [HLV.out]; exact HE.out)), HLV.out]; rfl
  obtain rfl : k = n := by omega
  go_wp2
  go_ret2
  refine ⟨?_, hB⟩
  rw [firstP_none (firstErr_none Hz.out)]; rfl
set_option maxHeartbeats 1000000 in
theorem kfirstP_any {S : Foot} {A : Option Addr} {n c : Nat} {xs : List (Int × Int)} (E : Nat → Int) (g : Nat) (lb : Array Value) (eg : ∀ args w, (callFunc g args).run Tryz.prog w = .ok (.enter g args) w) (w : World) (h : Pairs S w A n xs)
  (hp : ∀ (k : Nat) (a z : Int) (W : World), Below w.heap.size w W → Hid (xs[k]? = some (a, z)) → Calls Tryz.prog g (#[.int .i64 k, .agg #[.int .i64 a, .int .i64 z]] ++ lb) W fun e W' => e = .returned (.int .i64 (E k)) ∧ Below W.heap.size W W') :
  Calls Tryz.prog 79 #[.slice A n c, .func (.func g) #[] lb] w fun e w' => e = .returned (.tuple #[.int .i64 (firstP E n).1, .int .i64 (firstP E n).2]) ∧ Below w.heap.size w w' := by
 have hle := h.le
 have HP := Lib.hid hp
 have HG := Lib.hid eg
 clear hp eg
 go_enter Tryz.func79, Tryz.ntmps79
 go_wp2
 go_loopw [6, 7, 8, 11] (fun _ _ _ i wr => ∃ k : Nat, k ≤ n ∧ i = .int .i64 k ∧ Below w.heap.size w wr ∧ Hid (∀ j, j < k → E j = 0)) (fun _ _ _ i _ => n - (intOf i).toNat)
 case atStart => exact ⟨0, Nat.zero_le _, rfl, Below.refl _ _, fun j h => by omega⟩
 case round =>
  obtain ⟨k, hk, rfl, hB, Hz⟩ := hrel
  by_cases hlt : k < n
  ·have hki : (k : Int) < n := by omega
   have hr := h.keep PairR.good (Keeps.below hB)
   obtain ⟨b, off, a, z, rfl, hb0, hc0, hc1, Hx⟩ := Pairs.get hr hlt
   have hB1 : Below w.heap.size w (wr.alloc (.cells #[.int .i64 a, .int .i64 z] 23)) := bl_alloc hB _ (Nat.le_refl _)
   have hcall := HP.out k a z _ hB1 Hx
   have eg : ∀ args w, (callFunc g args).run Tryz.prog w = .ok (.enter g args) w := HG.out
   obtain ⟨lv, hlv⟩ : ∃ v, E k = v := ⟨_, rfl⟩
   rw [hlv] at hcall
   have HLV := Lib.hid hlv
   clear hlv hr
   by_cases he : lv = 0
   ·have hne : (lv != 0) = false := by rw [he]; rfl
    have HE := Lib.hid he
    clear he
    go_wp2_with (go_at_fn g; refine hcall.mono ?_; rintro e w2 ⟨rfl, hb2⟩)
    have hB2 := bl_call hB1 hb2 (Nat.le_refl _)
    go_roundw
    case rel => exact ⟨k + 1, by omega, by go_num, hB2, upto_succ Hz.out (by rw [HLV.out, HE.out])⟩
    case measure => simp [intOf]; omega
   have hne : (lv != 0) = true := by simpa using he
   have HE := Lib.hid he
   clear he
   go_wp2_with (go_at_fn g; refine hcall.mono ?_; rintro e w2 ⟨rfl, hb2⟩)
   have hB2 := bl_call hB1 hb2 (Nat.le_refl _)
   go_ret2
   refine ⟨?_, hB2⟩
   rw [firstP_some (firstErr_some hlt Hz.out (by rw [HLV.out]; exact HE.out)), HLV.out]; rfl
  obtain rfl : k = n := by omega
  go_wp2
  go_ret2
  refine ⟨?_, hB⟩
  rw [firstP_none (firstErr_none Hz.out)]; rfl
set_option maxHeartbeats 2000000 in
set_option maxRecDepth 100000 in
theorem kmould_any {A : Option Addr} {n ca : Nat} {L : List Mould} {klo khi : Int} (gs k : Nat) (s : ByteArray) (a z y u c : Int) (w : World) (h : Moulds (fun _ => True) w A n L) (hb : Blk w gs 26 #[.int .i64 klo, .int .i64 khi, .slice A n ca]) (hk : k ≤ n) (hca : n ≤ ca) (hs : s.size ≤ 9223372036854775807) (hx : Hid (L[k]? = some ⟨s.data.toList, a, z, y, u, c⟩)) :
  Calls Tryz.prog 122 #[.int .i64 k, .agg #[.string s, .int .i64 a, .int .i64 z, .int .i64 y, .int .i64 u, .int .i64 c], .pointer (some ⟨gs, 0, none⟩)] w fun e w' => e = .returned (.int .i64 (mouldE L k)) ∧ Below w.heap.size w w' := by
 have hle := h.le
 have HE : Hid (mouldE L k = _) := mouldE_back hx.out
 obtain ⟨W, hW⟩ : ∃ W, w.alloc (.cells #[.string s, .int .i64 a, .int .i64 z, .int .i64 y, .int .i64 u, .int .i64 c] 33) = W := ⟨_, rfl⟩
 have X : Blk W w.heap.size 33 #[.string s, .int .i64 a, .int .i64 z, .int .i64 y, .int .i64 u, .int .i64 c] := by rw [← hW]; exact Blk.new _ _ _ rfl
 have hc : Moulds (fun _ => True) W A n L := by rw [← hW]; exact h.keep MouldR.good (Keeps.alloc _ _)
 have hBW : Below w.heap.size w W := by rw [← hW]; exact bl_alloc (Below.refl _ _) _ (Nat.le_refl _)
 have Y : Blk W gs 26 #[.int .i64 klo, .int .i64 khi, .slice A n ca] := hb.bl hBW
 have kk : Hid (∀ V, Below W.heap.size W V → V.cell? ⟨w.heap.size, 0, none⟩ = some (.string s) ∧ V.cell? ⟨w.heap.size, 1, none⟩ = some (.int .i64 a) ∧ V.cell? ⟨w.heap.size, 2, none⟩ = some (.int .i64 z) ∧ V.cell? ⟨w.heap.size, 3, none⟩ = some (.int .i64 y) ∧ V.cell? ⟨w.heap.size, 4, none⟩ = some (.int .i64 u) ∧ V.cell? ⟨w.heap.size, 5, none⟩ = some (.int .i64 c) ∧ V.cell? ⟨gs, 2, none⟩ = some (.slice A n ca)) :=
  fun V hb => ⟨(X.bl hb).cell 0, (X.bl hb).cell 1, (X.bl hb).cell 2, (X.bl hb).cell 3, (X.bl hb).cell 4, (X.bl hb).cell 5, (Y.bl hb).cell 2⟩
 have HWs : Hid (w.heap.size + 1 = W.heap.size) := by rw [Hid, ← hW]; simp
 have HW := Lib.hid hW
 have hki : (k : Int) ≤ ca := by omega
 clear hW X Y h hb hx
 obtain ⟨x0, x1, x2, x3, x4, x5, x6⟩ := kk.out W (Below.refl _ _)
 go_enter Tryz.func122, Tryz.ntmps122
 go_wp2_with fail
 rw [HW.out]
 clear x0 x1 x2 x3 x4 x5 x6
 go_wp2_with fail
 refine (sheetName_any s _ hs).mono ?_
 rintro e W1 ⟨rfl, b1⟩
 cases hnm : isName s.data.toList
 ·have HC : Hid (mouldE L k = 6) := by rw [Hid, HE.out, hnm]; rfl
  clear hnm
  go_wp2
  go_ret
  exact ⟨by rw [HC.out]; rfl, bl_call hBW b1 (Nat.le_refl _)⟩
 obtain ⟨x0, x1, x2, x3, x4, x5, x6⟩ := kk.out W1 b1
 have hcr := (hc.keep MouldR.good (Keeps.below b1)).take hk
 go_wp2_with fail
 refine (hasKF_any s w.heap.size _ hcr x0).mono ?_
 rintro e W2 ⟨rfl, c2⟩
 have b2 := bl_call b1 c2 (Nat.le_refl _)
 clear c2 hcr x0 x1 x2 x3 x4 x5 x6 b1
 by_cases hmem : s.data.toList ∈ (L.take k).map (·.name)
 ·have HC : Hid (mouldE L k = 5) := by rw [Hid, HE.out, hnm, if_pos hmem]; rfl
  rw [decide_eq_true hmem]
  clear hnm hmem
  go_wp2
  go_ret
  exact ⟨by rw [HC.out]; rfl, bl_call hBW b2 (Nat.le_refl _)⟩
 have HE2 : Hid (mouldE L k = if ((outB 1 20000 a || outB 1 20000 z) || (outB 0 20 y || outB 0 20 u)) || outB 1 8 c then 7 else if outB a (a + 12) z || outB y (y + 3) u then 2 else 0) := by rw [Hid, HE.out, hnm, if_neg hmem]; rfl
 rw [decide_eq_false hmem]
 clear hnm hmem HE
 obtain ⟨x0, x1, x2, x3, x4, x5, x6⟩ := kk.out W2 b2
 cases o1 : (outB 1 20000 a || outB 1 20000 z)
 ·have ha1 : inB a 1 20000 = true ∧ inB z 1 20000 = true := by rw [outB_inB, outB_inB] at o1; simpa using o1
  have hwa : IntKind.i64.wrap (a + 12) = a + 12 := by have := inB_iff.1 ha1.1; rw [IntKind.wrap_i64]; omega
  clear ha1
  go_wp2_with fail
  refine (kout2 _ (by exact newc rfl rfl) (by exact newc rfl rfl) o1).mono ?_
  rintro e W3 ⟨rfl, c⟩
  have b3 : Below W.heap.size W W3 := bl_call (bl_alloc b2 _ (Nat.le_refl _)) c (Nat.le_refl _)
  clear c
  clear x0 x1 x2 x3 x4 x5 x6
  obtain ⟨x0, x1, x2, x3, x4, x5, x6⟩ := kk.out W3 b3
  cases o2 : (outB 0 20 y || outB 0 20 u)
  ·have ha1 : inB y 0 20 = true ∧ inB u 0 20 = true := by rw [outB_inB, outB_inB] at o2; simpa using o2
   have hwy : IntKind.i64.wrap (y + 3) = y + 3 := by have := inB_iff.1 ha1.1; rw [IntKind.wrap_i64]; omega
   clear ha1
   go_wp2_with fail
   refine (kout2 _ (by exact newc rfl rfl) (by exact newc rfl rfl) o2).mono ?_
   rintro e W4 ⟨rfl, c⟩
   have b4 : Below W.heap.size W W4 := bl_call (bl_alloc b3 _ (Nat.le_refl _)) c (Nat.le_refl _)
   clear c
   clear x0 x1 x2 x3 x4 x5 x6
   obtain ⟨x0, x1, x2, x3, x4, x5, x6⟩ := kk.out W4 b4
   cases o3 : outB 1 8 c
   ·have HE3 : Hid (mouldE L k = if outB a (a + 12) z || outB y (y + 3) u then 2 else 0) := by rw [Hid, HE2.out, o1, o2, o3]; rfl
    clear o1 o2
    go_wp2_with fail
    refine (kout1 _ (by exact newc rfl rfl) o3).mono ?_
    rintro e W5 ⟨rfl, c⟩
    have b5 : Below W.heap.size W W5 := bl_call (bl_alloc b4 _ (Nat.le_refl _)) c (Nat.le_refl _)
    clear c
    clear x0 x1 x2 x3 x4 x5 x6
    obtain ⟨x0, x1, x2, x3, x4, x5, x6⟩ := kk.out W5 b5
    clear o3 b3 b4
    cases o4 : outB a (a + 12) z
    ·cases o5 : outB y (y + 3) u
     ·have HC : Hid (mouldE L k = 0) := by rw [Hid, HE3.out, o4, o5]; rfl
      go_wp2_with fail
      refine (kout1 _ (by exact newc rfl rfl) o4).mono ?_
      rintro e W6 ⟨rfl, c⟩
      have b6 : Below W.heap.size W W6 := bl_call (bl_alloc b5 _ (Nat.le_refl _)) c (Nat.le_refl _)
      clear c
      clear x0 x1 x2 x3 x4 x5 x6
      obtain ⟨x0, x1, x2, x3, x4, x5, x6⟩ := kk.out W6 b6
      clear o4
      go_wp2_with fail
      refine (kout1 _ (by exact newc rfl rfl) o5).mono ?_
      rintro e W7 ⟨rfl, c⟩
      have b7 : Below W.heap.size W W7 := bl_call (bl_alloc b6 _ (Nat.le_refl _)) c (Nat.le_refl _)
      clear c
      clear x0 x1 x2 x3 x4 x5 x6
      obtain ⟨x0, x1, x2, x3, x4, x5, x6⟩ := kk.out W7 b7
      clear o5
      go_wp2
      go_ret
      exact ⟨by rw [HC.out]; rfl, bl_call hBW b7 (Nat.le_refl _)⟩
     have HC : Hid (mouldE L k = 2) := by rw [Hid, HE3.out, o4, o5]; rfl
     go_wp2_with fail
     refine (kout1 _ (by exact newc rfl rfl) o4).mono ?_
     rintro e W6 ⟨rfl, c⟩
     have b6 : Below W.heap.size W W6 := bl_call (bl_alloc b5 _ (Nat.le_refl _)) c (Nat.le_refl _)
     clear c
     clear x0 x1 x2 x3 x4 x5 x6
     obtain ⟨x0, x1, x2, x3, x4, x5, x6⟩ := kk.out W6 b6
     clear o4
     go_wp2_with fail
     refine (kout1 _ (by exact newc rfl rfl) o5).mono ?_
     rintro e W7 ⟨rfl, c⟩
     have b7 : Below W.heap.size W W7 := bl_call (bl_alloc b6 _ (Nat.le_refl _)) c (Nat.le_refl _)
     clear c
     clear x0 x1 x2 x3 x4 x5 x6
     obtain ⟨x0, x1, x2, x3, x4, x5, x6⟩ := kk.out W7 b7
     clear o5
     go_wp2
     go_ret
     exact ⟨by rw [HC.out]; rfl, bl_call hBW b7 (Nat.le_refl _)⟩
    have HC : Hid (mouldE L k = 2) := by rw [Hid, HE3.out, o4]; rfl
    go_wp2_with fail
    refine (kout1 _ (by exact newc rfl rfl) o4).mono ?_
    rintro e W6 ⟨rfl, c⟩
    have b6 : Below W.heap.size W W6 := bl_call (bl_alloc b5 _ (Nat.le_refl _)) c (Nat.le_refl _)
    clear c
    clear x0 x1 x2 x3 x4 x5 x6
    obtain ⟨x0, x1, x2, x3, x4, x5, x6⟩ := kk.out W6 b6
    clear o4
    go_wp2
    go_ret
    exact ⟨by rw [HC.out]; rfl, bl_call hBW b6 (Nat.le_refl _)⟩
   have HC : Hid (mouldE L k = 7) := by rw [Hid, HE2.out, o1, o2, o3]; rfl
   clear o1 o2
   go_wp2_with fail
   refine (kout1 _ (by exact newc rfl rfl) o3).mono ?_
   rintro e W5 ⟨rfl, c⟩
   have b5 : Below W.heap.size W W5 := bl_call (bl_alloc b4 _ (Nat.le_refl _)) c (Nat.le_refl _)
   clear c
   clear x0 x1 x2 x3 x4 x5 x6
   obtain ⟨x0, x1, x2, x3, x4, x5, x6⟩ := kk.out W5 b5
   clear o3
   go_wp2
   go_ret
   exact ⟨by rw [HC.out]; rfl, bl_call hBW b5 (Nat.le_refl _)⟩
  have HC : Hid (mouldE L k = 7) := by rw [Hid, HE2.out, o1, o2]; rfl
  clear o1
  go_wp2_with fail
  refine (kout2 _ (by exact newc rfl rfl) (by exact newc rfl rfl) o2).mono ?_
  rintro e W4 ⟨rfl, c⟩
  have b4 : Below W.heap.size W W4 := bl_call (bl_alloc b3 _ (Nat.le_refl _)) c (Nat.le_refl _)
  clear c
  clear x0 x1 x2 x3 x4 x5 x6
  obtain ⟨x0, x1, x2, x3, x4, x5, x6⟩ := kk.out W4 b4
  clear o2
  go_wp2
  go_ret
  exact ⟨by rw [HC.out]; rfl, bl_call hBW b4 (Nat.le_refl _)⟩
 have HC : Hid (mouldE L k = 7) := by rw [Hid, HE2.out, o1]; rfl
 go_wp2_with fail
 refine (kout2 _ (by exact newc rfl rfl) (by exact newc rfl rfl) o1).mono ?_
 rintro e W3 ⟨rfl, c⟩
 have b3 : Below W.heap.size W W3 := bl_call (bl_alloc b2 _ (Nat.le_refl _)) c (Nat.le_refl _)
 clear c
 clear x0 x1 x2 x3 x4 x5 x6
 obtain ⟨x0, x1, x2, x3, x4, x5, x6⟩ := kk.out W3 b3
 clear o1
 go_wp2
 go_ret
 exact ⟨by rw [HC.out]; rfl, bl_call hBW b3 (Nat.le_refl _)⟩
theorem check7_1 {s : Shop} {e : Int} (h : spanE s.klo s.khi 0 100 6 = e) (he : e ≠ 0) : check7 s = (1, 0, e) := by
 unfold spanE at h
 rw [outB_inB, outB_inB, outB_inB] at h
 unfold check7
 split at h
 ·rename_i g; rw [if_pos g, h]
 rename_i g
 rw [if_neg g]
 split at h
 ·rename_i g2; rw [if_pos g2, h]
 exact absurd h.symm he
theorem check7_2 {s : Shop} (h : spanE s.klo s.khi 0 100 6 = 0) (g : outB 1 4 (s.moulds.length : Int) = true) : check7 s = (1, 0, 3) := by
 unfold spanE at h
 rw [outB_inB, outB_inB, outB_inB] at h
 unfold check7
 split at h
 ·cases h
 rename_i g1
 rw [if_neg g1]
 split at h
 ·cases h
 rename_i g2; rw [if_neg g2, if_pos]; unfold outB at g; simp at g; omega
theorem check7_n {s : Shop} (h : spanE s.klo s.khi 0 100 6 = 0) (g : outB 1 4 (s.moulds.length : Int) = false) : check7 s = match firstErr (mouldE s.moulds) s.moulds.length with
  | some (k, e) => (2, k, e)
  | none => (0, 0, 0) := by
 unfold spanE at h
 rw [outB_inB, outB_inB, outB_inB] at h
 unfold check7
 split at h
 ·cases h
 rename_i g1
 rw [if_neg g1]
 split at h
 ·cases h
 rename_i g2; rw [if_neg g2, if_neg (by unfold outB at g; simp at g; omega)]; rfl
set_option maxHeartbeats 2000000 in
theorem kcheck_any {A : Option Addr} {n ca : Nat} {s : Shop} {klo khi : Int} (w : World) (g : Moulds (fun _ => True) w A n s.moulds) (hca : n ≤ ca) (h1 : s.klo = klo) (h2 : s.khi = khi) :
  Calls Tryz.prog 92 #[.agg #[.int .i64 klo, .int .i64 khi, .slice A n ca]] w fun e w' => e = .returned (.tuple #[.int .i64 (check7 s).1, .int .i64 (check7 s).2.1, .int .i64 (check7 s).2.2]) ∧ Below w.heap.size w w' := by
 have hle := g.le
 have Hn := Lib.hid g.len
 obtain ⟨W, hW⟩ : ∃ W, w.alloc (.cells #[.int .i64 klo, .int .i64 khi, .slice A n ca] 26) = W := ⟨_, rfl⟩
 have X : Blk W w.heap.size 26 #[.int .i64 klo, .int .i64 khi, .slice A n ca] := by rw [← hW]; exact Blk.new _ _ _ rfl
 have hBW : Below w.heap.size w W := by rw [← hW]; exact bl_alloc (Below.refl _ _) _ (Nat.le_refl _)
 have hc := g.keep MouldR.good (Keeps.below hBW)
 have HW := Lib.hid hW
 have HX := Lib.hid X
 have x0 := X.cell 0
 have x1 := X.cell 1
 clear hW g X
 obtain ⟨e1, he1⟩ : ∃ e, spanE klo khi 0 100 6 = e := ⟨_, rfl⟩
 have HE1 : Hid (spanE s.klo s.khi 0 100 6 = e1) := by rw [Hid, h1, h2, he1]
 go_enter Tryz.func92, Tryz.ntmps92
 go_wp2_with fail
 rw [HW.out]
 go_wp2_with fail
 refine (kspan_any klo khi 0 100 6 (by decide) (by decide) (by decide) _).mono ?_
 rintro e W1 ⟨rfl, b1⟩
 rw [he1]
 clear he1 x0 x1
 by_cases hz : e1 = 0
 ·have hzb : (e1 != 0) = false := by rw [hz]; rfl
  have HE2 : Hid (spanE s.klo s.khi 0 100 6 = 0) := by rw [Hid, HE1.out, hz]
  clear hz
  have x2 := (HX.out.bl b1).cell 2
  cases o : outB 1 4 (n : Int)
  ·have HO := Lib.hid o
   go_wp2_with fail
   refine (kout1 _ (by exact newc rfl rfl) o).mono ?_
   rintro e W2 ⟨rfl, c2⟩
   have b2 : Below W.heap.size W W2 := bl_call (bl_alloc b1 _ (Nat.le_refl _)) c2 (Nat.le_refl _)
   have x2 := (HX.out.bl b2).cell 2
   have hC : check7 s = _ := check7_n HE2.out (by rw [Hn.out]; exact HO.out)
   rw [Hn.out] at hC
   have HC := Lib.hid hC
   clear c2 o hC
   go_wp2_with fail
   refine (kfirstM_any (mouldE s.moulds) 122 #[.pointer (some ⟨w.heap.size, 0, none⟩)] eg_KC _ (hc.keep MouldR.good (Keeps.below b2)) (fun k sn a z y u c5 V hV hs hx => by
    have hVW : Below W.heap.size W V := bl_call b2 hV (Nat.le_refl _)
    refine kmould_any w.heap.size k sn a z y u c5 V (hc.keep MouldR.good (Keeps.below hVW)) (HX.out.bl hVW) ?_ hca hs hx
    have := (List.getElem?_eq_some_iff.1 hx.out).1
    have := Hn.out
    omega)).mono ?_
   rintro e W3 ⟨rfl, c3⟩
   have b3 := bl_call b2 c3 (Nat.le_refl _)
   clear c3 x2
   rcases firstErr_cases (mouldE s.moulds) n with ⟨q, _⟩ | ⟨j, _, q, hq, _⟩
   ·have HC2 : Hid (check7 s = (0, 0, 0)) := by rw [Hid, HC.out, q]
    rw [firstP_none q]
    clear q
    go_wp2
    go_ret3
    exact ⟨by rw [HC2.out]; rfl, bl_call hBW b3 (Nat.le_refl _)⟩
   obtain ⟨ev, hev⟩ : ∃ v, mouldE s.moulds j = v := ⟨_, rfl⟩
   rw [hev] at q hq
   have HC2 : Hid (check7 s = (2, (j : Int), ev)) := by rw [Hid, HC.out, q]
   rw [firstP_some q]
   have hqb : (ev != 0) = true := by simpa using hq
   clear q hq hev
   go_wp2
   go_ret3
   exact ⟨by rw [HC2.out]; rfl, bl_call hBW b3 (Nat.le_refl _)⟩
  have HC : Hid (check7 s = (1, 0, 3)) := check7_2 HE2.out (by rw [Hn.out]; exact o)
  go_wp2_with fail
  refine (kout1 _ (by exact newc rfl rfl) o).mono ?_
  rintro e W2 ⟨rfl, c2⟩
  have b2 : Below W.heap.size W W2 := bl_call (bl_alloc b1 _ (Nat.le_refl _)) c2 (Nat.le_refl _)
  clear c2 o
  go_wp2
  go_ret3
  exact ⟨by rw [HC.out]; rfl, bl_call hBW b2 (Nat.le_refl _)⟩
 have hzb : (e1 != 0) = true := by simpa using hz
 have HC : Hid (check7 s = (1, 0, e1)) := check7_1 HE1.out hz
 clear hz
 go_wp2
 go_ret3
 exact ⟨by rw [HC.out]; rfl, bl_call hBW b1 (Nat.le_refl _)⟩
end Go.Proofs.YtdbfincinjoppabGreatDoor
