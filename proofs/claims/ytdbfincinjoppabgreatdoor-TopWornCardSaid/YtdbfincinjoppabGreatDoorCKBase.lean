/- A part of the proof that TopWorn always answers true. -/
import Derived.StillTailTactics
import Derived.Test.YtdbfincinjoppabGreatDoorCCastOk
import Derived.Test.YtdbfincinjoppabGreatDoorCLaw5
import Derived.Test.YtdbfincinjoppabGreatDoorCMaps2
import Derived.Test.YtdbfincinjoppabGreatDoorCRef1
import Derived.Test.YtdbfincinjoppabGreatDoorCRegion2
set_option linter.all false
namespace Go.Proofs.YtdbfincinjoppabGreatDoor
open Go.RowKit Go.Shelf
theorem koutc_any (lo hi x : Int) (B1 B2 : Nat) (w : World) (h1 : w.cell? ⟨B1, 0, none⟩ = some (.int .i64 lo)) (h2 : w.cell? ⟨B2, 0, none⟩ = some (.int .i64 hi)) :
  Calls Tryz.prog 100 #[.int .i64 x, .pointer (some ⟨B1, 0, none⟩), .pointer (some ⟨B2, 0, none⟩)] w fun e w' => e = .returned (.bool (outB lo hi x)) ∧ w = w' := by
 have Hb : Hid (outB lo hi x = (decide (x < lo) || decide (hi < x))) := rfl
 by_cases c1 : x < lo
 ·go_enter Tryz.func100, Tryz.ntmps100
  go_wp2
  go_ret
  exact ⟨ret_bool (by rw [Hb.out, decide_eq_true c1]; rfl), rfl⟩
 by_cases c2 : hi < x
 ·go_enter Tryz.func100, Tryz.ntmps100
  go_wp2
  go_ret
  exact ⟨ret_bool (by rw [Hb.out, decide_eq_true c2]; simp), rfl⟩
 go_enter Tryz.func100, Tryz.ntmps100
 go_wp2
 go_ret
 exact ⟨ret_bool (by rw [Hb.out, decide_eq_false (by omega), decide_eq_false (by omega)]; rfl), rfl⟩
theorem eg_kout1 : Enters Tryz.prog 100 := enters_of Tryz.func100 (by kernel_rfl) rfl
theorem kout_any {S : Foot} {A : Option Addr} {n c : Nat} {xs : List Int} (lo hi : Int) (w : World) (h : Ints S w A n xs) :
  Calls Tryz.prog 66 #[.int .i64 lo, .int .i64 hi, .slice A n c] w fun e w' => e = .returned (.bool (xs.any (outB lo hi))) ∧ Below w.heap.size w w' := by
 have H1 : Ints S ((w.alloc (.cells #[.int .i64 lo] 3)).alloc (.cells #[.int .i64 hi] 3)) A n xs := (h.keep IntR.good (Keeps.alloc _ _)).keep IntR.good (Keeps.alloc _ _)
 have EG := Lib.hid eg_kout1
 go_enter Tryz.func66, Tryz.ntmps66
 go_wp2_with (go_at_call 99; refine (containsI_any (outB lo hi) 100 #[.pointer (some ⟨w.heap.size, 0, none⟩), .pointer (some ⟨w.heap.size + 1, 0, none⟩)] EG.out _ H1 (fun x W hb => by rw [app12]; exact koutc_any lo hi x w.heap.size (w.heap.size + 1) W (getc hb (oldc (newc rfl rfl))) (getc hb (newc rfl (by simp))))).mono ?_; rintro e w' ⟨rfl, rfl⟩)
 go_ret
 exact ⟨rfl, bl_alloc (bl_alloc (Below.refl _ _) _ (Nat.le_refl _)) _ (Nat.le_refl _)⟩
theorem kout1 {lo hi x : Int} {b : Bool} {g c : Nat} (w : World) (h : w.cell? ⟨g, 0, none⟩ = some (.int .i64 x)) (hb : outB lo hi x = b) :
  Calls Tryz.prog 66 #[.int .i64 lo, .int .i64 hi, .slice (some ⟨g, 0, none⟩) 1 c] w fun e w' => e = .returned (.bool b) ∧ Below w.heap.size w w' :=
 (kout_any lo hi w (Ints.one h)).mono fun _ _ ⟨he, hB⟩ => ⟨by rw [he, ← hb]; simp, hB⟩
theorem kout2 {lo hi x y : Int} {b : Bool} {g c : Nat} (w : World) (h : w.cell? ⟨g, 0, none⟩ = some (.int .i64 x)) (h2 : w.cell? ⟨g, 1, none⟩ = some (.int .i64 y)) (hb : (outB lo hi x || outB lo hi y) = b) :
  Calls Tryz.prog 66 #[.int .i64 lo, .int .i64 hi, .slice (some ⟨g, 0, none⟩) 2 c] w fun e w' => e = .returned (.bool b) ∧ Below w.heap.size w w' :=
 (kout_any lo hi w (Ints.two h h2)).mono fun _ _ ⟨he, hB⟩ => ⟨by rw [he, ← hb]; simp, hB⟩
def spanE (a z lo hi wide : Int) : Int := if outB lo hi a || outB lo hi z then 7 else if outB a (a + wide) z then 2 else 0
theorem outB_iff {lo hi x : Int} : outB lo hi x = false ↔ lo ≤ x ∧ x ≤ hi := by unfold outB; simp
theorem spanE_range (a z : Int) : spanE a z 0 20000 20000 = rangeE ⟨a, z⟩ 0 20000 := by
 unfold spanE rangeE
 rw [outB_inB, outB_inB, outB_inB]
 dsimp only
 by_cases h1 : inB a 0 20000 = true
 ·by_cases h2 : inB z 0 20000 = true
  ·have e1 : (0 ≤ a ∧ a ≤ 20000) := by simpa [inB] using h1
   have e2 : (0 ≤ z ∧ z ≤ 20000) := by simpa [inB] using h2
   by_cases h3 : a ≤ z
   ·have : inB z a (a + 20000) = true := by simp [inB]; omega
    simp [h1, h2, this]; omega
   have : inB z a (a + 20000) = false := by simp [inB]; omega
   simp [h1, h2, this]; omega
  have h2 : inB z 0 20000 = false := by simpa using h2
  simp [h2]
 have h1 : inB a 0 20000 = false := by simpa using h1
 simp [h1]
set_option maxHeartbeats 1000000 in
theorem kspan_any (a z lo hi wide : Int) (hl : 0 ≤ lo) (hh : hi ≤ 100000) (hw : 0 ≤ wide ∧ wide ≤ 100000) (w : World) :
  Calls Tryz.prog 78 #[.agg #[.int .i64 a, .int .i64 z], .int .i64 lo, .int .i64 hi, .int .i64 wide] w fun e w' => e = .returned (.int .i64 (spanE a z lo hi wide)) ∧ Below w.heap.size w w' := by
 have HE : Hid (spanE a z lo hi wide = if outB lo hi a || outB lo hi z then 7 else if outB a (a + wide) z then 2 else 0) := rfl
 obtain ⟨W, hW⟩ : ∃ W, w.alloc (.cells #[.int .i64 a, .int .i64 z] 23) = W := ⟨_, rfl⟩
 have X : Blk W w.heap.size 23 #[.int .i64 a, .int .i64 z] := by rw [← hW]; exact Blk.new _ _ _ rfl
 have hBW : Below w.heap.size w W := by rw [← hW]; exact bl_alloc (Below.refl _ _) _ (Nat.le_refl _)
 have x0 := X.cell 0
 have x1 := X.cell 1
 have HW := Lib.hid hW
 have HWs : Hid (w.heap.size + 1 = W.heap.size) := by rw [Hid, ← hW]; simp
 clear hW
 cases o1 : (outB lo hi a || outB lo hi z)
 ·have hab : (lo ≤ a ∧ a ≤ hi) := by
   have : outB lo hi a = false := by cases h : outB lo hi a <;> simp_all
   exact outB_iff.1 this
  have hwa : IntKind.i64.wrap (a + wide) = a + wide := by rw [IntKind.wrap_i64]; omega
  clear hab
  cases o2 : outB a (a + wide) z
  ·go_enter Tryz.func78, Tryz.ntmps78
   go_wp2_with fail
   rw [HW.out]
   refine (kout2 _ (by exact newc rfl HWs.out) (by exact newc rfl HWs.out) o1).mono ?_
   rintro e W1 ⟨rfl, b1⟩
   have B1 : Below W.heap.size W W1 := bl_call (bl_alloc (Below.refl _ _) _ (Nat.le_refl _)) b1 (Nat.le_refl _)
   have y0 := getc B1 x0
   have y1 := getc B1 x1
   have HE2 : Hid (spanE a z lo hi wide = 0) := by rw [Hid, HE.out, o1, o2]; rfl
   clear b1 o1 x0 x1
   go_wp2_with fail
   refine (kout1 _ (by exact newc rfl rfl) o2).mono ?_
   rintro e W2 ⟨rfl, b2⟩
   have B2 : Below W.heap.size W W2 := bl_call (bl_alloc B1 _ (Nat.le_refl _)) b2 (Nat.le_refl _)
   clear o2 y0 y1
   go_wp2
   go_ret
   exact ⟨by rw [HE2.out]; rfl, bl_call hBW B2 (Nat.le_refl _)⟩
  go_enter Tryz.func78, Tryz.ntmps78
  go_wp2_with fail
  rw [HW.out]
  refine (kout2 _ (by exact newc rfl HWs.out) (by exact newc rfl HWs.out) o1).mono ?_
  rintro e W1 ⟨rfl, b1⟩
  have B1 : Below W.heap.size W W1 := bl_call (bl_alloc (Below.refl _ _) _ (Nat.le_refl _)) b1 (Nat.le_refl _)
  have y0 := getc B1 x0
  have y1 := getc B1 x1
  have HE2 : Hid (spanE a z lo hi wide = 2) := by rw [Hid, HE.out, o1, o2]; rfl
  clear b1 o1 x0 x1
  go_wp2_with fail
  refine (kout1 _ (by exact newc rfl rfl) o2).mono ?_
  rintro e W2 ⟨rfl, b2⟩
  have B2 : Below W.heap.size W W2 := bl_call (bl_alloc B1 _ (Nat.le_refl _)) b2 (Nat.le_refl _)
  clear o2 y0 y1
  go_wp2
  go_ret
  exact ⟨by rw [HE2.out]; rfl, bl_call hBW B2 (Nat.le_refl _)⟩
 have HE2 : Hid (spanE a z lo hi wide = 7) := by rw [Hid, HE.out, o1]; rfl
 go_enter Tryz.func78, Tryz.ntmps78
 go_wp2_with fail
 rw [HW.out]
 refine (kout2 _ (by exact newc rfl HWs.out) (by exact newc rfl HWs.out) o1).mono ?_
 rintro e W1 ⟨rfl, b1⟩
 have B1 : Below W.heap.size W W1 := bl_call (bl_alloc (Below.refl _ _) _ (Nat.le_refl _)) b1 (Nat.le_refl _)
 clear b1 o1 x0 x1
 go_wp2
 go_ret
 exact ⟨by rw [HE2.out]; rfl, bl_call hBW B1 (Nat.le_refl _)⟩
theorem ksize_any (a z : Int) (w : World) :
  Calls Tryz.prog 47 #[.agg #[.int .i64 a, .int .i64 z]] w fun e w' => e = .returned (.int .i64 (rangeE ⟨a, z⟩ 0 20000)) ∧ Below w.heap.size w w' := by
 go_enter Tryz.func47, Tryz.ntmps47
 go_wp2_with (go_at_call 78; refine (kspan_any a z 0 20000 20000 (by decide) (by decide) (by decide) _).mono ?_; rintro e w' ⟨rfl, hb⟩)
 go_ret
 exact ⟨by rw [← spanE_range]; rfl, bl_call (bl_alloc (Below.refl _ _) _ (Nat.le_refl _)) hb (Nat.le_refl _)⟩
def MouldR : Rd Mould := fun _ _ x vs => ∃ s : ByteArray, vs = [.string s, .int .i64 x.slo, .int .i64 x.shi, .int .i64 x.wlo, .int .i64 x.whi, .int .i64 x.casts] ∧ s.data.toList = x.name ∧ s.size ≤ 9223372036854775807
theorem MouldR.good : MouldR.Good 6 where
 len := by rintro S w x vs ⟨s, rfl, _⟩; rfl
 one := by rintro S w x vs ⟨s, rfl, _⟩ v hv; simp at hv; rcases hv with rfl | rfl | rfl | rfl | rfl | rfl <;> rfl
 keep := by rintro S w w' x vs h hk; exact h
 mono := by rintro S T w x vs h hk; exact h
 bound := by rintro S w x vs h; exact h
def SeenCR : Rd SeenC := fun _ _ x vs => vs = [.int .i64 x.mould, .int .i64 x.cast, .int .i64 x.lo, .int .i64 x.hi]
theorem SeenCR.good : SeenCR.Good 4 where
 len := by rintro S w x vs rfl; rfl
 one := by rintro S w x vs rfl v hv; simp at hv; rcases hv with rfl | rfl | rfl | rfl <;> rfl
 keep := by rintro S w w' x vs h hk; exact h
 mono := by rintro S T w x vs h hk; exact h
 bound := by rintro S w x vs h; exact h
def PairR : Rd (Int × Int) := fun _ _ x vs => vs = [.int .i64 x.1, .int .i64 x.2]
theorem PairR.good : PairR.Good 2 where
 len := by rintro S w x vs rfl; rfl
 one := by rintro S w x vs rfl v hv; simp at hv; rcases hv with rfl | rfl <;> rfl
 keep := by rintro S w w' x vs h hk; exact h
 mono := by rintro S T w x vs h hk; exact h
 bound := by rintro S w x vs h; exact h
def PlR : Rd (Nat × Nat) := fun _ _ x vs => vs = [.int .i64 (x.1 : Int), .int .i64 (x.2 : Int)]
theorem PlR.good : PlR.Good 2 where
 len := by rintro S w x vs rfl; rfl
 one := by rintro S w x vs rfl v hv; simp at hv; rcases hv with rfl | rfl <;> rfl
 keep := by rintro S w w' x vs h hk; exact h
 mono := by rintro S T w x vs h hk; exact h
 bound := by rintro S w x vs h; exact h
abbrev Moulds := SliceOf MouldR 6
abbrev SeenCs := SliceOf SeenCR 4
abbrev Pairs := SliceOf PairR 2
abbrev Pls := SliceOf PlR 2
section
variable {S : Foot} {w : World} {A : Option Addr} {n k : Nat}
theorem Moulds.get {xs : List Mould} (h : Moulds S w A n xs) (hk : k < n) :
  ∃ b off s a z y u c, A = some ⟨b, off, none⟩ ∧ b < w.heap.size ∧ w.cell? ⟨b, off + k * 6, none⟩ = some (.string s) ∧ w.cell? ⟨b, off + k * 6 + 1, none⟩ = some (.int .i64 a) ∧ w.cell? ⟨b, off + k * 6 + 2, none⟩ = some (.int .i64 z) ∧ w.cell? ⟨b, off + k * 6 + 3, none⟩ = some (.int .i64 y) ∧ w.cell? ⟨b, off + k * 6 + 4, none⟩ = some (.int .i64 u) ∧ w.cell? ⟨b, off + k * 6 + 5, none⟩ = some (.int .i64 c) ∧ s.size ≤ 9223372036854775807 ∧ Hid (xs[k]? = some ⟨s.data.toList, a, z, y, u, c⟩) := by
 have hlt : k < xs.length := by rw [h.1]; exact hk
 obtain ⟨b, off, vs, hA, _, hb, ⟨s, rfl, hn, hs⟩, hc⟩ := h.2.2 k xs[k] (List.getElem?_eq_getElem hlt)
 exact ⟨b, off, s, xs[k].slo, xs[k].shi, xs[k].wlo, xs[k].whi, xs[k].casts, hA, hb, by simpa using hc 0 _ rfl, by simpa using hc 1 _ rfl, by simpa using hc 2 _ rfl, by simpa using hc 3 _ rfl, by simpa using hc 4 _ rfl, by simpa using hc 5 _ rfl, hs, by rw [Hid, hn]; exact List.getElem?_eq_getElem hlt⟩
theorem SeenCs.get {xs : List SeenC} (h : SeenCs S w A n xs) (hk : k < n) :
  ∃ b off a z y u, A = some ⟨b, off, none⟩ ∧ b < w.heap.size ∧ w.cell? ⟨b, off + k * 4, none⟩ = some (.int .i64 a) ∧ w.cell? ⟨b, off + k * 4 + 1, none⟩ = some (.int .i64 z) ∧ w.cell? ⟨b, off + k * 4 + 2, none⟩ = some (.int .i64 y) ∧ w.cell? ⟨b, off + k * 4 + 3, none⟩ = some (.int .i64 u) ∧ Hid (xs[k]? = some ⟨a, z, y, u⟩) := by
 have hlt : k < xs.length := by rw [h.1]; exact hk
 obtain ⟨b, off, vs, hA, _, hb, rfl, hc⟩ := h.2.2 k xs[k] (List.getElem?_eq_getElem hlt)
 exact ⟨b, off, xs[k].mould, xs[k].cast, xs[k].lo, xs[k].hi, hA, hb, by simpa using hc 0 _ rfl, by simpa using hc 1 _ rfl, by simpa using hc 2 _ rfl, by simpa using hc 3 _ rfl, List.getElem?_eq_getElem hlt⟩
theorem Pairs.get {xs : List (Int × Int)} (h : Pairs S w A n xs) (hk : k < n) :
  ∃ b off a z, A = some ⟨b, off, none⟩ ∧ b < w.heap.size ∧ w.cell? ⟨b, off + k * 2, none⟩ = some (.int .i64 a) ∧ w.cell? ⟨b, off + k * 2 + 1, none⟩ = some (.int .i64 z) ∧ Hid (xs[k]? = some (a, z)) := by
 have hlt : k < xs.length := by rw [h.1]; exact hk
 obtain ⟨b, off, vs, hA, _, hb, rfl, hc⟩ := h.2.2 k xs[k] (List.getElem?_eq_getElem hlt)
 exact ⟨b, off, xs[k].1, xs[k].2, hA, hb, by simpa using hc 0 _ rfl, by simpa using hc 1 _ rfl, List.getElem?_eq_getElem hlt⟩
theorem Pls.get {xs : List (Nat × Nat)} (h : Pls S w A n xs) (hk : k < n) :
  ∃ (b off a z : Nat), A = some ⟨b, off, none⟩ ∧ b < w.heap.size ∧ w.cell? ⟨b, off + k * 2, none⟩ = some (.int .i64 (a : Int)) ∧ w.cell? ⟨b, off + k * 2 + 1, none⟩ = some (.int .i64 (z : Int)) ∧ Hid (xs[k]? = some (a, z)) := by
 have hlt : k < xs.length := by rw [h.1]; exact hk
 obtain ⟨b, off, vs, hA, _, hb, rfl, hc⟩ := h.2.2 k xs[k] (List.getElem?_eq_getElem hlt)
 exact ⟨b, off, xs[k].1, xs[k].2, hA, hb, by simpa using hc 0 _ rfl, by simpa using hc 1 _ rfl, List.getElem?_eq_getElem hlt⟩
end
theorem eg_KF : Enters Tryz.prog 124 := enters_of Tryz.func124 (by kernel_rfl) rfl
theorem eqKF_any (s t : ByteArray) (a z y u c : Int) (g : Nat) (w : World) (hg : w.cell? ⟨g, 0, none⟩ = some (.string t)) :
  Calls Tryz.prog 124 #[.agg #[.string s, .int .i64 a, .int .i64 z, .int .i64 y, .int .i64 u, .int .i64 c], .pointer (some ⟨g, 0, none⟩)] w fun e w' => e = .returned (.bool (decide (s.data.toList = t.data.toList))) ∧ Below w.heap.size w w' := by
 have h1 := oldc (o := .cells #[.string s, .int .i64 a, .int .i64 z, .int .i64 y, .int .i64 u, .int .i64 c] 33) hg
 by_cases hm : s.data.toList = t.data.toList
 ·have hmb := streq_t hm
  have HM := Lib.hid hm
  clear hm
  go_enter Tryz.func124, Tryz.ntmps124
  go_wp2
  go_ret
  exact ⟨ret_bool (by rw [decide_eq_true HM.out]), bl_alloc (Below.refl _ _) _ (Nat.le_refl _)⟩
 have hmb := streq_f hm
 have HM := Lib.hid hm
 clear hm
 go_enter Tryz.func124, Tryz.ntmps124
 go_wp2
 go_ret
 exact ⟨ret_bool (by rw [decide_eq_false HM.out]), bl_alloc (Below.refl _ _) _ (Nat.le_refl _)⟩
set_option maxHeartbeats 1000000 in
theorem indexKF_any {S : Foot} {A : Option Addr} {n c : Nat} {xs : List Mould} (t : ByteArray) (g : Nat) (w : World) (h : Moulds S w A n xs) (hg : w.cell? ⟨g, 0, none⟩ = some (.string t)) :
  Calls Tryz.prog 143 #[.slice A n c, .func (.func 124) #[] #[.pointer (some ⟨g, 0, none⟩)]] w fun e w' => (∃ r : Int, e = .returned (.int .i64 r) ∧ Hid (decide (0 ≤ r) = decide (t.data.toList ∈ xs.map (·.name)))) ∧ Below w.heap.size w w' := by
 have hle := h.le
 have Hn0 := Lib.hid h.len
 have eg : ∀ args w, (callFunc 124 args).run Tryz.prog w = .ok (.enter 124 args) w := eg_KF
 have EG := Lib.hid eg
 clear eg
 go_enter Tryz.func143, Tryz.ntmps143
 go_wp2
 go_loopw [5, 8] (fun _ i wr => ∃ k : Nat, k ≤ n ∧ i = .int .i64 k ∧ Below w.heap.size w wr ∧ Hid (t.data.toList ∉ (xs.take k).map (·.name))) (fun _ i _ => n - (intOf i).toNat)
 case atStart => exact ⟨0, Nat.zero_le _, rfl, Below.refl _ _, by simp [Hid]⟩
 case round =>
  obtain ⟨k, hk, rfl, hB, Hk⟩ := hrel
  by_cases hlt : k < n
  ·have hki : (k : Int) < n := by omega
   have hr := h.keep MouldR.good (Keeps.below hB)
   obtain ⟨b, off, s, a, z, y, u, c5, rfl, hb0, hc0, hc1, hc2, hc3, hc4, hc5, hs, Hx⟩ := Moulds.get hr hlt
   have hcall := eqKF_any s t a z y u c5 g wr (getc hB hg)
   by_cases hm : s.data.toList = t.data.toList
   ·have HM := Lib.hid hm
    rw [decide_eq_true hm] at hcall
    clear hm
    go_wp2_with (go_at_call 124; refine hcall.mono ?_; rintro e w2 ⟨rfl, hb2⟩)
    go_ret
    refine ⟨⟨_, rfl, ?_⟩, bl_call hB hb2 (Nat.le_refl _)⟩
    have hmem : t.data.toList ∈ xs.map (·.name) := List.mem_map.2 ⟨_, List.mem_of_getElem? Hx.out, HM.out⟩
    rw [Hid, decide_eq_true hmem]; simp
   have HM := Lib.hid hm
   rw [decide_eq_false hm] at hcall
   clear hm
   go_wp2_with (go_at_call 124; refine hcall.mono ?_; rintro e w2 ⟨rfl, hb2⟩)
   go_roundw
   case rel => exact ⟨k + 1, by omega, by go_num, bl_call hB hb2 (Nat.le_refl _), by rw [Hid, take_snoc_get Hx.out, List.map_append, List.mem_append]; exact fun hc => hc.elim Hk.out (fun e => HM.out (List.mem_singleton.1 e).symm)⟩
   case measure => simp [intOf]; omega
  obtain rfl : k = n := by omega
  go_wp2
  go_ret
  refine ⟨⟨_, rfl, ?_⟩, hB⟩
  have := Hk.out
  rw [List.take_of_length_le (by rw [Hn0.out]; exact Nat.le_refl _)] at this
  rw [Hid, decide_eq_false this]; rfl
theorem hasKF_any {S : Foot} {A : Option Addr} {n c : Nat} {xs : List Mould} (t : ByteArray) (g : Nat) (w : World) (h : Moulds S w A n xs) (hg : w.cell? ⟨g, 0, none⟩ = some (.string t)) :
  Calls Tryz.prog 123 #[.slice A n c, .func (.func 124) #[] #[.pointer (some ⟨g, 0, none⟩)]] w fun e w' => e = .returned (.bool (decide (t.data.toList ∈ xs.map (·.name)))) ∧ Below w.heap.size w w' := by
 have hle := h.le
 go_enter Tryz.func123, Tryz.ntmps123
 go_wp2_with (go_at_call 143; refine (indexKF_any t g _ h hg).mono ?_; rintro e w' ⟨⟨r, rfl, Hr⟩, hb⟩)
 go_ret
 exact ⟨ret_bool Hr.out, hb⟩
open Go.RowKit
theorem shopW_blk {w : World} {g : Nat} {t : TypeId} {sn : ByteArray} {a b k : Int} (hs : sn.size ≤ 9223372036854775807) (hB : Blk w g t #[.string sn, .int .i64 a, .int .i64 a, .int .i64 b, .int .i64 b, .int .i64 k]) : Moulds (fun _ => True) w (some ⟨g, 0, none⟩) 1 (shopW sn.data.toList a b k).moulds :=
 sliceOf_blk (R := MouldR) (m := 6) (xs := [⟨sn.data.toList, a, a, b, b, k⟩]) (vss := [[.string sn, .int .i64 a, .int .i64 a, .int .i64 b, .int .i64 b, .int .i64 k]]) rfl (fun vs h => by simp at h; subst h; rfl) (by simp [maxLen]) (fun j x vs hx hv => by
  rcases j with _ | j <;> simp at hx hv
  subst hx; subst hv
  exact ⟨sn, rfl, rfl, hs⟩) hB trivial
theorem featW_blk {S : Foot} {w : World} {g : Nat} {t : TypeId} {a : Int} (hB : Blk w g t #[.string ⟨#[115, 105, 122, 101]⟩, .int .i64 a, .int .i64 0]) (hS : S g) : Feats S w (some ⟨g, 0, none⟩) 1 [⟨[115, 105, 122, 101], a, 0⟩] :=
 sliceOf_blk (R := FeatR) (m := 3) (xs := [⟨[115, 105, 122, 101], a, 0⟩]) (vss := [[.string ⟨#[115, 105, 122, 101]⟩, .int .i64 a, .int .i64 0]]) rfl (fun vs h => by simp at h; subst h; rfl) (by simp [maxLen]) (fun j x vs hx hv => by
  rcases j with _ | j <;> simp at hx hv
  subst hx; subst hv
  exact ⟨⟨#[115, 105, 122, 101]⟩, rfl, rfl, by decide⟩) hB hS
theorem causeW_blk {S : Foot} {w : World} {g gp : Nat} {t t2 : TypeId} {b k1 : Int} (hB : Blk w g t #[.string ⟨#[119, 111, 114, 110]⟩, .int .i64 1, .int .i64 k1, .slice (some ⟨gp, 0, none⟩) 1 1]) (hP : Blk w gp t2 #[.int .i64 b]) (hS : S g) (hSp : S gp) : Causes S w (some ⟨g, 0, none⟩) 1 [⟨[119, 111, 114, 110], 1, k1, [b]⟩] :=
 sliceOf_blk (R := CauseR) (m := 4) (xs := [⟨[119, 111, 114, 110], 1, k1, [b]⟩]) (vss := [[.string ⟨#[119, 111, 114, 110]⟩, .int .i64 1, .int .i64 k1, .slice (some ⟨gp, 0, none⟩) 1 1]]) rfl (fun vs h => by simp at h; subst h; rfl) (by simp [maxLen]) (fun j x vs hx hv => by
  rcases j with _ | j <;> simp at hx hv
  subst hx; subst hv
  exact ⟨⟨#[119, 111, 114, 110]⟩, _, _, _, rfl, rfl, by decide, sliceOf_blk (R := IntR) (m := 1) (xs := [b]) (vss := [[.int .i64 b]]) rfl (fun vs h => by simp at h; subst h; rfl) (by simp [maxLen]) (fun j x vs hx hv => by
   rcases j with _ | j <;> simp at hx hv
   subst hx; subst hv
   rfl) hP hSp⟩) hB hS
theorem measW_blk {S : Foot} {w : World} {g : Nat} {t : TypeId} {s : Int} (hB : Blk w g t #[.int .i64 0, .int .i64 s]) (hS : S g) : Meass S w (some ⟨g, 0, none⟩) 1 [⟨0, s⟩] :=
 sliceOf_blk (R := MeasR) (m := 2) (xs := [⟨0, s⟩]) (vss := [[.int .i64 0, .int .i64 s]]) rfl (fun vs h => by simp at h; subst h; rfl) (by simp [maxLen]) (fun j x vs hx hv => by
  rcases j with _ | j <;> simp at hx hv
  subst hx; subst hv
  rfl) hB hS
theorem claimW_at {S : Foot} {w : World} {F K N : Option Addr} {kq : Nat} {a b k s : Int} (hF : Feats S w F 1 [⟨[115, 105, 122, 101], a, 0⟩]) (hK : Causes S w K kq (if 1 < k then [⟨[119, 111, 114, 110], 1, k - 1, [b]⟩] else [])) {V : World} (hk : Keeps S w V) (hN : Meass (fun _ => True) V N 1 [⟨0, s⟩]) : ClaimAt (fun _ => True) V F 1 K kq N 1 (claimW a b k s) :=
 ⟨(hF.keep FeatR.good hk).mono FeatR.good (fun _ _ => trivial), (hK.keep CauseR.good hk).mono CauseR.good (fun _ _ => trivial), hN⟩
open Go.RowKit
set_option maxHeartbeats 400000 in
theorem inside_any (n lo hi : Int) (w : World) :
  Calls Tryz.prog 10 #[.int .i64 n, .agg #[.int .i64 lo, .int .i64 hi]] w fun e w' => e = .returned (.bool (inB n lo hi)) ∧ Below w.heap.size w w' := by
 go_enter Tryz.func10, Tryz.ntmps10
 go_wp2_with (go_at_call 42; refine (in1_any _ _ _ _).mono ?_; rintro e w' ⟨rfl, rfl⟩)
 go_ret
 exact ⟨rfl, (Below.refl _ _).alloc (Nat.le_refl _) _⟩
open Go.RowKit Go.Shelf
def stE (B : Nat) (t : TypeId) (z v : Array Value) (L : List Value) (p : Nat) : Nat → Bool → Value → World → Prop := fun i b x W =>
 if i < p then x = L.getD i undef else if i = p then ∃ g, B ≤ g ∧ x = .pointer (some ⟨g, 0, none⟩) ∧ Blk W g t (if b then v else z) else True
theorem stE_stab (B : Nat) (t : TypeId) (z v : Array Value) (L : List Value) (p : Nat) : ∀ i b x w w', Below w.heap.size w w' → stE B t z v L p i b x w → stE B t z v L p i b x w' := by
 intro i b x w w' hb h
 unfold stE at h ⊢
 split
 ·rename_i hi; rw [if_pos hi] at h; exact h
 rename_i hi
 rw [if_neg hi] at h
 split
 ·rename_i hp
  rw [if_pos hp] at h
  obtain ⟨g, h1, h2, h3⟩ := h
  exact ⟨g, h1, h2, h3.bl hb⟩
 trivial
theorem stE_get {B : Nat} {t : TypeId} {z v : Array Value} {L : List Value} {p i : Nat} {b : Bool} {x y : Value} {W : World} (h : stE B t z v L p i b x W) (hi : i < p) (hy : L.getD i undef = y) : x = y := by
 unfold stE at h
 rw [if_pos hi] at h
 rw [h, hy]
theorem stE_put {B : Nat} {t : TypeId} {z v : Array Value} {L : List Value} {p i : Nat} {b : Bool} {x : Value} {W : World} (hi : i < p) (hy : L.getD i undef = x) : stE B t z v L p i b x W := by
 unfold stE
 rw [if_pos hi, hy]
theorem stE_new {B : Nat} {t : TypeId} {z v : Array Value} {L : List Value} {p : Nat} {W : World} (hB : B ≤ W.heap.size) {b : Bool} (hb : b = false) : stE B t z v L p p b (.pointer (some ⟨W.heap.size, 0, none⟩)) (W.alloc (.cells z t)) := by
 subst hb
 unfold stE
 rw [if_neg (Nat.lt_irrefl _), if_pos rfl]
 exact ⟨_, hB, rfl, Blk.new _ _ _ rfl⟩
theorem stE_at {B : Nat} {t : TypeId} {z v : Array Value} {L : List Value} {p : Nat} {b : Bool} {x : Value} {W : World} (h : stE B t z v L p p b x W) : ∃ g, B ≤ g ∧ x = .pointer (some ⟨g, 0, none⟩) ∧ Blk W g t (if b then v else z) := by
 unfold stE at h
 rw [if_neg (Nat.lt_irrefl _), if_pos rfl] at h
 exact h
end Go.Proofs.YtdbfincinjoppabGreatDoor
