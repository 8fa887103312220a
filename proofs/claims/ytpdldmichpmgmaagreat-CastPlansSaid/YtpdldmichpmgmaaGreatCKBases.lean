/- Walks, layer 7: out of a range, spans, shops in memory, what is seen, the search for a name among moulds. -/
import Derived.StillTailTactics
import Derived.Test.YtpdldmichpmgmaaGreatCCastOk
import Derived.Test.YtpdldmichpmgmaaGreatCTGen
set_option linter.unusedVariables false
set_option linter.unusedSimpArgs false
set_option linter.all false
namespace Go.Proofs.YtpdldmichpmgmaaGreat
open Go.RowKit Go.Shelf

theorem koutc_any (lo hi x : Int) (B1 B2 : Nat) (w : World) (h1 : w.cell? ⟨B1, 0, none⟩ = some (.int .i64 lo)) (h2 : w.cell? ⟨B2, 0, none⟩ = some (.int .i64 hi)) :
    Calls Tryz.prog 79 #[.int .i64 x, .pointer (some ⟨B1, 0, none⟩), .pointer (some ⟨B2, 0, none⟩)] w fun e w' => e = .returned (.bool (outB lo hi x)) ∧ w = w' := by
  have Hb : Hid (outB lo hi x = (decide (x < lo) || decide (hi < x))) := rfl
  by_cases c1 : x < lo
  · go_enter Tryz.func79, Tryz.ntmps79
    go_wp2
    go_ret
    exact ⟨ret_bool (by rw [Hb.out, decide_eq_true c1]; rfl), rfl⟩
  · by_cases c2 : hi < x
    · go_enter Tryz.func79, Tryz.ntmps79
      go_wp2
      go_ret
      exact ⟨ret_bool (by rw [Hb.out, decide_eq_true c2]; simp), rfl⟩
    · go_enter Tryz.func79, Tryz.ntmps79
      go_wp2
      go_ret
      exact ⟨ret_bool (by rw [Hb.out, decide_eq_false (by omega), decide_eq_false (by omega)]; rfl), rfl⟩
theorem eg_kout1 : Enters Tryz.prog 79 := enters_of Tryz.func79 (by kernel_rfl) rfl
theorem kout_any {S : Foot} {A : Option Addr} {n c : Nat} {xs : List Int} (lo hi : Int) (w : World) (h : Ints S w A n xs) :
    Calls Tryz.prog 55 #[.int .i64 lo, .int .i64 hi, .slice A n c] w fun e w' => e = .returned (.bool (xs.any (outB lo hi))) ∧ Below w.heap.size w w' := by
  have H1 : Ints S ((w.alloc (.cells #[.int .i64 lo] 3)).alloc (.cells #[.int .i64 hi] 3)) A n xs := (h.keep IntR.good (Keeps.alloc _ _)).keep IntR.good (Keeps.alloc _ _)
  have EG := Lib.hid eg_kout1
  go_enter Tryz.func55, Tryz.ntmps55
  go_wp2_with (go_at_call 78; refine (containsI_any (outB lo hi) 79 #[.pointer (some ⟨w.heap.size, 0, none⟩), .pointer (some ⟨w.heap.size + 1, 0, none⟩)] EG.out _ H1 (fun x W hb => by rw [app12]; exact koutc_any lo hi x w.heap.size (w.heap.size + 1) W (getc hb (oldc (newc rfl rfl))) (getc hb (newc rfl (by simp))))).mono ?_; rintro e w' ⟨rfl, rfl⟩)
  go_ret
  exact ⟨rfl, bl_alloc (bl_alloc (Below.refl _ _) _ (Nat.le_refl _)) _ (Nat.le_refl _)⟩
theorem kout1 {lo hi x : Int} {b : Bool} {g c : Nat} (w : World) (h : w.cell? ⟨g, 0, none⟩ = some (.int .i64 x)) (hb : outB lo hi x = b) :
    Calls Tryz.prog 55 #[.int .i64 lo, .int .i64 hi, .slice (some ⟨g, 0, none⟩) 1 c] w fun e w' => e = .returned (.bool b) ∧ Below w.heap.size w w' :=
  (kout_any lo hi w (Ints.one h)).mono fun _ _ ⟨he, hB⟩ => ⟨by rw [he, ← hb]; simp, hB⟩
theorem kout2 {lo hi x y : Int} {b : Bool} {g c : Nat} (w : World) (h : w.cell? ⟨g, 0, none⟩ = some (.int .i64 x)) (h2 : w.cell? ⟨g, 1, none⟩ = some (.int .i64 y)) (hb : (outB lo hi x || outB lo hi y) = b) :
    Calls Tryz.prog 55 #[.int .i64 lo, .int .i64 hi, .slice (some ⟨g, 0, none⟩) 2 c] w fun e w' => e = .returned (.bool b) ∧ Below w.heap.size w w' :=
  (kout_any lo hi w (Ints.two h h2)).mono fun _ _ ⟨he, hB⟩ => ⟨by rw [he, ← hb]; simp, hB⟩

/-- the error of a span -/
def spanE (a z lo hi wide : Int) : Int := if outB lo hi a || outB lo hi z then 7 else if outB a (a + wide) z then 2 else 0
theorem outB_iff {lo hi x : Int} : outB lo hi x = false ↔ lo ≤ x ∧ x ≤ hi := by unfold outB; simp
theorem spanE_range (a z : Int) : spanE a z 0 20000 20000 = rangeE ⟨a, z⟩ 0 20000 := by
  unfold spanE rangeE
  rw [outB_inB, outB_inB, outB_inB]
  dsimp only
  by_cases h1 : inB a 0 20000 = true
  · by_cases h2 : inB z 0 20000 = true
    · have e1 : (0 ≤ a ∧ a ≤ 20000) := by simpa [inB] using h1
      have e2 : (0 ≤ z ∧ z ≤ 20000) := by simpa [inB] using h2
      by_cases h3 : a ≤ z
      · have : inB z a (a + 20000) = true := by simp [inB]; omega
        simp [h1, h2, this]; omega
      · have : inB z a (a + 20000) = false := by simp [inB]; omega
        simp [h1, h2, this]; omega
    · have h2 : inB z 0 20000 = false := by simpa using h2
      simp [h2]
  · have h1 : inB a 0 20000 = false := by simpa using h1
    simp [h1]
set_option maxHeartbeats 1000000 in
theorem kspan_any (a z lo hi wide : Int) (hl : 0 ≤ lo) (hh : hi ≤ 100000) (hw : 0 ≤ wide ∧ wide ≤ 100000) (w : World) :
    Calls Tryz.prog 80 #[.agg #[.int .i64 a, .int .i64 z], .int .i64 lo, .int .i64 hi, .int .i64 wide] w fun e w' => e = .returned (.int .i64 (spanE a z lo hi wide)) ∧ Below w.heap.size w w' := by
  have HE : Hid (spanE a z lo hi wide = if outB lo hi a || outB lo hi z then 7 else if outB a (a + wide) z then 2 else 0) := rfl
  obtain ⟨W, hW⟩ : ∃ W, w.alloc (.cells #[.int .i64 a, .int .i64 z] 23) = W := ⟨_, rfl⟩
  have X : Blk W w.heap.size 23 #[.int .i64 a, .int .i64 z] := by rw [← hW]; exact Blk.new _ _ _ rfl
  have hBW : Below w.heap.size w W := by rw [← hW]; exact bl_alloc (Below.refl _ _) _ (Nat.le_refl _)
  have x0 := X.cell 0
  have x1 := X.cell 1
  have HW := Lib.hid hW
  have HWs : Hid (w.heap.size + 1 = W.heap.size) := by rw [Hid, ← hW]; simp
  clear hW
  cases o1 : (outB lo hi a || outB lo hi z)
  · have hab : (lo ≤ a ∧ a ≤ hi) := by
      have : outB lo hi a = false := by cases h : outB lo hi a <;> simp_all
      exact outB_iff.1 this
    have hwa : IntKind.i64.wrap (a + wide) = a + wide := by rw [IntKind.wrap_i64]; omega
    clear hab
    cases o2 : outB a (a + wide) z
    · go_enter Tryz.func80, Tryz.ntmps80
      go_wp2_with fail
      rw [HW.out]
      refine (kout2 _ (by exact newc rfl HWs.out) (by exact newc rfl HWs.out) o1).mono ?_
      rintro e W1 ⟨rfl, b1⟩
      have B1 : Below W.heap.size W W1 := bl_call (bl_alloc (Below.refl _ _) _ (Nat.le_refl _)) b1 (Nat.le_refl _)
      have y0 := getc B1 x0
      have y1 := getc B1 x1
      have HE2 : Hid (spanE a z lo hi wide = 0) := by rw [Hid, HE.out, o1, o2]; rfl
      clear b1 o1 x0 x1
      go_wp2_with fail
      refine (kout1 _ (by exact newc rfl rfl) o2).mono ?_
      rintro e W2 ⟨rfl, b2⟩
      have B2 : Below W.heap.size W W2 := bl_call (bl_alloc B1 _ (Nat.le_refl _)) b2 (Nat.le_refl _)
      clear o2 y0 y1
      go_wp2
      go_ret
      exact ⟨by rw [HE2.out]; rfl, bl_call hBW B2 (Nat.le_refl _)⟩
    · go_enter Tryz.func80, Tryz.ntmps80
      go_wp2_with fail
      rw [HW.out]
      refine (kout2 _ (by exact newc rfl HWs.out) (by exact newc rfl HWs.out) o1).mono ?_
      rintro e W1 ⟨rfl, b1⟩
      have B1 : Below W.heap.size W W1 := bl_call (bl_alloc (Below.refl _ _) _ (Nat.le_refl _)) b1 (Nat.le_refl _)
      have y0 := getc B1 x0
      have y1 := getc B1 x1
      have HE2 : Hid (spanE a z lo hi wide = 2) := by rw [Hid, HE.out, o1, o2]; rfl
      clear b1 o1 x0 x1
      go_wp2_with fail
      refine (kout1 _ (by exact newc rfl rfl) o2).mono ?_
      rintro e W2 ⟨rfl, b2⟩
      have B2 : Below W.heap.size W W2 := bl_call (bl_alloc B1 _ (Nat.le_refl _)) b2 (Nat.le_refl _)
      clear o2 y0 y1
      go_wp2
      go_ret
      exact ⟨by rw [HE2.out]; rfl, bl_call hBW B2 (Nat.le_refl _)⟩
  · have HE2 : Hid (spanE a z lo hi wide = 7) := by rw [Hid, HE.out, o1]; rfl
    go_enter Tryz.func80, Tryz.ntmps80
    go_wp2_with fail
    rw [HW.out]
    refine (kout2 _ (by exact newc rfl HWs.out) (by exact newc rfl HWs.out) o1).mono ?_
    rintro e W1 ⟨rfl, b1⟩
    have B1 : Below W.heap.size W W1 := bl_call (bl_alloc (Below.refl _ _) _ (Nat.le_refl _)) b1 (Nat.le_refl _)
    clear b1 o1 x0 x1
    go_wp2
    go_ret
    exact ⟨by rw [HE2.out]; rfl, bl_call hBW B1 (Nat.le_refl _)⟩
theorem ksize_any (a z : Int) (w : World) :
    Calls Tryz.prog 58 #[.agg #[.int .i64 a, .int .i64 z]] w fun e w' => e = .returned (.int .i64 (rangeE ⟨a, z⟩ 0 20000)) ∧ Below w.heap.size w w' := by
  go_enter Tryz.func58, Tryz.ntmps58
  go_wp2_with (go_at_call 80; refine (kspan_any a z 0 20000 20000 (by decide) (by decide) (by decide) _).mono ?_; rintro e w' ⟨rfl, hb⟩)
  go_ret
  exact ⟨by rw [← spanE_range]; rfl, bl_call (bl_alloc (Below.refl _ _) _ (Nat.le_refl _)) hb (Nat.le_refl _)⟩

def MouldR : Rd Mould := fun _ _ x vs => ∃ s : ByteArray, vs = [.string s, .int .i64 x.slo, .int .i64 x.shi, .int .i64 x.wlo, .int .i64 x.whi, .int .i64 x.casts] ∧ s.data.toList = x.name ∧ s.size ≤ 9223372036854775807
theorem MouldR.good : MouldR.Good 6 where
  len := by rintro S w x vs ⟨s, rfl, _⟩; rfl
  one := by rintro S w x vs ⟨s, rfl, _⟩ v hv; simp at hv; rcases hv with rfl | rfl | rfl | rfl | rfl | rfl <;> rfl
  keep := by rintro S w w' x vs h hk; exact h
  mono := by rintro S T w x vs h hk; exact h
  bound := by rintro S w x vs h; exact h
def SeenCR : Rd SeenC := fun _ _ x vs => vs = [.int .i64 x.mould, .int .i64 x.cast, .int .i64 x.lo, .int .i64 x.hi]
theorem SeenCR.good : SeenCR.Good 4 where
  len := by rintro S w x vs rfl; rfl
  one := by rintro S w x vs rfl v hv; simp at hv; rcases hv with rfl | rfl | rfl | rfl <;> rfl
  keep := by rintro S w w' x vs h hk; exact h
  mono := by rintro S T w x vs h hk; exact h
  bound := by rintro S w x vs h; exact h
def PairR : Rd (Int × Int) := fun _ _ x vs => vs = [.int .i64 x.1, .int .i64 x.2]
theorem PairR.good : PairR.Good 2 where
  len := by rintro S w x vs rfl; rfl
  one := by rintro S w x vs rfl v hv; simp at hv; rcases hv with rfl | rfl <;> rfl
  keep := by rintro S w w' x vs h hk; exact h
  mono := by rintro S T w x vs h hk; exact h
  bound := by rintro S w x vs h; exact h
def PlR : Rd (Nat × Nat) := fun _ _ x vs => vs = [.int .i64 (x.1 : Int), .int .i64 (x.2 : Int)]
theorem PlR.good : PlR.Good 2 where
  len := by rintro S w x vs rfl; rfl
  one := by rintro S w x vs rfl v hv; simp at hv; rcases hv with rfl | rfl <;> rfl
  keep := by rintro S w w' x vs h hk; exact h
  mono := by rintro S T w x vs h hk; exact h
  bound := by rintro S w x vs h; exact h
abbrev Moulds := SliceOf MouldR 6
abbrev SeenCs := SliceOf SeenCR 4
abbrev Pairs := SliceOf PairR 2
abbrev Pls := SliceOf PlR 2

section
variable {S : Foot} {w : World} {A : Option Addr} {n k : Nat}
theorem Moulds.get {xs : List Mould} (h : Moulds S w A n xs) (hk : k < n) :
    ∃ b off s a z y u c, A = some ⟨b, off, none⟩ ∧ b < w.heap.size ∧ w.cell? ⟨b, off + k * 6, none⟩ = some (.string s) ∧ w.cell? ⟨b, off + k * 6 + 1, none⟩ = some (.int .i64 a) ∧ w.cell? ⟨b, off + k * 6 + 2, none⟩ = some (.int .i64 z) ∧ w.cell? ⟨b, off + k * 6 + 3, none⟩ = some (.int .i64 y) ∧ w.cell? ⟨b, off + k * 6 + 4, none⟩ = some (.int .i64 u) ∧ w.cell? ⟨b, off + k * 6 + 5, none⟩ = some (.int .i64 c) ∧ s.size ≤ 9223372036854775807 ∧ Hid (xs[k]? = some ⟨s.data.toList, a, z, y, u, c⟩) := by
  have hlt : k < xs.length := by rw [h.1]; exact hk
  obtain ⟨b, off, vs, hA, _, hb, ⟨s, rfl, hn, hs⟩, hc⟩ := h.2.2 k xs[k] (List.getElem?_eq_getElem hlt)
  exact ⟨b, off, s, xs[k].slo, xs[k].shi, xs[k].wlo, xs[k].whi, xs[k].casts, hA, hb, by simpa using hc 0 _ rfl, by simpa using hc 1 _ rfl, by simpa using hc 2 _ rfl, by simpa using hc 3 _ rfl, by simpa using hc 4 _ rfl, by simpa using hc 5 _ rfl, hs, by rw [Hid, hn]; exact List.getElem?_eq_getElem hlt⟩
theorem SeenCs.get {xs : List SeenC} (h : SeenCs S w A n xs) (hk : k < n) :
    ∃ b off a z y u, A = some ⟨b, off, none⟩ ∧ b < w.heap.size ∧ w.cell? ⟨b, off + k * 4, none⟩ = some (.int .i64 a) ∧ w.cell? ⟨b, off + k * 4 + 1, none⟩ = some (.int .i64 z) ∧ w.cell? ⟨b, off + k * 4 + 2, none⟩ = some (.int .i64 y) ∧ w.cell? ⟨b, off + k * 4 + 3, none⟩ = some (.int .i64 u) ∧ Hid (xs[k]? = some ⟨a, z, y, u⟩) := by
  have hlt : k < xs.length := by rw [h.1]; exact hk
  obtain ⟨b, off, vs, hA, _, hb, rfl, hc⟩ := h.2.2 k xs[k] (List.getElem?_eq_getElem hlt)
  exact ⟨b, off, xs[k].mould, xs[k].cast, xs[k].lo, xs[k].hi, hA, hb, by simpa using hc 0 _ rfl, by simpa using hc 1 _ rfl, by simpa using hc 2 _ rfl, by simpa using hc 3 _ rfl, List.getElem?_eq_getElem hlt⟩
theorem Pairs.get {xs : List (Int × Int)} (h : Pairs S w A n xs) (hk : k < n) :
    ∃ b off a z, A = some ⟨b, off, none⟩ ∧ b < w.heap.size ∧ w.cell? ⟨b, off + k * 2, none⟩ = some (.int .i64 a) ∧ w.cell? ⟨b, off + k * 2 + 1, none⟩ = some (.int .i64 z) ∧ Hid (xs[k]? = some (a, z)) := by
  have hlt : k < xs.length := by rw [h.1]; exact hk
  obtain ⟨b, off, vs, hA, _, hb, rfl, hc⟩ := h.2.2 k xs[k] (List.getElem?_eq_getElem hlt)
  exact ⟨b, off, xs[k].1, xs[k].2, hA, hb, by simpa using hc 0 _ rfl, by simpa using hc 1 _ rfl, List.getElem?_eq_getElem hlt⟩
theorem Pls.get {xs : List (Nat × Nat)} (h : Pls S w A n xs) (hk : k < n) :
    ∃ (b off a z : Nat), A = some ⟨b, off, none⟩ ∧ b < w.heap.size ∧ w.cell? ⟨b, off + k * 2, none⟩ = some (.int .i64 (a : Int)) ∧ w.cell? ⟨b, off + k * 2 + 1, none⟩ = some (.int .i64 (z : Int)) ∧ Hid (xs[k]? = some (a, z)) := by
  have hlt : k < xs.length := by rw [h.1]; exact hk
  obtain ⟨b, off, vs, hA, _, hb, rfl, hc⟩ := h.2.2 k xs[k] (List.getElem?_eq_getElem hlt)
  exact ⟨b, off, xs[k].1, xs[k].2, hA, hb, by simpa using hc 0 _ rfl, by simpa using hc 1 _ rfl, List.getElem?_eq_getElem hlt⟩
end

theorem eg_KF : Enters Tryz.prog 112 := enters_of Tryz.func112 (by kernel_rfl) rfl
theorem eqKF_any (s t : ByteArray) (a z y u c : Int) (g : Nat) (w : World) (hg : w.cell? ⟨g, 0, none⟩ = some (.string t)) :
    Calls Tryz.prog 112 #[.agg #[.string s, .int .i64 a, .int .i64 z, .int .i64 y, .int .i64 u, .int .i64 c], .pointer (some ⟨g, 0, none⟩)] w fun e w' => e = .returned (.bool (decide (s.data.toList = t.data.toList))) ∧ Below w.heap.size w w' := by
  have h1 := oldc (o := .cells #[.string s, .int .i64 a, .int .i64 z, .int .i64 y, .int .i64 u, .int .i64 c] 93) hg
  by_cases hm : s.data.toList = t.data.toList
  · have hmb := streq_t hm
    have HM := Lib.hid hm
    clear hm
    go_enter Tryz.func112, Tryz.ntmps112
    go_wp2
    go_ret
    exact ⟨ret_bool (by rw [decide_eq_true HM.out]), bl_alloc (Below.refl _ _) _ (Nat.le_refl _)⟩
  · have hmb := streq_f hm
    have HM := Lib.hid hm
    clear hm
    go_enter Tryz.func112, Tryz.ntmps112
    go_wp2
    go_ret
    exact ⟨ret_bool (by rw [decide_eq_false HM.out]), bl_alloc (Below.refl _ _) _ (Nat.le_refl _)⟩
set_option maxHeartbeats 1000000 in
theorem indexKF_any {S : Foot} {A : Option Addr} {n c : Nat} {xs : List Mould} (t : ByteArray) (g : Nat) (w : World) (h : Moulds S w A n xs) (hg : w.cell? ⟨g, 0, none⟩ = some (.string t)) :
    Calls Tryz.prog 119 #[.slice A n c, .func (.func 112) #[] #[.pointer (some ⟨g, 0, none⟩)]] w fun e w' => (∃ r : Int, e = .returned (.int .i64 r) ∧ Hid (decide (0 ≤ r) = decide (t.data.toList ∈ xs.map (·.name)))) ∧ Below w.heap.size w w' := by
  have hle := h.le
  have Hn0 := Lib.hid h.len
  have eg : ∀ args w, (callFunc 112 args).run Tryz.prog w = .ok (.enter 112 args) w := eg_KF
  have EG := Lib.hid eg
  clear eg
  go_enter Tryz.func119, Tryz.ntmps119
  go_wp2
  go_loopw [5, 8] (fun _ i wr => ∃ k : Nat, k ≤ n ∧ i = .int .i64 k ∧ Below w.heap.size w wr ∧ Hid (t.data.toList ∉ (xs.take k).map (·.name))) (fun _ i _ => n - (intOf i).toNat)
  case atStart => exact ⟨0, Nat.zero_le _, rfl, Below.refl _ _, by simp [Hid]⟩
  case round =>
    obtain ⟨k, hk, rfl, hB, Hk⟩ := hrel
    by_cases hlt : k < n
    · have hki : (k : Int) < n := by omega
      have hr := h.keep MouldR.good (Keeps.below hB)
      obtain ⟨b, off, s, a, z, y, u, c5, rfl, hb0, hc0, hc1, hc2, hc3, hc4, hc5, hs, Hx⟩ := Moulds.get hr hlt
      have hcall := eqKF_any s t a z y u c5 g wr (getc hB hg)
      by_cases hm : s.data.toList = t.data.toList
      · have HM := Lib.hid hm
        rw [decide_eq_true hm] at hcall
        clear hm
        go_wp2_with (go_at_call 112; refine hcall.mono ?_; rintro e w2 ⟨rfl, hb2⟩)
        go_ret
        refine ⟨⟨_, rfl, ?_⟩, bl_call hB hb2 (Nat.le_refl _)⟩
        have hmem : t.data.toList ∈ xs.map (·.name) := List.mem_map.2 ⟨_, List.mem_of_getElem? Hx.out, HM.out⟩
        rw [Hid, decide_eq_true hmem]; simp
      · have HM := Lib.hid hm
        rw [decide_eq_false hm] at hcall
        clear hm
        go_wp2_with (go_at_call 112; refine hcall.mono ?_; rintro e w2 ⟨rfl, hb2⟩)
        go_roundw
        case rel => exact ⟨k + 1, by omega, by go_num, bl_call hB hb2 (Nat.le_refl _), by rw [Hid, take_snoc_get Hx.out, List.map_append, List.mem_append]; exact fun hc => hc.elim Hk.out (fun e => HM.out (List.mem_singleton.1 e).symm)⟩
        case measure => simp [intOf]; omega
    · obtain rfl : k = n := by omega
      go_wp2
      go_ret
      refine ⟨⟨_, rfl, ?_⟩, hB⟩
      have := Hk.out
      rw [List.take_of_length_le (by rw [Hn0.out]; exact Nat.le_refl _)] at this
      rw [Hid, decide_eq_false this]; rfl
theorem hasKF_any {S : Foot} {A : Option Addr} {n c : Nat} {xs : List Mould} (t : ByteArray) (g : Nat) (w : World) (h : Moulds S w A n xs) (hg : w.cell? ⟨g, 0, none⟩ = some (.string t)) :
    Calls Tryz.prog 111 #[.slice A n c, .func (.func 112) #[] #[.pointer (some ⟨g, 0, none⟩)]] w fun e w' => e = .returned (.bool (decide (t.data.toList ∈ xs.map (·.name)))) ∧ Below w.heap.size w w' := by
  have hle := h.le
  go_enter Tryz.func111, Tryz.ntmps111
  go_wp2_with (go_at_call 119; refine (indexKF_any t g _ h hg).mono ?_; rintro e w' ⟨⟨r, rfl, Hr⟩, hb⟩)
  go_ret
  exact ⟨ret_bool Hr.out, hb⟩
end Go.Proofs.YtpdldmichpmgmaaGreat

namespace Go.Proofs.YtpdldmichpmgmaaGreat
open Go.RowKit Go.Shelf

theorem mouldE_back {l : List Mould} {k : Nat} {s : List UInt8} {a z y u c : Int} (h : l[k]? = some ⟨s, a, z, y, u, c⟩) : mouldE l k = if isName s then (if s ∈ (l.take k).map (·.name) then 5 else if ((outB 1 20000 a || outB 1 20000 z) || (outB 0 20 y || outB 0 20 u)) || outB 1 8 c then 7 else if outB a (a + 12) z || outB y (y + 3) u then 2 else 0) else 6 := by
  unfold mouldE
  rw [getD_of h]
  unfold fresh mouldN
  dsimp only
  simp only [outB_inB]
  cases isName s
  · simp
  · by_cases hm : s ∈ (l.take k).map (·.name)
    · simp only [if_pos hm]; simp
    · simp only [if_neg hm, Bool.or_assoc]; simp
/-- the index and the error of the first thing with one -/
def firstP (E : Nat → Int) (n : Nat) : Int × Int := match firstErr E n with
  | some (k, e) => ((k : Int), e)
  | none => (0, 0)
theorem firstP_some {E : Nat → Int} {n k : Nat} {e : Int} (h : firstErr E n = some (k, e)) : firstP E n = ((k : Int), e) := by unfold firstP; rw [h]
theorem firstP_none {E : Nat → Int} {n : Nat} (h : firstErr E n = none) : firstP E n = (0, 0) := by unfold firstP; rw [h]
theorem eg_KC : Enters Tryz.prog 109 := enters_of Tryz.func109 (by kernel_rfl) rfl
theorem eg_KS : Enters Tryz.prog 91 := enters_of Tryz.func91 (by kernel_rfl) rfl
theorem eg_KO : Enters Tryz.prog 57 := enters_of Tryz.func57 (by kernel_rfl) rfl
set_option maxHeartbeats 1000000 in
/-- the first thing with an error (hachure/api.CaMould) -/
theorem kfirstM_any {S : Foot} {A : Option Addr} {n c : Nat} {xs : List Mould} (E : Nat → Int) (g : Nat) (lb : Array Value) (eg : ∀ args w, (callFunc g args).run Tryz.prog w = .ok (.enter g args) w) (w : World) (h : Moulds S w A n xs)
    (hp : ∀ (k : Nat) (s : ByteArray) (a z y u c5 : Int) (W : World), Below w.heap.size w W → s.size ≤ 9223372036854775807 → Hid (xs[k]? = some ⟨s.data.toList, a, z, y, u, c5⟩) → Calls Tryz.prog g (#[.int .i64 k, .agg #[.string s, .int .i64 a, .int .i64 z, .int .i64 y, .int .i64 u, .int .i64 c5]] ++ lb) W fun e W' => e = .returned (.int .i64 (E k)) ∧ Below W.heap.size W W') :
    Calls Tryz.prog 108 #[.slice A n c, .func (.func g) #[] lb] w fun e w' => e = .returned (.tuple #[.int .i64 (firstP E n).1, .int .i64 (firstP E n).2]) ∧ Below w.heap.size w w' := by
  have hle := h.le
  have HP := Lib.hid hp
  have HG := Lib.hid eg
  clear hp eg
  go_enter Tryz.func108, Tryz.ntmps108
  go_wp2
  go_loopw [6, 7, 8, 11] (fun _ _ _ i wr => ∃ k : Nat, k ≤ n ∧ i = .int .i64 k ∧ Below w.heap.size w wr ∧ Hid (∀ j, j < k → E j = 0)) (fun _ _ _ i _ => n - (intOf i).toNat)
  case atStart => exact ⟨0, Nat.zero_le _, rfl, Below.refl _ _, fun j h => by omega⟩
  case round =>
    obtain ⟨k, hk, rfl, hB, Hz⟩ := hrel
    by_cases hlt : k < n
    · have hki : (k : Int) < n := by omega
      have hr := h.keep MouldR.good (Keeps.below hB)
      obtain ⟨b, off, s, a, z, y, u, c5, rfl, hb0, hc0, hc1, hc2, hc3, hc4, hc5, hs, Hx⟩ := Moulds.get hr hlt
      have hB1 : Below w.heap.size w (wr.alloc (.cells #[.string s, .int .i64 a, .int .i64 z, .int .i64 y, .int .i64 u, .int .i64 c5] 93)) := bl_alloc hB _ (Nat.le_refl _)
      have hcall := HP.out k s a z y u c5 _ hB1 hs Hx
      have eg : ∀ args w, (callFunc g args).run Tryz.prog w = .ok (.enter g args) w := HG.out
      obtain ⟨lv, hlv⟩ : ∃ v, E k = v := ⟨_, rfl⟩
      rw [hlv] at hcall
      have HLV := Lib.hid hlv
      clear hlv hr
      by_cases he : lv = 0
      · have hne : (lv != 0) = false := by rw [he]; rfl
        have HE := Lib.hid he
        clear he
        go_wp2_with (go_at_fn g; refine hcall.mono ?_; rintro e w2 ⟨rfl, hb2⟩)
        have hB2 := bl_call hB1 hb2 (Nat.le_refl _)
        go_roundw
        case rel => exact ⟨k + 1, by omega, by go_num, hB2, upto_succ Hz.out (by rw [HLV.out, HE.out])⟩
        case measure => simp [intOf]; omega
      · have hne : (lv != 0) = true := by simpa using he
        have HE := Lib.hid he
        clear he
        go_wp2_with (go_at_fn g; refine hcall.mono ?_; rintro e w2 ⟨rfl, hb2⟩)
        have hB2 := bl_call hB1 hb2 (Nat.le_refl _)
        go_ret2
        refine ⟨?_, hB2⟩
        rw [firstP_some (firstErr_some hlt Hz.out (by rw [HLV.out]; exact HE.out)), HLV.out]; rfl
    · obtain rfl : k = n := by omega
      go_wp2
      go_ret2
      refine ⟨?_, hB⟩
      rw [firstP_none (firstErr_none Hz.out)]; rfl
set_option maxHeartbeats 1000000 in
/-- the first thing with an error (hachure/api.CaSeen) -/
theorem kfirstS_any {S : Foot} {A : Option Addr} {n c : Nat} {xs : List SeenC} (E : Nat → Int) (g : Nat) (lb : Array Value) (eg : ∀ args w, (callFunc g args).run Tryz.prog w = .ok (.enter g args) w) (w : World) (h : SeenCs S w A n xs)
    (hp : ∀ (k : Nat) (a z y u : Int) (W : World), Below w.heap.size w W → Hid (xs[k]? = some ⟨a, z, y, u⟩) → Calls Tryz.prog g (#[.int .i64 k, .agg #[.int .i64 a, .int .i64 z, .int .i64 y, .int .i64 u]] ++ lb) W fun e W' => e = .returned (.int .i64 (E k)) ∧ Below W.heap.size W W') :
    Calls Tryz.prog 90 #[.slice A n c, .func (.func g) #[] lb] w fun e w' => e = .returned (.tuple #[.int .i64 (firstP E n).1, .int .i64 (firstP E n).2]) ∧ Below w.heap.size w w' := by
  have hle := h.le
  have HP := Lib.hid hp
  have HG := Lib.hid eg
  clear hp eg
  go_enter Tryz.func90, Tryz.ntmps90
  go_wp2
  go_loopw [6, 7, 8, 11] (fun _ _ _ i wr => ∃ k : Nat, k ≤ n ∧ i = .int .i64 k ∧ Below w.heap.size w wr ∧ Hid (∀ j, j < k → E j = 0)) (fun _ _ _ i _ => n - (intOf i).toNat)
  case atStart => exact ⟨0, Nat.zero_le _, rfl, Below.refl _ _, fun j h => by omega⟩
  case round =>
    obtain ⟨k, hk, rfl, hB, Hz⟩ := hrel
    by_cases hlt : k < n
    · have hki : (k : Int) < n := by omega
      have hr := h.keep SeenCR.good (Keeps.below hB)
      obtain ⟨b, off, a, z, y, u, rfl, hb0, hc0, hc1, hc2, hc3, Hx⟩ := SeenCs.get hr hlt
      have hB1 : Below w.heap.size w (wr.alloc (.cells #[.int .i64 a, .int .i64 z, .int .i64 y, .int .i64 u] 97)) := bl_alloc hB _ (Nat.le_refl _)
      have hcall := HP.out k a z y u _ hB1 Hx
      have eg : ∀ args w, (callFunc g args).run Tryz.prog w = .ok (.enter g args) w := HG.out
      obtain ⟨lv, hlv⟩ : ∃ v, E k = v := ⟨_, rfl⟩
      rw [hlv] at hcall
      have HLV := Lib.hid hlv
      clear hlv hr
      by_cases he : lv = 0
      · have hne : (lv != 0) = false := by rw [he]; rfl
        have HE := Lib.hid he
        clear he
        go_wp2_with (go_at_fn g; refine hcall.mono ?_; rintro e w2 ⟨rfl, hb2⟩)
        have hB2 := bl_call hB1 hb2 (Nat.le_refl _)
        go_roundw
        case rel => exact ⟨k + 1, by omega, by go_num, hB2, upto_succ Hz.out (by rw [HLV.out, HE.out])⟩
        case measure => simp [intOf]; omega
      · have hne : (lv != 0) = true := by simpa using he
        have HE := Lib.hid he
        clear he
        go_wp2_with (go_at_fn g; refine hcall.mono ?_; rintro e w2 ⟨rfl, hb2⟩)
        have hB2 := bl_call hB1 hb2 (Nat.le_refl _)
        go_ret2
        refine ⟨?_, hB2⟩
        rw [firstP_some (firstErr_some hlt Hz.out (by rw [HLV.out]; exact HE.out)), HLV.out]; rfl
    · obtain rfl : k = n := by omega
      go_wp2
      go_ret2
      refine ⟨?_, hB⟩
      rw [firstP_none (firstErr_none Hz.out)]; rfl
set_option maxHeartbeats 1000000 in
/-- the first thing with an error (hachure/api.Span) -/
theorem kfirstP_any {S : Foot} {A : Option Addr} {n c : Nat} {xs : List (Int × Int)} (E : Nat → Int) (g : Nat) (lb : Array Value) (eg : ∀ args w, (callFunc g args).run Tryz.prog w = .ok (.enter g args) w) (w : World) (h : Pairs S w A n xs)
    (hp : ∀ (k : Nat) (a z : Int) (W : World), Below w.heap.size w W → Hid (xs[k]? = some (a, z)) → Calls Tryz.prog g (#[.int .i64 k, .agg #[.int .i64 a, .int .i64 z]] ++ lb) W fun e W' => e = .returned (.int .i64 (E k)) ∧ Below W.heap.size W W') :
    Calls Tryz.prog 56 #[.slice A n c, .func (.func g) #[] lb] w fun e w' => e = .returned (.tuple #[.int .i64 (firstP E n).1, .int .i64 (firstP E n).2]) ∧ Below w.heap.size w w' := by
  have hle := h.le
  have HP := Lib.hid hp
  have HG := Lib.hid eg
  clear hp eg
  go_enter Tryz.func56, Tryz.ntmps56
  go_wp2
  go_loopw [6, 7, 8, 11] (fun _ _ _ i wr => ∃ k : Nat, k ≤ n ∧ i = .int .i64 k ∧ Below w.heap.size w wr ∧ Hid (∀ j, j < k → E j = 0)) (fun _ _ _ i _ => n - (intOf i).toNat)
  case atStart => exact ⟨0, Nat.zero_le _, rfl, Below.refl _ _, fun j h => by omega⟩
  case round =>
    obtain ⟨k, hk, rfl, hB, Hz⟩ := hrel
    by_cases hlt : k < n
    · have hki : (k : Int) < n := by omega
      have hr := h.keep PairR.good (Keeps.below hB)
      obtain ⟨b, off, a, z, rfl, hb0, hc0, hc1, Hx⟩ := Pairs.get hr hlt
      have hB1 : Below w.heap.size w (wr.alloc (.cells #[.int .i64 a, .int .i64 z] 23)) := bl_alloc hB _ (Nat.le_refl _)
      have hcall := HP.out k a z _ hB1 Hx
      have eg : ∀ args w, (callFunc g args).run Tryz.prog w = .ok (.enter g args) w := HG.out
      obtain ⟨lv, hlv⟩ : ∃ v, E k = v := ⟨_, rfl⟩
      rw [hlv] at hcall
      have HLV := Lib.hid hlv
      clear hlv hr
      by_cases he : lv = 0
      · have hne : (lv != 0) = false := by rw [he]; rfl
        have HE := Lib.hid he
        clear he
        go_wp2_with (go_at_fn g; refine hcall.mono ?_; rintro e w2 ⟨rfl, hb2⟩)
        have hB2 := bl_call hB1 hb2 (Nat.le_refl _)
        go_roundw
        case rel => exact ⟨k + 1, by omega, by go_num, hB2, upto_succ Hz.out (by rw [HLV.out, HE.out])⟩
        case measure => simp [intOf]; omega
      · have hne : (lv != 0) = true := by simpa using he
        have HE := Lib.hid he
        clear he
        go_wp2_with (go_at_fn g; refine hcall.mono ?_; rintro e w2 ⟨rfl, hb2⟩)
        have hB2 := bl_call hB1 hb2 (Nat.le_refl _)
        go_ret2
        refine ⟨?_, hB2⟩
        rw [firstP_some (firstErr_some hlt Hz.out (by rw [HLV.out]; exact HE.out)), HLV.out]; rfl
    · obtain rfl : k = n := by omega
      go_wp2
      go_ret2
      refine ⟨?_, hB⟩
      rw [firstP_none (firstErr_none Hz.out)]; rfl
set_option maxHeartbeats 2000000 in
set_option maxRecDepth 100000 in
theorem kmould_any {A : Option Addr} {n ca : Nat} {L : List Mould} {klo khi : Int} (gs k : Nat) (s : ByteArray) (a z y u c : Int) (w : World) (h : Moulds (fun _ => True) w A n L) (hb : Blk w gs 26 #[.int .i64 klo, .int .i64 khi, .slice A n ca]) (hk : k ≤ n) (hca : n ≤ ca) (hs : s.size ≤ 9223372036854775807) (hx : Hid (L[k]? = some ⟨s.data.toList, a, z, y, u, c⟩)) :
    Calls Tryz.prog 109 #[.int .i64 k, .agg #[.string s, .int .i64 a, .int .i64 z, .int .i64 y, .int .i64 u, .int .i64 c], .pointer (some ⟨gs, 0, none⟩)] w fun e w' => e = .returned (.int .i64 (mouldE L k)) ∧ Below w.heap.size w w' := by
  have hle := h.le
  have HE : Hid (mouldE L k = _) := mouldE_back hx.out
  obtain ⟨W, hW⟩ : ∃ W, w.alloc (.cells #[.string s, .int .i64 a, .int .i64 z, .int .i64 y, .int .i64 u, .int .i64 c] 93) = W := ⟨_, rfl⟩
  have X : Blk W w.heap.size 93 #[.string s, .int .i64 a, .int .i64 z, .int .i64 y, .int .i64 u, .int .i64 c] := by rw [← hW]; exact Blk.new _ _ _ rfl
  have hc : Moulds (fun _ => True) W A n L := by rw [← hW]; exact h.keep MouldR.good (Keeps.alloc _ _)
  have hBW : Below w.heap.size w W := by rw [← hW]; exact bl_alloc (Below.refl _ _) _ (Nat.le_refl _)
  have Y : Blk W gs 26 #[.int .i64 klo, .int .i64 khi, .slice A n ca] := hb.bl hBW
  have kk : Hid (∀ V, Below W.heap.size W V → V.cell? ⟨w.heap.size, 0, none⟩ = some (.string s) ∧ V.cell? ⟨w.heap.size, 1, none⟩ = some (.int .i64 a) ∧ V.cell? ⟨w.heap.size, 2, none⟩ = some (.int .i64 z) ∧ V.cell? ⟨w.heap.size, 3, none⟩ = some (.int .i64 y) ∧ V.cell? ⟨w.heap.size, 4, none⟩ = some (.int .i64 u) ∧ V.cell? ⟨w.heap.size, 5, none⟩ = some (.int .i64 c) ∧ V.cell? ⟨gs, 2, none⟩ = some (.slice A n ca)) :=
    fun V hb => ⟨(X.bl hb).cell 0, (X.bl hb).cell 1, (X.bl hb).cell 2, (X.bl hb).cell 3, (X.bl hb).cell 4, (X.bl hb).cell 5, (Y.bl hb).cell 2⟩
  have HWs : Hid (w.heap.size + 1 = W.heap.size) := by rw [Hid, ← hW]; simp
  have HW := Lib.hid hW
  have hki : (k : Int) ≤ ca := by omega
  clear hW X Y h hb hx
  obtain ⟨x0, x1, x2, x3, x4, x5, x6⟩ := kk.out W (Below.refl _ _)
  go_enter Tryz.func109, Tryz.ntmps109
  go_wp2_with fail
  rw [HW.out]
  clear x0 x1 x2 x3 x4 x5 x6
  go_wp2_with fail
  refine (sheetName_any s _ hs).mono ?_
  rintro e W1 ⟨rfl, b1⟩
  cases hnm : isName s.data.toList
  · have HC : Hid (mouldE L k = 6) := by rw [Hid, HE.out, hnm]; rfl
    clear hnm
    go_wp2
    go_ret
    exact ⟨by rw [HC.out]; rfl, bl_call hBW b1 (Nat.le_refl _)⟩
  · obtain ⟨x0, x1, x2, x3, x4, x5, x6⟩ := kk.out W1 b1
    have hcr := (hc.keep MouldR.good (Keeps.below b1)).take hk
    go_wp2_with fail
    refine (hasKF_any s w.heap.size _ hcr x0).mono ?_
    rintro e W2 ⟨rfl, c2⟩
    have b2 := bl_call b1 c2 (Nat.le_refl _)
    clear c2 hcr x0 x1 x2 x3 x4 x5 x6 b1
    by_cases hmem : s.data.toList ∈ (L.take k).map (·.name)
    · have HC : Hid (mouldE L k = 5) := by rw [Hid, HE.out, hnm, if_pos hmem]; rfl
      rw [decide_eq_true hmem]
      clear hnm hmem
      go_wp2
      go_ret
      exact ⟨by rw [HC.out]; rfl, bl_call hBW b2 (Nat.le_refl _)⟩
    · have HE2 : Hid (mouldE L k = if ((outB 1 20000 a || outB 1 20000 z) || (outB 0 20 y || outB 0 20 u)) || outB 1 8 c then 7 else if outB a (a + 12) z || outB y (y + 3) u then 2 else 0) := by rw [Hid, HE.out, hnm, if_neg hmem]; rfl
      rw [decide_eq_false hmem]
      clear hnm hmem HE
      obtain ⟨x0, x1, x2, x3, x4, x5, x6⟩ := kk.out W2 b2
      cases o1 : (outB 1 20000 a || outB 1 20000 z)
      · have ha1 : inB a 1 20000 = true ∧ inB z 1 20000 = true := by rw [outB_inB, outB_inB] at o1; simpa using o1
        have hwa : IntKind.i64.wrap (a + 12) = a + 12 := by have := inB_iff.1 ha1.1; rw [IntKind.wrap_i64]; omega
        clear ha1
        go_wp2_with fail
        refine (kout2 _ (by exact newc rfl rfl) (by exact newc rfl rfl) o1).mono ?_
        rintro e W3 ⟨rfl, c⟩
        have b3 : Below W.heap.size W W3 := bl_call (bl_alloc b2 _ (Nat.le_refl _)) c (Nat.le_refl _)
        clear c
        clear x0 x1 x2 x3 x4 x5 x6
        obtain ⟨x0, x1, x2, x3, x4, x5, x6⟩ := kk.out W3 b3
        cases o2 : (outB 0 20 y || outB 0 20 u)
        · have ha1 : inB y 0 20 = true ∧ inB u 0 20 = true := by rw [outB_inB, outB_inB] at o2; simpa using o2
          have hwy : IntKind.i64.wrap (y + 3) = y + 3 := by have := inB_iff.1 ha1.1; rw [IntKind.wrap_i64]; omega
          clear ha1
          go_wp2_with fail
          refine (kout2 _ (by exact newc rfl rfl) (by exact newc rfl rfl) o2).mono ?_
          rintro e W4 ⟨rfl, c⟩
          have b4 : Below W.heap.size W W4 := bl_call (bl_alloc b3 _ (Nat.le_refl _)) c (Nat.le_refl _)
          clear c
          clear x0 x1 x2 x3 x4 x5 x6
          obtain ⟨x0, x1, x2, x3, x4, x5, x6⟩ := kk.out W4 b4
          cases o3 : outB 1 8 c
          · have HE3 : Hid (mouldE L k = if outB a (a + 12) z || outB y (y + 3) u then 2 else 0) := by rw [Hid, HE2.out, o1, o2, o3]; rfl
            clear o1 o2
            go_wp2_with fail
            refine (kout1 _ (by exact newc rfl rfl) o3).mono ?_
            rintro e W5 ⟨rfl, c⟩
            have b5 : Below W.heap.size W W5 := bl_call (bl_alloc b4 _ (Nat.le_refl _)) c (Nat.le_refl _)
            clear c
            clear x0 x1 x2 x3 x4 x5 x6
            obtain ⟨x0, x1, x2, x3, x4, x5, x6⟩ := kk.out W5 b5
            clear o3 b3 b4
            cases o4 : outB a (a + 12) z
            · cases o5 : outB y (y + 3) u
              · have HC : Hid (mouldE L k = 0) := by rw [Hid, HE3.out, o4, o5]; rfl
                go_wp2_with fail
                refine (kout1 _ (by exact newc rfl rfl) o4).mono ?_
                rintro e W6 ⟨rfl, c⟩
                have b6 : Below W.heap.size W W6 := bl_call (bl_alloc b5 _ (Nat.le_refl _)) c (Nat.le_refl _)
                clear c
                clear x0 x1 x2 x3 x4 x5 x6
                obtain ⟨x0, x1, x2, x3, x4, x5, x6⟩ := kk.out W6 b6
                clear o4
                go_wp2_with fail
                refine (kout1 _ (by exact newc rfl rfl) o5).mono ?_
                rintro e W7 ⟨rfl, c⟩
                have b7 : Below W.heap.size W W7 := bl_call (bl_alloc b6 _ (Nat.le_refl _)) c (Nat.le_refl _)
                clear c
                clear x0 x1 x2 x3 x4 x5 x6
                obtain ⟨x0, x1, x2, x3, x4, x5, x6⟩ := kk.out W7 b7
                clear o5
                go_wp2
                go_ret
                exact ⟨by rw [HC.out]; rfl, bl_call hBW b7 (Nat.le_refl _)⟩
              · have HC : Hid (mouldE L k = 2) := by rw [Hid, HE3.out, o4, o5]; rfl
                go_wp2_with fail
                refine (kout1 _ (by exact newc rfl rfl) o4).mono ?_
                rintro e W6 ⟨rfl, c⟩
                have b6 : Below W.heap.size W W6 := bl_call (bl_alloc b5 _ (Nat.le_refl _)) c (Nat.le_refl _)
                clear c
                clear x0 x1 x2 x3 x4 x5 x6
                obtain ⟨x0, x1, x2, x3, x4, x5, x6⟩ := kk.out W6 b6
                clear o4
                go_wp2_with fail
                refine (kout1 _ (by exact newc rfl rfl) o5).mono ?_
                rintro e W7 ⟨rfl, c⟩
                have b7 : Below W.heap.size W W7 := bl_call (bl_alloc b6 _ (Nat.le_refl _)) c (Nat.le_refl _)
                clear c
                clear x0 x1 x2 x3 x4 x5 x6
                obtain ⟨x0, x1, x2, x3, x4, x5, x6⟩ := kk.out W7 b7
                clear o5
                go_wp2
                go_ret
                exact ⟨by rw [HC.out]; rfl, bl_call hBW b7 (Nat.le_refl _)⟩
            · have HC : Hid (mouldE L k = 2) := by rw [Hid, HE3.out, o4]; rfl
              go_wp2_with fail
              refine (kout1 _ (by exact newc rfl rfl) o4).mono ?_
              rintro e W6 ⟨rfl, c⟩
              have b6 : Below W.heap.size W W6 := bl_call (bl_alloc b5 _ (Nat.le_refl _)) c (Nat.le_refl _)
              clear c
              clear x0 x1 x2 x3 x4 x5 x6
              obtain ⟨x0, x1, x2, x3, x4, x5, x6⟩ := kk.out W6 b6
              clear o4
              go_wp2
              go_ret
              exact ⟨by rw [HC.out]; rfl, bl_call hBW b6 (Nat.le_refl _)⟩
          · have HC : Hid (mouldE L k = 7) := by rw [Hid, HE2.out, o1, o2, o3]; rfl
            clear o1 o2
            go_wp2_with fail
            refine (kout1 _ (by exact newc rfl rfl) o3).mono ?_
            rintro e W5 ⟨rfl, c⟩
            have b5 : Below W.heap.size W W5 := bl_call (bl_alloc b4 _ (Nat.le_refl _)) c (Nat.le_refl _)
            clear c
            clear x0 x1 x2 x3 x4 x5 x6
            obtain ⟨x0, x1, x2, x3, x4, x5, x6⟩ := kk.out W5 b5
            clear o3
            go_wp2
            go_ret
            exact ⟨by rw [HC.out]; rfl, bl_call hBW b5 (Nat.le_refl _)⟩
        · have HC : Hid (mouldE L k = 7) := by rw [Hid, HE2.out, o1, o2]; rfl
          clear o1
          go_wp2_with fail
          refine (kout2 _ (by exact newc rfl rfl) (by exact newc rfl rfl) o2).mono ?_
          rintro e W4 ⟨rfl, c⟩
          have b4 : Below W.heap.size W W4 := bl_call (bl_alloc b3 _ (Nat.le_refl _)) c (Nat.le_refl _)
          clear c
          clear x0 x1 x2 x3 x4 x5 x6
          obtain ⟨x0, x1, x2, x3, x4, x5, x6⟩ := kk.out W4 b4
          clear o2
          go_wp2
          go_ret
          exact ⟨by rw [HC.out]; rfl, bl_call hBW b4 (Nat.le_refl _)⟩
      · have HC : Hid (mouldE L k = 7) := by rw [Hid, HE2.out, o1]; rfl
        go_wp2_with fail
        refine (kout2 _ (by exact newc rfl rfl) (by exact newc rfl rfl) o1).mono ?_
        rintro e W3 ⟨rfl, c⟩
        have b3 : Below W.heap.size W W3 := bl_call (bl_alloc b2 _ (Nat.le_refl _)) c (Nat.le_refl _)
        clear c
        clear x0 x1 x2 x3 x4 x5 x6
        obtain ⟨x0, x1, x2, x3, x4, x5, x6⟩ := kk.out W3 b3
        clear o1
        go_wp2
        go_ret
        exact ⟨by rw [HC.out]; rfl, bl_call hBW b3 (Nat.le_refl _)⟩
theorem check7_1 {s : Shop} {e : Int} (h : spanE s.klo s.khi 0 100 6 = e) (he : e ≠ 0) : check7 s = (1, 0, e) := by
  unfold spanE at h
  rw [outB_inB, outB_inB, outB_inB] at h
  unfold check7
  split at h
  · rename_i g; rw [if_pos g, h]
  · rename_i g
    rw [if_neg g]
    split at h
    · rename_i g2; rw [if_pos g2, h]
    · exact absurd h.symm he
theorem check7_2 {s : Shop} (h : spanE s.klo s.khi 0 100 6 = 0) (g : outB 1 4 (s.moulds.length : Int) = true) : check7 s = (1, 0, 3) := by
  unfold spanE at h
  rw [outB_inB, outB_inB, outB_inB] at h
  unfold check7
  split at h
  · cases h
  · rename_i g1
    rw [if_neg g1]
    split at h
    · cases h
    · rename_i g2; rw [if_neg g2, if_pos]; unfold outB at g; simp at g; omega
theorem check7_n {s : Shop} (h : spanE s.klo s.khi 0 100 6 = 0) (g : outB 1 4 (s.moulds.length : Int) = false) : check7 s = match firstErr (mouldE s.moulds) s.moulds.length with
    | some (k, e) => (2, k, e)
    | none => (0, 0, 0) := by
  unfold spanE at h
  rw [outB_inB, outB_inB, outB_inB] at h
  unfold check7
  split at h
  · cases h
  · rename_i g1
    rw [if_neg g1]
    split at h
    · cases h
    · rename_i g2; rw [if_neg g2, if_neg (by unfold outB at g; simp at g; omega)]; rfl
/-- a shop by value: a slice of moulds; its numbers stand in the value -/
abbrev ShopV (klo khi : Int) (A : Option Addr) (n ca : Nat) : Value := .agg #[.int .i64 klo, .int .i64 khi, .slice A n ca]
set_option maxHeartbeats 2000000 in
theorem kcheck_any {A : Option Addr} {n ca : Nat} {s : Shop} {klo khi : Int} (w : World) (g : Moulds (fun _ => True) w A n s.moulds) (hca : n ≤ ca) (h1 : s.klo = klo) (h2 : s.khi = khi) :
    Calls Tryz.prog 89 #[.agg #[.int .i64 klo, .int .i64 khi, .slice A n ca]] w fun e w' => e = .returned (.tuple #[.int .i64 (check7 s).1, .int .i64 (check7 s).2.1, .int .i64 (check7 s).2.2]) ∧ Below w.heap.size w w' := by
  have hle := g.le
  have Hn := Lib.hid g.len
  obtain ⟨W, hW⟩ : ∃ W, w.alloc (.cells #[.int .i64 klo, .int .i64 khi, .slice A n ca] 26) = W := ⟨_, rfl⟩
  have X : Blk W w.heap.size 26 #[.int .i64 klo, .int .i64 khi, .slice A n ca] := by rw [← hW]; exact Blk.new _ _ _ rfl
  have hBW : Below w.heap.size w W := by rw [← hW]; exact bl_alloc (Below.refl _ _) _ (Nat.le_refl _)
  have hc := g.keep MouldR.good (Keeps.below hBW)
  have HW := Lib.hid hW
  have HX := Lib.hid X
  have x0 := X.cell 0
  have x1 := X.cell 1
  clear hW g X
  obtain ⟨e1, he1⟩ : ∃ e, spanE klo khi 0 100 6 = e := ⟨_, rfl⟩
  have HE1 : Hid (spanE s.klo s.khi 0 100 6 = e1) := by rw [Hid, h1, h2, he1]
  go_enter Tryz.func89, Tryz.ntmps89
  go_wp2_with fail
  rw [HW.out]
  go_wp2_with fail
  refine (kspan_any klo khi 0 100 6 (by decide) (by decide) (by decide) _).mono ?_
  rintro e W1 ⟨rfl, b1⟩
  rw [he1]
  clear he1 x0 x1
  by_cases hz : e1 = 0
  · have hzb : (e1 != 0) = false := by rw [hz]; rfl
    have HE2 : Hid (spanE s.klo s.khi 0 100 6 = 0) := by rw [Hid, HE1.out, hz]
    clear hz
    have x2 := (HX.out.bl b1).cell 2
    cases o : outB 1 4 (n : Int)
    · have HO := Lib.hid o
      go_wp2_with fail
      refine (kout1 _ (by exact newc rfl rfl) o).mono ?_
      rintro e W2 ⟨rfl, c2⟩
      have b2 : Below W.heap.size W W2 := bl_call (bl_alloc b1 _ (Nat.le_refl _)) c2 (Nat.le_refl _)
      have x2 := (HX.out.bl b2).cell 2
      have hC : check7 s = _ := check7_n HE2.out (by rw [Hn.out]; exact HO.out)
      rw [Hn.out] at hC
      have HC := Lib.hid hC
      clear c2 o hC
      go_wp2_with fail
      refine (kfirstM_any (mouldE s.moulds) 109 #[.pointer (some ⟨w.heap.size, 0, none⟩)] eg_KC _ (hc.keep MouldR.good (Keeps.below b2)) (fun k sn a z y u c5 V hV hs hx => by
        have hVW : Below W.heap.size W V := bl_call b2 hV (Nat.le_refl _)
        refine kmould_any w.heap.size k sn a z y u c5 V (hc.keep MouldR.good (Keeps.below hVW)) (HX.out.bl hVW) ?_ hca hs hx
        have := (List.getElem?_eq_some_iff.1 hx.out).1
        have := Hn.out
        omega)).mono ?_
      rintro e W3 ⟨rfl, c3⟩
      have b3 := bl_call b2 c3 (Nat.le_refl _)
      clear c3 x2
      rcases firstErr_cases (mouldE s.moulds) n with ⟨q, _⟩ | ⟨j, _, q, hq, _⟩
      · have HC2 : Hid (check7 s = (0, 0, 0)) := by rw [Hid, HC.out, q]
        rw [firstP_none q]
        clear q
        go_wp2
        go_ret3
        exact ⟨by rw [HC2.out]; rfl, bl_call hBW b3 (Nat.le_refl _)⟩
      · obtain ⟨ev, hev⟩ : ∃ v, mouldE s.moulds j = v := ⟨_, rfl⟩
        rw [hev] at q hq
        have HC2 : Hid (check7 s = (2, (j : Int), ev)) := by rw [Hid, HC.out, q]
        rw [firstP_some q]
        have hqb : (ev != 0) = true := by simpa using hq
        clear q hq hev
        go_wp2
        go_ret3
        exact ⟨by rw [HC2.out]; rfl, bl_call hBW b3 (Nat.le_refl _)⟩
    · have HC : Hid (check7 s = (1, 0, 3)) := check7_2 HE2.out (by rw [Hn.out]; exact o)
      go_wp2_with fail
      refine (kout1 _ (by exact newc rfl rfl) o).mono ?_
      rintro e W2 ⟨rfl, c2⟩
      have b2 : Below W.heap.size W W2 := bl_call (bl_alloc b1 _ (Nat.le_refl _)) c2 (Nat.le_refl _)
      clear c2 o
      go_wp2
      go_ret3
      exact ⟨by rw [HC.out]; rfl, bl_call hBW b2 (Nat.le_refl _)⟩
  · have hzb : (e1 != 0) = true := by simpa using hz
    have HC : Hid (check7 s = (1, 0, e1)) := check7_1 HE1.out hz
    clear hz
    go_wp2
    go_ret3
    exact ⟨by rw [HC.out]; rfl, bl_call hBW b1 (Nat.le_refl _)⟩
end Go.Proofs.YtpdldmichpmgmaaGreat

namespace Go.Proofs.YtpdldmichpmgmaaGreat
open Go.RowKit Go.Shelf

theorem there_no {s : Shop} {m c : Int} (h : outB 0 ((s.moulds.length : Int) - 1) m = true) : (!there7 s m c) = true := by
  rw [outB_inB] at h
  unfold there7
  simp at h
  simp [h]
theorem there_at {s : Shop} {j : Nat} {x : Mould} {c : Int} (hx : s.moulds[j]? = some x) : (!there7 s (j : Int) c) = outB 0 (x.casts - 1) c := by
  have hj := (List.getElem?_eq_some_iff.1 hx).1
  unfold there7
  have h1 : inB (j : Int) 0 ((s.moulds.length : Int) - 1) = true := by simp [inB]; omega
  rw [h1, Int.toNat_natCast, getD_of hx, outB_inB, Bool.true_and]
set_option maxHeartbeats 2000000 in
theorem knone_any {A : Option Addr} {n ca : Nat} {s : Shop} {klo khi : Int} (hk : OkS s) (m c : Int) (w : World) (g : Moulds (fun _ => True) w A n s.moulds) :
    Calls Tryz.prog 68 #[.agg #[.int .i64 klo, .int .i64 khi, .slice A n ca], .int .i64 m, .int .i64 c] w fun e w' => e = .returned (.bool (!there7 s m c)) ∧ Below w.heap.size w w' := by
  have hle := g.le
  have Hn := Lib.hid g.len
  have hn4 : 1 ≤ n ∧ n ≤ 4 := by have := hk.nm; have := g.len; omega
  obtain ⟨W, hW⟩ : ∃ W, w.alloc (.cells #[.int .i64 klo, .int .i64 khi, .slice A n ca] 26) = W := ⟨_, rfl⟩
  have X : Blk W w.heap.size 26 #[.int .i64 klo, .int .i64 khi, .slice A n ca] := by rw [← hW]; exact Blk.new _ _ _ rfl
  have hBW : Below w.heap.size w W := by rw [← hW]; exact bl_alloc (Below.refl _ _) _ (Nat.le_refl _)
  have hc := g.keep MouldR.good (Keeps.below hBW)
  have HWs : Hid (w.heap.size + 1 = W.heap.size) := by rw [Hid, ← hW]; simp
  have HW := Lib.hid hW
  have HX := Lib.hid X
  have x2 := X.cell 2
  have HK := Lib.hid hk
  clear hW g X hk
  have hwn : IntKind.i64.wrap ((n : Int) - 1) = (n : Int) - 1 := by rw [IntKind.wrap_i64]; omega
  go_enter Tryz.func68, Tryz.ntmps68
  go_wp2_with fail
  rw [HW.out]
  cases o1 : outB 0 ((n : Int) - 1) m
  · go_wp2_with fail
    refine (kout1 _ (by exact newc rfl HWs.out) o1).mono ?_
    rintro e W1 ⟨rfl, c1⟩
    have b1 : Below W.heap.size W W1 := bl_call (bl_alloc (Below.refl _ _) _ (Nat.le_refl _)) c1 (Nat.le_refl _)
    obtain ⟨hm0, hm1⟩ := outB_iff.1 o1
    obtain ⟨j, rfl⟩ : ∃ j : Nat, m = (j : Int) := ⟨m.toNat, by omega⟩
    have hjn : j < n := by omega
    obtain ⟨b, off, sn, a, z, y, u, c5, rfl, hb0, hc0, hc1, hc2, hc3, hc4, hc5, hs, Hx⟩ := Moulds.get (hc.keep MouldR.good (Keeps.below b1)) hjn
    have hz := (mouldE_zero Hx.out (HK.out.mould (by rw [Hn.out]; exact hjn))).2.2
    dsimp only at hz
    have hw5 : IntKind.i64.wrap (c5 - 1) = c5 - 1 := by rw [IntKind.wrap_i64]; omega
    have hji : (j : Int) < n := by omega
    have HT : Hid ((!there7 s (j : Int) c) = outB 0 (c5 - 1) c) := there_at Hx.out
    obtain ⟨ob, hob⟩ : ∃ ob, outB 0 (c5 - 1) c = ob := ⟨_, rfl⟩
    have HT2 : Hid ((!there7 s (j : Int) c) = ob) := by rw [Hid, HT.out, hob]
    have x2 := (HX.out.bl b1).cell 2
    clear c1 o1 hm0 hm1 hz hc0 hc1 hc2 hc3 hc4
    go_wp2_with fail
    refine (kout1 _ (by exact newc rfl rfl) hob).mono ?_
    rintro e W2 ⟨rfl, c2⟩
    have b2 : Below W.heap.size W W2 := bl_call (bl_alloc b1 _ (Nat.le_refl _)) c2 (Nat.le_refl _)
    clear hob c2 x2 hc5
    go_wp2
    go_ret
    exact ⟨ret_bool HT2.out.symm, bl_call hBW b2 (Nat.le_refl _)⟩
  · have HT : Hid ((!there7 s m c) = true) := there_no (by rw [Hn.out]; exact o1)
    go_wp2_with fail
    refine (kout1 _ (by exact newc rfl HWs.out) o1).mono ?_
    rintro e W1 ⟨rfl, c1⟩
    have b1 : Below W.heap.size W W1 := bl_call (bl_alloc (Below.refl _ _) _ (Nat.le_refl _)) c1 (Nat.le_refl _)
    clear o1 c1
    go_wp2
    go_ret
    exact ⟨ret_bool HT.out.symm, bl_call hBW b1 (Nat.le_refl _)⟩
set_option maxHeartbeats 2000000 in
theorem kseen1_any {A : Option Addr} {n ca : Nat} {s : Shop} {l : List SeenC} {klo khi : Int} (hk : OkS s) (gs k : Nat) (a z y u : Int) (w : World) (g : Moulds (fun _ => True) w A n s.moulds) (hb : Blk w gs 26 #[.int .i64 klo, .int .i64 khi, .slice A n ca]) (hx : Hid (l[k]? = some ⟨a, z, y, u⟩)) :
    Calls Tryz.prog 91 #[.int .i64 k, .agg #[.int .i64 a, .int .i64 z, .int .i64 y, .int .i64 u], .pointer (some ⟨gs, 0, none⟩)] w fun e w' => e = .returned (.int .i64 (seenE7 s l k)) ∧ Below w.heap.size w w' := by
  obtain ⟨W, hW⟩ : ∃ W, w.alloc (.cells #[.int .i64 a, .int .i64 z, .int .i64 y, .int .i64 u] 97) = W := ⟨_, rfl⟩
  have X : Blk W w.heap.size 97 #[.int .i64 a, .int .i64 z, .int .i64 y, .int .i64 u] := by rw [← hW]; exact Blk.new _ _ _ rfl
  have hBW : Below w.heap.size w W := by rw [← hW]; exact bl_alloc (Below.refl _ _) _ (Nat.le_refl _)
  have hc := g.keep MouldR.good (Keeps.below hBW)
  have Y := hb.bl hBW
  have HW := Lib.hid hW
  have HX := Lib.hid X
  have y0 := oldc (o := .cells #[.int .i64 a, .int .i64 z, .int .i64 y, .int .i64 u] 97) (hb.cell 0)
  have y1 := oldc (o := .cells #[.int .i64 a, .int .i64 z, .int .i64 y, .int .i64 u] 97) (hb.cell 1)
  have y2 := oldc (o := .cells #[.int .i64 a, .int .i64 z, .int .i64 y, .int .i64 u] 97) (hb.cell 2)
  have HE : Hid (seenE7 s l k = if (!there7 s a z) = true then 4 else rangeE ⟨y, u⟩ 0 20000) := by
    rw [Hid, seenE7, getD_of hx.out]
  clear hW g X Y hb hx
  go_enter Tryz.func91, Tryz.ntmps91
  go_wp2_with fail
  rw [HW.out]
  refine (knone_any hk a z _ hc).mono ?_
  rintro e W1 ⟨rfl, b1⟩
  clear y0 y1 y2
  obtain ⟨tb, htb⟩ : ∃ tb, (!there7 s a z) = tb := ⟨_, rfl⟩
  rw [htb]
  cases tb with
  | true =>
    have HE2 : Hid (seenE7 s l k = 4) := by rw [Hid, HE.out, if_pos htb]
    clear htb
    go_wp2
    go_ret
    exact ⟨by rw [HE2.out]; rfl, bl_call hBW b1 (Nat.le_refl _)⟩
  | false =>
    have HE2 : Hid (seenE7 s l k = rangeE ⟨y, u⟩ 0 20000) := by rw [Hid, HE.out, if_neg (by rw [htb]; decide)]
    have x2 := (HX.out.bl b1).cell 2
    have x3 := (HX.out.bl b1).cell 3
    clear htb
    go_wp2_with fail
    refine (ksize_any y u _).mono ?_
    rintro e W2 ⟨rfl, c2⟩
    have b2 := bl_call b1 c2 (Nat.le_refl _)
    clear x2 x3
    go_wp2
    go_ret
    exact ⟨by rw [HE2.out]; rfl, bl_call hBW b2 (Nat.le_refl _)⟩
set_option maxHeartbeats 2000000 in
theorem kseen_any {A C : Option Addr} {n ca q cc : Nat} {s : Shop} {l : List SeenC} {klo khi : Int} (w : World) (g : Moulds (fun _ => True) w A n s.moulds) (gs : SeenCs (fun _ => True) w C q l) (hca : n ≤ ca) (h1 : s.klo = klo) (h2 : s.khi = khi) :
    Calls Tryz.prog 74 #[.agg #[.int .i64 klo, .int .i64 khi, .slice A n ca], .slice C q cc] w fun e w' => e = .returned (.tuple #[.int .i64 (seen7 s l).1, .int .i64 (seen7 s l).2]) ∧ Below w.heap.size w w' := by
  have hlq := gs.le
  have Hq := Lib.hid gs.len
  obtain ⟨W, hW⟩ : ∃ W, w.alloc (.cells #[.int .i64 klo, .int .i64 khi, .slice A n ca] 26) = W := ⟨_, rfl⟩
  have X : Blk W w.heap.size 26 #[.int .i64 klo, .int .i64 khi, .slice A n ca] := by rw [← hW]; exact Blk.new _ _ _ rfl
  have hBW : Below w.heap.size w W := by rw [← hW]; exact bl_alloc (Below.refl _ _) _ (Nat.le_refl _)
  have hc := g.keep MouldR.good (Keeps.below hBW)
  have hsn := gs.keep SeenCR.good (Keeps.below hBW)
  have HW := Lib.hid hW
  have HX := Lib.hid X
  clear hW g X gs
  go_enter Tryz.func74, Tryz.ntmps74
  go_wp2_with fail
  rw [HW.out]
  refine (kcheck_any W hc hca h1 h2).mono ?_
  rintro e W1 ⟨rfl, b1⟩
  by_cases he : (check7 s).2.2 = 0
  · have heb : ((check7 s).2.2 != 0) = false := by rw [he]; rfl
    have he' : err7 s = 0 := he
    have HOK : Hid (OkS s) := okS_of he
    by_cases h6 : 6 < q
    · have HC : Hid (seen7 s l = (0, 3)) := seen7_long he' (by rw [Hq.out]; exact h6)
      have h6i : (q : Int) > 6 := by omega
      clear he he'
      go_wp2
      go_ret2
      exact ⟨by rw [HC.out]; rfl, bl_call hBW b1 (Nat.le_refl _)⟩
    · have hC : seen7 s l = _ := seen7_n he' (by rw [Hq.out]; exact h6)
      rw [Hq.out] at hC
      have HC := Lib.hid hC
      have h6i : ¬ (q : Int) > 6 := by omega
      clear he he' hC
      go_wp2_with fail
      refine (kfirstS_any (seenE7 s l) 91 #[.pointer (some ⟨w.heap.size, 0, none⟩)] eg_KS _ (hsn.keep SeenCR.good (Keeps.below b1)) (fun k a z y u V hV hx => by
        have hVW : Below W.heap.size W V := bl_call b1 hV (Nat.le_refl _)
        exact kseen1_any HOK.out w.heap.size k a z y u V (hc.keep MouldR.good (Keeps.below hVW)) (HX.out.bl hVW) hx)).mono ?_
      rintro e W2 ⟨rfl, c2⟩
      have b2 := bl_call b1 c2 (Nat.le_refl _)
      have HP : Hid (seen7 s l = firstP (seenE7 s l) q) := HC.out
      clear c2
      go_wp2
      go_ret2
      exact ⟨by rw [HP.out]; rfl, bl_call hBW b2 (Nat.le_refl _)⟩
  · have HC : Hid (seen7 s l = (0, (check7 s).2.2)) := seen7_bad he
    have heb : ((check7 s).2.2 != 0) = true := by simpa using he
    clear he
    go_wp2
    go_ret2
    exact ⟨by rw [HC.out]; rfl, bl_call hBW b1 (Nat.le_refl _)⟩
end Go.Proofs.YtpdldmichpmgmaaGreat
