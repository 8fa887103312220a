/- Walks: the program's out of a range, and the library's search by a function. -/
import Derived.Shelf.Abstract
import Derived.StillTailTactics
import Derived.Test.YtnaadjhiahjlfaaCOwn
import Derived.Test.YtnaadjhiahjlfaaCSmalls
import Derived.Test.YtnaadjhiahjlfaaCTilePure
set_option linter.unusedVariables false
set_option linter.unusedSimpArgs false
set_option linter.all false
namespace Go.Proofs.Ytnaadjhiahjlfaa
open Go.RowKit Go.Shelf

def outB (lo hi x : Int) : Bool := decide (x < lo) || decide (hi < x)
theorem outB_inB (lo hi x : Int) : outB lo hi x = !inB x lo hi := by
  unfold outB inB
  by_cases h1 : x < lo <;> by_cases h2 : hi < x <;> simp [h1, h2] <;> omega

theorem any_take_no {α : Type} {xs : List α} {k : Nat} {x : α} {p : α → Bool} (hx : xs[k]? = some x) (h : (xs.take k).any p = false) (hp : p x = false) : (xs.take (k + 1)).any p = false := by
  rw [take_snoc_get hx, List.any_append, h]; simp [hp]
theorem any_yes {α : Type} {xs : List α} {k : Nat} {x : α} {p : α → Bool} (hx : xs[k]? = some x) (hp : p x = true) : xs.any p = true := List.any_eq_true.2 ⟨x, List.mem_of_getElem? hx, hp⟩

set_option maxHeartbeats 1000000 in
theorem indexI_any {S : Foot} {A : Option Addr} {n c : Nat} {xs : List Int} (p : Int → Bool) (g : Nat) (lb : Array Value) (eg : ∀ args w, (callFunc g args).run Try.prog w = .ok (.enter g args) w) (w : World) (h : Ints S w A n xs)
    (hp : ∀ (x : Int) (W : World), Below w.heap.size w W → Calls Try.prog g (#[.int .i64 x] ++ lb) W fun e W' => e = .returned (.bool (p x)) ∧ W = W') :
    Calls Try.prog 137 #[.slice A n c, .func (.func g) #[] lb] w fun e w' => (∃ r : Int, e = .returned (.int .i64 r) ∧ Hid (decide (0 ≤ r) = xs.any p)) ∧ w = w' := by
  have hle := h.le
  have Hn0 := Lib.hid h.len
  have HP := Lib.hid hp
  clear hp
  go_enter Try.func137, Try.ntmps137
  go_wp2
  go_loop [5, 8] (fun _ i => ∃ k : Nat, k ≤ n ∧ i = .int .i64 k ∧ Hid ((xs.take k).any p = false)) (fun _ i => n - (intOf i).toNat)
  case atStart => exact ⟨0, Nat.zero_le _, rfl, rfl⟩
  case round =>
    obtain ⟨k, hk, rfl, Hk⟩ := hrel
    by_cases hlt : k < n
    · have hki : (k : Int) < n := by omega
      obtain ⟨b, off, x, rfl, hcell, Hx⟩ := h.get hlt
      have hcall := HP.out x w (Below.refl _ _)
      cases hq : p x with
      | true =>
        have HQ := Lib.hid hq
        rw [hq] at hcall
        clear hq
        go_wp2_with (go_at_fn g; refine hcall.mono ?_; rintro e w' ⟨rfl, rfl⟩)
        go_ret
        exact ⟨⟨_, rfl, by rw [Hid, any_yes Hx.out HQ.out]; simp⟩, rfl⟩
      | false =>
        have HQ := Lib.hid hq
        rw [hq] at hcall
        clear hq
        go_wp2_with (go_at_fn g; refine hcall.mono ?_; rintro e w' ⟨rfl, rfl⟩)
        go_round
        case rel => exact ⟨k + 1, by omega, by go_num, any_take_no Hx.out Hk.out HQ.out⟩
        case measure => simp [intOf]; omega
    · obtain rfl : k = n := by omega
      go_wp2
      go_ret
      refine ⟨⟨_, rfl, ?_⟩, rfl⟩
      have := Hk.out
      rw [List.take_of_length_le (by rw [Hn0.out]; exact Nat.le_refl _)] at this
      rw [Hid, this]; rfl

theorem containsI_any {S : Foot} {A : Option Addr} {n c : Nat} {xs : List Int} (p : Int → Bool) (g : Nat) (lb : Array Value) (eg : ∀ args w, (callFunc g args).run Try.prog w = .ok (.enter g args) w) (w : World) (h : Ints S w A n xs)
    (hp : ∀ (x : Int) (W : World), Below w.heap.size w W → Calls Try.prog g (#[.int .i64 x] ++ lb) W fun e W' => e = .returned (.bool (p x)) ∧ W = W') :
    Calls Try.prog 113 #[.slice A n c, .func (.func g) #[] lb] w fun e w' => e = .returned (.bool (xs.any p)) ∧ w = w' := by
  have hle := h.le
  have HP := Lib.hid hp
  have HG := Lib.hid eg
  clear hp eg
  go_enter Try.func113, Try.ntmps113
  go_wp2_with (go_at_call 137; refine (indexI_any p g lb HG.out _ h HP.out).mono ?_; rintro e w' ⟨⟨r, rfl, Hr⟩, rfl⟩)
  go_ret
  exact ⟨ret_bool Hr.out, rfl⟩

theorem outc_any (lo hi x : Int) (B1 B2 : Nat) (w : World) (h1 : w.cell? ⟨B1, 0, none⟩ = some (.int .i64 lo)) (h2 : w.cell? ⟨B2, 0, none⟩ = some (.int .i64 hi)) :
    Calls Try.prog 132 #[.int .i64 x, .pointer (some ⟨B1, 0, none⟩), .pointer (some ⟨B2, 0, none⟩)] w fun e w' => e = .returned (.bool (outB lo hi x)) ∧ w = w' := by
  have Hb : Hid (outB lo hi x = (decide (x < lo) || decide (hi < x))) := rfl
  by_cases c1 : x < lo
  · go_enter Try.func132, Try.ntmps132
    go_wp2
    go_ret
    exact ⟨ret_bool (by rw [Hb.out, decide_eq_true c1]; rfl), rfl⟩
  · by_cases c2 : hi < x
    · go_enter Try.func132, Try.ntmps132
      go_wp2
      go_ret
      exact ⟨ret_bool (by rw [Hb.out, decide_eq_true c2]; simp), rfl⟩
    · go_enter Try.func132, Try.ntmps132
      go_wp2
      go_ret
      exact ⟨ret_bool (by rw [Hb.out, decide_eq_false (by omega), decide_eq_false (by omega)]; rfl), rfl⟩

theorem app11 (a b : Value) : (#[a] ++ #[b] : Array Value) = #[a, b] := rfl
theorem app12 (a b c : Value) : (#[a] ++ #[b, c] : Array Value) = #[a, b, c] := rfl
theorem eg_out1 : Enters Try.prog 132 := enters_of Try.func132 (by kernel_rfl) rfl
theorem out_any {S : Foot} {A : Option Addr} {n c : Nat} {xs : List Int} (lo hi : Int) (w : World) (h : Ints S w A n xs) :
    Calls Try.prog 96 #[.int .i64 lo, .int .i64 hi, .slice A n c] w fun e w' => e = .returned (.bool (xs.any (outB lo hi))) ∧ Below w.heap.size w w' := by
  have H1 : Ints S ((w.alloc (.cells #[.int .i64 lo] 3)).alloc (.cells #[.int .i64 hi] 3)) A n xs := (h.keep IntR.good (Keeps.alloc _ _)).keep IntR.good (Keeps.alloc _ _)
  have EG := Lib.hid eg_out1
  go_enter Try.func96, Try.ntmps96
  go_wp2_with (go_at_call 113; refine (containsI_any (outB lo hi) 132 #[.pointer (some ⟨w.heap.size, 0, none⟩), .pointer (some ⟨w.heap.size + 1, 0, none⟩)] EG.out _ H1 (fun x W hb => by rw [app12]; exact outc_any lo hi x w.heap.size (w.heap.size + 1) W (getc hb (oldc (newc rfl rfl))) (getc hb (newc rfl (by simp))))).mono ?_; rintro e w' ⟨rfl, rfl⟩)
  go_ret
  exact ⟨rfl, bl_alloc (bl_alloc (Below.refl _ _) _ (Nat.le_refl _)) _ (Nat.le_refl _)⟩

end Go.Proofs.Ytnaadjhiahjlfaa

namespace Go.Proofs.Ytnaadjhiahjlfaa
open Go.RowKit Go.Shelf

def TileR : Rd Tile := fun _ _ x vs => ∃ s : ByteArray, vs = [.string s, .int .i64 x.wlo, .int .i64 x.whi, .int .i64 x.slo, .int .i64 x.shi] ∧ s.data.toList = x.name ∧ s.size ≤ 9223372036854775807
theorem TileR.good : TileR.Good 5 where
  len := by rintro S w x vs ⟨s, rfl, _⟩; rfl
  one := by rintro S w x vs ⟨s, rfl, _⟩ v hv; simp at hv; rcases hv with rfl | rfl | rfl | rfl | rfl <;> rfl
  keep := by rintro S w w' x vs h hk; exact h
  mono := by rintro S T w x vs h hk; exact h
  bound := by rintro S w x vs h; exact h
def RowR : Rd RowT := fun _ _ x vs => vs = [.int .i64 x.frame, .int .i64 x.swell, .int .i64 x.places]
theorem RowR.good : RowR.Good 3 where
  len := by rintro S w x vs rfl; rfl
  one := by rintro S w x vs rfl v hv; simp at hv; rcases hv with rfl | rfl | rfl <;> rfl
  keep := by rintro S w w' x vs h hk; exact h
  mono := by rintro S T w x vs h hk; exact h
  bound := by rintro S w x vs h; exact h
def SeenR : Rd Seen := fun _ _ x vs => vs = [.int .i64 x.tile, .int .i64 x.air, .int .i64 x.lo, .int .i64 x.hi]
theorem SeenR.good : SeenR.Good 4 where
  len := by rintro S w x vs rfl; rfl
  one := by rintro S w x vs rfl v hv; simp at hv; rcases hv with rfl | rfl | rfl | rfl <;> rfl
  keep := by rintro S w w' x vs h hk; exact h
  mono := by rintro S T w x vs h hk; exact h
  bound := by rintro S w x vs h; exact h
abbrev Tiles := SliceOf TileR 5
abbrev RowTs := SliceOf RowR 3
abbrev Seens := SliceOf SeenR 4

section
variable {S : Foot} {w : World} {A : Option Addr} {n k : Nat}
theorem Tiles.get {xs : List Tile} (h : Tiles S w A n xs) (hk : k < n) :
    ∃ b off s a z y u, A = some ⟨b, off, none⟩ ∧ b < w.heap.size ∧ w.cell? ⟨b, off + k * 5, none⟩ = some (.string s) ∧ w.cell? ⟨b, off + k * 5 + 1, none⟩ = some (.int .i64 a) ∧ w.cell? ⟨b, off + k * 5 + 2, none⟩ = some (.int .i64 z) ∧ w.cell? ⟨b, off + k * 5 + 3, none⟩ = some (.int .i64 y) ∧ w.cell? ⟨b, off + k * 5 + 4, none⟩ = some (.int .i64 u) ∧ s.size ≤ 9223372036854775807 ∧ Hid (xs[k]? = some ⟨s.data.toList, a, z, y, u⟩) := by
  have hlt : k < xs.length := by rw [h.1]; exact hk
  obtain ⟨b, off, vs, hA, _, hb, ⟨s, rfl, hn, hs⟩, hc⟩ := h.2.2 k xs[k] (List.getElem?_eq_getElem hlt)
  exact ⟨b, off, s, xs[k].wlo, xs[k].whi, xs[k].slo, xs[k].shi, hA, hb, by simpa using hc 0 _ rfl, by simpa using hc 1 _ rfl, by simpa using hc 2 _ rfl, by simpa using hc 3 _ rfl, by simpa using hc 4 _ rfl, hs, by rw [Hid, hn]; exact List.getElem?_eq_getElem hlt⟩
theorem RowTs.get {xs : List RowT} (h : RowTs S w A n xs) (hk : k < n) :
    ∃ b off a z y, A = some ⟨b, off, none⟩ ∧ b < w.heap.size ∧ w.cell? ⟨b, off + k * 3, none⟩ = some (.int .i64 a) ∧ w.cell? ⟨b, off + k * 3 + 1, none⟩ = some (.int .i64 z) ∧ w.cell? ⟨b, off + k * 3 + 2, none⟩ = some (.int .i64 y) ∧ Hid (xs[k]? = some ⟨a, z, y⟩) := by
  have hlt : k < xs.length := by rw [h.1]; exact hk
  obtain ⟨b, off, vs, hA, _, hb, rfl, hc⟩ := h.2.2 k xs[k] (List.getElem?_eq_getElem hlt)
  exact ⟨b, off, xs[k].frame, xs[k].swell, xs[k].places, hA, hb, by simpa using hc 0 _ rfl, by simpa using hc 1 _ rfl, by simpa using hc 2 _ rfl, List.getElem?_eq_getElem hlt⟩
theorem Seens.get {xs : List Seen} (h : Seens S w A n xs) (hk : k < n) :
    ∃ b off a z y u, A = some ⟨b, off, none⟩ ∧ b < w.heap.size ∧ w.cell? ⟨b, off + k * 4, none⟩ = some (.int .i64 a) ∧ w.cell? ⟨b, off + k * 4 + 1, none⟩ = some (.int .i64 z) ∧ w.cell? ⟨b, off + k * 4 + 2, none⟩ = some (.int .i64 y) ∧ w.cell? ⟨b, off + k * 4 + 3, none⟩ = some (.int .i64 u) ∧ Hid (xs[k]? = some ⟨a, z, y, u⟩) := by
  have hlt : k < xs.length := by rw [h.1]; exact hk
  obtain ⟨b, off, vs, hA, _, hb, rfl, hc⟩ := h.2.2 k xs[k] (List.getElem?_eq_getElem hlt)
  exact ⟨b, off, xs[k].tile, xs[k].air, xs[k].lo, xs[k].hi, hA, hb, by simpa using hc 0 _ rfl, by simpa using hc 1 _ rfl, by simpa using hc 2 _ rfl, by simpa using hc 3 _ rfl, List.getElem?_eq_getElem hlt⟩
end

/-- a hall by value: two slices; its numbers stand in the value -/
structure HallAt (S : Foot) (w : World) (A : Option Addr) (n : Nat) (B : Option Addr) (m : Nat) (h : Hall) : Prop where
  ts : Tiles S w A n h.tiles
  rs : RowTs S w B m h.rows
theorem HallAt.keep {S : Foot} {w w' : World} {A B : Option Addr} {n m : Nat} {h : Hall} (g : HallAt S w A n B m h) (hk : Keeps S w w') : HallAt S w' A n B m h :=
  ⟨g.ts.keep TileR.good hk, g.rs.keep RowR.good hk⟩
theorem HallAt.mono {S T : Foot} {w : World} {A B : Option Addr} {n m : Nat} {h : Hall} (g : HallAt S w A n B m h) (hk : ∀ k, S k → T k) : HallAt T w A n B m h :=
  ⟨g.ts.mono TileR.good hk, g.rs.mono RowR.good hk⟩

theorem SliceOf.take {α : Type} {R : Rd α} {m : Nat} {S : Foot} {w : World} {A : Option Addr} {n : Nat} {xs : List α} (h : SliceOf R m S w A n xs) {k : Nat} (hk : k ≤ n) : SliceOf R m S w A k (xs.take k) :=
  ⟨by rw [List.length_take, h.1]; omega, Nat.le_trans hk h.2.1, fun j x hx => by
    rw [List.getElem?_take] at hx
    split at hx
    · exact h.2.2 j x hx
    · cases hx⟩
theorem streq_t {s t : ByteArray} (h : s.data.toList = t.data.toList) : (s.toList == t.toList) = true := by rw [ByteArray.toList_eq, ByteArray.toList_eq]; simpa using h
theorem streq_f {s t : ByteArray} (h : s.data.toList ≠ t.data.toList) : (s.toList == t.toList) = false := by rw [ByteArray.toList_eq, ByteArray.toList_eq]; simpa using h

theorem eg_F : Enters Try.prog 148 := enters_of Try.func148 (by kernel_rfl) rfl
theorem eqF_any (s t : ByteArray) (a z y u : Int) (g : Nat) (w : World) (hg : w.cell? ⟨g, 0, none⟩ = some (.string t)) :
    Calls Try.prog 148 #[.agg #[.string s, .int .i64 a, .int .i64 z, .int .i64 y, .int .i64 u], .pointer (some ⟨g, 0, none⟩)] w fun e w' => e = .returned (.bool (decide (s.data.toList = t.data.toList))) ∧ Below w.heap.size w w' := by
  have h1 := oldc (o := .cells #[.string s, .int .i64 a, .int .i64 z, .int .i64 y, .int .i64 u] 159) hg
  by_cases hm : s.data.toList = t.data.toList
  · have hmb := streq_t hm
    have HM := Lib.hid hm
    clear hm
    go_enter Try.func148, Try.ntmps148
    go_wp2
    go_ret
    exact ⟨ret_bool (by rw [decide_eq_true HM.out]), bl_alloc (Below.refl _ _) _ (Nat.le_refl _)⟩
  · have hmb := streq_f hm
    have HM := Lib.hid hm
    clear hm
    go_enter Try.func148, Try.ntmps148
    go_wp2
    go_ret
    exact ⟨ret_bool (by rw [decide_eq_false HM.out]), bl_alloc (Below.refl _ _) _ (Nat.le_refl _)⟩

set_option maxHeartbeats 1000000 in
theorem indexF_any {S : Foot} {A : Option Addr} {n c : Nat} {xs : List Tile} (t : ByteArray) (g : Nat) (w : World) (h : Tiles S w A n xs) (hg : w.cell? ⟨g, 0, none⟩ = some (.string t)) :
    Calls Try.prog 167 #[.slice A n c, .func (.func 148) #[] #[.pointer (some ⟨g, 0, none⟩)]] w fun e w' => (∃ r : Int, e = .returned (.int .i64 r) ∧ Hid (decide (0 ≤ r) = decide (t.data.toList ∈ xs.map (·.name)))) ∧ Below w.heap.size w w' := by
  have hle := h.le
  have Hn0 := Lib.hid h.len
  have eg : ∀ args w, (callFunc 148 args).run Try.prog w = .ok (.enter 148 args) w := eg_F
  have EG := Lib.hid eg
  clear eg
  go_enter Try.func167, Try.ntmps167
  go_wp2
  go_loopw [5, 8] (fun _ i wr => ∃ k : Nat, k ≤ n ∧ i = .int .i64 k ∧ Below w.heap.size w wr ∧ Hid (t.data.toList ∉ (xs.take k).map (·.name))) (fun _ i _ => n - (intOf i).toNat)
  case atStart => exact ⟨0, Nat.zero_le _, rfl, Below.refl _ _, by simp [Hid]⟩
  case round =>
    obtain ⟨k, hk, rfl, hB, Hk⟩ := hrel
    by_cases hlt : k < n
    · have hki : (k : Int) < n := by omega
      have hr := h.keep TileR.good (Keeps.below hB)
      obtain ⟨b, off, s, a, z, y, u, rfl, hb0, hc0, hc1, hc2, hc3, hc4, hs, Hx⟩ := Tiles.get hr hlt
      have hcall := eqF_any s t a z y u g wr (getc hB hg)
      by_cases hm : s.data.toList = t.data.toList
      · have HM := Lib.hid hm
        rw [decide_eq_true hm] at hcall
        clear hm
        go_wp2_with (go_at_call 148; refine hcall.mono ?_; rintro e w2 ⟨rfl, hb2⟩)
        go_ret
        refine ⟨⟨_, rfl, ?_⟩, bl_call hB hb2 (Nat.le_refl _)⟩
        have hmem : t.data.toList ∈ xs.map (·.name) := List.mem_map.2 ⟨_, List.mem_of_getElem? Hx.out, HM.out⟩
        rw [Hid, decide_eq_true hmem]; simp
      · have HM := Lib.hid hm
        rw [decide_eq_false hm] at hcall
        clear hm
        go_wp2_with (go_at_call 148; refine hcall.mono ?_; rintro e w2 ⟨rfl, hb2⟩)
        go_roundw
        case rel => exact ⟨k + 1, by omega, by go_num, bl_call hB hb2 (Nat.le_refl _), by rw [Hid, take_snoc_get Hx.out, List.map_append, List.mem_append]; exact fun hc => hc.elim Hk.out (fun e => HM.out (List.mem_singleton.1 e).symm)⟩
        case measure => simp [intOf]; omega
    · obtain rfl : k = n := by omega
      go_wp2
      go_ret
      refine ⟨⟨_, rfl, ?_⟩, hB⟩
      have := Hk.out
      rw [List.take_of_length_le (by rw [Hn0.out]; exact Nat.le_refl _)] at this
      rw [Hid, decide_eq_false this]; rfl

theorem hasF_any {S : Foot} {A : Option Addr} {n c : Nat} {xs : List Tile} (t : ByteArray) (g : Nat) (w : World) (h : Tiles S w A n xs) (hg : w.cell? ⟨g, 0, none⟩ = some (.string t)) :
    Calls Try.prog 147 #[.slice A n c, .func (.func 148) #[] #[.pointer (some ⟨g, 0, none⟩)]] w fun e w' => e = .returned (.bool (decide (t.data.toList ∈ xs.map (·.name)))) ∧ Below w.heap.size w w' := by
  have hle := h.le
  go_enter Try.func147, Try.ntmps147
  go_wp2_with (go_at_call 167; refine (indexF_any t g _ h hg).mono ?_; rintro e w' ⟨⟨r, rfl, Hr⟩, hb⟩)
  go_ret
  exact ⟨ret_bool Hr.out, hb⟩

theorem Ints.one {w : World} {g : Nat} {x : Int} (h : w.cell? ⟨g, 0, none⟩ = some (.int .i64 x)) : Ints (fun _ => True) w (some ⟨g, 0, none⟩) 1 [x] := by
  refine ⟨rfl, by decide, fun k y hk => ?_⟩
  have hk0 : k = 0 := by have := of_getq' hk; simp at this; omega
  subst hk0
  simp at hk; subst hk
  refine ⟨g, 0, [.int .i64 x], rfl, trivial, World.block_lt_of_cell? w _ h, rfl, fun j u hu => ?_⟩
  have hj : j = 0 := by have := of_getq' hu; simp at this; omega
  subst hj
  simp at hu; subst hu
  simpa using h
theorem Ints.two {w : World} {g : Nat} {x y : Int} (h : w.cell? ⟨g, 0, none⟩ = some (.int .i64 x)) (h2 : w.cell? ⟨g, 1, none⟩ = some (.int .i64 y)) : Ints (fun _ => True) w (some ⟨g, 0, none⟩) 2 [x, y] := by
  refine ⟨rfl, by decide, fun k z hk => ?_⟩
  have hk0 : k = 0 ∨ k = 1 := by have := of_getq' hk; simp at this; omega
  rcases hk0 with rfl | rfl
  all_goals
    simp at hk; subst hk
    refine ⟨g, 0, _, rfl, trivial, World.block_lt_of_cell? w _ h, rfl, fun j u hu => ?_⟩
    have hj : j = 0 := by have := of_getq' hu; simp at this; omega
    subst hj
    simp at hu; subst hu
    first | (simpa using h) | (simpa using h2)
theorem out1_any {lo hi x : Int} {b : Bool} {g c : Nat} (w : World) (h : w.cell? ⟨g, 0, none⟩ = some (.int .i64 x)) (hb : outB lo hi x = b) :
    Calls Try.prog 96 #[.int .i64 lo, .int .i64 hi, .slice (some ⟨g, 0, none⟩) 1 c] w fun e w' => e = .returned (.bool b) ∧ Below w.heap.size w w' :=
  (out_any lo hi w (Ints.one h)).mono fun _ _ ⟨he, hB⟩ => ⟨by rw [he, ← hb]; simp, hB⟩
theorem out2_any {lo hi x y : Int} {b : Bool} {g c : Nat} (w : World) (h : w.cell? ⟨g, 0, none⟩ = some (.int .i64 x)) (h2 : w.cell? ⟨g, 1, none⟩ = some (.int .i64 y)) (hb : (outB lo hi x || outB lo hi y) = b) :
    Calls Try.prog 96 #[.int .i64 lo, .int .i64 hi, .slice (some ⟨g, 0, none⟩) 2 c] w fun e w' => e = .returned (.bool b) ∧ Below w.heap.size w w' :=
  (out_any lo hi w (Ints.two h h2)).mono fun _ _ ⟨he, hB⟩ => ⟨by rw [he, ← hb]; simp, hB⟩


end Go.Proofs.Ytnaadjhiahjlfaa
