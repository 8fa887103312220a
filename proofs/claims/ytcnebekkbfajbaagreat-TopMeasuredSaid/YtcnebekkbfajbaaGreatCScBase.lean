/- A part of the proof that TopMeasured always answers true. -/
import Derived.Test.YtcnebekkbfajbaaGreatCCastOk
import Derived.Test.YtcnebekkbfajbaaGreatCScP
set_option linter.all false
namespace Go.Proofs.YtcnebekkbfajbaaGreat
open Go.RowKit Go.Shelf
theorem soutc_any (lo hi x : Int) (B1 B2 : Nat) (w : World) (h1 : w.cell? ⟨B1, 0, none⟩ = some (.int .i64 lo)) (h2 : w.cell? ⟨B2, 0, none⟩ = some (.int .i64 hi)) :
  Calls Tryz.prog 90 #[.int .i64 x, .pointer (some ⟨B1, 0, none⟩), .pointer (some ⟨B2, 0, none⟩)] w fun e w' => e = .returned (.bool (outB lo hi x)) ∧ w = w' := by
 have Hb : Hid (outB lo hi x = (decide (x < lo) || decide (hi < x))) := rfl
 by_cases c1 : x < lo
 ·go_enter Tryz.func90, Tryz.ntmps90
  go_wp2
  go_ret
  exact ⟨ret_bool (by rw [Hb.out, decide_eq_true c1]; rfl), rfl⟩
 by_cases c2 : hi < x
 ·go_enter Tryz.func90, Tryz.ntmps90
  go_wp2
  go_ret
  exact ⟨ret_bool (by rw [Hb.out, decide_eq_true c2]; simp), rfl⟩
 go_enter Tryz.func90, Tryz.ntmps90
 go_wp2
 go_ret
 exact ⟨ret_bool (by rw [Hb.out, decide_eq_false (by omega), decide_eq_false (by omega)]; rfl), rfl⟩
theorem eg_sout1 : Enters Tryz.prog 90 := enters_of Tryz.func90 (by kernel_rfl) rfl
theorem sout_any {S : Foot} {A : Option Addr} {n c : Nat} {xs : List Int} (lo hi : Int) (w : World) (h : Ints S w A n xs) :
  Calls Tryz.prog 59 #[.int .i64 lo, .int .i64 hi, .slice A n c] w fun e w' => e = .returned (.bool (xs.any (outB lo hi))) ∧ Below w.heap.size w w' := by
 have H1 : Ints S ((w.alloc (.cells #[.int .i64 lo] 3)).alloc (.cells #[.int .i64 hi] 3)) A n xs := (h.keep IntR.good (Keeps.alloc _ _)).keep IntR.good (Keeps.alloc _ _)
 have EG := Lib.hid eg_sout1
 go_enter Tryz.func59, Tryz.ntmps59
 go_wp2_with (go_at_call 89; refine (containsI_any (outB lo hi) 90 #[.pointer (some ⟨w.heap.size, 0, none⟩), .pointer (some ⟨w.heap.size + 1, 0, none⟩)] EG.out _ H1 (fun x W hb => by rw [app12]; exact soutc_any lo hi x w.heap.size (w.heap.size + 1) W (getc hb (oldc (newc rfl rfl))) (getc hb (newc rfl (by simp))))).mono ?_; rintro e w' ⟨rfl, rfl⟩)
 go_ret
 exact ⟨rfl, bl_alloc (bl_alloc (Below.refl _ _) _ (Nat.le_refl _)) _ (Nat.le_refl _)⟩
theorem sout1 {lo hi x : Int} {b : Bool} {g c : Nat} (w : World) (h : w.cell? ⟨g, 0, none⟩ = some (.int .i64 x)) (hb : outB lo hi x = b) :
  Calls Tryz.prog 59 #[.int .i64 lo, .int .i64 hi, .slice (some ⟨g, 0, none⟩) 1 c] w fun e w' => e = .returned (.bool b) ∧ Below w.heap.size w w' :=
 (sout_any lo hi w (Ints.one h)).mono fun _ _ ⟨he, hB⟩ => ⟨by rw [he, ← hb]; simp, hB⟩
theorem sout2 {lo hi x y : Int} {b : Bool} {g c : Nat} (w : World) (h : w.cell? ⟨g, 0, none⟩ = some (.int .i64 x)) (h2 : w.cell? ⟨g, 1, none⟩ = some (.int .i64 y)) (hb : (outB lo hi x || outB lo hi y) = b) :
  Calls Tryz.prog 59 #[.int .i64 lo, .int .i64 hi, .slice (some ⟨g, 0, none⟩) 2 c] w fun e w' => e = .returned (.bool b) ∧ Below w.heap.size w w' :=
 (sout_any lo hi w (Ints.two h h2)).mono fun _ _ ⟨he, hB⟩ => ⟨by rw [he, ← hb]; simp, hB⟩
def MarkR : Rd Mark5 := fun _ _ x vs => vs = [.int .i64 x.point, .int .i64 x.lo, .int .i64 x.hi]
theorem MarkR.good : MarkR.Good 3 where
 len := by rintro S w x vs rfl; rfl
 one := by rintro S w x vs rfl v hv; simp at hv; rcases hv with rfl | rfl | rfl <;> rfl
 keep := by rintro S w w' x vs h hk; exact h
 mono := by rintro S T w x vs h hk; exact h
 bound := by rintro S w x vs h; exact h
abbrev Marks := SliceOf MarkR 3
theorem Marks.get {S : Foot} {w : World} {A : Option Addr} {n k : Nat} {xs : List Mark5} (h : Marks S w A n xs) (hk : k < n) :
  ∃ b off a z y, A = some ⟨b, off, none⟩ ∧ b < w.heap.size ∧ w.cell? ⟨b, off + k * 3, none⟩ = some (.int .i64 a) ∧ w.cell? ⟨b, off + k * 3 + 1, none⟩ = some (.int .i64 z) ∧ w.cell? ⟨b, off + k * 3 + 2, none⟩ = some (.int .i64 y) ∧ Hid (xs[k]? = some ⟨a, z, y⟩) := by
 have hlt : k < xs.length := by rw [h.1]; exact hk
 obtain ⟨b, off, vs, hA, _, hb, rfl, hc⟩ := h.2.2 k xs[k] (List.getElem?_eq_getElem hlt)
 exact ⟨b, off, xs[k].point, xs[k].lo, xs[k].hi, hA, hb, by simpa using hc 0 _ rfl, by simpa using hc 1 _ rfl, by simpa using hc 2 _ rfl, List.getElem?_eq_getElem hlt⟩
structure CaseAt (S : Foot) (w : World) (A : Option Addr) (n : Nat) (B : Option Addr) (m : Nat) (c : Case5) : Prop where
 hs : Ints S w A n c.hts
 rs : Pairs S w B m c.roads
theorem CaseAt.keep {S : Foot} {w w' : World} {A B : Option Addr} {n m : Nat} {c : Case5} (h : CaseAt S w A n B m c) (hk : Keeps S w w') : CaseAt S w' A n B m c := ⟨h.hs.keep IntR.good hk, h.rs.keep PairR.good hk⟩
theorem CaseAt.bl {w w' : World} {A B : Option Addr} {n m : Nat} {c : Case5} (h : CaseAt (fun _ => True) w A n B m c) (hb : Below w.heap.size w w') : CaseAt (fun _ => True) w' A n B m c := h.keep (Keeps.below hb)
def roundF (k : Int) : Nat := if k = 1 then 110 else if k = 2 then 111 else 112
theorem eg_round (k : Int) : Enters Tryz.prog (roundF k) := by
 unfold roundF
 split
 ·exact enters_of Tryz.func110 (by kernel_rfl) rfl
 split
 ·exact enters_of Tryz.func111 (by kernel_rfl) rfl
 exact enters_of Tryz.func112 (by kernel_rfl) rfl
theorem round_any (k : Int) {n d : Int} (hn : 0 ≤ n ∧ n ≤ 270000) (hd : 1 ≤ d ∧ d ≤ 30) (w : World) :
  Calls Tryz.prog (roundF k) #[.int .i64 n, .int .i64 d] w fun e w' => e = .returned (.int .i64 (roundK k n d)) ∧ w' = w := by
 have hb := round_bd (k := k) hn hd
 have hz : ¬ d = 0 := by omega
 have hzb : (d == 0) = false := by simp; omega
 unfold roundF roundK at *
 split
 ·rename_i h
  rw [if_pos h] at hb
  have w1 : IntKind.i64.wrap (n.tdiv d) = n.tdiv d := by rw [IntKind.wrap_i64]; omega
  go_enter Tryz.func110, Tryz.ntmps110
  go_wp2
  go_ret
  exact ⟨rfl, rfl⟩
 rename_i h
 rw [if_neg h] at hb
 split
 ·rename_i h2
  rw [if_pos h2] at hb
  obtain ⟨p, hp⟩ : ∃ p, 2 * n + d = p := ⟨_, rfl⟩
  obtain ⟨q, hq⟩ : ∃ q, 2 * d = q := ⟨_, rfl⟩
  rw [hp, hq] at hb
  have w0 : IntKind.i64.wrap (2 * n) = 2 * n := by rw [IntKind.wrap_i64]; omega
  have w1 : IntKind.i64.wrap p = p := by rw [IntKind.wrap_i64]; omega
  have w2 : IntKind.i64.wrap q = q := by rw [IntKind.wrap_i64]; omega
  have w3 : IntKind.i64.wrap (p.tdiv q) = p.tdiv q := by rw [IntKind.wrap_i64]; omega
  have hzq : ¬ q = 0 := by omega
  have hzqb : (q == 0) = false := by simp; omega
  go_enter Tryz.func111, Tryz.ntmps111
  go_wp2
  go_ret
  exact ⟨by rw [hp, hq]; rfl, rfl⟩
 rename_i h2
 rw [if_neg h2] at hb
 obtain ⟨p, hp⟩ : ∃ p, n + d = p := ⟨_, rfl⟩
 obtain ⟨q, hq⟩ : ∃ q, p - 1 = q := ⟨_, rfl⟩
 rw [hp, hq] at hb
 have w1 : IntKind.i64.wrap p = p := by rw [IntKind.wrap_i64]; omega
 have w2 : IntKind.i64.wrap q = q := by rw [IntKind.wrap_i64]; omega
 have w3 : IntKind.i64.wrap (q.tdiv d) = q.tdiv d := by rw [IntKind.wrap_i64]; omega
 go_enter Tryz.func112, Tryz.ntmps112
 go_wp2
 go_ret
 exact ⟨by rw [hp, hq]; rfl, rfl⟩
open Go.RowKit Go.Shelf
set_option maxHeartbeats 1000000 in
theorem sfirstI_any {S : Foot} {A : Option Addr} {n c : Nat} {xs : List (Int)} (g : Nat) (lb : Array Value) (eg : ∀ args w, (callFunc g args).run Tryz.prog w = .ok (.enter g args) w) (w : World) (h : Ints S w A n xs)
  (hp : ∀ (k : Nat) (x : Int) (W : World), Below w.heap.size w W → Hid (xs[k]? = some x) → Calls Tryz.prog g (#[.int .i64 x] ++ lb) W fun e W' => e = .returned (.int .i64 0) ∧ Below W.heap.size W W') :
  Calls Tryz.prog 97 #[.slice A n c, .func (.func g) #[] lb] w fun e w' => e = .returned (.tuple #[.int .i64 0, .int .i64 0]) ∧ Below w.heap.size w w' := by
 have hle := h.le
 have HP := Lib.hid hp
 have HG := Lib.hid eg
 clear hp eg
 go_enter Tryz.func97, Tryz.ntmps97
 go_wp2
 go_loopw [11] (fun i wr => ∃ k : Nat, k ≤ n ∧ i = .int .i64 k ∧ Below w.heap.size w wr) (fun i _ => n - (intOf i).toNat)
 case atStart => exact ⟨0, Nat.zero_le _, rfl, Below.refl _ _⟩
 case round =>
  obtain ⟨k, hk, rfl, hB⟩ := hrel
  by_cases hlt : k < n
  ·have hki : (k : Int) < n := by omega
   have hr := h.keep IntR.good (Keeps.below hB)
   obtain ⟨b, off, x, rfl, hc0, Hx⟩ := Ints.get hr hlt
   have hB1 := hB
   have hcall := HP.out k x _ hB1 Hx
   have eg : ∀ args w, (callFunc g args).run Tryz.prog w = .ok (.enter g args) w := HG.out
   clear hr
   go_wp2_with (go_at_fn g; refine hcall.mono ?_; rintro e w2 ⟨rfl, hb2⟩)
   have hB2 := bl_call hB1 hb2 (Nat.le_refl _)
   go_roundw
   case rel => exact ⟨k + 1, by omega, by go_num, hB2⟩
   case measure => simp [intOf]; omega
  obtain rfl : k = n := by omega
  go_wp2
  go_ret2
  exact ⟨rfl, hB⟩
set_option maxHeartbeats 1000000 in
theorem sfirstR_any {S : Foot} {A : Option Addr} {n c : Nat} {xs : List (Int × Int)} (g : Nat) (lb : Array Value) (eg : ∀ args w, (callFunc g args).run Tryz.prog w = .ok (.enter g args) w) (w : World) (h : Pairs S w A n xs)
  (hp : ∀ (k : Nat) (a z : Int) (W : World), Below w.heap.size w W → Hid (xs[k]? = some (a, z)) → Calls Tryz.prog g (#[.agg #[.int .i64 a, .int .i64 z]] ++ lb) W fun e W' => e = .returned (.int .i64 0) ∧ Below W.heap.size W W') :
  Calls Tryz.prog 99 #[.slice A n c, .func (.func g) #[] lb] w fun e w' => e = .returned (.tuple #[.int .i64 0, .int .i64 0]) ∧ Below w.heap.size w w' := by
 have hle := h.le
 have HP := Lib.hid hp
 have HG := Lib.hid eg
 clear hp eg
 go_enter Tryz.func99, Tryz.ntmps99
 go_wp2
 go_loopw [11] (fun i wr => ∃ k : Nat, k ≤ n ∧ i = .int .i64 k ∧ Below w.heap.size w wr) (fun i _ => n - (intOf i).toNat)
 case atStart => exact ⟨0, Nat.zero_le _, rfl, Below.refl _ _⟩
 case round =>
  obtain ⟨k, hk, rfl, hB⟩ := hrel
  by_cases hlt : k < n
  ·have hki : (k : Int) < n := by omega
   have hr := h.keep PairR.good (Keeps.below hB)
   obtain ⟨b, off, a, z, rfl, hb0, hc0, hc1, Hx⟩ := Pairs.get hr hlt
   have hB1 : Below w.heap.size w (wr.alloc (.cells #[.int .i64 a, .int .i64 z] 72)) := bl_alloc hB _ (Nat.le_refl _)
   have hcall := HP.out k a z _ hB1 Hx
   have eg : ∀ args w, (callFunc g args).run Tryz.prog w = .ok (.enter g args) w := HG.out
   clear hr
   go_wp2_with (go_at_fn g; refine hcall.mono ?_; rintro e w2 ⟨rfl, hb2⟩)
   have hB2 := bl_call hB1 hb2 (Nat.le_refl _)
   go_roundw
   case rel => exact ⟨k + 1, by omega, by go_num, hB2⟩
   case measure => simp [intOf]; omega
  obtain rfl : k = n := by omega
  go_wp2
  go_ret2
  exact ⟨rfl, hB⟩
set_option maxHeartbeats 1000000 in
theorem sfirstS_any {S : Foot} {A : Option Addr} {n c : Nat} {xs : List (Nat × Nat)} (g : Nat) (lb : Array Value) (eg : ∀ args w, (callFunc g args).run Tryz.prog w = .ok (.enter g args) w) (w : World) (h : Pls S w A n xs)
  (hp : ∀ (k : Nat) (a z : Nat) (W : World), Below w.heap.size w W → Hid (xs[k]? = some (a, z)) → Calls Tryz.prog g (#[.agg #[.int .i64 (a : Int), .int .i64 (z : Int)]] ++ lb) W fun e W' => e = .returned (.int .i64 0) ∧ Below W.heap.size W W') :
  Calls Tryz.prog 76 #[.slice A n c, .func (.func g) #[] lb] w fun e w' => e = .returned (.tuple #[.int .i64 0, .int .i64 0]) ∧ Below w.heap.size w w' := by
 have hle := h.le
 have HP := Lib.hid hp
 have HG := Lib.hid eg
 clear hp eg
 go_enter Tryz.func76, Tryz.ntmps76
 go_wp2
 go_loopw [11] (fun i wr => ∃ k : Nat, k ≤ n ∧ i = .int .i64 k ∧ Below w.heap.size w wr) (fun i _ => n - (intOf i).toNat)
 case atStart => exact ⟨0, Nat.zero_le _, rfl, Below.refl _ _⟩
 case round =>
  obtain ⟨k, hk, rfl, hB⟩ := hrel
  by_cases hlt : k < n
  ·have hki : (k : Int) < n := by omega
   have hr := h.keep PlR.good (Keeps.below hB)
   obtain ⟨b, off, a, z, rfl, hb0, hc0, hc1, Hx⟩ := Pls.get hr hlt
   have hB1 : Below w.heap.size w (wr.alloc (.cells #[.int .i64 (a : Int), .int .i64 (z : Int)] 42)) := bl_alloc hB _ (Nat.le_refl _)
   have hcall := HP.out k a z _ hB1 Hx
   have eg : ∀ args w, (callFunc g args).run Tryz.prog w = .ok (.enter g args) w := HG.out
   clear hr
   go_wp2_with (go_at_fn g; refine hcall.mono ?_; rintro e w2 ⟨rfl, hb2⟩)
   have hB2 := bl_call hB1 hb2 (Nat.le_refl _)
   go_roundw
   case rel => exact ⟨k + 1, by omega, by go_num, hB2⟩
   case measure => simp [intOf]; omega
  obtain rfl : k = n := by omega
  go_wp2
  go_ret2
  exact ⟨rfl, hB⟩
set_option maxHeartbeats 1000000 in
theorem sfirstM_any {S : Foot} {A : Option Addr} {n c : Nat} {xs : List (Mark5)} (g : Nat) (lb : Array Value) (eg : ∀ args w, (callFunc g args).run Tryz.prog w = .ok (.enter g args) w) (w : World) (h : Marks S w A n xs)
  (hp : ∀ (k : Nat) (a z y : Int) (W : World), Below w.heap.size w W → Hid (xs[k]? = some ⟨a, z, y⟩) → Calls Tryz.prog g (#[.agg #[.int .i64 a, .int .i64 z, .int .i64 y]] ++ lb) W fun e W' => e = .returned (.int .i64 0) ∧ Below W.heap.size W W') :
  Calls Tryz.prog 57 #[.slice A n c, .func (.func g) #[] lb] w fun e w' => e = .returned (.tuple #[.int .i64 0, .int .i64 0]) ∧ Below w.heap.size w w' := by
 have hle := h.le
 have HP := Lib.hid hp
 have HG := Lib.hid eg
 clear hp eg
 go_enter Tryz.func57, Tryz.ntmps57
 go_wp2
 go_loopw [11] (fun i wr => ∃ k : Nat, k ≤ n ∧ i = .int .i64 k ∧ Below w.heap.size w wr) (fun i _ => n - (intOf i).toNat)
 case atStart => exact ⟨0, Nat.zero_le _, rfl, Below.refl _ _⟩
 case round =>
  obtain ⟨k, hk, rfl, hB⟩ := hrel
  by_cases hlt : k < n
  ·have hki : (k : Int) < n := by omega
   have hr := h.keep MarkR.good (Keeps.below hB)
   obtain ⟨b, off, a, z, y, rfl, hb0, hc0, hc1, hc2, Hx⟩ := Marks.get hr hlt
   have hB1 : Below w.heap.size w (wr.alloc (.cells #[.int .i64 a, .int .i64 z, .int .i64 y] 65)) := bl_alloc hB _ (Nat.le_refl _)
   have hcall := HP.out k a z y _ hB1 Hx
   have eg : ∀ args w, (callFunc g args).run Tryz.prog w = .ok (.enter g args) w := HG.out
   clear hr
   go_wp2_with (go_at_fn g; refine hcall.mono ?_; rintro e w2 ⟨rfl, hb2⟩)
   have hB2 := bl_call hB1 hb2 (Nat.le_refl _)
   go_roundw
   case rel => exact ⟨k + 1, by omega, by go_num, hB2⟩
   case measure => simp [intOf]; omega
  obtain rfl : k = n := by omega
  go_wp2
  go_ret2
  exact ⟨rfl, hB⟩
open Go.RowKit Go.Shelf
theorem outB_f {lo hi x : Int} (h : lo ≤ x ∧ x ≤ hi) : outB lo hi x = false := outB_iff.2 h
theorem eg_SC1 : Enters Tryz.prog 98 := enters_of Tryz.func98 (by kernel_rfl) rfl
theorem eg_SC2 : Enters Tryz.prog 100 := enters_of Tryz.func100 (by kernel_rfl) rfl
theorem eg_SCk : Enters Tryz.prog 77 := enters_of Tryz.func77 (by kernel_rfl) rfl
theorem scheck1_any {b : Nat} {x base : Int} (hx : base ≤ x ∧ x ≤ 9000) (w : World) (h : w.cell? ⟨b, 1, none⟩ = some (.int .i64 base)) :
  Calls Tryz.prog 98 #[.int .i64 x, .pointer (some ⟨b, 0, none⟩)] w fun e w' => e = .returned (.int .i64 0) ∧ Below w.heap.size w w' := by
 have o := outB_f hx
 go_enter Tryz.func98, Tryz.ntmps98
 go_wp2_with fail
 refine (sout1 _ (by exact newc rfl rfl) o).mono ?_
 rintro e W ⟨rfl, hb⟩
 go_wp2
 go_ret
 exact ⟨rfl, bl_call (bl_alloc (Below.refl _ _) _ (Nat.le_refl _)) hb (Nat.le_refl _)⟩
theorem scheck2_any {b n ca : Nat} {A : Option Addr} {x y : Int} (hn : n ≤ 8) (hx : 0 ≤ x ∧ x < n) (hy : 0 ≤ y ∧ y < n) (hne : x ≠ y) (w : World) (h : w.cell? ⟨b, 3, none⟩ = some (.slice A n ca)) :
  Calls Tryz.prog 100 #[.agg #[.int .i64 x, .int .i64 y], .pointer (some ⟨b, 0, none⟩)] w fun e w' => e = .returned (.int .i64 0) ∧ Below w.heap.size w w' := by
 have o : (outB 0 ((n : Int) - 1) x || outB 0 ((n : Int) - 1) y) = false := by rw [outB_f (by omega), outB_f (by omega)]; rfl
 have w1 : IntKind.i64.wrap ((n : Int) - 1) = (n : Int) - 1 := by rw [IntKind.wrap_i64]; omega
 have hxy : (x == y) = false := by simpa using hne
 obtain ⟨W, hW⟩ : ∃ W, w.alloc (.cells #[.int .i64 x, .int .i64 y] 72) = W := ⟨_, rfl⟩
 have X : Blk W w.heap.size 72 #[.int .i64 x, .int .i64 y] := by rw [← hW]; exact Blk.new _ _ _ rfl
 have hBW : Below w.heap.size w W := by rw [← hW]; exact bl_alloc (Below.refl _ _) _ (Nat.le_refl _)
 have h3 := getc hBW h
 have x0 := X.cell 0
 have x1 := X.cell 1
 go_enter Tryz.func100, Tryz.ntmps100
 go_wp2_with fail
 refine (sout2 _ (by exact newc rfl rfl) (by exact newc rfl rfl) o).mono ?_
 rintro e V ⟨rfl, hb⟩
 have hBV : Below W.heap.size W V := bl_call (bl_alloc (Below.refl _ _) _ (Nat.le_refl _)) hb (Nat.le_refl _)
 have XV := X.bl hBV
 clear x0 x1
 have x0 := XV.cell 0
 have x1 := XV.cell 1
 go_wp2
 go_ret
 exact ⟨rfl, bl_call hBW hBV (Nat.le_refl _)⟩
theorem scheck_any {c : Case5} {A B : Option Addr} {n ca m cb : Nat} {kd ba mo : Int} (hok : Ok5 c) (w : World) (g : CaseAt (fun _ => True) w A n B m c) (h1 : c.kind = kd) (h2 : c.base = ba) (h3 : c.most = mo) :
  Calls Tryz.prog 68 #[.agg #[.int .i64 kd, .int .i64 ba, .int .i64 mo, .slice A n ca, .slice B m cb]] w fun e w' => e = .returned (.tuple #[.int .i64 0, .int .i64 0, .int .i64 0]) ∧ Below w.heap.size w w' := by
 subst h1 h2 h3
 have hn := g.hs.len
 have hm := g.rs.len
 have hnh := hok.nh
 have hnr := hok.nr
 have o1 := outB_f hok.kind
 have o2 := outB_f hok.base
 have o3 := outB_f hok.most
 have hn8 : n ≤ 8 := by omega
 have o4 : outB 1 8 (n : Int) = false := outB_f (by omega)
 have hm8 : ¬ (8 : Int) < m := by omega
 obtain ⟨W, hW⟩ : ∃ W, w.alloc (.cells #[.int .i64 c.kind, .int .i64 c.base, .int .i64 c.most, .slice A n ca, .slice B m cb] 25) = W := ⟨_, rfl⟩
 have X : Blk W w.heap.size 25 #[.int .i64 c.kind, .int .i64 c.base, .int .i64 c.most, .slice A n ca, .slice B m cb] := by rw [← hW]; exact Blk.new _ _ _ rfl
 have hBW : Below w.heap.size w W := by rw [← hW]; exact bl_alloc (Below.refl _ _) _ (Nat.le_refl _)
 have HK := Lib.hid hok
 have HG : Hid (∀ V, Below W.heap.size W V → CaseAt (fun _ => True) V A n B m c) := fun V hb => (g.bl hBW).bl hb
 have kk : Hid (∀ V, Below W.heap.size W V → V.cell? ⟨w.heap.size, 0, none⟩ = some (.int .i64 c.kind) ∧ V.cell? ⟨w.heap.size, 1, none⟩ = some (.int .i64 c.base) ∧ V.cell? ⟨w.heap.size, 2, none⟩ = some (.int .i64 c.most) ∧ V.cell? ⟨w.heap.size, 3, none⟩ = some (.slice A n ca) ∧ V.cell? ⟨w.heap.size, 4, none⟩ = some (.slice B m cb)) :=
  fun V hb => ⟨(X.bl hb).cell 0, (X.bl hb).cell 1, (X.bl hb).cell 2, (X.bl hb).cell 3, (X.bl hb).cell 4⟩
 have E1 := Lib.hid eg_SC1
 have E2 := Lib.hid eg_SC2
 have Hn := Lib.hid hn
 clear hok g X hn hm
 obtain ⟨x0, x1, x2, x3, x4⟩ := kk.out W (Below.refl _ _)
 go_enter Tryz.func68, Tryz.ntmps68
 go_wp2_with fail
 clear hW x0 x1 x2 x3 x4
 refine (sout1 _ (by exact newc rfl rfl) o1).mono ?_
 rintro e V1 ⟨rfl, b1⟩
 have B1 : Below W.heap.size W V1 := bl_call (bl_alloc (Below.refl _ _) _ (Nat.le_refl _)) b1 (Nat.le_refl _)
 clear b1
 obtain ⟨x0, x1, x2, x3, x4⟩ := kk.out V1 B1
 go_wp2_with fail
 clear x0 x1 x2 x3 x4
 refine (sout1 _ (by exact newc rfl rfl) o2).mono ?_
 rintro e V2 ⟨rfl, b2⟩
 have B2 : Below W.heap.size W V2 := bl_call (bl_alloc B1 _ (Nat.le_refl _)) b2 (Nat.le_refl _)
 clear b2
 obtain ⟨x0, x1, x2, x3, x4⟩ := kk.out V2 B2
 go_wp2_with fail
 clear x0 x1 x2 x3 x4
 refine (sout1 _ (by exact newc rfl rfl) o3).mono ?_
 rintro e V3 ⟨rfl, b3⟩
 have B3 : Below W.heap.size W V3 := bl_call (bl_alloc B2 _ (Nat.le_refl _)) b3 (Nat.le_refl _)
 clear b3
 obtain ⟨x0, x1, x2, x3, x4⟩ := kk.out V3 B3
 go_wp2_with fail
 clear x0 x1 x2 x3 x4
 refine (sout1 _ (by exact newc rfl rfl) o4).mono ?_
 rintro e V4 ⟨rfl, b4⟩
 have B4 : Below W.heap.size W V4 := bl_call (bl_alloc B3 _ (Nat.le_refl _)) b4 (Nat.le_refl _)
 clear b4
 obtain ⟨x0, x1, x2, x3, x4⟩ := kk.out V4 B4
 go_wp2_with fail
 clear x0 x1 x2 x3 x4
 refine (sfirstI_any 98 #[.pointer (some ⟨w.heap.size, 0, none⟩)] E1.out V4 (HG.out V4 B4).hs (fun k x V hb hx => by
  rw [app11]
  exact scheck1_any (HK.out.hts x (List.mem_of_getElem? hx.out)) V (kk.out V (bl_call B4 hb (Nat.le_refl _))).2.1)).mono ?_
 rintro e V5 ⟨rfl, b5⟩
 have B5 : Below W.heap.size W V5 := bl_call B4 b5 (Nat.le_refl _)
 clear b5
 obtain ⟨x0, x1, x2, x3, x4⟩ := kk.out V5 B5
 go_wp2_with fail
 clear x0 x1 x2 x3 x4
 refine (sfirstR_any 100 #[.pointer (some ⟨w.heap.size, 0, none⟩)] E2.out V5 (HG.out V5 B5).rs (fun k a z V hb hx => by
  rw [app11]
  obtain ⟨p1, p2, p3⟩ := HK.out.roads _ (List.mem_of_getElem? hx.out)
  rw [Hn.out] at p1 p2
  exact scheck2_any hn8 p1 p2 p3 V (kk.out V (bl_call B5 hb (Nat.le_refl _))).2.2.2.1)).mono ?_
 rintro e V6 ⟨rfl, b6⟩
 have B6 : Below W.heap.size W V6 := bl_call B5 b6 (Nat.le_refl _)
 clear b6
 go_wp2
 go_ret3
 exact ⟨rfl, bl_call hBW B6 (Nat.le_refl _)⟩
theorem sdiv_any {a b : Nat} (h1 : 1 ≤ a ∧ a ≤ 30) (h2 : 1 ≤ b ∧ b ≤ 30) (hc : ∀ d, 2 ≤ d → d ≤ a → ¬ (a % d = 0 ∧ b % d = 0)) (w : World) :
  Calls Tryz.prog 109 #[.int .i64 (a : Int), .int .i64 (b : Int)] w fun e w' => e = .returned (.int .i64 1) ∧ w = w' := by
 have HC := Lib.hid hc
 clear hc
 go_enter Tryz.func109, Tryz.ntmps109
 go_wp2
 go_loop [8] (fun i => ∃ k : Nat, k ≤ a ∧ i = .int .i64 k) (fun i => a - (intOf i).toNat)
 case atStart => exact ⟨0, Nat.zero_le _, rfl⟩
 case round =>
  obtain ⟨k, hk, rfl⟩ := hrel
  by_cases hlt : k < a
  ·have hki : (k : Int) < a := by omega
   obtain ⟨d, hd⟩ : ∃ d : Nat, a - k = d := ⟨_, rfl⟩
   have hdi : (a : Int) - k = d := by omega
   have w1 : IntKind.i64.wrap ((d : Nat) : Int) = d := by rw [IntKind.wrap_i64]; omega
   have hz : ¬ (d : Int) = 0 := by omega
   have hzb : ((d : Int) == 0) = false := by simp; omega
   obtain ⟨p, hp⟩ : ∃ p : Nat, a % d = p := ⟨_, rfl⟩
   obtain ⟨q, hq⟩ : ∃ q : Nat, b % d = q := ⟨_, rfl⟩
   have hp1 : (a : Int).tmod (d : Int) = p := by rw [← hp]; exact_mod_cast Int.ofNat_tmod a d
   have hq1 : (b : Int).tmod (d : Int) = q := by rw [← hq]; exact_mod_cast Int.ofNat_tmod b d
   have hp30 : p ≤ 30 := by rw [← hp]; exact Nat.le_trans (Nat.mod_le _ _) h1.2
   have hq30 : q ≤ 30 := by rw [← hq]; exact Nat.le_trans (Nat.mod_le _ _) h2.2
   have w2 : IntKind.i64.wrap (p : Int) = p := by rw [IntKind.wrap_i64]; omega
   have w3 : IntKind.i64.wrap (q : Int) = q := by rw [IntKind.wrap_i64]; omega
   by_cases hp0 : p = 0
   ·by_cases hq0 : q = 0
    ·have hd1 : d = 1 := by
      have := HC.out d
      by_cases h9 : 2 ≤ d
      ·exact absurd ⟨hp.trans hp0, hq.trans hq0⟩ (this h9 (by omega))
      omega
     subst hp0 hq0
     have HD := Lib.hid hd1
     clear hd1 hp hq
     go_wp2
     go_ret
     exact ⟨by rw [HD.out]; rfl, rfl⟩
    have hqb : ((q : Int) == 0) = false := by simp; omega
    subst hp0
    clear hp hq
    go_wp2
    go_round
    case rel => exact ⟨k + 1, by omega, by go_num⟩
    case measure => simp [intOf]; omega
   have hpb : ((p : Int) == 0) = false := by simp; omega
   clear hp hq
   go_wp2
   go_round
   case rel => exact ⟨k + 1, by omega, by go_num⟩
   case measure => simp [intOf]; omega
  obtain rfl : k = a := by omega
  go_wp2
  go_ret
  exact ⟨rfl, rfl⟩
theorem sscale_any {z : Nat × Nat} (hz : z ∈ scalesN) (w : World) :
  Calls Tryz.prog 77 #[.agg #[.int .i64 (z.1 : Int), .int .i64 (z.2 : Int)]] w fun e w' => e = .returned (.int .i64 0) ∧ Below w.heap.size w w' := by
 obtain ⟨a1, a2, a3, a4⟩ := scales_bd hz
 have hdv := fun V => sdiv_any ⟨a1, a2⟩ ⟨a3, a4⟩ (fun d => scales_cop hz (d := d)) V
 have HD := Lib.hid hdv
 obtain ⟨x, y⟩ := z
 dsimp only at a1 a2 a3 a4 HD ⊢
 have o : (outB 1 30 (x : Int) || outB 1 30 (y : Int)) = false := by rw [outB_f (by omega), outB_f (by omega)]; rfl
 obtain ⟨W, hW⟩ : ∃ W, w.alloc (.cells #[.int .i64 (x : Int), .int .i64 (y : Int)] 42) = W := ⟨_, rfl⟩
 have X : Blk W w.heap.size 42 #[.int .i64 (x : Int), .int .i64 (y : Int)] := by rw [← hW]; exact Blk.new _ _ _ rfl
 have hBW : Below w.heap.size w W := by rw [← hW]; exact bl_alloc (Below.refl _ _) _ (Nat.le_refl _)
 clear hdv hz
 have x0 := X.cell 0
 have x1 := X.cell 1
 go_enter Tryz.func77, Tryz.ntmps77
 go_wp2_with fail
 refine (sout2 _ (by exact newc rfl rfl) (by exact newc rfl rfl) o).mono ?_
 rintro e V ⟨rfl, hb⟩
 have hBV : Below W.heap.size W V := bl_call (bl_alloc (Below.refl _ _) _ (Nat.le_refl _)) hb (Nat.le_refl _)
 have XV := X.bl hBV
 clear x0 x1
 have x0 := XV.cell 0
 have x1 := XV.cell 1
 go_wp2_with fail
 refine (HD.out V).mono ?_
 rintro e V2 ⟨rfl, rfl⟩
 go_wp2
 go_ret
 exact ⟨rfl, bl_call hBW hBV (Nat.le_refl _)⟩
end Go.Proofs.YtcnebekkbfajbaaGreat
