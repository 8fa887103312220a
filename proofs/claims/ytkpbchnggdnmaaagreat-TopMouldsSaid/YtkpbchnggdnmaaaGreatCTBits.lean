/- A part of the proof that TopMoulds always answers true. -/
import Derived.Shelf.Small.Bits
import Derived.Shelf.SlSortCmp.NoneTotal
import Derived.Test.YtkpbchnggdnmaaaGreatCKFits
import Derived.Test.YtkpbchnggdnmaaaGreatCMaps
set_option linter.all false
namespace Go.Proofs
open Go.RowKit Go.Shelf
def Tryz.bitsLen_ren : Go.Shelf.Ren := ⟨fun | 125 => 74 | 128 => 95 | 129 => 96 | n => n, fun | 46 => 121 | 3 => 3 | 51 => 161 | 53 => 163 | 4 => 4 | 5 => 5 | 9 => 9 | n => n, fun n => n⟩
theorem Tryz.bitsLen : Lays.n125 Tryz.prog Tryz.bitsLen_ren where
 mixed := by kernel_rfl
 f125 := Tryz.func74.trans (congrArg some (by kernel_rfl))
 f128 := Tryz.func95.trans (congrArg some (by kernel_rfl))
 f129 := Tryz.func96.trans (congrArg some (by kernel_rfl))
 t3 := Tryz.underlying3
 a3 := Tryz.isAgg3
 z3 := Tryz.sizeOf3
 v3 := Tryz.zeroValue3
 t4 := Tryz.underlying4
 a4 := Tryz.isAgg4
 z4 := Tryz.sizeOf4
 v4 := Tryz.zeroValue4
 t5 := Tryz.underlying5
 a5 := Tryz.isAgg5
 z5 := Tryz.sizeOf5
 v5 := Tryz.zeroValue5
 t9 := Tryz.underlying9
 a9 := Tryz.isAgg9
 z9 := Tryz.sizeOf9
 v9 := Tryz.zeroValue9
 t46 := Tryz.underlying121
 a46 := Tryz.isAgg121
 z46 := Tryz.sizeOf121
 v46 := Tryz.zeroValue121
 t51 := Tryz.underlying161
 a51 := Tryz.isAgg161
 z51 := Tryz.sizeOf161
 v51 := Tryz.zeroValue161
 t53 := Tryz.underlying163
 a53 := Tryz.isAgg163
 z53 := Tryz.sizeOf163
 v53 := Tryz.zeroValue163
end Go.Proofs
namespace Go.Proofs.YtkpbchnggdnmaaaGreat
open Go.RowKit Go.Shelf
def bitU (s k : Nat) : List Int := ((List.range k).filter fun i => s.testBit i).map fun i : Nat => (i : Int)
def bitL (s : Nat) : List Int := bitU s 8
def st1 (x : Int) : Int := IntKind.u64.wrap (bits BinOp.and IntKind.u64 (x / 2) 6148914691236517205 + bits BinOp.and IntKind.u64 x 6148914691236517205)
def st2 (x : Int) : Int := IntKind.u64.wrap (bits BinOp.and IntKind.u64 (x / 4) 3689348814741910323 + bits BinOp.and IntKind.u64 x 3689348814741910323)
def st3 (x : Int) : Int := bits BinOp.and IntKind.u64 (IntKind.u64.wrap (x / 16 + x)) 1085102592571150095
def st4 (x : Int) : Int := IntKind.u64.wrap (x + x / 256)
def st5 (x : Int) : Int := IntKind.u64.wrap (x + x / 65536)
def st6 (x : Int) : Int := IntKind.u64.wrap (x + x / 4294967296)
def onesI (x : Int) : Int := bits BinOp.and IntKind.i64 (wrap64 (st6 (st5 (st4 (st3 (st2 (st1 x))))))) 127
theorem ones_bit : ∀ s : Nat, s < 256 → onesI s = (bitL s).length := by decide +kernel
theorem bitU_succ (s k : Nat) : bitU s (k + 1) = bitU s k ++ if s.testBit k then [(k : Int)] else [] := by
 unfold bitU; rw [List.range_succ, List.filter_append, List.map_append]
 cases h : s.testBit k <;> simp [h]
theorem len_bit : ∀ s : Nat, s < 256 → Lib.bitLen s ≤ 8 ∧ bitU s (Lib.bitLen s) = bitL s := by decide +kernel
theorem bit_test : ∀ s : Nat, s < 256 → ∀ k : Nat, k < 8 → (bits BinOp.and IntKind.i64 ((s : Int) / 2 ^ k) 1 == 1) = s.testBit k := by decide +kernel
theorem bitL_len : ∀ s : Nat, s < 256 → (bitL s).length ≤ 8 := by decide +kernel
set_option maxHeartbeats 1000000 in
theorem ones64_any (x : Nat) (w : World) : Calls Tryz.prog 83 #[.int .u64 x] w fun e w' => e = .returned (.int .i64 (onesI x)) ∧ w = w' := by
 go_enter Tryz.func83, Tryz.ntmps83
 go_wp2
 go_ret
 exact ⟨rfl, rfl⟩
theorem ones_any (s : Nat) (hs : s < 256) (w : World) : Calls Tryz.prog 54 #[.int .u64 s] w fun e w' => e = .returned (.int .i64 (bitL s).length) ∧ w = w' := by
 have h := ones64_any s w
 rw [ones_bit s hs] at h
 go_enter Tryz.func54, Tryz.ntmps54
 go_wp2_with (go_at_call 83; refine h.mono ?_; rintro e w' ⟨rfl, rfl⟩)
 go_ret
 exact ⟨rfl, rfl⟩
theorem infoInt : (Tryz.prog.info? 3).map (fun i => (i.zero, i.size, i.bytes)) = some (some (.int .i64 0), 1, 8) := by kernel_rfl
open Go.RowKit Go.Shelf
def cmpI (x y : Int) : Int := if x < y then -1 else if y < x then 1 else 0
def lexC : List Int → List Int → Int
 | [], [] => 0
 | [], _ :: _ => -1
 | _ :: _, [] => 1
 | x :: xs, y :: ys => if cmpI x y = 0 then lexC xs ys else cmpI x y
theorem cmpI_zero {x y : Int} : cmpI x y = 0 ↔ x = y := by unfold cmpI; split <;> (try split) <;> omega
theorem cmpI_neg {x y : Int} : cmpI x y < 0 ↔ x < y := by unfold cmpI; split <;> (try split) <;> omega
theorem lexC_refl : ∀ xs : List Int, lexC xs xs = 0 := by
 intro xs
 induction xs with
 | nil => rfl
 | cons x xs ih => rw [lexC, if_pos (cmpI_zero.2 rfl), ih]
theorem lexC_neg {x y : Int} {xs ys : List Int} : lexC (x :: xs) (y :: ys) < 0 ↔ x < y ∨ (x = y ∧ lexC xs ys < 0) := by
 rw [lexC]
 by_cases h : x = y
 ·rw [if_pos (cmpI_zero.2 h)]; subst h; simp
 rw [if_neg (fun e => h (cmpI_zero.1 e)), cmpI_neg]; simp [h]
theorem lexC_trans : ∀ xs ys zs : List Int, lexC xs ys < 0 → lexC ys zs < 0 → lexC xs zs < 0 := by
 intro xs
 induction xs with
 | nil =>
  intro ys zs h1 h2
  cases zs with
  | nil => cases ys with
   | nil => exact h1
   | cons y ys => simp [lexC] at h2
  | cons z zs => simp [lexC]
 | cons x xs ih =>
  intro ys zs h1 h2
  cases ys with
  | nil => simp [lexC] at h1
  | cons y ys =>
   cases zs with
   | nil => simp [lexC] at h2
   | cons z zs =>
    rw [lexC_neg] at h1 h2 ⊢
    rcases h1 with h1 | ⟨h1, h1'⟩ <;> rcases h2 with h2 | ⟨h2, h2'⟩
    ·exact .inl (by omega)
    ·exact .inl (by omega)
    ·exact .inl (by omega)
    exact .inr ⟨by omega, ih _ _ h1' h2'⟩
theorem lexC_tri : ∀ xs ys : List Int, ¬ lexC xs ys < 0 → ¬ lexC ys xs < 0 → xs = ys := by
 intro xs
 induction xs with
 | nil =>
  intro ys h1 _
  cases ys with
  | nil => rfl
  | cons y ys => simp [lexC] at h1
 | cons x xs ih =>
  intro ys h1 h2
  cases ys with
  | nil => simp [lexC] at h2
  | cons y ys =>
   rw [lexC_neg] at h1 h2
   have e : x = y := by omega
   subst e
   rw [ih ys (fun h => h1 (.inr ⟨rfl, h⟩)) (fun h => h2 (.inr ⟨rfl, h⟩))]
theorem lex_pair : ∀ n : Nat, n < 9 → ∀ k : Nat, k < 9 → (lexL k (numbersL n)).Pairwise fun a b => lexC a b < 0 := by decide +kernel
open Go.RowKit Go.Shelf
theorem nan_int (x : Int) (w : World) : Calls Tryz.prog 110 #[.int .i64 x] w fun e w' => e = .returned (.bool false) ∧ w = w' := by
 go_enter Tryz.func110, Tryz.ntmps110
 go_wp2
 go_ret
 exact ⟨rfl, rfl⟩
set_option maxHeartbeats 400000 in
theorem cmp_int (x y : Int) (w : World) : Calls Tryz.prog 92 #[.int .i64 x, .int .i64 y] w fun e w' => e = .returned (.int .i64 (cmpI x y)) ∧ w = w' := by
 by_cases h : x < y
 ·have HR : Hid (cmpI x y = -1) := by rw [Hid, cmpI, if_pos h]
  go_enter Tryz.func92, Tryz.ntmps92
  go_wp2_with (go_at_call 110; refine (nan_int _ _).mono ?_; rintro e w' ⟨rfl, rfl⟩)
  go_ret
  exact ⟨by rw [HR.out]; rfl, rfl⟩
 by_cases h2 : y < x
 ·have HR : Hid (cmpI x y = 1) := by rw [Hid, cmpI, if_neg h, if_pos h2]
  go_enter Tryz.func92, Tryz.ntmps92
  go_wp2_with (go_at_call 110; refine (nan_int _ _).mono ?_; rintro e w' ⟨rfl, rfl⟩)
  go_ret
  exact ⟨by rw [HR.out]; rfl, rfl⟩
 have HR : Hid (cmpI x y = 0) := by rw [Hid, cmpI, if_neg h, if_neg h2]
 go_enter Tryz.func92, Tryz.ntmps92
 go_wp2_with (go_at_call 110; refine (nan_int _ _).mono ?_; rintro e w' ⟨rfl, rfl⟩)
 go_ret
 exact ⟨by rw [HR.out]; rfl, rfl⟩
set_option maxHeartbeats 1000000 in
theorem compare_any {S T : Foot} {A B : Option Addr} {n c m d : Nat} {xs ys : List Int} (w : World) (h : Ints S w A n xs) (g : Ints T w B m ys) :
  Calls Tryz.prog 64 #[.slice A n c, .slice B m d] w fun e w' => e = .returned (.int .i64 (lexC xs ys)) ∧ w = w' := by
 have hle := h.le
 have gle := g.le
 have Hn := Lib.hid h.len
 have Hm := Lib.hid g.len
 go_enter Tryz.func64, Tryz.ntmps64
 go_wp2
 go_loop [11] (fun i => ∃ k : Nat, k ≤ n ∧ k ≤ m ∧ i = .int .i64 k ∧ Hid (lexC xs ys = lexC (xs.drop k) (ys.drop k))) (fun i => n - (intOf i).toNat)
 case atStart => exact ⟨0, Nat.zero_le _, Nat.zero_le _, rfl, rfl⟩
 case round =>
  obtain ⟨k, hk, hkm, rfl, Hl⟩ := hrel
  by_cases hlt : k < n
  ·obtain ⟨b, off, x, rfl, hcell, Hx⟩ := h.get hlt
   have hdx := drop_cons Hx.out
   have hki : (k : Int) < n := by omega
   by_cases hmt : k < m
   ·have hmi : (k : Int) < m := by omega
    obtain ⟨b', off', y, rfl, hcell', Hy⟩ := g.get hmt
    have hdy := drop_cons Hy.out
    have Hstep : Hid (lexC xs ys = if cmpI x y = 0 then lexC (xs.drop (k + 1)) (ys.drop (k + 1)) else cmpI x y) := by rw [Hid, Hl.out, hdx, hdy, lexC]
    clear hdx hdy
    generalize hz : cmpI x y = z at *
    have Hz := Lib.hid hz
    clear hz
    by_cases h0 : z = 0
    ·subst h0
     go_wp2_with (go_at_call 92; refine (cmp_int _ _ _).mono ?_; rintro e w' ⟨rfl, rfl⟩; rw [Hz.out])
     go_round
     case rel => exact ⟨k + 1, by omega, by omega, by go_num, by rw [Hid, Hstep.out]; simp⟩
     case measure => simp [intOf]; omega
    have h0b : (z != 0) = true := by simpa using h0
    have HR : Hid (lexC xs ys = z) := by rw [Hid, Hstep.out, if_neg h0]
    clear h0
    go_wp2_with (go_at_call 92; refine (cmp_int _ _ _).mono ?_; rintro e w' ⟨rfl, rfl⟩; rw [Hz.out])
    go_ret
    exact ⟨by rw [HR.out]; rfl, rfl⟩
   obtain rfl : k = m := by omega
   have HR : Hid (lexC xs ys = 1) := by have hdy : ys.drop k = [] := List.drop_of_length_le (by rw [Hm.out]; exact Nat.le_refl _); rw [Hid, Hl.out, hdx, hdy, lexC]
   clear hdx
   go_wp2
   go_ret
   exact ⟨by rw [HR.out]; rfl, rfl⟩
  obtain rfl : k = n := by omega
  have hd0 : xs.drop k = [] := List.drop_of_length_le (by rw [Hn.out]; exact Nat.le_refl _)
  by_cases hmt : k < m
  ·have HR : Hid (lexC xs ys = -1) := by
    obtain ⟨y, hy⟩ : ∃ y, ys[k]? = some y := ⟨_, List.getElem?_eq_getElem (by rw [Hm.out]; exact hmt)⟩
    rw [Hid, Hl.out, hd0, drop_cons hy, lexC]
   clear hd0
   go_wp2
   go_ret
   exact ⟨by rw [HR.out]; rfl, rfl⟩
  have HR : Hid (lexC xs ys = 0) := by have hdy : ys.drop k = [] := List.drop_of_length_le (by rw [Hm.out]; omega); rw [Hid, Hl.out, hd0, hdy, lexC]
  clear hd0
  go_wp2
  go_ret
  exact ⟨by rw [HR.out]; rfl, rfl⟩
open Go.RowKit Go.Shelf Go.Sort
def Grw (w w' : World) : Prop := w.drawn ≤ w'.drawn ∧ Below w.heap.size w w'
theorem Grw.refl (w : World) : Grw w w := ⟨Nat.le_refl _, Below.refl _ _⟩
theorem Grw.trans {a b c : World} (h : Grw a b) (k : Grw b c) : Grw a c := ⟨Nat.le_trans h.1 k.1, bl_call h.2 k.2 (Nat.le_refl _)⟩
theorem Grw.form {w w' : World} (h : Grw w w') : ∃ q os, w' = Sort.grow (w.drewN q) os := by
 obtain ⟨h1, h2⟩ := h
 refine ⟨w'.drawn - w.drawn, w'.heap.extract w.heap.size w'.heap.size, ?_⟩
 have hh : w'.heap = w.heap ++ w'.heap.extract w.heap.size w'.heap.size := by
  apply Array.ext_getElem?
  intro k
  by_cases hk : k < w.heap.size
  ·rw [Array.getElem?_append_left hk]; exact h2.block k hk
  rw [Array.getElem?_append_right (by omega)]
  by_cases hk2 : k < w'.heap.size
  ·rw [Array.getElem?_extract]
   rw [if_pos (by omega)]
   congr 1; omega
  rw [Array.getElem?_eq_none (by omega), Array.getElem?_eq_none (by simp; omega)]
 have hd : w'.drawn = w.drawn + (w'.drawn - w.drawn) := by omega
 obtain ⟨os1, os2, os3⟩ := (⟨h2.os, h2.tape, h2.output⟩ : w'.os = w.os ∧ w'.tape = w.tape ∧ w'.output = w.output)
 cases w' with
 | mk heap' tape' drawn' os' output' =>
  simp only at os1 os2 os3 hh hd
  subst os1 os2 os3
  unfold Sort.grow World.drewN
  dsimp only
  rw [← hh, ← hd]
theorem append_drawn {P : Program} (w : World) (base : Nat) (t ty e : TypeId) (i : TypeInfo) (z : Value) (size bytes : Nat) (ht : P.underlying t = some (.slice e)) (hi : P.info? e = some i) (hz : i.zero = some z)
  (hsize : i.size = size) (hby : i.bytes = bytes) (hzs : z.cells.size = size) (hsz : 0 < size)
  (v : Value) (n : Nat) (xs : List Value) (hown : w.ownsRow base e size v n xs)
  (a : Addr) (c : Nat) (news : List Value) (hl : news.length = size) (hnews : ∀ j u, news[j]? = some u → w.cell? (a.add j) = some u) (h1 : ∀ u ∈ news, u.oneCell' = true)
  (h63 : n + 1 ≤ maxLen) (hbytes : (n + 1) * bytes ≤ 140737488355328) {v' : Value} {w' : World}
  (hr : (Builtin.append_ #[t, t] ty #[v, .slice (some a) 1 c]).run P w = .ok v' w') : w.drawn ≤ w'.drawn := by
 subst hsize
 subst hby
 have hsmall : ((n + 1 : Nat) : Int) ≤ 9223372036854775807 := by simp only [maxLen] at h63; omega
 rcases hown.2 with ⟨rfl, hn0⟩ | ⟨g, cap, cur, rfl, hb, hgg, hle, hmax, hsz2, htake⟩
 ·rw [run_append_nil (P := P) (w := w) t ty e i z ht hi hz a 1 c news (by omega) hnews (by omega) (by omega) (by have := hbytes; rw [hn0] at this; omega)] at hr
  injection hr with _ hr
  rw [← hr]
  exact Nat.le_succ _
 by_cases hc : n + 1 ≤ cap
 ·rw [run_append_room (P := P) w t ty e i ht hi g n cap cur hgg a 1 c news (by omega) hnews h1 hc (by rw [hl, hsz2]; calc n * i.size + i.size = (n + 1) * i.size := by rw [Nat.succ_mul]
                                                               _ ≤ cap * i.size := Nat.mul_le_mul_right _ hc)] at hr
  injection hr with _ hr
  rw [← hr]
  exact Nat.le_refl _
 have hcn : cap = n := by omega
 rw [run_append_grow (P := P) (w := w) t ty e i z ht hi hz ⟨g, 0, none⟩ n cap xs hown.1 (hown.cells rfl) a 1 c news (by omega) hnews (by omega) hsmall (growslice_fits (by omega) hbytes)] at hr
 injection hr with _ hr
 rw [← hr]
 exact Nat.le_succ _
theorem wpList_append_g {P : Program} {ops : Array Oper} {rest : List Oper} {o : Oper} {a : Act} {Q : Exit → Act → World → Prop} (w : World) (hgd : o.guard = none) (s x : Operand) (t : TypeId)
  (ho : o.op = .call { callee := .builtin .append, args := #[s, x], argTypes := #[t, t] })
  {α : Type} {R : Rd α} {m : Nat} (g : R.Good m) {S : Foot} (base : Nat) (e : TypeId) (i : TypeInfo) (z : Value) (bytes : Nat) (ht : P.underlying t = some (.slice e)) (hi : P.info? e = some i) (hz : i.zero = some z)
  (hsize : i.size = m) (hby : i.bytes = bytes) (hzs : z.cells.size = m) (hsz : 0 < m)
  (v : Value) (xs : List α) (y : α) (n : Nat) (hn : xs.length = n) (hs : a.eval s = v) (hown : OwnL R m S w base e v xs)
  (ad : Addr) (c : Nat) (news : List Value) (hx : a.eval x = .slice (some ad) 1 c) (hR : R S w y news) (hnews : ∀ j u, news[j]? = some u → w.cell? (ad.add j) = some u)
  (h63 : n + 1 ≤ maxLen) (hbytes : (n + 1) * bytes ≤ 140737488355328) (hbase : base ≤ w.heap.size) (hS : ¬ S w.heap.size)
  (h : ∀ A' cap' w', OwnL R m S w' base e (.slice (some ⟨A', 0, none⟩) (n + 1) cap') (xs ++ [y]) → w.grownBy w' v.ownBlock → (v.ownBlock = some A' ∨ A' = w.heap.size) → w.drawn ≤ w'.drawn → wpList P ops Q rest (a.put o.dst (.slice (some ⟨A', 0, none⟩) (n + 1) cap')) w') : wpList P ops Q (o :: rest) a w := by
 subst hn
 obtain ⟨hS0, cells, hrow, hcells⟩ := hown
 refine wpList_plain hgd fun K hK => ?_
 obtain ⟨v', w', hr, hown', hgrow, _, hat⟩ := run_append_own_at (P := P) w base t o.type e i z m bytes ht hi hz hsize hby hzs hsz v xs.length cells hrow ad 1 c news (by rw [g.len hR]; omega) hnews (g.one hR) h63 hbytes hbase
 have hdr := append_drawn (P := P) w base t o.type e i z m bytes ht hi hz hsize hby hzs hsz v xs.length cells hrow ad c news (g.len hR) hnews (g.one hR) h63 hbytes hr
 unfold Oper.wp execOp
 simp only [ho, resolve, invoke, builtin, Sem.run_bind, Sem.run_pure, Result.andThen_ok, List.map_toArray, List.map_cons, List.map_nil, hs, hx, hr]
 refine hK _ _ ?_
 obtain ⟨gb, cap, rfl⟩ := ownsRow_succ hown'
 have hat' : v.ownBlock = some gb ∨ gb = w.heap.size := by
  rcases hat with e | e
  ·left; rw [← e]; rfl
  right; injection e
 have hk : Keeps S w w' := Keeps.grown hgrow hS0
 refine h gb cap w' ⟨fun k hk' => ?_, cells ++ news, by simpa using hown', fun k y' hy => ?_⟩ hgrow hat' hdr
 ·have : gb = k := by simpa [Value.ownBlock] using hk'
  subst this
  rcases hat' with e | e
  ·exact hS0 _ e
  rw [e]; exact hS
 by_cases hlt : k < xs.length
 ·rw [List.getElem?_append_left hlt] at hy
  obtain ⟨vs, hR', hc⟩ := hcells k y' hy
  refine ⟨vs, g.keep hR' hk, fun j u hu => ?_⟩
  have h3 := hc j u hu
  rw [List.getElem?_append_left (of_getq' h3)]; exact h3
 have hk2 : k = xs.length := by have := of_getq' hy; simp at this; omega
 subst hk2
 simp at hy; subst hy
 refine ⟨news, g.keep hR hk, fun j u hu => ?_⟩
 rw [List.getElem?_append_right (by rw [hrow.1]; omega), hrow.1]
 rw [show xs.length * m + j - xs.length * m = j by omega]; exact hu
set_option maxRecDepth 100000 in
set_option maxHeartbeats 1000000 in
theorem klist_any (s : Nat) (w : World) (hs : s < 256) : Calls Tryz.prog 46 #[.int .i64 s] w fun e w' => (∃ A' c', e = .returned (.slice A' (bitL s).length c') ∧ Ints (fun k => w.heap.size ≤ k) w' A' (bitL s).length (bitL s)) ∧ Grw w w' := by
 obtain ⟨i0, hi0, hz0, hz1, hz2⟩ := info_parts infoInt
 obtain ⟨hl8, hlb⟩ := len_bit s hs
 have hlen : Calls Tryz.prog 74 #[.int .u64 s] w fun e w' => e = .returned (.int .i64 (Lib.bitLen s)) ∧ w = w' := Calls.mono (Any.bits_Len Tryz.bitsLen s w (by omega) (by omega)) fun _ _ ⟨he, hw⟩ => ⟨he, hw.symm⟩
 obtain ⟨bl, hbl⟩ : ∃ bl, Lib.bitLen s = bl := ⟨_, rfl⟩
 rw [hbl] at hl8 hlb hlen
 have HLB := Lib.hid hlb
 have HLEN := Lib.hid hlen
 have hb8 := bitL_len s hs
 clear hbl hlen hlb
 go_enter Tryz.func46, Tryz.ntmps46
 go_wp2_with fail
 refine Calls.mono (f := 74) HLEN.out ?_
 rintro e w' ⟨rfl, rfl⟩
 go_wp2_with fail
 go_loopw [2, 3, 7] (fun v _ i' wr => ∃ (k j cap : Nat) (A' : Option Addr) (l1 : List Int), i' = .int .i64 k ∧ k ≤ bl ∧ v = .slice A' j cap ∧ Hid (l1.length = j) ∧ j ≤ k ∧ OwnL IntR 1 (fun _ => False) wr w.heap.size 3 (.slice A' j cap) l1 ∧ Grw w wr ∧ Hid (l1 = bitU s k)) (fun _ _ i' _ => bl - (intOf i').toNat)
 case atStart => exact ⟨0, 0, 0, none, [], rfl, Nat.zero_le _, rfl, rfl, Nat.le_refl _, OwnL.nil _ _ _ _ _ _, Grw.refl _, rfl⟩
 case round =>
  obtain ⟨k, j, cap, A', l1, rfl, hk, rfl, Hj, hjk, hO, hB, Hu⟩ := hrel
  by_cases hlt : k < bl
  ·have hki : (k : Int) < bl := by omega
   have hbt := bit_test s hs k (by omega)
   cases htb : s.testBit k
   ·rw [htb] at hbt
    have HU2 : Hid (l1 = bitU s (k + 1)) := by rw [Hid, bitU_succ, htb, Hu.out]; simp
    clear htb
    go_wp2_with fail
    go_roundw
    case rel => exact ⟨k + 1, j, cap, A', l1, by go_num, by omega, rfl, Hj.out, by omega, hO, hB, HU2⟩
    case measure => simp [intOf]; omega
   rw [htb] at hbt
   have HU2 : Hid (l1 ++ [(k : Int)] = bitU s (k + 1)) := by rw [Hid, bitU_succ, htb, Hu.out]; simp
   clear htb
   go_wp2_with (at_builtin; refine wpList_append_g _ rfl (.tmp 15) (.tmp 17) _ rfl IntR.good w.heap.size 3 i0 _ 8 Tryz.underlying27 hi0 hz0 hz1 hz2 rfl (by omega) _ l1 (k : Int) j Hj.out rfl (hO.alloc IntR.good _) ⟨_, 0, none⟩ 1 [.int .i64 k] rfl rfl (news_new rfl rfl) ?c1 ?c2 ?c3 (fun h => h) ?_)
   case c1 => simp only [maxLen]; omega
   case c2 => omega
   case c3 => have := hB.2.size; simp; omega
   intro A2 cap2 w2 hO2 hg2 _ hd2
   have hB2 : Grw w w2 := ⟨Nat.le_trans hB.1 hd2, bl_grown (bl_alloc hB.2 _ (Nat.le_refl _)) (hO.alloc IntR.good _) hg2 (Nat.le_refl _) (Nat.le_refl _)⟩
   have Hj2 : Hid ((l1 ++ [(k : Int)]).length = j + 1) := by rw [Hid, List.length_append, Hj.out]; rfl
   clear hg2 hd2 hO hB hbt
   go_wp2_with fail
   go_roundw
   case rel => exact ⟨k + 1, j + 1, cap2, _, l1 ++ [(k : Int)], by go_num, by omega, rfl, Hj2, by omega, hO2, hB2, HU2⟩
   case measure => simp [intOf]; omega
  obtain rfl : k = bl := by omega
  have hl : l1 = bitL s := by rw [Hu.out]; exact HLB.out
  have hj : j = (bitL s).length := by rw [← Hj.out, hl]
  have hS := hO.slice (T := fun k => w.heap.size ≤ k) IntR.good rfl (by simp only [maxLen]; omega) (fun _ h => h.elim) (fun _ h _ => h)
  rw [hl, hj] at hS
  have HS := Lib.hid hS
  have HJ := Lib.hid hj
  have HB := Lib.hid hB
  clear hl hj hS hO hB
  go_wp2
  go_ret
  exact ⟨⟨A', cap, by rw [← HJ.out]; rfl, HS.out⟩, HB.out⟩
end Go.Proofs.YtkpbchnggdnmaaaGreat
