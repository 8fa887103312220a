/- A part of the proof that TopLaid always answers true. -/
import Derived.Shelf.Small.Bits
import Derived.Shelf.SlSortCmp.NoneTotal
import Derived.Test.YtdbfincinjoppaaGreatCMaps2
import Derived.Test.YtdbfincinjoppaaGreatCPure
set_option linter.all false
namespace Go.Proofs
open Go.RowKit Go.Shelf
def Tryz.bitsLen_ren : Go.Shelf.Ren := ⟨fun | 125 => 93 | 128 => 111 | 129 => 112 | n => n, fun | 46 => 132 | 3 => 3 | 51 => 186 | 53 => 188 | 4 => 4 | 5 => 5 | 9 => 9 | n => n, fun n => n⟩
theorem Tryz.bitsLen : Lays.n125 Tryz.prog Tryz.bitsLen_ren where
 mixed := by kernel_rfl
 f125 := Tryz.func93.trans (congrArg some (by kernel_rfl))
 f128 := Tryz.func111.trans (congrArg some (by kernel_rfl))
 f129 := Tryz.func112.trans (congrArg some (by kernel_rfl))
 t3 := Tryz.underlying3
 a3 := Tryz.isAgg3
 z3 := Tryz.sizeOf3
 v3 := Tryz.zeroValue3
 t4 := Tryz.underlying4
 a4 := Tryz.isAgg4
 z4 := Tryz.sizeOf4
 v4 := Tryz.zeroValue4
 t5 := Tryz.underlying5
 a5 := Tryz.isAgg5
 z5 := Tryz.sizeOf5
 v5 := Tryz.zeroValue5
 t9 := Tryz.underlying9
 a9 := Tryz.isAgg9
 z9 := Tryz.sizeOf9
 v9 := Tryz.zeroValue9
 t46 := Tryz.underlying132
 a46 := Tryz.isAgg132
 z46 := Tryz.sizeOf132
 v46 := Tryz.zeroValue132
 t51 := Tryz.underlying186
 a51 := Tryz.isAgg186
 z51 := Tryz.sizeOf186
 v51 := Tryz.zeroValue186
 t53 := Tryz.underlying188
 a53 := Tryz.isAgg188
 z53 := Tryz.sizeOf188
 v53 := Tryz.zeroValue188
end Go.Proofs
namespace Go.Proofs.YtdbfincinjoppaaGreat
open Go.RowKit Go.Shelf
def bitU (s k : Nat) : List Int := ((List.range k).filter fun i => s.testBit i).map fun i : Nat => (i : Int)
def bitL (s : Nat) : List Int := bitU s 8
def st1 (x : Int) : Int := IntKind.u64.wrap (bits BinOp.and IntKind.u64 (x / 2) 6148914691236517205 + bits BinOp.and IntKind.u64 x 6148914691236517205)
def st2 (x : Int) : Int := IntKind.u64.wrap (bits BinOp.and IntKind.u64 (x / 4) 3689348814741910323 + bits BinOp.and IntKind.u64 x 3689348814741910323)
def st3 (x : Int) : Int := bits BinOp.and IntKind.u64 (IntKind.u64.wrap (x / 16 + x)) 1085102592571150095
def st4 (x : Int) : Int := IntKind.u64.wrap (x + x / 256)
def st5 (x : Int) : Int := IntKind.u64.wrap (x + x / 65536)
def st6 (x : Int) : Int := IntKind.u64.wrap (x + x / 4294967296)
def onesI (x : Int) : Int := bits BinOp.and IntKind.i64 (wrap64 (st6 (st5 (st4 (st3 (st2 (st1 x))))))) 127
theorem ones_bit : ∀ s : Nat, s < 256 → onesI s = (bitL s).length := by decide +kernel
theorem bitU_succ (s k : Nat) : bitU s (k + 1) = bitU s k ++ if s.testBit k then [(k : Int)] else [] := by
 unfold bitU; rw [List.range_succ, List.filter_append, List.map_append]
 cases h : s.testBit k <;> simp [h]
theorem len_bit : ∀ s : Nat, s < 256 → Lib.bitLen s ≤ 8 ∧ bitU s (Lib.bitLen s) = bitL s := by decide +kernel
theorem bit_test : ∀ s : Nat, s < 256 → ∀ k : Nat, k < 8 → (bits BinOp.and IntKind.i64 ((s : Int) / 2 ^ k) 1 == 1) = s.testBit k := by decide +kernel
theorem bitL_len : ∀ s : Nat, s < 256 → (bitL s).length ≤ 8 := by decide +kernel
set_option maxHeartbeats 1000000 in
theorem ones64_any (x : Nat) (w : World) : Calls Tryz.prog 95 #[.int .u64 x] w fun e w' => e = .returned (.int .i64 (onesI x)) ∧ w = w' := by
 go_enter Tryz.func95, Tryz.ntmps95
 go_wp2
 go_ret
 exact ⟨rfl, rfl⟩
theorem ones_any (s : Nat) (hs : s < 256) (w : World) : Calls Tryz.prog 60 #[.int .u64 s] w fun e w' => e = .returned (.int .i64 (bitL s).length) ∧ w = w' := by
 have h := ones64_any s w
 rw [ones_bit s hs] at h
 go_enter Tryz.func60, Tryz.ntmps60
 go_wp2_with (go_at_call 95; refine h.mono ?_; rintro e w' ⟨rfl, rfl⟩)
 go_ret
 exact ⟨rfl, rfl⟩
theorem infoInt : (Tryz.prog.info? 3).map (fun i => (i.zero, i.size, i.bytes)) = some (some (.int .i64 0), 1, 8) := by kernel_rfl
open Go.RowKit Go.Shelf
def SomeR : Rd (Nat × Int) := fun S w x vs => ∃ A n c, vs = [.slice A n c, .int .i64 x.1, .int .i64 x.2] ∧ Ints S w A n (bitL x.1)
theorem SomeR.good : SomeR.Good 3 where
 len := by rintro S w x vs ⟨A, n, c, rfl, _⟩; rfl
 one := by rintro S w x vs ⟨A, n, c, rfl, _⟩ v hv; simp at hv; rcases hv with rfl | rfl | rfl <;> rfl
 keep := by rintro S w w' x vs ⟨A, n, c, rfl, h⟩ hk; exact ⟨A, n, c, rfl, h.keep IntR.good hk⟩
 mono := by rintro S T w x vs ⟨A, n, c, rfl, h⟩ hk; exact ⟨A, n, c, rfl, h.mono IntR.good hk⟩
 bound := by rintro S w x vs ⟨A, n, c, rfl, h⟩; exact ⟨A, n, c, rfl, h.bound IntR.good⟩
def fitsB (h : Hall) (l : List Seen) (row s : Nat) : Bool := decide ((bitL s).length = rowP h row) && (wrong8 h.most (gap8 h l row (bitL s)) == 0)
def fitK (h : Hall) (l : List Seen) (row k : Nat) : List (Nat × Int) := ((List.range k).filter (fitsB h l row)).map fun s => (s, (gap8 h l row (bitL s)).2)
theorem fitK_yes {h : Hall} {l : List Seen} {row s : Nat} (e : fitsB h l row s = true) : fitK h l row (s + 1) = fitK h l row s ++ [(s, (gap8 h l row (bitL s)).2)] := by
 unfold fitK; rw [List.range_succ, List.filter_append, List.map_append]; simp [e]
theorem fitK_no {h : Hall} {l : List Seen} {row s : Nat} (e : fitsB h l row s = false) : fitK h l row (s + 1) = fitK h l row s := by
 unfold fitK; rw [List.range_succ, List.filter_append, List.map_append]; simp [e]
theorem fitK_len {h : Hall} {l : List Seen} {row s : Nat} : (fitK h l row s).length ≤ s := by
 unfold fitK; rw [List.length_map]; exact Nat.le_trans (List.length_filter_le _ _) (by simp)
def updL (f : Nat → List (Nat × Int)) (r : Nat) (x : List (Nat × Int)) : Nat → List (Nat × Int) := fun i => if i = r then x else f i
structure FitSt (W : World) (base gF : Nat) (T0 e : TypeId) (m : Nat) (f : Nat → List (Nat × Int)) : Prop where
 lt : gF < base
 bs : base ≤ W.heap.size
 ex : ∃ (cs : Array Value) (S : Foot), Blk W gF T0 cs ∧ cs.size = m ∧ (∀ k, S k → base ≤ k ∧ k < W.heap.size) ∧ (∀ r, r < m → ∃ v, cs[r]? = some v ∧ OwnL SomeR 3 S W base e v (f r)) ∧
  (∀ (r r' : Nat) (v v' : Value) (k : Nat), r ≠ r' → cs[r]? = some v → cs[r']? = some v' → v.ownBlock = some k → v'.ownBlock ≠ some k)
theorem FitSt.keep {W W' : World} {base gF : Nat} {T0 e : TypeId} {m : Nat} {f : Nat → List (Nat × Int)} (h : FitSt W base gF T0 e m f) (hb : Below W.heap.size W W') : FitSt W' base gF T0 e m f := by
 obtain ⟨h1, h2, cs, S, hB, hs, hS, hr, hd⟩ := h
 refine ⟨h1, Nat.le_trans h2 hb.size, cs, S, hB.bl hb, hs, fun k hk => ⟨(hS k hk).1, Nat.lt_of_lt_of_le (hS k hk).2 hb.size⟩, fun r hr' => ?_, hd⟩
 obtain ⟨v, hv, hO⟩ := hr r hr'
 exact ⟨v, hv, hO.below SomeR.good hb⟩
theorem FitSt.congr {W : World} {base gF : Nat} {T0 e : TypeId} {m : Nat} {f g : Nat → List (Nat × Int)} (h : FitSt W base gF T0 e m f) (hfg : ∀ r, r < m → f r = g r) : FitSt W base gF T0 e m g := by
 obtain ⟨h1, h2, cs, S, hB, hs, hS, hr, hd⟩ := h
 refine ⟨h1, h2, cs, S, hB, hs, hS, fun r hr' => ?_, hd⟩
 rw [← hfg r hr']; exact hr r hr'
theorem FitSt.new {W : World} {base gF : Nat} {T0 e : TypeId} {m : Nat} (h1 : gF < base) (h2 : base ≤ W.heap.size) (hB : Blk W gF T0 (Array.replicate m (.slice none 0 0))) : FitSt W base gF T0 e m (fun _ => []) := by
 refine ⟨h1, h2, _, fun _ => False, hB, by simp, fun k h => h.elim, fun r hr => ⟨.slice none 0 0, by simp [hr], OwnL.nil _ _ _ _ _ _⟩, fun r r' v v' k _ hv _ hk => ?_⟩
 rw [Array.getElem?_replicate] at hv
 split at hv
 ·injection hv with hv; subst hv; cases hk
 cases hv
structure RowOpen (W : World) (base gF : Nat) (T0 e : TypeId) (m : Nat) (f : Nat → List (Nat × Int)) (r : Nat) (v : Value) (S : Foot) : Prop where
 blk : ∃ cs, Blk W gF T0 cs
 cell : W.cell? ⟨gF, r, none⟩ = some v
 own : OwnL SomeR 3 S W base e v (f r)
 sb : ∀ k, S k → base ≤ k ∧ k < W.heap.size
 put : ∀ (W' : World) (v' : Value) (S1 : Foot) (x : List (Nat × Int)), Kept (fun j => v.ownBlock = some j) W W' → OwnL SomeR 3 S1 W' base e v' x → (∀ k, S1 k → S k ∨ (W.heap.size ≤ k ∧ k < W'.heap.size)) → (∀ k, S k → S1 k) →
  (v'.ownBlock = v.ownBlock ∨ ∀ k, v'.ownBlock = some k → W.heap.size ≤ k) → FitSt (W'.setCell ⟨gF, r, none⟩ v') base gF T0 e m (updL f r x)
theorem FitSt.open_ {W : World} {base gF : Nat} {T0 e : TypeId} {m : Nat} {f : Nat → List (Nat × Int)} (h : FitSt W base gF T0 e m f) {r : Nat} (hr : r < m) : ∃ v S, RowOpen W base gF T0 e m f r v S := by
 obtain ⟨h1, h2, cs, S, hB, hs, hS, hrs, hd⟩ := h
 obtain ⟨v, hv, hO⟩ := hrs r hr
 refine ⟨v, S, ⟨cs, hB⟩, (hB.cell r).trans hv, hO, hS, ?_⟩
 intro W' v' S1 x hK hO' hS1 hSS hown
 have hgF : ∀ k, v.ownBlock = some k → k ≠ gF := fun k hk e => by have := (hO.block k hk).1; omega
 have hB' : Blk W' gF T0 cs := (hK.block gF hB.lt (fun hk => hgF gF hk rfl)).trans hB
 have hS1b : ∀ k, S1 k → base ≤ k ∧ k < W'.heap.size := fun k hk => by
  have hsz := hK.size
  rcases hS1 k hk with h | h
  ·have := hS k h; omega
  omega
 have hset : ∀ {v'' : Value} {y : List (Nat × Int)}, OwnL SomeR 3 S1 W' base e v'' y → OwnL SomeR 3 S1 (W'.setCell ⟨gF, r, none⟩ v') base e v'' y := fun hO2 =>
  hO2.keep SomeR.good (Keeps.setCell _ _ _ (fun hk => by
   dsimp only at hk
   rcases hk with hk | hk
   ·have := (hS1b _ hk).1; omega
   have := (hO2.block _ hk).1; omega))
 refine ⟨h1, by have := hK.size; simp [World.setCell]; omega, cs.setIfInBounds r v', S1, hB'.set_ r v', by simp [hs], fun k hk => by have := hS1b k hk; simpa [World.setCell] using this, fun r' hr' => ?_, ?_⟩
 ·by_cases e1 : r' = r
  ·subst e1
   refine ⟨v', by rw [Array.getElem?_setIfInBounds_self_of_lt (by omega)], ?_⟩
   rw [updL, if_pos rfl]
   exact hset hO'
  obtain ⟨u, hu, hOu⟩ := hrs r' hr'
  refine ⟨u, by rw [Array.getElem?_setIfInBounds_ne (fun h => e1 h.symm)]; exact hu, ?_⟩
  rw [updL, if_neg e1]
  refine hset ?_
  have hne : ∀ k, v.ownBlock = some k → u.ownBlock ≠ some k := fun k hk => hd r r' v u k (fun h => e1 h.symm) hv hu hk
  have hO1 : OwnL SomeR 3 S W' base e u (f r') := hOu.keep SomeR.good (hK.keeps (fun k hk hk2 => by
   rcases hk with hk | hk
   ·exact hO.1 k hk2 hk
   exact hne k hk2 hk))
  obtain ⟨_, cells, hrow, hcells⟩ := hO1
  refine ⟨fun k hk hk2 => ?_, cells, hrow, fun k y hy => ?_⟩
  ·rcases hS1 k hk2 with h | h
   ·exact hOu.1 k hk h
   have := (hOu.block k hk).2; omega
  obtain ⟨vs, hR, hc⟩ := hcells k y hy
  exact ⟨vs, SomeR.good.mono hR hSS, hc⟩
 have hvb : ∀ r' u k, r' ≠ r → cs[r']? = some u → u.ownBlock = some k → v'.ownBlock ≠ some k := fun r' u k hne hu hk hk' => by
  have hlt : k < W.heap.size := by
   have hr'm : r' < m := by
    rw [← hs]
    exact (Array.getElem?_eq_some_iff.1 hu).1
   obtain ⟨u2, hu2, hOu⟩ := hrs r' hr'm
   rw [hu] at hu2
   injection hu2 with hu2
   subst hu2
   exact (hOu.block k hk).2
  rcases hown with h | h
  ·rw [h] at hk'
   exact hd r r' v u k (fun h => hne h.symm) hv hu hk' hk
  have := h k hk'; omega
 intro r1 r2 u1 u2 k hne hu1 hu2 hk
 by_cases e1 : r1 = r
 ·subst e1
  rw [Array.getElem?_setIfInBounds_self_of_lt (by omega)] at hu1
  injection hu1 with hu1
  subst hu1
  rw [Array.getElem?_setIfInBounds_ne hne] at hu2
  intro hk2
  exact hvb r2 u2 k (fun h => hne h.symm) hu2 hk2 hk
 rw [Array.getElem?_setIfInBounds_ne (fun h => e1 h.symm)] at hu1
 by_cases e2 : r2 = r
 ·subst e2
  rw [Array.getElem?_setIfInBounds_self_of_lt (by omega)] at hu2
  injection hu2 with hu2
  subst hu2
  exact hvb r1 u1 k e1 hu1 hk
 rw [Array.getElem?_setIfInBounds_ne (fun h => e2 h.symm)] at hu2
 exact hd r1 r2 u1 u2 k hne hu1 hu2 hk
def cmpI (x y : Int) : Int := if x < y then -1 else if y < x then 1 else 0
def lexC : List Int → List Int → Int
 | [], [] => 0
 | [], _ :: _ => -1
 | _ :: _, [] => 1
 | x :: xs, y :: ys => if cmpI x y = 0 then lexC xs ys else cmpI x y
theorem cmpI_zero {x y : Int} : cmpI x y = 0 ↔ x = y := by unfold cmpI; split <;> (try split) <;> omega
theorem cmpI_neg {x y : Int} : cmpI x y < 0 ↔ x < y := by unfold cmpI; split <;> (try split) <;> omega
theorem lexC_refl : ∀ xs : List Int, lexC xs xs = 0 := by
 intro xs
 induction xs with
 | nil => rfl
 | cons x xs ih => rw [lexC, if_pos (cmpI_zero.2 rfl), ih]
theorem lexC_neg {x y : Int} {xs ys : List Int} : lexC (x :: xs) (y :: ys) < 0 ↔ x < y ∨ (x = y ∧ lexC xs ys < 0) := by
 rw [lexC]
 by_cases h : x = y
 ·rw [if_pos (cmpI_zero.2 h)]; subst h; simp
 rw [if_neg (fun e => h (cmpI_zero.1 e)), cmpI_neg]; simp [h]
theorem lexC_trans : ∀ xs ys zs : List Int, lexC xs ys < 0 → lexC ys zs < 0 → lexC xs zs < 0 := by
 intro xs
 induction xs with
 | nil =>
  intro ys zs h1 h2
  cases zs with
  | nil => cases ys with
   | nil => exact h1
   | cons y ys => simp [lexC] at h2
  | cons z zs => simp [lexC]
 | cons x xs ih =>
  intro ys zs h1 h2
  cases ys with
  | nil => simp [lexC] at h1
  | cons y ys =>
   cases zs with
   | nil => simp [lexC] at h2
   | cons z zs =>
    rw [lexC_neg] at h1 h2 ⊢
    rcases h1 with h1 | ⟨h1, h1'⟩ <;> rcases h2 with h2 | ⟨h2, h2'⟩
    ·exact .inl (by omega)
    ·exact .inl (by omega)
    ·exact .inl (by omega)
    exact .inr ⟨by omega, ih _ _ h1' h2'⟩
theorem lexC_tri : ∀ xs ys : List Int, ¬ lexC xs ys < 0 → ¬ lexC ys xs < 0 → xs = ys := by
 intro xs
 induction xs with
 | nil =>
  intro ys h1 _
  cases ys with
  | nil => rfl
  | cons y ys => simp [lexC] at h1
 | cons x xs ih =>
  intro ys h1 h2
  cases ys with
  | nil => simp [lexC] at h2
  | cons y ys =>
   rw [lexC_neg] at h1 h2
   have e : x = y := by omega
   subst e
   rw [ih ys (fun h => h1 (.inr ⟨rfl, h⟩)) (fun h => h2 (.inr ⟨rfl, h⟩))]
def encL (x : List Int) : Nat := x.foldl (fun s i => s ||| (1 <<< i.toNat)) 0
theorem enc_bit : ∀ s : Nat, s < 256 → encL (bitL s) = s := by decide +kernel
theorem lex_pair : ∀ n : Nat, n < 9 → ∀ k : Nat, k < 9 → (lexL k (numbersL n)).Pairwise fun a b => lexC a b < 0 := by decide +kernel
theorem lex_enc : ∀ n : Nat, n < 9 → ∀ k : Nat, k < 9 → ∀ x ∈ lexL k (numbersL n), encL x < 2 ^ n ∧ bitL (encL x) = x ∧ x.length = k := by decide +kernel
theorem lex_mem : ∀ n : Nat, n < 9 → ∀ s : Nat, s < 2 ^ n → bitL s ∈ lexL (bitL s).length (numbersL n) := by decide +kernel
def fitS (h : Hall) (l : List Seen) (row : Nat) : List (Nat × Int) := (fitL h l row).map fun x => (encL x, (gap8 h l row x).2)
theorem fit_lt {h : Hall} {l : List Seen} {row : Nat} {x : List Int} (hn : h.tiles.length < 9) (hp : rowP h row < 9) (hx : x ∈ fitL h l row) : encL x < 2 ^ h.tiles.length ∧ bitL (encL x) = x ∧ x.length = rowP h row ∧ wrong8 h.most (gap8 h l row x) = 0 := by
 unfold fitL at hx
 obtain ⟨h1, h2⟩ := List.mem_filter.1 hx
 obtain ⟨a, b, c⟩ := lex_enc _ hn _ hp x h1
 exact ⟨a, b, c, by simpa using h2⟩
theorem fitS_mem {h : Hall} {l : List Seen} {row : Nat} (hn : h.tiles.length < 9) (hp : rowP h row < 9) (p : Nat × Int) : p ∈ fitS h l row ↔ p ∈ fitK h l row (2 ^ h.tiles.length) := by
 unfold fitS fitK
 rw [List.mem_map, List.mem_map]
 have h256 : ∀ s, s < 2 ^ h.tiles.length → s < 256 := fun s hs => Nat.lt_of_lt_of_le hs (Nat.pow_le_pow_right (by decide) (by omega : h.tiles.length ≤ 8) : 2 ^ h.tiles.length ≤ 2 ^ 8)
 constructor
 ·rintro ⟨x, hx, rfl⟩
  obtain ⟨a, b, c, d⟩ := fit_lt hn hp hx
  refine ⟨encL x, List.mem_filter.2 ⟨List.mem_range.2 a, ?_⟩, by rw [b]⟩
  unfold fitsB
  rw [b, c, d]; simp
 rintro ⟨s, hs, rfl⟩
 obtain ⟨h1, h2⟩ := List.mem_filter.1 hs
 have hlt := List.mem_range.1 h1
 unfold fitsB at h2
 simp at h2
 refine ⟨bitL s, ?_, by rw [enc_bit s (h256 s hlt)]⟩
 unfold fitL
 refine List.mem_filter.2 ⟨?_, by simpa using h2.2⟩
 rw [← h2.1]
 exact lex_mem _ hn s hlt
theorem fitS_pair {h : Hall} {l : List Seen} {row : Nat} (hn : h.tiles.length < 9) (hp : rowP h row < 9) : (fitS h l row).Pairwise fun a b => lexC (bitL a.1) (bitL b.1) < 0 := by
 unfold fitS
 rw [List.pairwise_map]
 have hp1 : (fitL h l row).Pairwise fun a b => lexC a b < 0 := (lex_pair _ hn _ hp).filter _
 refine List.Pairwise.imp_of_mem (fun {a b} ha hb hr => ?_) hp1
 rw [(fit_lt hn hp ha).2.1, (fit_lt hn hp hb).2.1]; exact hr
theorem nodup_of_lex {X : List (Nat × Int)} (h : X.Pairwise fun a b => lexC (bitL a.1) (bitL b.1) < 0) : X.Nodup := h.imp (fun {a b} hr e => by rw [e, lexC_refl] at hr; omega)
theorem sorted_fit {h : Hall} {l : List Seen} {row : Nat} (hn : h.tiles.length < 9) (hp : rowP h row < 9) {Y : List (Nat × Int)} (hperm : Y.Perm (fitK h l row (2 ^ h.tiles.length)))
  (hs : Y.Pairwise fun a b => ¬ lexC (bitL b.1) (bitL a.1) < 0) : Y = fitS h l row := by
 have hnK : (fitK h l row (2 ^ h.tiles.length)).Nodup := by
  unfold fitK List.Nodup
  rw [List.pairwise_map]
  exact (List.nodup_range.filter _).imp (fun {a b} hne e => hne (congrArg Prod.fst e))
 have hnY : Y.Nodup := hperm.nodup_iff.2 hnK
 have h256 : ∀ s, s < 2 ^ h.tiles.length → s < 256 := fun s hs => Nat.lt_of_lt_of_le hs (Nat.pow_le_pow_right (by decide) (by omega : h.tiles.length ≤ 8) : 2 ^ h.tiles.length ≤ 2 ^ 8)
 have hmem : ∀ p ∈ Y, p.1 < 256 ∧ p = (p.1, (gap8 h l row (bitL p.1)).2) := fun p hp => by
  have hp2 := hperm.mem_iff.1 hp
  unfold fitK at hp2
  obtain ⟨s, hs, rfl⟩ := List.mem_map.1 hp2
  exact ⟨h256 s (List.mem_range.1 (List.mem_filter.1 hs).1), rfl⟩
 have hYp : Y.Pairwise fun a b => lexC (bitL a.1) (bitL b.1) < 0 := by
  refine List.Pairwise.imp_of_mem (fun {a b} ha hb hr => ?_) (hs.and hnY)
  obtain ⟨hr1, hr2⟩ := hr
  refine Classical.byContradiction fun hc => hr2 ?_
  have e := lexC_tri _ _ hc hr1
  obtain ⟨a1, a2⟩ := hmem a ha
  obtain ⟨b1, b2⟩ := hmem b hb
  have e2 : a.1 = b.1 := by rw [← enc_bit _ a1, ← enc_bit _ b1, e]
  rw [a2, b2, e2]
 have hP : Y.Perm (fitS h l row) := by
  rw [List.perm_ext_iff_of_nodup hnY (nodup_of_lex (fitS_pair hn hp))]
  intro p
  rw [fitS_mem hn hp p]; exact hperm.mem_iff
 exact List.Perm.eq_of_pairwise (fun a b _ _ h1 h2 => by have := lexC_trans _ _ _ h1 h2; rw [lexC_refl] at this; omega) hYp (fitS_pair hn hp) hP
open Go.RowKit Go.Shelf
theorem nan_int (x : Int) (w : World) : Calls Tryz.prog 130 #[.int .i64 x] w fun e w' => e = .returned (.bool false) ∧ w = w' := by
 go_enter Tryz.func130, Tryz.ntmps130
 go_wp2
 go_ret
 exact ⟨rfl, rfl⟩
set_option maxHeartbeats 400000 in
theorem cmp_int (x y : Int) (w : World) : Calls Tryz.prog 109 #[.int .i64 x, .int .i64 y] w fun e w' => e = .returned (.int .i64 (cmpI x y)) ∧ w = w' := by
 by_cases h : x < y
 ·have HR : Hid (cmpI x y = -1) := by rw [Hid, cmpI, if_pos h]
  go_enter Tryz.func109, Tryz.ntmps109
  go_wp2_with (go_at_call 130; refine (nan_int _ _).mono ?_; rintro e w' ⟨rfl, rfl⟩)
  go_ret
  exact ⟨by rw [HR.out]; rfl, rfl⟩
 by_cases h2 : y < x
 ·have HR : Hid (cmpI x y = 1) := by rw [Hid, cmpI, if_neg h, if_pos h2]
  go_enter Tryz.func109, Tryz.ntmps109
  go_wp2_with (go_at_call 130; refine (nan_int _ _).mono ?_; rintro e w' ⟨rfl, rfl⟩)
  go_ret
  exact ⟨by rw [HR.out]; rfl, rfl⟩
 have HR : Hid (cmpI x y = 0) := by rw [Hid, cmpI, if_neg h, if_neg h2]
 go_enter Tryz.func109, Tryz.ntmps109
 go_wp2_with (go_at_call 130; refine (nan_int _ _).mono ?_; rintro e w' ⟨rfl, rfl⟩)
 go_ret
 exact ⟨by rw [HR.out]; rfl, rfl⟩
set_option maxHeartbeats 1000000 in
theorem compare_any {S T : Foot} {A B : Option Addr} {n c m d : Nat} {xs ys : List Int} (w : World) (h : Ints S w A n xs) (g : Ints T w B m ys) :
  Calls Tryz.prog 80 #[.slice A n c, .slice B m d] w fun e w' => e = .returned (.int .i64 (lexC xs ys)) ∧ w = w' := by
 have hle := h.le
 have gle := g.le
 have Hn := Lib.hid h.len
 have Hm := Lib.hid g.len
 go_enter Tryz.func80, Tryz.ntmps80
 go_wp2
 go_loop [11] (fun i => ∃ k : Nat, k ≤ n ∧ k ≤ m ∧ i = .int .i64 k ∧ Hid (lexC xs ys = lexC (xs.drop k) (ys.drop k))) (fun i => n - (intOf i).toNat)
 case atStart => exact ⟨0, Nat.zero_le _, Nat.zero_le _, rfl, rfl⟩
 case round =>
  obtain ⟨k, hk, hkm, rfl, Hl⟩ := hrel
  by_cases hlt : k < n
  ·obtain ⟨b, off, x, rfl, hcell, Hx⟩ := h.get hlt
   have hdx := drop_cons Hx.out
   have hki : (k : Int) < n := by omega
   by_cases hmt : k < m
   ·have hmi : (k : Int) < m := by omega
    obtain ⟨b', off', y, rfl, hcell', Hy⟩ := g.get hmt
    have hdy := drop_cons Hy.out
    have Hstep : Hid (lexC xs ys = if cmpI x y = 0 then lexC (xs.drop (k + 1)) (ys.drop (k + 1)) else cmpI x y) := by rw [Hid, Hl.out, hdx, hdy, lexC]
    clear hdx hdy
    generalize hz : cmpI x y = z at *
    have Hz := Lib.hid hz
    clear hz
    by_cases h0 : z = 0
    ·subst h0
     go_wp2_with (go_at_call 109; refine (cmp_int _ _ _).mono ?_; rintro e w' ⟨rfl, rfl⟩; rw [Hz.out])
     go_round
     case rel => exact ⟨k + 1, by omega, by omega, by go_num, by rw [Hid, Hstep.out]; simp⟩
     case measure => simp [intOf]; omega
    have h0b : (z != 0) = true := by simpa using h0
    have HR : Hid (lexC xs ys = z) := by rw [Hid, Hstep.out, if_neg h0]
    clear h0
    go_wp2_with (go_at_call 109; refine (cmp_int _ _ _).mono ?_; rintro e w' ⟨rfl, rfl⟩; rw [Hz.out])
    go_ret
    exact ⟨by rw [HR.out]; rfl, rfl⟩
   obtain rfl : k = m := by omega
   have HR : Hid (lexC xs ys = 1) := by have hdy : ys.drop k = [] := List.drop_of_length_le (by rw [Hm.out]; exact Nat.le_refl _); rw [Hid, Hl.out, hdx, hdy, lexC]
   clear hdx
   go_wp2
   go_ret
   exact ⟨by rw [HR.out]; rfl, rfl⟩
  obtain rfl : k = n := by omega
  have hd0 : xs.drop k = [] := List.drop_of_length_le (by rw [Hn.out]; exact Nat.le_refl _)
  by_cases hmt : k < m
  ·have HR : Hid (lexC xs ys = -1) := by
    obtain ⟨y, hy⟩ : ∃ y, ys[k]? = some y := ⟨_, List.getElem?_eq_getElem (by rw [Hm.out]; exact hmt)⟩
    rw [Hid, Hl.out, hd0, drop_cons hy, lexC]
   clear hd0
   go_wp2
   go_ret
   exact ⟨by rw [HR.out]; rfl, rfl⟩
  have HR : Hid (lexC xs ys = 0) := by have hdy : ys.drop k = [] := List.drop_of_length_le (by rw [Hm.out]; omega); rw [Hid, Hl.out, hd0, hdy, lexC]
  clear hd0
  go_wp2
  go_ret
  exact ⟨by rw [HR.out]; rfl, rfl⟩
open Go.RowKit Go.Shelf Go.Sort
def Grw (w w' : World) : Prop := w.drawn ≤ w'.drawn ∧ Below w.heap.size w w'
theorem Grw.refl (w : World) : Grw w w := ⟨Nat.le_refl _, Below.refl _ _⟩
theorem Grw.trans {a b c : World} (h : Grw a b) (k : Grw b c) : Grw a c := ⟨Nat.le_trans h.1 k.1, bl_call h.2 k.2 (Nat.le_refl _)⟩
theorem Grw.form {w w' : World} (h : Grw w w') : ∃ q os, w' = Sort.grow (w.drewN q) os := by
 obtain ⟨h1, h2⟩ := h
 refine ⟨w'.drawn - w.drawn, w'.heap.extract w.heap.size w'.heap.size, ?_⟩
 have hh : w'.heap = w.heap ++ w'.heap.extract w.heap.size w'.heap.size := by
  apply Array.ext_getElem?
  intro k
  by_cases hk : k < w.heap.size
  ·rw [Array.getElem?_append_left hk]; exact h2.block k hk
  rw [Array.getElem?_append_right (by omega)]
  by_cases hk2 : k < w'.heap.size
  ·rw [Array.getElem?_extract]
   rw [if_pos (by omega)]
   congr 1; omega
  rw [Array.getElem?_eq_none (by omega), Array.getElem?_eq_none (by simp; omega)]
 have hd : w'.drawn = w.drawn + (w'.drawn - w.drawn) := by omega
 obtain ⟨os1, os2, os3⟩ := (⟨h2.os, h2.tape, h2.output⟩ : w'.os = w.os ∧ w'.tape = w.tape ∧ w'.output = w.output)
 cases w' with
 | mk heap' tape' drawn' os' output' =>
  simp only at os1 os2 os3 hh hd
  subst os1 os2 os3
  unfold Sort.grow World.drewN
  dsimp only
  rw [← hh, ← hd]
theorem append_drawn {P : Program} (w : World) (base : Nat) (t ty e : TypeId) (i : TypeInfo) (z : Value) (size bytes : Nat) (ht : P.underlying t = some (.slice e)) (hi : P.info? e = some i) (hz : i.zero = some z)
  (hsize : i.size = size) (hby : i.bytes = bytes) (hzs : z.cells.size = size) (hsz : 0 < size)
  (v : Value) (n : Nat) (xs : List Value) (hown : w.ownsRow base e size v n xs)
  (a : Addr) (c : Nat) (news : List Value) (hl : news.length = size) (hnews : ∀ j u, news[j]? = some u → w.cell? (a.add j) = some u) (h1 : ∀ u ∈ news, u.oneCell' = true)
  (h63 : n + 1 ≤ maxLen) (hbytes : (n + 1) * bytes ≤ 140737488355328) {v' : Value} {w' : World}
  (hr : (Builtin.append_ #[t, t] ty #[v, .slice (some a) 1 c]).run P w = .ok v' w') : w.drawn ≤ w'.drawn := by
 subst hsize
 subst hby
 have hsmall : ((n + 1 : Nat) : Int) ≤ 9223372036854775807 := by simp only [maxLen] at h63; omega
 rcases hown.2 with ⟨rfl, hn0⟩ | ⟨g, cap, cur, rfl, hb, hgg, hle, hmax, hsz2, htake⟩
 ·rw [run_append_nil (P := P) (w := w) t ty e i z ht hi hz a 1 c news (by omega) hnews (by omega) (by omega) (by have := hbytes; rw [hn0] at this; omega)] at hr
  injection hr with _ hr
  rw [← hr]
  exact Nat.le_succ _
 by_cases hc : n + 1 ≤ cap
 ·rw [run_append_room (P := P) w t ty e i ht hi g n cap cur hgg a 1 c news (by omega) hnews h1 hc (by rw [hl, hsz2]; calc n * i.size + i.size = (n + 1) * i.size := by rw [Nat.succ_mul]
                                                               _ ≤ cap * i.size := Nat.mul_le_mul_right _ hc)] at hr
  injection hr with _ hr
  rw [← hr]
  exact Nat.le_refl _
 have hcn : cap = n := by omega
 rw [run_append_grow (P := P) (w := w) t ty e i z ht hi hz ⟨g, 0, none⟩ n cap xs hown.1 (hown.cells rfl) a 1 c news (by omega) hnews (by omega) hsmall (growslice_fits (by omega) hbytes)] at hr
 injection hr with _ hr
 rw [← hr]
 exact Nat.le_succ _
theorem wpList_append_g {P : Program} {ops : Array Oper} {rest : List Oper} {o : Oper} {a : Act} {Q : Exit → Act → World → Prop} (w : World) (hgd : o.guard = none) (s x : Operand) (t : TypeId)
  (ho : o.op = .call { callee := .builtin .append, args := #[s, x], argTypes := #[t, t] })
  {α : Type} {R : Rd α} {m : Nat} (g : R.Good m) {S : Foot} (base : Nat) (e : TypeId) (i : TypeInfo) (z : Value) (bytes : Nat) (ht : P.underlying t = some (.slice e)) (hi : P.info? e = some i) (hz : i.zero = some z)
  (hsize : i.size = m) (hby : i.bytes = bytes) (hzs : z.cells.size = m) (hsz : 0 < m)
  (v : Value) (xs : List α) (y : α) (n : Nat) (hn : xs.length = n) (hs : a.eval s = v) (hown : OwnL R m S w base e v xs)
  (ad : Addr) (c : Nat) (news : List Value) (hx : a.eval x = .slice (some ad) 1 c) (hR : R S w y news) (hnews : ∀ j u, news[j]? = some u → w.cell? (ad.add j) = some u)
  (h63 : n + 1 ≤ maxLen) (hbytes : (n + 1) * bytes ≤ 140737488355328) (hbase : base ≤ w.heap.size) (hS : ¬ S w.heap.size)
  (h : ∀ A' cap' w', OwnL R m S w' base e (.slice (some ⟨A', 0, none⟩) (n + 1) cap') (xs ++ [y]) → w.grownBy w' v.ownBlock → (v.ownBlock = some A' ∨ A' = w.heap.size) → w.drawn ≤ w'.drawn → wpList P ops Q rest (a.put o.dst (.slice (some ⟨A', 0, none⟩) (n + 1) cap')) w') : wpList P ops Q (o :: rest) a w := by
 subst hn
 obtain ⟨hS0, cells, hrow, hcells⟩ := hown
 refine wpList_plain hgd fun K hK => ?_
 obtain ⟨v', w', hr, hown', hgrow, _, hat⟩ := run_append_own_at (P := P) w base t o.type e i z m bytes ht hi hz hsize hby hzs hsz v xs.length cells hrow ad 1 c news (by rw [g.len hR]; omega) hnews (g.one hR) h63 hbytes hbase
 have hdr := append_drawn (P := P) w base t o.type e i z m bytes ht hi hz hsize hby hzs hsz v xs.length cells hrow ad c news (g.len hR) hnews (g.one hR) h63 hbytes hr
 unfold Oper.wp execOp
 simp only [ho, resolve, invoke, builtin, Sem.run_bind, Sem.run_pure, Result.andThen_ok, List.map_toArray, List.map_cons, List.map_nil, hs, hx, hr]
 refine hK _ _ ?_
 obtain ⟨gb, cap, rfl⟩ := ownsRow_succ hown'
 have hat' : v.ownBlock = some gb ∨ gb = w.heap.size := by
  rcases hat with e | e
  ·left; rw [← e]; rfl
  right; injection e
 have hk : Keeps S w w' := Keeps.grown hgrow hS0
 refine h gb cap w' ⟨fun k hk' => ?_, cells ++ news, by simpa using hown', fun k y' hy => ?_⟩ hgrow hat' hdr
 ·have : gb = k := by simpa [Value.ownBlock] using hk'
  subst this
  rcases hat' with e | e
  ·exact hS0 _ e
  rw [e]; exact hS
 by_cases hlt : k < xs.length
 ·rw [List.getElem?_append_left hlt] at hy
  obtain ⟨vs, hR', hc⟩ := hcells k y' hy
  refine ⟨vs, g.keep hR' hk, fun j u hu => ?_⟩
  have h3 := hc j u hu
  rw [List.getElem?_append_left (of_getq' h3)]; exact h3
 have hk2 : k = xs.length := by have := of_getq' hy; simp at this; omega
 subst hk2
 simp at hy; subst hy
 refine ⟨news, g.keep hR hk, fun j u hu => ?_⟩
 rw [List.getElem?_append_right (by rw [hrow.1]; omega), hrow.1]
 rw [show xs.length * m + j - xs.length * m = j by omega]; exact hu
set_option maxRecDepth 100000 in
set_option maxHeartbeats 1000000 in
theorem klist_any (s : Nat) (w : World) (hs : s < 256) : Calls Tryz.prog 59 #[.int .i64 s] w fun e w' => (∃ A' c', e = .returned (.slice A' (bitL s).length c') ∧ Ints (fun k => w.heap.size ≤ k) w' A' (bitL s).length (bitL s)) ∧ Grw w w' := by
 obtain ⟨i0, hi0, hz0, hz1, hz2⟩ := info_parts infoInt
 obtain ⟨hl8, hlb⟩ := len_bit s hs
 have hlen : Calls Tryz.prog 93 #[.int .u64 s] w fun e w' => e = .returned (.int .i64 (Lib.bitLen s)) ∧ w = w' := Calls.mono (Any.bits_Len Tryz.bitsLen s w (by omega) (by omega)) fun _ _ ⟨he, hw⟩ => ⟨he, hw.symm⟩
 obtain ⟨bl, hbl⟩ : ∃ bl, Lib.bitLen s = bl := ⟨_, rfl⟩
 rw [hbl] at hl8 hlb hlen
 have HLB := Lib.hid hlb
 have HLEN := Lib.hid hlen
 have hb8 := bitL_len s hs
 clear hbl hlen hlb
 go_enter Tryz.func59, Tryz.ntmps59
 go_wp2_with fail
 refine Calls.mono (f := 93) HLEN.out ?_
 rintro e w' ⟨rfl, rfl⟩
 go_wp2_with fail
 go_loopw [2, 3, 7] (fun v _ i' wr => ∃ (k j cap : Nat) (A' : Option Addr) (l1 : List Int), i' = .int .i64 k ∧ k ≤ bl ∧ v = .slice A' j cap ∧ Hid (l1.length = j) ∧ j ≤ k ∧ OwnL IntR 1 (fun _ => False) wr w.heap.size 3 (.slice A' j cap) l1 ∧ Grw w wr ∧ Hid (l1 = bitU s k)) (fun _ _ i' _ => bl - (intOf i').toNat)
 case atStart => exact ⟨0, 0, 0, none, [], rfl, Nat.zero_le _, rfl, rfl, Nat.le_refl _, OwnL.nil _ _ _ _ _ _, Grw.refl _, rfl⟩
 case round =>
  obtain ⟨k, j, cap, A', l1, rfl, hk, rfl, Hj, hjk, hO, hB, Hu⟩ := hrel
  by_cases hlt : k < bl
  ·have hki : (k : Int) < bl := by omega
   have hbt := bit_test s hs k (by omega)
   cases htb : s.testBit k
   ·rw [htb] at hbt
    have HU2 : Hid (l1 = bitU s (k + 1)) := by rw [Hid, bitU_succ, htb, Hu.out]; simp
    clear htb
    go_wp2_with fail
    go_roundw
    case rel => exact ⟨k + 1, j, cap, A', l1, by go_num, by omega, rfl, Hj.out, by omega, hO, hB, HU2⟩
    case measure => simp [intOf]; omega
   rw [htb] at hbt
   have HU2 : Hid (l1 ++ [(k : Int)] = bitU s (k + 1)) := by rw [Hid, bitU_succ, htb, Hu.out]; simp
   clear htb
   go_wp2_with (at_builtin; refine wpList_append_g _ rfl (.tmp 15) (.tmp 17) _ rfl IntR.good w.heap.size 3 i0 _ 8 Tryz.underlying47 hi0 hz0 hz1 hz2 rfl (by omega) _ l1 (k : Int) j Hj.out rfl (hO.alloc IntR.good _) ⟨_, 0, none⟩ 1 [.int .i64 k] rfl rfl (news_new rfl rfl) ?c1 ?c2 ?c3 (fun h => h) ?_)
   case c1 => simp only [maxLen]; omega
   case c2 => omega
   case c3 => have := hB.2.size; simp; omega
   intro A2 cap2 w2 hO2 hg2 _ hd2
   have hB2 : Grw w w2 := ⟨Nat.le_trans hB.1 hd2, bl_grown (bl_alloc hB.2 _ (Nat.le_refl _)) (hO.alloc IntR.good _) hg2 (Nat.le_refl _) (Nat.le_refl _)⟩
   have Hj2 : Hid ((l1 ++ [(k : Int)]).length = j + 1) := by rw [Hid, List.length_append, Hj.out]; rfl
   clear hg2 hd2 hO hB hbt
   go_wp2_with fail
   go_roundw
   case rel => exact ⟨k + 1, j + 1, cap2, _, l1 ++ [(k : Int)], by go_num, by omega, rfl, Hj2, by omega, hO2, hB2, HU2⟩
   case measure => simp [intOf]; omega
  obtain rfl : k = bl := by omega
  have hl : l1 = bitL s := by rw [Hu.out]; exact HLB.out
  have hj : j = (bitL s).length := by rw [← Hj.out, hl]
  have hS := hO.slice (T := fun k => w.heap.size ≤ k) IntR.good rfl (by simp only [maxLen]; omega) (fun _ h => h.elim) (fun _ h _ => h)
  rw [hl, hj] at hS
  have HS := Lib.hid hS
  have HJ := Lib.hid hj
  have HB := Lib.hid hB
  clear hl hj hS hO hB
  go_wp2
  go_ret
  exact ⟨⟨A', cap, by rw [← HJ.out]; rfl, HS.out⟩, HB.out⟩
end Go.Proofs.YtdbfincinjoppaaGreat
