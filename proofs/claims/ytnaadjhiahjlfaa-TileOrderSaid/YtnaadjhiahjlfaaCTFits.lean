/- Walks: the list of a set, and the count of its numbers. -/
import Derived.Shelf.Small.Bits
import Derived.Deep.OwnRows
import Derived.Test.YtnaadjhiahjlfaaCHelp1
import Derived.Test.YtnaadjhiahjlfaaCTAnsws
import Derived.Test.YtnaadjhiahjlfaaCTilePure2
set_option linter.unusedVariables false
set_option linter.unusedSimpArgs false
set_option linter.all false
namespace Go.Proofs
open Go.RowKit Go.Shelf
def Try.bitsLen_ren : Go.Shelf.Ren := ⟨fun | 125 => 128 | 128 => 145 | 129 => 146 | n => n, fun | 46 => 152 | 3 => 3 | 51 => 213 | 53 => 215 | 4 => 4 | 5 => 5 | 9 => 9 | n => n, fun n => n⟩
theorem Try.bitsLen : Lays.n125 Try.prog Try.bitsLen_ren where
  mixed := by kernel_rfl
  f125 := Try.func128.trans (congrArg some (by kernel_rfl))
  f128 := Try.func145.trans (congrArg some (by kernel_rfl))
  f129 := Try.func146.trans (congrArg some (by kernel_rfl))
  t3 := Try.underlying3
  a3 := Try.isAgg3
  z3 := Try.sizeOf3
  v3 := Try.zeroValue3
  t4 := Try.underlying4
  a4 := Try.isAgg4
  z4 := Try.sizeOf4
  v4 := Try.zeroValue4
  t5 := Try.underlying5
  a5 := Try.isAgg5
  z5 := Try.sizeOf5
  v5 := Try.zeroValue5
  t9 := Try.underlying9
  a9 := Try.isAgg9
  z9 := Try.sizeOf9
  v9 := Try.zeroValue9
  t46 := Try.underlying152
  a46 := Try.isAgg152
  z46 := Try.sizeOf152
  v46 := Try.zeroValue152
  t51 := Try.underlying213
  a51 := Try.isAgg213
  z51 := Try.sizeOf213
  v51 := Try.zeroValue213
  t53 := Try.underlying215
  a53 := Try.isAgg215
  z53 := Try.sizeOf215
  v53 := Try.zeroValue215
end Go.Proofs
namespace Go.Proofs.Ytnaadjhiahjlfaa
open Go.RowKit Go.Shelf

def bitU (s k : Nat) : List Int := ((List.range k).filter fun i => s.testBit i).map fun i : Nat => (i : Int)
/-- the numbers of a set -/
def bitL (s : Nat) : List Int := bitU s 8
def st1 (x : Int) : Int := IntKind.u64.wrap (bits BinOp.and IntKind.u64 (x / 2) 6148914691236517205 + bits BinOp.and IntKind.u64 x 6148914691236517205)
def st2 (x : Int) : Int := IntKind.u64.wrap (bits BinOp.and IntKind.u64 (x / 4) 3689348814741910323 + bits BinOp.and IntKind.u64 x 3689348814741910323)
def st3 (x : Int) : Int := bits BinOp.and IntKind.u64 (IntKind.u64.wrap (x / 16 + x)) 1085102592571150095
def st4 (x : Int) : Int := IntKind.u64.wrap (x + x / 256)
def st5 (x : Int) : Int := IntKind.u64.wrap (x + x / 65536)
def st6 (x : Int) : Int := IntKind.u64.wrap (x + x / 4294967296)
/-- what the count of ones reckons -/
def onesI (x : Int) : Int := bits BinOp.and IntKind.i64 (wrap64 (st6 (st5 (st4 (st3 (st2 (st1 x))))))) 127
theorem ones_bit : ∀ s : Nat, s < 256 → onesI s = (bitL s).length := by decide +kernel
theorem bitU_succ (s k : Nat) : bitU s (k + 1) = bitU s k ++ if s.testBit k then [(k : Int)] else [] := by
  unfold bitU; rw [List.range_succ, List.filter_append, List.map_append]
  cases h : s.testBit k <;> simp [h]
theorem len_bit : ∀ s : Nat, s < 256 → Lib.bitLen s ≤ 8 ∧ bitU s (Lib.bitLen s) = bitL s := by decide +kernel
theorem bit_test : ∀ s : Nat, s < 256 → ∀ k : Nat, k < 8 → (bits BinOp.and IntKind.i64 ((s : Int) / 2 ^ k) 1 == 1) = s.testBit k := by decide +kernel
theorem bitL_len : ∀ s : Nat, s < 256 → (bitL s).length ≤ 8 := by decide +kernel

set_option maxHeartbeats 1000000 in
theorem ones64_any (x : Nat) (w : World) : Calls Try.prog 130 #[.int .u64 x] w fun e w' => e = .returned (.int .i64 (onesI x)) ∧ w = w' := by
  go_enter Try.func130, Try.ntmps130
  go_wp2
  go_ret
  exact ⟨rfl, rfl⟩
theorem ones_any (s : Nat) (hs : s < 256) (w : World) : Calls Try.prog 89 #[.int .u64 s] w fun e w' => e = .returned (.int .i64 (bitL s).length) ∧ w = w' := by
  have h := ones64_any s w
  rw [ones_bit s hs] at h
  go_enter Try.func89, Try.ntmps89
  go_wp2_with (go_at_call 130; refine h.mono ?_; rintro e w' ⟨rfl, rfl⟩)
  go_ret
  exact ⟨rfl, rfl⟩

theorem infoInt : (Try.prog.info? 3).map (fun i => (i.zero, i.size, i.bytes)) = some (some (.int .i64 0), 1, 8) := by kernel_rfl
set_option maxRecDepth 100000 in
set_option maxHeartbeats 1000000 in
theorem list_any (s : Nat) (w : World) (hs : s < 256) : Calls Try.prog 107 #[.int .i64 s] w fun e w' => (∃ A' c', e = .returned (.slice A' (bitL s).length c') ∧ Ints (fun k => w.heap.size ≤ k) w' A' (bitL s).length (bitL s)) ∧ Below w.heap.size w w' := by
  obtain ⟨i0, hi0, hz0, hz1, hz2⟩ := info_parts infoInt
  obtain ⟨hl8, hlb⟩ := len_bit s hs
  have hlen : Calls Try.prog 128 #[.int .u64 s] w fun e w' => e = .returned (.int .i64 (Lib.bitLen s)) ∧ w = w' := Calls.mono (Any.bits_Len Try.bitsLen s w (by omega) (by omega)) fun _ _ ⟨he, hw⟩ => ⟨he, hw.symm⟩
  obtain ⟨bl, hbl⟩ : ∃ bl, Lib.bitLen s = bl := ⟨_, rfl⟩
  rw [hbl] at hl8 hlb hlen
  have HLB := Lib.hid hlb
  have HLEN := Lib.hid hlen
  have hb8 := bitL_len s hs
  clear hbl hlen hlb
  go_enter Try.func107, Try.ntmps107
  go_wp2_with fail
  refine Calls.mono (f := 128) HLEN.out ?_
  rintro e w' ⟨rfl, rfl⟩
  go_wp2_with fail
  go_loopw [2, 3, 7] (fun v _ i' wr => ∃ (k j cap : Nat) (A' : Option Addr) (l1 : List Int), i' = .int .i64 k ∧ k ≤ bl ∧ v = .slice A' j cap ∧ Hid (l1.length = j) ∧ j ≤ k ∧ OwnL IntR 1 (fun _ => False) wr w.heap.size 3 (.slice A' j cap) l1 ∧ Below w.heap.size w wr ∧ Hid (l1 = bitU s k)) (fun _ _ i' _ => bl - (intOf i').toNat)
  case atStart => exact ⟨0, 0, 0, none, [], rfl, Nat.zero_le _, rfl, rfl, Nat.le_refl _, OwnL.nil _ _ _ _ _ _, Below.refl _ _, rfl⟩
  case round =>
    obtain ⟨k, j, cap, A', l1, rfl, hk, rfl, Hj, hjk, hO, hB, Hu⟩ := hrel
    by_cases hlt : k < bl
    · have hki : (k : Int) < bl := by omega
      have hbt := bit_test s hs k (by omega)
      cases htb : s.testBit k
      · rw [htb] at hbt
        have HU2 : Hid (l1 = bitU s (k + 1)) := by rw [Hid, bitU_succ, htb, Hu.out]; simp
        clear htb
        go_wp2_with fail
        go_roundw
        case rel => exact ⟨k + 1, j, cap, A', l1, by go_num, by omega, rfl, Hj.out, by omega, hO, hB, HU2⟩
        case measure => simp [intOf]; omega
      · rw [htb] at hbt
        have HU2 : Hid (l1 ++ [(k : Int)] = bitU s (k + 1)) := by rw [Hid, bitU_succ, htb, Hu.out]; simp
        clear htb
        go_wp2_with (at_builtin; refine wpList_append_n _ rfl (.tmp 15) (.tmp 17) _ rfl IntR.good w.heap.size 3 i0 _ 8 Try.underlying56 hi0 hz0 hz1 hz2 rfl (by omega) _ l1 (k : Int) j Hj.out rfl (hO.alloc IntR.good _) ⟨_, 0, none⟩ 1 [.int .i64 k] rfl rfl (news_new rfl rfl) ?c1 ?c2 ?c3 (fun h => h) ?_)
        case c1 => simp only [maxLen]; omega
        case c2 => omega
        case c3 => have := hB.size; simp; omega
        intro A2 cap2 w2 hO2 hg2 _
        have hB2 : Below w.heap.size w w2 := bl_grown (bl_alloc hB _ (Nat.le_refl _)) (hO.alloc IntR.good _) hg2 (Nat.le_refl _) (Nat.le_refl _)
        have Hj2 : Hid ((l1 ++ [(k : Int)]).length = j + 1) := by rw [Hid, List.length_append, Hj.out]; rfl
        clear hg2 hO hB hbt
        go_wp2_with fail
        go_roundw
        case rel => exact ⟨k + 1, j + 1, cap2, _, l1 ++ [(k : Int)], by go_num, by omega, rfl, Hj2, by omega, hO2, hB2, HU2⟩
        case measure => simp [intOf]; omega
    · obtain rfl : k = bl := by omega
      have hl : l1 = bitL s := by rw [Hu.out]; exact HLB.out
      have hj : j = (bitL s).length := by rw [← Hj.out, hl]
      have hS := hO.slice (T := fun k => w.heap.size ≤ k) IntR.good rfl (by simp only [maxLen]; omega) (fun _ h => h.elim) (fun _ h _ => h)
      rw [hl, hj] at hS
      have HS := Lib.hid hS
      have HJ := Lib.hid hj
      have HB := Lib.hid hB
      clear hl hj hS hO hB
      go_wp2
      go_ret
      exact ⟨⟨A', cap, by rw [← HJ.out]; rfl, HS.out⟩, HB.out⟩

end Go.Proofs.Ytnaadjhiahjlfaa

namespace Go.Proofs.Ytnaadjhiahjlfaa
open Go.RowKit Go.Shelf

/-- what layings keeps of tiles that fit: their list, their set, the gap -/
def SomeR : Rd (Nat × Int) := fun S w x vs => ∃ A n c, vs = [.slice A n c, .int .i64 x.1, .int .i64 x.2] ∧ Ints S w A n (bitL x.1)
theorem SomeR.good : SomeR.Good 3 where
  len := by rintro S w x vs ⟨A, n, c, rfl, _⟩; rfl
  one := by rintro S w x vs ⟨A, n, c, rfl, _⟩ v hv; simp at hv; rcases hv with rfl | rfl | rfl <;> rfl
  keep := by rintro S w w' x vs ⟨A, n, c, rfl, h⟩ hk; exact ⟨A, n, c, rfl, h.keep IntR.good hk⟩
  mono := by rintro S T w x vs ⟨A, n, c, rfl, h⟩ hk; exact ⟨A, n, c, rfl, h.mono IntR.good hk⟩
  bound := by rintro S w x vs ⟨A, n, c, rfl, h⟩; exact ⟨A, n, c, rfl, h.bound IntR.good⟩

def fitsB (h : Hall) (l : List Seen) (row s : Nat) : Bool := decide ((bitL s).length = rowP h row) && (wrong8 h.most (gap8 h l row (bitL s)) == 0)
/-- the sets below k that fit a row, with their gap -/
def fitK (h : Hall) (l : List Seen) (row k : Nat) : List (Nat × Int) := ((List.range k).filter (fitsB h l row)).map fun s => (s, (gap8 h l row (bitL s)).2)
theorem fitK_yes {h : Hall} {l : List Seen} {row s : Nat} (e : fitsB h l row s = true) : fitK h l row (s + 1) = fitK h l row s ++ [(s, (gap8 h l row (bitL s)).2)] := by
  unfold fitK; rw [List.range_succ, List.filter_append, List.map_append]; simp [e]
theorem fitK_no {h : Hall} {l : List Seen} {row s : Nat} (e : fitsB h l row s = false) : fitK h l row (s + 1) = fitK h l row s := by
  unfold fitK; rw [List.range_succ, List.filter_append, List.map_append]; simp [e]
theorem fitK_len {h : Hall} {l : List Seen} {row s : Nat} : (fitK h l row s).length ≤ s := by
  unfold fitK; rw [List.length_map]; exact Nat.le_trans (List.length_filter_le _ _) (by simp)

def updL (f : Nat → List (Nat × Int)) (r : Nat) (x : List (Nat × Int)) : Nat → List (Nat × Int) := fun i => if i = r then x else f i

/-- the rows' lists in memory -/
structure FitSt (W : World) (base gF : Nat) (T0 e : TypeId) (m : Nat) (f : Nat → List (Nat × Int)) : Prop where
  lt : gF < base
  bs : base ≤ W.heap.size
  ex : ∃ (cs : Array Value) (S : Foot), Blk W gF T0 cs ∧ cs.size = m ∧ (∀ k, S k → base ≤ k ∧ k < W.heap.size) ∧ (∀ r, r < m → ∃ v, cs[r]? = some v ∧ OwnL SomeR 3 S W base e v (f r)) ∧
    (∀ (r r' : Nat) (v v' : Value) (k : Nat), r ≠ r' → cs[r]? = some v → cs[r']? = some v' → v.ownBlock = some k → v'.ownBlock ≠ some k)
theorem FitSt.keep {W W' : World} {base gF : Nat} {T0 e : TypeId} {m : Nat} {f : Nat → List (Nat × Int)} (h : FitSt W base gF T0 e m f) (hb : Below W.heap.size W W') : FitSt W' base gF T0 e m f := by
  obtain ⟨h1, h2, cs, S, hB, hs, hS, hr, hd⟩ := h
  refine ⟨h1, Nat.le_trans h2 hb.size, cs, S, hB.bl hb, hs, fun k hk => ⟨(hS k hk).1, Nat.lt_of_lt_of_le (hS k hk).2 hb.size⟩, fun r hr' => ?_, hd⟩
  obtain ⟨v, hv, hO⟩ := hr r hr'
  exact ⟨v, hv, hO.below SomeR.good hb⟩
theorem FitSt.congr {W : World} {base gF : Nat} {T0 e : TypeId} {m : Nat} {f g : Nat → List (Nat × Int)} (h : FitSt W base gF T0 e m f) (hfg : ∀ r, r < m → f r = g r) : FitSt W base gF T0 e m g := by
  obtain ⟨h1, h2, cs, S, hB, hs, hS, hr, hd⟩ := h
  refine ⟨h1, h2, cs, S, hB, hs, hS, fun r hr' => ?_, hd⟩
  rw [← hfg r hr']; exact hr r hr'
theorem FitSt.new {W : World} {base gF : Nat} {T0 e : TypeId} {m : Nat} (h1 : gF < base) (h2 : base ≤ W.heap.size) (hB : Blk W gF T0 (Array.replicate m (.slice none 0 0))) : FitSt W base gF T0 e m (fun _ => []) := by
  refine ⟨h1, h2, _, fun _ => False, hB, by simp, fun k h => h.elim, fun r hr => ⟨.slice none 0 0, by simp [hr], OwnL.nil _ _ _ _ _ _⟩, fun r r' v v' k _ hv _ hk => ?_⟩
  rw [Array.getElem?_replicate] at hv
  split at hv
  · injection hv with hv; subst hv; cases hk
  · cases hv
/-- the slice of a row, opened -/
structure RowOpen (W : World) (base gF : Nat) (T0 e : TypeId) (m : Nat) (f : Nat → List (Nat × Int)) (r : Nat) (v : Value) (S : Foot) : Prop where
  blk : ∃ cs, Blk W gF T0 cs
  cell : W.cell? ⟨gF, r, none⟩ = some v
  own : OwnL SomeR 3 S W base e v (f r)
  sb : ∀ k, S k → base ≤ k ∧ k < W.heap.size
  put : ∀ (W' : World) (v' : Value) (S1 : Foot) (x : List (Nat × Int)), Kept (fun j => v.ownBlock = some j) W W' → OwnL SomeR 3 S1 W' base e v' x → (∀ k, S1 k → S k ∨ (W.heap.size ≤ k ∧ k < W'.heap.size)) → (∀ k, S k → S1 k) →
    (v'.ownBlock = v.ownBlock ∨ ∀ k, v'.ownBlock = some k → W.heap.size ≤ k) → FitSt (W'.setCell ⟨gF, r, none⟩ v') base gF T0 e m (updL f r x)
theorem FitSt.open_ {W : World} {base gF : Nat} {T0 e : TypeId} {m : Nat} {f : Nat → List (Nat × Int)} (h : FitSt W base gF T0 e m f) {r : Nat} (hr : r < m) : ∃ v S, RowOpen W base gF T0 e m f r v S := by
  obtain ⟨h1, h2, cs, S, hB, hs, hS, hrs, hd⟩ := h
  obtain ⟨v, hv, hO⟩ := hrs r hr
  refine ⟨v, S, ⟨cs, hB⟩, (hB.cell r).trans hv, hO, hS, ?_⟩
  intro W' v' S1 x hK hO' hS1 hSS hown
  have hgF : ∀ k, v.ownBlock = some k → k ≠ gF := fun k hk e => by have := (hO.block k hk).1; omega
  have hB' : Blk W' gF T0 cs := (hK.block gF hB.lt (fun hk => hgF gF hk rfl)).trans hB
  have hS1b : ∀ k, S1 k → base ≤ k ∧ k < W'.heap.size := fun k hk => by
    have hsz := hK.size
    rcases hS1 k hk with h | h
    · have := hS k h; omega
    · omega
  have hset : ∀ {v'' : Value} {y : List (Nat × Int)}, OwnL SomeR 3 S1 W' base e v'' y → OwnL SomeR 3 S1 (W'.setCell ⟨gF, r, none⟩ v') base e v'' y := fun hO2 =>
    hO2.keep SomeR.good (Keeps.setCell _ _ _ (fun hk => by
      dsimp only at hk
      rcases hk with hk | hk
      · have := (hS1b _ hk).1; omega
      · have := (hO2.block _ hk).1; omega))
  refine ⟨h1, by have := hK.size; simp [World.setCell]; omega, cs.setIfInBounds r v', S1, hB'.set_ r v', by simp [hs], fun k hk => by have := hS1b k hk; simpa [World.setCell] using this, fun r' hr' => ?_, ?_⟩
  · by_cases e1 : r' = r
    · subst e1
      refine ⟨v', by rw [Array.getElem?_setIfInBounds_self_of_lt (by omega)], ?_⟩
      rw [updL, if_pos rfl]
      exact hset hO'
    · obtain ⟨u, hu, hOu⟩ := hrs r' hr'
      refine ⟨u, by rw [Array.getElem?_setIfInBounds_ne (fun h => e1 h.symm)]; exact hu, ?_⟩
      rw [updL, if_neg e1]
      refine hset ?_
      have hne : ∀ k, v.ownBlock = some k → u.ownBlock ≠ some k := fun k hk => hd r r' v u k (fun h => e1 h.symm) hv hu hk
      have hO1 : OwnL SomeR 3 S W' base e u (f r') := hOu.keep SomeR.good (hK.keeps (fun k hk hk2 => by
        rcases hk with hk | hk
        · exact hO.1 k hk2 hk
        · exact hne k hk2 hk))
      obtain ⟨_, cells, hrow, hcells⟩ := hO1
      refine ⟨fun k hk hk2 => ?_, cells, hrow, fun k y hy => ?_⟩
      · rcases hS1 k hk2 with h | h
        · exact hOu.1 k hk h
        · have := (hOu.block k hk).2; omega
      · obtain ⟨vs, hR, hc⟩ := hcells k y hy
        exact ⟨vs, SomeR.good.mono hR hSS, hc⟩
  · have hvb : ∀ r' u k, r' ≠ r → cs[r']? = some u → u.ownBlock = some k → v'.ownBlock ≠ some k := fun r' u k hne hu hk hk' => by
      have hlt : k < W.heap.size := by
        have hr'm : r' < m := by
          rw [← hs]
          exact (Array.getElem?_eq_some_iff.1 hu).1
        obtain ⟨u2, hu2, hOu⟩ := hrs r' hr'm
        rw [hu] at hu2
        injection hu2 with hu2
        subst hu2
        exact (hOu.block k hk).2
      rcases hown with h | h
      · rw [h] at hk'
        exact hd r r' v u k (fun h => hne h.symm) hv hu hk' hk
      · have := h k hk'; omega
    intro r1 r2 u1 u2 k hne hu1 hu2 hk
    by_cases e1 : r1 = r
    · subst e1
      rw [Array.getElem?_setIfInBounds_self_of_lt (by omega)] at hu1
      injection hu1 with hu1
      subst hu1
      rw [Array.getElem?_setIfInBounds_ne hne] at hu2
      intro hk2
      exact hvb r2 u2 k (fun h => hne h.symm) hu2 hk2 hk
    · rw [Array.getElem?_setIfInBounds_ne (fun h => e1 h.symm)] at hu1
      by_cases e2 : r2 = r
      · subst e2
        rw [Array.getElem?_setIfInBounds_self_of_lt (by omega)] at hu2
        injection hu2 with hu2
        subst hu2
        exact hvb r1 u1 k e1 hu1 hk
      · rw [Array.getElem?_setIfInBounds_ne (fun h => e2 h.symm)] at hu2
        exact hd r1 r2 u1 u2 k hne hu1 hu2 hk

end Go.Proofs.Ytnaadjhiahjlfaa

namespace Go.Proofs.Ytnaadjhiahjlfaa
open Go.RowKit Go.Shelf

theorem infoInts : (Try.prog.info? 56).map (fun i => (i.zero, i.size, i.bytes)) = some (some (.slice none 0 0), 1, 24) := by kernel_rfl
theorem infoSomes : (Try.prog.info? 182).map (fun i => (i.zero, i.size, i.bytes)) = some (some (.slice none 0 0), 1, 24) := by kernel_rfl
theorem infoSome : (Try.prog.info? 184).map (fun i => (i.zero, i.size, i.bytes)) = some (some (.agg #[.slice none 0 0, .int .i64 0, .int .i64 0]), 3, 40) := by kernel_rfl
theorem made_rep (z : Value) (n : Nat) : madeCells #[z] n = Array.replicate n z := by
  apply Array.ext
  · simp [madeCells]
  · intro i h1 h2
    simp [madeCells, Nat.mod_one]

/-- the row's slice, grown by one -/
def GrownT (S0 : Foot) (W0 : Nat) (base : Nat) (e : TypeId) (n : Nat) (xs : List (Nat × Int)) (own0 : Option Nat) (v : Value) (W : World) : Prop :=
  ∃ A cap S1, v = .slice (some ⟨A, 0, none⟩) n cap ∧ OwnL SomeR 3 S1 W base e v xs ∧ (∀ k, S1 k → S0 k ∨ (W0 ≤ k ∧ k < W.heap.size)) ∧ (∀ k, S0 k → S1 k) ∧ (own0 = some A ∨ W0 ≤ A)
theorem GrownT.keep {S0 : Foot} {W0 base : Nat} {e : TypeId} {n : Nat} {xs : List (Nat × Int)} {own0 : Option Nat} {v : Value} {W V : World} (h : GrownT S0 W0 base e n xs own0 v W) (hk : Kept (fun _ => False) W V) : GrownT S0 W0 base e n xs own0 v V := by
  obtain ⟨A, cap, S1, hv, hO, h1, h2, h3⟩ := h
  refine ⟨A, cap, S1, hv, hO.keep SomeR.good (hk.keeps (fun _ _ h => h)), fun k hk' => (h1 k hk').imp id (fun h => ⟨h.1, Nat.lt_of_lt_of_le h.2 hk.size⟩), h2, h3⟩
def IsListV (B : Nat) (s : Nat) (v : Value) (W : World) : Prop := ∃ A c, v = .slice A (bitL s).length c ∧ Ints (fun k => B ≤ k ∧ k < W.heap.size) W A (bitL s).length (bitL s)
theorem IsListV.keep {B s : Nat} {v : Value} {W V : World} {M : Foot} (h : IsListV B s v W) (hk : Kept M W V) (hM : ∀ k, M k → k < B) : IsListV B s v V := by
  obtain ⟨A, c, hv, hI⟩ := h
  refine ⟨A, c, hv, (hI.keep IntR.good (hk.keeps (fun k hk' hm => by have := hM k hm; omega))).mono IntR.good (fun k h => ⟨h.1, Nat.lt_of_lt_of_le h.2 hk.size⟩)⟩
/-- the element with its new list -/
def AggV (B : Nat) (s : Nat) (g : Int) (v : Value) (W : World) : Prop := ∃ u, v = .agg #[u, .int .i64 s, .int .i64 g] ∧ IsListV B s u W
def ElV (B : Nat) (s : Nat) (g : Int) (t : TypeId) (v : Value) (W : World) : Prop := ∃ b u, v = .slice (some ⟨b, 0, none⟩) 1 1 ∧ Blk W b t #[u, .int .i64 s, .int .i64 g] ∧ IsListV B s u W ∧ B ≤ b
def NewSp (B : Nat) (t : TypeId) (v : Value) (W : World) : Prop := ∃ g, v = .pointer (some ⟨g, 0, none⟩) ∧ Blk W g t #[.int .i64 0, .int .i64 0] ∧ B ≤ g

/-- the append of tiles that fit -/
theorem fit_append {P : Program} {o : Oper} {a : Act} {K : Act → World → Prop} {Q : Exit → Act → World → Prop} (w : World) (hgd : o.guard = none) (s x : Operand) (t : TypeId)
    (ho : o.op = .call { callee := .builtin .append, args := #[s, x], argTypes := #[t, t] })
    (base : Nat) (e : TypeId) (hi : (P.info? e).map (fun i => (i.zero, i.size, i.bytes)) = some (some (.agg #[.slice none 0 0, .int .i64 0, .int .i64 0]), 3, 40)) (ht : P.underlying t = some (.slice e))
    (S0 : Foot) (B : Nat) (hSB : ∀ k, S0 k → k < B) (hbB : base ≤ B) (hBw : B ≤ w.heap.size)
    (v : Value) (xs : List (Nat × Int)) (n : Nat) (hn : xs.length = n) (hs : a.eval s = v) (hown : OwnL SomeR 3 S0 w base e v xs) (hvB : ∀ k, v.ownBlock = some k → k < B)
    (u : Value) (ss : Nat) (g : Int) (hx : a.eval x = u) (hu : ElV B ss g e u w) (h256 : n ≤ 255)
    (h : ∀ v' w', GrownT S0 B base e (n + 1) (xs ++ [(ss, g)]) v.ownBlock v' w' → w.grownBy w' v.ownBlock → K (a.put o.dst v') w') : o.wp P a w K Q := by
  obtain ⟨i0, hi0, hz0, hz1, hz2⟩ := info_parts hi
  obtain ⟨b, u1, rfl, hB, ⟨A, c, rfl, hI⟩, hbB'⟩ := hu
  have hO1 : OwnL SomeR 3 (fun k => S0 k ∨ (B ≤ k ∧ k < w.heap.size)) w base e v xs := by
    obtain ⟨h0, cells, hrow, hcells⟩ := hown
    refine ⟨fun k hk hk2 => ?_, cells, hrow, fun k y hy => ?_⟩
    · rcases hk2 with h2 | h2
      · exact h0 k hk h2
      · have := hvB k hk; omega
    · obtain ⟨vs, hR, hc⟩ := hcells k y hy
      exact ⟨vs, SomeR.good.mono hR (fun _ h => .inl h), hc⟩
  have hw : Region.wanted o (yielded #[] a.tmps) = true := by simp [Region.wanted, hgd]
  have := step_append_n (P := P) (ops := #[]) (o := o) (a := a) (K := K) (Q := Q) (E := True) w hgd s x t ho SomeR.good base e i0 _ 40 ht hi0 hz0 hz1 hz2 rfl (by omega) v xs (ss, g) n hn hs hO1 ⟨b, 0, none⟩ 1 [.slice A (bitL ss).length c, .int .i64 ss, .int .i64 g] hx
    ⟨A, _, c, rfl, hI.mono IntR.good (fun k h => .inr h)⟩ (fun j u hu => by
      have hadd : (⟨b, 0, none⟩ : Addr).add j = ⟨b, j, none⟩ := by unfold Addr.add; split <;> simp_all
      rw [hadd, hB.cell j]; simpa using hu) (by simp only [maxLen]; omega) (by omega) (by omega) (fun hh => by
      rcases hh with hh | hh
      · have := hSB _ hh; omega
      · omega) (fun A' cap' w' h1 h2 h3 => h _ w' ⟨A', cap', _, rfl, h1, fun k hk => hk.imp id (fun h => ⟨h.1, Nat.lt_of_lt_of_le h.2 h2.size⟩), fun k hk => .inl hk, h3.imp id (fun h => by omega)⟩ h2)
  rw [if_pos hw] at this
  exact this

end Go.Proofs.Ytnaadjhiahjlfaa
