/- A part of the proof that TopMoulds always answers true. -/
import Derived.Test.YtkpbchnggdnmaaaGreatCKLaw1
import Derived.Test.YtkpbchnggdnmaaaGreatCOrEx
import Derived.Test.YtkpbchnggdnmaaaGreatCOrTopP
set_option linter.all false
namespace Go.Proofs.YtkpbchnggdnmaaaGreat
open Go.RowKit Go.Shelf
def bitO (bits k : Nat) : Bool := decide (bits / 2 ^ k % 2 = 1)
def choO (bits : Nat) : Nat → List Int
 | 0 => []
 | k + 1 => if bitO bits k then choO bits k ++ [(k : Int)] else choO bits k
theorem choO_len (bits : Nat) : ∀ k, (choO bits k).length ≤ k
 | 0 => Nat.le_refl _
 | k + 1 => by
  have := choO_len bits k
  rw [choO]
  split
  ·rw [List.length_append]; simp; omega
  omega
theorem choO_ok (bits : Nat) : ∀ k, (∀ i ∈ choO bits k, 0 ≤ i ∧ i < (k : Int)) ∧ (choO bits k).Pairwise (· < ·)
 | 0 => ⟨fun i h => by simp [choO] at h, List.Pairwise.nil⟩
 | k + 1 => by
  obtain ⟨h1, h2⟩ := choO_ok bits k
  rw [choO]
  split
  ·refine ⟨fun i hi => ?_, List.pairwise_append.2 ⟨h2, List.pairwise_singleton _ _, fun a ha b hb => ?_⟩⟩
   ·rcases List.mem_append.1 hi with h | h
    ·have := h1 i h; omega
    rw [List.mem_singleton.1 h]; omega
   rw [List.mem_singleton.1 hb]; exact (h1 a ha).2
  exact ⟨fun i hi => by have := h1 i hi; omega, h2⟩
set_option maxRecDepth 100000 in
set_option maxHeartbeats 4000000 in
theorem ochosen_any {H P Q : Option Addr} {hn hc pn pc on oc bits : Nat} (w : World) (ho : on ≤ 8) (hb : bits < 256) :
  Calls Tryz.prog 9 #[.agg #[.slice H hn hc, .slice P pn pc, .slice Q on oc], .int .u8 bits] w fun e w' => (∃ A' n' c', e = .returned (.slice A' n' c') ∧ Ints (fun _ => True) w' A' n' (choO bits on)) ∧ Below w.heap.size w w' := by
 obtain ⟨i0, hi0, hz0, hz1, hz2⟩ := info_parts infoInt
 obtain ⟨gc, hgc⟩ : ∃ q, w.heap.size = q := ⟨_, rfl⟩
 obtain ⟨W, hW⟩ : ∃ W, w.alloc (.cells #[.slice H hn hc, .slice P pn pc, .slice Q on oc] 31) = W := ⟨_, rfl⟩
 have X : Blk W gc 31 #[.slice H hn hc, .slice P pn pc, .slice Q on oc] := by rw [← hW]; exact Blk.new _ _ _ hgc.symm
 have hBW : Below w.heap.size w W := by rw [← hW]; exact bl_alloc (Below.refl _ _) _ (Nat.le_refl _)
 have kk : Hid (∀ V, Below W.heap.size W V → V.cell? ⟨gc, 2, none⟩ = some (.slice Q on oc)) := fun V hb => (X.bl hb).cell 2
 have HBW : Hid (∀ V, Below W.heap.size W V → Below w.heap.size w V) := fun V hb => bl_call hBW hb (Nat.le_refl _)
 clear X hBW
 go_enter Tryz.func9, Tryz.ntmps9
 go_wp2_with fail
 clear hW
 go_loopw [5, 6] (fun o i wr => ∃ (k len cap : Nat) (An : Option Addr), k ≤ on ∧ i = .int .i64 k ∧ o = .slice An len cap ∧ Hid (Below W.heap.size W wr) ∧ Hid (OwnL IntR 1 (fun _ => False) wr W.heap.size 3 (.slice An len cap) (choO bits k)) ∧ Hid ((choO bits k).length = len)) (fun _ i _ => on - (intOf i).toNat)
 case atStart => exact ⟨0, 0, 0, none, Nat.zero_le _, rfl, rfl, Below.refl _ _, OwnL.nil _ _ _ _ _ _, rfl⟩
 case round =>
  obtain ⟨k, len, cap, An, hk, rfl, rfl, HB, HO, Hlen⟩ := hrel
  have hlen8 : len ≤ 8 := by have := choO_len bits k; rw [Hlen.out] at this; omega
  have x2 := kk.out wr HB.out
  by_cases hlt : k < on
  ·have hki : (k : Int) < on := by omega
   obtain ⟨qb, hqb⟩ : ∃ qb : Bool, bitO bits k = qb := ⟨_, rfl⟩
   have hqv : (((bits : Int) / 2 ^ k).tmod 2 == 1) = qb := by
    rw [show ((bits : Int) / 2 ^ k) = ((bits / 2 ^ k : Nat) : Int) by push_cast; rfl, ← hqb, bitO]
    generalize bits / 2 ^ k = x
    rw [Int.tmod_eq_emod_of_nonneg (Int.natCast_nonneg x)]
    have e2 : ((x : Int) % 2) = ((x % 2 : Nat) : Int) := rfl
    rw [e2]
    by_cases hh : x % 2 = 1
    ·simp [hh]
    have h0 : x % 2 = 0 := by omega
    simp [h0]
   have HSx : Hid (choO bits (k + 1) = if qb = true then choO bits k ++ [(k : Int)] else choO bits k) := by rw [Hid, choO, hqb]
   clear hqb
   cases qb with
   | true =>
    go_wp2_with (at_builtin; refine wpList_append_n _ rfl (.tmp 19) (.tmp 21) _ rfl IntR.good W.heap.size 3 i0 _ 8 Tryz.underlying27 hi0 hz0 hz1 hz2 rfl (by omega) _ (choO bits k) (k : Int) len Hlen.out rfl (HO.out.alloc IntR.good _) ⟨wr.heap.size, 0, none⟩ 1 [.int .i64 k] rfl rfl (news_new rfl rfl) ?c1 ?c2 ?c3 (fun h => h) ?_)
    case c1 => simp only [maxLen]; omega
    case c2 => omega
    case c3 => have := HB.out.size; simp; omega
    intro A' cap' w2 hown2 hg2 hat2
    have hB3 : Below W.heap.size W w2 := bl_grown (bl_alloc HB.out _ (Nat.le_refl _)) (HO.out.alloc IntR.good _) hg2 (Nat.le_refl _) (Nat.le_refl _)
    have HOW := Lib.hid hown2
    have HB3 := Lib.hid hB3
    clear hg2 hat2 hown2 hB3 x2
    go_wp2
    go_roundw
    case rel => exact ⟨k + 1, len + 1, cap', _, by omega, by go_num, rfl, HB3.out, by rw [HSx.out]; exact HOW.out, by rw [Hid, HSx.out, if_pos trivial, List.length_append, Hlen.out]; rfl⟩
    case measure => simp [intOf]; omega
   | false =>
    go_wp2_with fail
    go_roundw
    case rel => exact ⟨k + 1, len, cap, An, by omega, by go_num, rfl, HB.out, by rw [HSx.out]; exact HO.out, by rw [Hid, HSx.out]; exact Hlen.out⟩
    case measure => simp [intOf]; omega
  obtain rfl : k = on := by omega
  have HRES : Hid (Ints (fun _ => True) wr An len (choO bits k)) := HO.out.slice (T := fun _ => True) IntR.good rfl (by simp only [maxLen]; omega) (fun _ h => h.elim) (fun _ _ _ => trivial)
  go_wp2
  go_ret
  exact ⟨⟨An, len, cap, rfl, HRES.out⟩, HBW.out _ HB.out⟩
theorem ret_cast11 {fn : Func} {p : Tmp} (h : fn.results = #[.cell p 88]) {tmps : Array Value} {g : Nat} {lo hi : Int} {w : World} (hp : tmps.getD p undef = .pointer (some ⟨g, 0, none⟩))
  (h0 : w.cell? ⟨g, 0, none⟩ = some (.int .i64 lo)) (h1 : w.cell? ⟨g, 1, none⟩ = some (.int .i64 hi)) : (results fn tmps).run Tryz.prog w = .ok (.agg #[.int .i64 lo, .int .i64 hi]) w := by
 have hp' : tmps[p]?.getD undef = .pointer (some ⟨g, 0, none⟩) := by simpa using hp
 simp [results, h, hp', asAddr, go_sem, h0, h1]
theorem ocast38_any (a z : Int) (w : World) :
  Calls Tryz.prog 38 #[.int .i64 a, .int .i64 z] w fun e w' => e = .returned (.agg #[.int .i64 a, .int .i64 z]) ∧ Below w.heap.size w w' := by
 obtain ⟨W, hW⟩ : ∃ W, w.alloc (.cells #[.int .i64 0, .int .i64 0] 88) = W := ⟨_, rfl⟩
 have X : Blk W w.heap.size 88 #[.int .i64 0, .int .i64 0] := by rw [← hW]; exact Blk.new _ _ _ rfl
 have hBW : Below w.heap.size w W := by rw [← hW]; exact bl_alloc (Below.refl _ _) _ (Nat.le_refl _)
 have z0 := X.cell 0
 have z1 := X.cell 1
 have fz0 := X.frozen 0
 have fz1 := X.frozen 1
 have hl := X.lt
 go_enter Tryz.func38, Tryz.ntmps38
 go_wp2_with fail
 exact bodyPost_ret (ret_cast11 rfl rfl (X.set2 _ _).c0 (X.set2 _ _).c1) rfl ⟨rfl, bl_set (bl_set hBW (Nat.le_refl _) _) (Nat.le_refl _) _⟩
theorem ints_blk {w : World} {g n : Nat} {t : TypeId} {xs : List Int} (h : Blk w g t (xs.map (fun x => Value.int .i64 x)).toArray) (hl : xs.length = n) (hn : n ≤ maxLen) : Ints (fun _ => True) w (some ⟨g, 0, none⟩) n xs := by
 refine ⟨hl, hn, fun k x hx => ⟨g, 0, [.int .i64 x], rfl, trivial, h.lt, rfl, fun j u hu => ?_⟩⟩
 cases j with
 | succ j => simp at hu
 | zero =>
  simp at hu
  subst hu
  have := h.cell k
  simp only [Nat.zero_add, Nat.mul_one, Nat.add_zero]
  rw [this]
  simp [hx]
theorem parts_blk {w : World} {g : Nat} {t : TypeId} (h : Blk w g t #[.string ⟨#[104, 105, 108, 108]⟩, .int .i64 4, .int .i64 6, .int .i64 1, .string ⟨#[118, 97, 108, 101]⟩, .int .i64 2, .int .i64 5, .int .i64 0]) : Parts (fun _ => True) w (some ⟨g, 0, none⟩) 2 exShop11.parts := by
 refine ⟨rfl, by decide, fun k x hx => ?_⟩
 have hk := of_getq' hx
 have hk2 : k < 2 := hk
 rcases (show k = 0 ∨ k = 1 by omega) with rfl | rfl
 ·injection hx with hx
  subst hx
  refine ⟨g, 0, _, rfl, trivial, h.lt, ⟨⟨#[104, 105, 108, 108]⟩, rfl, rfl, by decide⟩, fun j u hu => ?_⟩
  have := h.cell (0 + 0 * 4 + j)
  refine this.trans ?_
  match j, hu with
  | 0, hu => simpa using hu
  | 1, hu => simpa using hu
  | 2, hu => simpa using hu
  | 3, hu => simpa using hu
  | j + 4, hu => simp at hu
 injection hx with hx
 subst hx
 refine ⟨g, 0, _, rfl, trivial, h.lt, ⟨⟨#[118, 97, 108, 101]⟩, rfl, rfl, by decide⟩, fun j u hu => ?_⟩
 have := h.cell (0 + 1 * 4 + j)
 refine this.trans ?_
 match j, hu with
 | 0, hu => simpa using hu
 | 1, hu => simpa using hu
 | 2, hu => simpa using hu
 | 3, hu => simpa using hu
 | j + 4, hu => simp at hu
theorem orders_blk {w : World} {g : Nat} {t : TypeId} (h : Blk w g t #[.int .i64 0, .int .i64 5, .int .i64 1, .int .i64 100, .int .i64 1, .int .i64 2, .int .i64 1, .int .i64 40, .int .i64 1, .int .i64 3, .int .i64 4, .int .i64 70, .int .i64 0, .int .i64 9, .int .i64 3, .int .i64 110]) : Ords11 (fun _ => True) w (some ⟨g, 0, none⟩) 4 exShop11.orders := by
 refine ⟨rfl, by decide, fun k x hx => ?_⟩
 have hk := of_getq' hx
 have hk2 : k < 4 := hk
 rcases (show k = 0 ∨ k = 1 ∨ k = 2 ∨ k = 3 by omega) with rfl | rfl | rfl | rfl
 all_goals
  injection hx with hx
  subst hx
  refine ⟨g, 0, _, rfl, trivial, h.lt, rfl, fun j u hu => ?_⟩
  refine (h.cell _).trans ?_
  match j, hu with
  | 0, hu => simpa using hu
  | 1, hu => simpa using hu
  | 2, hu => simpa using hu
  | 3, hu => simpa using hu
  | j + 4, hu => simp at hu
theorem ret_shop11 {fn : Func} {p : Tmp} (h : fn.results = #[.cell p 31]) {tmps : Array Value} {g : Nat} {v0 v1 v2 : Value} {w : World} (hp : tmps.getD p undef = .pointer (some ⟨g, 0, none⟩))
  (hB : Blk w g 31 #[v0, v1, v2]) : (results fn tmps).run Tryz.prog w = .ok (.agg #[v0, v1, v2]) w := by
 have hp' : tmps[p]?.getD undef = .pointer (some ⟨g, 0, none⟩) := by simpa using hp
 have h0 : w.cell? ⟨g, 0, none⟩ = some v0 := hB.cell 0
 have h1 : w.cell? ⟨g, 1, none⟩ = some v1 := hB.cell 1
 have h2 : w.cell? ⟨g, 2, none⟩ = some v2 := hB.cell 2
 simp [results, h, hp', asAddr, go_sem, h0, h1, h2]
set_option maxHeartbeats 1000000 in
theorem shop11_any (w : World) :
  Calls Tryz.prog 30 #[] w fun e w' => (∃ a b c : Addr, e = .returned (.agg #[.slice (some a) 5 5, .slice (some b) 2 2, .slice (some c) 4 4]) ∧ ShopO (fun _ => True) w' (some a) 5 (some b) 2 (some c) 4 exShop11) ∧ Below w.heap.size w w' := by
 obtain ⟨g, hg⟩ : ∃ q, w.heap.size = q := ⟨_, rfl⟩
 obtain ⟨W, hW⟩ : ∃ W, w.alloc (.cells #[.slice none 0 0, .slice none 0 0, .slice none 0 0] 31) = W := ⟨_, rfl⟩
 have X : Blk W g 31 #[.slice none 0 0, .slice none 0 0, .slice none 0 0] := by rw [← hW]; exact Blk.new _ _ _ hg.symm
 have hsW : W.heap.size = g + 1 := by rw [← hW]; simp [hg]
 have hBW : Below w.heap.size w W := by rw [← hW]; exact bl_alloc (Below.refl _ _) _ (Nat.le_refl _)
 obtain ⟨V, hV⟩ : ∃ V, ((W.alloc (.cells #[.int .i64 8, .int .i64 8, .int .i64 0, .int .i64 8, .int .i64 8] 3)).alloc (.cells #[.string ⟨#[104, 105, 108, 108]⟩, .int .i64 4, .int .i64 6, .int .i64 1, .string ⟨#[118, 97, 108, 101]⟩, .int .i64 2, .int .i64 5, .int .i64 0] 58)).alloc (.cells #[.int .i64 0, .int .i64 5, .int .i64 1, .int .i64 100, .int .i64 1, .int .i64 2, .int .i64 1, .int .i64 40, .int .i64 1, .int .i64 3, .int .i64 4, .int .i64 70, .int .i64 0, .int .i64 9, .int .i64 3, .int .i64 110] 61) = V := ⟨_, rfl⟩
 have b1 : Blk V (g + 1) 3 #[.int .i64 8, .int .i64 8, .int .i64 0, .int .i64 8, .int .i64 8] := by rw [← hV]; exact ((Blk.new _ _ _ hsW.symm).alloc _).alloc _
 have b2 : Blk V (g + 1 + 1) 58 #[.string ⟨#[104, 105, 108, 108]⟩, .int .i64 4, .int .i64 6, .int .i64 1, .string ⟨#[118, 97, 108, 101]⟩, .int .i64 2, .int .i64 5, .int .i64 0] := by rw [← hV]; exact (Blk.new _ _ _ (by simp [hsW])).alloc _
 have b3 : Blk V (g + 1 + 1 + 1) 61 #[.int .i64 0, .int .i64 5, .int .i64 1, .int .i64 100, .int .i64 1, .int .i64 2, .int .i64 1, .int .i64 40, .int .i64 1, .int .i64 3, .int .i64 4, .int .i64 70, .int .i64 0, .int .i64 9, .int .i64 3, .int .i64 110] := by rw [← hV]; exact Blk.new _ _ _ (by simp [hsW])
 have XV : Blk V g 31 #[.slice none 0 0, .slice none 0 0, .slice none 0 0] := by rw [← hV]; exact ((X.alloc _).alloc _).alloc _
 have hBV : Below w.heap.size w V := by rw [← hV]; exact bl_alloc (bl_alloc (bl_alloc hBW _ (Nat.le_refl _)) _ (Nat.le_refl _)) _ (Nat.le_refl _)
 have z0 := XV.cell 0
 have z1 := XV.cell 1
 have z2 := XV.cell 2
 have f0 := XV.frozen 0
 have f1 := XV.frozen 1
 have f2 := XV.frozen 2
 have hl := XV.lt
 have HB1 := Lib.hid b1
 have HB2 := Lib.hid b2
 have HB3 := Lib.hid b3
 have HX := Lib.hid XV
 have HBV := Lib.hid hBV
 clear X b1 b2 b3 XV hBW hBV
 go_enter Tryz.func30, Tryz.ntmps30
 go_wp2_with fail
 obtain ⟨VF, hVF⟩ : ∃ V', ((V.setCell ⟨g, 0, none⟩ (.slice (some ⟨g + 1, 0, none⟩) 5 5)).setCell ⟨g, 1, none⟩ (.slice (some ⟨g + 1 + 1, 0, none⟩) 2 2)).setCell ⟨g, 2, none⟩ (.slice (some ⟨g + 1 + 1 + 1, 0, none⟩) 4 4) = V' := ⟨_, rfl⟩
 have XF : Blk VF g 31 #[.slice (some ⟨g + 1, 0, none⟩) 5 5, .slice (some ⟨g + 1 + 1, 0, none⟩) 2 2, .slice (some ⟨g + 1 + 1 + 1, 0, none⟩) 4 4] := by rw [← hVF]; exact ((HX.out.set_ 0 _).set_ 1 _).set_ 2 _
 have hK : Kept (fun q => q = g) V VF := by rw [← hVF]; exact ((Kept.setCell (M := fun q => q = g) V ⟨g, 0, none⟩ _ rfl).trans (Kept.setCell _ ⟨g, 1, none⟩ _ rfl)).trans (Kept.setCell _ ⟨g, 2, none⟩ _ rfl)
 have hBF : Below w.heap.size w VF := HBV.out.trans (hK.below HBV.out.size (fun q h => by omega))
 have h1 : Blk VF (g + 1) _ _ := (hK.block (g + 1) (Blk.lt HB1.out) (by omega)).trans HB1.out
 have h2 : Blk VF (g + 1 + 1) _ _ := (hK.block (g + 1 + 1) (Blk.lt HB2.out) (by omega)).trans HB2.out
 have h3 : Blk VF (g + 1 + 1 + 1) _ _ := (hK.block (g + 1 + 1 + 1) (Blk.lt HB3.out) (by omega)).trans HB3.out
 rw [hVF]
 exact bodyPost_ret (ret_shop11 rfl rfl XF) rfl ⟨⟨_, _, _, rfl, ⟨ints_blk h1 rfl (by decide), parts_blk h2, orders_blk h3⟩⟩, hBF⟩
set_option maxHeartbeats 1000000 in
theorem osame_any {S T : Foot} {A B : Option Addr} {n c d : Nat} {xs : List (Int × Int)} (w : World) (h : Pairs S w A n xs) (g : Pairs T w B n xs) :
  Calls Tryz.prog 37 #[.slice A n c, .slice B n d] w fun e w' => e = .returned (.bool true) ∧ ∃ q, w' = w.drewN q := by
 have hle := h.le
 have gle := g.le
 have hb : ((n : Int) != (n : Int)) = false := by simp
 go_enter Tryz.func37, Tryz.ntmps37
 go_wp2
 go_loopw [5] (fun i wr => ∃ k : Nat, k ≤ n ∧ i = .int .i64 k ∧ ∃ q, wr = w.drewN q) (fun i _ => n - (intOf i).toNat)
 case atStart => exact ⟨0, Nat.zero_le _, rfl, 0, rfl⟩
 case round =>
  obtain ⟨k, hk, rfl, q, rfl⟩ := hrel
  by_cases hlt : k < n
  ·have hki : (k : Int) < n := by omega
   obtain ⟨b, off, x1, x2, rfl, _, hc0, hc1, Hx⟩ := Pairs.get h hlt
   obtain ⟨b', off', y1, y2, rfl, _, hd0, hd1, Hy⟩ := Pairs.get g hlt
   have e := Hx.out.symm.trans Hy.out
   injection e with e
   injection e with e1 e2
   subst e1 e2
   go_wp2
   go_quiet (fail)
   go_wp2
   go_roundw
   case rel => exact ⟨k + 1, by omega, by go_num, _, rfl⟩
   case measure => simp [intOf]; omega
  go_wp2
  go_ret
  exact ⟨rfl, _, rfl⟩
end Go.Proofs.YtkpbchnggdnmaaaGreat
