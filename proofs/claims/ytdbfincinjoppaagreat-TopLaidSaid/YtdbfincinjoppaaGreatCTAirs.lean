/- A part of the proof that TopLaid always answers true. -/
import Derived.Deep.OwnRows
import Derived.Test.YtdbfincinjoppaaGreatCKTrueP
import Derived.Test.YtdbfincinjoppaaGreatCRegion2
import Derived.Test.YtdbfincinjoppaaGreatCTBits
set_option linter.all false
namespace Go.Proofs.YtdbfincinjoppaaGreat
open Go.RowKit Go.Shelf
theorem airsR_bad {h : Hall} {l : List Seen} {row : Int} {tl : List Int} (e : asked8 h l row tl ≠ 0) : airsR h l row tl = ((0, 0), asked8 h l row tl) := by rw [airsR, if_pos e]
theorem airsR_ok {h : Hall} {l : List Seen} {r : Nat} {tl : List Int} (e : asked8 h l r tl = 0) : airsR h l r tl = match airsUpto h l r tl 41 with
 | none => ((0, 0), 8)
 | some g => (g, 0) := by rw [airsR, if_neg (by simp [e])]; rfl
theorem airs_no {h : Hall} {l : List Seen} {r j : Nat} {tl : List Int} (e : wrong8 h.most (at8 h l r tl j) ≠ 0) : airsUpto h l r tl (j + 1) = airsUpto h l r tl j := by rw [airsUpto, if_pos e]
theorem airs_first {h : Hall} {l : List Seen} {r j : Nat} {tl : List Int} (e : wrong8 h.most (at8 h l r tl j) = 0) (hn : airsUpto h l r tl j = none) : airsUpto h l r tl (j + 1) = some ((j : Int), (j : Int)) := by rw [airsUpto, if_neg (by simp [e]), hn]
theorem airs_next {h : Hall} {l : List Seen} {r j : Nat} {tl : List Int} {x y : Int} (e : wrong8 h.most (at8 h l r tl j) = 0) (hn : airsUpto h l r tl j = some (x, y)) : airsUpto h l r tl (j + 1) = some (x, (j : Int)) := by rw [airsUpto, if_neg (by simp [e]), hn]
theorem HBox.write {w w' : World} {gh : Nat} {A : Option Addr} {n ca : Nat} {B : Option Addr} {m cb : Nat} {C : Option Addr} {q cc : Nat} {h : Hall} {l : List Seen} (g : HBox w gh A n ca B m cb C q cc h l) {g8 : Nat} {t : TypeId} {x y : Value} (hY : Blk w g8 t #[x, y]) (hK : Kept (fun k => k = g8) w w') (hh : HallAt (fun _ => True) w' A n B m h) : HBox w' gh A n ca B m cb C q cc h l := by
 obtain ⟨⟨gm, gr, gc, h1, h2, h3, h4⟩, h5⟩ := g
 refine ⟨⟨gm, gr, gc, (hK.block _ h1.lt (fun e => ?_)).trans h1, (hK.block _ h2.lt (fun e => ?_)).trans h2, hK.cell h3 (fun e => ?_), h4.at (hK.block _ h4.lt (fun e => ?_))⟩, hh⟩
 ·subst e
  have := h1.symm.trans hY
  injection this with this
  injection this with this
  have := congrArg Array.size this
  simp at this
 ·subst e
  have := h2.symm.trans hY
  injection this with this
  injection this with this
  have := congrArg Array.size this
  simp at this
 ·dsimp only at e
  subst e
  have := hY.cell 2
  rw [h3] at this
  simp at this
 subst e
 have := Eq.trans h4.symm hY
 injection this with this
 cases this
set_option maxRecDepth 100000 in
set_option maxHeartbeats 1000000 in
theorem tairs_any {S : Foot} {A B C T : Option Addr} {n ca m cb q cc k c : Nat} {h : Hall} {l : List Seen} {alo ahi most : Int} {tl : List Int} (row : Int) (w : World) (g : HallAt (fun _ => True) w A n B m h) (gs : Seens (fun _ => True) w C q l) (ht : Ints S w T k tl) (hca : n ≤ ca) (h1 : h.alo = alo) (h2 : h.ahi = ahi) (h3 : h.most = most) :
  Calls Tryz.prog 37 #[.agg #[.int .i64 alo, .int .i64 ahi, .int .i64 most, .slice A n ca, .slice B m cb], .slice C q cc, .int .i64 row, .slice T k c] w fun e w' =>
   e = .returned (.tuple #[.agg #[.int .i64 (airsR h l row tl).1.1, .int .i64 (airsR h l row tl).1.2], .int .i64 (airsR h l row tl).2]) ∧ Below w.heap.size w w' := by
 obtain ⟨W, hW⟩ : ∃ W, (w.alloc (.cells #[.int .i64 alo, .int .i64 ahi, .int .i64 most, .slice A n ca, .slice B m cb] 30)).alloc (.cells #[.int .i64 0, .int .i64 0] 23) = W := ⟨_, rfl⟩
 have X8 : Blk W (w.heap.size + 1) 23 #[.int .i64 0, .int .i64 0] := by rw [← hW]; exact Blk.new _ _ _ (by simp)
 have hBW : Below w.heap.size w W := by rw [← hW]; exact bl_alloc (bl_alloc (Below.refl _ _) _ (Nat.le_refl _)) _ (Nat.le_refl _)
 have hc : HallAt (fun _ => True) W A n B m h := g.keep (Keeps.below hBW)
 have hs : Seens (fun _ => True) W C q l := gs.keep SeenR.good (Keeps.below hBW)
 have htW : Ints S W T k tl := ht.keep IntR.good (Keeps.below hBW)
 have hWs : w.heap.size ≤ W.heap.size := hBW.size
 have HW := Lib.hid hW
 have HGB := Lib.hid g.bound
 have Hn := Lib.hid hc.ts.len
 have Hm := Lib.hid hc.rs.len
 have Hk := Lib.hid ht.len
 clear hW g gs
 go_enter Tryz.func37, Tryz.ntmps37
 go_wp2_with fail
 rw [HW.out]
 refine (topen_any row W hc hs htW hca h1 h2 h3).mono ?_
 rintro e W1 ⟨b1, p, rfl, hbx⟩
 have B1 : Below w.heap.size w W1 := hBW.trans (b1.mono hWs)
 have Y1 := X8.bl b1
 clear X8
 by_cases he : asked8 h l row tl = 0
 ·obtain ⟨gh, rfl, hbox⟩ := hbx he
  obtain ⟨r, ha⟩ := asked_ok he Hn.out Hm.out
  have hrow := ha.row
  subst hrow
  have HR := Lib.hid (airsR_ok he)
  have htW1 := htW.keep IntR.good (Keeps.below b1)
  have HA := Lib.hid ha
  rw [he]
  have HBOX := Lib.hid hbox
  obtain ⟨g8, hg8⟩ : ∃ g8, w.heap.size + 1 = g8 := ⟨_, rfl⟩
  rw [hg8] at Y1 ⊢
  have HY1 := Lib.hid Y1
  have HB1 := Lib.hid B1
  have hyl := Y1.lt
  have hg8w : w.heap.size ≤ g8 := by omega
  clear he hbx ha hbox htW1 B1 Y1 hg8
  go_wp2_with fail
  go_loopw [11, 12, 25] (fun u11 _ i' wr => ∃ (j : Nat) (b : Bool) (x0 x1 : Int), i' = .int .i64 j ∧ j ≤ 41 ∧ u11 = .bool b ∧ Hid (Kept (fun x => x = g8) W1 wr) ∧ Hid (Blk wr g8 23 #[.int .i64 x0, .int .i64 x1]) ∧ Hid (airsUpto h l r tl j = if b then some (x0, x1) else none) ∧ Hid (b = false → x0 = 0 ∧ x1 = 0)) (fun _ _ i' _ => 41 - (intOf i').toNat)
  case atStart => exact ⟨0, false, 0, 0, rfl, by omega, rfl, Kept.refl _ _, HY1.out, rfl, fun _ => ⟨rfl, rfl⟩⟩
  case round =>
   obtain ⟨j, b, x0, x1, rfl, hj, rfl, HK, HB, HU, HZ⟩ := hrel
   have hKw : Keeps (fun x => True ∧ x < w.heap.size) w wr := (Keeps.below HB1.out).trans (HK.out.keeps (fun x hx e => by omega))
   have hhr : HallAt (fun _ => True) wr A n B m h := (HGB.out.keep hKw).mono (fun _ _ => trivial)
   have htr : Ints (fun x => S x ∧ x < w.heap.size) wr T k tl := (ht.bound IntR.good).keep IntR.good ⟨hKw.size, fun x hx hl => hKw.block x ⟨trivial, hx.2⟩ hl⟩
   have hbr := HBOX.out.write HY1.out HK.out hhr
   have hBw : Below w.heap.size w wr := HB1.out.trans (HK.out.below (B := w.heap.size) HB1.out.size (fun x hx => by omega))
   by_cases hlt : j < 41
   ·have hji : (j : Int) < 41 := by omega
    go_wp2_with fail
    refine (at_any wr hbr HA.out.ok HA.out.ag HA.out.lt htr (by rw [← Hk.out]; exact HA.out.k8) HA.out.tl (by omega)).mono ?_
    rintro e W2 ⟨rfl, b2⟩
    have hwhy := why_any (at8 h l r tl j).1 (at8 h l r tl j).2 W2 (hbr.keep b2)
    go_wp2_with fail
    refine hwhy.mono ?_
    rintro e W3 ⟨rfl, b3⟩
    have b23 : Below wr.heap.size wr W3 := bl_call b2 b3 (Nat.le_refl _)
    obtain ⟨v, hv⟩ : ∃ v, wrong8 h.most (at8 h l r tl j) = v := ⟨_, rfl⟩
    have HK3 : Hid (Kept (fun x => x = g8) W1 W3) := HK.out.trans (Kept.of_bl b23)
    have hB3 := HB.out.bl b23
    have HB3 := Lib.hid hB3
    have q0 := hB3.cell 0
    have q1 := hB3.cell 1
    have fq0 := hB3.frozen 0
    have fq1 := hB3.frozen 1
    have hgl := hB3.lt
    rw [show wrong8 h.most ((at8 h l r tl j).1, (at8 h l r tl j).2) = v from hv]
    have HV := Lib.hid hv
    clear hwhy hv b2 b3 b23 hbr htr hhr hKw hB3 hBw
    by_cases hz : v = 0
    ·have hzb : (v != 0) = false := by rw [hz]; rfl
     cases b
     ·have HN : Hid (airsUpto h l r tl (j + 1) = some ((j : Int), (j : Int))) := airs_first (by rw [HV.out, hz]) (by rw [HU.out]; rfl)
      clear hz
      go_wp2_with fail
      go_roundw
      case rel => exact ⟨j + 1, true, (j : Int), (j : Int), by go_num, by omega, rfl, (HK3.out.trans (Kept.setCell _ _ _ rfl)).trans (Kept.setCell _ _ _ rfl), (HB3.out.set_ 1 _).set_ 0 _, HN, fun h => by cases h⟩
      case measure => simp [intOf]; omega
     have HN : Hid (airsUpto h l r tl (j + 1) = some (x0, (j : Int))) := airs_next (y := x1) (by rw [HV.out, hz]) (by rw [HU.out]; rfl)
     clear hz
     go_wp2_with fail
     go_roundw
     case rel => exact ⟨j + 1, true, x0, (j : Int), by go_num, by omega, rfl, HK3.out.trans (Kept.setCell _ _ _ rfl), HB3.out.set_ 1 _, HN, fun h => by cases h⟩
     case measure => simp [intOf]; omega
    have hzb : (v != 0) = true := by simpa using hz
    have HN : Hid (airsUpto h l r tl (j + 1) = airsUpto h l r tl j) := airs_no (by rw [HV.out]; exact hz)
    clear hz
    go_wp2_with fail
    go_roundw
    case rel => exact ⟨j + 1, b, x0, x1, by go_num, by omega, rfl, HK3.out, HB3.out, HN.out.trans HU.out, HZ.out⟩
    case measure => simp [intOf]; omega
   obtain rfl : j = 41 := by omega
   have q0 := HB.out.cell 0
   have q1 := HB.out.cell 1
   have fq0 := HB.out.frozen 0
   have fq1 := HB.out.frozen 1
   have hgl := HB.out.lt
   have HBW := Lib.hid hBw
   clear hbr htr hhr hKw hBw
   cases b
   ·obtain ⟨rfl, rfl⟩ := HZ.out rfl
    have HRR : Hid (airsR h l r tl = ((0, 0), 8)) := by rw [Hid, HR.out, HU.out]; rfl
    go_wp2_with fail
    exact bodyPost_ret (ret_span rfl rfl rfl (HB.out.set2 _ _).c0 (HB.out.set2 _ _).c1) rfl ⟨by rw [HRR.out], bl_set (bl_set HBW.out (by dsimp only; omega) _) (by dsimp only; omega) _⟩
   have HRR : Hid (airsR h l r tl = ((x0, x1), 0)) := by rw [Hid, HR.out, HU.out]; rfl
   go_wp2_with fail
   exact bodyPost_ret (ret_span rfl rfl rfl (HB.out.set2 _ _).c0 (HB.out.set2 _ _).c1) rfl ⟨by rw [HRR.out], bl_set (bl_set HBW.out (by dsimp only; omega) _) (by dsimp only; omega) _⟩
 have HR := Lib.hid (airsR_bad he)
 have heb : (asked8 h l row tl != 0) = true := by simpa using he
 have y0 := Y1.cell 0
 have y1 := Y1.cell 1
 have fy0 := Y1.frozen 0
 have fy1 := Y1.frozen 1
 have hyl := Y1.lt
 clear he hbx
 go_wp2_with fail
 exact bodyPost_ret (ret_span rfl rfl rfl (Y1.set2 _ _).c0 (Y1.set2 _ _).c1) rfl ⟨by rw [HR.out], bl_set (bl_set B1 (by dsimp only; omega) _) (by dsimp only; omega) _⟩
open Go.RowKit Go.Shelf
set_option maxRecDepth 100000 in
set_option maxHeartbeats 1000000 in
theorem list_any (s : Nat) (w : World) (hs : s < 256) : Calls Tryz.prog 77 #[.int .i64 s] w fun e w' => (∃ A' c', e = .returned (.slice A' (bitL s).length c') ∧ Ints (fun k => w.heap.size ≤ k) w' A' (bitL s).length (bitL s)) ∧ Below w.heap.size w w' := by
 obtain ⟨i0, hi0, hz0, hz1, hz2⟩ := info_parts infoInt
 obtain ⟨hl8, hlb⟩ := len_bit s hs
 have hlen : Calls Tryz.prog 93 #[.int .u64 s] w fun e w' => e = .returned (.int .i64 (Lib.bitLen s)) ∧ w = w' := Calls.mono (Any.bits_Len Tryz.bitsLen s w (by omega) (by omega)) fun _ _ ⟨he, hw⟩ => ⟨he, hw.symm⟩
 obtain ⟨bl, hbl⟩ : ∃ bl, Lib.bitLen s = bl := ⟨_, rfl⟩
 rw [hbl] at hl8 hlb hlen
 have HLB := Lib.hid hlb
 have HLEN := Lib.hid hlen
 have hb8 := bitL_len s hs
 clear hbl hlen hlb
 go_enter Tryz.func77, Tryz.ntmps77
 go_wp2_with fail
 refine Calls.mono (f := 93) HLEN.out ?_
 rintro e w' ⟨rfl, rfl⟩
 go_wp2_with fail
 go_loopw [2, 3, 7] (fun v _ i' wr => ∃ (k j cap : Nat) (A' : Option Addr) (l1 : List Int), i' = .int .i64 k ∧ k ≤ bl ∧ v = .slice A' j cap ∧ Hid (l1.length = j) ∧ j ≤ k ∧ OwnL IntR 1 (fun _ => False) wr w.heap.size 3 (.slice A' j cap) l1 ∧ Below w.heap.size w wr ∧ Hid (l1 = bitU s k)) (fun _ _ i' _ => bl - (intOf i').toNat)
 case atStart => exact ⟨0, 0, 0, none, [], rfl, Nat.zero_le _, rfl, rfl, Nat.le_refl _, OwnL.nil _ _ _ _ _ _, Below.refl _ _, rfl⟩
 case round =>
  obtain ⟨k, j, cap, A', l1, rfl, hk, rfl, Hj, hjk, hO, hB, Hu⟩ := hrel
  by_cases hlt : k < bl
  ·have hki : (k : Int) < bl := by omega
   have hbt := bit_test s hs k (by omega)
   cases htb : s.testBit k
   ·rw [htb] at hbt
    have HU2 : Hid (l1 = bitU s (k + 1)) := by rw [Hid, bitU_succ, htb, Hu.out]; simp
    clear htb
    go_wp2_with fail
    go_roundw
    case rel => exact ⟨k + 1, j, cap, A', l1, by go_num, by omega, rfl, Hj.out, by omega, hO, hB, HU2⟩
    case measure => simp [intOf]; omega
   rw [htb] at hbt
   have HU2 : Hid (l1 ++ [(k : Int)] = bitU s (k + 1)) := by rw [Hid, bitU_succ, htb, Hu.out]; simp
   clear htb
   go_wp2_with (at_builtin; refine wpList_append_n _ rfl (.tmp 15) (.tmp 17) _ rfl IntR.good w.heap.size 3 i0 _ 8 Tryz.underlying47 hi0 hz0 hz1 hz2 rfl (by omega) _ l1 (k : Int) j Hj.out rfl (hO.alloc IntR.good _) ⟨_, 0, none⟩ 1 [.int .i64 k] rfl rfl (news_new rfl rfl) ?c1 ?c2 ?c3 (fun h => h) ?_)
   case c1 => simp only [maxLen]; omega
   case c2 => omega
   case c3 => have := hB.size; simp; omega
   intro A2 cap2 w2 hO2 hg2 _
   have hB2 : Below w.heap.size w w2 := bl_grown (bl_alloc hB _ (Nat.le_refl _)) (hO.alloc IntR.good _) hg2 (Nat.le_refl _) (Nat.le_refl _)
   have Hj2 : Hid ((l1 ++ [(k : Int)]).length = j + 1) := by rw [Hid, List.length_append, Hj.out]; rfl
   clear hg2 hO hB hbt
   go_wp2_with fail
   go_roundw
   case rel => exact ⟨k + 1, j + 1, cap2, _, l1 ++ [(k : Int)], by go_num, by omega, rfl, Hj2, by omega, hO2, hB2, HU2⟩
   case measure => simp [intOf]; omega
  obtain rfl : k = bl := by omega
  have hl : l1 = bitL s := by rw [Hu.out]; exact HLB.out
  have hj : j = (bitL s).length := by rw [← Hj.out, hl]
  have hS := hO.slice (T := fun k => w.heap.size ≤ k) IntR.good rfl (by simp only [maxLen]; omega) (fun _ h => h.elim) (fun _ h _ => h)
  rw [hl, hj] at hS
  have HS := Lib.hid hS
  have HJ := Lib.hid hj
  have HB := Lib.hid hB
  clear hl hj hS hO hB
  go_wp2
  go_ret
  exact ⟨⟨A', cap, by rw [← HJ.out]; rfl, HS.out⟩, HB.out⟩
open Go.RowKit Go.Shelf
theorem infoInts : (Tryz.prog.info? 47).map (fun i => (i.zero, i.size, i.bytes)) = some (some (.slice none 0 0), 1, 24) := by kernel_rfl
theorem infoSomes : (Tryz.prog.info? 169).map (fun i => (i.zero, i.size, i.bytes)) = some (some (.slice none 0 0), 1, 24) := by kernel_rfl
theorem infoSome : (Tryz.prog.info? 171).map (fun i => (i.zero, i.size, i.bytes)) = some (some (.agg #[.slice none 0 0, .int .i64 0, .int .i64 0]), 3, 40) := by kernel_rfl
theorem made_rep (z : Value) (n : Nat) : madeCells #[z] n = Array.replicate n z := by
 apply Array.ext
 ·simp [madeCells]
 intro i h1 h2
 simp [madeCells, Nat.mod_one]
def GrownT (S0 : Foot) (W0 : Nat) (base : Nat) (e : TypeId) (n : Nat) (xs : List (Nat × Int)) (own0 : Option Nat) (v : Value) (W : World) : Prop :=
 ∃ A cap S1, v = .slice (some ⟨A, 0, none⟩) n cap ∧ OwnL SomeR 3 S1 W base e v xs ∧ (∀ k, S1 k → S0 k ∨ (W0 ≤ k ∧ k < W.heap.size)) ∧ (∀ k, S0 k → S1 k) ∧ (own0 = some A ∨ W0 ≤ A)
theorem GrownT.keep {S0 : Foot} {W0 base : Nat} {e : TypeId} {n : Nat} {xs : List (Nat × Int)} {own0 : Option Nat} {v : Value} {W V : World} (h : GrownT S0 W0 base e n xs own0 v W) (hk : Kept (fun _ => False) W V) : GrownT S0 W0 base e n xs own0 v V := by
 obtain ⟨A, cap, S1, hv, hO, h1, h2, h3⟩ := h
 refine ⟨A, cap, S1, hv, hO.keep SomeR.good (hk.keeps (fun _ _ h => h)), fun k hk' => (h1 k hk').imp id (fun h => ⟨h.1, Nat.lt_of_lt_of_le h.2 hk.size⟩), h2, h3⟩
def IsListV (B : Nat) (s : Nat) (v : Value) (W : World) : Prop := ∃ A c, v = .slice A (bitL s).length c ∧ Ints (fun k => B ≤ k ∧ k < W.heap.size) W A (bitL s).length (bitL s)
theorem IsListV.keep {B s : Nat} {v : Value} {W V : World} {M : Foot} (h : IsListV B s v W) (hk : Kept M W V) (hM : ∀ k, M k → k < B) : IsListV B s v V := by
 obtain ⟨A, c, hv, hI⟩ := h
 refine ⟨A, c, hv, (hI.keep IntR.good (hk.keeps (fun k hk' hm => by have := hM k hm; omega))).mono IntR.good (fun k h => ⟨h.1, Nat.lt_of_lt_of_le h.2 hk.size⟩)⟩
def AggV (B : Nat) (s : Nat) (g : Int) (v : Value) (W : World) : Prop := ∃ u, v = .agg #[u, .int .i64 s, .int .i64 g] ∧ IsListV B s u W
def ElV (B : Nat) (s : Nat) (g : Int) (t : TypeId) (v : Value) (W : World) : Prop := ∃ b u, v = .slice (some ⟨b, 0, none⟩) 1 1 ∧ Blk W b t #[u, .int .i64 s, .int .i64 g] ∧ IsListV B s u W ∧ B ≤ b
def NewSp (B : Nat) (t : TypeId) (v : Value) (W : World) : Prop := ∃ g, v = .pointer (some ⟨g, 0, none⟩) ∧ Blk W g t #[.int .i64 0, .int .i64 0] ∧ B ≤ g
theorem fit_append {P : Program} {o : Oper} {a : Act} {K : Act → World → Prop} {Q : Exit → Act → World → Prop} (w : World) (hgd : o.guard = none) (s x : Operand) (t : TypeId)
  (ho : o.op = .call { callee := .builtin .append, args := #[s, x], argTypes := #[t, t] })
  (base : Nat) (e : TypeId) (hi : (P.info? e).map (fun i => (i.zero, i.size, i.bytes)) = some (some (.agg #[.slice none 0 0, .int .i64 0, .int .i64 0]), 3, 40)) (ht : P.underlying t = some (.slice e))
  (S0 : Foot) (B : Nat) (hSB : ∀ k, S0 k → k < B) (hbB : base ≤ B) (hBw : B ≤ w.heap.size)
  (v : Value) (xs : List (Nat × Int)) (n : Nat) (hn : xs.length = n) (hs : a.eval s = v) (hown : OwnL SomeR 3 S0 w base e v xs) (hvB : ∀ k, v.ownBlock = some k → k < B)
  (u : Value) (ss : Nat) (g : Int) (hx : a.eval x = u) (hu : ElV B ss g e u w) (h256 : n ≤ 255)
  (h : ∀ v' w', GrownT S0 B base e (n + 1) (xs ++ [(ss, g)]) v.ownBlock v' w' → w.grownBy w' v.ownBlock → K (a.put o.dst v') w') : o.wp P a w K Q := by
 obtain ⟨i0, hi0, hz0, hz1, hz2⟩ := info_parts hi
 obtain ⟨b, u1, rfl, hB, ⟨A, c, rfl, hI⟩, hbB'⟩ := hu
 have hO1 : OwnL SomeR 3 (fun k => S0 k ∨ (B ≤ k ∧ k < w.heap.size)) w base e v xs := by
  obtain ⟨h0, cells, hrow, hcells⟩ := hown
  refine ⟨fun k hk hk2 => ?_, cells, hrow, fun k y hy => ?_⟩
  ·rcases hk2 with h2 | h2
   ·exact h0 k hk h2
   have := hvB k hk; omega
  obtain ⟨vs, hR, hc⟩ := hcells k y hy
  exact ⟨vs, SomeR.good.mono hR (fun _ h => .inl h), hc⟩
 have hw : Region.wanted o (yielded #[] a.tmps) = true := by simp [Region.wanted, hgd]
 have := step_append_n (P := P) (ops := #[]) (o := o) (a := a) (K := K) (Q := Q) (E := True) w hgd s x t ho SomeR.good base e i0 _ 40 ht hi0 hz0 hz1 hz2 rfl (by omega) v xs (ss, g) n hn hs hO1 ⟨b, 0, none⟩ 1 [.slice A (bitL ss).length c, .int .i64 ss, .int .i64 g] hx
  ⟨A, _, c, rfl, hI.mono IntR.good (fun k h => .inr h)⟩ (fun j u hu => by
   have hadd : (⟨b, 0, none⟩ : Addr).add j = ⟨b, j, none⟩ := by unfold Addr.add; split <;> simp_all
   rw [hadd, hB.cell j]; simpa using hu) (by simp only [maxLen]; omega) (by omega) (by omega) (fun hh => by
   rcases hh with hh | hh
   ·have := hSB _ hh; omega
   omega) (fun A' cap' w' h1 h2 h3 => h _ w' ⟨A', cap', _, rfl, h1, fun k hk => hk.imp id (fun h => ⟨h.1, Nat.lt_of_lt_of_le h.2 h2.size⟩), fun k hk => .inl hk, h3.imp id (fun h => by omega)⟩ h2)
 rw [if_pos hw] at this
 exact this
end Go.Proofs.YtdbfincinjoppaaGreat
