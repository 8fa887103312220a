/- A part of the proof that TopWorn always answers true. -/
import Derived.Test.YtdbfincinjoppabGreatDoorCKBase
import Derived.Test.YtdbfincinjoppabGreatDoorCKFit
import Derived.Test.YtdbfincinjoppabGreatDoorCKLaw1
import Derived.Test.YtdbfincinjoppabGreatDoorCKLaw4
import Derived.Test.YtdbfincinjoppabGreatDoorCLaw6
import Derived.Test.YtdbfincinjoppabGreatDoorCProg14
import Derived.Test.YtdbfincinjoppabGreatDoorCProg18
import Derived.Test.YtdbfincinjoppabGreatDoorCProg20
import Derived.Test.YtdbfincinjoppabGreatDoorCProg26
set_option linter.all false
namespace Go.Proofs.YtdbfincinjoppabGreatDoor
open Go.RowKit Go.Shelf
theorem in7_any (n lo hi : Int) (w : World) :
  Calls Tryz.prog 14 #[.int .i64 n, .int .i64 lo, .int .i64 hi] w fun e w' => e = .returned (.bool (inB n lo hi)) ∧ w = w' := by
 go_enter Tryz.func14, Tryz.ntmps14
 go_wp2
 all_goals
  go_ret
  exact ⟨ret_bool (by simp [inB, *]; try omega), rfl⟩
def narrowE (a z lo hi wide : Int) : Int := if rangeE ⟨a, z⟩ lo hi = 0 ∧ a + wide < z then 2 else rangeE ⟨a, z⟩ lo hi
theorem range_bd {a z lo hi : Int} (h : rangeE ⟨a, z⟩ lo hi = 0) : lo ≤ a ∧ a ≤ z ∧ z ≤ hi := by
 simp [rangeE, inB] at h; omega
set_option maxHeartbeats 1000000 in
theorem narrow7_any (a z lo hi wide : Int) (hl : 0 ≤ lo) (hh : hi ≤ 100000) (hw : 0 ≤ wide ∧ wide ≤ 100000) (w : World) :
  Calls Tryz.prog 13 #[.agg #[.int .i64 a, .int .i64 z], .int .i64 lo, .int .i64 hi, .int .i64 wide] w fun e w' => e = .returned (.int .i64 (narrowE a z lo hi wide)) ∧ Below w.heap.size w w' := by
 obtain ⟨W, hW⟩ : ∃ W, w.alloc (.cells #[.int .i64 a, .int .i64 z] 23) = W := ⟨_, rfl⟩
 have X : Blk W w.heap.size 23 #[.int .i64 a, .int .i64 z] := by rw [← hW]; exact Blk.new _ _ _ rfl
 have hBW : Below w.heap.size w W := by rw [← hW]; exact bl_alloc (Below.refl _ _) _ (Nat.le_refl _)
 have x0 := X.cell 0
 have x1 := X.cell 1
 have xl := X.lt
 go_enter Tryz.func13, Tryz.ntmps13
 go_wp2_with fail
 refine (range_any a z lo hi W).mono ?_
 rintro e W1 ⟨rfl, b1⟩
 have B1 := bl_call hBW b1 (Nat.le_refl _)
 have X1 := X.bl b1
 have y0 := X1.cell 0
 have y1 := X1.cell 1
 have yl := X1.lt
 obtain ⟨e0, he0⟩ : ∃ e0, rangeE ⟨a, z⟩ lo hi = e0 := ⟨_, rfl⟩
 rw [he0]
 have HE := Lib.hid he0
 clear x0 x1 xl X X1 hW
 by_cases hz : e0 = 0
 ·have hb := range_bd (he0.trans hz)
  have hwr : IntKind.i64.wrap (a + wide) = a + wide := by rw [IntKind.wrap_i64]; omega
  subst hz
  clear he0
  by_cases hg : a + wide < z
  ·have HR : Hid (narrowE a z lo hi wide = 2) := by rw [Hid, narrowE, HE.out, if_pos ⟨rfl, hg⟩]
   go_wp2_with fail
   go_ret
   exact ⟨by rw [HR.out]; rfl, B1⟩
  have HR : Hid (narrowE a z lo hi wide = 0) := by rw [Hid, narrowE, HE.out, if_neg (fun h => hg h.2)]
  go_wp2_with fail
  go_ret
  exact ⟨by rw [HR.out]; rfl, B1⟩
 have hzb : (e0 == 0) = false := by simpa using hz
 have HR : Hid (narrowE a z lo hi wide = e0) := by rw [Hid, narrowE, HE.out, if_neg (fun h => hz h.1)]
 clear he0
 go_wp2_with fail
 go_ret
 exact ⟨by rw [HR.out]; rfl, B1⟩
open Go.RowKit Go.Shelf
theorem narrow_form (a z lo hi wide : Int) : narrowE a z lo hi wide = if !inB a lo hi || !inB z lo hi then 7 else if !inB z a (a + wide) then 2 else 0 := by
 unfold narrowE rangeE
 dsimp only
 by_cases h1 : (!inB a lo hi || !inB z lo hi) = true
 ·rw [if_pos h1, if_pos h1, if_neg (fun h => by cases h.1)]
 rw [if_neg h1, if_neg h1]
 by_cases h2 : a > z
 ·rw [if_pos h2, if_neg (fun h => by cases h.1), if_pos (by simp [inB]; omega)]
 rw [if_neg h2]
 by_cases h3 : a + wide < z
 ·rw [if_pos ⟨rfl, h3⟩, if_pos (by simp [inB]; omega)]
 rw [if_neg (fun h => h3 h.2), if_neg (by simp [inB]; omega)]
def mouldS (x : Mould) (names : List (List UInt8)) : Int := if fresh x.name names ≠ 0 then fresh x.name names else mouldN x
theorem mouldN_form (x : Mould) : mouldN x = if narrowE x.slo x.shi 1 20000 12 = 7 ∨ narrowE x.wlo x.whi 0 20 3 = 7 ∨ inB x.casts 1 8 = false then 7 else if narrowE x.slo x.shi 1 20000 12 ≠ 0 then narrowE x.slo x.shi 1 20000 12 else narrowE x.wlo x.whi 0 20 3 := by
 rw [narrow_form, narrow_form, mouldN]
 cases inB x.slo 1 20000 <;> cases inB x.shi 1 20000 <;> cases inB x.wlo 0 20 <;> cases inB x.whi 0 20 <;> cases inB x.casts 1 8 <;> cases inB x.shi x.slo (x.slo + 12) <;> cases inB x.whi x.wlo (x.wlo + 3) <;> simp
set_option maxHeartbeats 1000000 in
theorem rmould_any {S : Foot} {A : Option Addr} {n c : Nat} {xs : List (List UInt8)} (s : ByteArray) (a z y u q : Int) (w : World) (h : Strs S w A n xs) (hs : s.size ≤ 9223372036854775807) :
  Calls Tryz.prog 15 #[.agg #[.string s, .int .i64 a, .int .i64 z, .int .i64 y, .int .i64 u, .int .i64 q], .slice A n c] w fun e w' => e = .returned (.int .i64 (mouldS ⟨s.data.toList, a, z, y, u, q⟩ xs)) ∧ Below w.heap.size w w' := by
 obtain ⟨W, hW⟩ : ∃ W, w.alloc (.cells #[.string s, .int .i64 a, .int .i64 z, .int .i64 y, .int .i64 u, .int .i64 q] 33) = W := ⟨_, rfl⟩
 have X : Blk W w.heap.size 33 #[.string s, .int .i64 a, .int .i64 z, .int .i64 y, .int .i64 u, .int .i64 q] := by rw [← hW]; exact Blk.new _ _ _ rfl
 have hr : Strs S W A n xs := by rw [← hW]; exact h.keep StrR.good (Keeps.alloc _ _)
 have hBW : Below w.heap.size w W := by rw [← hW]; exact bl_alloc (Below.refl _ _) _ (Nat.le_refl _)
 have HW := Lib.hid hW
 have x0 := X.cell 0
 have x1 := X.cell 1
 have x2 := X.cell 2
 have x3 := X.cell 3
 have x4 := X.cell 4
 have x5 := X.cell 5
 have xl := X.lt
 clear hW h
 go_enter Tryz.func15, Tryz.ntmps15
 go_wp2_with fail
 rw [HW.out]
 refine (fresh_any s _ hr hs).mono ?_
 rintro e w' ⟨rfl, rfl⟩
 obtain ⟨f0, hf0⟩ : ∃ f0, fresh s.data.toList xs = f0 := ⟨_, rfl⟩
 rw [hf0]
 by_cases hf : f0 = 0
 ·have hfb : (f0 != 0) = false := by rw [hf]; rfl
  have HE : Hid (mouldS ⟨s.data.toList, a, z, y, u, q⟩ xs = mouldN ⟨s.data.toList, a, z, y, u, q⟩) := by rw [Hid, mouldS]; dsimp only; rw [hf0, if_neg (by simp [hf])]
  clear hf0
  go_wp2_with fail
  refine (narrow7_any a z 1 20000 12 (by omega) (by omega) (by omega) W).mono ?_
  rintro e W1 ⟨rfl, b1⟩
  have B1 := bl_call hBW b1 (Nat.le_refl _)
  have X1 := X.bl b1
  have y3 := X1.cell 3
  have y4 := X1.cell 4
  have yl := X1.lt
  obtain ⟨s1, hs1⟩ : ∃ s1, narrowE a z 1 20000 12 = s1 := ⟨_, rfl⟩
  rw [hs1]
  have HS1 := Lib.hid hs1
  clear x0 x1 x2 x3 x4 x5 xl hs1
  go_wp2_with fail
  refine (narrow7_any y u 0 20 3 (by omega) (by omega) (by omega) W1).mono ?_
  rintro e W2 ⟨rfl, b2⟩
  have B2 := bl_call B1 b2 (Nat.le_refl _)
  have X2 := X1.bl b2
  have z5 := X2.cell 5
  have zl := X2.lt
  obtain ⟨s2, hs2⟩ : ∃ s2, narrowE y u 0 20 3 = s2 := ⟨_, rfl⟩
  rw [hs2]
  have HM : Hid (mouldS ⟨s.data.toList, a, z, y, u, q⟩ xs = if s1 = 7 ∨ s2 = 7 ∨ inB q 1 8 = false then 7 else if s1 ≠ 0 then s1 else s2) := by rw [Hid, HE.out, mouldN_form]; dsimp only; rw [HS1.out, hs2]
  clear hs2 y3 y4 yl X1 X2 HE
  by_cases h1 : s1 = 7
  ·have hb : (s1 == 7) = true := by rw [h1]; rfl
   have HR : Hid (mouldS ⟨s.data.toList, a, z, y, u, q⟩ xs = 7) := by rw [Hid, HM.out, if_pos (.inl h1)]
   go_wp2_with fail
   go_ret
   exact ⟨by rw [HR.out]; rfl, B2⟩
  have hb : (s1 == 7) = false := by simpa using h1
  by_cases h2 : s2 = 7
  ·have hb2 : (s2 == 7) = true := by rw [h2]; rfl
   have HR : Hid (mouldS ⟨s.data.toList, a, z, y, u, q⟩ xs = 7) := by rw [Hid, HM.out, if_pos (.inr (.inl h2))]
   go_wp2_with fail
   go_ret
   exact ⟨by rw [HR.out]; rfl, B2⟩
  have hb2 : (s2 == 7) = false := by simpa using h2
  have H1 := Lib.hid h1
  have H2 := Lib.hid h2
  clear h1 h2
  go_wp2_with fail
  refine (in7_any q 1 8 W2).mono ?_
  rintro e w' ⟨rfl, rfl⟩
  cases hq : inB q 1 8 with
  | false =>
   have HR : Hid (mouldS ⟨s.data.toList, a, z, y, u, q⟩ xs = 7) := by rw [Hid, HM.out, if_pos (.inr (.inr hq))]
   clear hq
   go_wp2_with fail
   go_ret
   exact ⟨by rw [HR.out]; rfl, B2⟩
  | true =>
   have HR : Hid (mouldS ⟨s.data.toList, a, z, y, u, q⟩ xs = if s1 ≠ 0 then s1 else s2) := by rw [Hid, HM.out, if_neg (by rw [hq]; simp; exact ⟨H1.out, H2.out⟩)]
   clear hq
   by_cases h3 : s1 = 0
   ·have hb3 : (s1 != 0) = false := by rw [h3]; rfl
    have HR2 : Hid (mouldS ⟨s.data.toList, a, z, y, u, q⟩ xs = s2) := by rw [Hid, HR.out, if_neg (by simp [h3])]
    go_wp2_with fail
    go_ret
    exact ⟨by rw [HR2.out]; rfl, B2⟩
   have hb3 : (s1 != 0) = true := by simpa using h3
   have HR2 : Hid (mouldS ⟨s.data.toList, a, z, y, u, q⟩ xs = s1) := by rw [Hid, HR.out, if_pos h3]
   go_wp2_with fail
   go_ret
   exact ⟨by rw [HR2.out]; rfl, B2⟩
 have hfb : (f0 != 0) = true := by simpa using hf
 have HR : Hid (mouldS ⟨s.data.toList, a, z, y, u, q⟩ xs = f0) := by rw [Hid, mouldS]; dsimp only; rw [hf0, if_pos hf]
 clear hf0
 go_wp2_with fail
 go_ret
 exact ⟨by rw [HR.out]; rfl, hBW⟩
open Go.RowKit Go.Shelf
theorem infoStr7 : (Tryz.prog.info? 9).map (fun i => (i.zero, i.size, i.bytes)) = some (some (.string ByteArray.empty), 1, 16) := by kernel_rfl
section
variable {s : Shop}
theorem c7_bad (h : narrowE s.klo s.khi 0 100 6 ≠ 0) : check7 s = (1, 0, narrowE s.klo s.khi 0 100 6) := by
 rw [narrow_form] at h ⊢
 unfold check7
 split
 ·rfl
 split
 ·rfl
 rename_i h1 h2
 rw [if_neg h1, if_neg h2] at h
 exact absurd rfl h
theorem c7_ok (h : narrowE s.klo s.khi 0 100 6 = 0) : check7 s = if ¬ (1 ≤ s.moulds.length ∧ s.moulds.length ≤ 4) then ((1, 0, 3) : Int × Int × Int) else match firstErr (mouldE s.moulds) s.moulds.length with
  | some (k, e) => (2, (k : Int), e)
  | none => (0, 0, 0) := by
 rw [narrow_form] at h
 unfold check7
 split
 ·rename_i h1; rw [if_pos h1] at h; cases h
 split
 ·rename_i h1 h2; rw [if_neg h1, if_pos h2] at h; cases h
 rfl
theorem mouldE_ref {l : List Mould} {k : Nat} {x : Mould} (h : l[k]? = some x) : mouldE l k = mouldS x ((l.take k).map (·.name)) := by
 unfold mouldE mouldS
 rw [getD_of h]
end
theorem upto7 {f : Nat → Int} {k : Nat} (h : ∀ j, j < k → f j = 0) (he : f k = 0) : ∀ j, j < k + 1 → f j = 0 := fun j hj => by
 by_cases e : j = k
 ·rw [e]; exact he
 exact h j (by omega)
set_option maxHeartbeats 4000000 in
set_option maxRecDepth 100000 in
theorem rcheck7_any {A : Option Addr} {n ca : Nat} {s : Shop} {klo khi : Int} (w : World) (g : Moulds (fun _ => True) w A n s.moulds) (h1 : s.klo = klo) (h2 : s.khi = khi) :
  Calls Tryz.prog 4 #[.agg #[.int .i64 klo, .int .i64 khi, .slice A n ca]] w fun e w' => e = .returned (.tuple #[.int .i64 (check7 s).1, .int .i64 (check7 s).2.1, .int .i64 (check7 s).2.2]) ∧ Below w.heap.size w w' := by
 have hle := g.le
 have Hn := Lib.hid g.len
 obtain ⟨i0, hi0, hz0, hz1, hz2⟩ := info_parts infoStr7
 obtain ⟨W, hW⟩ : ∃ W, w.alloc (.cells #[.int .i64 klo, .int .i64 khi, .slice A n ca] 26) = W := ⟨_, rfl⟩
 have X : Blk W w.heap.size 26 #[.int .i64 klo, .int .i64 khi, .slice A n ca] := by rw [← hW]; exact Blk.new _ _ _ rfl
 have hc : Moulds (fun _ => True) W A n s.moulds := by rw [← hW]; exact g.keep MouldR.good (Keeps.alloc _ _)
 have hBW : Below w.heap.size w W := by rw [← hW]; exact bl_alloc (Below.refl _ _) _ (Nat.le_refl _)
 have hWs : w.heap.size ≤ W.heap.size := hBW.size
 have HW := Lib.hid hW
 have HX := Lib.hid X
 clear hW g X
 subst h1 h2
 go_enter Tryz.func4, Tryz.ntmps4
 go_wp2_with fail
 rw [HW.out]
 refine (narrow7_any _ _ 0 100 6 (by omega) (by omega) (by omega) W).mono ?_
 rintro e W1 ⟨rfl, b1⟩
 obtain ⟨e0, he0⟩ : ∃ e0, narrowE s.klo s.khi 0 100 6 = e0 := ⟨_, rfl⟩
 rw [he0]
 have HE0 := Lib.hid he0
 have X1 := HX.out.bl b1
 have y2 := X1.cell 2
 have yl := X1.lt
 clear X1 he0
 by_cases hz : e0 = 0
 ·have C := Lib.hid (c7_ok (HE0.out.trans hz))
  subst hz
  go_wp2_with fail
  refine (in7_any (n : Int) 1 4 W1).mono ?_
  rintro e w' ⟨rfl, rfl⟩
  cases hin : inB (n : Int) 1 4 with
  | false =>
   have HC : Hid (check7 s = (1, 0, 3)) := by rw [Hid, C.out, if_pos (by rw [Hn.out]; simp [inB] at hin; omega)]
   clear hin
   go_wp2_with fail
   go_ret3
   exact ⟨by rw [HC.out]; rfl, hBW.trans (b1.mono hWs)⟩
  | true =>
   have hn4 : 1 ≤ n ∧ n ≤ 4 := by simp [inB] at hin; omega
   have D : Hid (check7 s = match firstErr (mouldE s.moulds) s.moulds.length with
    | some (k, e) => (2, (k : Int), e)
    | none => (0, 0, 0)) := by rw [Hid, C.out, if_neg (by rw [Hn.out]; omega)]
   clear hin C
   go_wp2_with fail
   clear y2 yl
   go_loopw [5, 6, 7] (fun _ nm i wr => ∃ (k cap : Nat) (An : Option Addr), k ≤ n ∧ i = .int .i64 k ∧ nm = .slice An k cap ∧ Below W.heap.size W wr ∧ (∃ nms, OwnL StrR 1 (fun _ => False) wr W.heap.size 9 (.slice An k cap) nms ∧ Hid (nms = (s.moulds.take k).map (·.name))) ∧ Hid (∀ j, j < k → mouldE s.moulds j = 0)) (fun _ _ i _ => n - (intOf i).toNat)
   case atStart => exact ⟨0, 0, none, Nat.zero_le _, rfl, rfl, b1, ⟨[], OwnL.nil _ _ _ _ _ _, rfl⟩, fun j h => by omega⟩
   case round =>
    clear b1
    obtain ⟨k, cap, An, hk, rfl, rfl, hB, ⟨nms, hO, Hnm⟩, Hz⟩ := hrel
    have hcr := hc.keep MouldR.good (Keeps.below hB)
    have X3 := HX.out.bl hB
    have y2 := X3.cell 2
    have yl := X3.lt
    clear X3
    have hkl : nms.length = k := by rw [Hnm.out, List.length_map, List.length_take, Hn.out]; omega
    have Hkl := Lib.hid hkl
    clear hkl
    by_cases hlt : k < n
    ·obtain ⟨b, off, sn, a, z, y, u, q, rfl, hbb, hc0, hc1, hc2, hc3, hc4, hc5, hs, Hx⟩ := Moulds.get hcr hlt
     have HE : Hid (mouldE s.moulds k = mouldS ⟨sn.data.toList, a, z, y, u, q⟩ nms) := by rw [Hid, Hnm.out]; exact mouldE_ref Hx.out
     have HL : Hid (∀ e, e ≠ 0 → mouldE s.moulds k = e → check7 s = (2, (k : Int), e)) := fun e he hh => by rw [D.out, firstErr_some (by rw [Hn.out]; exact hlt) Hz.out (by rw [hh]; exact he), hh]
     have hki : (k : Int) < n := by omega
     have hstr : Strs (fun _ => True) wr An k nms := hO.slice StrR.good rfl (by simp only [maxLen]; omega) (fun _ h => h.elim) (fun _ _ _ => trivial)
     go_wp2_with fail
     refine (rmould_any sn a z y u q _ hstr hs).mono ?_
     rintro e w1 ⟨rfl, hb1⟩
     generalize hfr : mouldS ⟨sn.data.toList, a, z, y, u, q⟩ nms = fr at HE ⊢
     have hB1 : Below W.heap.size W w1 := bl_call hB hb1 (Nat.le_refl _)
     have hO1 := hO.below StrR.good hb1
     have q0 := getc hb1 hc0
     have q3 := getc hb1 y2
     clear hfr hB hO hb1 hc0 hc1 hc2 hc3 hc4 hc5 y2 yl hstr hcr
     by_cases he : fr = 0
     ·obtain rfl : fr = 0 := he
      go_wp2_with (at_builtin; refine wpList_append_n _ rfl (.tmp 41) (.tmp 48) _ rfl StrR.good W.heap.size 9 i0 _ 16 Tryz.underlying62 hi0 hz0 hz1 hz2 rfl (by omega) _ nms sn.data.toList k Hkl.out rfl (hO1.alloc StrR.good _) ⟨w1.heap.size, 0, none⟩ 1 [.string sn] rfl ⟨sn, rfl, rfl, hs⟩ (news_new rfl (by simp)) ?c1 ?c2 ?c3 (fun h => h) ?_)
      case c1 => simp only [maxLen]; omega
      case c2 => omega
      case c3 => have := hB1.size; simp; omega
      intro A' cap' w2 hown2 hg2 hat2
      have hB2 : Below W.heap.size W w2 := bl_grown (bl_alloc hB1 _ (Nat.le_refl _)) (hO1.alloc StrR.good _) hg2 (Nat.le_refl _) (Nat.le_refl _)
      have Hnm2 : Hid (nms ++ [sn.data.toList] = (s.moulds.take (k + 1)).map (·.name)) := by rw [Hid, take_snoc_get Hx.out, List.map_append, Hnm.out]; rfl
      clear hg2 hat2 hO1 hB1 q0 q3
      go_wp2
      go_roundw
      case rel => exact ⟨k + 1, _, _, by omega, by go_num, rfl, hB2, ⟨_, hown2, Hnm2⟩, upto7 Hz.out HE.out⟩
      case measure => simp [intOf]; omega
     have hbe2 : (fr != 0) = true := by simpa using he
     have HC := Lib.hid (HL.out fr he HE.out)
     clear he
     go_wp2
     go_ret3
     exact ⟨by rw [HC.out]; rfl, hBW.trans (hB1.mono hWs)⟩
    obtain rfl : k = n := by omega
    have HC : Hid (check7 s = (0, 0, 0)) := by rw [Hid, D.out, firstErr_none (by rw [Hn.out]; exact Hz.out)]
    go_wp2
    go_ret3
    exact ⟨by rw [HC.out]; rfl, hBW.trans (hB.mono hWs)⟩
 have hzb : (e0 == 0) = false := by simpa using hz
 have hzb2 : (e0 != 0) = true := by simpa using hz
 have HC : Hid (check7 s = (1, 0, e0)) := by rw [Hid, c7_bad (by rw [HE0.out]; exact hz), HE0.out]
 go_wp2_with fail
 go_ret3
 exact ⟨by rw [HC.out]; rfl, hBW.trans (b1.mono hWs)⟩
open Go.RowKit Go.Shelf
noncomputable def wornLoop : Code := (Tryz.f3.body.bind firstLoopC).getD .skip
set_option maxRecDepth 100000 in
set_option maxHeartbeats 16000000 in
theorem worn_loop {w V8 V17 V25 : World} {gF gC gL : Nat} {CK : Option Addr} {nk : Nat} {sz wv la ct : Int} {y : Nat} {c0 c1 c3 c4 c5 c6 c7 c8 c9 c10 c12 c13 c14 c15 c17 c18 c19 c20 c21 c23 c25 c26 c27 c28 c29 c30 c31 c32 c33 c34 c35 c36 c37 c38 c39 c40 c41 c42 c43 c44 c45 c46 c47 c48 c49 c50 c51 c52 c53 c54 c55 c56 c57 c58 c59 c60 c61 c62 c63 c64 c65 c66 c67 c68 c69 c70 c71 c72 c73 c74 c75 c76 c77 c78 c79 c80 c81 c82 c83 c84 c85 c86 c87 c88 c89 c90 c91 c92 c93 c94 c95 c96 c97 c98 c99 c100 c101 c102 c103 c104 c105 c106 c107 c108 c109 c110 c111 c112 c113 c114 c115 c116 c117 c118 c119 c120 c121 c122 c123 c124 c125 c126 c127 c128 c129 c130 c131 c132 c133 c134 c135 c136 c137 c138 c139 c140 c141 c142 c143 c144 c145 c146 c147 c148 c149 c150 c151 c152 c153 c154 c155 c156 c157 c158 c159 c160 c161 c162 c163 c164 c165 c166 c167 c168 c169 c170 c171 c172 c173 c174 c175 c176 c177 c178 c179 c180 c181 c182 c183 c184 c185 c186 c187 c188 c189 c190 c191 c192 c193 c194 c195 c196 c197 c198 c199 c200 c201 c202 c203 c204 c205 c206 c207 c208 c209 c210 c211 c212 c213 c214 c215 c216 c217 c218 c219 c220 c221 c222 c223 c224 c225 c226 c227 c228 c229 c230 c231 c232 c233 c234 c235 c236 c237 c238 c239 c240 c241 c242 c243 c244 c245 c246 c247 c248 c249 c250 c251 c252 c253 c254 c255 c256 c257 c258 c259 c260 c261 : Value} {Q : Exit → Act → World → Prop} (hy : y < 256) (hszb : 1 ≤ sz ∧ sz ≤ 20000) (hwrb : 0 ≤ wv ∧ wv ≤ 20) (hctb : 1 ≤ ct ∧ ct ≤ 8) (hlab : sz ≤ la ∧ la ≤ 20200) (HLA : Hid (sz + wv * (ct - 1) = la)) (hgCL : gC < gL) (hC8 : V8.heap.size ≤ gC)
  (HTb : Hid (∀ V, Below w.heap.size w V → TabOk V)) (HwV : Hid (∀ V, Below V8.heap.size V8 V → Below w.heap.size w V))
  (HCL : Hid (∀ (V : World) (N : Option Addr) (sh : Int), Keeps (fun k => k ≠ gC) V17 V → Meass (fun _ => True) V N 1 [⟨0, sh⟩] → ClaimAt (fun _ => True) V (some ⟨gF, 0, none⟩) 1 CK nk N 1 (claimW sz wv ct sh)))
  (HB25 : Hid (Below V8.heap.size V8 V25)) (HKP25 : Hid (Keeps (fun k => k ≠ gC) V17 V25)) (HC25 : Hid (∃ v, Blk V25 gC 44 #[.slice (some ⟨gF, 0, none⟩) 1 1, .slice CK nk nk, v])) (HL25 : Hid (Blk V25 gL 23 #[.int .i64 la, .int .i64 la]))
  (hexit : ∀ (v6 v24 v25 v26 v27 v28 v29 v214 v215 v216 v217 v218 v219 v220 v221 v222 v223 v224 v225 v226 v227 v228 v229 v230 v231 v232 v233 v234 v235 v236 v237 v238 v239 v240 v241 v242 v243 v244 v245 v246 v247 v248 v249 v250 v251 v252 v253 v254 v255 v256 v257 : Value) (W : World), Hid (Below V8.heap.size V8 W) → Q (.exit 0) { tmps := List.toArray (c0 :: c1 :: .int .u8 y :: c3 :: c4 :: c5 :: v6 :: c7 :: c8 :: c9 :: c10 :: .int .i64 sz :: c12 :: c13 :: c14 :: c15 :: .pointer (some ⟨gC, 0, none⟩) :: c17 :: c18 :: c19 :: c20 :: c21 :: .pointer (some ⟨gL, 0, none⟩) :: c23 :: v24 :: v25 :: v26 :: v27 :: v28 :: v29 :: c30 :: c31 :: c32 :: c33 :: c34 :: c35 :: c36 :: c37 :: c38 :: c39 :: c40 :: c41 :: c42 :: c43 :: c44 :: c45 :: c46 :: c47 :: c48 :: c49 :: c50 :: c51 :: c52 :: c53 :: c54 :: c55 :: c56 :: c57 :: c58 :: c59 :: c60 :: c61 :: c62 :: c63 :: c64 :: c65 :: c66 :: c67 :: c68 :: c69 :: c70 :: c71 :: c72 :: c73 :: c74 :: c75 :: c76 :: c77 :: c78 :: c79 :: c80 :: c81 :: c82 :: c83 :: c84 :: c85 :: c86 :: c87 :: c88 :: c89 :: c90 :: c91 :: c92 :: c93 :: c94 :: c95 :: c96 :: c97 :: c98 :: c99 :: c100 :: c101 :: c102 :: c103 :: c104 :: c105 :: c106 :: c107 :: c108 :: c109 :: c110 :: c111 :: c112 :: c113 :: c114 :: c115 :: c116 :: c117 :: c118 :: c119 :: c120 :: c121 :: c122 :: c123 :: c124 :: c125 :: c126 :: c127 :: c128 :: c129 :: c130 :: c131 :: c132 :: c133 :: c134 :: c135 :: c136 :: c137 :: c138 :: c139 :: c140 :: c141 :: c142 :: c143 :: c144 :: c145 :: c146 :: c147 :: c148 :: c149 :: c150 :: c151 :: c152 :: c153 :: c154 :: c155 :: c156 :: c157 :: c158 :: c159 :: c160 :: c161 :: c162 :: c163 :: c164 :: c165 :: c166 :: c167 :: c168 :: c169 :: c170 :: c171 :: c172 :: c173 :: c174 :: c175 :: c176 :: c177 :: c178 :: c179 :: c180 :: c181 :: c182 :: c183 :: c184 :: c185 :: c186 :: c187 :: c188 :: c189 :: c190 :: c191 :: c192 :: c193 :: c194 :: c195 :: c196 :: c197 :: c198 :: c199 :: c200 :: c201 :: c202 :: c203 :: c204 :: c205 :: c206 :: c207 :: c208 :: c209 :: c210 :: c211 :: c212 :: c213 :: v214 :: v215 :: v216 :: v217 :: v218 :: v219 :: v220 :: v221 :: v222 :: v223 :: v224 :: v225 :: v226 :: v227 :: v228 :: v229 :: v230 :: v231 :: v232 :: v233 :: v234 :: v235 :: v236 :: v237 :: v238 :: v239 :: v240 :: v241 :: v242 :: v243 :: v244 :: v245 :: v246 :: v247 :: v248 :: v249 :: v250 :: v251 :: v252 :: v253 :: v254 :: v255 :: v256 :: v257 :: c258 :: c259 :: c260 :: c261 :: []), defers := [] } W) :
  Code.wp Tryz.prog (Code.loop wornLoop) Q { tmps := List.toArray (c0 :: c1 :: .int .u8 y :: c3 :: c4 :: c5 :: c6 :: c7 :: c8 :: c9 :: c10 :: .int .i64 sz :: c12 :: c13 :: c14 :: c15 :: .pointer (some ⟨gC, 0, none⟩) :: c17 :: c18 :: c19 :: c20 :: c21 :: .pointer (some ⟨gL, 0, none⟩) :: c23 :: .int .i64 0 :: c25 :: c26 :: c27 :: c28 :: c29 :: c30 :: c31 :: c32 :: c33 :: c34 :: c35 :: c36 :: c37 :: c38 :: c39 :: c40 :: c41 :: c42 :: c43 :: c44 :: c45 :: c46 :: c47 :: c48 :: c49 :: c50 :: c51 :: c52 :: c53 :: c54 :: c55 :: c56 :: c57 :: c58 :: c59 :: c60 :: c61 :: c62 :: c63 :: c64 :: c65 :: c66 :: c67 :: c68 :: c69 :: c70 :: c71 :: c72 :: c73 :: c74 :: c75 :: c76 :: c77 :: c78 :: c79 :: c80 :: c81 :: c82 :: c83 :: c84 :: c85 :: c86 :: c87 :: c88 :: c89 :: c90 :: c91 :: c92 :: c93 :: c94 :: c95 :: c96 :: c97 :: c98 :: c99 :: c100 :: c101 :: c102 :: c103 :: c104 :: c105 :: c106 :: c107 :: c108 :: c109 :: c110 :: c111 :: c112 :: c113 :: c114 :: c115 :: c116 :: c117 :: c118 :: c119 :: c120 :: c121 :: c122 :: c123 :: c124 :: c125 :: c126 :: c127 :: c128 :: c129 :: c130 :: c131 :: c132 :: c133 :: c134 :: c135 :: c136 :: c137 :: c138 :: c139 :: c140 :: c141 :: c142 :: c143 :: c144 :: c145 :: c146 :: c147 :: c148 :: c149 :: c150 :: c151 :: c152 :: c153 :: c154 :: c155 :: c156 :: c157 :: c158 :: c159 :: c160 :: c161 :: c162 :: c163 :: c164 :: c165 :: c166 :: c167 :: c168 :: c169 :: c170 :: c171 :: c172 :: c173 :: c174 :: c175 :: c176 :: c177 :: c178 :: c179 :: c180 :: c181 :: c182 :: c183 :: c184 :: c185 :: c186 :: c187 :: c188 :: c189 :: c190 :: c191 :: c192 :: c193 :: c194 :: c195 :: c196 :: c197 :: c198 :: c199 :: c200 :: c201 :: c202 :: c203 :: c204 :: c205 :: c206 :: c207 :: c208 :: c209 :: c210 :: c211 :: c212 :: c213 :: c214 :: c215 :: c216 :: c217 :: c218 :: c219 :: c220 :: c221 :: c222 :: c223 :: c224 :: c225 :: c226 :: c227 :: c228 :: c229 :: c230 :: c231 :: c232 :: c233 :: c234 :: c235 :: c236 :: c237 :: c238 :: c239 :: c240 :: c241 :: c242 :: c243 :: c244 :: c245 :: c246 :: c247 :: c248 :: c249 :: c250 :: c251 :: c252 :: c253 :: c254 :: c255 :: c256 :: c257 :: c258 :: c259 :: c260 :: c261 :: []), defers := [] } V25 := by
 have HEX := Lib.hid hexit
 clear hexit
 conv => arg 2; arg 1; whnf
 go_loopw [24] (fun i wr => ∃ j : Nat, j ≤ 2 ∧ i = .int .i64 j ∧ Hid (Below V8.heap.size V8 wr) ∧ Hid (Keeps (fun k => k ≠ gC) V25 wr) ∧ Hid (∃ v, Blk wr gC 44 #[.slice (some ⟨gF, 0, none⟩) 1 1, .slice CK nk nk, v])) (fun i _ => 2 - (intOf i).toNat)
 case atStart => exact ⟨0, by decide, rfl, HB25.out, Keeps.refl _ _, HC25.out⟩
 case round =>
  obtain ⟨j, hj, rfl, HBr, HKr, HCr⟩ := hrel
  obtain ⟨vm, C26⟩ := HCr.out
  have hL26 : Blk wr gL 23 #[.int .i64 la, .int .i64 la] := (HKr.out.block gL (show gL ≠ gC by omega) HL25.out.lt).trans HL25.out
  have l1 := hL26.cell 1
  have u0 := C26.cell 0
  have u1 := C26.cell 1
  have u2 := C26.cell 2
  have fu2 := C26.frozen 2
  have lu2 := C26.lt
  have ws1 : IntKind.i64.wrap (sz - 1) = sz - 1 := by rw [IntKind.wrap_i64]; omega
  have cy : IntKind.i64.wrap (y : Int) = y := by rw [IntKind.wrap_i64]; omega
  have wl1 : IntKind.i64.wrap (la + 1) = la + 1 := by rw [IntKind.wrap_i64]; omega
  rcases (show j = 0 ∨ j = 1 ∨ j = 2 by omega) with rfl | rfl | rfl
  ·obtain ⟨sh, hsh⟩ : ∃ q, sz - 1 - (y : Int) = q := ⟨_, rfl⟩
   have wsh : IntKind.i64.wrap sh = sh := by rw [IntKind.wrap_i64]; omega
   by_cases hneg : sh < 0
   ·go_wp2_with fail
    go_roundw
    case rel => exact ⟨1, by decide, by go_num, HBr.out, HKr.out, _, C26⟩
    case measure => simp [intOf]
   obtain ⟨gQ, hgQ⟩ : ∃ x, wr.heap.size = x := ⟨_, rfl⟩
   obtain ⟨V27, hV27⟩ : ∃ V, wr.alloc (.cells #[.int .i64 0, .int .i64 sh] 49) = V := ⟨_, rfl⟩
   have NgQ : Blk V27 gQ 49 #[.int .i64 0, .int .i64 sh] := by rw [← hV27]; exact Blk.new _ _ _ hgQ.symm
   have C27 : Blk V27 gC 44 #[.slice (some ⟨gF, 0, none⟩) 1 1, .slice CK nk nk, vm] := by rw [← hV27]; exact C26.alloc _
   have v0 := C27.cell 0
   have v1 := C27.cell 1
   have v2 := C27.cell 2
   have fv2 := C27.frozen 2
   have lv2 := C27.lt
   have hgQC : gC < gQ := by rw [← hgQ]; exact C26.lt
   obtain ⟨V28, hV28⟩ : ∃ V, V27.setCell ⟨gC, 2, none⟩ (.slice (some ⟨gQ, 0, none⟩) 1 1) = V := ⟨_, rfl⟩
   have C28 : Blk V28 gC 44 #[.slice (some ⟨gF, 0, none⟩) 1 1, .slice CK nk nk, .slice (some ⟨gQ, 0, none⟩) 1 1] := by rw [← hV28]; exact C27.set_ 2 _
   have Q28 : Blk V28 gQ 49 #[.int .i64 0, .int .i64 sh] := by rw [← hV28]; exact NgQ.far (by simp; omega) _
   have kp28 : Keeps (fun k => k ≠ gC) wr V28 := by rw [← hV28, ← hV27]; exact (Keeps.alloc _ _).trans (Keeps.setCell _ _ _ (by simp))
   have b28 : Below V8.heap.size V8 V28 := by rw [← hV28, ← hV27]; exact bl_set (bl_alloc HBr.out _ (Nat.le_refl _)) (by dsimp only; omega) _
   have w0 := C28.cell 0
   have w1 := C28.cell 1
   have w2 := C28.cell 2
   go_wp2_with fail
   clear v0 v1 v2 fv2 lv2 w0 w1 w2 l1 u0 u1 u2 fu2 lu2 hV27 hV28 hgQ NgQ C27 hL26
   obtain ⟨hse, hpl⟩ := wornSets hszb hwrb (k := ct) (s := sh) (by omega) (by omega) (by omega)
   refine (bsets_any V28 (HTb.out V28 (HwV.out V28 b28)) (HCL.out V28 _ sh (HKP25.out.trans (HKr.out.trans kp28)) (measW_blk Q28 trivial)) (Nat.le_refl _) (Nat.le_refl _)).mono ?_
   rw [hse]
   rintro e V29 ⟨A3, n3, k3, rfl, hA3, c29⟩
   dsimp only at hA3 ⊢
   obtain rfl : n3 = 0 := hA3.len.symm
   have C29 := C28.bl c29
   have w0 := C29.cell 0
   have w1 := C29.cell 1
   have w2 := C29.cell 2
   have b29 : Below V8.heap.size V8 V29 := bl_call b28 c29 (Nat.le_refl _)
   have kp29 : Keeps (fun k => k ≠ gC) wr V29 := kp28.trans (Keeps.below c29)
   have Q29 := Q28.bl c29
   clear hA3 c29
   go_wp2_with fail
   clear w0 w1 w2
   refine (bplainest_any V29 (HTb.out V29 (HwV.out V29 b29)) (HCL.out V29 _ sh (HKP25.out.trans (HKr.out.trans kp29)) (measW_blk Q29 trivial)) (Nat.le_refl _) (Nat.le_refl _)).mono ?_
   rw [hpl]
   rintro e V30 ⟨A4, n4, k4, rfl, hA4, c30⟩
   dsimp only at hA4 ⊢
   have b30 : Below V8.heap.size V8 V30 := bl_call b29 c30 (Nat.le_refl _)
   have kp30 : Keeps (fun k => k ≠ gC) V25 V30 := HKr.out.trans (kp29.trans (Keeps.below c30))
   have C30 := C29.bl c30
   clear hA4 c30
   go_wp2_with fail
   go_roundw
   case rel => exact ⟨1, by decide, by go_num, b30, kp30, _, C30⟩
   case measure => simp [intOf]
  ·obtain ⟨sh0, hsh0⟩ : ∃ q, sz - 1 - (y : Int) = q := ⟨_, rfl⟩
   have wsh0 : IntKind.i64.wrap sh0 = sh0 := by rw [IntKind.wrap_i64]; omega
   obtain ⟨sh, hsh⟩ : ∃ q, la + 1 + (y : Int) = q := ⟨_, rfl⟩
   have wsh : IntKind.i64.wrap sh = sh := by rw [IntKind.wrap_i64]; omega
   have hneg : ¬ sh < 0 := by omega
   obtain ⟨gQ, hgQ⟩ : ∃ x, wr.heap.size = x := ⟨_, rfl⟩
   obtain ⟨V27, hV27⟩ : ∃ V, wr.alloc (.cells #[.int .i64 0, .int .i64 sh] 49) = V := ⟨_, rfl⟩
   have NgQ : Blk V27 gQ 49 #[.int .i64 0, .int .i64 sh] := by rw [← hV27]; exact Blk.new _ _ _ hgQ.symm
   have C27 : Blk V27 gC 44 #[.slice (some ⟨gF, 0, none⟩) 1 1, .slice CK nk nk, vm] := by rw [← hV27]; exact C26.alloc _
   have v0 := C27.cell 0
   have v1 := C27.cell 1
   have v2 := C27.cell 2
   have fv2 := C27.frozen 2
   have lv2 := C27.lt
   have hgQC : gC < gQ := by rw [← hgQ]; exact C26.lt
   obtain ⟨V28, hV28⟩ : ∃ V, V27.setCell ⟨gC, 2, none⟩ (.slice (some ⟨gQ, 0, none⟩) 1 1) = V := ⟨_, rfl⟩
   have C28 : Blk V28 gC 44 #[.slice (some ⟨gF, 0, none⟩) 1 1, .slice CK nk nk, .slice (some ⟨gQ, 0, none⟩) 1 1] := by rw [← hV28]; exact C27.set_ 2 _
   have Q28 : Blk V28 gQ 49 #[.int .i64 0, .int .i64 sh] := by rw [← hV28]; exact NgQ.far (by simp; omega) _
   have kp28 : Keeps (fun k => k ≠ gC) wr V28 := by rw [← hV28, ← hV27]; exact (Keeps.alloc _ _).trans (Keeps.setCell _ _ _ (by simp))
   have b28 : Below V8.heap.size V8 V28 := by rw [← hV28, ← hV27]; exact bl_set (bl_alloc HBr.out _ (Nat.le_refl _)) (by dsimp only; omega) _
   have w0 := C28.cell 0
   have w1 := C28.cell 1
   have w2 := C28.cell 2
   go_wp2_with fail
   clear v0 v1 v2 fv2 lv2 w0 w1 w2 l1 u0 u1 u2 fu2 lu2 hV27 hV28 hgQ NgQ C27 hL26
   obtain ⟨hse, hpl⟩ := wornSets hszb hwrb (k := ct) (s := sh) (by omega) (by omega) (by right; rw [HLA.out]; omega)
   refine (bsets_any V28 (HTb.out V28 (HwV.out V28 b28)) (HCL.out V28 _ sh (HKP25.out.trans (HKr.out.trans kp28)) (measW_blk Q28 trivial)) (Nat.le_refl _) (Nat.le_refl _)).mono ?_
   rw [hse]
   rintro e V29 ⟨A3, n3, k3, rfl, hA3, c29⟩
   dsimp only at hA3 ⊢
   obtain rfl : n3 = 0 := hA3.len.symm
   have C29 := C28.bl c29
   have w0 := C29.cell 0
   have w1 := C29.cell 1
   have w2 := C29.cell 2
   have b29 : Below V8.heap.size V8 V29 := bl_call b28 c29 (Nat.le_refl _)
   have kp29 : Keeps (fun k => k ≠ gC) wr V29 := kp28.trans (Keeps.below c29)
   have Q29 := Q28.bl c29
   clear hA3 c29
   go_wp2_with fail
   clear w0 w1 w2
   refine (bplainest_any V29 (HTb.out V29 (HwV.out V29 b29)) (HCL.out V29 _ sh (HKP25.out.trans (HKr.out.trans kp29)) (measW_blk Q29 trivial)) (Nat.le_refl _) (Nat.le_refl _)).mono ?_
   rw [hpl]
   rintro e V30 ⟨A4, n4, k4, rfl, hA4, c30⟩
   dsimp only at hA4 ⊢
   have b30 : Below V8.heap.size V8 V30 := bl_call b29 c30 (Nat.le_refl _)
   have kp30 : Keeps (fun k => k ≠ gC) V25 V30 := HKr.out.trans (kp29.trans (Keeps.below c30))
   have C30 := C29.bl c30
   clear hA4 c30
   go_wp2_with fail
   go_roundw
   case rel => exact ⟨2, by decide, by go_num, b30, kp30, _, C30⟩
   case measure => simp [intOf]
  go_wp2_with fail
  exact HEX.out _ _ _ _ _ _ _ _ _ _ _ _ _ _ _ _ _ _ _ _ _ _ _ _ _ _ _ _ _ _ _ _ _ _ _ _ _ _ _ _ _ _ _ _ _ _ _ _ _ _ _ wr HBr.out
end Go.Proofs.YtdbfincinjoppabGreatDoor
