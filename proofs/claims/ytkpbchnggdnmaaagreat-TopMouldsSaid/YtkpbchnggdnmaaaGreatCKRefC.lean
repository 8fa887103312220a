/- A part of the proof that TopMoulds always answers true. -/
import Derived.Test.YtkpbchnggdnmaaaGreatCKLaw1
import Derived.Test.YtkpbchnggdnmaaaGreatCOrLate
set_option linter.all false
namespace Go.Proofs.YtkpbchnggdnmaaaGreat
open Go.RowKit Go.Shelf
theorem narrow_form (a z lo hi wide : Int) : narrowE a z lo hi wide = if !inB a lo hi || !inB z lo hi then 7 else if !inB z a (a + wide) then 2 else 0 := by
 unfold narrowE rangeE
 dsimp only
 by_cases h1 : (!inB a lo hi || !inB z lo hi) = true
 ·rw [if_pos h1, if_pos h1, if_neg (fun h => by cases h.1)]
 rw [if_neg h1, if_neg h1]
 by_cases h2 : a > z
 ·rw [if_pos h2, if_neg (fun h => by cases h.1), if_pos (by simp [inB]; omega)]
 rw [if_neg h2]
 by_cases h3 : a + wide < z
 ·rw [if_pos ⟨rfl, h3⟩, if_pos (by simp [inB]; omega)]
 rw [if_neg (fun h => h3 h.2), if_neg (by simp [inB]; omega)]
def mouldS (x : Mould) (names : List (List UInt8)) : Int := if fresh x.name names ≠ 0 then fresh x.name names else mouldN x
theorem mouldN_form (x : Mould) : mouldN x = if narrowE x.slo x.shi 1 20000 12 = 7 ∨ narrowE x.wlo x.whi 0 20 3 = 7 ∨ inB x.casts 1 8 = false then 7 else if narrowE x.slo x.shi 1 20000 12 ≠ 0 then narrowE x.slo x.shi 1 20000 12 else narrowE x.wlo x.whi 0 20 3 := by
 rw [narrow_form, narrow_form, mouldN]
 cases inB x.slo 1 20000 <;> cases inB x.shi 1 20000 <;> cases inB x.wlo 0 20 <;> cases inB x.whi 0 20 <;> cases inB x.casts 1 8 <;> cases inB x.shi x.slo (x.slo + 12) <;> cases inB x.whi x.wlo (x.wlo + 3) <;> simp
set_option maxHeartbeats 1000000 in
theorem rmould_any {S : Foot} {A : Option Addr} {n c : Nat} {xs : List (List UInt8)} (s : ByteArray) (a z y u q : Int) (w : World) (h : Strs S w A n xs) (hs : s.size ≤ 9223372036854775807) :
  Calls Tryz.prog 16 #[.agg #[.string s, .int .i64 a, .int .i64 z, .int .i64 y, .int .i64 u, .int .i64 q], .slice A n c] w fun e w' => e = .returned (.int .i64 (mouldS ⟨s.data.toList, a, z, y, u, q⟩ xs)) ∧ Below w.heap.size w w' := by
 obtain ⟨W, hW⟩ : ∃ W, w.alloc (.cells #[.string s, .int .i64 a, .int .i64 z, .int .i64 y, .int .i64 u, .int .i64 q] 44) = W := ⟨_, rfl⟩
 have X : Blk W w.heap.size 44 #[.string s, .int .i64 a, .int .i64 z, .int .i64 y, .int .i64 u, .int .i64 q] := by rw [← hW]; exact Blk.new _ _ _ rfl
 have hr : Strs S W A n xs := by rw [← hW]; exact h.keep StrR.good (Keeps.alloc _ _)
 have hBW : Below w.heap.size w W := by rw [← hW]; exact bl_alloc (Below.refl _ _) _ (Nat.le_refl _)
 have HW := Lib.hid hW
 have x0 := X.cell 0
 have x1 := X.cell 1
 have x2 := X.cell 2
 have x3 := X.cell 3
 have x4 := X.cell 4
 have x5 := X.cell 5
 have xl := X.lt
 clear hW h
 go_enter Tryz.func16, Tryz.ntmps16
 go_wp2_with fail
 rw [HW.out]
 refine (fresh_any s _ hr hs).mono ?_
 rintro e w' ⟨rfl, rfl⟩
 obtain ⟨f0, hf0⟩ : ∃ f0, fresh s.data.toList xs = f0 := ⟨_, rfl⟩
 rw [hf0]
 by_cases hf : f0 = 0
 ·have hfb : (f0 != 0) = false := by rw [hf]; rfl
  have HE : Hid (mouldS ⟨s.data.toList, a, z, y, u, q⟩ xs = mouldN ⟨s.data.toList, a, z, y, u, q⟩) := by rw [Hid, mouldS]; dsimp only; rw [hf0, if_neg (by simp [hf])]
  clear hf0
  go_wp2_with fail
  refine (narrow7_any a z 1 20000 12 (by omega) (by omega) (by omega) W).mono ?_
  rintro e W1 ⟨rfl, b1⟩
  have B1 := bl_call hBW b1 (Nat.le_refl _)
  have X1 := X.bl b1
  have y3 := X1.cell 3
  have y4 := X1.cell 4
  have yl := X1.lt
  obtain ⟨s1, hs1⟩ : ∃ s1, narrowE a z 1 20000 12 = s1 := ⟨_, rfl⟩
  rw [hs1]
  have HS1 := Lib.hid hs1
  clear x0 x1 x2 x3 x4 x5 xl hs1
  go_wp2_with fail
  refine (narrow7_any y u 0 20 3 (by omega) (by omega) (by omega) W1).mono ?_
  rintro e W2 ⟨rfl, b2⟩
  have B2 := bl_call B1 b2 (Nat.le_refl _)
  have X2 := X1.bl b2
  have z5 := X2.cell 5
  have zl := X2.lt
  obtain ⟨s2, hs2⟩ : ∃ s2, narrowE y u 0 20 3 = s2 := ⟨_, rfl⟩
  rw [hs2]
  have HM : Hid (mouldS ⟨s.data.toList, a, z, y, u, q⟩ xs = if s1 = 7 ∨ s2 = 7 ∨ inB q 1 8 = false then 7 else if s1 ≠ 0 then s1 else s2) := by rw [Hid, HE.out, mouldN_form]; dsimp only; rw [HS1.out, hs2]
  clear hs2 y3 y4 yl X1 X2 HE
  by_cases h1 : s1 = 7
  ·have hb : (s1 == 7) = true := by rw [h1]; rfl
   have HR : Hid (mouldS ⟨s.data.toList, a, z, y, u, q⟩ xs = 7) := by rw [Hid, HM.out, if_pos (.inl h1)]
   go_wp2_with fail
   go_ret
   exact ⟨by rw [HR.out]; rfl, B2⟩
  have hb : (s1 == 7) = false := by simpa using h1
  by_cases h2 : s2 = 7
  ·have hb2 : (s2 == 7) = true := by rw [h2]; rfl
   have HR : Hid (mouldS ⟨s.data.toList, a, z, y, u, q⟩ xs = 7) := by rw [Hid, HM.out, if_pos (.inr (.inl h2))]
   go_wp2_with fail
   go_ret
   exact ⟨by rw [HR.out]; rfl, B2⟩
  have hb2 : (s2 == 7) = false := by simpa using h2
  have H1 := Lib.hid h1
  have H2 := Lib.hid h2
  clear h1 h2
  go_wp2_with fail
  refine (in7_any q 1 8 W2).mono ?_
  rintro e w' ⟨rfl, rfl⟩
  cases hq : inB q 1 8 with
  | false =>
   have HR : Hid (mouldS ⟨s.data.toList, a, z, y, u, q⟩ xs = 7) := by rw [Hid, HM.out, if_pos (.inr (.inr hq))]
   clear hq
   go_wp2_with fail
   go_ret
   exact ⟨by rw [HR.out]; rfl, B2⟩
  | true =>
   have HR : Hid (mouldS ⟨s.data.toList, a, z, y, u, q⟩ xs = if s1 ≠ 0 then s1 else s2) := by rw [Hid, HM.out, if_neg (by rw [hq]; simp; exact ⟨H1.out, H2.out⟩)]
   clear hq
   by_cases h3 : s1 = 0
   ·have hb3 : (s1 != 0) = false := by rw [h3]; rfl
    have HR2 : Hid (mouldS ⟨s.data.toList, a, z, y, u, q⟩ xs = s2) := by rw [Hid, HR.out, if_neg (by simp [h3])]
    go_wp2_with fail
    go_ret
    exact ⟨by rw [HR2.out]; rfl, B2⟩
   have hb3 : (s1 != 0) = true := by simpa using h3
   have HR2 : Hid (mouldS ⟨s.data.toList, a, z, y, u, q⟩ xs = s1) := by rw [Hid, HR.out, if_pos h3]
   go_wp2_with fail
   go_ret
   exact ⟨by rw [HR2.out]; rfl, B2⟩
 have hfb : (f0 != 0) = true := by simpa using hf
 have HR : Hid (mouldS ⟨s.data.toList, a, z, y, u, q⟩ xs = f0) := by rw [Hid, mouldS]; dsimp only; rw [hf0, if_pos hf]
 clear hf0
 go_wp2_with fail
 go_ret
 exact ⟨by rw [HR.out]; rfl, hBW⟩
open Go.RowKit Go.Shelf
theorem infoStr7 : (Tryz.prog.info? 9).map (fun i => (i.zero, i.size, i.bytes)) = some (some (.string ByteArray.empty), 1, 16) := by kernel_rfl
section
variable {s : Shop}
theorem c7_bad (h : narrowE s.klo s.khi 0 100 6 ≠ 0) : check7 s = (1, 0, narrowE s.klo s.khi 0 100 6) := by
 rw [narrow_form] at h ⊢
 unfold check7
 split
 ·rfl
 split
 ·rfl
 rename_i h1 h2
 rw [if_neg h1, if_neg h2] at h
 exact absurd rfl h
theorem c7_ok (h : narrowE s.klo s.khi 0 100 6 = 0) : check7 s = if ¬ (1 ≤ s.moulds.length ∧ s.moulds.length ≤ 4) then ((1, 0, 3) : Int × Int × Int) else match firstErr (mouldE s.moulds) s.moulds.length with
  | some (k, e) => (2, (k : Int), e)
  | none => (0, 0, 0) := by
 rw [narrow_form] at h
 unfold check7
 split
 ·rename_i h1; rw [if_pos h1] at h; cases h
 split
 ·rename_i h1 h2; rw [if_neg h1, if_pos h2] at h; cases h
 rfl
theorem mouldE_ref {l : List Mould} {k : Nat} {x : Mould} (h : l[k]? = some x) : mouldE l k = mouldS x ((l.take k).map (·.name)) := by
 unfold mouldE mouldS
 rw [getD_of h]
end
theorem upto7 {f : Nat → Int} {k : Nat} (h : ∀ j, j < k → f j = 0) (he : f k = 0) : ∀ j, j < k + 1 → f j = 0 := fun j hj => by
 by_cases e : j = k
 ·rw [e]; exact he
 exact h j (by omega)
set_option maxHeartbeats 4000000 in
set_option maxRecDepth 100000 in
theorem rcheck7_any {A : Option Addr} {n ca : Nat} {s : Shop} {klo khi : Int} (w : World) (g : Moulds (fun _ => True) w A n s.moulds) (h1 : s.klo = klo) (h2 : s.khi = khi) :
  Calls Tryz.prog 4 #[.agg #[.int .i64 klo, .int .i64 khi, .slice A n ca]] w fun e w' => e = .returned (.tuple #[.int .i64 (check7 s).1, .int .i64 (check7 s).2.1, .int .i64 (check7 s).2.2]) ∧ Below w.heap.size w w' := by
 have hle := g.le
 have Hn := Lib.hid g.len
 obtain ⟨i0, hi0, hz0, hz1, hz2⟩ := info_parts infoStr7
 obtain ⟨W, hW⟩ : ∃ W, w.alloc (.cells #[.int .i64 klo, .int .i64 khi, .slice A n ca] 26) = W := ⟨_, rfl⟩
 have X : Blk W w.heap.size 26 #[.int .i64 klo, .int .i64 khi, .slice A n ca] := by rw [← hW]; exact Blk.new _ _ _ rfl
 have hc : Moulds (fun _ => True) W A n s.moulds := by rw [← hW]; exact g.keep MouldR.good (Keeps.alloc _ _)
 have hBW : Below w.heap.size w W := by rw [← hW]; exact bl_alloc (Below.refl _ _) _ (Nat.le_refl _)
 have hWs : w.heap.size ≤ W.heap.size := hBW.size
 have HW := Lib.hid hW
 have HX := Lib.hid X
 clear hW g X
 subst h1 h2
 go_enter Tryz.func4, Tryz.ntmps4
 go_wp2_with fail
 rw [HW.out]
 refine (narrow7_any _ _ 0 100 6 (by omega) (by omega) (by omega) W).mono ?_
 rintro e W1 ⟨rfl, b1⟩
 obtain ⟨e0, he0⟩ : ∃ e0, narrowE s.klo s.khi 0 100 6 = e0 := ⟨_, rfl⟩
 rw [he0]
 have HE0 := Lib.hid he0
 have X1 := HX.out.bl b1
 have y2 := X1.cell 2
 have yl := X1.lt
 clear X1 he0
 by_cases hz : e0 = 0
 ·have C := Lib.hid (c7_ok (HE0.out.trans hz))
  subst hz
  go_wp2_with fail
  refine (in7_any (n : Int) 1 4 W1).mono ?_
  rintro e w' ⟨rfl, rfl⟩
  cases hin : inB (n : Int) 1 4 with
  | false =>
   have HC : Hid (check7 s = (1, 0, 3)) := by rw [Hid, C.out, if_pos (by rw [Hn.out]; simp [inB] at hin; omega)]
   clear hin
   go_wp2_with fail
   go_ret3
   exact ⟨by rw [HC.out]; rfl, hBW.trans (b1.mono hWs)⟩
  | true =>
   have hn4 : 1 ≤ n ∧ n ≤ 4 := by simp [inB] at hin; omega
   have D : Hid (check7 s = match firstErr (mouldE s.moulds) s.moulds.length with
    | some (k, e) => (2, (k : Int), e)
    | none => (0, 0, 0)) := by rw [Hid, C.out, if_neg (by rw [Hn.out]; omega)]
   clear hin C
   go_wp2_with fail
   clear y2 yl
   go_loopw [5, 6, 7] (fun _ nm i wr => ∃ (k cap : Nat) (An : Option Addr), k ≤ n ∧ i = .int .i64 k ∧ nm = .slice An k cap ∧ Below W.heap.size W wr ∧ (∃ nms, OwnL StrR 1 (fun _ => False) wr W.heap.size 9 (.slice An k cap) nms ∧ Hid (nms = (s.moulds.take k).map (·.name))) ∧ Hid (∀ j, j < k → mouldE s.moulds j = 0)) (fun _ _ i _ => n - (intOf i).toNat)
   case atStart => exact ⟨0, 0, none, Nat.zero_le _, rfl, rfl, b1, ⟨[], OwnL.nil _ _ _ _ _ _, rfl⟩, fun j h => by omega⟩
   case round =>
    clear b1
    obtain ⟨k, cap, An, hk, rfl, rfl, hB, ⟨nms, hO, Hnm⟩, Hz⟩ := hrel
    have hcr := hc.keep MouldR.good (Keeps.below hB)
    have X3 := HX.out.bl hB
    have y2 := X3.cell 2
    have yl := X3.lt
    clear X3
    have hkl : nms.length = k := by rw [Hnm.out, List.length_map, List.length_take, Hn.out]; omega
    have Hkl := Lib.hid hkl
    clear hkl
    by_cases hlt : k < n
    ·obtain ⟨b, off, sn, a, z, y, u, q, rfl, hbb, hc0, hc1, hc2, hc3, hc4, hc5, hs, Hx⟩ := Moulds.get hcr hlt
     have HE : Hid (mouldE s.moulds k = mouldS ⟨sn.data.toList, a, z, y, u, q⟩ nms) := by rw [Hid, Hnm.out]; exact mouldE_ref Hx.out
     have HL : Hid (∀ e, e ≠ 0 → mouldE s.moulds k = e → check7 s = (2, (k : Int), e)) := fun e he hh => by rw [D.out, firstErr_some (by rw [Hn.out]; exact hlt) Hz.out (by rw [hh]; exact he), hh]
     have hki : (k : Int) < n := by omega
     have hstr : Strs (fun _ => True) wr An k nms := hO.slice StrR.good rfl (by simp only [maxLen]; omega) (fun _ h => h.elim) (fun _ _ _ => trivial)
     go_wp2_with fail
     refine (rmould_any sn a z y u q _ hstr hs).mono ?_
     rintro e w1 ⟨rfl, hb1⟩
     generalize hfr : mouldS ⟨sn.data.toList, a, z, y, u, q⟩ nms = fr at HE ⊢
     have hB1 : Below W.heap.size W w1 := bl_call hB hb1 (Nat.le_refl _)
     have hO1 := hO.below StrR.good hb1
     have q0 := getc hb1 hc0
     have q3 := getc hb1 y2
     clear hfr hB hO hb1 hc0 hc1 hc2 hc3 hc4 hc5 y2 yl hstr hcr
     by_cases he : fr = 0
     ·obtain rfl : fr = 0 := he
      go_wp2_with (at_builtin; refine wpList_append_n _ rfl (.tmp 41) (.tmp 48) _ rfl StrR.good W.heap.size 9 i0 _ 16 Tryz.underlying55 hi0 hz0 hz1 hz2 rfl (by omega) _ nms sn.data.toList k Hkl.out rfl (hO1.alloc StrR.good _) ⟨w1.heap.size, 0, none⟩ 1 [.string sn] rfl ⟨sn, rfl, rfl, hs⟩ (news_new rfl (by simp)) ?c1 ?c2 ?c3 (fun h => h) ?_)
      case c1 => simp only [maxLen]; omega
      case c2 => omega
      case c3 => have := hB1.size; simp; omega
      intro A' cap' w2 hown2 hg2 hat2
      have hB2 : Below W.heap.size W w2 := bl_grown (bl_alloc hB1 _ (Nat.le_refl _)) (hO1.alloc StrR.good _) hg2 (Nat.le_refl _) (Nat.le_refl _)
      have Hnm2 : Hid (nms ++ [sn.data.toList] = (s.moulds.take (k + 1)).map (·.name)) := by rw [Hid, take_snoc_get Hx.out, List.map_append, Hnm.out]; rfl
      clear hg2 hat2 hO1 hB1 q0 q3
      go_wp2
      go_roundw
      case rel => exact ⟨k + 1, _, _, by omega, by go_num, rfl, hB2, ⟨_, hown2, Hnm2⟩, upto7 Hz.out HE.out⟩
      case measure => simp [intOf]; omega
     have hbe2 : (fr != 0) = true := by simpa using he
     have HC := Lib.hid (HL.out fr he HE.out)
     clear he
     go_wp2
     go_ret3
     exact ⟨by rw [HC.out]; rfl, hBW.trans (hB1.mono hWs)⟩
    obtain rfl : k = n := by omega
    have HC : Hid (check7 s = (0, 0, 0)) := by rw [Hid, D.out, firstErr_none (by rw [Hn.out]; exact Hz.out)]
    go_wp2
    go_ret3
    exact ⟨by rw [HC.out]; rfl, hBW.trans (hB.mono hWs)⟩
 have hzb : (e0 == 0) = false := by simpa using hz
 have hzb2 : (e0 != 0) = true := by simpa using hz
 have HC : Hid (check7 s = (1, 0, e0)) := by rw [Hid, c7_bad (by rw [HE0.out]; exact hz), HE0.out]
 go_wp2_with fail
 go_ret3
 exact ⟨by rw [HC.out]; rfl, hBW.trans (b1.mono hWs)⟩
open Go.RowKit Go.Shelf
set_option maxHeartbeats 2000000 in
set_option maxRecDepth 100000 in
theorem rthere7_any {A : Option Addr} {n ca : Nat} {s : Shop} {klo khi : Int} (m c : Int) (hok : OkS s) (w : World) (g : Moulds (fun _ => True) w A n s.moulds) :
  Calls Tryz.prog 12 #[.agg #[.int .i64 klo, .int .i64 khi, .slice A n ca], .agg #[.int .i64 m, .int .i64 c]] w fun e w' => e = .returned (.bool (there7 s m c)) ∧ Below w.heap.size w w' := by
 obtain ⟨W, hW⟩ : ∃ W, (w.alloc (.cells #[.int .i64 klo, .int .i64 khi, .slice A n ca] 26)).alloc (.cells #[.int .i64 m, .int .i64 c] 50) = W := ⟨_, rfl⟩
 have X : Blk W w.heap.size 26 #[.int .i64 klo, .int .i64 khi, .slice A n ca] := by rw [← hW]; exact (Blk.new _ _ _ rfl).alloc _
 have Y : Blk W (w.heap.size + 1) 50 #[.int .i64 m, .int .i64 c] := by rw [← hW]; exact Blk.new _ _ _ (by simp)
 have hBW : Below w.heap.size w W := by rw [← hW]; exact bl_alloc (bl_alloc (Below.refl _ _) _ (Nat.le_refl _)) _ (Nat.le_refl _)
 have hc : Moulds (fun _ => True) W A n s.moulds := g.keep MouldR.good (Keeps.below hBW)
 have HNL := Lib.hid g.len
 have hn4 : n ≤ 4 := by have := g.len; have := hok.nm; omega
 have x2 := X.cell 2
 have xl := X.lt
 have y0 := Y.cell 0
 have y1 := Y.cell 1
 have yl := Y.lt
 obtain ⟨b1, hb1⟩ : ∃ b, inB m 0 ((n : Int) - 1) = b := ⟨_, rfl⟩
 have HI1 : Hid (∀ k, Calls Tryz.prog 15 #[.int .i64 m, .int .i64 0, .int .i64 ((n : Int) - 1)] (W.drewN k) fun e w' => e = .returned (.bool b1) ∧ w' = W.drewN k) := fun k => by rw [← hb1]; exact (in7_any _ _ _ _).mono fun e w' hh => ⟨hh.1, hh.2.symm⟩
 have hw1 : IntKind.i64.wrap ((n : Int) - 1) = n - 1 := by rw [IntKind.wrap_i64]; omega
 have HT : Hid (there7 s m c = (b1 && inB c 0 ((s.moulds.getD m.toNat dMould).casts - 1))) := by rw [Hid, there7, HNL.out, hb1]
 have HW := Lib.hid hW
 clear hW g X Y
 cases b1 with
 | false =>
  have HR : Hid (there7 s m c = false) := by rw [Hid, HT.out]; rfl
  clear hb1
  go_enter Tryz.func12, Tryz.ntmps12
  go_wp2_with fail
  rw [HW.out]
  go_quiet ((go_at_call 15; with_reducible refine Calls.quiet_of_same (n := _) (HI1.out _)))
  go_wp2_with fail
  go_ret
  exact ⟨by rw [HR.out]; rfl, bl_drewN hBW _⟩
 | true =>
  have hm : 0 ≤ m ∧ m < n := by simp [inB] at hb1; omega
  obtain ⟨mn, rfl⟩ : ∃ mn : Nat, m = mn := ⟨m.toNat, by omega⟩
  obtain ⟨b, off, sn, a, z, y, u, q, rfl, hbb, hc0, hc1, hc2, hc3, hc4, hc5, hs, Hx⟩ := Moulds.get hc (k := mn) (by omega)
  have hq : 1 ≤ q ∧ q ≤ 8 := by
   have h := castsN_bd hok (m := mn) (by rw [HNL.out]; omega)
   have h3 := h.2.2
   rw [getD_of Hx.out] at h3
   dsimp only at h3
   omega
  have hw2 : IntKind.i64.wrap (q - 1) = q - 1 := by rw [IntKind.wrap_i64]; omega
  obtain ⟨b2, hb2⟩ : ∃ b, inB c 0 (q - 1) = b := ⟨_, rfl⟩
  have HI2 : Hid (∀ k, Calls Tryz.prog 15 #[.int .i64 c, .int .i64 0, .int .i64 (q - 1)] (W.drewN k) fun e w' => e = .returned (.bool b2) ∧ w' = W.drewN k) := fun k => by rw [← hb2]; exact (in7_any _ _ _ _).mono fun e w' hh => ⟨hh.1, hh.2.symm⟩
  have HR : Hid (there7 s (mn : Int) c = b2) := by rw [Hid, HT.out, Int.toNat_natCast, getD_of Hx.out, Bool.true_and]; exact hb2
  have hmi : (mn : Int) < n := by omega
  clear hb1 hb2 hc0 hc1 hc2 hc3 hc4 hm hs
  go_enter Tryz.func12, Tryz.ntmps12
  go_wp2_with fail
  rw [HW.out]
  go_quiet ((go_at_call 15; first | (with_reducible refine Calls.quiet_of_same (n := _) (HI1.out _)) | (with_reducible refine Calls.quiet_of_same (n := _) (HI2.out _))))
  go_wp2_with fail
  go_ret
  exact ⟨by rw [HR.out]; rfl, bl_drewN hBW _⟩
open Go.RowKit Go.Shelf
set_option maxHeartbeats 1000000 in
theorem has7_any {S : Foot} {A : Option Addr} {n c : Nat} {xs : List Pl} (p : Pl) (w : World) (h : Pls S w A n xs) :
  Calls Tryz.prog 13 #[.slice A n c, .agg #[.int .i64 (p.1 : Int), .int .i64 (p.2 : Int)]] w fun e w' => e = .returned (.bool (decide (p ∈ xs))) ∧ Below w.heap.size w w' := by
 have hle := h.le
 obtain ⟨p1, p2⟩ := p
 dsimp only
 obtain ⟨W, hW⟩ : ∃ W, w.alloc (.cells #[.int .i64 (p1 : Int), .int .i64 (p2 : Int)] 50) = W := ⟨_, rfl⟩
 have X : Blk W w.heap.size 50 #[.int .i64 (p1 : Int), .int .i64 (p2 : Int)] := by rw [← hW]; exact Blk.new _ _ _ rfl
 have hBW : Below w.heap.size w W := by rw [← hW]; exact bl_alloc (Below.refl _ _) _ (Nat.le_refl _)
 have hp : Pls S W A n xs := h.keep PlR.good (Keeps.below hBW)
 have x0 := X.cell 0
 have x1 := X.cell 1
 have Hn := Lib.hid h.len
 clear X h
 go_enter Tryz.func13, Tryz.ntmps13
 go_wp2_with fail
 clear hW
 go_loopw [5] (fun i wr => ∃ k : Nat, k ≤ n ∧ i = .int .i64 k ∧ Hid ((p1, p2) ∉ xs.take k) ∧ ∃ q, wr = W.drewN q) (fun i _ => n - (intOf i).toNat)
 case atStart => exact ⟨0, Nat.zero_le _, rfl, by simp [Hid], 0, rfl⟩
 case round =>
  obtain ⟨k, hk, rfl, Hm, q, rfl⟩ := hrel
  by_cases hlt : k < n
  ·have hki : (k : Int) < n := by omega
   obtain ⟨b, off, y1, y2, rfl, _, hd0, hd1, Hy⟩ := hp.get hlt
   by_cases hm : y1 = p1
   ·subst hm
    by_cases hm2 : y2 = p2
    ·subst hm2
     go_wp2_with fail
     go_quiet (fail)
     go_wp2
     go_ret
     exact ⟨ret_bool (decide_eq_true (List.mem_of_getElem? Hy.out)).symm, bl_drewN (bl_drewN hBW _) _⟩
    have hmb : ¬ (y2 : Int) = (p2 : Int) := by omega
    have HM2 : Hid ((y1, p2) ∉ xs.take (k + 1)) := by
     rw [Hid, take_snoc_get Hy.out]
     intro hh
     rcases List.mem_append.1 hh with hh | hh
     ·exact Hm.out hh
     exact hm2 (congrArg Prod.snd (List.mem_singleton.1 hh)).symm
    clear hm2
    go_wp2_with fail
    go_quiet (fail)
    go_wp2
    go_roundw
    case rel => exact ⟨k + 1, by omega, by go_num, HM2, _, rfl⟩
    case measure => simp [intOf]; omega
   have hmb : ¬ (y1 : Int) = (p1 : Int) := by omega
   have HM2 : Hid ((p1, p2) ∉ xs.take (k + 1)) := by
    rw [Hid, take_snoc_get Hy.out]
    intro hh
    rcases List.mem_append.1 hh with hh | hh
    ·exact Hm.out hh
    exact hm (congrArg Prod.fst (List.mem_singleton.1 hh)).symm
   clear hm
   go_wp2_with fail
   go_quiet (fail)
   go_wp2
   go_roundw
   case rel => exact ⟨k + 1, by omega, by go_num, HM2, _, rfl⟩
   case measure => simp [intOf]; omega
  have hki : ¬ (k : Int) < n := by omega
  go_wp2_with fail
  go_ret
  refine ⟨ret_bool ?_, bl_drewN hBW _⟩
  symm; rw [decide_eq_false_iff_not]
  have := Hm.out
  rwa [List.take_of_length_le (by rw [Hn.out]; omega)] at this
open Go.RowKit Go.Shelf Go.Maps
set_option maxRecDepth 100000 in
set_option maxHeartbeats 1000000 in
theorem oLate_any {s : Shop11} {H P Q T : Option Addr} {hn hc pn pc on oc tn tc : Nat} {t : List Int} (hok : Ok11 s) (hpc : pn ≤ pc) (ht : TakenOk s t) (w : World) (g : ShopO (fun _ => True) w H hn P pn Q on s) (gt : Ints (fun _ => True) w T tn t) (hne : (lateR s (ordsL s t)).2 ≠ 0) :
  Calls Tryz.prog 31 #[.agg #[.slice H hn hc, .slice P pn pc, .slice Q on oc], .slice T tn tc] w fun e w' => e = .returned (.tuple #[.int .i64 (lateR s (ordsL s t)).1, .int .i64 (lateR s (ordsL s t)).2, .int .i64 0]) ∧ Below w.heap.size w w' := by
 have hlo := ords_ok hok ht
 have hl9 := ords_len hok ht
 obtain ⟨l, hl⟩ : ∃ l, ordsL s t = l := ⟨_, rfl⟩
 rw [hl] at hlo hl9 hne ⊢
 obtain ⟨a, ha⟩ : ∃ a, (lateR s l).1 = a := ⟨_, rfl⟩
 obtain ⟨b, hb⟩ : ∃ a, (lateR s l).2 = a := ⟨_, rfl⟩
 rw [hb] at hne
 rw [ha, hb]
 have HA := Lib.hid ha
 have HBB := Lib.hid hb
 have h0b : (b == 0) = false := by simpa using hne
 obtain ⟨W, hW⟩ : ∃ W, w.alloc (.cells #[.slice H hn hc, .slice P pn pc, .slice Q on oc] 31) = W := ⟨_, rfl⟩
 have X : Blk W w.heap.size 31 #[.slice H hn hc, .slice P pn pc, .slice Q on oc] := by rw [← hW]; exact Blk.new _ _ _ rfl
 have hBW : Below w.heap.size w W := by rw [← hW]; exact bl_alloc (Below.refl _ _) _ (Nat.le_refl _)
 have HG : Hid (ShopO (fun _ => True) W H hn P pn Q on s) := g.bl hBW
 have HGT : Hid (Ints (fun _ => True) W T tn t) := gt.keep IntR.good (Keeps.below hBW)
 have HOK := Lib.hid hok
 have HT := Lib.hid ht
 have HLO := Lib.hid hlo
 have HL := Lib.hid hl
 have x0 := X.cell 0
 have x1 := X.cell 1
 have x2 := X.cell 2
 clear g gt X hok ht ha hb hlo hl hne
 go_enter Tryz.func31, Tryz.ntmps31
 go_wp2_with fail
 clear x0 x1 x2 hW
 refine (oenter_any HOK.out hpc HT.out W HG.out HGT.out).mono ?_
 rintro e V1 ⟨⟨gs, kb, L, lc, rfl, hgs, hkb, HLK, HM, HORD⟩, b1⟩
 rw [HL.out] at HORD
 have hcall := olate_any (lc := lc) HOK.out HLO.out hl9 (by decide) V1 HLK HM HORD
 rw [HA.out, HBB.out] at hcall
 have HC := Lib.hid hcall
 have HB1 := Lib.hid b1
 have hkl : kb < V1.heap.size := HM.lt
 clear hcall HLK HM HORD b1
 go_wp2_with fail
 refine HC.out.mono ?_
 rintro e V2 ⟨rfl, hk, hm⟩
 have HBF : Hid (Below w.heap.size w V2) := (bl_call hBW HB1.out (Nat.le_refl _)).trans (hk.below (by have := HB1.out.size; have := hBW.size; omega) (fun k h => by have := hBW.size; omega))
 clear hk hm HC
 go_wp2
 go_ret3
 exact ⟨rfl, HBF.out⟩
def leastN (p : Nat → Bool) (n : Nat) : Nat := ((List.range n).find? p).getD n
theorem leastN_here {p : Nat → Bool} {n k : Nat} (hk : k < n) (h : p k = true) (hn : ∀ j, j < k → p j = false) : leastN p n = k := by
 have : (List.range n).find? p = some k := by
  rw [List.find?_range_eq_some]
  exact ⟨h, List.mem_range.2 hk, fun j hj => by rw [hn j hj]; rfl⟩
 rw [leastN, this]; rfl
theorem leastN_none {p : Nat → Bool} {n : Nat} (hn : ∀ j, j < n → p j = false) : leastN p n = n := by
 have : (List.range n).find? p = none := List.find?_eq_none.2 fun a ha => by rw [hn a (List.mem_range.1 ha)]; exact Bool.false_ne_true
 rw [leastN, this]; rfl
theorem oleast_any {n : Nat} (p : Nat → Bool) (g : Nat) (lb : Array Value) (eg : ∀ args w, (callFunc g args).run Tryz.prog w = .ok (.enter g args) w) (hn : n ≤ 100) (w : World) (I : Nat → World → Prop) (h0 : I 0 w)
  (hp : ∀ (k : Nat) (W : World), k < n → I k W → Calls Tryz.prog g (#[.int .i64 (k : Int)] ++ lb) W fun e W' => e = .returned (.bool (p k)) ∧ I (k + 1) W') :
  Calls Tryz.prog 59 #[.int .i64 (n : Int), .func (.func g) #[] lb] w fun e w' => e = .returned (.int .i64 (leastN p n : Nat)) ∧ ∃ k, k ≤ n ∧ I k w' := by
 have HP := Lib.hid hp
 have HG := Lib.hid eg
 have H0 := Lib.hid h0
 clear hp eg h0
 go_enter Tryz.func59, Tryz.ntmps59
 go_wp2
 go_loopw [4, 5, 7] (fun s4 _ i wr => ∃ k : Nat, k ≤ n ∧ i = .int .i64 k ∧ s4 = .int .i64 0 ∧ Hid (I k wr) ∧ Hid (∀ j, j < k → p j = false)) (fun _ _ i _ => n - (intOf i).toNat)
 case atStart => exact ⟨0, Nat.zero_le _, rfl, rfl, H0.out, fun j h => by omega⟩
 case round =>
  obtain ⟨k, hk, rfl, rfl, HI, HN⟩ := hrel
  by_cases hlt : k < n
  ·have hki : (k : Int) < n := by omega
   have hcall := HP.out k wr hlt HI.out
   have eg : ∀ args w, (callFunc g args).run Tryz.prog w = .ok (.enter g args) w := HG.out
   cases hq : p k with
   | true =>
    have HQ : Hid (leastN p n = k) := leastN_here hlt hq HN.out
    rw [hq] at hcall
    clear hq
    go_wp2_with (go_at_fn g; refine hcall.mono ?_; rintro e w2 ⟨rfl, hi2⟩)
    go_ret
    exact ⟨by rw [HQ.out]; rfl, k + 1, by omega, hi2⟩
   | false =>
    have HQ := Lib.hid hq
    rw [hq] at hcall
    clear hq
    go_wp2_with (go_at_fn g; refine hcall.mono ?_; rintro e w2 ⟨rfl, hi2⟩)
    go_roundw
    case rel => exact ⟨k + 1, by omega, by go_num, rfl, hi2, fun j hj => by
     by_cases e : j = k
     ·subst e; exact HQ.out
     exact HN.out j (by omega)⟩
    case measure => simp [intOf]; omega
  obtain rfl : k = n := by omega
  have HQ : Hid (leastN p k = k) := leastN_none HN.out
  go_wp2
  go_ret
  exact ⟨by rw [HQ.out]; rfl, k, Nat.le_refl _, HI.out⟩
end Go.Proofs.YtkpbchnggdnmaaaGreat
