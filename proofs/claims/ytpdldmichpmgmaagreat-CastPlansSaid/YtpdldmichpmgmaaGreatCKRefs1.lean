/- Walks, layer 7, the reference: in, narrow. -/
import Derived.Test.YtpdldmichpmgmaaGreatCKLaws1
set_option linter.unusedVariables false
set_option linter.unusedSimpArgs false
set_option linter.all false
namespace Go.Proofs.YtpdldmichpmgmaaGreat
open Go.RowKit Go.Shelf

theorem in7_any (n lo hi : Int) (w : World) :
    Calls Tryz.prog 50 #[.int .i64 n, .int .i64 lo, .int .i64 hi] w fun e w' => e = .returned (.bool (inB n lo hi)) ∧ w = w' := by
  go_enter Tryz.func50, Tryz.ntmps50
  go_wp2
  all_goals
    go_ret
    exact ⟨ret_bool (by simp [inB, *]; try omega), rfl⟩

/-- the error of a span that must be narrow -/
def narrowE (a z lo hi wide : Int) : Int := if rangeE ⟨a, z⟩ lo hi = 0 ∧ a + wide < z then 2 else rangeE ⟨a, z⟩ lo hi
theorem range_bd {a z lo hi : Int} (h : rangeE ⟨a, z⟩ lo hi = 0) : lo ≤ a ∧ a ≤ z ∧ z ≤ hi := by
  simp [rangeE, inB] at h; omega
set_option maxHeartbeats 1000000 in
theorem narrow7_any (a z lo hi wide : Int) (hl : 0 ≤ lo) (hh : hi ≤ 100000) (hw : 0 ≤ wide ∧ wide ≤ 100000) (w : World) :
    Calls Tryz.prog 69 #[.agg #[.int .i64 a, .int .i64 z], .int .i64 lo, .int .i64 hi, .int .i64 wide] w fun e w' => e = .returned (.int .i64 (narrowE a z lo hi wide)) ∧ Below w.heap.size w w' := by
  obtain ⟨W, hW⟩ : ∃ W, w.alloc (.cells #[.int .i64 a, .int .i64 z] 23) = W := ⟨_, rfl⟩
  have X : Blk W w.heap.size 23 #[.int .i64 a, .int .i64 z] := by rw [← hW]; exact Blk.new _ _ _ rfl
  have hBW : Below w.heap.size w W := by rw [← hW]; exact bl_alloc (Below.refl _ _) _ (Nat.le_refl _)
  have x0 := X.cell 0
  have x1 := X.cell 1
  have xl := X.lt
  go_enter Tryz.func69, Tryz.ntmps69
  go_wp2_with fail
  refine (range_any a z lo hi W).mono ?_
  rintro e W1 ⟨rfl, b1⟩
  have B1 := bl_call hBW b1 (Nat.le_refl _)
  have X1 := X.bl b1
  have y0 := X1.cell 0
  have y1 := X1.cell 1
  have yl := X1.lt
  obtain ⟨e0, he0⟩ : ∃ e0, rangeE ⟨a, z⟩ lo hi = e0 := ⟨_, rfl⟩
  rw [he0]
  have HE := Lib.hid he0
  clear x0 x1 xl X X1 hW
  by_cases hz : e0 = 0
  · have hb := range_bd (he0.trans hz)
    have hwr : IntKind.i64.wrap (a + wide) = a + wide := by rw [IntKind.wrap_i64]; omega
    subst hz
    clear he0
    by_cases hg : a + wide < z
    · have HR : Hid (narrowE a z lo hi wide = 2) := by rw [Hid, narrowE, HE.out, if_pos ⟨rfl, hg⟩]
      go_wp2_with fail
      go_ret
      exact ⟨by rw [HR.out]; rfl, B1⟩
    · have HR : Hid (narrowE a z lo hi wide = 0) := by rw [Hid, narrowE, HE.out, if_neg (fun h => hg h.2)]
      go_wp2_with fail
      go_ret
      exact ⟨by rw [HR.out]; rfl, B1⟩
  · have hzb : (e0 == 0) = false := by simpa using hz
    have HR : Hid (narrowE a z lo hi wide = e0) := by rw [Hid, narrowE, HE.out, if_neg (fun h => hz h.1)]
    clear he0
    go_wp2_with fail
    go_ret
    exact ⟨by rw [HR.out]; rfl, B1⟩
end Go.Proofs.YtpdldmichpmgmaaGreat

namespace Go.Proofs.YtpdldmichpmgmaaGreat
open Go.RowKit Go.Shelf

theorem narrow_form (a z lo hi wide : Int) : narrowE a z lo hi wide = if !inB a lo hi || !inB z lo hi then 7 else if !inB z a (a + wide) then 2 else 0 := by
  unfold narrowE rangeE
  dsimp only
  by_cases h1 : (!inB a lo hi || !inB z lo hi) = true
  · rw [if_pos h1, if_pos h1, if_neg (fun h => by cases h.1)]
  · rw [if_neg h1, if_neg h1]
    by_cases h2 : a > z
    · rw [if_pos h2, if_neg (fun h => by cases h.1), if_pos (by simp [inB]; omega)]
    · rw [if_neg h2]
      by_cases h3 : a + wide < z
      · rw [if_pos ⟨rfl, h3⟩, if_pos (by simp [inB]; omega)]
      · rw [if_neg (fun h => h3 h.2), if_neg (by simp [inB]; omega)]
/-- the error of a mould, whose name is among names -/
def mouldS (x : Mould) (names : List (List UInt8)) : Int := if fresh x.name names ≠ 0 then fresh x.name names else mouldN x
theorem mouldN_form (x : Mould) : mouldN x = if narrowE x.slo x.shi 1 20000 12 = 7 ∨ narrowE x.wlo x.whi 0 20 3 = 7 ∨ inB x.casts 1 8 = false then 7 else if narrowE x.slo x.shi 1 20000 12 ≠ 0 then narrowE x.slo x.shi 1 20000 12 else narrowE x.wlo x.whi 0 20 3 := by
  rw [narrow_form, narrow_form, mouldN]
  cases inB x.slo 1 20000 <;> cases inB x.shi 1 20000 <;> cases inB x.wlo 0 20 <;> cases inB x.whi 0 20 <;> cases inB x.casts 1 8 <;> cases inB x.shi x.slo (x.slo + 12) <;> cases inB x.whi x.wlo (x.wlo + 3) <;> simp
set_option maxHeartbeats 1000000 in
theorem rmould_any {S : Foot} {A : Option Addr} {n c : Nat} {xs : List (List UInt8)} (s : ByteArray) (a z y u q : Int) (w : World) (h : Strs S w A n xs) (hs : s.size ≤ 9223372036854775807) :
    Calls Tryz.prog 70 #[.agg #[.string s, .int .i64 a, .int .i64 z, .int .i64 y, .int .i64 u, .int .i64 q], .slice A n c] w fun e w' => e = .returned (.int .i64 (mouldS ⟨s.data.toList, a, z, y, u, q⟩ xs)) ∧ Below w.heap.size w w' := by
  obtain ⟨W, hW⟩ : ∃ W, w.alloc (.cells #[.string s, .int .i64 a, .int .i64 z, .int .i64 y, .int .i64 u, .int .i64 q] 93) = W := ⟨_, rfl⟩
  have X : Blk W w.heap.size 93 #[.string s, .int .i64 a, .int .i64 z, .int .i64 y, .int .i64 u, .int .i64 q] := by rw [← hW]; exact Blk.new _ _ _ rfl
  have hr : Strs S W A n xs := by rw [← hW]; exact h.keep StrR.good (Keeps.alloc _ _)
  have hBW : Below w.heap.size w W := by rw [← hW]; exact bl_alloc (Below.refl _ _) _ (Nat.le_refl _)
  have HW := Lib.hid hW
  have x0 := X.cell 0
  have x1 := X.cell 1
  have x2 := X.cell 2
  have x3 := X.cell 3
  have x4 := X.cell 4
  have x5 := X.cell 5
  have xl := X.lt
  clear hW h
  go_enter Tryz.func70, Tryz.ntmps70
  go_wp2_with fail
  rw [HW.out]
  refine (fresh_any s _ hr hs).mono ?_
  rintro e w' ⟨rfl, rfl⟩
  obtain ⟨f0, hf0⟩ : ∃ f0, fresh s.data.toList xs = f0 := ⟨_, rfl⟩
  rw [hf0]
  by_cases hf : f0 = 0
  · have hfb : (f0 != 0) = false := by rw [hf]; rfl
    have HE : Hid (mouldS ⟨s.data.toList, a, z, y, u, q⟩ xs = mouldN ⟨s.data.toList, a, z, y, u, q⟩) := by rw [Hid, mouldS]; dsimp only; rw [hf0, if_neg (by simp [hf])]
    clear hf0
    go_wp2_with fail
    refine (narrow7_any a z 1 20000 12 (by omega) (by omega) (by omega) W).mono ?_
    rintro e W1 ⟨rfl, b1⟩
    have B1 := bl_call hBW b1 (Nat.le_refl _)
    have X1 := X.bl b1
    have y3 := X1.cell 3
    have y4 := X1.cell 4
    have yl := X1.lt
    obtain ⟨s1, hs1⟩ : ∃ s1, narrowE a z 1 20000 12 = s1 := ⟨_, rfl⟩
    rw [hs1]
    have HS1 := Lib.hid hs1
    clear x0 x1 x2 x3 x4 x5 xl hs1
    go_wp2_with fail
    refine (narrow7_any y u 0 20 3 (by omega) (by omega) (by omega) W1).mono ?_
    rintro e W2 ⟨rfl, b2⟩
    have B2 := bl_call B1 b2 (Nat.le_refl _)
    have X2 := X1.bl b2
    have z5 := X2.cell 5
    have zl := X2.lt
    obtain ⟨s2, hs2⟩ : ∃ s2, narrowE y u 0 20 3 = s2 := ⟨_, rfl⟩
    rw [hs2]
    have HM : Hid (mouldS ⟨s.data.toList, a, z, y, u, q⟩ xs = if s1 = 7 ∨ s2 = 7 ∨ inB q 1 8 = false then 7 else if s1 ≠ 0 then s1 else s2) := by rw [Hid, HE.out, mouldN_form]; dsimp only; rw [HS1.out, hs2]
    clear hs2 y3 y4 yl X1 X2 HE
    by_cases h1 : s1 = 7
    · have hb : (s1 == 7) = true := by rw [h1]; rfl
      have HR : Hid (mouldS ⟨s.data.toList, a, z, y, u, q⟩ xs = 7) := by rw [Hid, HM.out, if_pos (.inl h1)]
      go_wp2_with fail
      go_ret
      exact ⟨by rw [HR.out]; rfl, B2⟩
    · have hb : (s1 == 7) = false := by simpa using h1
      by_cases h2 : s2 = 7
      · have hb2 : (s2 == 7) = true := by rw [h2]; rfl
        have HR : Hid (mouldS ⟨s.data.toList, a, z, y, u, q⟩ xs = 7) := by rw [Hid, HM.out, if_pos (.inr (.inl h2))]
        go_wp2_with fail
        go_ret
        exact ⟨by rw [HR.out]; rfl, B2⟩
      · have hb2 : (s2 == 7) = false := by simpa using h2
        have H1 := Lib.hid h1
        have H2 := Lib.hid h2
        clear h1 h2
        go_wp2_with fail
        refine (in7_any q 1 8 W2).mono ?_
        rintro e w' ⟨rfl, rfl⟩
        cases hq : inB q 1 8 with
        | false =>
          have HR : Hid (mouldS ⟨s.data.toList, a, z, y, u, q⟩ xs = 7) := by rw [Hid, HM.out, if_pos (.inr (.inr hq))]
          clear hq
          go_wp2_with fail
          go_ret
          exact ⟨by rw [HR.out]; rfl, B2⟩
        | true =>
          have HR : Hid (mouldS ⟨s.data.toList, a, z, y, u, q⟩ xs = if s1 ≠ 0 then s1 else s2) := by rw [Hid, HM.out, if_neg (by rw [hq]; simp; exact ⟨H1.out, H2.out⟩)]
          clear hq
          by_cases h3 : s1 = 0
          · have hb3 : (s1 != 0) = false := by rw [h3]; rfl
            have HR2 : Hid (mouldS ⟨s.data.toList, a, z, y, u, q⟩ xs = s2) := by rw [Hid, HR.out, if_neg (by simp [h3])]
            go_wp2_with fail
            go_ret
            exact ⟨by rw [HR2.out]; rfl, B2⟩
          · have hb3 : (s1 != 0) = true := by simpa using h3
            have HR2 : Hid (mouldS ⟨s.data.toList, a, z, y, u, q⟩ xs = s1) := by rw [Hid, HR.out, if_pos h3]
            go_wp2_with fail
            go_ret
            exact ⟨by rw [HR2.out]; rfl, B2⟩
  · have hfb : (f0 != 0) = true := by simpa using hf
    have HR : Hid (mouldS ⟨s.data.toList, a, z, y, u, q⟩ xs = f0) := by rw [Hid, mouldS]; dsimp only; rw [hf0, if_pos hf]
    clear hf0
    go_wp2_with fail
    go_ret
    exact ⟨by rw [HR.out]; rfl, hBW⟩
end Go.Proofs.YtpdldmichpmgmaaGreat

namespace Go.Proofs.YtpdldmichpmgmaaGreat
open Go.RowKit Go.Shelf

theorem infoStr7 : (Tryz.prog.info? 9).map (fun i => (i.zero, i.size, i.bytes)) = some (some (.string ByteArray.empty), 1, 16) := by kernel_rfl
section
variable {s : Shop}
theorem c7_bad (h : narrowE s.klo s.khi 0 100 6 ≠ 0) : check7 s = (1, 0, narrowE s.klo s.khi 0 100 6) := by
  rw [narrow_form] at h ⊢
  unfold check7
  split
  · rfl
  · split
    · rfl
    · rename_i h1 h2
      rw [if_neg h1, if_neg h2] at h
      exact absurd rfl h
theorem c7_ok (h : narrowE s.klo s.khi 0 100 6 = 0) : check7 s = if ¬ (1 ≤ s.moulds.length ∧ s.moulds.length ≤ 4) then ((1, 0, 3) : Int × Int × Int) else match firstErr (mouldE s.moulds) s.moulds.length with
    | some (k, e) => (2, (k : Int), e)
    | none => (0, 0, 0) := by
  rw [narrow_form] at h
  unfold check7
  split
  · rename_i h1; rw [if_pos h1] at h; cases h
  · split
    · rename_i h1 h2; rw [if_neg h1, if_pos h2] at h; cases h
    · rfl
theorem mouldE_ref {l : List Mould} {k : Nat} {x : Mould} (h : l[k]? = some x) : mouldE l k = mouldS x ((l.take k).map (·.name)) := by
  unfold mouldE mouldS
  rw [getD_of h]
end
theorem upto7 {f : Nat → Int} {k : Nat} (h : ∀ j, j < k → f j = 0) (he : f k = 0) : ∀ j, j < k + 1 → f j = 0 := fun j hj => by
  by_cases e : j = k
  · rw [e]; exact he
  · exact h j (by omega)
set_option maxHeartbeats 4000000 in
set_option maxRecDepth 100000 in
theorem rcheck7_any {A : Option Addr} {n ca : Nat} {s : Shop} {klo khi : Int} (w : World) (g : Moulds (fun _ => True) w A n s.moulds) (h1 : s.klo = klo) (h2 : s.khi = khi) :
    Calls Tryz.prog 46 #[.agg #[.int .i64 klo, .int .i64 khi, .slice A n ca]] w fun e w' => e = .returned (.tuple #[.int .i64 (check7 s).1, .int .i64 (check7 s).2.1, .int .i64 (check7 s).2.2]) ∧ Below w.heap.size w w' := by
  have hle := g.le
  have Hn := Lib.hid g.len
  obtain ⟨i0, hi0, hz0, hz1, hz2⟩ := info_parts infoStr7
  obtain ⟨W, hW⟩ : ∃ W, w.alloc (.cells #[.int .i64 klo, .int .i64 khi, .slice A n ca] 26) = W := ⟨_, rfl⟩
  have X : Blk W w.heap.size 26 #[.int .i64 klo, .int .i64 khi, .slice A n ca] := by rw [← hW]; exact Blk.new _ _ _ rfl
  have hc : Moulds (fun _ => True) W A n s.moulds := by rw [← hW]; exact g.keep MouldR.good (Keeps.alloc _ _)
  have hBW : Below w.heap.size w W := by rw [← hW]; exact bl_alloc (Below.refl _ _) _ (Nat.le_refl _)
  have hWs : w.heap.size ≤ W.heap.size := hBW.size
  have HW := Lib.hid hW
  have HX := Lib.hid X
  clear hW g X
  subst h1 h2
  go_enter Tryz.func46, Tryz.ntmps46
  go_wp2_with fail
  rw [HW.out]
  refine (narrow7_any _ _ 0 100 6 (by omega) (by omega) (by omega) W).mono ?_
  rintro e W1 ⟨rfl, b1⟩
  obtain ⟨e0, he0⟩ : ∃ e0, narrowE s.klo s.khi 0 100 6 = e0 := ⟨_, rfl⟩
  rw [he0]
  have HE0 := Lib.hid he0
  have X1 := HX.out.bl b1
  have y2 := X1.cell 2
  have yl := X1.lt
  clear X1 he0
  by_cases hz : e0 = 0
  · have C := Lib.hid (c7_ok (HE0.out.trans hz))
    subst hz
    go_wp2_with fail
    refine (in7_any (n : Int) 1 4 W1).mono ?_
    rintro e w' ⟨rfl, rfl⟩
    cases hin : inB (n : Int) 1 4 with
    | false =>
      have HC : Hid (check7 s = (1, 0, 3)) := by rw [Hid, C.out, if_pos (by rw [Hn.out]; simp [inB] at hin; omega)]
      clear hin
      go_wp2_with fail
      go_ret3
      exact ⟨by rw [HC.out]; rfl, hBW.trans (b1.mono hWs)⟩
    | true =>
      have hn4 : 1 ≤ n ∧ n ≤ 4 := by simp [inB] at hin; omega
      have D : Hid (check7 s = match firstErr (mouldE s.moulds) s.moulds.length with
        | some (k, e) => (2, (k : Int), e)
        | none => (0, 0, 0)) := by rw [Hid, C.out, if_neg (by rw [Hn.out]; omega)]
      clear hin C
      go_wp2_with fail
      clear y2 yl
      go_loopw [5, 6, 7] (fun _ nm i wr => ∃ (k cap : Nat) (An : Option Addr), k ≤ n ∧ i = .int .i64 k ∧ nm = .slice An k cap ∧ Below W.heap.size W wr ∧ (∃ nms, OwnL StrR 1 (fun _ => False) wr W.heap.size 9 (.slice An k cap) nms ∧ Hid (nms = (s.moulds.take k).map (·.name))) ∧ Hid (∀ j, j < k → mouldE s.moulds j = 0)) (fun _ _ i _ => n - (intOf i).toNat)
      case atStart => exact ⟨0, 0, none, Nat.zero_le _, rfl, rfl, b1, ⟨[], OwnL.nil _ _ _ _ _ _, rfl⟩, fun j h => by omega⟩
      case round =>
        clear b1
        obtain ⟨k, cap, An, hk, rfl, rfl, hB, ⟨nms, hO, Hnm⟩, Hz⟩ := hrel
        have hcr := hc.keep MouldR.good (Keeps.below hB)
        have X3 := HX.out.bl hB
        have y2 := X3.cell 2
        have yl := X3.lt
        clear X3
        have hkl : nms.length = k := by rw [Hnm.out, List.length_map, List.length_take, Hn.out]; omega
        have Hkl := Lib.hid hkl
        clear hkl
        by_cases hlt : k < n
        · obtain ⟨b, off, sn, a, z, y, u, q, rfl, hbb, hc0, hc1, hc2, hc3, hc4, hc5, hs, Hx⟩ := Moulds.get hcr hlt
          have HE : Hid (mouldE s.moulds k = mouldS ⟨sn.data.toList, a, z, y, u, q⟩ nms) := by rw [Hid, Hnm.out]; exact mouldE_ref Hx.out
          have HL : Hid (∀ e, e ≠ 0 → mouldE s.moulds k = e → check7 s = (2, (k : Int), e)) := fun e he hh => by rw [D.out, firstErr_some (by rw [Hn.out]; exact hlt) Hz.out (by rw [hh]; exact he), hh]
          have hki : (k : Int) < n := by omega
          have hstr : Strs (fun _ => True) wr An k nms := hO.slice StrR.good rfl (by simp only [maxLen]; omega) (fun _ h => h.elim) (fun _ _ _ => trivial)
          go_wp2_with fail
          refine (rmould_any sn a z y u q _ hstr hs).mono ?_
          rintro e w1 ⟨rfl, hb1⟩
          generalize hfr : mouldS ⟨sn.data.toList, a, z, y, u, q⟩ nms = fr at HE ⊢
          have hB1 : Below W.heap.size W w1 := bl_call hB hb1 (Nat.le_refl _)
          have hO1 := hO.below StrR.good hb1
          have q0 := getc hb1 hc0
          have q3 := getc hb1 y2
          clear hfr hB hO hb1 hc0 hc1 hc2 hc3 hc4 hc5 y2 yl hstr hcr
          by_cases he : fr = 0
          · obtain rfl : fr = 0 := he
            go_wp2_with (at_builtin; refine wpList_append_n _ rfl (.tmp 41) (.tmp 48) _ rfl StrR.good W.heap.size 9 i0 _ 16 Tryz.underlying129 hi0 hz0 hz1 hz2 rfl (by omega) _ nms sn.data.toList k Hkl.out rfl (hO1.alloc StrR.good _) ⟨w1.heap.size, 0, none⟩ 1 [.string sn] rfl ⟨sn, rfl, rfl, hs⟩ (news_new rfl (by simp)) ?c1 ?c2 ?c3 (fun h => h) ?_)
            case c1 => simp only [maxLen]; omega
            case c2 => omega
            case c3 => have := hB1.size; simp; omega
            intro A' cap' w2 hown2 hg2 hat2
            have hB2 : Below W.heap.size W w2 := bl_grown (bl_alloc hB1 _ (Nat.le_refl _)) (hO1.alloc StrR.good _) hg2 (Nat.le_refl _) (Nat.le_refl _)
            have Hnm2 : Hid (nms ++ [sn.data.toList] = (s.moulds.take (k + 1)).map (·.name)) := by rw [Hid, take_snoc_get Hx.out, List.map_append, Hnm.out]; rfl
            clear hg2 hat2 hO1 hB1 q0 q3
            go_wp2
            go_roundw
            case rel => exact ⟨k + 1, _, _, by omega, by go_num, rfl, hB2, ⟨_, hown2, Hnm2⟩, upto7 Hz.out HE.out⟩
            case measure => simp [intOf]; omega
          · have hbe2 : (fr != 0) = true := by simpa using he
            have HC := Lib.hid (HL.out fr he HE.out)
            clear he
            go_wp2
            go_ret3
            exact ⟨by rw [HC.out]; rfl, hBW.trans (hB1.mono hWs)⟩
        · obtain rfl : k = n := by omega
          have HC : Hid (check7 s = (0, 0, 0)) := by rw [Hid, D.out, firstErr_none (by rw [Hn.out]; exact Hz.out)]
          go_wp2
          go_ret3
          exact ⟨by rw [HC.out]; rfl, hBW.trans (hB.mono hWs)⟩
  · have hzb : (e0 == 0) = false := by simpa using hz
    have hzb2 : (e0 != 0) = true := by simpa using hz
    have HC : Hid (check7 s = (1, 0, e0)) := by rw [Hid, c7_bad (by rw [HE0.out]; exact hz), HE0.out]
    go_wp2_with fail
    go_ret3
    exact ⟨by rw [HC.out]; rfl, hBW.trans (b1.mono hWs)⟩
end Go.Proofs.YtpdldmichpmgmaaGreat

namespace Go.Proofs.YtpdldmichpmgmaaGreat
open Go.RowKit Go.Shelf

set_option maxHeartbeats 2000000 in
set_option maxRecDepth 100000 in
theorem rthere7_any {A : Option Addr} {n ca : Nat} {s : Shop} {klo khi : Int} (m c : Int) (hok : OkS s) (w : World) (g : Moulds (fun _ => True) w A n s.moulds) :
    Calls Tryz.prog 20 #[.agg #[.int .i64 klo, .int .i64 khi, .slice A n ca], .agg #[.int .i64 m, .int .i64 c]] w fun e w' => e = .returned (.bool (there7 s m c)) ∧ Below w.heap.size w w' := by
  obtain ⟨W, hW⟩ : ∃ W, (w.alloc (.cells #[.int .i64 klo, .int .i64 khi, .slice A n ca] 26)).alloc (.cells #[.int .i64 m, .int .i64 c] 54) = W := ⟨_, rfl⟩
  have X : Blk W w.heap.size 26 #[.int .i64 klo, .int .i64 khi, .slice A n ca] := by rw [← hW]; exact (Blk.new _ _ _ rfl).alloc _
  have Y : Blk W (w.heap.size + 1) 54 #[.int .i64 m, .int .i64 c] := by rw [← hW]; exact Blk.new _ _ _ (by simp)
  have hBW : Below w.heap.size w W := by rw [← hW]; exact bl_alloc (bl_alloc (Below.refl _ _) _ (Nat.le_refl _)) _ (Nat.le_refl _)
  have hc : Moulds (fun _ => True) W A n s.moulds := g.keep MouldR.good (Keeps.below hBW)
  have HNL := Lib.hid g.len
  have hn4 : n ≤ 4 := by have := g.len; have := hok.nm; omega
  have x2 := X.cell 2
  have xl := X.lt
  have y0 := Y.cell 0
  have y1 := Y.cell 1
  have yl := Y.lt
  obtain ⟨b1, hb1⟩ : ∃ b, inB m 0 ((n : Int) - 1) = b := ⟨_, rfl⟩
  have HI1 : Hid (∀ k, Calls Tryz.prog 50 #[.int .i64 m, .int .i64 0, .int .i64 ((n : Int) - 1)] (W.drewN k) fun e w' => e = .returned (.bool b1) ∧ w' = W.drewN k) := fun k => by rw [← hb1]; exact (in7_any _ _ _ _).mono fun e w' hh => ⟨hh.1, hh.2.symm⟩
  have hw1 : IntKind.i64.wrap ((n : Int) - 1) = n - 1 := by rw [IntKind.wrap_i64]; omega
  have HT : Hid (there7 s m c = (b1 && inB c 0 ((s.moulds.getD m.toNat dMould).casts - 1))) := by rw [Hid, there7, HNL.out, hb1]
  have HW := Lib.hid hW
  clear hW g X Y
  cases b1 with
  | false =>
    have HR : Hid (there7 s m c = false) := by rw [Hid, HT.out]; rfl
    clear hb1
    go_enter Tryz.func20, Tryz.ntmps20
    go_wp2_with fail
    rw [HW.out]
    go_quiet ((go_at_call 50; with_reducible refine Calls.quiet_of_same (n := _) (HI1.out _)))
    go_wp2_with fail
    go_ret
    exact ⟨by rw [HR.out]; rfl, bl_drewN hBW _⟩
  | true =>
    have hm : 0 ≤ m ∧ m < n := by simp [inB] at hb1; omega
    obtain ⟨mn, rfl⟩ : ∃ mn : Nat, m = mn := ⟨m.toNat, by omega⟩
    obtain ⟨b, off, sn, a, z, y, u, q, rfl, hbb, hc0, hc1, hc2, hc3, hc4, hc5, hs, Hx⟩ := Moulds.get hc (k := mn) (by omega)
    have hq : 1 ≤ q ∧ q ≤ 8 := by
      have h := castsN_bd hok (m := mn) (by rw [HNL.out]; omega)
      have h3 := h.2.2
      rw [getD_of Hx.out] at h3
      dsimp only at h3
      omega
    have hw2 : IntKind.i64.wrap (q - 1) = q - 1 := by rw [IntKind.wrap_i64]; omega
    obtain ⟨b2, hb2⟩ : ∃ b, inB c 0 (q - 1) = b := ⟨_, rfl⟩
    have HI2 : Hid (∀ k, Calls Tryz.prog 50 #[.int .i64 c, .int .i64 0, .int .i64 (q - 1)] (W.drewN k) fun e w' => e = .returned (.bool b2) ∧ w' = W.drewN k) := fun k => by rw [← hb2]; exact (in7_any _ _ _ _).mono fun e w' hh => ⟨hh.1, hh.2.symm⟩
    have HR : Hid (there7 s (mn : Int) c = b2) := by rw [Hid, HT.out, Int.toNat_natCast, getD_of Hx.out, Bool.true_and]; exact hb2
    have hmi : (mn : Int) < n := by omega
    clear hb1 hb2 hc0 hc1 hc2 hc3 hc4 hm hs
    go_enter Tryz.func20, Tryz.ntmps20
    go_wp2_with fail
    rw [HW.out]
    go_quiet ((go_at_call 50; first | (with_reducible refine Calls.quiet_of_same (n := _) (HI1.out _)) | (with_reducible refine Calls.quiet_of_same (n := _) (HI2.out _))))
    go_wp2_with fail
    go_ret
    exact ⟨by rw [HR.out]; rfl, bl_drewN hBW _⟩
end Go.Proofs.YtpdldmichpmgmaaGreat

namespace Go.Proofs.YtpdldmichpmgmaaGreat
open Go.RowKit Go.Shelf

theorem seenE7_ref {s : Shop} {l : List SeenC} {k : Nat} {a z y u : Int} (h : l[k]? = some ⟨a, z, y, u⟩) : seenE7 s l k = if !there7 s a z then 4 else rangeE ⟨y, u⟩ 0 20000 := by
  unfold seenE7
  rw [getD_of h]
set_option maxHeartbeats 4000000 in
set_option maxRecDepth 100000 in
theorem rseen7_any {A C : Option Addr} {n ca q cc : Nat} {s : Shop} {l : List SeenC} {klo khi : Int} (w : World) (g : Moulds (fun _ => True) w A n s.moulds) (gs : SeenCs (fun _ => True) w C q l) (h1 : s.klo = klo) (h2 : s.khi = khi) :
    Calls Tryz.prog 49 #[.agg #[.int .i64 klo, .int .i64 khi, .slice A n ca], .slice C q cc] w fun e w' => e = .returned (.tuple #[.int .i64 (seen7 s l).1, .int .i64 (seen7 s l).2]) ∧ Below w.heap.size w w' := by
  have hlq := gs.le
  have Hq := Lib.hid gs.len
  obtain ⟨W, hW⟩ : ∃ W, w.alloc (.cells #[.int .i64 klo, .int .i64 khi, .slice A n ca] 26) = W := ⟨_, rfl⟩
  have X : Blk W w.heap.size 26 #[.int .i64 klo, .int .i64 khi, .slice A n ca] := by rw [← hW]; exact Blk.new _ _ _ rfl
  have hBW : Below w.heap.size w W := by rw [← hW]; exact bl_alloc (Below.refl _ _) _ (Nat.le_refl _)
  have hc : Moulds (fun _ => True) W A n s.moulds := g.keep MouldR.good (Keeps.below hBW)
  have hs : SeenCs (fun _ => True) W C q l := gs.keep SeenCR.good (Keeps.below hBW)
  have hWs : w.heap.size ≤ W.heap.size := hBW.size
  have HW := Lib.hid hW
  have HX := Lib.hid X
  have HC0 := Lib.hid hc
  have HS0 := Lib.hid hs
  clear hW g gs X
  go_enter Tryz.func49, Tryz.ntmps49
  go_wp2_with fail
  rw [HW.out]
  refine (rcheck7_any W hc h1 h2).mono ?_
  rintro e W1 ⟨rfl, b1⟩
  clear hc hs
  by_cases he : (check7 s).2.2 = 0
  · have heb : ((check7 s).2.2 == 0) = true := by rw [he]; rfl
    have heb2 : ((check7 s).2.2 != 0) = false := by rw [he]; rfl
    have he' : err7 s = 0 := he
    have HOK := Lib.hid (okS_of he)
    by_cases h6 : 6 < q
    · have HC : Hid (seen7 s l = (0, 3)) := seen7_long he' (by rw [Hq.out]; exact h6)
      have h6i : (6 : Int) < q := by omega
      clear he he'
      go_wp2_with fail
      go_ret2
      exact ⟨by rw [HC.out]; rfl, hBW.trans (b1.mono hWs)⟩
    · have D : Hid (seen7 s l = _) := seen7_n he' (by rw [Hq.out]; exact h6)
      have h6i : ¬ (6 : Int) < q := by omega
      clear he he'
      go_wp2_with fail
      clear h6i heb heb2
      go_loopw [8, 9] (fun _ i wr => ∃ k : Nat, k ≤ q ∧ i = .int .i64 k ∧ Below W.heap.size W wr ∧ Hid (∀ j, j < k → seenE7 s l j = 0)) (fun _ i _ => q - (intOf i).toNat)
      case atStart => exact ⟨0, Nat.zero_le _, rfl, b1, fun j h => by omega⟩
      case round =>
        clear b1
        obtain ⟨k, hk, rfl, hB, Hz⟩ := hrel
        by_cases hlt : k < q
        · obtain ⟨b, off, a, z, y, u, rfl, hbb, hc0, hc1, hc2, hc3, Hx⟩ := SeenCs.get (HS0.out.keep SeenCR.good (Keeps.below hB)) hlt
          have HE : Hid (seenE7 s l k = _) := seenE7_ref Hx.out
          have HL : Hid (∀ e, e ≠ 0 → seenE7 s l k = e → seen7 s l = ((k : Int), e)) := fun e he hh => by rw [D.out, firstErr_some (by rw [Hq.out]; exact hlt) Hz.out (by rw [hh]; exact he), hh]
          have hki : (k : Int) < q := by omega
          obtain ⟨tb, htb⟩ : ∃ tb, there7 s a z = tb := ⟨_, rfl⟩
          have HTB := Lib.hid htb
          clear htb
          have kk : Hid (∀ V : World, Below wr.heap.size wr V → V.cell? ⟨w.heap.size, 0, none⟩ = some (.int .i64 klo) ∧ V.cell? ⟨w.heap.size, 1, none⟩ = some (.int .i64 khi) ∧ V.cell? ⟨w.heap.size, 2, none⟩ = some (.slice A n ca) ∧ V.cell? ⟨b, off + k * 4, none⟩ = some (.int .i64 a) ∧ V.cell? ⟨b, off + k * 4 + 1, none⟩ = some (.int .i64 z) ∧ V.cell? ⟨b, off + k * 4 + 2, none⟩ = some (.int .i64 y) ∧ V.cell? ⟨b, off + k * 4 + 3, none⟩ = some (.int .i64 u)) := fun V hV => by
            have hx := HX.out.bl (bl_call hB hV (Nat.le_refl _))
            exact ⟨hx.cell 0, hx.cell 1, hx.cell 2, getc hV hc0, getc hV hc1, getc hV hc2, getc hV hc3⟩
          have HCM : Hid (∀ V : World, Below wr.heap.size wr V → Moulds (fun _ => True) V A n s.moulds) := fun V hV => HC0.out.keep MouldR.good (Keeps.below (bl_call hB hV (Nat.le_refl _)))
          have HB := Lib.hid hB
          clear hc0 hc1 hc2 hc3 hB
          go_wp2_with fail
          refine wp_region_list (fun V => Below wr.heap.size wr V) (fun _ _ => True)
            [isV (.agg #[.int .i64 klo, .int .i64 khi, .slice A n ca]), isV (.slice (some ⟨b, off, none⟩) q cc), isV (.int .i64 (k : Int)), isV (.pointer (some ⟨b, off + k * 4, none⟩)), isV (.pointer (some ⟨b, off + k * 4, none⟩)), isV (.int .i64 a), isV (.slice (some ⟨b, off, none⟩) q cc), isV (.int .i64 (k : Int)), isV (.pointer (some ⟨b, off + k * 4, none⟩)), isV (.pointer (some ⟨b, off + k * 4 + 1, none⟩)), isV (.int .i64 z), isV (.agg #[.int .i64 a, .int .i64 z]), isV (.bool tb), isV (.bool (!tb))]
            (by kernel_rfl) (by kernel_rfl) (by kernel_rfl) (by simp) (by simp) (Below.refl _ _).drew ?stab ?step ?fin
          case stab => exact (StabL.is (StabL.is (StabL.is (StabL.is (StabL.is (StabL.is (StabL.is (StabL.is (StabL.is (StabL.is (StabL.is (StabL.is (StabL.is (StabL.is StabL.nil))))))))))))))
          case step =>
            refine StepsL.is ?_ (StepsL.is ?_ (StepsL.is ?_ (StepsL.is ?_ (StepsL.is ?_ (StepsL.is ?_ (StepsL.is ?_ (StepsL.is ?_ (StepsL.is ?_ (StepsL.is ?_ (StepsL.is ?_ (StepsL.is ?_ (StepsL.is ?_ (StepsL.is ?_ StepsL.nil)))))))))))))
            all_goals
              intro vs V K hC hD hU hK
              simp only [fillA, Act.put, List.setIfInBounds_toArray, List.set_cons_zero, List.set_cons_succ, Nat.zero_add, Nat.reduceAdd] at hK ⊢
              simp [waits, Region.binds] at hD
              try simp only [envOf, List.getD_cons_succ, List.getD_cons_zero, isV] at hD
              try simp only [hD] at hK ⊢
              obtain ⟨x0, x1, x2, d0, d1, _, _⟩ := kk.out V hC
              have xl := World.block_lt_of_cell? _ _ x0
              dsimp only at xl
              go_simp
              first
              | exact hK _ hC trivial
              | (refine (rthere7_any a z HOK.out V (HCM.out V hC)).mono ?_
                 rintro e w' ⟨rfl, hb⟩
                 rw [HTB.out]
                 exact hK _ (bl_call hC hb (Nat.le_refl _)) trivial)
          case fin =>
            intro vs V hC hE hU
            have e13 := hE 13 (by simp)
            simp only [envOf, List.getD_cons_succ, List.getD_cons_zero, isV] at e13
            simp only [fillA, Act.put, List.setIfInBounds_toArray, List.set_cons_zero, List.set_cons_succ, Nat.zero_add, Nat.reduceAdd, e13]
            obtain ⟨u0, hu0⟩ : ∃ v0, vs 0 = v0 := ⟨_, rfl⟩
            obtain ⟨u1, hu1⟩ : ∃ v0, vs 1 = v0 := ⟨_, rfl⟩
            obtain ⟨u2, hu2⟩ : ∃ v0, vs 2 = v0 := ⟨_, rfl⟩
            obtain ⟨u3, hu3⟩ : ∃ v0, vs 3 = v0 := ⟨_, rfl⟩
            obtain ⟨u4, hu4⟩ : ∃ v0, vs 4 = v0 := ⟨_, rfl⟩
            obtain ⟨u5, hu5⟩ : ∃ v0, vs 5 = v0 := ⟨_, rfl⟩
            obtain ⟨u6, hu6⟩ : ∃ v0, vs 6 = v0 := ⟨_, rfl⟩
            obtain ⟨u7, hu7⟩ : ∃ v0, vs 7 = v0 := ⟨_, rfl⟩
            obtain ⟨u8, hu8⟩ : ∃ v0, vs 8 = v0 := ⟨_, rfl⟩
            obtain ⟨u9, hu9⟩ : ∃ v0, vs 9 = v0 := ⟨_, rfl⟩
            obtain ⟨u10, hu10⟩ : ∃ v0, vs 10 = v0 := ⟨_, rfl⟩
            obtain ⟨u11, hu11⟩ : ∃ v0, vs 11 = v0 := ⟨_, rfl⟩
            obtain ⟨u12, hu12⟩ : ∃ v0, vs 12 = v0 := ⟨_, rfl⟩
            rw [hu0, hu1, hu2, hu3, hu4, hu5, hu6, hu7, hu8, hu9, hu10, hu11, hu12]
            clear hu0 hu1 hu2 hu3 hu4 hu5 hu6 hu7 hu8 hu9 hu10 hu11 hu12 hE hU e13
            obtain ⟨_, _, _, _, _, d2, d3⟩ := kk.out V hC
            have dl := World.block_lt_of_cell? _ _ d2
            dsimp only at dl
            have hBV : Below W.heap.size W V := bl_call HB.out hC (Nat.le_refl _)
            clear hC
            cases tb with
            | false =>
              have HC := Lib.hid (HL.out 4 (by decide) (by rw [HE.out, HTB.out]; rfl))
              go_simp
              go_wp2_with fail
              go_ret2
              exact ⟨by rw [HC.out]; rfl, hBW.trans (hBV.mono hWs)⟩
            | true =>
              have HE2 : Hid (seenE7 s l k = rangeE ⟨y, u⟩ 0 20000) := by rw [Hid, HE.out, HTB.out]; rfl
              go_simp
              go_wp2_with fail
              refine (range_any y u 0 20000 V).mono ?_
              rintro e w1 ⟨rfl, hb1⟩
              have hB1 : Below W.heap.size W w1 := bl_call hBV hb1 (Nat.le_refl _)
              clear hb1 d2 d3 dl hBV
              generalize rangeE ⟨y, u⟩ 0 20000 = r at HE2
              by_cases hr : r = 0
              · have hrb : (r != 0) = false := by rw [hr]; rfl
                have HR := Lib.hid hr
                clear hr
                go_wp2_with fail
                go_roundw
                case rel => exact ⟨k + 1, by omega, by go_num, hB1, upto7 Hz.out (HE2.out.trans HR.out)⟩
                case measure => simp [intOf]; omega
              · have hrb : (r != 0) = true := by simpa using hr
                have HC := Lib.hid (HL.out r hr HE2.out)
                clear hr
                go_wp2_with fail
                go_ret2
                exact ⟨by rw [HC.out]; rfl, hBW.trans (hB1.mono hWs)⟩
        · obtain rfl : k = q := by omega
          have HC : Hid (seen7 s l = (0, 0)) := by rw [Hid, D.out, firstErr_none (by rw [Hq.out]; exact fun j hj => Hz.out j hj)]
          go_wp2_with fail
          go_ret2
          exact ⟨by rw [HC.out]; rfl, hBW.trans (hB.mono hWs)⟩
  · have heb : ((check7 s).2.2 == 0) = false := by simpa using he
    have heb2 : ((check7 s).2.2 != 0) = true := by simpa using he
    have HC : Hid (seen7 s l = (0, (check7 s).2.2)) := seen7_bad he
    clear he
    go_wp2_with fail
    go_ret2
    exact ⟨by rw [HC.out]; rfl, hBW.trans (b1.mono hWs)⟩
end Go.Proofs.YtpdldmichpmgmaaGreat

namespace Go.Proofs.YtpdldmichpmgmaaGreat
open Go.RowKit Go.Shelf

set_option maxHeartbeats 1000000 in
theorem rmade_any {a w k c : Int} (h1 : 1 ≤ a ∧ a ≤ 20000) (h2 : 0 ≤ w ∧ w ≤ 20) (h3 : 0 ≤ c ∧ c ≤ 8) (h4 : 0 ≤ k ∧ k ≤ 100) (W : World) :
    Calls Tryz.prog 88 #[.int .i64 a, .int .i64 w, .int .i64 c, .int .i64 k] W fun e W' => e = .returned (.int .i64 (made7 a w c k)) ∧ W = W' := by
  obtain ⟨q1, q2, q3, q4, q5, q6⟩ := made7_bd h1 h2 h3 h4
  have HM : Hid (made7 a w c k = (a + w * c) - ((a + w * c) * k).tdiv 1000) := rfl
  have hx1 : IntKind.i64.wrap (w * c) = w * c := by rw [IntKind.wrap_i64]; omega
  obtain ⟨n, hn⟩ : ∃ n, a + w * c = n := ⟨_, rfl⟩
  have hx2 : IntKind.i64.wrap (a + w * c) = n := by rw [hn, IntKind.wrap_i64]; omega
  rw [hn] at q3 q4
  have hx3 : IntKind.i64.wrap (n * k) = n * k := by rw [IntKind.wrap_i64]; omega
  obtain ⟨d, hd⟩ : ∃ d, (n * k).tdiv 1000 = d := ⟨_, rfl⟩
  have hd2 : (n * k) / 1000 = d := by rw [← hd, Int.tdiv_eq_ediv_of_nonneg q3]
  have hx4 : IntKind.i64.wrap ((n * k).tdiv 1000) = d := by rw [hd, IntKind.wrap_i64]; omega
  have hx5 : IntKind.i64.wrap (n - d) = n - d := by rw [IntKind.wrap_i64]; omega
  have HM2 : Hid (made7 a w c k = n - d) := by rw [Hid, HM.out, hn, hd]
  clear hn q1 q2 q3 q4 q5 q6 hd hd2 h1 h2 h3 h4
  go_enter Tryz.func88, Tryz.ntmps88
  go_wp2
  go_ret
  exact ⟨by rw [HM2.out]; rfl, rfl⟩
end Go.Proofs.YtpdldmichpmgmaaGreat
