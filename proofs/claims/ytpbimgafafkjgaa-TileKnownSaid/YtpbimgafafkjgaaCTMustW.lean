/- Walks: the program's Must. -/
import Derived.Test.YtpbimgafafkjgaaCTLayW
set_option linter.unusedVariables false
set_option linter.unusedSimpArgs false
set_option linter.all false
namespace Go.Proofs.Ytpbimgafafkjgaa
open Go.RowKit Go.Shelf

def mustU (h : Hall) (l : List Seen) (k : Nat) : List Int := (numbersL k).filter fun t => !withoutR h l t
theorem numbers_succ (k : Nat) : numbersL (k + 1) = numbersL k ++ [(k : Int)] := by unfold numbersL; rw [List.range_succ, List.map_append]; rfl
theorem mustU_yes {h : Hall} {l : List Seen} {k : Nat} (e : withoutR h l k = false) : mustU h l (k + 1) = mustU h l k ++ [(k : Int)] := by
  unfold mustU; rw [numbers_succ, List.filter_append]; simp [e]
theorem mustU_no {h : Hall} {l : List Seen} {k : Nat} (e : withoutR h l k = true) : mustU h l (k + 1) = mustU h l k := by
  unfold mustU; rw [numbers_succ, List.filter_append]; simp [e]
theorem mustU_len {h : Hall} {l : List Seen} {k : Nat} : (mustU h l k).length ≤ k := by
  unfold mustU; exact Nat.le_trans (List.length_filter_le _ _) (by simp [numbersL])
section
variable {h : Hall} {l : List Seen}
theorem must8_bad (e : hallE h l ≠ 0) : must8 h l = ([], hallE h l) := by rw [must8, if_pos e]
theorem must8_none (e : hallE h l = 0) (hk : OkH h) (hn : leastL (layP h l h.rows.length 0 0) = none) : must8 h l = ([], 8) := by
  rw [least_lay hk 0 (by decide), bitL_zero, ← best_all] at hn
  rw [must8, if_neg (by simp [e]), if_pos hn]
theorem must8_ok (e : hallE h l = 0) (hk : OkH h) {x : List (List Int) × Int} (hn : leastL (layP h l h.rows.length 0 0) = some x) : must8 h l = (mustU h l h.tiles.length, 0) := by
  rw [least_lay hk 0 (by decide), bitL_zero, ← best_all] at hn
  rw [must8, if_neg (by simp [e]), if_neg (by rw [hn]; simp)]; rfl
theorem without_least (hk : OkH h) {k : Nat} (h8 : k < 8) : withoutR h l k = (leastL (layP h l h.rows.length (2 ^ k) 0)).isSome := by
  rw [without_lay, least_lay hk _ (bitL_one k h8).2, (bitL_one k h8).1]
end

/-- whether there is a laying without a set -/
theorem hasLay_any {W2 : World} {h : Hall} {l : List Seen} {gh g2 g5 g3 gF base m cb wo : Nat} {B : Option Addr} (lb : LayBox W2 h l gh g2 g5 g3 gF base m cb wo B) (hok : OkH h) (hm : h.rows.length = m) (hm3 : m ≤ 3) (hwo : wo < 256) :
    Calls Try.prog 67 #[.func (.func 92) #[] #[.pointer (some ⟨g2, 0, none⟩), .pointer (some ⟨g5, 0, none⟩), .pointer (some ⟨g3, 0, none⟩)]] W2 fun e w' =>
      (∃ (v : Value) (n : Int), e = .returned (.tuple #[v, .int .i64 n, .bool (leastL (layP h l m wo 0)).isSome])) ∧ Below W2.heap.size W2 w' :=
  (least_any (Own := fun _ _ _ _ => True) eg_layings lay_enc (fun _ _ _ _ _ _ _ _ => trivial) (layings_seq lb hok hm hm3 hwo) W2 (fun A hA => hA)).mono fun e w' ⟨hr, hb⟩ => by
    refine ⟨?_, hb⟩
    unfold LeastR at hr
    cases hle : leastL (layP h l m wo 0) with
    | none => rw [hle] at hr; exact ⟨_, _, hr⟩
    | some x => rw [hle] at hr; obtain ⟨Ad, nn, c, Y, he, _⟩ := hr; exact ⟨_, _, he⟩

def MustOk (w : World) (r : List Int × Int) (e : Ending) (w' : World) : Prop := Below w.heap.size w w' ∧ ∃ A n c, e = .returned (.tuple #[.slice A n c, .int .i64 r.2]) ∧ Ints (fun _ => True) w' A n r.1

set_option maxRecDepth 100000 in
set_option maxHeartbeats 1000000 in
theorem tmust_any {A B C : Option Addr} {n ca m cb q cc : Nat} {h : Hall} {l : List Seen} {alo ahi most : Int} (w : World) (g : HallAt (fun _ => True) w A n B m h) (gs : Seens (fun _ => True) w C q l) (hca : n ≤ ca) (h1 : h.alo = alo) (h2 : h.ahi = ahi) (h3 : h.most = most) :
    Calls Try.prog 31 #[.agg #[.int .i64 alo, .int .i64 ahi, .int .i64 most, .slice A n ca, .slice B m cb], .slice C q cc] w (MustOk w (must8 h l)) := by
  obtain ⟨i0, hi0, hz0, hz1, hz2⟩ := info_parts infoInt
  obtain ⟨W, hW⟩ : ∃ W, w.alloc (.cells #[.int .i64 alo, .int .i64 ahi, .int .i64 most, .slice A n ca, .slice B m cb] 27) = W := ⟨_, rfl⟩
  have X : Blk W w.heap.size 27 #[.int .i64 alo, .int .i64 ahi, .int .i64 most, .slice A n ca, .slice B m cb] := by rw [← hW]; exact Blk.new _ _ _ rfl
  have hBW : Below w.heap.size w W := by rw [← hW]; exact bl_alloc (Below.refl _ _) _ (Nat.le_refl _)
  have hc : HallAt (fun _ => True) W A n B m h := g.keep (Keeps.below hBW)
  have hs : Seens (fun _ => True) W C q l := gs.keep SeenR.good (Keeps.below hBW)
  have hWs : w.heap.size ≤ W.heap.size := hBW.size
  have HW := Lib.hid hW
  have Hm := Lib.hid hc.rs.len
  have Hn := Lib.hid hc.ts.len
  have hlen := hc.ts.le
  clear hW g gs
  go_enter Try.func31, Try.ntmps31
  go_wp2_with fail
  rw [HW.out]
  refine (tenter_any W hc hs hca h1 h2 h3).mono ?_
  rintro e W1 ⟨b1, p, ag, rfl, hag, hbx⟩
  have B1 : Below w.heap.size w W1 := hBW.trans (b1.mono hWs)
  have X1 := X.bl b1
  have x2 := X1.cell 3
  have HX2 : Hid (W1.cell? ⟨w.heap.size, 3, none⟩ = some (.slice A n ca)) := x2
  have hxl := X1.lt
  clear x2 X X1
  by_cases he : (seen8 h l).2 = 0
  · have hag := hag he
    have hbx := hbx he
    obtain ⟨hc0, _, _⟩ := seen_zero he
    have hokh := okH_of hc0
    have hnr := hokh.nr
    have hnt := hokh.nt
    have hm3 : m ≤ 3 := by rw [← Hm.out]; exact hnr.2
    have hn8 : n ≤ 8 := by rw [← Hn.out]; exact hnt.2
    have HE := Lib.hid he
    rw [he]
    subst hag
    cases hga : agree8 h l
    · have HR : Hid (must8 h l = ([], 9)) := by rw [Hid, must8_bad (by rw [hallE_no HE.out hga]; decide), hallE_no HE.out hga]
      clear hbx he hnr hnt
      go_wp2_with fail
      go_ret2
      exact ⟨B1, none, 0, 0, by rw [HR.out]; rfl, by rw [HR.out]; exact SliceOf.nil _ _ _ _ _⟩
    · obtain ⟨gh, rfl, hbox⟩ := hbx hga
      have HH0 := Lib.hid (hallE_ok HE.out hga)
      have HOK := Lib.hid hokh
      have HAG := Lib.hid hga
      have HBOX := Lib.hid hbox
      clear hbx he hnr hnt hga hokh hbox hc0
      go_wp2_with fail
      refine (layings_any 0 W1 HBOX.out HOK.out HAG.out).mono ?_
      rintro e W2 ⟨⟨g2, g5, g3, gF, base, rfl, lb⟩, b2⟩
      have HLB := Lib.hid lb
      clear lb
      go_wp2_with fail
      refine (hasLay_any HLB.out HOK.out Hm.out hm3 (by decide)).mono ?_
      rintro e W3 ⟨⟨v3, n3, rfl⟩, b3⟩
      have b13 : Below W1.heap.size W1 W3 := bl_call b2 b3 (Nat.le_refl _)
      have HB13 := Lib.hid b13
      have HB1 := Lib.hid B1
      clear b2 b3 b13 B1
      cases hle : leastL (layP h l m 0 0) with
      | none =>
        have HR : Hid (must8 h l = ([], 8)) := must8_none HH0.out HOK.out (by rw [Hm.out]; exact hle)
        rw [Option.isSome_none]
        clear hle
        go_wp2_with fail
        go_ret2
        exact ⟨bl_call HB1.out HB13.out (Nat.le_refl _), none, 0, 0, by rw [HR.out]; rfl, by rw [HR.out]; exact SliceOf.nil _ _ _ _ _⟩
      | some x =>
        have HR : Hid (must8 h l = (mustU h l n, 0)) := by rw [Hid, must8_ok HH0.out HOK.out (x := x) (by rw [Hm.out]; exact hle), Hn.out]
        rw [Option.isSome_some]
        have x2 := getc HB13.out HX2.out
        have hx3 : w.heap.size < W3.heap.size := by have := HB13.out.size; omega
        clear hle
        go_wp2_with fail
        clear x2
        go_loopw [4, 11, 12, 13, 14, 41] (fun v4 _ _ _ _ i' wr => ∃ (k j cap : Nat) (A1 : Option Addr) (l1 : List Int), i' = .int .i64 k ∧ k ≤ n ∧ v4 = .slice A1 j cap ∧ Hid (l1.length = j) ∧ j ≤ k ∧ OwnL IntR 1 (fun _ => False) wr W1.heap.size 3 (.slice A1 j cap) l1 ∧ Hid (Below W1.heap.size W1 wr) ∧ Hid (l1 = mustU h l k)) (fun _ _ _ _ _ i' _ => n - (intOf i').toNat)
        case atStart => exact ⟨0, 0, 0, none, [], rfl, Nat.zero_le _, rfl, rfl, Nat.le_refl _, OwnL.nil _ _ _ _ _ _, HB13.out, rfl⟩
        case round =>
          obtain ⟨k, j, cap, A1, l1, rfl, hk, rfl, Hj, hjk, hO, HB, Hu⟩ := hrel
          by_cases hlt : k < n
          · have hki : (k : Int) < n := by omega
            have hpw := pow_wrap k (by omega)
            obtain ⟨wo, hwo⟩ : ∃ wo : Nat, 2 ^ k = wo := ⟨_, rfl⟩
            rw [hwo] at hpw
            have hwo8 : wo < 256 := by rw [← hwo]; exact (bitL_one k (by omega)).2
            have HWO : Hid (withoutR h l k = (leastL (layP h l m wo 0)).isSome) := by rw [Hid, without_least HOK.out (by omega), Hm.out, hwo]
            clear hwo
            go_wp2_with fail
            try rw [hpw]
            refine (layings_any wo wr (HBOX.out.keep HB.out) HOK.out HAG.out).mono ?_
            rintro e V2 ⟨⟨g2', g5', g3', gF', base', rfl, lb'⟩, c2⟩
            have HLB' := Lib.hid lb'
            have hO2 := hO.below IntR.good c2
            have HBV2 : Hid (Below W1.heap.size W1 V2) := bl_call HB.out c2 (Nat.le_refl _)
            clear lb' c2 hO
            go_wp2_with fail
            refine (hasLay_any HLB'.out HOK.out Hm.out hm3 hwo8).mono ?_
            rintro e V3 ⟨⟨v3', n3', rfl⟩, c3⟩
            have hO3 := hO2.below IntR.good c3
            have HBV3 : Hid (Below W1.heap.size W1 V3) := bl_call HBV2.out c3 (Nat.le_refl _)
            clear c3 hO2
            cases hsm : (leastL (layP h l m wo 0)).isSome
            · have HU2 : Hid (l1 ++ [(k : Int)] = mustU h l (k + 1)) := by rw [Hid, mustU_yes (by rw [HWO.out]; exact hsm), Hu.out]
              clear hsm
              go_wp2_with (at_builtin; refine wpList_append_n _ rfl (.tmp 55) (.tmp 57) _ rfl IntR.good W1.heap.size 3 i0 _ 8 Try.underlying39 hi0 hz0 hz1 hz2 rfl (by omega) _ l1 (k : Int) j Hj.out rfl (hO3.alloc IntR.good _) ⟨_, 0, none⟩ 1 [.int .i64 k] rfl rfl (news_new rfl rfl) ?c1 ?c2 ?c3 (fun h => h) ?_)
              case c1 => simp only [maxLen]; omega
              case c2 => omega
              case c3 => have := HBV3.out.size; simp; omega
              intro A2 cap2 V4 hO4 hg4 _
              have HB4 : Hid (Below W1.heap.size W1 V4) := bl_grown (bl_alloc HBV3.out _ (Nat.le_refl _)) (hO3.alloc IntR.good _) hg4 (Nat.le_refl _) (Nat.le_refl _)
              have Hj2 : Hid ((l1 ++ [(k : Int)]).length = j + 1) := by rw [Hid, List.length_append, Hj.out]; rfl
              clear hg4 hO3
              go_wp2_with fail
              go_roundw
              case rel => exact ⟨k + 1, j + 1, cap2, _, l1 ++ [(k : Int)], by go_num, by omega, rfl, Hj2, by omega, hO4, HB4, HU2⟩
              case measure => simp [intOf]; omega
            · have HU2 : Hid (l1 = mustU h l (k + 1)) := by rw [Hid, mustU_no (by rw [HWO.out]; exact hsm), Hu.out]
              clear hsm
              go_wp2_with fail
              go_roundw
              case rel => exact ⟨k + 1, j, cap, A1, l1, by go_num, by omega, rfl, Hj, by omega, hO3, HBV3, HU2⟩
              case measure => simp [intOf]; omega
          · obtain rfl : k = n := by omega
            have hS := hO.slice (T := fun _ => True) IntR.good rfl (by simp only [maxLen]; omega) (fun _ _ => trivial) (fun _ _ _ => trivial)
            have HS := Lib.hid hS
            clear hS hO
            go_wp2_with fail
            go_ret2
            exact ⟨bl_call HB1.out HB.out (Nat.le_refl _), A1, j, cap, by rw [HR.out]; rfl, by rw [HR.out, ← Hu.out]; exact HS.out⟩
  · have HR := Lib.hid (must8_bad (by rw [hallE_bad he]; exact he))
    have HRE := Lib.hid (hallE_bad he)
    have heb : ((seen8 h l).2 != 0) = true := by simpa using he
    clear he hag hbx
    go_wp2_with fail
    go_ret2
    exact ⟨B1, none, 0, 0, by rw [HR.out, HRE.out]; rfl, by rw [HR.out]; exact SliceOf.nil _ _ _ _ _⟩

end Go.Proofs.Ytpbimgafafkjgaa
