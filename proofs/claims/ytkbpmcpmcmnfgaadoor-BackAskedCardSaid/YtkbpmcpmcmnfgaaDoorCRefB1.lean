/- Walks: the reference of layer 12, Check. -/
import Derived.StillTailTactics
import Derived.Test.YtkbpmcpmcmnfgaaDoorCOwn
import Derived.Test.YtkbpmcpmcmnfgaaDoorCPlain
import Derived.Test.YtkbpmcpmcmnfgaaDoorCSmalls
set_option linter.unusedVariables false
set_option linter.unusedSimpArgs false
set_option linter.all false
namespace Go.Proofs.YtkbpmcpmcmnfgaaDoor
open Go.RowKit

def FeatR : Rd Feat := fun _ _ x vs => ∃ s : ByteArray, vs = [.string s, .int .i64 x.nom, .int .i64 x.err] ∧ s.data.toList = x.name ∧ s.size ≤ 9223372036854775807
theorem FeatR.good : FeatR.Good 3 where
  len := by rintro S w x vs ⟨s, rfl, _⟩; rfl
  one := by rintro S w x vs ⟨s, rfl, _⟩ v hv; simp at hv; rcases hv with rfl | rfl | rfl <;> rfl
  keep := by rintro S w w' x vs h hk; exact h
  mono := by rintro S T w x vs h hk; exact h
  bound := by rintro S w x vs h; exact h
def MeasR : Rd Meas := fun _ _ x vs => vs = [.int .i64 x.feature, .int .i64 x.shown]
theorem MeasR.good : MeasR.Good 2 where
  len := by rintro S w x vs rfl; rfl
  one := by rintro S w x vs rfl v hv; simp at hv; rcases hv with rfl | rfl <;> rfl
  keep := by rintro S w w' x vs h hk; exact h
  mono := by rintro S T w x vs h hk; exact h
  bound := by rintro S w x vs h; exact h
def CauseR : Rd Cause := fun S w x vs => ∃ (s : ByteArray) (A : Option Addr) (n c : Nat), vs = [.string s, .int .i64 x.lo, .int .i64 x.hi, .slice A n c] ∧ s.data.toList = x.name ∧ s.size ≤ 9223372036854775807 ∧ Ints S w A n x.per
theorem CauseR.good : CauseR.Good 4 where
  len := by rintro S w x vs ⟨s, A, n, c, rfl, _⟩; rfl
  one := by rintro S w x vs ⟨s, A, n, c, rfl, _⟩ v hv; simp at hv; rcases hv with rfl | rfl | rfl | rfl <;> rfl
  keep := by rintro S w w' x vs ⟨s, A, n, c, rfl, h1, h2, h3⟩ hk; exact ⟨s, A, n, c, rfl, h1, h2, h3.keep IntR.good hk⟩
  mono := by rintro S T w x vs ⟨s, A, n, c, rfl, h1, h2, h3⟩ hk; exact ⟨s, A, n, c, rfl, h1, h2, h3.mono IntR.good hk⟩
  bound := by rintro S w x vs ⟨s, A, n, c, rfl, h1, h2, h3⟩; exact ⟨s, A, n, c, rfl, h1, h2, h3.bound IntR.good⟩
abbrev Feats := SliceOf FeatR 3
abbrev Causes := SliceOf CauseR 4
abbrev Meass := SliceOf MeasR 2

section
variable {S : Foot} {w : World} {A : Option Addr} {n k : Nat}
theorem Feats.get {xs : List Feat} (h : Feats S w A n xs) (hk : k < n) :
    ∃ b off s a z, A = some ⟨b, off, none⟩ ∧ b < w.heap.size ∧ w.cell? ⟨b, off + k * 3, none⟩ = some (.string s) ∧ w.cell? ⟨b, off + k * 3 + 1, none⟩ = some (.int .i64 a) ∧ w.cell? ⟨b, off + k * 3 + 2, none⟩ = some (.int .i64 z) ∧ s.size ≤ 9223372036854775807 ∧ Hid (xs[k]? = some ⟨s.data.toList, a, z⟩) := by
  have hlt : k < xs.length := by rw [h.1]; exact hk
  obtain ⟨b, off, vs, hA, _, hb, ⟨s, rfl, hn, hs⟩, hc⟩ := h.2.2 k xs[k] (List.getElem?_eq_getElem hlt)
  exact ⟨b, off, s, xs[k].nom, xs[k].err, hA, hb, by simpa using hc 0 _ rfl, by simpa using hc 1 _ rfl, by simpa using hc 2 _ rfl, hs, by rw [Hid, hn]; exact List.getElem?_eq_getElem hlt⟩
theorem Causes.get {xs : List Cause} (h : Causes S w A n xs) (hk : k < n) :
    ∃ b off s lo hi P np cp per, A = some ⟨b, off, none⟩ ∧ b < w.heap.size ∧ w.cell? ⟨b, off + k * 4, none⟩ = some (.string s) ∧ w.cell? ⟨b, off + k * 4 + 1, none⟩ = some (.int .i64 lo) ∧ w.cell? ⟨b, off + k * 4 + 2, none⟩ = some (.int .i64 hi) ∧
      w.cell? ⟨b, off + k * 4 + 3, none⟩ = some (.slice P np cp) ∧ s.size ≤ 9223372036854775807 ∧ Ints S w P np per ∧ Hid (xs[k]? = some ⟨s.data.toList, lo, hi, per⟩) := by
  have hlt : k < xs.length := by rw [h.1]; exact hk
  obtain ⟨b, off, vs, hA, _, hb, ⟨s, P, np, cp, rfl, hn, hs, hi⟩, hc⟩ := h.2.2 k xs[k] (List.getElem?_eq_getElem hlt)
  exact ⟨b, off, s, xs[k].lo, xs[k].hi, P, np, cp, xs[k].per, hA, hb, by simpa using hc 0 _ rfl, by simpa using hc 1 _ rfl, by simpa using hc 2 _ rfl, by simpa using hc 3 _ rfl, hs, hi, by rw [Hid, hn]; exact List.getElem?_eq_getElem hlt⟩
theorem Meass.get {xs : List Meas} (h : Meass S w A n xs) (hk : k < n) :
    ∃ b off a z, A = some ⟨b, off, none⟩ ∧ b < w.heap.size ∧ w.cell? ⟨b, off + k * 2, none⟩ = some (.int .i64 a) ∧ w.cell? ⟨b, off + k * 2 + 1, none⟩ = some (.int .i64 z) ∧ Hid (xs[k]? = some ⟨a, z⟩) := by
  have hlt : k < xs.length := by rw [h.1]; exact hk
  obtain ⟨b, off, vs, hA, _, hb, rfl, hc⟩ := h.2.2 k xs[k] (List.getElem?_eq_getElem hlt)
  exact ⟨b, off, xs[k].feature, xs[k].shown, hA, hb, by simpa using hc 0 _ rfl, by simpa using hc 1 _ rfl, List.getElem?_eq_getElem hlt⟩
end

/-- a claim by value: three slices -/
structure ClaimAt (S : Foot) (w : World) (A : Option Addr) (n : Nat) (B : Option Addr) (m : Nat) (C : Option Addr) (q : Nat) (c : Claim) : Prop where
  fs : Feats S w A n c.feats
  cs : Causes S w B m c.causes
  ms : Meass S w C q c.meas
theorem ClaimAt.keep {S : Foot} {w w' : World} {A B C : Option Addr} {n m q : Nat} {c : Claim} (h : ClaimAt S w A n B m C q c) (hk : Keeps S w w') : ClaimAt S w' A n B m C q c :=
  ⟨h.fs.keep FeatR.good hk, h.cs.keep CauseR.good hk, h.ms.keep MeasR.good hk⟩

set_option maxHeartbeats 400000 in
theorem in12_any (n lo hi : Int) (w : World) :
    Calls Tryd.prog 58 #[.int .i64 n, .int .i64 lo, .int .i64 hi] w fun e w' => e = .returned (.bool (inB n lo hi)) ∧ w = w' := by
  go_enter Tryd.func58, Tryd.ntmps58
  go_wp2
  all_goals
    go_ret
    exact ⟨ret_bool (by simp [inB, *]; try omega), rfl⟩

set_option maxHeartbeats 1000000 in
theorem cause_any {S : Foot} {A P : Option Addr} {n ca np cp : Nat} {v1 v2 : Value} {x : Cause} (s : ByteArray) (w : World) (hn : n ≤ 9223372036854775807) (h : Ints S w P np x.per) (hv1 : v1.oneCell' = true) (hv2 : v2.oneCell' = true) :
    Calls Tryd.prog 60 #[.agg #[.slice A n ca, v1, v2], .agg #[.string s, .int .i64 x.lo, .int .i64 x.hi, .slice P np cp]] w fun e w' => e = .returned (.int .i64 (causeE n x)) ∧ Below w.heap.size w w' := by
  have hle := h.le
  have hlen := Lib.hid h.len
  by_cases hnn : np = n
  · obtain rfl : np = n := hnn
    have hb : ((np : Int) != (np : Int)) = false := by simp
    go_enter Tryd.func60, Tryd.ntmps60
    go_wp2_with (go_at_call 89; refine (range_any _ _ _ _ _).mono ?_; rintro e w1 ⟨rfl, hb1⟩)
    have hx1 : w1.cell? ⟨w.heap.size + 1, 1, none⟩ = some (.int .i64 x.lo) := getc hb1 (newc rfl (by simp))
    have hx2 : w1.cell? ⟨w.heap.size + 1, 2, none⟩ = some (.int .i64 x.hi) := getc hb1 (newc rfl (by simp))
    have hx3 : w1.cell? ⟨w.heap.size + 1, 3, none⟩ = some (.slice P np cp) := getc hb1 (newc rfl (by simp))
    have hI : Ints S w1 P np x.per := (((h.keep IntR.good (Keeps.alloc _ _)).keep IntR.good (Keeps.alloc _ _))).keep IntR.good (Keeps.below hb1)
    have hB : Below w.heap.size w w1 := bl_call (bl_alloc (bl_alloc (Below.refl _ _) _ (Nat.le_refl _)) _ (Nat.le_refl _)) hb1 (Nat.le_refl _)
    clear hb1 h
    generalize hr : rangeE ⟨x.lo, x.hi⟩ 1 50 = r
    have HR := Lib.hid hr
    clear hr
    go_loop [5, 6] (fun e i => ∃ (k : Nat) (ev : Int), k ≤ np ∧ i = .int .i64 k ∧ e = .int .i64 ev ∧ Hid (ev = if perBad (x.per.take k) then 7 else r)) (fun _ i => np - (intOf i).toNat)
    case atStart => exact ⟨0, r, Nat.zero_le _, rfl, rfl, by simp [Hid, perBad]⟩
    case round =>
      obtain ⟨k, ev, hk, rfl, rfl, Hev⟩ := hrel
      by_cases hlt : k < np
      · obtain ⟨b, off, y, rfl, hcell, Hx⟩ := hI.get hlt
        have hstep : Hid (perBad (x.per.take (k + 1)) = (perBad (x.per.take k) || !inB y (-20) 20)) := by rw [Hid, take_snoc_get Hx.out]; simp [perBad]
        cases hin : inB y (-20) 20
        all_goals
          go_wp2_with (go_at_call 58; refine (in12_any _ _ _ _).mono ?_; rintro e w' ⟨rfl, rfl⟩)
          go_round
          case rel => exact ⟨k + 1, _, by omega, by go_num, rfl, by first | (rw [Hid, hstep.out, hin]; simp; done) | (rw [Hid, hstep.out, hin, Hev.out]; simp)⟩
          case measure => simp [intOf]; omega
      · obtain rfl : k = np := by omega
        have Hev2 : Hid (ev = if perBad x.per then 7 else r) := by have := Hev.out; rwa [List.take_of_length_le (by rw [hlen.out]; omega)] at this
        have hfin : Hid (causeE k x = if ev = 0 ∧ x.hi - x.lo > 6 then 2 else ev) := by rw [Hid, causeE, if_neg (by rw [hlen.out]; simp), Hev2.out, HR.out]
        by_cases he : ev = 0
        · obtain rfl : ev = 0 := he
          have hrr : rangeE ⟨x.lo, x.hi⟩ 1 50 = 0 := by
            have h1 := Hev2.out
            cases hp : perBad x.per
            · rw [hp] at h1; rw [HR.out]; simpa using h1.symm
            · rw [hp] at h1; simp at h1
          have hb1 : 1 ≤ x.lo ∧ x.lo ≤ 50 ∧ 1 ≤ x.hi ∧ x.hi ≤ 50 := by
            unfold rangeE at hrr
            split at hrr
            · cases hrr
            · rename_i h1; simp [inB] at h1; omega
          obtain ⟨hb1, hb2, hb3, hb4⟩ := hb1
          clear hrr
          by_cases h6 : x.hi - x.lo > 6
          · go_wp2
            go_ret
            exact ⟨ret_int (by rw [hfin.out]; simp; omega), hB⟩
          · go_wp2
            go_ret
            exact ⟨ret_int (by rw [hfin.out]; simp; omega), hB⟩
        · have hbe : (ev == 0) = false := by simpa using he
          have HE := Lib.hid he
          clear he
          go_wp2
          go_ret
          exact ⟨ret_int (by rw [hfin.out, if_neg (fun h => HE.out h.1)]), hB⟩
  · have hb : ((np : Int) != (n : Int)) = true := by simp; omega
    have HM := Lib.hid hnn
    clear hnn
    go_enter Tryd.func60, Tryd.ntmps60
    go_wp2
    go_ret
    refine ⟨ret_int ?_, ((Below.refl _ _).alloc (Nat.le_refl _) _).alloc (by simp) _⟩
    rw [causeE, if_pos (by rw [hlen.out]; exact HM.out)]
theorem infoStr : (Tryd.prog.info? 9).map (fun i => (i.zero, i.size, i.bytes)) = some (some (.string ByteArray.empty), 1, 16) := by kernel_rfl

set_option maxHeartbeats 4000000 in
set_option maxRecDepth 100000 in
theorem check12_any {A B C : Option Addr} {n ca m cb q cc : Nat} {c : Claim} (w : World) (h : ClaimAt (fun _ => True) w A n B m C q c) :
    Calls Tryd.prog 16 #[.agg #[.slice A n ca, .slice B m cb, .slice C q cc]] w fun e w' => e = .returned (.tuple #[.int .i64 (check c).1, .int .i64 (check c).2.1, .int .i64 (check c).2.2]) ∧ Below w.heap.size w w' := by
  have hle := h.fs.le
  have hlm := h.cs.le
  have hlq := h.ms.le
  have Hn := Lib.hid h.fs.len
  have Hm := Lib.hid h.cs.len
  have Hq := Lib.hid h.ms.len
  by_cases h1 : 1 ≤ n ∧ n ≤ 5
  · have hin : inB n 1 5 = true := by simp [inB]; omega
    obtain ⟨h1, h2⟩ := h1
    obtain ⟨i0, hi0, hz0, hz1, hz2⟩ := info_parts infoStr
    obtain ⟨W, hW⟩ : ∃ W, w.alloc (.cells #[.slice A n ca, .slice B m cb, .slice C q cc] 26) = W := ⟨_, rfl⟩
    have hx0 : W.cell? ⟨w.heap.size, 0, none⟩ = some (.slice A n ca) := by rw [← hW]; exact newc rfl rfl
    have hx1 : W.cell? ⟨w.heap.size, 1, none⟩ = some (.slice B m cb) := by rw [← hW]; exact newc rfl rfl
    have hx2 : W.cell? ⟨w.heap.size, 2, none⟩ = some (.slice C q cc) := by rw [← hW]; exact newc rfl rfl
    have hc : ClaimAt (fun _ => True) W A n B m C q c := by rw [← hW]; exact h.keep (Keeps.alloc _ _)
    have hBW : Below w.heap.size w W := by rw [← hW]; exact bl_alloc (Below.refl _ _) _ (Nat.le_refl _)
    have hWs : W.heap.size = w.heap.size + 1 := by rw [← hW]; simp
    have HW := Lib.hid hW
    have HWs := Lib.hid hWs
    clear hW hWs h
    go_enter Tryd.func16, Tryd.ntmps16
    go_wp2_with fail
    rw [HW.out]
    refine (in12_any _ _ _ _).mono ?_
    rintro e w' ⟨rfl, rfl⟩
    go_wp2
    go_loopw [5, 6] (fun nm i wr => ∃ (k cap : Nat) (An : Option Addr), k ≤ n ∧ i = .int .i64 k ∧ nm = .slice An k cap ∧ Below W.heap.size W wr ∧ (∃ nms, OwnL StrR 1 (fun _ => False) wr W.heap.size 9 (.slice An k cap) nms ∧ Hid (nms = (c.feats.take k).map (·.name))) ∧ Hid (∀ j, j < k → featE c.feats j = 0)) (fun _ i _ => n - (intOf i).toNat)
    case atStart => exact ⟨0, 0, none, Nat.zero_le _, rfl, rfl, Below.refl _ _, ⟨[], OwnL.nil _ _ _ _ _ _, rfl⟩, fun j h => by omega⟩
    case round =>
      obtain ⟨k, cap, An, hk, rfl, rfl, hB, ⟨nms, hO, Hnm⟩, Hz⟩ := hrel
      have hy0 := getc hB hx0
      have hy1 := getc hB hx1
      have hy2 := getc hB hx2
      have hcr := hc.keep (Keeps.below hB)
      have hkl : nms.length = k := by rw [Hnm.out, List.length_map, List.length_take, Hn.out]; omega
      have Hkl := Lib.hid hkl
      clear hkl
      by_cases hlt : k < n
      · obtain ⟨b, off, s, a, z, rfl, hbb, hc0, hc1, hc2, hs, Hx⟩ := hcr.fs.get hlt
        have hstr : Strs (fun _ => True) (wr.alloc (.cells #[.string s, .int .i64 a, .int .i64 z] 69)) An k nms :=
          (hO.slice StrR.good rfl (by simp only [maxLen]; omega) (fun _ h => h.elim) (fun _ _ _ => trivial)).keep StrR.good (Keeps.alloc _ _)
        have HE : Hid (featE c.feats k = (if fresh s.data.toList nms ≠ 0 then fresh s.data.toList nms else if !inB a 1 100000 || !inB z 0 100 then 7 else 0)) := by rw [Hid, Hnm.out]; exact featE_get Hx.out
        generalize hfr : fresh s.data.toList nms = fr at HE
        have HF := Lib.hid hfr
        clear hfr
        go_wp2_with (first
          | (go_at_call 59; refine (fresh_any _ _ hstr hs).mono ?_; rintro e w' ⟨rfl, rfl⟩; rw [HF.out])
          | (at_builtin; refine wpList_append_n _ rfl (.tmp 34) (.tmp 37) _ rfl StrR.good W.heap.size 9 i0 _ 16 Tryd.underlying85 hi0 hz0 hz1 hz2 rfl (by omega) _ nms s.data.toList k Hkl.out rfl ((hO.alloc StrR.good _).alloc StrR.good _) ⟨wr.heap.size + 1, 0, none⟩ 1 [.string s] rfl ⟨s, rfl, rfl, hs⟩ (news_new rfl (by simp)) ?c1 ?c2 ?c3 (fun h => h) ?_))
        case c1 => simp only [maxLen]; omega
        case c2 => omega
        case c3 => have := hB.size; simp; omega
        intro A' cap' w2 hown2 hg2 hat2
        have hne : some wr.heap.size ≠ (Value.slice An k cap).ownBlock := hO.ne (.inr (Nat.le_refl _))
        have hf1 : w2.cell? ⟨wr.heap.size, 1, none⟩ = some (.int .i64 a) := hg2.cell (oldc (newc rfl rfl)) hne
        have hf2 : w2.cell? ⟨wr.heap.size, 2, none⟩ = some (.int .i64 z) := hg2.cell (oldc (newc rfl rfl)) hne
        have hB2 : Below W.heap.size W w2 := bl_grown (bl_alloc (bl_alloc hB _ (Nat.le_refl _)) _ (Nat.le_refl _)) ((hO.alloc StrR.good _).alloc StrR.good _) hg2 (Nat.le_refl _) (Nat.le_refl _)
        have Hnm2 : Hid (nms ++ [s.data.toList] = (c.feats.take (k + 1)).map (·.name)) := by rw [Hid, take_snoc_get Hx.out, List.map_append, Hnm.out]; rfl
        clear hg2 hat2 hne hO hstr hcr hy0 hy1 hy2 hc0 hc1 hc2 hB
        have HL : Hid (∀ e, e ≠ 0 → featE c.feats k = e → check c = (1, (k : Int), e)) := fun e he h => check_feat (by rw [Hn.out]; omega) (by rw [Hn.out]; exact hlt) Hz.out he h
        by_cases he : fr = 0
        · obtain rfl : fr = 0 := he
          cases h5 : inB a 1 100000
          · have HC := Lib.hid (HL.out 7 (by decide) (by rw [HE.out, h5]; rfl))
            go_wp2_with (go_at_call 58; refine (in12_any _ _ _ _).mono ?_; rintro e w' ⟨rfl, rfl⟩)
            go_ret3
            exact ⟨by rw [HC.out]; rfl, hBW.trans (hB2.mono (by rw [HWs.out]; omega))⟩
          · cases h6 : inB z 0 100
            · have HC := Lib.hid (HL.out 7 (by decide) (by rw [HE.out, h5, h6]; rfl))
              go_wp2_with (go_at_call 58; refine (in12_any _ _ _ _).mono ?_; rintro e w' ⟨rfl, rfl⟩)
              go_ret3
              exact ⟨by rw [HC.out]; rfl, hBW.trans (hB2.mono (by rw [HWs.out]; omega))⟩
            · have hz0 : Hid (featE c.feats k = 0) := by rw [Hid, HE.out, h5, h6]; rfl
              go_wp2_with (go_at_call 58; refine (in12_any _ _ _ _).mono ?_; rintro e w' ⟨rfl, rfl⟩)
              go_roundw
              case rel => exact ⟨k + 1, _, _, by omega, by go_num, rfl, hB2, ⟨_, hown2, Hnm2⟩, upto_succ Hz.out hz0.out⟩
              case measure => simp [intOf]; omega
        · have hbe : (fr == 0) = false := by simpa using he
          have hbe2 : (fr != 0) = true := by simpa using he
          have HC := Lib.hid (HL.out fr he (by rw [HE.out, if_pos he]))
          have HE2 := Lib.hid he
          clear he
          go_wp2
          go_ret3
          exact ⟨by rw [HC.out]; rfl, hBW.trans (hB2.mono (by rw [HWs.out]; omega))⟩
      · obtain rfl : k = n := by omega
        clear hO Hnm Hkl hlt
        by_cases h5 : 5 < m
        · have HC : Hid (check c = (2, 0, 3)) := check_many (by rw [Hn.out]; omega) (by rw [Hn.out]; exact Hz.out) (by rw [Hm.out]; exact h5)
          go_wp2
          go_ret3
          exact ⟨by rw [HC.out]; rfl, hBW.trans (hB.mono (by rw [HWs.out]; omega))⟩
        · have h5i : ¬ (5 : Int) < m := by omega
          go_wp2
          clear h5i
          go_loopw [5, 9] (fun nm i wr' => ∃ (j cap : Nat) (An : Option Addr), j ≤ m ∧ i = .int .i64 j ∧ nm = .slice An j cap ∧ Below W.heap.size W wr' ∧ (∃ nms, OwnL StrR 1 (fun _ => False) wr' W.heap.size 9 (.slice An j cap) nms ∧ Hid (nms = (c.causes.take j).map (·.name))) ∧ Hid (∀ i, i < j → causeAt k c.causes i = 0)) (fun _ i _ => m - (intOf i).toNat)
          case atStart => exact ⟨0, 0, none, Nat.zero_le _, rfl, rfl, hB, ⟨[], OwnL.nil _ _ _ _ _ _, rfl⟩, fun j h => by omega⟩
          case round =>
            clear hB hy0 hy1 hy2 hcr
            obtain ⟨j, cap, An, hj, rfl, rfl, hB, ⟨nms, hO, Hnm⟩, Hz2⟩ := hrel
            have hy0 := getc hB hx0
            have hy1 := getc hB hx1
            have hy2 := getc hB hx2
            have hcr := hc.keep (Keeps.below hB)
            have hkl : nms.length = j := by rw [Hnm.out, List.length_map, List.length_take, Hm.out]; omega
            have Hkl := Lib.hid hkl
            clear hkl
            by_cases hlt : j < m
            · obtain ⟨b, off, s, lo, hi, P, np, cp, per, rfl, hbb, hc0, hc1, hc2, hc3, hs, hper, Hx⟩ := hcr.cs.get hlt
              have hstr := hO.slice (T := fun _ => True) StrR.good rfl (by simp only [maxLen]; omega) (fun _ h => h.elim) (fun _ _ _ => trivial)
              have HE : Hid (causeAt k c.causes j = (if fresh s.data.toList nms ≠ 0 then fresh s.data.toList nms else causeE k ⟨s.data.toList, lo, hi, per⟩)) := by rw [Hid, Hnm.out]; exact causeAt_get Hx.out
              generalize hfr : fresh s.data.toList nms = fr at HE
              have HF := Lib.hid hfr
              clear hfr
              go_wp2_with (first
                | (go_at_call 59; refine (fresh_any _ _ hstr hs).mono ?_; rintro e w' ⟨rfl, rfl⟩; rw [HF.out])
                | (at_builtin; refine wpList_append_n _ rfl (.tmp 76) (.tmp 83) _ rfl StrR.good W.heap.size 9 i0 _ 16 Tryd.underlying85 hi0 hz0 hz1 hz2 rfl (by omega) _ nms s.data.toList j Hkl.out rfl (hO.alloc StrR.good _) ⟨_, 0, none⟩ 1 [.string s] rfl ⟨s, rfl, rfl, hs⟩ (news_new rfl rfl) ?c1 ?c2 ?c3 (fun h => h) ?_))
              case c1 => simp only [maxLen]; omega
              case c2 => omega
              case c3 => have := hB.size; simp; omega
              intro A' cap' w2 hown2 hg2 hat2
              have hz0 : w2.cell? ⟨w.heap.size, 0, none⟩ = some (.slice A k ca) := hg2.cell (oldc hy0) (hO.ne (.inl (by rw [HWs.out]; exact Nat.lt_succ_self _)))
              have hz1 : w2.cell? ⟨w.heap.size, 1, none⟩ = some (.slice (some ⟨b, off, none⟩) m cb) := hg2.cell (oldc hy1) (hO.ne (.inl (by rw [HWs.out]; exact Nat.lt_succ_self _)))
              have hz2 : w2.cell? ⟨w.heap.size, 2, none⟩ = some (.slice C q cc) := hg2.cell (oldc hy2) (hO.ne (.inl (by rw [HWs.out]; exact Nat.lt_succ_self _)))
              have hB2 : Below W.heap.size W w2 := bl_grown (bl_alloc hB _ (Nat.le_refl _)) (hO.alloc StrR.good _) hg2 (Nat.le_refl _) (Nat.le_refl _)
              have hc' := hc.keep (Keeps.below hB2)
              obtain ⟨b', off', s', lo', hi', P', np', cp', per', hA', hbb', hd0, hd1, hd2, hd3, hs', hper', Hx'⟩ := hc'.cs.get hlt
              obtain ⟨rfl, rfl⟩ : b = b' ∧ off = off' := by injection hA' with hA'; injection hA' with e1 e2; exact ⟨e1, e2⟩
              have Hnm2 : Hid (nms ++ [s.data.toList] = (c.causes.take (j + 1)).map (·.name)) := by rw [Hid, take_snoc_get Hx.out, List.map_append, Hnm.out]; rfl
              have HE2 : Hid (causeAt k c.causes j = if fr ≠ 0 then fr else causeE k ⟨s'.data.toList, lo', hi', per'⟩) := by
                have e := Hx.out.symm.trans Hx'.out
                rw [Hid, HE.out]; injection e with e; rw [e]
              clear hg2 hat2 hO hstr hcr hy0 hy1 hy2 hc0 hc1 hc2 hc3 hB HE Hx Hx' hper hc' hA' hbb hbb'
              have HL : Hid (∀ e, e ≠ 0 → causeAt k c.causes j = e → check c = (2, (j : Int), e)) := fun e he h => check_cause (by rw [Hn.out]; omega) (by rw [Hn.out]; exact Hz.out) (by rw [Hm.out]; exact h5) (by rw [Hm.out]; exact hlt) (by rw [Hn.out]; exact Hz2.out) he (by rw [Hn.out]; exact h)
              by_cases he : fr = 0
              · obtain rfl : fr = 0 := he
                generalize hce : causeE k ⟨s'.data.toList, lo', hi', per'⟩ = ce at HE2
                have HCE := Lib.hid hce
                clear hce
                by_cases hce0 : ce = 0
                · obtain rfl : ce = 0 := hce0
                  have hzz : Hid (causeAt k c.causes j = 0) := by rw [Hid, HE2.out]; rfl
                  clear HE2 HL
                  go_wp2
                  go_still_tail 6, (by kernel_rfl)
                  go_wp2_with (go_at_call 60; refine (cause_any (x := ⟨s'.data.toList, lo', hi', per'⟩) s' _ hle (hper'.keep IntR.good (Keeps.drew _)) rfl rfl).mono ?_; rintro e w3 ⟨rfl, hB3⟩; rw [HCE.out]; have hB4 := bl_call hB2.drew hB3 (Nat.le_refl _); have hown3 := (hown2.keep StrR.good (Keeps.drew _)).below StrR.good hB3; clear hB3)
                  go_roundw
                  case rel => exact ⟨j + 1, _, _, by omega, by go_num, rfl, hB4, ⟨_, hown3, Hnm2⟩, upto_succ Hz2.out hzz.out⟩
                  case measure => simp [intOf]; omega
                · have hbe2 : (ce != 0) = true := by simpa using hce0
                  have HC := Lib.hid (HL.out ce hce0 (by rw [HE2.out, if_neg (by decide)]))
                  clear hce0
                  go_wp2
                  go_still_tail 6, (by kernel_rfl)
                  go_wp2_with (go_at_call 60; refine (cause_any (x := ⟨s'.data.toList, lo', hi', per'⟩) s' _ hle (hper'.keep IntR.good (Keeps.drew _)) rfl rfl).mono ?_; rintro e w3 ⟨rfl, hB3⟩; rw [HCE.out]; have hB4 := bl_call hB2.drew hB3 (Nat.le_refl _); have hown3 := (hown2.keep StrR.good (Keeps.drew _)).below StrR.good hB3; clear hB3)
                  go_ret3
                  exact ⟨by rw [HC.out]; rfl, hBW.trans (hB4.mono (by rw [HWs.out]; omega))⟩
              · have hbe : (fr == 0) = false := by simpa using he
                have hbe2 : (fr != 0) = true := by simpa using he
                have HC := Lib.hid (HL.out fr he (by rw [HE2.out, if_pos he]))
                clear he
                go_wp2
                go_ret3
                exact ⟨by rw [HC.out]; rfl, hBW.trans (hB2.mono (by rw [HWs.out]; omega))⟩
            · obtain rfl : j = m := by omega
              clear hO Hnm Hkl hlt
              by_cases h8 : 8 < q
              · have HC : Hid (check c = (3, 0, 3)) := check_manym (by rw [Hn.out]; omega) (by rw [Hn.out]; exact Hz.out) (by rw [Hm.out]; exact h5) (by rw [Hm.out, Hn.out]; exact Hz2.out) (by rw [Hq.out]; exact h8)
                go_wp2
                go_ret3
                exact ⟨by rw [HC.out]; rfl, hBW.trans (hB.mono (by rw [HWs.out]; omega))⟩
              · have h8i : ¬ (8 : Int) < q := by omega
                go_wp2
                clear h8i
                go_loopw [11] (fun i wr' => ∃ (p : Nat), p ≤ q ∧ i = .int .i64 p ∧ Below W.heap.size W wr' ∧ Hid (∀ i, i < p → measE k c.meas i = 0)) (fun i _ => q - (intOf i).toNat)
                case atStart => exact ⟨0, Nat.zero_le _, rfl, hB, fun j h => by omega⟩
                case round =>
                  clear hB hy0 hy1 hy2 hcr
                  obtain ⟨p, hp, rfl, hB, Hz3⟩ := hrel
                  have hy0 := getc hB hx0
                  have hy1 := getc hB hx1
                  have hy2 := getc hB hx2
                  have hcr := hc.keep (Keeps.below hB)
                  have hlt0 : w.heap.size < wr.heap.size := by have := hB.size; rw [HWs.out] at this; omega
                  by_cases hlt : p < q
                  · obtain ⟨b, off, a, z, rfl, hbb, hc0, hc1, Hx⟩ := hcr.ms.get hlt
                    have HE : Hid (measE k c.meas p = (if !inB a 0 ((k : Int) - 1) then 4 else if !inB z 0 200000 then 7 else 0)) := measE_get Hx.out
                    have HL : Hid (∀ e, e ≠ 0 → measE k c.meas p = e → check c = (3, (p : Int), e)) := fun e he h => check_meas (by rw [Hn.out]; omega) (by rw [Hn.out]; exact Hz.out) (by rw [Hm.out]; exact h5) (by rw [Hm.out, Hn.out]; exact Hz2.out) (by rw [Hq.out]; exact h8) (by rw [Hq.out]; exact hlt) (by rw [Hn.out]; exact Hz3.out) he (by rw [Hn.out]; exact h)
                    cases h6 : inB a 0 ((k : Int) - 1)
                    · have HC := Lib.hid (HL.out 4 (by decide) (by rw [HE.out, h6]; rfl))
                      go_wp2_with (go_at_call 58; refine (in12_any _ _ _ _).mono ?_; rintro e w' ⟨rfl, rfl⟩)
                      go_ret3
                      exact ⟨by rw [HC.out]; rfl, bl_alloc (hBW.trans (hB.mono (by rw [HWs.out]; omega))) _ (Nat.le_refl _)⟩
                    · cases h7 : inB z 0 200000
                      · have HC := Lib.hid (HL.out 7 (by decide) (by rw [HE.out, h6, h7]; rfl))
                        go_wp2_with (go_at_call 58; refine (in12_any _ _ _ _).mono ?_; rintro e w' ⟨rfl, rfl⟩)
                        go_ret3
                        exact ⟨by rw [HC.out]; rfl, bl_alloc (hBW.trans (hB.mono (by rw [HWs.out]; omega))) _ (Nat.le_refl _)⟩
                      · have hz0 : Hid (measE k c.meas p = 0) := by rw [Hid, HE.out, h6, h7]; rfl
                        go_wp2_with (go_at_call 58; refine (in12_any _ _ _ _).mono ?_; rintro e w' ⟨rfl, rfl⟩)
                        go_roundw
                        case rel => exact ⟨p + 1, by omega, by go_num, bl_alloc hB _ (Nat.le_refl _), upto_succ Hz3.out hz0.out⟩
                        case measure => simp [intOf]; omega
                  · obtain rfl : p = q := by omega
                    have HC : Hid (check c = (0, 0, 0)) := check_ok (by rw [Hn.out]; omega) (by rw [Hn.out]; exact Hz.out) (by rw [Hm.out]; exact h5) (by rw [Hm.out, Hn.out]; exact Hz2.out) (by rw [Hq.out]; exact h8) (by rw [Hq.out, Hn.out]; exact Hz3.out)
                    go_wp2
                    go_ret3
                    exact ⟨by rw [HC.out]; rfl, hBW.trans (hB.mono (by rw [HWs.out]; omega))⟩
  · have hin : inB n 1 5 = false := by simp [inB]; omega
    go_enter Tryd.func16, Tryd.ntmps16
    go_wp2_with (go_at_call 58; refine (in12_any _ _ _ _).mono ?_; rintro e w' ⟨rfl, rfl⟩)
    go_ret3
    refine ⟨?_, (Below.refl _ _).alloc (Nat.le_refl _) _⟩
    rw [check_n (by rw [Hn.out]; exact h1)]; rfl
end Go.Proofs.YtkbpmcpmcmnfgaaDoor
