/- Plain: tiles of a row, by bits. Nothing of a program stands here. -/
import Derived.Test.YtpbimgafafkjgaaCTAt
import Derived.Test.YtpbimgafafkjgaaCTRefsK
import Derived.Test.YtpbimgafafkjgaaCTilePure2
set_option linter.unusedVariables false
set_option linter.unusedSimpArgs false
set_option linter.all false
namespace Go.Proofs.Ytpbimgafafkjgaa

def good8 (h : Hall) (l : List Seen) : Bool := decide ((seen8 h l).2 = 0) && agree8 h l
/-- is a number taken -/
def takeB (nt p bits : Nat) (out : List Int) (i : Nat) : Bool := decide (bits / 2 ^ i % 2 = 1) || decide ((nt : Int) - i = (p : Int) - out.length)
def choStep (nt p bits : Nat) (out : List Int) (i : Nat) : List Int := if out.length < p then (if takeB nt p bits out i = true then out ++ [(i : Int)] else out) else out
def choK (nt p bits k : Nat) : List Int := (List.range k).foldl (choStep nt p bits) []
theorem choK_succ (nt p bits k : Nat) : choK nt p bits (k + 1) = choStep nt p bits (choK nt p bits k) k := by
  unfold choK; rw [List.range_succ, List.foldl_append]; rfl
theorem choK_stop {nt p bits k : Nat} (h : ¬ (choK nt p bits k).length < p) : ∀ d, choK nt p bits (k + d) = choK nt p bits k := by
  intro d
  induction d with
  | zero => rfl
  | succ d ih => rw [← Nat.add_assoc, choK_succ, ih, choStep, if_neg h]
theorem choK_len (nt p bits k : Nat) : (choK nt p bits k).length ≤ k := by
  induction k with
  | zero => exact Nat.le_refl _
  | succ k ih =>
    rw [choK_succ, choStep]
    split
    · split
      · rw [List.length_append, List.length_singleton]; omega
      · omega
    · omega
set_option maxRecDepth 100000 in
theorem cho_ok : ∀ nt : Nat, nt < 9 → ∀ p : Nat, p < nt + 1 → ∀ bits : Nat, bits < 256 → tilesE nt p (choK nt p bits nt) = 0 := by decide +kernel

end Go.Proofs.Ytpbimgafafkjgaa

namespace Go.Proofs.Ytpbimgafafkjgaa
open Go.RowKit

theorem in40_any (n lo hi : Int) (w : World) :
    Calls Try.prog 40 #[.int .i64 n, .agg #[.int .i64 lo, .int .i64 hi]] w fun e w' => e = .returned (.bool (inB n lo hi)) ∧ Below w.heap.size w w' := by
  have hB := bl_alloc (Below.refl w.heap.size w) (.cells #[.int .i64 lo, .int .i64 hi] 23) (Nat.le_refl _)
  by_cases h1 : lo ≤ n
  · by_cases h2 : n ≤ hi
    · have HR : Hid (inB n lo hi = true) := by rw [Hid]; simp [inB, h1, h2]
      go_enter Try.func40, Try.ntmps40
      go_wp2
      go_ret
      exact ⟨ret_bool HR.out.symm, hB⟩
    · have HR : Hid (inB n lo hi = false) := by rw [Hid]; simp [inB, h1, h2]
      go_enter Try.func40, Try.ntmps40
      go_wp2
      go_ret
      exact ⟨ret_bool HR.out.symm, hB⟩
  · have HR : Hid (inB n lo hi = false) := by rw [Hid]; simp [inB, h1]
    go_enter Try.func40, Try.ntmps40
    go_wp2
    go_ret
    exact ⟨ret_bool HR.out.symm, hB⟩

set_option maxHeartbeats 1000000 in
theorem good_any {A B C : Option Addr} {n ca m cb q cc : Nat} {h : Hall} {l : List Seen} {alo ahi most : Int} (w : World) (g : HallAt (fun _ => True) w A n B m h) (gs : Seens (fun _ => True) w C q l) (h1 : h.alo = alo) (h2 : h.ahi = ahi) (h3 : h.most = most) :
    Calls Try.prog 43 #[.agg #[.int .i64 alo, .int .i64 ahi, .int .i64 most, .slice A n ca, .slice B m cb], .slice C q cc] w fun e w' => e = .returned (.bool (good8 h l)) ∧ Below w.heap.size w w' := by
  obtain ⟨W, hW⟩ : ∃ W, w.alloc (.cells #[.int .i64 alo, .int .i64 ahi, .int .i64 most, .slice A n ca, .slice B m cb] 27) = W := ⟨_, rfl⟩
  have X : Blk W w.heap.size 27 #[.int .i64 alo, .int .i64 ahi, .int .i64 most, .slice A n ca, .slice B m cb] := by rw [← hW]; exact Blk.new _ _ _ rfl
  have hBW : Below w.heap.size w W := by rw [← hW]; exact bl_alloc (Below.refl _ _) _ (Nat.le_refl _)
  have HG := Lib.hid g
  have HGS := Lib.hid gs
  have x0 := X.cell 0
  have x1 := X.cell 1
  have x2 := X.cell 2
  have x3 := X.cell 3
  have x4 := X.cell 4
  obtain ⟨E, hE⟩ : ∃ E, (seen8 h l).2 = E := ⟨_, rfl⟩
  have hcall := rseen_any (ca := ca) (cb := cb) (cc := cc) W (HG.out.keep (Keeps.below hBW)) (HGS.out.keep SeenR.good (Keeps.below hBW)) h1 h2 h3
  rw [hE] at hcall
  clear g gs
  go_enter Try.func43, Try.ntmps43
  go_wp2_with fail
  refine hcall.mono ?_
  rintro e W1 ⟨rfl, b1⟩
  clear hcall hW x0 x1 x2 x3 x4
  have hX := X.bl b1
  have x0 := hX.cell 0
  have x1 := hX.cell 1
  have x2 := hX.cell 2
  have x3 := hX.cell 3
  have x4 := hX.cell 4
  have HB1 := Lib.hid (bl_call hBW b1 (Nat.le_refl _))
  clear X b1 hBW hX
  by_cases h0 : E = 0
  · subst h0
    obtain ⟨h6, h7, h8⟩ := seen_air hE
    have HR : Hid (good8 h l = agree8 h l) := by rw [Hid, good8, hE]; simp
    have hc2 := ragree_any (ca := ca) (cb := cb) (cc := cc) (v1 := .int .i64 alo) (v2 := .int .i64 ahi) (v3 := .int .i64 most) W1 (HG.out.keep (Keeps.below HB1.out)) (HGS.out.keep SeenR.good (Keeps.below HB1.out)) rfl rfl rfl h6 h7 h8
    clear h6 h7 h8 hE
    generalize (seen8 h l).1 = p1
    go_wp2_with fail
    refine hc2.mono ?_
    rintro e W2 ⟨rfl, b2⟩
    clear hc2
    go_wp2
    go_ret
    exact ⟨ret_bool HR.out.symm, bl_call HB1.out b2 (Nat.le_refl _)⟩
  · have hb0 : (E == 0) = false := by simpa using h0
    have HR : Hid (good8 h l = false) := by rw [Hid, good8, hE]; simp [h0]
    clear hE h0
    generalize (seen8 h l).1 = p1
    go_wp2_with fail
    go_ret
    exact ⟨ret_bool HR.out.symm, HB1.out⟩

set_option maxRecDepth 100000 in
set_option maxHeartbeats 2000000 in
theorem chosen_any {A B : Option Addr} {n ca m cb row bits : Nat} {h : Hall} {v1 v2 v3 : Value} (w : World) (g : HallAt (fun _ => True) w A n B m h) (hv1 : v1.oneCell' = true) (hv2 : v2.oneCell' = true) (hv3 : v3.oneCell' = true) (hk : OkH h) (hr : row < m) (hb : bits < 256) :
    Calls Try.prog 41 #[.agg #[v1, v2, v3, .slice A n ca, .slice B m cb], .int .i64 row, .int .u8 bits] w fun e w' => IsNew w.heap.size (choK n (rowP h row) bits n) e w' ∧ Below w.heap.size w w' := by
  obtain ⟨i0, hi0, hz0, hz1, hz2⟩ := info_parts infoI8
  have Hm := Lib.hid g.rs.len
  have Hn := Lib.hid g.ts.len
  obtain ⟨b, off, fr, sw, pl, rfl, hbb, r0, r1, r2, Hx⟩ := RowTs.get g.rs (k := row) hr
  have hre := hk.row (k := row) (by rw [Hm.out]; exact hr)
  obtain ⟨f1, f2, f3, f4, f5, f6⟩ := rowE_zero Hx.out hre
  have hnt := hk.nt
  rw [Hn.out] at hnt f6
  obtain ⟨p, rfl⟩ := Int.eq_ofNat_of_zero_le (show 0 ≤ pl by omega)
  have HP : Hid (rowP h row = p) := by rw [Hid, rowP, getD_of Hx.out]; rfl
  rw [HP.out]
  obtain ⟨W, hW⟩ : ∃ W, w.alloc (.cells #[v1, v2, v3, .slice A n ca, .slice (some ⟨b, off, none⟩) m cb] 27) = W := ⟨_, rfl⟩
  have X : Blk W w.heap.size 27 #[v1, v2, v3, .slice A n ca, .slice (some ⟨b, off, none⟩) m cb] := by rw [← hW]; exact Blk.new _ _ _ rfl
  have hBW : Below w.heap.size w W := by rw [← hW]; exact bl_alloc (Below.refl _ _) _ (Nat.le_refl _)
  have hc2 := getc hBW r2
  have hri : (row : Int) < m := by omega
  have hle := g.rs.le
  have HX := Lib.hid X
  have HC := Lib.hid hc2
  clear g hk hbb r0 r1 r2 hre X
  go_enter Try.func41, Try.ntmps41
  go_wp2_with fail
  clear hW hc2
  go_loopw [7, 8] (fun o i wr => ∃ (k len cap : Nat) (An : Option Addr), k ≤ n ∧ i = .int .i64 k ∧ o = .slice An len cap ∧ len ≤ k ∧ Below W.heap.size W wr ∧ OwnL IntR 1 (fun _ => False) wr W.heap.size 3 (.slice An len cap) (choK n p bits k) ∧ Hid ((choK n p bits k).length = len)) (fun _ i _ => n - (intOf i).toNat)
  case atStart => exact ⟨0, 0, 0, none, Nat.zero_le _, rfl, rfl, Nat.le_refl _, Below.refl _ _, OwnL.nil _ _ _ _ _ _, rfl⟩
  case round =>
    obtain ⟨k, len, cap, An, hk, rfl, rfl, hlen, hB, hO, Hlen⟩ := hrel
    have hR := HX.out.bl hB
    have x3 := hR.cell 3
    have x4 := hR.cell 4
    have k2 := getc hB HC.out
    by_cases hlt : k < n
    · have hki : (k : Int) < n := by omega
      by_cases hlp : len < p
      · have hlpi : (len : Int) < p := by omega
        have HSx := Lib.hid (choK_succ n p bits k)
        have hs1 : IntKind.i64.wrap ((n : Int) - k) = (n : Int) - k := by rw [IntKind.wrap_i64]; omega
        have hs2 : IntKind.i64.wrap ((p : Int) - len) = (p : Int) - len := by rw [IntKind.wrap_i64]; omega
        obtain ⟨qb, hqb⟩ : ∃ qb : Bool, decide (bits / 2 ^ k % 2 = 1) = qb := ⟨_, rfl⟩
        have hqv : (((bits : Int) / 2 ^ k).tmod 2 == 1) = qb := by
          rw [show ((bits : Int) / 2 ^ k) = ((bits / 2 ^ k : Nat) : Int) by push_cast; rfl, ← hqb]
          generalize bits / 2 ^ k = x
          rw [Int.tmod_eq_emod_of_nonneg (Int.natCast_nonneg x)]
          have e2 : ((x : Int) % 2) = ((x % 2 : Nat) : Int) := rfl
          rw [e2]
          by_cases hh : x % 2 = 1
          · simp [hh]
          · have h0 : x % 2 = 0 := by omega
            simp [h0]
        have HQB := Lib.hid hqb
        clear hqb
        cases qb with
        | true =>
            have HS2 : Hid (choK n p bits (k + 1) = choK n p bits k ++ [(k : Int)]) := by
              rw [Hid, HSx.out, choStep, if_pos (by rw [Hlen.out]; exact hlp), if_pos (by unfold takeB; rw [HQB.out]; rfl)]
            go_wp2_with fail
            go_quiet (fail)
            go_wp2_with (at_builtin; refine wpList_append_n _ rfl (.tmp 49) (.tmp 51) _ rfl IntR.good W.heap.size 3 i0 _ 8 Try.underlying39 hi0 hz0 hz1 hz2 rfl (by omega) _ (choK n p bits k) (k : Int) len Hlen.out rfl ((hO.keep IntR.good (Keeps.drewN _ _)).alloc IntR.good _) ⟨_, 0, none⟩ 1 [.int .i64 k] rfl rfl (news_new rfl rfl) ?c1 ?c2 ?c3 (fun h => h) ?_)
            case c1 => simp only [maxLen]; omega
            case c2 => omega
            case c3 => have := hB.size; simp; omega
            intro A' cap' w2 hown2 hg2 hat2
            have hB3 : Below W.heap.size W w2 := bl_grown (bl_alloc (bl_drewN hB _) _ (Nat.le_refl _)) ((hO.keep IntR.good (Keeps.drewN _ _)).alloc IntR.good _) hg2 (Nat.le_refl _) (Nat.le_refl _)
            clear hg2 hat2 hO hB
            go_wp2
            go_roundw
            case rel => exact ⟨k + 1, len + 1, cap', _, by omega, by go_num, rfl, by omega, hB3, by rw [HS2.out]; exact hown2, by rw [Hid, HS2.out, List.length_append, Hlen.out]; rfl⟩
            case measure => simp [intOf]; omega
        | false =>
          by_cases hrest : (n : Int) - k = (p : Int) - len
          · have hrb : ((n : Int) - k == (p : Int) - len) = true := by rw [hrest]; simp
            have HS2 : Hid (choK n p bits (k + 1) = choK n p bits k ++ [(k : Int)]) := by
              rw [Hid, HSx.out, choStep, if_pos (by rw [Hlen.out]; exact hlp), if_pos (by unfold takeB; rw [HQB.out, Hlen.out, decide_eq_true hrest]; rfl)]
            clear hrest
            go_wp2_with fail
            go_quiet (fail)
            go_wp2_with (at_builtin; refine wpList_append_n _ rfl (.tmp 49) (.tmp 51) _ rfl IntR.good W.heap.size 3 i0 _ 8 Try.underlying39 hi0 hz0 hz1 hz2 rfl (by omega) _ (choK n p bits k) (k : Int) len Hlen.out rfl ((hO.keep IntR.good (Keeps.drewN _ _)).alloc IntR.good _) ⟨_, 0, none⟩ 1 [.int .i64 k] rfl rfl (news_new rfl rfl) ?c1 ?c2 ?c3 (fun h => h) ?_)
            case c1 => simp only [maxLen]; omega
            case c2 => omega
            case c3 => have := hB.size; simp; omega
            intro A' cap' w2 hown2 hg2 hat2
            have hB3 : Below W.heap.size W w2 := bl_grown (bl_alloc (bl_drewN hB _) _ (Nat.le_refl _)) ((hO.keep IntR.good (Keeps.drewN _ _)).alloc IntR.good _) hg2 (Nat.le_refl _) (Nat.le_refl _)
            clear hg2 hat2 hO hB
            go_wp2
            go_roundw
            case rel => exact ⟨k + 1, len + 1, cap', _, by omega, by go_num, rfl, by omega, hB3, by rw [HS2.out]; exact hown2, by rw [Hid, HS2.out, List.length_append, Hlen.out]; rfl⟩
            case measure => simp [intOf]; omega
          · have hrb : ((n : Int) - k == (p : Int) - len) = false := by simpa using hrest
            have HS2 : Hid (choK n p bits (k + 1) = choK n p bits k) := by
              rw [Hid, HSx.out, choStep, if_pos (by rw [Hlen.out]; exact hlp), if_neg (by unfold takeB; rw [HQB.out, Hlen.out, decide_eq_false hrest]; simp)]
            clear hrest
            go_wp2_with fail
            go_quiet (fail)
            go_wp2
            go_roundw
            case rel => exact ⟨k + 1, len, cap, An, by omega, by go_num, rfl, by omega, bl_drewN hB _, by rw [HS2.out]; exact hO.keep IntR.good (Keeps.drewN _ _), by rw [Hid, HS2.out]; exact Hlen.out⟩
            case measure => simp [intOf]; omega
      · have hlpi : ¬ (len : Int) < p := by omega
        have HE : Hid (choK n p bits n = choK n p bits k) := by
          have := choK_stop (nt := n) (p := p) (bits := bits) (k := k) (by rw [Hlen.out]; exact hlp) (n - k)
          rwa [show k + (n - k) = n by omega] at this
        go_wp2_with fail
        go_ret
        refine ⟨⟨An, cap, by rw [HE.out, Hlen.out]; rfl, ?_, by rw [HE.out, Hlen.out]; exact hO.cap8⟩, bl_call hBW hB (Nat.le_refl _)⟩
        rw [HE.out, Hlen.out]
        exact hO.slice IntR.good rfl (by simp only [maxLen]; omega) (fun _ h => h.elim) (fun _ h _ => Nat.le_trans hBW.size h)
    · obtain rfl : k = n := by omega
      go_wp2_with fail
      go_ret
      refine ⟨⟨An, cap, by rw [Hlen.out]; rfl, ?_, by rw [Hlen.out]; exact hO.cap8⟩, bl_call hBW hB (Nat.le_refl _)⟩
      rw [Hlen.out]
      exact hO.slice IntR.good rfl (by simp only [maxLen]; omega) (fun _ h => h.elim) (fun _ h _ => Nat.le_trans hBW.size h)

end Go.Proofs.Ytpbimgafafkjgaa

namespace Go.Proofs.Ytpbimgafafkjgaa

theorem asked_fine {h : Hall} {l : List Seen} {row : Nat} {tl : List Int} (e1 : (seen8 h l).2 = 0) (hr : row < h.rows.length) (et : tilesE h.tiles.length (h.rows.getD row dRow).places tl = 0) (ha : agree8 h l = true) : asked8 h l row tl = 0 := by
  unfold asked8
  rw [if_neg (by simp [e1]), if_neg (by simp [inB]; omega), Int.toNat_natCast, if_neg (by rw [et]; decide), if_neg (by rw [ha]; decide)]
theorem good8_parts {h : Hall} {l : List Seen} (e : good8 h l = true) : (seen8 h l).2 = 0 ∧ agree8 h l = true := by
  unfold good8 at e
  rw [Bool.and_eq_true, decide_eq_true_eq] at e
  exact e
theorem cho_at {h : Hall} {row bits : Nat} (hk : OkH h) (hr : row < h.rows.length) (hb : bits < 256) : tilesE h.tiles.length (h.rows.getD row dRow).places (choK h.tiles.length (rowP h row) bits h.tiles.length) = 0 := by
  have hx : h.rows[row]? = some ⟨(h.rows[row]).frame, (h.rows[row]).swell, (h.rows[row]).places⟩ := List.getElem?_eq_getElem hr
  have h1 := rowE_zero hx (hk.row hr)
  have hnt := hk.nt
  have hp : (h.rows.getD row dRow).places = (rowP h row : Nat) := by
    unfold rowP
    rw [getD_of hx]
    dsimp only
    omega
  rw [hp]
  have h2 : rowP h row ≤ h.tiles.length := by
    have : ((rowP h row : Nat) : Int) = (h.rows[row]).places := by rw [← hp, getD_of hx]
    omega
  exact cho_ok _ (by omega) _ (by omega) _ hb
/-- Why: the tiles fit, or they do not in the air that it names -/
theorem why_parts {h : Hall} {l : List Seen} {row : Nat} {tl : List Int} (e : asked8 h l row tl = 0) (hal : h.alo ≤ h.ahi) : whyR h l row tl = (0, 0, 0) ∨ ∃ (r a : Int), whyR h l row tl = (r, a, 0) ∧ h.alo ≤ a ∧ a ≤ h.ahi ∧ ((r = 1 ∧ (at8 h l row tl a).1 < 0) ∨ (r = 2 ∧ (at8 h l row tl a).2 > h.most)) := by
  unfold whyR
  rw [if_neg (by rw [e]; decide)]
  unfold whyUpto
  rw [Int.toNat_natCast]
  rcases firstErr_cases (fun n => wrong8 h.most (at8 h l row tl (h.alo + n))) (h.ahi - h.alo + 1).toNat with ⟨h1, _⟩ | ⟨k, hk, h1, h2, _⟩
  · rw [h1]; exact .inl rfl
  · rw [h1]
    refine .inr ⟨_, _, rfl, by omega, by omega, ?_⟩
    revert h2
    unfold wrong8
    split
    · rename_i h3; intro _; exact .inl ⟨rfl, h3⟩
    · split
      · rename_i h3; intro _; exact .inr ⟨rfl, h3⟩
      · intro h4; exact absurd rfl h4
theorem width_ok {h : Hall} {l : List Seen} {t : Nat} {a : Int} (e1 : (seen8 h l).2 = 0) (ha : agree8 h l = true) (ht : t < h.tiles.length) (h0 : 0 ≤ a) (h40 : a ≤ 40) : width8 h l t a = (wide8 h l t a, 0) := by
  unfold width8
  rw [if_neg (by simp [e1]), if_neg (by simp [inB]; omega), if_neg (by simp [inB]; omega), if_neg (by rw [ha]; decide), Int.toNat_natCast]

end Go.Proofs.Ytpbimgafafkjgaa
