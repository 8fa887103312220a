/- Walks: the law TileOrder. -/
import Derived.Test.YtnaadjhiahjlfaaCTApp3
import Derived.Test.YtnaadjhiahjlfaaCTGood8
import Derived.Test.YtnaadjhiahjlfaaCTLaw2
import Derived.Test.YtnaadjhiahjlfaaCTOrdP
import Derived.Test.YtnaadjhiahjlfaaCTRegs
import Derived.Test.YtnaadjhiahjlfaaCTValid8
set_option linter.unusedVariables false
set_option linter.unusedSimpArgs false
set_option linter.all false
namespace Go.Proofs.Ytnaadjhiahjlfaa
open Go.RowKit

theorem good8_parts {h : Hall} {l : List Seen} (e : good8 h l = true) : (seen8 h l).2 = 0 ∧ agree8 h l = true := by
  unfold good8 at e
  rw [Bool.and_eq_true, decide_eq_true_eq] at e
  exact e
theorem infoSeenO : (Try.prog.info? 34).map (fun i => (i.zero, i.size, i.bytes)) = some (some (.agg #[.int .i64 0, .int .i64 0, .int .i64 0, .int .i64 0]), 4, 32) := by kernel_rfl
theorem infoRowO : (Try.prog.info? 36).map (fun i => (i.zero, i.size, i.bytes)) = some (some (.agg #[.int .i64 0, .int .i64 0, .int .i64 0]), 3, 24) := by kernel_rfl
/-- what the operations promise that put one more tile that is seen somewhere; 10: the append of one, 14: that of the rest -/
def ordE (B : Nat) (sv lv v3 v13 : Value) (k r bC oC : Nat) (y : Seen) (s : List Seen) : Nat → Bool → Bool → Value → World → Prop
  | 0, p, _, v, W => p = true ∨ ∃ g, B ≤ g ∧ v = .slice (some ⟨g, 0, none⟩) 0 0 ∧ Blk W g 34 #[]
  | 1, _, _, v, _ => v = sv
  | 2, _, _, v, _ => v = .int .i64 r
  | 3, _, _, v, _ => v = v3
  | 4, p, _, v, W => p = true ∨ ∃ A c, v = .slice A r c ∧ OwnL SeenR 4 (fun _ => False) W B 34 v (s.take r)
  | 5, _, _, v, _ => v = lv
  | 6, _, _, v, _ => v = .int .i64 k
  | 7, _, _, v, _ => v = .pointer (some ⟨bC, oC + k * 4, none⟩)
  | 8, _, _, v, _ => v = .agg #[.int .i64 y.tile, .int .i64 y.air, .int .i64 y.lo, .int .i64 y.hi]
  | 9, p, _, v, W => p = true ∨ ∃ g, v = .slice (some ⟨g, 0, none⟩) 1 1 ∧ Blk W g 34 #[.int .i64 y.tile, .int .i64 y.air, .int .i64 y.lo, .int .i64 y.hi]
  | 10, _, e, v, W => e = true ∨ ∃ A c, v = .slice A (r + 1) c ∧ OwnL SeenR 4 (fun _ => False) W B 34 v (s.take r ++ [y])
  | 11, _, _, v, _ => v = sv
  | 12, _, _, v, _ => v = .int .i64 r
  | 13, _, _, v, _ => v = v13
  | 14, _, _, v, W => ∃ A c, v = .slice A (k + 1) c ∧ OwnL SeenR 4 (fun _ => False) W B 34 v (s.take r ++ [y] ++ s.drop r)
  | _, _, _, _, _ => True
theorem ordE_stab (B : Nat) (sv lv v3 v13 : Value) (k r bC oC : Nat) (y : Seen) (s : List Seen) : ∀ i p e v w w', Below w.heap.size w w' → ordE B sv lv v3 v13 k r bC oC y s i p e v w → ordE B sv lv v3 v13 k r bC oC y s i p e v w'
  | 0, _, _, _, _, _, hb, h => h.imp id fun ⟨g, h1, h2, h3⟩ => ⟨g, h1, h2, h3.bl hb⟩
  | 4, _, _, _, _, _, hb, h => h.imp id fun ⟨A, c, h1, h2⟩ => ⟨A, c, h1, h2.below SeenR.good hb⟩
  | 9, _, _, _, _, _, hb, h => h.imp id fun ⟨g, h1, h2⟩ => ⟨g, h1, h2.bl hb⟩
  | 10, _, _, _, _, _, hb, h => h.imp id fun ⟨A, c, h1, h2⟩ => ⟨A, c, h1, h2.below SeenR.good hb⟩
  | 14, _, _, _, _, _, hb, ⟨A, c, h1, h2⟩ => ⟨A, c, h1, h2.below SeenR.good hb⟩
  | 1, _, _, _, _, _, _, h => h
  | 2, _, _, _, _, _, _, h => h
  | 3, _, _, _, _, _, _, h => h
  | 5, _, _, _, _, _, _, h => h
  | 6, _, _, _, _, _, _, h => h
  | 7, _, _, _, _, _, _, h => h
  | 8, _, _, _, _, _, _, h => h
  | 11, _, _, _, _, _, _, h => h
  | 12, _, _, _, _, _, _, h => h
  | 13, _, _, _, _, _, _, h => h
  | _ + 15, _, _, _, _, _, _, _ => trivial
/-- what the operations promise that put one more row behind the turned ones; 8: the append -/
def turE (B : Nat) (sv hv : Value) (g10 g0 j i b off : Nat) (x : RowT) (L : List RowT) : Nat → Bool → Value → World → Prop
  | 0, _, v, _ => v = .pointer (some ⟨g10, 4, none⟩)
  | 1, _, v, _ => v = sv
  | 2, _, v, _ => v = .pointer (some ⟨g0, 4, none⟩)
  | 3, _, v, _ => v = hv
  | 4, _, v, _ => v = .int .i64 i
  | 5, _, v, _ => v = .pointer (some ⟨b, off + i * 3, none⟩)
  | 6, _, v, _ => v = .agg #[.int .i64 x.frame, .int .i64 x.swell, .int .i64 x.places]
  | 7, p, v, W => p = true ∨ ∃ g, v = .slice (some ⟨g, 0, none⟩) 1 1 ∧ Blk W g 36 #[.int .i64 x.frame, .int .i64 x.swell, .int .i64 x.places]
  | 8, _, v, W => ∃ A c, v = .slice A (j + 1) c ∧ OwnL RowR 3 (fun _ => False) W B 36 v (L ++ [x])
  | 9, _, v, _ => v = .pointer (some ⟨g10, 4, none⟩)
  | _, _, _, _ => True
theorem turE_stab (B : Nat) (sv hv : Value) (g10 g0 j i b off : Nat) (x : RowT) (L : List RowT) : ∀ k p v w w', Below w.heap.size w w' → turE B sv hv g10 g0 j i b off x L k p v w → turE B sv hv g10 g0 j i b off x L k p v w'
  | 7, _, _, _, _, hb, h => h.imp id fun ⟨g, h1, h2⟩ => ⟨g, h1, h2.bl hb⟩
  | 8, _, _, _, _, hb, ⟨A, c, h1, h2⟩ => ⟨A, c, h1, h2.below RowR.good hb⟩
  | 0, _, _, _, _, _, h => h
  | 1, _, _, _, _, _, h => h
  | 2, _, _, _, _, _, h => h
  | 3, _, _, _, _, _, h => h
  | 4, _, _, _, _, _, h => h
  | 5, _, _, _, _, _, h => h
  | 6, _, _, _, _, _, h => h
  | 9, _, _, _, _, _, h => h
  | _ + 10, _, _, _, _, _, _ => trivial
/-- the invariant of that region: what is kept while the append may write in place -/
structure TurI (B : Nat) (W0 : World) (E : Nat → Bool → Value → World → Prop) (g10 : Nat) (D : Array Value) (sl sv : Value) (ss : List Seen) (L : List RowT) (ls : Nat → Bool) (vs : Nat → Value) (w : World) : Prop where
  bl : Below B W0 w
  blk : Blk w g10 27 D
  seen : OwnL SeenR 4 (fun _ => False) w B 34 sl ss
  rows : ls 8 = false → OwnL RowR 3 (fun _ => False) w B 36 sv L
  all : ∀ i, ls i = true → E i (ls 8) (vs i) w
theorem TurI.step {B : Nat} {W0 : World} {E : Nat → Bool → Value → World → Prop} {g10 : Nat} {D : Array Value} {sl sv : Value} {ss : List Seen} {L : List RowT} {ls : Nat → Bool} {vs : Nat → Value} {w w' : World} {j : Nat} {v : Value} (stab : ∀ i p v w w', Below w.heap.size w w' → E i p v w → E i p v w') (hI : TurI B W0 E g10 D sl sv ss L ls vs w) (hb : Below w.heap.size w w') (hB : B ≤ w.heap.size) (hj : j ≠ 8) (hv : E j (ls 8) v w') : TurI B W0 E g10 D sl sv ss L (updB ls j) (updV vs j v) w' := by
  have h0 : updB ls j 8 = ls 8 := by unfold updB; rw [if_neg (fun e => hj e.symm)]
  refine ⟨hI.bl.trans (hb.mono hB), hI.blk.bl hb, hI.seen.below SeenR.good hb, fun h => (hI.rows (by rw [← h0]; exact h)).below RowR.good hb, fun i hi => ?_⟩
  rw [h0]
  by_cases hij : i = j
  · subst hij; simpa [updV] using hv
  · have : updB ls j i = ls i := by unfold updB; rw [if_neg hij]
    rw [this] at hi
    rw [show updV vs j v i = vs i by simp [updV, hij]]
    exact stab _ _ _ _ _ hb (hI.all i hi)
theorem blk_newsO {w : World} {g : Nat} {t : TypeId} {x y z u : Value} (h : Blk w g t #[x, y, z, u]) {j : Nat} {v : Value} (hv : [x, y, z, u][j]? = some v) : w.cell? ((⟨g, 0, none⟩ : Addr).add j) = some v := by
  have hadd : (⟨g, 0, none⟩ : Addr).add j = ⟨g, j, none⟩ := by unfold Addr.add; split <;> simp_all
  rw [hadd, h.cell]
  simpa using hv
theorem own_low {α : Type} {R : Rd α} {m : Nat} {S : Foot} {w : World} {B base : Nat} {e : TypeId} {v : Value} {xs : List α} (h : OwnL R m S w base e v xs) (hb : B ≤ base) : OwnL R m S w B e v xs := by
  obtain ⟨h1, cells, ho, h2⟩ := h
  refine ⟨h1, cells, ⟨ho.1, ?_⟩, h2⟩
  rcases ho.2 with h3 | ⟨g, cap, cur, e1, e2, h3⟩
  · exact .inl h3
  · exact .inr ⟨g, cap, cur, e1, Nat.le_trans hb e2, h3⟩
/-- an invariant of single promises; two operations may change what the others promise -/
def InvG (B : Nat) (W0 : World) (E : Nat → Bool → Bool → Value → World → Prop) (j0 j1 : Nat) (ls : Nat → Bool) (vs : Nat → Value) (w : World) : Prop :=
  Below B W0 w ∧ ∀ i, ls i = true → E i (ls j0) (ls j1) (vs i) w
theorem InvG.step {B : Nat} {W0 : World} {E : Nat → Bool → Bool → Value → World → Prop} {j0 j1 j : Nat} {ls : Nat → Bool} {vs : Nat → Value} {w w' : World} {v : Value} (stab : ∀ i p q v w w', Below w.heap.size w w' → E i p q v w → E i p q v w') (hI : InvG B W0 E j0 j1 ls vs w) (hb : Below w.heap.size w w') (hB : B ≤ w.heap.size) (hj : j ≠ j0) (hj1 : j ≠ j1) (hv : E j (ls j0) (ls j1) v w') : InvG B W0 E j0 j1 (updB ls j) (updV vs j v) w' := by
  refine ⟨hI.1.trans (hb.mono hB), fun i hi => ?_⟩
  have h0 : updB ls j j0 = ls j0 := by unfold updB; rw [if_neg (fun e => hj e.symm)]
  have h1 : updB ls j j1 = ls j1 := by unfold updB; rw [if_neg (fun e => hj1 e.symm)]
  rw [h0, h1]
  by_cases hij : i = j
  · subst hij; simpa [updV] using hv
  · have : updB ls j i = ls i := by unfold updB; rw [if_neg hij]
    rw [this] at hi
    rw [show updV vs j v i = vs i by simp [updV, hij]]
    exact stab _ _ _ _ _ _ hb (hI.2 i hi)

theorem OwnL.blk {α : Type} {R : Rd α} {m : Nat} {S : Foot} {w : World} {base : Nat} {e : TypeId} {v : Value} {xs : List α} (h : OwnL R m S w base e v xs) {k : Nat} (hk : v.ownBlock = some k) : ∃ cur, Blk w k e cur := by
  obtain ⟨_, cells, ho, _⟩ := h
  rcases ho.2 with ⟨e, _⟩ | ⟨gb, cap, cur, e, _, hgg, _⟩
  · subst e; simp [Value.ownBlock] at hk
  · subst e
    have : gb = k := by simpa [Value.ownBlock] using hk
    subst this
    exact ⟨cur, hgg⟩
theorem Blk.ty {w : World} {g : Nat} {t1 t2 : TypeId} {c1 c2 : Array Value} (h1 : Blk w g t1 c1) (h2 : Blk w g t2 c2) : t1 = t2 := by
  have e := h1.symm.trans h2
  injection e with e
  injection e
set_option maxRecDepth 100000 in
set_option maxHeartbeats 8000000 in
theorem orderLaw_any {A B C D : Option Addr} {n ca m cb q cc xn xc : Nat} {h : Hall} {l : List Seen} {xs : List Nat} {alo ahi most : Int} (w : World) (g : HallAt (fun _ => True) w A n B m h) (gs : Seens (fun _ => True) w C q l) (gx : Bytes (fun _ => True) w D xn xs) (hca : n ≤ ca) (h1 : h.alo = alo) (h2 : h.ahi = ahi) (h3 : h.most = most) :
    Calls Try.prog 3 #[.agg #[.int .i64 alo, .int .i64 ahi, .int .i64 most, .slice A n ca, .slice B m cb], .slice C q cc, .slice D xn xc] w fun e w' => e = .returned (.bool true) ∧ Below w.heap.size w w' := by
  obtain ⟨iS, hiS, hzS0, hzS1, hzS2⟩ := info_parts infoSeenO
  obtain ⟨iR, hiR, hzR0, hzR1, hzR2⟩ := info_parts infoRowO
  have Hq := Lib.hid gs.1
  have Hm := Lib.hid g.rs.len
  have Hn := Lib.hid g.ts.len
  obtain ⟨W0, hW⟩ : ∃ W, w.alloc (.cells #[.int .i64 alo, .int .i64 ahi, .int .i64 most, .slice A n ca, .slice B m cb] 27) = W := ⟨_, rfl⟩
  obtain ⟨g0, hg0⟩ : ∃ g0, w.heap.size = g0 := ⟨_, rfl⟩
  have X : Blk W0 g0 27 #[.int .i64 alo, .int .i64 ahi, .int .i64 most, .slice A n ca, .slice B m cb] := by rw [← hW, ← hg0]; exact Blk.new _ _ _ rfl
  have HBW : Hid (Below w.heap.size w W0) := by rw [Hid, ← hW]; exact bl_alloc (Below.refl _ _) _ (Nat.le_refl _)
  have HG := Lib.hid (g.keep (Keeps.below HBW.out))
  have HS := Lib.hid (gs.keep SeenR.good (Keeps.below HBW.out))
  have HX := Lib.hid (gx.keep ByteR.good (Keeps.below HBW.out))
  have kk : Hid (∀ V, Below W0.heap.size W0 V → V.cell? ⟨g0, 0, none⟩ = some (.int .i64 alo) ∧ V.cell? ⟨g0, 1, none⟩ = some (.int .i64 ahi) ∧ V.cell? ⟨g0, 2, none⟩ = some (.int .i64 most) ∧ V.cell? ⟨g0, 3, none⟩ = some (.slice A n ca) ∧ V.cell? ⟨g0, 4, none⟩ = some (.slice B m cb)) :=
    fun V hb => ⟨(X.bl hb).cell 0, (X.bl hb).cell 1, (X.bl hb).cell 2, (X.bl hb).cell 3, (X.bl hb).cell 4⟩
  clear X g gs gx
  obtain ⟨x0, x1, x2, x3, x4⟩ := kk.out W0 (Below.refl _ _)
  go_enter Try.func3, Try.ntmps3
  go_wp2_with fail
  clear hW
  clear x0 x1 x2 x3 x4
  refine (valid_any W0 HG.out h1 h2 h3).mono ?_
  rintro e V1 ⟨rfl, b1⟩
  obtain ⟨vb, hvb⟩ : ∃ vb, decide ((check8 h).2.2 = 0) = vb := ⟨_, rfl⟩
  rw [hvb]
  cases vb with
  | false =>
    clear hvb
    go_wp2_with fail
    refine (awake_any V1).mono ?_
    rintro e Vz ⟨rfl, cz⟩
    go_wp2
    go_ret
    exact ⟨by rfl, bl_call HBW.out (bl_call b1 cz (Nat.le_refl _)) (Nat.le_refl _)⟩
  | true =>
    have HCK : Hid ((check8 h).2.2 = 0) := by rw [Hid]; simpa using hvb
    have HKK : Hid (OkH h) := okH_of HCK.out
    clear hvb
    by_cases hq6 : 6 < q
    · have hqi : (6 : Int) < q := by omega
      have hqj : (q : Int) > 6 := by omega
      go_wp2_with fail
      refine (awake_any V1).mono ?_
      rintro e Vz ⟨rfl, cz⟩
      go_wp2
      go_ret
      exact ⟨by rfl, bl_call HBW.out (bl_call b1 cz (Nat.le_refl _)) (Nat.le_refl _)⟩
    · have hqi : ¬ (6 : Int) < q := by omega
      have hqj : ¬ (q : Int) > 6 := by omega
      go_wp2_with fail
      clear hqi hqj
      go_loopw [7, 8] (fun sv i wr => ∃ (k c : Nat) (An : Option Addr), i = .int .i64 k ∧ k ≤ q ∧ sv = .slice An k c ∧ OwnL SeenR 4 (fun _ => False) wr W0.heap.size 34 (.slice An k c) (insK xs l k) ∧ Below W0.heap.size W0 wr) (fun _ i _ => q - (intOf i).toNat)
      case atStart => exact ⟨0, 0, none, rfl, Nat.zero_le _, rfl, OwnL.nil _ _ _ _ _ _, b1⟩
      case round =>
        clear b1
        obtain ⟨k, c, An, rfl, hk, rfl, hO, hB⟩ := hrel
        by_cases hlt : k < q
        · have hki : (k : Int) < q := by omega
          obtain ⟨tv, htv⟩ : ∃ t, turnL xs k = t := ⟨_, rfl⟩
          have HTV := Lib.hid htv
          obtain ⟨r, hr⟩ : ∃ r, tv % (k + 1) = r := ⟨_, rfl⟩
          have hrk : r < k + 1 := by rw [← hr]; exact Nat.mod_lt _ (by omega)
          have hmod : ((tv : Int)).tmod ((k : Int) + 1) = (r : Int) := by
            rw [Int.tmod_eq_emod_of_nonneg (by omega), ← hr]; rfl
          have HR : Hid (turnL xs k % (k + 1) = r) := by rw [Hid, htv, hr]
          have hw25 : IntKind.i64.wrap ((k : Int) + 1) = (k : Int) + 1 := by rw [IntKind.wrap_i64]; omega
          have hmz : ¬ ((k : Int) + 1) = 0 := by omega
          have hmz2 : (((k : Int) + 1) == 0) = false := by simp; omega
          clear htv hr
          have HO := Lib.hid hO
          have hcap := OwnL.cap8 hO
          clear hO
          go_wp2_with fail
          refine (turn_any k _ (HX.out.keep ByteR.good (Keeps.below hB))).mono ?_
          rintro e w2 ⟨rfl, rfl⟩
          rw [HTV.out]
          go_wp2_with fail
          clear hmod hw25 hmz hmz2
          obtain ⟨bC, oC, ct, ca9, cl9, ch9, rfl, hbC, k0, k1, k2, k3, Hy⟩ := Seens.get (HS.out.keep SeenR.good (Keeps.below hB)) hlt
          have HK0 := Lib.hid k0
          have HK1 := Lib.hid k1
          have HK2 := Lib.hid k2
          have HK3 := Lib.hid k3
          clear k0 k1 k2 k3 hbC
          obtain ⟨s, hs⟩ : ∃ s, insK xs l k = s := ⟨_, rfl⟩
          rw [hs] at HO
          have Hsl : Hid (s.length = k) := by rw [Hid, ← hs]; exact insK_len xs l k
          have HNX : Hid (insK xs l (k + 1) = s.take r ++ [⟨ct, ca9, cl9, ch9⟩] ++ s.drop r) := by
            rw [Hid, insK, hs, HR.out, getD_of Hy.out, List.append_assoc]; rfl
          clear hs
          have hk5 : k ≤ 5 := by omega
          have hri : (r : Int) ≤ c := by omega
          have hrk2 : (r : Int) ≤ k := by omega
          have hrn : ¬ (r : Int) < 0 := by omega
          cases An with
          | none =>
            have hs0 : s = [] := by
              obtain ⟨_, cells, ho, _⟩ := HO.out
              rcases ho.2 with ⟨_, h0⟩ | ⟨g9, cap, cur, e, _⟩
              · exact List.eq_nil_of_length_eq_zero h0
              · injection e with e; cases e
            have HSV : Hid (Seens (fun _ => True) w2 none k s) := HO.out.slice SeenR.good rfl (by simp only [maxLen]; omega) (fun _ _ => trivial) (fun _ _ _ => trivial)
            have HT3 : Hid (Seens (fun _ => True) w2 none r (s.take r)) := HSV.out.take (by omega)
            have HT13 : Hid (Seens (fun _ => True) w2 none (k - r) (s.drop r)) := ⟨by rw [List.length_drop, Hsl.out], by simp only [maxLen]; omega, fun j x hx => by rw [hs0] at hx; simp at hx⟩
            clear hs0
            have AS := Lib.hid (ordE_stab w2.heap.size (.slice none k c) (.slice (some ⟨bC, oC, none⟩) q cc) (.slice none r c) (.slice none (k - r) (c - r)) k r bC oC ⟨ct, ca9, cl9, ch9⟩ s)
            refine wp_region_invs (fun ls vs ww => InvG w2.heap.size w2 (ordE w2.heap.size (.slice none k c) (.slice (some ⟨bC, oC, none⟩) q cc) (.slice none r c) (.slice none (k - r) (c - r)) k r bC oC ⟨ct, ca9, cl9, ch9⟩ s) 10 14 ls vs ww) 15 (by kernel_rfl) (by kernel_rfl) (by kernel_rfl) (by rfl) ⟨(Below.refl _ _).drew, fun i h => by cases h⟩ ?step (by rfl) (by rfl) ?fin
            case step =>
              refine StepsI.cons ?_ (StepsI.cons ?_ (StepsI.cons ?_ (StepsI.cons ?_ (StepsI.cons ?_ (StepsI.cons ?_ (StepsI.cons ?_ (StepsI.cons ?_ (StepsI.cons ?_ (StepsI.cons ?_ (StepsI.cons ?_ (StepsI.cons ?_ (StepsI.cons ?_ (StepsI.cons ?_ (StepsI.cons ?_ StepsI.nil))))))))))))))
              all_goals
                refine StepI.of ?_
                intro ls vs W K hI hl hw hU hK
                simp only [fillA, Act.put, List.setIfInBounds_toArray, List.set_cons_zero, List.set_cons_succ, Nat.zero_add, Nat.reduceAdd] at hK ⊢
                simp [waits, Region.binds] at hw
                have hC := hI.1
              · go_simp
                exact hK _ _ (hI.step AS.out (bl_alloc (Below.refl _ _) _ (Nat.le_refl _)) hC.size (by decide) (by decide) (.inr ⟨_, hC.size, rfl, Blk.new _ _ _ rfl⟩))
              · have h15 : vs 15 = .slice none k c := (hU 15 _ rfl (by simp [waits, Region.binds])).2
                simp only [h15] at hK ⊢
                go_simp
                exact hK _ _ (hI.step AS.out (Below.refl _ _) hC.size (by decide) (by decide) rfl)
              · go_simp
                exact hK _ _ (hI.step AS.out (Below.refl _ _) hC.size (by decide) (by decide) rfl)
              · have q1 : vs 1 = _ := hI.2 1 (by simp [hw])
                have q2 : vs 2 = _ := hI.2 2 (by simp [hw])
                simp only [q1, q2] at hK ⊢
                go_simp
                exact hK _ _ (hI.step AS.out (Below.refl _ _) hC.size (by decide) (by decide) rfl)
              · have h10x : ls 10 = false := (hU 10 _ rfl (by simp [waits, Region.binds])).1
                obtain ⟨gl, hgl, hv0, hBl⟩ := (hI.2 0 (by simp [hw])).resolve_left (by rw [h10x]; decide)
                have q3 : vs 3 = _ := hI.2 3 (by simp [hw])
                simp only [hv0, q3] at hK ⊢
                rw [if_pos (by rfl)]
                refine wp_append_lit W (.tmp 42) (.tmp 45) _ rfl SeenR.good (T := fun _ => True) (S := fun _ => False) w2.heap.size 34 iS _ 32 Try.underlying28 hiS hzS0 hzS1 hzS2 rfl (by decide) gl rfl hBl hgl none r c (s.take r) rfl (HT3.out.keep SeenR.good (Keeps.below hC)) (fun y vs hr => hr) (by simp only [maxLen]; omega) (by omega) hC.size (fun h => h) (fun h => h) ?_
                intro A2 c2 w' hO2 hb
                exact hK _ _ (hI.step AS.out hb hC.size (by decide) (by decide) (.inr ⟨A2, c2, rfl, hO2⟩))
              · go_simp
                exact hK _ _ (hI.step AS.out (Below.refl _ _) hC.size (by decide) (by decide) rfl)
              · go_simp
                exact hK _ _ (hI.step AS.out (Below.refl _ _) hC.size (by decide) (by decide) rfl)
              · have q5 : vs 5 = _ := hI.2 5 (by simp [hw])
                have q6 : vs 6 = _ := hI.2 6 (by simp [hw])
                simp only [q5, q6] at hK ⊢
                go_simp
                exact hK _ _ (hI.step AS.out (Below.refl _ _) hC.size (by decide) (by decide) rfl)
              · have q7 : vs 7 = _ := hI.2 7 (by simp [hw])
                simp only [q7] at hK ⊢
                have k0 := getc hC HK0.out
                have k1 := getc hC HK1.out
                have k2 := getc hC HK2.out
                have k3 := getc hC HK3.out
                go_simp
                exact hK _ _ (hI.step AS.out (Below.refl _ _) hC.size (by decide) (by decide) rfl)
              · have q8 : vs 8 = _ := hI.2 8 (by simp [hw])
                simp only [q8] at hK ⊢
                go_simp
                exact hK _ _ (hI.step AS.out (bl_alloc (Below.refl _ _) _ (Nat.le_refl _)) hC.size (by decide) (by decide) (.inr ⟨_, rfl, Blk.new _ _ _ rfl⟩))
              · obtain ⟨A3, c3, hv4, hO3⟩ := (hI.2 4 (by simp [hw])).resolve_left (by rw [hl]; decide)
                rw [hv4] at hO3
                obtain ⟨g9, hv9, hB9⟩ := (hI.2 9 (by simp [hw])).resolve_left (by rw [hl]; decide)
                simp only [hv4, hv9] at hK ⊢
                rw [if_pos (by rfl)]
                have hlt3 : (s.take r).length = r := by rw [List.length_take, Hsl.out]; omega
                obtain ⟨A4, c4, w', hrun, hO4, hg4, _⟩ := run_append_one W 28 28 SeenR.good w2.heap.size 34 iS _ 32 Try.underlying28 hiS hzS0 hzS1 hzS2 rfl (by omega) (.slice A3 r c3) (s.take r) ⟨ct, ca9, cl9, ch9⟩ hO3 ⟨g9, 0, none⟩ 1 [.int .i64 ct, .int .i64 ca9, .int .i64 cl9, .int .i64 ch9] rfl (fun j v hv => by
                  have hadd : (⟨g9, 0, none⟩ : Addr).add j = ⟨g9, j, none⟩ := by unfold Addr.add; split <;> simp_all
                  rw [hadd, hB9.cell]; simpa using hv) (by rw [hlt3]; simp only [maxLen]; omega) (by rw [hlt3]; omega) hC.size (fun h => h)
                rw [hlt3] at hrun hO4
                refine wp_append_of_run rfl rfl rfl hrun ?_
                have hB2 : Below w2.heap.size w2 w' := bl_grown hC hO3 hg4 (Nat.le_refl _) (Nat.le_refl _)
                refine hK _ _ ⟨hB2, fun i hi => ?_⟩
                have hb10 : updB ls 10 10 = true := by unfold updB; rw [if_pos rfl]
                have hb14 : updB ls 10 14 = ls 14 := by unfold updB; rw [if_neg (by decide)]
                rw [hb10, hb14]
                match i, hi with
                | 1, hi => exact hI.2 1 hi
                | 2, hi => exact hI.2 2 hi
                | 3, hi => exact hI.2 3 hi
                | 5, hi => exact hI.2 5 hi
                | 6, hi => exact hI.2 6 hi
                | 7, hi => exact hI.2 7 hi
                | 8, hi => exact hI.2 8 hi
                | 11, hi => exact hI.2 11 hi
                | 12, hi => exact hI.2 12 hi
                | 13, hi => exact hI.2 13 hi
                | 0, _ => exact .inl rfl
                | 4, _ => exact .inl rfl
                | 9, _ => exact .inl rfl
                | 10, _ => exact .inr ⟨some ⟨A4, 0, none⟩, c4, rfl, hO4⟩
                | 14, hi =>
                  have h14 : ls 14 = true := hi
                  have h14f : ls 14 = false := (hU 14 _ rfl (by simp [waits, Region.binds])).1
                  rw [h14] at h14f; cases h14f
                | _ + 15, _ => trivial
              · have h15 : vs 15 = .slice none k c := (hU 15 _ rfl (by simp [waits, Region.binds])).2
                simp only [h15] at hK ⊢
                go_simp
                exact hK _ _ (hI.step AS.out (Below.refl _ _) hC.size (by decide) (by decide) rfl)
              · go_simp
                exact hK _ _ (hI.step AS.out (Below.refl _ _) hC.size (by decide) (by decide) rfl)
              · have q11 : vs 11 = _ := hI.2 11 (by simp [hw])
                have q12 : vs 12 = _ := hI.2 12 (by simp [hw])
                simp only [q11, q12] at hK ⊢
                go_simp
                exact hK _ _ (hI.step AS.out (Below.refl _ _) hC.size (by decide) (by decide) rfl)
              · obtain ⟨A5, c5, hv10, hO5⟩ := (hI.2 10 (by simp [hw])).resolve_left (by rw [hl]; decide)
                rw [hv10] at hO5
                have q13 : vs 13 = _ := hI.2 13 (by simp [hw])
                have h10t : ls 10 = true := by simp [hw]
                simp only [hv10, q13] at hK ⊢
                rw [if_pos (by rfl)]
                have hlt5 : (s.take r ++ [(⟨ct, ca9, cl9, ch9⟩ : Seen)]).length = r + 1 := by rw [List.length_append, List.length_take, Hsl.out]; simp; omega
                obtain ⟨A6, c6, w', hrun, hO6, hg6⟩ := run_append_rows W 28 28 SeenR.good (T := fun _ => True) w2.heap.size 34 iS _ 32 Try.underlying28 hiS hzS0 hzS1 hzS2 rfl (by omega) (.slice A5 (r + 1) c5) _ hO5 none (k - r) (c - r) (s.drop r) (HT13.out.keep SeenR.good (Keeps.below hC)) (fun y vs hr => hr) (by rw [hlt5]; simp only [maxLen]; omega) (by rw [hlt5]; omega) hC.size (fun h => h)
                rw [hlt5, show r + 1 + (k - r) = k + 1 by omega] at hrun hO6
                refine wp_append_of_run rfl rfl rfl hrun ?_
                have hB2 : Below w2.heap.size w2 w' := bl_grown hC hO5 hg6 (Nat.le_refl _) (Nat.le_refl _)
                refine hK _ _ ⟨hB2, fun i hi => ?_⟩
                have hb14 : updB ls 14 14 = true := by unfold updB; rw [if_pos rfl]
                have hb10 : updB ls 14 10 = true := by unfold updB; rw [if_neg (by decide)]; exact h10t
                rw [hb10, hb14]
                match i, hi with
                | 1, hi => exact hI.2 1 hi
                | 2, hi => exact hI.2 2 hi
                | 3, hi => exact hI.2 3 hi
                | 5, hi => exact hI.2 5 hi
                | 6, hi => exact hI.2 6 hi
                | 7, hi => exact hI.2 7 hi
                | 8, hi => exact hI.2 8 hi
                | 11, hi => exact hI.2 11 hi
                | 12, hi => exact hI.2 12 hi
                | 13, hi => exact hI.2 13 hi
                | 0, _ => exact .inl rfl
                | 4, _ => exact .inl rfl
                | 9, _ => exact .inl rfl
                | 10, _ => exact .inl rfl
                | 14, _ => exact ⟨A6, c6, rfl, hO6⟩
                | _ + 15, _ => trivial
            case fin =>
              intro ls vs W hI hl hU
              clear hU
              have hC := hI.1
              have e14 := hI.2 14 (hl 14 (by decide))
              simp only [fillA, Act.put, List.setIfInBounds_toArray, List.set_cons_zero, List.set_cons_succ, Nat.zero_add, Nat.reduceAdd]
              obtain ⟨A7, c7, h14, hO7⟩ := e14
              rw [h14] at hO7 ⊢
              obtain ⟨u0, hu0⟩ : ∃ v0, vs 0 = v0 := ⟨_, rfl⟩
              obtain ⟨u1, hu1⟩ : ∃ v0, vs 1 = v0 := ⟨_, rfl⟩
              obtain ⟨u2, hu2⟩ : ∃ v0, vs 2 = v0 := ⟨_, rfl⟩
              obtain ⟨u3, hu3⟩ : ∃ v0, vs 3 = v0 := ⟨_, rfl⟩
              obtain ⟨u4, hu4⟩ : ∃ v0, vs 4 = v0 := ⟨_, rfl⟩
              obtain ⟨u5, hu5⟩ : ∃ v0, vs 5 = v0 := ⟨_, rfl⟩
              obtain ⟨u6, hu6⟩ : ∃ v0, vs 6 = v0 := ⟨_, rfl⟩
              obtain ⟨u7, hu7⟩ : ∃ v0, vs 7 = v0 := ⟨_, rfl⟩
              obtain ⟨u8, hu8⟩ : ∃ v0, vs 8 = v0 := ⟨_, rfl⟩
              obtain ⟨u9, hu9⟩ : ∃ v0, vs 9 = v0 := ⟨_, rfl⟩
              obtain ⟨u10, hu10⟩ : ∃ v0, vs 10 = v0 := ⟨_, rfl⟩
              obtain ⟨u11, hu11⟩ : ∃ v0, vs 11 = v0 := ⟨_, rfl⟩
              obtain ⟨u12, hu12⟩ : ∃ v0, vs 12 = v0 := ⟨_, rfl⟩
              obtain ⟨u13, hu13⟩ : ∃ v0, vs 13 = v0 := ⟨_, rfl⟩
              rw [hu0, hu1, hu2, hu3, hu4, hu5, hu6, hu7, hu8, hu9, hu10, hu11, hu12, hu13]
              clear hu0 hu1 hu2 hu3 hu4 hu5 hu6 hu7 hu8 hu9 hu10 hu11 hu12 hu13
              clear h14 hI hl AS
              have hB3 := bl_call hB hC (Nat.le_refl _)
              have HO7 : Hid (OwnL SeenR 4 (fun _ => False) W W0.heap.size 34 (.slice A7 (k + 1) c7) (insK xs l (k + 1))) := by rw [Hid, HNX.out]; exact own_low hO7 hB.size
              clear hO7 hC
              go_simp
              go_wp2_with fail
              go_roundw
              case rel => exact ⟨k + 1, c7, A7, by go_num, by omega, rfl, HO7.out, hB3⟩
              case measure => simp [intOf]; omega
          | some ad =>
            obtain ⟨gb, rfl⟩ : ∃ gb, ad = ⟨gb, 0, none⟩ := by
              obtain ⟨_, cells, ho, _⟩ := HO.out
              rcases ho.2 with ⟨e, _⟩ | ⟨g9, cap, cur, e, _⟩
              · injection e with e; cases e
              · injection e with e; injection e with e; exact ⟨g9, e⟩
            have HSV : Hid (Seens (fun _ => True) w2 (some ⟨gb, 0, none⟩) k s) := HO.out.slice SeenR.good rfl (by simp only [maxLen]; omega) (fun _ _ => trivial) (fun _ _ _ => trivial)
            have HT3 : Hid (Seens (fun _ => True) w2 (some ⟨gb, 0, none⟩) r (s.take r)) := HSV.out.take (by omega)
            obtain ⟨A13, hA13⟩ : ∃ A, (if c = r then (some ⟨gb, 0, none⟩ : Option Addr) else some ⟨gb, r * 4, none⟩) = A := ⟨_, rfl⟩
            have HT13 : Hid (Seens (fun _ => True) w2 A13 (k - r) (s.drop r)) := by
              rw [Hid, ← hA13]
              split
              · have : k = r := by omega
                rw [this, Nat.sub_self, List.drop_eq_nil_of_le (by rw [Hsl.out]; omega)]
                exact ⟨rfl, Nat.zero_le _, fun j x hx => by simp at hx⟩
              · have := HSV.out.drop (k := r) (by omega)
                rwa [Nat.zero_add] at this
            have AS := Lib.hid (ordE_stab w2.heap.size (.slice (some ⟨gb, 0, none⟩) k c) (.slice (some ⟨bC, oC, none⟩) q cc) (.slice (some ⟨gb, 0, none⟩) r c) (.slice A13 (k - r) (c - r)) k r bC oC ⟨ct, ca9, cl9, ch9⟩ s)
            refine wp_region_invs (fun ls vs ww => InvG w2.heap.size w2 (ordE w2.heap.size (.slice (some ⟨gb, 0, none⟩) k c) (.slice (some ⟨bC, oC, none⟩) q cc) (.slice (some ⟨gb, 0, none⟩) r c) (.slice A13 (k - r) (c - r)) k r bC oC ⟨ct, ca9, cl9, ch9⟩ s) 10 14 ls vs ww) 15 (by kernel_rfl) (by kernel_rfl) (by kernel_rfl) (by rfl) ⟨(Below.refl _ _).drew, fun i h => by cases h⟩ ?step (by rfl) (by rfl) ?fin
            case step =>
              refine StepsI.cons ?_ (StepsI.cons ?_ (StepsI.cons ?_ (StepsI.cons ?_ (StepsI.cons ?_ (StepsI.cons ?_ (StepsI.cons ?_ (StepsI.cons ?_ (StepsI.cons ?_ (StepsI.cons ?_ (StepsI.cons ?_ (StepsI.cons ?_ (StepsI.cons ?_ (StepsI.cons ?_ (StepsI.cons ?_ StepsI.nil))))))))))))))
              all_goals
                refine StepI.of ?_
                intro ls vs W K hI hl hw hU hK
                simp only [fillA, Act.put, List.setIfInBounds_toArray, List.set_cons_zero, List.set_cons_succ, Nat.zero_add, Nat.reduceAdd] at hK ⊢
                simp [waits, Region.binds] at hw
                have hC := hI.1
              · go_simp
                exact hK _ _ (hI.step AS.out (bl_alloc (Below.refl _ _) _ (Nat.le_refl _)) hC.size (by decide) (by decide) (.inr ⟨_, hC.size, rfl, Blk.new _ _ _ rfl⟩))
              · have h15 : vs 15 = .slice (some ⟨gb, 0, none⟩) k c := (hU 15 _ rfl (by simp [waits, Region.binds])).2
                simp only [h15] at hK ⊢
                go_simp
                exact hK _ _ (hI.step AS.out (Below.refl _ _) hC.size (by decide) (by decide) rfl)
              · go_simp
                exact hK _ _ (hI.step AS.out (Below.refl _ _) hC.size (by decide) (by decide) rfl)
              · have q1 : vs 1 = _ := hI.2 1 (by simp [hw])
                have q2 : vs 2 = _ := hI.2 2 (by simp [hw])
                simp only [q1, q2] at hK ⊢
                go_simp
                exact hK _ _ (hI.step AS.out (Below.refl _ _) hC.size (by decide) (by decide) rfl)
              · have h10x : ls 10 = false := (hU 10 _ rfl (by simp [waits, Region.binds])).1
                obtain ⟨gl, hgl, hv0, hBl⟩ := (hI.2 0 (by simp [hw])).resolve_left (by rw [h10x]; decide)
                have q3 : vs 3 = _ := hI.2 3 (by simp [hw])
                simp only [hv0, q3] at hK ⊢
                rw [if_pos (by rfl)]
                refine wp_append_lit W (.tmp 42) (.tmp 45) _ rfl SeenR.good (T := fun _ => True) (S := fun _ => False) w2.heap.size 34 iS _ 32 Try.underlying28 hiS hzS0 hzS1 hzS2 rfl (by decide) gl rfl hBl hgl (some ⟨gb, 0, none⟩) r c (s.take r) rfl (HT3.out.keep SeenR.good (Keeps.below hC)) (fun y vs hr => hr) (by simp only [maxLen]; omega) (by omega) hC.size (fun h => h) (fun h => h) ?_
                intro A2 c2 w' hO2 hb
                exact hK _ _ (hI.step AS.out hb hC.size (by decide) (by decide) (.inr ⟨A2, c2, rfl, hO2⟩))
              · go_simp
                exact hK _ _ (hI.step AS.out (Below.refl _ _) hC.size (by decide) (by decide) rfl)
              · go_simp
                exact hK _ _ (hI.step AS.out (Below.refl _ _) hC.size (by decide) (by decide) rfl)
              · have q5 : vs 5 = _ := hI.2 5 (by simp [hw])
                have q6 : vs 6 = _ := hI.2 6 (by simp [hw])
                simp only [q5, q6] at hK ⊢
                go_simp
                exact hK _ _ (hI.step AS.out (Below.refl _ _) hC.size (by decide) (by decide) rfl)
              · have q7 : vs 7 = _ := hI.2 7 (by simp [hw])
                simp only [q7] at hK ⊢
                have k0 := getc hC HK0.out
                have k1 := getc hC HK1.out
                have k2 := getc hC HK2.out
                have k3 := getc hC HK3.out
                go_simp
                exact hK _ _ (hI.step AS.out (Below.refl _ _) hC.size (by decide) (by decide) rfl)
              · have q8 : vs 8 = _ := hI.2 8 (by simp [hw])
                simp only [q8] at hK ⊢
                go_simp
                exact hK _ _ (hI.step AS.out (bl_alloc (Below.refl _ _) _ (Nat.le_refl _)) hC.size (by decide) (by decide) (.inr ⟨_, rfl, Blk.new _ _ _ rfl⟩))
              · obtain ⟨A3, c3, hv4, hO3⟩ := (hI.2 4 (by simp [hw])).resolve_left (by rw [hl]; decide)
                rw [hv4] at hO3
                obtain ⟨g9, hv9, hB9⟩ := (hI.2 9 (by simp [hw])).resolve_left (by rw [hl]; decide)
                simp only [hv4, hv9] at hK ⊢
                rw [if_pos (by rfl)]
                have hlt3 : (s.take r).length = r := by rw [List.length_take, Hsl.out]; omega
                obtain ⟨A4, c4, w', hrun, hO4, hg4, _⟩ := run_append_one W 28 28 SeenR.good w2.heap.size 34 iS _ 32 Try.underlying28 hiS hzS0 hzS1 hzS2 rfl (by omega) (.slice A3 r c3) (s.take r) ⟨ct, ca9, cl9, ch9⟩ hO3 ⟨g9, 0, none⟩ 1 [.int .i64 ct, .int .i64 ca9, .int .i64 cl9, .int .i64 ch9] rfl (fun j v hv => by
                  have hadd : (⟨g9, 0, none⟩ : Addr).add j = ⟨g9, j, none⟩ := by unfold Addr.add; split <;> simp_all
                  rw [hadd, hB9.cell]; simpa using hv) (by rw [hlt3]; simp only [maxLen]; omega) (by rw [hlt3]; omega) hC.size (fun h => h)
                rw [hlt3] at hrun hO4
                refine wp_append_of_run rfl rfl rfl hrun ?_
                have hB2 : Below w2.heap.size w2 w' := bl_grown hC hO3 hg4 (Nat.le_refl _) (Nat.le_refl _)
                refine hK _ _ ⟨hB2, fun i hi => ?_⟩
                have hb10 : updB ls 10 10 = true := by unfold updB; rw [if_pos rfl]
                have hb14 : updB ls 10 14 = ls 14 := by unfold updB; rw [if_neg (by decide)]
                rw [hb10, hb14]
                match i, hi with
                | 1, hi => exact hI.2 1 hi
                | 2, hi => exact hI.2 2 hi
                | 3, hi => exact hI.2 3 hi
                | 5, hi => exact hI.2 5 hi
                | 6, hi => exact hI.2 6 hi
                | 7, hi => exact hI.2 7 hi
                | 8, hi => exact hI.2 8 hi
                | 11, hi => exact hI.2 11 hi
                | 12, hi => exact hI.2 12 hi
                | 13, hi => exact hI.2 13 hi
                | 0, _ => exact .inl rfl
                | 4, _ => exact .inl rfl
                | 9, _ => exact .inl rfl
                | 10, _ => exact .inr ⟨some ⟨A4, 0, none⟩, c4, rfl, hO4⟩
                | 14, hi =>
                  have h14 : ls 14 = true := hi
                  have h14f : ls 14 = false := (hU 14 _ rfl (by simp [waits, Region.binds])).1
                  rw [h14] at h14f; cases h14f
                | _ + 15, _ => trivial
              · have h15 : vs 15 = .slice (some ⟨gb, 0, none⟩) k c := (hU 15 _ rfl (by simp [waits, Region.binds])).2
                simp only [h15] at hK ⊢
                go_simp
                exact hK _ _ (hI.step AS.out (Below.refl _ _) hC.size (by decide) (by decide) rfl)
              · go_simp
                exact hK _ _ (hI.step AS.out (Below.refl _ _) hC.size (by decide) (by decide) rfl)
              · have q11 : vs 11 = _ := hI.2 11 (by simp [hw])
                have q12 : vs 12 = _ := hI.2 12 (by simp [hw])
                simp only [q11, q12] at hK ⊢
                go_simp
                exact hK _ _ (hI.step AS.out (Below.refl _ _) hC.size (by decide) (by decide) rfl)
              · obtain ⟨A5, c5, hv10, hO5⟩ := (hI.2 10 (by simp [hw])).resolve_left (by rw [hl]; decide)
                rw [hv10] at hO5
                have q13 : vs 13 = _ := hI.2 13 (by simp [hw])
                have h10t : ls 10 = true := by simp [hw]
                simp only [hv10, q13] at hK ⊢
                rw [if_pos (by rfl)]
                have hlt5 : (s.take r ++ [(⟨ct, ca9, cl9, ch9⟩ : Seen)]).length = r + 1 := by rw [List.length_append, List.length_take, Hsl.out]; simp; omega
                obtain ⟨A6, c6, w', hrun, hO6, hg6⟩ := run_append_rows W 28 28 SeenR.good (T := fun _ => True) w2.heap.size 34 iS _ 32 Try.underlying28 hiS hzS0 hzS1 hzS2 rfl (by omega) (.slice A5 (r + 1) c5) _ hO5 A13 (k - r) (c - r) (s.drop r) (HT13.out.keep SeenR.good (Keeps.below hC)) (fun y vs hr => hr) (by rw [hlt5]; simp only [maxLen]; omega) (by rw [hlt5]; omega) hC.size (fun h => h)
                rw [hlt5, show r + 1 + (k - r) = k + 1 by omega] at hrun hO6
                refine wp_append_of_run rfl rfl rfl hrun ?_
                have hB2 : Below w2.heap.size w2 w' := bl_grown hC hO5 hg6 (Nat.le_refl _) (Nat.le_refl _)
                refine hK _ _ ⟨hB2, fun i hi => ?_⟩
                have hb14 : updB ls 14 14 = true := by unfold updB; rw [if_pos rfl]
                have hb10 : updB ls 14 10 = true := by unfold updB; rw [if_neg (by decide)]; exact h10t
                rw [hb10, hb14]
                match i, hi with
                | 1, hi => exact hI.2 1 hi
                | 2, hi => exact hI.2 2 hi
                | 3, hi => exact hI.2 3 hi
                | 5, hi => exact hI.2 5 hi
                | 6, hi => exact hI.2 6 hi
                | 7, hi => exact hI.2 7 hi
                | 8, hi => exact hI.2 8 hi
                | 11, hi => exact hI.2 11 hi
                | 12, hi => exact hI.2 12 hi
                | 13, hi => exact hI.2 13 hi
                | 0, _ => exact .inl rfl
                | 4, _ => exact .inl rfl
                | 9, _ => exact .inl rfl
                | 10, _ => exact .inl rfl
                | 14, _ => exact ⟨A6, c6, rfl, hO6⟩
                | _ + 15, _ => trivial
            case fin =>
              intro ls vs W hI hl hU
              clear hU
              have hC := hI.1
              have e14 := hI.2 14 (hl 14 (by decide))
              simp only [fillA, Act.put, List.setIfInBounds_toArray, List.set_cons_zero, List.set_cons_succ, Nat.zero_add, Nat.reduceAdd]
              obtain ⟨A7, c7, h14, hO7⟩ := e14
              rw [h14] at hO7 ⊢
              obtain ⟨u0, hu0⟩ : ∃ v0, vs 0 = v0 := ⟨_, rfl⟩
              obtain ⟨u1, hu1⟩ : ∃ v0, vs 1 = v0 := ⟨_, rfl⟩
              obtain ⟨u2, hu2⟩ : ∃ v0, vs 2 = v0 := ⟨_, rfl⟩
              obtain ⟨u3, hu3⟩ : ∃ v0, vs 3 = v0 := ⟨_, rfl⟩
              obtain ⟨u4, hu4⟩ : ∃ v0, vs 4 = v0 := ⟨_, rfl⟩
              obtain ⟨u5, hu5⟩ : ∃ v0, vs 5 = v0 := ⟨_, rfl⟩
              obtain ⟨u6, hu6⟩ : ∃ v0, vs 6 = v0 := ⟨_, rfl⟩
              obtain ⟨u7, hu7⟩ : ∃ v0, vs 7 = v0 := ⟨_, rfl⟩
              obtain ⟨u8, hu8⟩ : ∃ v0, vs 8 = v0 := ⟨_, rfl⟩
              obtain ⟨u9, hu9⟩ : ∃ v0, vs 9 = v0 := ⟨_, rfl⟩
              obtain ⟨u10, hu10⟩ : ∃ v0, vs 10 = v0 := ⟨_, rfl⟩
              obtain ⟨u11, hu11⟩ : ∃ v0, vs 11 = v0 := ⟨_, rfl⟩
              obtain ⟨u12, hu12⟩ : ∃ v0, vs 12 = v0 := ⟨_, rfl⟩
              obtain ⟨u13, hu13⟩ : ∃ v0, vs 13 = v0 := ⟨_, rfl⟩
              rw [hu0, hu1, hu2, hu3, hu4, hu5, hu6, hu7, hu8, hu9, hu10, hu11, hu12, hu13]
              clear hu0 hu1 hu2 hu3 hu4 hu5 hu6 hu7 hu8 hu9 hu10 hu11 hu12 hu13
              clear h14 hI hl AS
              have hB3 := bl_call hB hC (Nat.le_refl _)
              have HO7 : Hid (OwnL SeenR 4 (fun _ => False) W W0.heap.size 34 (.slice A7 (k + 1) c7) (insK xs l (k + 1))) := by rw [Hid, HNX.out]; exact own_low hO7 hB.size
              clear hO7 hC
              go_simp
              go_wp2_with fail
              go_roundw
              case rel => exact ⟨k + 1, c7, A7, by go_num, by omega, rfl, HO7.out, hB3⟩
              case measure => simp [intOf]; omega
        · have hqk : q = k := by omega
          subst hqk
          have hki : ¬ (q : Int) < q := by omega
          clear hk hlt
          have HO := Lib.hid hO
          clear hO
          by_cases hq0 : q = 0
          · have HSR : Hid (OwnL SeenR 4 (fun _ => False) wr W0.heap.size 34 (.slice An q c) (seenR xs l)) := by
              rw [Hid, seenR, if_neg (by rw [Hq.out]; omega), Hq.out]; exact HO.out
            subst hq0
            have hBs := hB
            have hm1 : 1 ≤ m ∧ m ≤ 3 := by have := HKK.out.nr; rw [Hm.out] at this; exact this
            obtain ⟨g10, hg10⟩ : ∃ g, wr.heap.size = g := ⟨_, rfl⟩
            obtain ⟨Xa, hXa⟩ : ∃ U, wr.alloc (.cells #[.int .i64 alo, .int .i64 ahi, .int .i64 most, .slice A n ca, .slice B m cb] 27) = U := ⟨_, rfl⟩
            have D1 : Blk Xa g10 27 #[.int .i64 alo, .int .i64 ahi, .int .i64 most, .slice A n ca, .slice B m cb] := by rw [← hXa]; exact Blk.new _ _ _ hg10.symm
            have bVa : Below wr.heap.size wr Xa := by rw [← hXa]; exact bl_alloc (Below.refl _ _) _ (Nat.le_refl _)
            have hgV : wr.heap.size ≤ g10 := Nat.le_of_eq hg10
            have hgW : W0.heap.size ≤ g10 := by have := hBs.size; omega
            have bWa := bl_call hBs bVa (Nat.le_refl _)
            have z4 := D1.cell 4
            have fz4 := D1.frozen 4
            have hlz := D1.lt
            obtain ⟨Xb, hXb⟩ : ∃ U, Xa.setCell ⟨g10, 4, none⟩ (.slice none 0 0) = U := ⟨_, rfl⟩
            have D2 : Blk Xb g10 27 #[.int .i64 alo, .int .i64 ahi, .int .i64 most, .slice A n ca, .slice none 0 0] := by rw [← hXb]; exact D1.set_ 4 _
            have bWb : Below W0.heap.size W0 Xb := by rw [← hXb]; exact bl_set bWa hgW _
            have bVb : Below wr.heap.size wr Xb := by rw [← hXb]; exact bl_set bVa hgV _
            have hwm : IntKind.i64.wrap ((m : Int) - 1) = (m : Int) - 1 := by rw [IntKind.wrap_i64]; omega
            obtain ⟨x0, x1, x2, x3, x4⟩ := kk.out wr hBs
            obtain ⟨_, _, _, _, x4b⟩ := kk.out Xb bWb
            go_wp2_with fail
            clear x0 x1 x2 x3 x4 x4b z4 fz4 hlz hXa hXb hwm D1 bVa bWa hg10
            have HSb : Hid (OwnL SeenR 4 (fun _ => False) Xb W0.heap.size 34 (.slice An 0 c) (seenR xs l)) := HSR.out.below SeenR.good bVb
            clear HSR bVb hBs hgV
            go_loopw [11] (fun i wr => ∃ (j c2 : Nat) (A2 : Option Addr), i = .int .i64 ((m : Int) - 1 - j) ∧ j ≤ m ∧ OwnL RowR 3 (fun _ => False) wr W0.heap.size 36 (.slice A2 j c2) (h.rows.reverse.take j) ∧ Blk wr g10 27 #[.int .i64 alo, .int .i64 ahi, .int .i64 most, .slice A n ca, .slice A2 j c2] ∧ OwnL SeenR 4 (fun _ => False) wr W0.heap.size 34 (.slice An 0 c) (seenR xs l) ∧ Below W0.heap.size W0 wr) (fun i _ => (intOf i + 1).toNat)
            case atStart => exact ⟨0, 0, none, by simp, Nat.zero_le _, by rw [List.take_zero]; exact OwnL.nil _ _ _ _ _ _, D2, HSb.out, bWb⟩
            case round =>
              obtain ⟨j, c2, A2, rfl, hj, hO2, D3, hS3, hB⟩ := hrel
              by_cases hjm : j < m
              · obtain ⟨i, hi⟩ : ∃ i : Nat, (m : Int) - 1 - j = i := ⟨m - 1 - j, by omega⟩
                rw [hi]
                have hi0 : (0 : Int) ≤ i := by omega
                have him : i < m := by omega
                have hin : m - 1 - j = i := by omega
                obtain ⟨b, off, fr, sw, pl, rfl, hbb, r0, r1, r2, Hx⟩ := RowTs.get HG.out.rs him
                have HK0 := Lib.hid r0
                have HK1 := Lib.hid r1
                have HK2 := Lib.hid r2
                have hii : (i : Int) < m := by omega
                have HTL : Hid ((h.rows.reverse.take j).length = j) := by rw [Hid, List.length_take, List.length_reverse, Hm.out]; omega
                clear r0 r1 r2 hbb
                go_wp2_with fail
                have AS := Lib.hid (turE_stab W0.heap.size (.slice A2 j c2) (.slice (some ⟨b, off, none⟩) m cb) g10 g0 j i b off ⟨fr, sw, pl⟩ (h.rows.reverse.take j))
                refine wp_region_invs (fun ls vs ww => TurI W0.heap.size W0 (turE W0.heap.size (.slice A2 j c2) (.slice (some ⟨b, off, none⟩) m cb) g10 g0 j i b off ⟨fr, sw, pl⟩ (h.rows.reverse.take j)) g10 #[.int .i64 alo, .int .i64 ahi, .int .i64 most, .slice A n ca, .slice A2 j c2] (.slice An 0 c) (.slice A2 j c2) (seenR xs l) (h.rows.reverse.take j) ls vs ww) 10 (by kernel_rfl) (by kernel_rfl) (by kernel_rfl) (by rfl) ⟨hB.drew, D3.drew, hS3.keep SeenR.good (Keeps.drew _), fun _ => hO2.keep RowR.good (Keeps.drew _), fun i h => by cases h⟩ ?step (by rfl) (by rfl) ?fin
                case step =>
                  refine StepsI.cons ?_ (StepsI.cons ?_ (StepsI.cons ?_ (StepsI.cons ?_ (StepsI.cons ?_ (StepsI.cons ?_ (StepsI.cons ?_ (StepsI.cons ?_ (StepsI.cons ?_ (StepsI.cons ?_ StepsI.nil)))))))))
                  all_goals
                    refine StepI.of ?_
                    intro ls vs W K hI hl hw hU hK
                    simp only [fillA, Act.put, List.setIfInBounds_toArray, List.set_cons_zero, List.set_cons_succ, Nat.zero_add, Nat.reduceAdd] at hK ⊢
                    simp [waits, Region.binds] at hw
                    have hC := hI.bl
                  · go_simp
                    exact hK _ _ (hI.step AS.out (Below.refl _ _) hC.size (by decide) rfl)
                  · have q0 : vs 0 = _ := hI.all 0 (by simp [hw])
                    simp only [q0] at hK ⊢
                    have k4 := hI.blk.cell 4
                    go_simp
                    exact hK _ _ (hI.step AS.out (Below.refl _ _) hC.size (by decide) rfl)
                  · go_simp
                    exact hK _ _ (hI.step AS.out (Below.refl _ _) hC.size (by decide) rfl)
                  · have q2 : vs 2 = _ := hI.all 2 (by simp [hw])
                    simp only [q2] at hK ⊢
                    obtain ⟨_, _, _, _, x4⟩ := kk.out W hC
                    go_simp
                    exact hK _ _ (hI.step AS.out (Below.refl _ _) hC.size (by decide) rfl)
                  · go_simp
                    exact hK _ _ (hI.step AS.out (Below.refl _ _) hC.size (by decide) rfl)
                  · have q3 : vs 3 = _ := hI.all 3 (by simp [hw])
                    have q4 : vs 4 = _ := hI.all 4 (by simp [hw])
                    simp only [q3, q4] at hK ⊢
                    go_simp
                    exact hK _ _ (hI.step AS.out (Below.refl _ _) hC.size (by decide) rfl)
                  · have q5 : vs 5 = _ := hI.all 5 (by simp [hw])
                    simp only [q5] at hK ⊢
                    have k0 := getc hC HK0.out
                    have k1 := getc hC HK1.out
                    have k2 := getc hC HK2.out
                    go_simp
                    exact hK _ _ (hI.step AS.out (Below.refl _ _) hC.size (by decide) rfl)
                  · have q6 : vs 6 = _ := hI.all 6 (by simp [hw])
                    simp only [q6] at hK ⊢
                    go_simp
                    exact hK _ _ (hI.step AS.out (bl_alloc (Below.refl _ _) _ (Nat.le_refl _)) hC.size (by decide) (.inr ⟨_, rfl, Blk.new _ _ _ rfl⟩))
                  · have hO3 := hI.rows hl
                    have q1 : vs 1 = _ := hI.all 1 (by simp [hw])
                    obtain ⟨g9, hv9, hB9⟩ := (hI.all 7 (by simp [hw])).resolve_left (by rw [hl]; decide)
                    simp only [q1, hv9] at hK ⊢
                    rw [if_pos (by rfl)]
                    obtain ⟨A4, c4, w', hrun, hO4, hg4, _⟩ := run_append_one W 25 25 RowR.good W0.heap.size 36 iR _ 24 Try.underlying25 hiR hzR0 hzR1 hzR2 rfl (by omega) (.slice A2 j c2) (h.rows.reverse.take j) ⟨fr, sw, pl⟩ hO3 ⟨g9, 0, none⟩ 1 [.int .i64 fr, .int .i64 sw, .int .i64 pl] rfl (fun j v hv => by
                      have hadd : (⟨g9, 0, none⟩ : Addr).add j = ⟨g9, j, none⟩ := by unfold Addr.add; split <;> simp_all
                      rw [hadd, hB9.cell]; simpa using hv) (by rw [HTL.out]; simp only [maxLen]; omega) (by rw [HTL.out]; omega) hC.size (fun h => h)
                    rw [HTL.out] at hrun hO4
                    refine wp_append_of_run rfl rfl rfl hrun ?_
                    have hB2 : Below W0.heap.size W0 w' := bl_grown hC hO3 hg4 (Nat.le_refl _) (Nat.le_refl _)
                    have hne : ∀ {g : Nat} {t : TypeId} {cs : Array Value}, Blk W g t cs → t ≠ 36 → some g ≠ (Value.slice A2 j c2).ownBlock := fun hb ht e => by
                      obtain ⟨cur, hcur⟩ := hO3.blk e.symm
                      exact ht (Blk.ty hb hcur)
                    refine hK _ _ ⟨hB2, hI.blk.grown hg4 (hne hI.blk (by decide)), hI.seen.keep SeenR.good (Keeps.grown hg4 fun k hk hh => by
                      rcases hh with hh | hh
                      · exact hh
                      · obtain ⟨cur, hcur⟩ := hI.seen.blk hh
                        exact hne hcur (by decide) hk.symm), (fun h8 => by unfold updB at h8; rw [if_pos rfl] at h8; cases h8), fun i2 hi2 => ?_⟩
                    have hb8 : updB ls 8 8 = true := by unfold updB; rw [if_pos rfl]
                    rw [hb8]
                    match i2, hi2 with
                    | 0, hi => exact hI.all 0 hi
                    | 1, hi => exact hI.all 1 hi
                    | 2, hi => exact hI.all 2 hi
                    | 3, hi => exact hI.all 3 hi
                    | 4, hi => exact hI.all 4 hi
                    | 5, hi => exact hI.all 5 hi
                    | 6, hi => exact hI.all 6 hi
                    | 9, hi => exact hI.all 9 hi
                    | 7, _ => exact .inl rfl
                    | 8, _ => exact ⟨some ⟨A4, 0, none⟩, c4, rfl, hO4⟩
                    | _ + 10, _ => trivial
                  · go_simp
                    exact hK _ _ (hI.step AS.out (Below.refl _ _) hC.size (by decide) rfl)
                case fin =>
                  intro ls vs W hI hl hU
                  clear hU
                  have hC := hI.bl
                  have e9 : vs 9 = .pointer (some ⟨g10, 4, none⟩) := hI.all 9 (hl 9 (by decide))
                  have e8 := hI.all 8 (hl 8 (by decide))
                  simp only [fillA, Act.put, List.setIfInBounds_toArray, List.set_cons_zero, List.set_cons_succ, Nat.zero_add, Nat.reduceAdd, e9]
                  obtain ⟨A7, c7, h8, hO7⟩ := e8
                  rw [h8] at hO7 ⊢
                  obtain ⟨u0, hu0⟩ : ∃ v0, vs 0 = v0 := ⟨_, rfl⟩
                  obtain ⟨u1, hu1⟩ : ∃ v0, vs 1 = v0 := ⟨_, rfl⟩
                  obtain ⟨u2, hu2⟩ : ∃ v0, vs 2 = v0 := ⟨_, rfl⟩
                  obtain ⟨u3, hu3⟩ : ∃ v0, vs 3 = v0 := ⟨_, rfl⟩
                  obtain ⟨u4, hu4⟩ : ∃ v0, vs 4 = v0 := ⟨_, rfl⟩
                  obtain ⟨u5, hu5⟩ : ∃ v0, vs 5 = v0 := ⟨_, rfl⟩
                  obtain ⟨u6, hu6⟩ : ∃ v0, vs 6 = v0 := ⟨_, rfl⟩
                  obtain ⟨u7, hu7⟩ : ∃ v0, vs 7 = v0 := ⟨_, rfl⟩
                  rw [hu0, hu1, hu2, hu3, hu4, hu5, hu6, hu7]
                  clear hu0 hu1 hu2 hu3 hu4 hu5 hu6 hu7
                  have hD := hI.blk
                  have hSn := hI.seen
                  clear h8 hI hl AS e9 hO2 D3 hS3
                  have z4 := hD.cell 4
                  have fz4 := hD.frozen 4
                  have hlz := hD.lt
                  obtain ⟨U1, hU1⟩ : ∃ U, W.setCell ⟨g10, 4, none⟩ (.slice A7 (j + 1) c7) = U := ⟨_, rfl⟩
                  have D4 : Blk U1 g10 27 #[.int .i64 alo, .int .i64 ahi, .int .i64 most, .slice A n ca, .slice A7 (j + 1) c7] := by rw [← hU1]; exact hD.set_ 4 _
                  have hS4 : OwnL SeenR 4 (fun _ => False) U1 W0.heap.size 34 (.slice An 0 c) (seenR xs l) := by
                    rw [← hU1]
                    exact hSn.keep SeenR.good (Keeps.setCell _ _ _ (fun hh => by
                      rcases hh with hh | hh
                      · exact hh
                      · obtain ⟨cur, hcur⟩ := hSn.blk hh
                        exact absurd (Blk.ty hcur hD) (by decide)))
                  have hrl : h.rows.reverse.take (j + 1) = h.rows.reverse.take j ++ [⟨fr, sw, pl⟩] := take_snoc_get (by
                    rw [List.getElem?_reverse (by rw [Hm.out]; exact hjm), Hm.out, hin]; exact Hx.out)
                  have hO4 : OwnL RowR 3 (fun _ => False) U1 W0.heap.size 36 (.slice A7 (j + 1) c7) (h.rows.reverse.take (j + 1)) := by
                    rw [← hU1, hrl]
                    exact hO7.keep RowR.good (Keeps.setCell _ _ _ (fun hh => by
                      rcases hh with hh | hh
                      · exact hh
                      · obtain ⟨cur, hcur⟩ := hO7.blk hh
                        exact absurd (Blk.ty hcur hD) (by decide)))
                  have HS5 := Lib.hid hS4
                  have HO5 := Lib.hid hO4
                  have HD5 := Lib.hid D4
                  have HB5 : Hid (Below W0.heap.size W0 U1) := by rw [Hid, ← hU1]; exact bl_set hC hgW _
                  have hwi : IntKind.i64.wrap ((i : Int) - 1) = (i : Int) - 1 := by rw [IntKind.wrap_i64]; omega
                  have HII : Hid ((i : Int) - 1 = (m : Int) - 1 - ((j + 1 : Nat) : Int)) := by rw [Hid]; omega
                  clear hS4 hO4 D4 hSn hO7 hrl hD hC
                  go_simp
                  go_wp2_with fail
                  go_roundw
                  case rel => exact ⟨j + 1, c7, A7, by rw [HII.out], by omega, HO5.out, HD5.out, HS5.out, HB5.out⟩
                  case measure => first | (simp [intOf]; done) | (simp [intOf]; omega)
              · obtain rfl : m = j := by omega
                rw [show (m : Int) - 1 - (m : Int) = -1 by omega]
                have HS3 := Lib.hid hS3
                have HO3 := Lib.hid hO2
                have HD3 := Lib.hid D3
                clear hS3 hO2 D3 hj hjm
                obtain ⟨x0, x1, x2, x3, x4⟩ := kk.out wr hB
                go_wp2_with fail
                clear x0 x1 x2 x3 x4
                refine (good_any wr (HG.out.keep (Keeps.below hB)) (HS.out.keep SeenR.good (Keeps.below hB)) h1 h2 h3).mono ?_
                rintro e V2 ⟨rfl, c2⟩
                have b2 := bl_call hB c2 (Nat.le_refl _)
                obtain ⟨gb, hgb⟩ : ∃ gb, good8 h l = gb := ⟨_, rfl⟩
                rw [hgb]
                cases gb with
                | false =>
                  clear hgb
                  go_wp2_with fail
                  refine (awake_any V2).mono ?_
                  rintro e Vz ⟨rfl, cz⟩
                  go_wp2
                  go_ret
                  exact ⟨by rfl, bl_call HBW.out (bl_call b2 cz (Nat.le_refl _)) (Nat.le_refl _)⟩
                | true =>
                  obtain ⟨e1, ea⟩ := good8_parts hgb
                  have hq6l : l.length ≤ 6 := by rw [Hq.out]; omega
                  have hls : layR h (seenR xs l) = layR h l := order_lay (seenR_mem xs l) (seenR_len xs l hq6l) e1 ea
                  have hlt := turn_lay e1 ea
                  clear hgb e1 ea hq6l
                  obtain ⟨m1, hm1⟩ : ∃ x, (layR h l).2.1 = x := ⟨_, rfl⟩
                  obtain ⟨f1, hf1⟩ : ∃ x, (layR h l).2.2 = x := ⟨_, rfl⟩
                  obtain ⟨R1, hR1⟩ : ∃ x, (layR h l).1 = x := ⟨_, rfl⟩
                  rw [hm1, hf1] at hlt
                  have HT1 := Lib.hid hlt.1
                  have HT2 := Lib.hid hlt.2
                  have HU0 : Hid ((layR h (seenR xs l)).1 = R1) := by rw [Hid, hls, hR1]
                  have HU1 : Hid ((layR h (seenR xs l)).2.1 = m1) := by rw [Hid, hls, hm1]
                  have HU2 : Hid ((layR h (seenR xs l)).2.2 = f1) := by rw [Hid, hls, hf1]
                  have HM1 := Lib.hid hm1
                  have HF1 := Lib.hid hf1
                  have HR1 := Lib.hid hR1
                  clear hlt hls hm1 hf1 hR1
                  have HSQ := Lib.hid (HS3.out.below SeenR.good c2)
                  have HOQ := Lib.hid (HO3.out.below RowR.good c2)
                  have HDQ := Lib.hid (HD3.out.bl c2)
                  clear c2 hB HS3 HO3 HD3
                  obtain ⟨x0, x1, x2, x3, x4⟩ := kk.out V2 b2
                  go_wp2_with fail
                  clear x0 x1 x2 x3 x4
                  refine (tlay_any V2 (HG.out.keep (Keeps.below b2)) (HS.out.keep SeenR.good (Keeps.below b2)) hca h1 h2 h3).mono ?_
                  rintro e V3 ⟨c3, AR, nR, cR, rfl, hR⟩
                  rw [HR1.out] at hR
                  rw [HM1.out, HF1.out]
                  have HR := Lib.hid hR
                  have b3 := bl_call b2 c3 (Nat.le_refl _)
                  have HSR3 := Lib.hid (HSQ.out.below SeenR.good c3)
                  have HOR3 := Lib.hid (HOQ.out.below RowR.good c3)
                  have HDR3 := Lib.hid (HDQ.out.bl c3)
                  clear hR c3 b2 HSQ HOQ HDQ
                  obtain ⟨x0, x1, x2, x3, x4⟩ := kk.out V3 b3
                  go_wp2_with fail
                  clear x0 x1 x2 x3 x4
                  have hsl : Seens (fun _ => True) V3 An 0 (seenR xs l) := HSR3.out.slice SeenR.good rfl (by simp only [maxLen]; omega) (fun _ _ => trivial) (fun _ _ _ => trivial)
                  refine (tlay_any V3 (HG.out.keep (Keeps.below b3)) hsl hca h1 h2 h3).mono ?_
                  rintro e V4 ⟨c4, AS2, nS, cS, rfl, hR2⟩
                  rw [HU0.out] at hR2
                  rw [HU1.out, HU2.out]
                  have HR2 := Lib.hid hR2
                  have b4 := bl_call b3 c4 (Nat.le_refl _)
                  have HR4 := Lib.hid (HR.out.keep (SlR.good IntR.good) (Keeps.below c4))
                  have HOR4 := Lib.hid (HOR3.out.below RowR.good c4)
                  have HDR4 := Lib.hid (HDR3.out.bl c4)
                  clear hR2 c4 b3 hsl HR HSR3 HOR3 HDR3
                  have d0 := HDR4.out.cell 0
                  have d1 := HDR4.out.cell 1
                  have d2 := HDR4.out.cell 2
                  have d3 := HDR4.out.cell 3
                  have d4 := HDR4.out.cell 4
                  go_wp2_with fail
                  clear d0 d1 d2 d3 d4
                  have htk : h.rows.reverse.take m = (turnH h).rows := by
                    rw [List.take_of_length_le (by rw [List.length_reverse, Hm.out]; exact Nat.le_refl _)]; rfl
                  have hrt : RowTs (fun _ => True) V4 A2 m (turnH h).rows := by
                    rw [← htk]; exact HOR4.out.slice RowR.good rfl (by simp only [maxLen]; omega) (fun _ _ => trivial) (fun _ _ _ => trivial)
                  refine (tlay_any (h := turnH h) V4 ⟨(HG.out.keep (Keeps.below b4)).ts, hrt⟩ (HS.out.keep SeenR.good (Keeps.below b4)) hca h1 h2 h3).mono ?_
                  rintro e V5 ⟨c5, AT, nT, cT, rfl, hR3⟩
                  rw [HT1.out, HT2.out]
                  have b5 := bl_call b4 c5 (Nat.le_refl _)
                  have HR5 := Lib.hid (HR4.out.keep (SlR.good IntR.good) (Keeps.below c5))
                  have HR6 := Lib.hid (HR2.out.keep (SlR.good IntR.good) (Keeps.below c5))
                  clear hR3 c5 b4 htk hrt HR4 HR2 HOR4 HDR4
                  go_wp2_with fail
                  refine (rows_any V5 HR5.out HR6.out).mono ?_
                  rintro e V6 ⟨rfl, q6, rfl⟩
                  rw [decide_eq_true (rfl : R1 = R1)]
                  obtain ⟨V7, hV7⟩ : ∃ V, V5.drewN q6 = V := ⟨_, rfl⟩
                  have b7 : Below W0.heap.size W0 V7 := by rw [← hV7]; exact bl_drewN b5 _
                  rw [hV7]
                  clear hV7 b5 HR5 HR6
                  go_wp2_with fail
                  refine (awake_any V7).mono ?_
                  rintro e Vz ⟨rfl, cz⟩
                  go_wp2
                  go_ret
                  exact ⟨by rfl, bl_call HBW.out (bl_call b7 cz (Nat.le_refl _)) (Nat.le_refl _)⟩
          · by_cases hq5 : q < 6
            · have r1 : (0 : Int) < q := by omega
              have r1n : 0 < q := by omega
              have r2 : decide ((q : Int) < 6) = true := decide_eq_true (by omega)
              obtain ⟨tv, htv⟩ : ∃ t, turnL xs 1 = t := ⟨_, rfl⟩
              have HTV := Lib.hid htv
              obtain ⟨r, hr⟩ : ∃ r, tv % q = r := ⟨_, rfl⟩
              have hrk : r < q := by rw [← hr]; exact Nat.mod_lt _ (by omega)
              have hmod : ((tv : Int)).tmod (q : Int) = (r : Int) := by
                rw [Int.tmod_eq_emod_of_nonneg (by omega), ← hr]; rfl
              have HR : Hid (turnL xs 1 % q = r) := by rw [Hid, htv, hr]
              have hmz : ¬ (q : Int) = 0 := by omega
              have hmz2 : ((q : Int) == 0) = false := by simp; omega
              have hri : (r : Int) < q := by omega
              clear htv hr
              obtain ⟨bC, oC, ct, ca9, cl9, ch9, rfl, hbC, k0, k1, k2, k3, Hy⟩ := Seens.get (HS.out.keep SeenR.good (Keeps.below hB)) hrk
              clear hbC
              have hlen : (insK xs l q).length = q := insK_len xs l q
              have HLN := Lib.hid hlen
              clear hlen
              go_wp2_with fail
              refine (turn_any 1 _ (HX.out.keep ByteR.good (Keeps.below hB))).mono ?_
              rintro e w2 ⟨rfl, rfl⟩
              rw [HTV.out]
              go_wp2_with (at_builtin; refine wpList_append_n _ rfl (.tmp 65) (.tmp 74) _ rfl SeenR.good W0.heap.size 34 iS _ 32 Try.underlying28 hiS hzS0 hzS1 hzS2 rfl (by omega) (.slice An q c) (insK xs l q) ⟨ct, ca9, cl9, ch9⟩ q HLN.out rfl (HO.out.alloc SeenR.good _) ⟨_, 0, none⟩ 1 [.int .i64 ct, .int .i64 ca9, .int .i64 cl9, .int .i64 ch9] rfl rfl (fun j v hv => blk_newsO (Blk.new _ _ _ rfl) hv) ?c1 ?c2 ?c3 (fun h => h) ?_)
              case c1 => simp only [maxLen]; omega
              case c2 => omega
              case c3 => have := hB.size; simp; omega
              intro A' cap' w3 hown2 hg2 hat2
              have hB3 : Below W0.heap.size W0 w3 := bl_grown (bl_alloc hB _ (Nat.le_refl _)) (HO.out.alloc SeenR.good _) hg2 (Nat.le_refl _) (Nat.le_refl _)
              have HSR : Hid (OwnL SeenR 4 (fun _ => False) w3 W0.heap.size 34 (.slice (some ⟨A', 0, none⟩) (q + 1) cap') (seenR xs l)) := by
                rw [Hid, seenR, if_pos (by rw [Hq.out]; omega), Hq.out, HR.out, getD_of Hy.out]; exact hown2
              clear hg2 hat2 hown2 k0 k1 k2 k3 r1 r1n r2 hmod hmz hmz2
              have hBs := hB3
              have hm1 : 1 ≤ m ∧ m ≤ 3 := by have := HKK.out.nr; rw [Hm.out] at this; exact this
              obtain ⟨g10, hg10⟩ : ∃ g, w3.heap.size = g := ⟨_, rfl⟩
              obtain ⟨Xa, hXa⟩ : ∃ U, w3.alloc (.cells #[.int .i64 alo, .int .i64 ahi, .int .i64 most, .slice A n ca, .slice B m cb] 27) = U := ⟨_, rfl⟩
              have D1 : Blk Xa g10 27 #[.int .i64 alo, .int .i64 ahi, .int .i64 most, .slice A n ca, .slice B m cb] := by rw [← hXa]; exact Blk.new _ _ _ hg10.symm
              have bVa : Below w3.heap.size w3 Xa := by rw [← hXa]; exact bl_alloc (Below.refl _ _) _ (Nat.le_refl _)
              have hgV : w3.heap.size ≤ g10 := Nat.le_of_eq hg10
              have hgW : W0.heap.size ≤ g10 := by have := hBs.size; omega
              have bWa := bl_call hBs bVa (Nat.le_refl _)
              have z4 := D1.cell 4
              have fz4 := D1.frozen 4
              have hlz := D1.lt
              obtain ⟨Xb, hXb⟩ : ∃ U, Xa.setCell ⟨g10, 4, none⟩ (.slice none 0 0) = U := ⟨_, rfl⟩
              have D2 : Blk Xb g10 27 #[.int .i64 alo, .int .i64 ahi, .int .i64 most, .slice A n ca, .slice none 0 0] := by rw [← hXb]; exact D1.set_ 4 _
              have bWb : Below W0.heap.size W0 Xb := by rw [← hXb]; exact bl_set bWa hgW _
              have bVb : Below w3.heap.size w3 Xb := by rw [← hXb]; exact bl_set bVa hgV _
              have hwm : IntKind.i64.wrap ((m : Int) - 1) = (m : Int) - 1 := by rw [IntKind.wrap_i64]; omega
              obtain ⟨x0, x1, x2, x3, x4⟩ := kk.out w3 hBs
              obtain ⟨_, _, _, _, x4b⟩ := kk.out Xb bWb
              go_wp2_with fail
              clear x0 x1 x2 x3 x4 x4b z4 fz4 hlz hXa hXb hwm D1 bVa bWa hg10
              have HSb : Hid (OwnL SeenR 4 (fun _ => False) Xb W0.heap.size 34 (.slice (some ⟨A', 0, none⟩) (q + 1) cap') (seenR xs l)) := HSR.out.below SeenR.good bVb
              clear HSR bVb hBs hgV
              go_loopw [11] (fun i wr => ∃ (j c2 : Nat) (A2 : Option Addr), i = .int .i64 ((m : Int) - 1 - j) ∧ j ≤ m ∧ OwnL RowR 3 (fun _ => False) wr W0.heap.size 36 (.slice A2 j c2) (h.rows.reverse.take j) ∧ Blk wr g10 27 #[.int .i64 alo, .int .i64 ahi, .int .i64 most, .slice A n ca, .slice A2 j c2] ∧ OwnL SeenR 4 (fun _ => False) wr W0.heap.size 34 (.slice (some ⟨A', 0, none⟩) (q + 1) cap') (seenR xs l) ∧ Below W0.heap.size W0 wr) (fun i _ => (intOf i + 1).toNat)
              case atStart => exact ⟨0, 0, none, by simp, Nat.zero_le _, by rw [List.take_zero]; exact OwnL.nil _ _ _ _ _ _, D2, HSb.out, bWb⟩
              case round =>
                obtain ⟨j, c2, A2, rfl, hj, hO2, D3, hS3, hB⟩ := hrel
                by_cases hjm : j < m
                · obtain ⟨i, hi⟩ : ∃ i : Nat, (m : Int) - 1 - j = i := ⟨m - 1 - j, by omega⟩
                  rw [hi]
                  have hi0 : (0 : Int) ≤ i := by omega
                  have him : i < m := by omega
                  have hin : m - 1 - j = i := by omega
                  obtain ⟨b, off, fr, sw, pl, rfl, hbb, r0, r1, r2, Hx⟩ := RowTs.get HG.out.rs him
                  have HK0 := Lib.hid r0
                  have HK1 := Lib.hid r1
                  have HK2 := Lib.hid r2
                  have hii : (i : Int) < m := by omega
                  have HTL : Hid ((h.rows.reverse.take j).length = j) := by rw [Hid, List.length_take, List.length_reverse, Hm.out]; omega
                  clear r0 r1 r2 hbb
                  go_wp2_with fail
                  have AS := Lib.hid (turE_stab W0.heap.size (.slice A2 j c2) (.slice (some ⟨b, off, none⟩) m cb) g10 g0 j i b off ⟨fr, sw, pl⟩ (h.rows.reverse.take j))
                  refine wp_region_invs (fun ls vs ww => TurI W0.heap.size W0 (turE W0.heap.size (.slice A2 j c2) (.slice (some ⟨b, off, none⟩) m cb) g10 g0 j i b off ⟨fr, sw, pl⟩ (h.rows.reverse.take j)) g10 #[.int .i64 alo, .int .i64 ahi, .int .i64 most, .slice A n ca, .slice A2 j c2] (.slice (some ⟨A', 0, none⟩) (q + 1) cap') (.slice A2 j c2) (seenR xs l) (h.rows.reverse.take j) ls vs ww) 10 (by kernel_rfl) (by kernel_rfl) (by kernel_rfl) (by rfl) ⟨hB.drew, D3.drew, hS3.keep SeenR.good (Keeps.drew _), fun _ => hO2.keep RowR.good (Keeps.drew _), fun i h => by cases h⟩ ?step (by rfl) (by rfl) ?fin
                  case step =>
                    refine StepsI.cons ?_ (StepsI.cons ?_ (StepsI.cons ?_ (StepsI.cons ?_ (StepsI.cons ?_ (StepsI.cons ?_ (StepsI.cons ?_ (StepsI.cons ?_ (StepsI.cons ?_ (StepsI.cons ?_ StepsI.nil)))))))))
                    all_goals
                      refine StepI.of ?_
                      intro ls vs W K hI hl hw hU hK
                      simp only [fillA, Act.put, List.setIfInBounds_toArray, List.set_cons_zero, List.set_cons_succ, Nat.zero_add, Nat.reduceAdd] at hK ⊢
                      simp [waits, Region.binds] at hw
                      have hC := hI.bl
                    · go_simp
                      exact hK _ _ (hI.step AS.out (Below.refl _ _) hC.size (by decide) rfl)
                    · have q0 : vs 0 = _ := hI.all 0 (by simp [hw])
                      simp only [q0] at hK ⊢
                      have k4 := hI.blk.cell 4
                      go_simp
                      exact hK _ _ (hI.step AS.out (Below.refl _ _) hC.size (by decide) rfl)
                    · go_simp
                      exact hK _ _ (hI.step AS.out (Below.refl _ _) hC.size (by decide) rfl)
                    · have q2 : vs 2 = _ := hI.all 2 (by simp [hw])
                      simp only [q2] at hK ⊢
                      obtain ⟨_, _, _, _, x4⟩ := kk.out W hC
                      go_simp
                      exact hK _ _ (hI.step AS.out (Below.refl _ _) hC.size (by decide) rfl)
                    · go_simp
                      exact hK _ _ (hI.step AS.out (Below.refl _ _) hC.size (by decide) rfl)
                    · have q3 : vs 3 = _ := hI.all 3 (by simp [hw])
                      have q4 : vs 4 = _ := hI.all 4 (by simp [hw])
                      simp only [q3, q4] at hK ⊢
                      go_simp
                      exact hK _ _ (hI.step AS.out (Below.refl _ _) hC.size (by decide) rfl)
                    · have q5 : vs 5 = _ := hI.all 5 (by simp [hw])
                      simp only [q5] at hK ⊢
                      have k0 := getc hC HK0.out
                      have k1 := getc hC HK1.out
                      have k2 := getc hC HK2.out
                      go_simp
                      exact hK _ _ (hI.step AS.out (Below.refl _ _) hC.size (by decide) rfl)
                    · have q6 : vs 6 = _ := hI.all 6 (by simp [hw])
                      simp only [q6] at hK ⊢
                      go_simp
                      exact hK _ _ (hI.step AS.out (bl_alloc (Below.refl _ _) _ (Nat.le_refl _)) hC.size (by decide) (.inr ⟨_, rfl, Blk.new _ _ _ rfl⟩))
                    · have hO3 := hI.rows hl
                      have q1 : vs 1 = _ := hI.all 1 (by simp [hw])
                      obtain ⟨g9, hv9, hB9⟩ := (hI.all 7 (by simp [hw])).resolve_left (by rw [hl]; decide)
                      simp only [q1, hv9] at hK ⊢
                      rw [if_pos (by rfl)]
                      obtain ⟨A4, c4, w', hrun, hO4, hg4, _⟩ := run_append_one W 25 25 RowR.good W0.heap.size 36 iR _ 24 Try.underlying25 hiR hzR0 hzR1 hzR2 rfl (by omega) (.slice A2 j c2) (h.rows.reverse.take j) ⟨fr, sw, pl⟩ hO3 ⟨g9, 0, none⟩ 1 [.int .i64 fr, .int .i64 sw, .int .i64 pl] rfl (fun j v hv => by
                        have hadd : (⟨g9, 0, none⟩ : Addr).add j = ⟨g9, j, none⟩ := by unfold Addr.add; split <;> simp_all
                        rw [hadd, hB9.cell]; simpa using hv) (by rw [HTL.out]; simp only [maxLen]; omega) (by rw [HTL.out]; omega) hC.size (fun h => h)
                      rw [HTL.out] at hrun hO4
                      refine wp_append_of_run rfl rfl rfl hrun ?_
                      have hB2 : Below W0.heap.size W0 w' := bl_grown hC hO3 hg4 (Nat.le_refl _) (Nat.le_refl _)
                      have hne : ∀ {g : Nat} {t : TypeId} {cs : Array Value}, Blk W g t cs → t ≠ 36 → some g ≠ (Value.slice A2 j c2).ownBlock := fun hb ht e => by
                        obtain ⟨cur, hcur⟩ := hO3.blk e.symm
                        exact ht (Blk.ty hb hcur)
                      refine hK _ _ ⟨hB2, hI.blk.grown hg4 (hne hI.blk (by decide)), hI.seen.keep SeenR.good (Keeps.grown hg4 fun k hk hh => by
                        rcases hh with hh | hh
                        · exact hh
                        · obtain ⟨cur, hcur⟩ := hI.seen.blk hh
                          exact hne hcur (by decide) hk.symm), (fun h8 => by unfold updB at h8; rw [if_pos rfl] at h8; cases h8), fun i2 hi2 => ?_⟩
                      have hb8 : updB ls 8 8 = true := by unfold updB; rw [if_pos rfl]
                      rw [hb8]
                      match i2, hi2 with
                      | 0, hi => exact hI.all 0 hi
                      | 1, hi => exact hI.all 1 hi
                      | 2, hi => exact hI.all 2 hi
                      | 3, hi => exact hI.all 3 hi
                      | 4, hi => exact hI.all 4 hi
                      | 5, hi => exact hI.all 5 hi
                      | 6, hi => exact hI.all 6 hi
                      | 9, hi => exact hI.all 9 hi
                      | 7, _ => exact .inl rfl
                      | 8, _ => exact ⟨some ⟨A4, 0, none⟩, c4, rfl, hO4⟩
                      | _ + 10, _ => trivial
                    · go_simp
                      exact hK _ _ (hI.step AS.out (Below.refl _ _) hC.size (by decide) rfl)
                  case fin =>
                    intro ls vs W hI hl hU
                    clear hU
                    have hC := hI.bl
                    have e9 : vs 9 = .pointer (some ⟨g10, 4, none⟩) := hI.all 9 (hl 9 (by decide))
                    have e8 := hI.all 8 (hl 8 (by decide))
                    simp only [fillA, Act.put, List.setIfInBounds_toArray, List.set_cons_zero, List.set_cons_succ, Nat.zero_add, Nat.reduceAdd, e9]
                    obtain ⟨A7, c7, h8, hO7⟩ := e8
                    rw [h8] at hO7 ⊢
                    obtain ⟨u0, hu0⟩ : ∃ v0, vs 0 = v0 := ⟨_, rfl⟩
                    obtain ⟨u1, hu1⟩ : ∃ v0, vs 1 = v0 := ⟨_, rfl⟩
                    obtain ⟨u2, hu2⟩ : ∃ v0, vs 2 = v0 := ⟨_, rfl⟩
                    obtain ⟨u3, hu3⟩ : ∃ v0, vs 3 = v0 := ⟨_, rfl⟩
                    obtain ⟨u4, hu4⟩ : ∃ v0, vs 4 = v0 := ⟨_, rfl⟩
                    obtain ⟨u5, hu5⟩ : ∃ v0, vs 5 = v0 := ⟨_, rfl⟩
                    obtain ⟨u6, hu6⟩ : ∃ v0, vs 6 = v0 := ⟨_, rfl⟩
                    obtain ⟨u7, hu7⟩ : ∃ v0, vs 7 = v0 := ⟨_, rfl⟩
                    rw [hu0, hu1, hu2, hu3, hu4, hu5, hu6, hu7]
                    clear hu0 hu1 hu2 hu3 hu4 hu5 hu6 hu7
                    have hD := hI.blk
                    have hSn := hI.seen
                    clear h8 hI hl AS e9 hO2 D3 hS3
                    have z4 := hD.cell 4
                    have fz4 := hD.frozen 4
                    have hlz := hD.lt
                    obtain ⟨U1, hU1⟩ : ∃ U, W.setCell ⟨g10, 4, none⟩ (.slice A7 (j + 1) c7) = U := ⟨_, rfl⟩
                    have D4 : Blk U1 g10 27 #[.int .i64 alo, .int .i64 ahi, .int .i64 most, .slice A n ca, .slice A7 (j + 1) c7] := by rw [← hU1]; exact hD.set_ 4 _
                    have hS4 : OwnL SeenR 4 (fun _ => False) U1 W0.heap.size 34 (.slice (some ⟨A', 0, none⟩) (q + 1) cap') (seenR xs l) := by
                      rw [← hU1]
                      exact hSn.keep SeenR.good (Keeps.setCell _ _ _ (fun hh => by
                        rcases hh with hh | hh
                        · exact hh
                        · obtain ⟨cur, hcur⟩ := hSn.blk hh
                          exact absurd (Blk.ty hcur hD) (by decide)))
                    have hrl : h.rows.reverse.take (j + 1) = h.rows.reverse.take j ++ [⟨fr, sw, pl⟩] := take_snoc_get (by
                      rw [List.getElem?_reverse (by rw [Hm.out]; exact hjm), Hm.out, hin]; exact Hx.out)
                    have hO4 : OwnL RowR 3 (fun _ => False) U1 W0.heap.size 36 (.slice A7 (j + 1) c7) (h.rows.reverse.take (j + 1)) := by
                      rw [← hU1, hrl]
                      exact hO7.keep RowR.good (Keeps.setCell _ _ _ (fun hh => by
                        rcases hh with hh | hh
                        · exact hh
                        · obtain ⟨cur, hcur⟩ := hO7.blk hh
                          exact absurd (Blk.ty hcur hD) (by decide)))
                    have HS5 := Lib.hid hS4
                    have HO5 := Lib.hid hO4
                    have HD5 := Lib.hid D4
                    have HB5 : Hid (Below W0.heap.size W0 U1) := by rw [Hid, ← hU1]; exact bl_set hC hgW _
                    have hwi : IntKind.i64.wrap ((i : Int) - 1) = (i : Int) - 1 := by rw [IntKind.wrap_i64]; omega
                    have HII : Hid ((i : Int) - 1 = (m : Int) - 1 - ((j + 1 : Nat) : Int)) := by rw [Hid]; omega
                    clear hS4 hO4 D4 hSn hO7 hrl hD hC
                    go_simp
                    go_wp2_with fail
                    go_roundw
                    case rel => exact ⟨j + 1, c7, A7, by rw [HII.out], by omega, HO5.out, HD5.out, HS5.out, HB5.out⟩
                    case measure => first | (simp [intOf]; done) | (simp [intOf]; omega)
                · obtain rfl : m = j := by omega
                  rw [show (m : Int) - 1 - (m : Int) = -1 by omega]
                  have HS3 := Lib.hid hS3
                  have HO3 := Lib.hid hO2
                  have HD3 := Lib.hid D3
                  clear hS3 hO2 D3 hj hjm
                  obtain ⟨x0, x1, x2, x3, x4⟩ := kk.out wr hB
                  go_wp2_with fail
                  clear x0 x1 x2 x3 x4
                  refine (good_any wr (HG.out.keep (Keeps.below hB)) (HS.out.keep SeenR.good (Keeps.below hB)) h1 h2 h3).mono ?_
                  rintro e V2 ⟨rfl, c2⟩
                  have b2 := bl_call hB c2 (Nat.le_refl _)
                  obtain ⟨gb, hgb⟩ : ∃ gb, good8 h l = gb := ⟨_, rfl⟩
                  rw [hgb]
                  cases gb with
                  | false =>
                    clear hgb
                    go_wp2_with fail
                    refine (awake_any V2).mono ?_
                    rintro e Vz ⟨rfl, cz⟩
                    go_wp2
                    go_ret
                    exact ⟨by rfl, bl_call HBW.out (bl_call b2 cz (Nat.le_refl _)) (Nat.le_refl _)⟩
                  | true =>
                    obtain ⟨e1, ea⟩ := good8_parts hgb
                    have hq6l : l.length ≤ 6 := by rw [Hq.out]; omega
                    have hls : layR h (seenR xs l) = layR h l := order_lay (seenR_mem xs l) (seenR_len xs l hq6l) e1 ea
                    have hlt := turn_lay e1 ea
                    clear hgb e1 ea hq6l
                    obtain ⟨m1, hm1⟩ : ∃ x, (layR h l).2.1 = x := ⟨_, rfl⟩
                    obtain ⟨f1, hf1⟩ : ∃ x, (layR h l).2.2 = x := ⟨_, rfl⟩
                    obtain ⟨R1, hR1⟩ : ∃ x, (layR h l).1 = x := ⟨_, rfl⟩
                    rw [hm1, hf1] at hlt
                    have HT1 := Lib.hid hlt.1
                    have HT2 := Lib.hid hlt.2
                    have HU0 : Hid ((layR h (seenR xs l)).1 = R1) := by rw [Hid, hls, hR1]
                    have HU1 : Hid ((layR h (seenR xs l)).2.1 = m1) := by rw [Hid, hls, hm1]
                    have HU2 : Hid ((layR h (seenR xs l)).2.2 = f1) := by rw [Hid, hls, hf1]
                    have HM1 := Lib.hid hm1
                    have HF1 := Lib.hid hf1
                    have HR1 := Lib.hid hR1
                    clear hlt hls hm1 hf1 hR1
                    have HSQ := Lib.hid (HS3.out.below SeenR.good c2)
                    have HOQ := Lib.hid (HO3.out.below RowR.good c2)
                    have HDQ := Lib.hid (HD3.out.bl c2)
                    clear c2 hB HS3 HO3 HD3
                    obtain ⟨x0, x1, x2, x3, x4⟩ := kk.out V2 b2
                    go_wp2_with fail
                    clear x0 x1 x2 x3 x4
                    refine (tlay_any V2 (HG.out.keep (Keeps.below b2)) (HS.out.keep SeenR.good (Keeps.below b2)) hca h1 h2 h3).mono ?_
                    rintro e V3 ⟨c3, AR, nR, cR, rfl, hR⟩
                    rw [HR1.out] at hR
                    rw [HM1.out, HF1.out]
                    have HR := Lib.hid hR
                    have b3 := bl_call b2 c3 (Nat.le_refl _)
                    have HSR3 := Lib.hid (HSQ.out.below SeenR.good c3)
                    have HOR3 := Lib.hid (HOQ.out.below RowR.good c3)
                    have HDR3 := Lib.hid (HDQ.out.bl c3)
                    clear hR c3 b2 HSQ HOQ HDQ
                    obtain ⟨x0, x1, x2, x3, x4⟩ := kk.out V3 b3
                    go_wp2_with fail
                    clear x0 x1 x2 x3 x4
                    have hsl : Seens (fun _ => True) V3 (some ⟨A', 0, none⟩) (q + 1) (seenR xs l) := HSR3.out.slice SeenR.good rfl (by simp only [maxLen]; omega) (fun _ _ => trivial) (fun _ _ _ => trivial)
                    refine (tlay_any V3 (HG.out.keep (Keeps.below b3)) hsl hca h1 h2 h3).mono ?_
                    rintro e V4 ⟨c4, AS2, nS, cS, rfl, hR2⟩
                    rw [HU0.out] at hR2
                    rw [HU1.out, HU2.out]
                    have HR2 := Lib.hid hR2
                    have b4 := bl_call b3 c4 (Nat.le_refl _)
                    have HR4 := Lib.hid (HR.out.keep (SlR.good IntR.good) (Keeps.below c4))
                    have HOR4 := Lib.hid (HOR3.out.below RowR.good c4)
                    have HDR4 := Lib.hid (HDR3.out.bl c4)
                    clear hR2 c4 b3 hsl HR HSR3 HOR3 HDR3
                    have d0 := HDR4.out.cell 0
                    have d1 := HDR4.out.cell 1
                    have d2 := HDR4.out.cell 2
                    have d3 := HDR4.out.cell 3
                    have d4 := HDR4.out.cell 4
                    go_wp2_with fail
                    clear d0 d1 d2 d3 d4
                    have htk : h.rows.reverse.take m = (turnH h).rows := by
                      rw [List.take_of_length_le (by rw [List.length_reverse, Hm.out]; exact Nat.le_refl _)]; rfl
                    have hrt : RowTs (fun _ => True) V4 A2 m (turnH h).rows := by
                      rw [← htk]; exact HOR4.out.slice RowR.good rfl (by simp only [maxLen]; omega) (fun _ _ => trivial) (fun _ _ _ => trivial)
                    refine (tlay_any (h := turnH h) V4 ⟨(HG.out.keep (Keeps.below b4)).ts, hrt⟩ (HS.out.keep SeenR.good (Keeps.below b4)) hca h1 h2 h3).mono ?_
                    rintro e V5 ⟨c5, AT, nT, cT, rfl, hR3⟩
                    rw [HT1.out, HT2.out]
                    have b5 := bl_call b4 c5 (Nat.le_refl _)
                    have HR5 := Lib.hid (HR4.out.keep (SlR.good IntR.good) (Keeps.below c5))
                    have HR6 := Lib.hid (HR2.out.keep (SlR.good IntR.good) (Keeps.below c5))
                    clear hR3 c5 b4 htk hrt HR4 HR2 HOR4 HDR4
                    go_wp2_with fail
                    refine (rows_any V5 HR5.out HR6.out).mono ?_
                    rintro e V6 ⟨rfl, q6, rfl⟩
                    rw [decide_eq_true (rfl : R1 = R1)]
                    obtain ⟨V7, hV7⟩ : ∃ V, V5.drewN q6 = V := ⟨_, rfl⟩
                    have b7 : Below W0.heap.size W0 V7 := by rw [← hV7]; exact bl_drewN b5 _
                    rw [hV7]
                    clear hV7 b5 HR5 HR6
                    go_wp2_with fail
                    refine (awake_any V7).mono ?_
                    rintro e Vz ⟨rfl, cz⟩
                    go_wp2
                    go_ret
                    exact ⟨by rfl, bl_call HBW.out (bl_call b7 cz (Nat.le_refl _)) (Nat.le_refl _)⟩
            · have HSR : Hid (OwnL SeenR 4 (fun _ => False) wr W0.heap.size 34 (.slice An q c) (seenR xs l)) := by
                rw [Hid, seenR, if_neg (by rw [Hq.out]; omega), Hq.out]; exact HO.out
              have r1 : (0 : Int) < q := by omega
              have r1n : 0 < q := by omega
              have r2 : decide ((q : Int) < 6) = false := decide_eq_false (by omega)
              have hBs := hB
              have hm1 : 1 ≤ m ∧ m ≤ 3 := by have := HKK.out.nr; rw [Hm.out] at this; exact this
              obtain ⟨g10, hg10⟩ : ∃ g, wr.heap.size = g := ⟨_, rfl⟩
              obtain ⟨Xa, hXa⟩ : ∃ U, wr.alloc (.cells #[.int .i64 alo, .int .i64 ahi, .int .i64 most, .slice A n ca, .slice B m cb] 27) = U := ⟨_, rfl⟩
              have D1 : Blk Xa g10 27 #[.int .i64 alo, .int .i64 ahi, .int .i64 most, .slice A n ca, .slice B m cb] := by rw [← hXa]; exact Blk.new _ _ _ hg10.symm
              have bVa : Below wr.heap.size wr Xa := by rw [← hXa]; exact bl_alloc (Below.refl _ _) _ (Nat.le_refl _)
              have hgV : wr.heap.size ≤ g10 := Nat.le_of_eq hg10
              have hgW : W0.heap.size ≤ g10 := by have := hBs.size; omega
              have bWa := bl_call hBs bVa (Nat.le_refl _)
              have z4 := D1.cell 4
              have fz4 := D1.frozen 4
              have hlz := D1.lt
              obtain ⟨Xb, hXb⟩ : ∃ U, Xa.setCell ⟨g10, 4, none⟩ (.slice none 0 0) = U := ⟨_, rfl⟩
              have D2 : Blk Xb g10 27 #[.int .i64 alo, .int .i64 ahi, .int .i64 most, .slice A n ca, .slice none 0 0] := by rw [← hXb]; exact D1.set_ 4 _
              have bWb : Below W0.heap.size W0 Xb := by rw [← hXb]; exact bl_set bWa hgW _
              have bVb : Below wr.heap.size wr Xb := by rw [← hXb]; exact bl_set bVa hgV _
              have hwm : IntKind.i64.wrap ((m : Int) - 1) = (m : Int) - 1 := by rw [IntKind.wrap_i64]; omega
              obtain ⟨x0, x1, x2, x3, x4⟩ := kk.out wr hBs
              obtain ⟨_, _, _, _, x4b⟩ := kk.out Xb bWb
              go_wp2_with fail
              clear x0 x1 x2 x3 x4 x4b z4 fz4 hlz hXa hXb hwm D1 bVa bWa hg10
              have HSb : Hid (OwnL SeenR 4 (fun _ => False) Xb W0.heap.size 34 (.slice An q c) (seenR xs l)) := HSR.out.below SeenR.good bVb
              clear HSR bVb hBs hgV
              go_loopw [11] (fun i wr => ∃ (j c2 : Nat) (A2 : Option Addr), i = .int .i64 ((m : Int) - 1 - j) ∧ j ≤ m ∧ OwnL RowR 3 (fun _ => False) wr W0.heap.size 36 (.slice A2 j c2) (h.rows.reverse.take j) ∧ Blk wr g10 27 #[.int .i64 alo, .int .i64 ahi, .int .i64 most, .slice A n ca, .slice A2 j c2] ∧ OwnL SeenR 4 (fun _ => False) wr W0.heap.size 34 (.slice An q c) (seenR xs l) ∧ Below W0.heap.size W0 wr) (fun i _ => (intOf i + 1).toNat)
              case atStart => exact ⟨0, 0, none, by simp, Nat.zero_le _, by rw [List.take_zero]; exact OwnL.nil _ _ _ _ _ _, D2, HSb.out, bWb⟩
              case round =>
                obtain ⟨j, c2, A2, rfl, hj, hO2, D3, hS3, hB⟩ := hrel
                by_cases hjm : j < m
                · obtain ⟨i, hi⟩ : ∃ i : Nat, (m : Int) - 1 - j = i := ⟨m - 1 - j, by omega⟩
                  rw [hi]
                  have hi0 : (0 : Int) ≤ i := by omega
                  have him : i < m := by omega
                  have hin : m - 1 - j = i := by omega
                  obtain ⟨b, off, fr, sw, pl, rfl, hbb, r0, r1, r2, Hx⟩ := RowTs.get HG.out.rs him
                  have HK0 := Lib.hid r0
                  have HK1 := Lib.hid r1
                  have HK2 := Lib.hid r2
                  have hii : (i : Int) < m := by omega
                  have HTL : Hid ((h.rows.reverse.take j).length = j) := by rw [Hid, List.length_take, List.length_reverse, Hm.out]; omega
                  clear r0 r1 r2 hbb
                  go_wp2_with fail
                  have AS := Lib.hid (turE_stab W0.heap.size (.slice A2 j c2) (.slice (some ⟨b, off, none⟩) m cb) g10 g0 j i b off ⟨fr, sw, pl⟩ (h.rows.reverse.take j))
                  refine wp_region_invs (fun ls vs ww => TurI W0.heap.size W0 (turE W0.heap.size (.slice A2 j c2) (.slice (some ⟨b, off, none⟩) m cb) g10 g0 j i b off ⟨fr, sw, pl⟩ (h.rows.reverse.take j)) g10 #[.int .i64 alo, .int .i64 ahi, .int .i64 most, .slice A n ca, .slice A2 j c2] (.slice An q c) (.slice A2 j c2) (seenR xs l) (h.rows.reverse.take j) ls vs ww) 10 (by kernel_rfl) (by kernel_rfl) (by kernel_rfl) (by rfl) ⟨hB.drew, D3.drew, hS3.keep SeenR.good (Keeps.drew _), fun _ => hO2.keep RowR.good (Keeps.drew _), fun i h => by cases h⟩ ?step (by rfl) (by rfl) ?fin
                  case step =>
                    refine StepsI.cons ?_ (StepsI.cons ?_ (StepsI.cons ?_ (StepsI.cons ?_ (StepsI.cons ?_ (StepsI.cons ?_ (StepsI.cons ?_ (StepsI.cons ?_ (StepsI.cons ?_ (StepsI.cons ?_ StepsI.nil)))))))))
                    all_goals
                      refine StepI.of ?_
                      intro ls vs W K hI hl hw hU hK
                      simp only [fillA, Act.put, List.setIfInBounds_toArray, List.set_cons_zero, List.set_cons_succ, Nat.zero_add, Nat.reduceAdd] at hK ⊢
                      simp [waits, Region.binds] at hw
                      have hC := hI.bl
                    · go_simp
                      exact hK _ _ (hI.step AS.out (Below.refl _ _) hC.size (by decide) rfl)
                    · have q0 : vs 0 = _ := hI.all 0 (by simp [hw])
                      simp only [q0] at hK ⊢
                      have k4 := hI.blk.cell 4
                      go_simp
                      exact hK _ _ (hI.step AS.out (Below.refl _ _) hC.size (by decide) rfl)
                    · go_simp
                      exact hK _ _ (hI.step AS.out (Below.refl _ _) hC.size (by decide) rfl)
                    · have q2 : vs 2 = _ := hI.all 2 (by simp [hw])
                      simp only [q2] at hK ⊢
                      obtain ⟨_, _, _, _, x4⟩ := kk.out W hC
                      go_simp
                      exact hK _ _ (hI.step AS.out (Below.refl _ _) hC.size (by decide) rfl)
                    · go_simp
                      exact hK _ _ (hI.step AS.out (Below.refl _ _) hC.size (by decide) rfl)
                    · have q3 : vs 3 = _ := hI.all 3 (by simp [hw])
                      have q4 : vs 4 = _ := hI.all 4 (by simp [hw])
                      simp only [q3, q4] at hK ⊢
                      go_simp
                      exact hK _ _ (hI.step AS.out (Below.refl _ _) hC.size (by decide) rfl)
                    · have q5 : vs 5 = _ := hI.all 5 (by simp [hw])
                      simp only [q5] at hK ⊢
                      have k0 := getc hC HK0.out
                      have k1 := getc hC HK1.out
                      have k2 := getc hC HK2.out
                      go_simp
                      exact hK _ _ (hI.step AS.out (Below.refl _ _) hC.size (by decide) rfl)
                    · have q6 : vs 6 = _ := hI.all 6 (by simp [hw])
                      simp only [q6] at hK ⊢
                      go_simp
                      exact hK _ _ (hI.step AS.out (bl_alloc (Below.refl _ _) _ (Nat.le_refl _)) hC.size (by decide) (.inr ⟨_, rfl, Blk.new _ _ _ rfl⟩))
                    · have hO3 := hI.rows hl
                      have q1 : vs 1 = _ := hI.all 1 (by simp [hw])
                      obtain ⟨g9, hv9, hB9⟩ := (hI.all 7 (by simp [hw])).resolve_left (by rw [hl]; decide)
                      simp only [q1, hv9] at hK ⊢
                      rw [if_pos (by rfl)]
                      obtain ⟨A4, c4, w', hrun, hO4, hg4, _⟩ := run_append_one W 25 25 RowR.good W0.heap.size 36 iR _ 24 Try.underlying25 hiR hzR0 hzR1 hzR2 rfl (by omega) (.slice A2 j c2) (h.rows.reverse.take j) ⟨fr, sw, pl⟩ hO3 ⟨g9, 0, none⟩ 1 [.int .i64 fr, .int .i64 sw, .int .i64 pl] rfl (fun j v hv => by
                        have hadd : (⟨g9, 0, none⟩ : Addr).add j = ⟨g9, j, none⟩ := by unfold Addr.add; split <;> simp_all
                        rw [hadd, hB9.cell]; simpa using hv) (by rw [HTL.out]; simp only [maxLen]; omega) (by rw [HTL.out]; omega) hC.size (fun h => h)
                      rw [HTL.out] at hrun hO4
                      refine wp_append_of_run rfl rfl rfl hrun ?_
                      have hB2 : Below W0.heap.size W0 w' := bl_grown hC hO3 hg4 (Nat.le_refl _) (Nat.le_refl _)
                      have hne : ∀ {g : Nat} {t : TypeId} {cs : Array Value}, Blk W g t cs → t ≠ 36 → some g ≠ (Value.slice A2 j c2).ownBlock := fun hb ht e => by
                        obtain ⟨cur, hcur⟩ := hO3.blk e.symm
                        exact ht (Blk.ty hb hcur)
                      refine hK _ _ ⟨hB2, hI.blk.grown hg4 (hne hI.blk (by decide)), hI.seen.keep SeenR.good (Keeps.grown hg4 fun k hk hh => by
                        rcases hh with hh | hh
                        · exact hh
                        · obtain ⟨cur, hcur⟩ := hI.seen.blk hh
                          exact hne hcur (by decide) hk.symm), (fun h8 => by unfold updB at h8; rw [if_pos rfl] at h8; cases h8), fun i2 hi2 => ?_⟩
                      have hb8 : updB ls 8 8 = true := by unfold updB; rw [if_pos rfl]
                      rw [hb8]
                      match i2, hi2 with
                      | 0, hi => exact hI.all 0 hi
                      | 1, hi => exact hI.all 1 hi
                      | 2, hi => exact hI.all 2 hi
                      | 3, hi => exact hI.all 3 hi
                      | 4, hi => exact hI.all 4 hi
                      | 5, hi => exact hI.all 5 hi
                      | 6, hi => exact hI.all 6 hi
                      | 9, hi => exact hI.all 9 hi
                      | 7, _ => exact .inl rfl
                      | 8, _ => exact ⟨some ⟨A4, 0, none⟩, c4, rfl, hO4⟩
                      | _ + 10, _ => trivial
                    · go_simp
                      exact hK _ _ (hI.step AS.out (Below.refl _ _) hC.size (by decide) rfl)
                  case fin =>
                    intro ls vs W hI hl hU
                    clear hU
                    have hC := hI.bl
                    have e9 : vs 9 = .pointer (some ⟨g10, 4, none⟩) := hI.all 9 (hl 9 (by decide))
                    have e8 := hI.all 8 (hl 8 (by decide))
                    simp only [fillA, Act.put, List.setIfInBounds_toArray, List.set_cons_zero, List.set_cons_succ, Nat.zero_add, Nat.reduceAdd, e9]
                    obtain ⟨A7, c7, h8, hO7⟩ := e8
                    rw [h8] at hO7 ⊢
                    obtain ⟨u0, hu0⟩ : ∃ v0, vs 0 = v0 := ⟨_, rfl⟩
                    obtain ⟨u1, hu1⟩ : ∃ v0, vs 1 = v0 := ⟨_, rfl⟩
                    obtain ⟨u2, hu2⟩ : ∃ v0, vs 2 = v0 := ⟨_, rfl⟩
                    obtain ⟨u3, hu3⟩ : ∃ v0, vs 3 = v0 := ⟨_, rfl⟩
                    obtain ⟨u4, hu4⟩ : ∃ v0, vs 4 = v0 := ⟨_, rfl⟩
                    obtain ⟨u5, hu5⟩ : ∃ v0, vs 5 = v0 := ⟨_, rfl⟩
                    obtain ⟨u6, hu6⟩ : ∃ v0, vs 6 = v0 := ⟨_, rfl⟩
                    obtain ⟨u7, hu7⟩ : ∃ v0, vs 7 = v0 := ⟨_, rfl⟩
                    rw [hu0, hu1, hu2, hu3, hu4, hu5, hu6, hu7]
                    clear hu0 hu1 hu2 hu3 hu4 hu5 hu6 hu7
                    have hD := hI.blk
                    have hSn := hI.seen
                    clear h8 hI hl AS e9 hO2 D3 hS3
                    have z4 := hD.cell 4
                    have fz4 := hD.frozen 4
                    have hlz := hD.lt
                    obtain ⟨U1, hU1⟩ : ∃ U, W.setCell ⟨g10, 4, none⟩ (.slice A7 (j + 1) c7) = U := ⟨_, rfl⟩
                    have D4 : Blk U1 g10 27 #[.int .i64 alo, .int .i64 ahi, .int .i64 most, .slice A n ca, .slice A7 (j + 1) c7] := by rw [← hU1]; exact hD.set_ 4 _
                    have hS4 : OwnL SeenR 4 (fun _ => False) U1 W0.heap.size 34 (.slice An q c) (seenR xs l) := by
                      rw [← hU1]
                      exact hSn.keep SeenR.good (Keeps.setCell _ _ _ (fun hh => by
                        rcases hh with hh | hh
                        · exact hh
                        · obtain ⟨cur, hcur⟩ := hSn.blk hh
                          exact absurd (Blk.ty hcur hD) (by decide)))
                    have hrl : h.rows.reverse.take (j + 1) = h.rows.reverse.take j ++ [⟨fr, sw, pl⟩] := take_snoc_get (by
                      rw [List.getElem?_reverse (by rw [Hm.out]; exact hjm), Hm.out, hin]; exact Hx.out)
                    have hO4 : OwnL RowR 3 (fun _ => False) U1 W0.heap.size 36 (.slice A7 (j + 1) c7) (h.rows.reverse.take (j + 1)) := by
                      rw [← hU1, hrl]
                      exact hO7.keep RowR.good (Keeps.setCell _ _ _ (fun hh => by
                        rcases hh with hh | hh
                        · exact hh
                        · obtain ⟨cur, hcur⟩ := hO7.blk hh
                          exact absurd (Blk.ty hcur hD) (by decide)))
                    have HS5 := Lib.hid hS4
                    have HO5 := Lib.hid hO4
                    have HD5 := Lib.hid D4
                    have HB5 : Hid (Below W0.heap.size W0 U1) := by rw [Hid, ← hU1]; exact bl_set hC hgW _
                    have hwi : IntKind.i64.wrap ((i : Int) - 1) = (i : Int) - 1 := by rw [IntKind.wrap_i64]; omega
                    have HII : Hid ((i : Int) - 1 = (m : Int) - 1 - ((j + 1 : Nat) : Int)) := by rw [Hid]; omega
                    clear hS4 hO4 D4 hSn hO7 hrl hD hC
                    go_simp
                    go_wp2_with fail
                    go_roundw
                    case rel => exact ⟨j + 1, c7, A7, by rw [HII.out], by omega, HO5.out, HD5.out, HS5.out, HB5.out⟩
                    case measure => first | (simp [intOf]; done) | (simp [intOf]; omega)
                · obtain rfl : m = j := by omega
                  rw [show (m : Int) - 1 - (m : Int) = -1 by omega]
                  have HS3 := Lib.hid hS3
                  have HO3 := Lib.hid hO2
                  have HD3 := Lib.hid D3
                  clear hS3 hO2 D3 hj hjm
                  obtain ⟨x0, x1, x2, x3, x4⟩ := kk.out wr hB
                  go_wp2_with fail
                  clear x0 x1 x2 x3 x4
                  refine (good_any wr (HG.out.keep (Keeps.below hB)) (HS.out.keep SeenR.good (Keeps.below hB)) h1 h2 h3).mono ?_
                  rintro e V2 ⟨rfl, c2⟩
                  have b2 := bl_call hB c2 (Nat.le_refl _)
                  obtain ⟨gb, hgb⟩ : ∃ gb, good8 h l = gb := ⟨_, rfl⟩
                  rw [hgb]
                  cases gb with
                  | false =>
                    clear hgb
                    go_wp2_with fail
                    refine (awake_any V2).mono ?_
                    rintro e Vz ⟨rfl, cz⟩
                    go_wp2
                    go_ret
                    exact ⟨by rfl, bl_call HBW.out (bl_call b2 cz (Nat.le_refl _)) (Nat.le_refl _)⟩
                  | true =>
                    obtain ⟨e1, ea⟩ := good8_parts hgb
                    have hq6l : l.length ≤ 6 := by rw [Hq.out]; omega
                    have hls : layR h (seenR xs l) = layR h l := order_lay (seenR_mem xs l) (seenR_len xs l hq6l) e1 ea
                    have hlt := turn_lay e1 ea
                    clear hgb e1 ea hq6l
                    obtain ⟨m1, hm1⟩ : ∃ x, (layR h l).2.1 = x := ⟨_, rfl⟩
                    obtain ⟨f1, hf1⟩ : ∃ x, (layR h l).2.2 = x := ⟨_, rfl⟩
                    obtain ⟨R1, hR1⟩ : ∃ x, (layR h l).1 = x := ⟨_, rfl⟩
                    rw [hm1, hf1] at hlt
                    have HT1 := Lib.hid hlt.1
                    have HT2 := Lib.hid hlt.2
                    have HU0 : Hid ((layR h (seenR xs l)).1 = R1) := by rw [Hid, hls, hR1]
                    have HU1 : Hid ((layR h (seenR xs l)).2.1 = m1) := by rw [Hid, hls, hm1]
                    have HU2 : Hid ((layR h (seenR xs l)).2.2 = f1) := by rw [Hid, hls, hf1]
                    have HM1 := Lib.hid hm1
                    have HF1 := Lib.hid hf1
                    have HR1 := Lib.hid hR1
                    clear hlt hls hm1 hf1 hR1
                    have HSQ := Lib.hid (HS3.out.below SeenR.good c2)
                    have HOQ := Lib.hid (HO3.out.below RowR.good c2)
                    have HDQ := Lib.hid (HD3.out.bl c2)
                    clear c2 hB HS3 HO3 HD3
                    obtain ⟨x0, x1, x2, x3, x4⟩ := kk.out V2 b2
                    go_wp2_with fail
                    clear x0 x1 x2 x3 x4
                    refine (tlay_any V2 (HG.out.keep (Keeps.below b2)) (HS.out.keep SeenR.good (Keeps.below b2)) hca h1 h2 h3).mono ?_
                    rintro e V3 ⟨c3, AR, nR, cR, rfl, hR⟩
                    rw [HR1.out] at hR
                    rw [HM1.out, HF1.out]
                    have HR := Lib.hid hR
                    have b3 := bl_call b2 c3 (Nat.le_refl _)
                    have HSR3 := Lib.hid (HSQ.out.below SeenR.good c3)
                    have HOR3 := Lib.hid (HOQ.out.below RowR.good c3)
                    have HDR3 := Lib.hid (HDQ.out.bl c3)
                    clear hR c3 b2 HSQ HOQ HDQ
                    obtain ⟨x0, x1, x2, x3, x4⟩ := kk.out V3 b3
                    go_wp2_with fail
                    clear x0 x1 x2 x3 x4
                    have hsl : Seens (fun _ => True) V3 An q (seenR xs l) := HSR3.out.slice SeenR.good rfl (by simp only [maxLen]; omega) (fun _ _ => trivial) (fun _ _ _ => trivial)
                    refine (tlay_any V3 (HG.out.keep (Keeps.below b3)) hsl hca h1 h2 h3).mono ?_
                    rintro e V4 ⟨c4, AS2, nS, cS, rfl, hR2⟩
                    rw [HU0.out] at hR2
                    rw [HU1.out, HU2.out]
                    have HR2 := Lib.hid hR2
                    have b4 := bl_call b3 c4 (Nat.le_refl _)
                    have HR4 := Lib.hid (HR.out.keep (SlR.good IntR.good) (Keeps.below c4))
                    have HOR4 := Lib.hid (HOR3.out.below RowR.good c4)
                    have HDR4 := Lib.hid (HDR3.out.bl c4)
                    clear hR2 c4 b3 hsl HR HSR3 HOR3 HDR3
                    have d0 := HDR4.out.cell 0
                    have d1 := HDR4.out.cell 1
                    have d2 := HDR4.out.cell 2
                    have d3 := HDR4.out.cell 3
                    have d4 := HDR4.out.cell 4
                    go_wp2_with fail
                    clear d0 d1 d2 d3 d4
                    have htk : h.rows.reverse.take m = (turnH h).rows := by
                      rw [List.take_of_length_le (by rw [List.length_reverse, Hm.out]; exact Nat.le_refl _)]; rfl
                    have hrt : RowTs (fun _ => True) V4 A2 m (turnH h).rows := by
                      rw [← htk]; exact HOR4.out.slice RowR.good rfl (by simp only [maxLen]; omega) (fun _ _ => trivial) (fun _ _ _ => trivial)
                    refine (tlay_any (h := turnH h) V4 ⟨(HG.out.keep (Keeps.below b4)).ts, hrt⟩ (HS.out.keep SeenR.good (Keeps.below b4)) hca h1 h2 h3).mono ?_
                    rintro e V5 ⟨c5, AT, nT, cT, rfl, hR3⟩
                    rw [HT1.out, HT2.out]
                    have b5 := bl_call b4 c5 (Nat.le_refl _)
                    have HR5 := Lib.hid (HR4.out.keep (SlR.good IntR.good) (Keeps.below c5))
                    have HR6 := Lib.hid (HR2.out.keep (SlR.good IntR.good) (Keeps.below c5))
                    clear hR3 c5 b4 htk hrt HR4 HR2 HOR4 HDR4
                    go_wp2_with fail
                    refine (rows_any V5 HR5.out HR6.out).mono ?_
                    rintro e V6 ⟨rfl, q6, rfl⟩
                    rw [decide_eq_true (rfl : R1 = R1)]
                    obtain ⟨V7, hV7⟩ : ∃ V, V5.drewN q6 = V := ⟨_, rfl⟩
                    have b7 : Below W0.heap.size W0 V7 := by rw [← hV7]; exact bl_drewN b5 _
                    rw [hV7]
                    clear hV7 b5 HR5 HR6
                    go_wp2_with fail
                    refine (awake_any V7).mono ?_
                    rintro e Vz ⟨rfl, cz⟩
                    go_wp2
                    go_ret
                    exact ⟨by rfl, bl_call HBW.out (bl_call b7 cz (Nat.le_refl _)) (Nat.le_refl _)⟩

end Go.Proofs.Ytnaadjhiahjlfaa
