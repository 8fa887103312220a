/- Walks: the law TileReached. -/
import Derived.Test.YtpbimgafafkjgaaCTDryPs
import Derived.Test.YtpbimgafafkjgaaCTLaw2
import Derived.Test.YtpbimgafafkjgaaCTOuts1
import Derived.Test.YtpbimgafafkjgaaCTOuts2
import Derived.Test.YtpbimgafafkjgaaCTRegs
set_option linter.unusedVariables false
set_option linter.unusedSimpArgs false
set_option linter.all false
namespace Go.Proofs.Ytpbimgafafkjgaa
open Go.RowKit

/-- an invariant of single promises; two operations may change what the others promise -/
def InvG (B : Nat) (W0 : World) (E : Nat → Bool → Bool → Value → World → Prop) (j0 j1 : Nat) (ls : Nat → Bool) (vs : Nat → Value) (w : World) : Prop :=
  Below B W0 w ∧ ∀ i, ls i = true → E i (ls j0) (ls j1) (vs i) w
theorem InvG.step {B : Nat} {W0 : World} {E : Nat → Bool → Bool → Value → World → Prop} {j0 j1 j : Nat} {ls : Nat → Bool} {vs : Nat → Value} {w w' : World} {v : Value} (stab : ∀ i p q v w w', Below w.heap.size w w' → E i p q v w → E i p q v w') (hI : InvG B W0 E j0 j1 ls vs w) (hb : Below w.heap.size w w') (hB : B ≤ w.heap.size) (hj : j ≠ j0) (hj1 : j ≠ j1) (hv : E j (ls j0) (ls j1) v w') : InvG B W0 E j0 j1 (updB ls j) (updV vs j v) w' := by
  refine ⟨hI.1.trans (hb.mono hB), fun i hi => ?_⟩
  have h0 : updB ls j j0 = ls j0 := by unfold updB; rw [if_neg (fun e => hj e.symm)]
  have h1 : updB ls j j1 = ls j1 := by unfold updB; rw [if_neg (fun e => hj1 e.symm)]
  rw [h0, h1]
  by_cases hij : i = j
  · subst hij; simpa [updV] using hv
  · have : updB ls j i = ls i := by unfold updB; rw [if_neg hij]
    rw [this] at hi
    rw [show updV vs j v i = vs i by simp [updV, hij]]
    exact stab _ _ _ _ _ _ hb (hI.2 i hi)

/-- what the operations of a round promise; 11: the append to the copied tiles that are seen, 19: the store of the answer -/
def reE (B : Nat) (hv lv : Value) (q : Nat) (l : List Seen) (it an : Nat) (nv : Int) (z1 z2 z3 : Int) : Nat → Bool → Bool → Value → World → Prop
  | 0, _, _, v, _ => v = hv
  | 1, p, _, v, W => p = true ∨ ∃ g, B ≤ g ∧ v = .slice (some ⟨g, 0, none⟩) 0 0 ∧ Blk W g 72 #[]
  | 2, _, _, v, _ => v = lv
  | 3, p, _, v, W => p = true ∨ ∃ A c, v = .slice A q c ∧ OwnL SeenR 4 (fun _ => False) W B 72 v l
  | 4, _, _, v, _ => v = .int .i64 it
  | 5, _, _, v, _ => v = .int .i64 an
  | 6, _, _, v, _ => v = .int .i64 nv
  | 7, _, _, v, _ => v = .int .i64 nv
  | 8, _, _, v, _ => v = .agg #[.int .i64 nv, .int .i64 nv]
  | 9, _, _, v, _ => v = .agg #[.int .i64 it, .int .i64 an, .int .i64 nv, .int .i64 nv]
  | 10, p, _, v, W => p = true ∨ ∃ g, v = .slice (some ⟨g, 0, none⟩) 1 1 ∧ Blk W g 72 #[.int .i64 it, .int .i64 an, .int .i64 nv, .int .i64 nv]
  | 11, _, s, v, W => s = true ∨ ∃ A c, v = .slice A (q + 1) c ∧ Seens (fun k => B ≤ k) W A (q + 1) (moreS l it an nv)
  | 12, _, _, v, _ => v = .int .i64 it
  | 13, _, _, v, _ => v = .int .i64 an
  | 14, _, _, v, _ => v = .tuple #[.agg #[.int .i64 z1, .int .i64 z2], .int .i64 z3]
  | 15, _, _, v, _ => v = .tuple #[.agg #[.int .i64 z1, .int .i64 z2], .int .i64 z3]
  | 16, _, _, v, _ => v = .agg #[.int .i64 z1, .int .i64 z2]
  | 17, _, _, v, _ => v = .int .i64 z3
  | 18, _, s, v, W => ∃ g, B ≤ g ∧ v = .pointer (some ⟨g, 0, none⟩) ∧ Blk W g 23 (if s then #[.int .i64 z1, .int .i64 z2] else #[.int .i64 0, .int .i64 0])
  | _, _, _, _, _ => True
theorem reE_stab (B : Nat) (hv lv : Value) (q : Nat) (l : List Seen) (it an : Nat) (nv : Int) (z1 z2 z3 : Int) : ∀ i p s v w w', Below w.heap.size w w' → reE B hv lv q l it an nv z1 z2 z3 i p s v w → reE B hv lv q l it an nv z1 z2 z3 i p s v w'
  | 0, _, _, _, _, _, _, h => h
  | 1, _, _, _, _, _, hb, h => h.imp id fun ⟨g, h1, h2, h3⟩ => ⟨g, h1, h2, h3.bl hb⟩
  | 2, _, _, _, _, _, _, h => h
  | 3, _, _, _, _, _, hb, h => h.imp id fun ⟨A, c, h1, h2⟩ => ⟨A, c, h1, h2.below SeenR.good hb⟩
  | 4, _, _, _, _, _, _, h => h
  | 5, _, _, _, _, _, _, h => h
  | 6, _, _, _, _, _, _, h => h
  | 7, _, _, _, _, _, _, h => h
  | 8, _, _, _, _, _, _, h => h
  | 9, _, _, _, _, _, _, h => h
  | 10, _, _, _, _, _, hb, h => h.imp id fun ⟨g, h1, h2⟩ => ⟨g, h1, h2.bl hb⟩
  | 11, _, _, _, _, _, hb, h => h.imp id fun ⟨A, c, h1, h2⟩ => ⟨A, c, h1, h2.keep SeenR.good (Keeps.below hb)⟩
  | 12, _, _, _, _, _, _, h => h
  | 13, _, _, _, _, _, _, h => h
  | 14, _, _, _, _, _, _, h => h
  | 15, _, _, _, _, _, _, h => h
  | 16, _, _, _, _, _, _, h => h
  | 17, _, _, _, _, _, _, h => h
  | 18, _, _, _, _, _, hb, ⟨g, h1, h2, h3⟩ => ⟨g, h1, h2, h3.bl hb⟩
  | _ + 19, _, _, _, _, _, _, _ => trivial

theorem OwnL.blk {α : Type} {R : Rd α} {m : Nat} {S : Foot} {w : World} {base : Nat} {e : TypeId} {v : Value} {xs : List α} (h : OwnL R m S w base e v xs) {k : Nat} (hk : v.ownBlock = some k) : ∃ cur, Blk w k e cur := by
  obtain ⟨_, cells, ho, _⟩ := h
  rcases ho.2 with ⟨e, _⟩ | ⟨gb, cap, cur, e, _, hgg, _⟩
  · subst e; simp [Value.ownBlock] at hk
  · subst e
    have : gb = k := by simpa [Value.ownBlock] using hk
    subst this
    exact ⟨cur, hgg⟩
theorem Blk.ty {w : World} {g : Nat} {t1 t2 : TypeId} {c1 c2 : Array Value} (h1 : Blk w g t1 c1) (h2 : Blk w g t2 c2) : t1 = t2 := by
  have e := h1.symm.trans h2
  injection e with e
  injection e
theorem wp_frameE {c : Code} {P : Program} {Q : Exit → Act → World → Prop} {a : Act} {w : World} (h : ∀ a0 : Act, a0 = a → c.wp P Q a0 w) : c.wp P Q a w := h a rfl
theorem width_bad {h : Hall} {l : List Seen} {t : Nat} {a : Int} (hb : good8 h l = false) (ht : t < h.tiles.length) (h0 : 0 ≤ a) (h40 : a ≤ 40) : ∃ s, width8 h l t a = ((0, 0), s) ∧ s ≠ 0 := by
  unfold width8
  by_cases e1 : (seen8 h l).2 = 0
  · rw [if_neg (by simp [e1]), if_neg (by simp [inB]; omega), if_neg (by simp [inB]; omega)]
    have ha : agree8 h l = false := by
      unfold good8 at hb
      rw [e1] at hb
      simpa using hb
    rw [if_pos ha]
    exact ⟨9, rfl, by decide⟩
  · rw [if_pos e1]; exact ⟨_, rfl, e1⟩
theorem wide_ends {h : Hall} {l : List Seen} {t : Nat} {a w1 w2 : Int} (hag : agree8 h l = true) (ht : t < h.tiles.length) (hw : wide8 h l t a = (w1, w2)) : (∃ p ∈ twosL h l t, p.1 + p.2 * a = w1) ∧ (∃ p ∈ twosL h l t, p.1 + p.2 * a = w2) ∧ ∀ n, n < w1 ∨ w2 < n → ∀ p ∈ twosL h l t, p.1 + p.2 * a ≠ n := by
  have hne : ((twosL h l t).map fun p => p.1 + p.2 * a) ≠ [] := by simpa using agree_ne hag ht
  obtain ⟨q1, q2, q3⟩ := endsOfA_bd hne
  unfold wide8 wideOf at hw
  rw [hw] at q1 q2 q3
  dsimp only at q1 q2 q3
  refine ⟨by obtain ⟨p, hp, e⟩ := List.mem_map.1 q2; exact ⟨p, hp, e⟩, by obtain ⟨p, hp, e⟩ := List.mem_map.1 q3; exact ⟨p, hp, e⟩, fun n hn p hp e => ?_⟩
  have := q1 _ (List.mem_map_of_mem hp)
  omega

set_option maxRecDepth 100000 in
set_option maxHeartbeats 8000000 in
theorem reachLaw_any {A B C : Option Addr} {n ca m cb q cc : Nat} {h : Hall} {l : List Seen} {alo ahi most : Int} (d0 d1 d2 : Nat) (hd0 : d0 < 256) (hd1 : d1 < 256) (hd2 : d2 < 256) (w : World) (g : HallAt (fun _ => True) w A n B m h) (gs : Seens (fun _ => True) w C q l) (hca : n ≤ ca) (h1 : h.alo = alo) (h2 : h.ahi = ahi) (h3 : h.most = most) :
    Calls Try.prog 8 #[.agg #[.int .i64 alo, .int .i64 ahi, .int .i64 most, .slice A n ca, .slice B m cb], .slice C q cc, .agg #[.int .u8 d0, .int .u8 d1, .int .u8 d2]] w fun e w' => e = .returned (.bool true) ∧ Below w.heap.size w w' := by
  obtain ⟨iS, hiS, hzS0, hzS1, hzS2⟩ := info_parts infoSeen8
  have Hq := Lib.hid gs.1
  have Hm := Lib.hid g.rs.len
  have Hn := Lib.hid g.ts.len
  obtain ⟨W0, hW⟩ : ∃ W0, (w.alloc (.cells #[.int .i64 alo, .int .i64 ahi, .int .i64 most, .slice A n ca, .slice B m cb] 27)).alloc (.cells #[.int .u8 d0, .int .u8 d1, .int .u8 d2] 70) = W0 := ⟨_, rfl⟩
  obtain ⟨g0, hg0⟩ : ∃ g0, w.heap.size = g0 := ⟨_, rfl⟩
  have X : Blk W0 g0 27 #[.int .i64 alo, .int .i64 ahi, .int .i64 most, .slice A n ca, .slice B m cb] := by rw [← hW, ← hg0]; exact (Blk.new _ _ _ rfl).alloc _
  have Z : Blk W0 (g0 + 1) 70 #[.int .u8 d0, .int .u8 d1, .int .u8 d2] := by rw [← hW, ← hg0]; exact Blk.new _ _ _ (by simp)
  have HBW : Hid (Below w.heap.size w W0) := by rw [Hid, ← hW]; exact bl_alloc (bl_alloc (Below.refl _ _) _ (Nat.le_refl _)) _ (Nat.le_refl _)
  have HG := Lib.hid (g.keep (Keeps.below HBW.out))
  have HS := Lib.hid (gs.keep SeenR.good (Keeps.below HBW.out))
  have HX := Lib.hid X
  have kk : Hid (∀ V, Below W0.heap.size W0 V → V.cell? ⟨g0, 0, none⟩ = some (.int .i64 alo) ∧ V.cell? ⟨g0, 1, none⟩ = some (.int .i64 ahi) ∧ V.cell? ⟨g0, 2, none⟩ = some (.int .i64 most) ∧ V.cell? ⟨g0, 3, none⟩ = some (.slice A n ca) ∧ V.cell? ⟨g0, 4, none⟩ = some (.slice B m cb) ∧ V.cell? ⟨g0 + 1, 0, none⟩ = some (.int .u8 d0) ∧ V.cell? ⟨g0 + 1, 1, none⟩ = some (.int .u8 d1) ∧ V.cell? ⟨g0 + 1, 2, none⟩ = some (.int .u8 d2)) :=
    fun V hb => ⟨(X.bl hb).cell 0, (X.bl hb).cell 1, (X.bl hb).cell 2, (X.bl hb).cell 3, (X.bl hb).cell 4, (Z.bl hb).cell 0, (Z.bl hb).cell 1, (Z.bl hb).cell 2⟩
  clear X Z g gs
  obtain ⟨x0, x1, x2, x3, x4, y0, y1, y2⟩ := kk.out W0 (Below.refl _ _)
  go_enter Try.func8, Try.ntmps8
  go_wp2_with fail
  clear hW x0 x1 x2 x3 x4 y0 y1 y2
  refine (valid_any W0 HG.out h1 h2 h3).mono ?_
  rintro e V1 ⟨rfl, b1⟩
  obtain ⟨vb, hvb⟩ : ∃ vb, decide ((check8 h).2.2 = 0) = vb := ⟨_, rfl⟩
  rw [hvb]
  cases vb with
  | false =>
    clear hvb
    go_wp2_with fail
    refine (awake_any V1).mono ?_
    rintro e Vz ⟨rfl, cz⟩
    go_wp2
    go_ret
    exact ⟨by rfl, bl_call HBW.out (bl_call b1 cz (Nat.le_refl _)) (Nat.le_refl _)⟩
  | true =>
    have HCK : Hid ((check8 h).2.2 = 0) := by rw [Hid]; simpa using hvb
    have HKK : Hid (OkH h) := okH_of HCK.out
    clear hvb
    by_cases hq6 : 6 ≤ q
    · have hqi : (6 : Int) ≤ q := by omega
      go_wp2_with fail
      refine (awake_any V1).mono ?_
      rintro e Vz ⟨rfl, cz⟩
      go_wp2
      go_ret
      exact ⟨by rfl, bl_call HBW.out (bl_call b1 cz (Nat.le_refl _)) (Nat.le_refl _)⟩
    · have hqi : ¬ (6 : Int) ≤ q := by omega
      have hn1 : 1 ≤ n ∧ n ≤ 8 := by have := HKK.out.nt; rw [Hn.out] at this; exact this
      obtain ⟨it, hit⟩ : ∃ it, d0 % n = it := ⟨_, rfl⟩
      have hitn : it < n := by rw [← hit]; exact Nat.mod_lt _ (by omega)
      have hmod : ((d0 : Int)).tmod (n : Int) = (it : Int) := by rw [Int.tmod_eq_emod_of_nonneg (by omega), ← hit]; rfl
      obtain ⟨an, han⟩ : ∃ an, d1 % 41 = an := ⟨_, rfl⟩
      have han41 : an < 41 := by rw [← han]; exact Nat.mod_lt _ (by decide)
      have hmod2 : ((d1 : Int)).tmod 41 = (an : Int) := by rw [Int.tmod_eq_emod_of_nonneg (by omega), ← han]; rfl
      have hcv : IntKind.i64.wrap (d0 : Int) = d0 := by rw [IntKind.wrap_i64]; omega
      have hcv1 : IntKind.i64.wrap (d1 : Int) = d1 := by rw [IntKind.wrap_i64]; omega
      have hcv2 : IntKind.i64.wrap (d2 : Int) = d2 := by rw [IntKind.wrap_i64]; omega
      obtain ⟨by4, hby⟩ : ∃ x : Int, 1 + (d2 : Int) = x := ⟨_, rfl⟩
      have hw39 : IntKind.i64.wrap (1 + (d2 : Int)) = by4 := by rw [hby, IntKind.wrap_i64]; omega
      have hby1 : 1 ≤ by4 ∧ by4 ≤ 256 := by omega
      have hmz : ¬ (n : Int) = 0 := by omega
      have hmz2 : ((n : Int) == 0) = false := by simp; omega
      clear hit han hby
      have hitl : it < h.tiles.length := by rw [Hn.out]; exact hitn
      obtain ⟨x0, x1, x2, x3, x4, y0, y1, y2⟩ := kk.out V1 b1
      go_wp2_with fail
      go_quiet (fail)
      clear x0 x1 x2 x3 x4 y0 y1 y2
      obtain ⟨V1q, hV1q⟩ : ∃ V, V1.drewN nq = V := ⟨_, rfl⟩
      replace b1 : Below W0.heap.size W0 V1q := by rw [← hV1q]; exact bl_drewN b1 _
      rw [hV1q]
      clear hV1q
      clear hmod hmod2 hcv hcv1 hcv2 hw39 hmz hmz2
      obtain ⟨x0, x1, x2, x3, x4, y0, y1, y2⟩ := kk.out V1q b1
      go_wp2_with fail
      clear x0 x1 x2 x3 x4 y0 y1 y2
      refine (twidth_any (cb := cb) (cc := cc) (it : Int) (an : Int) V1q (HG.out.keep (Keeps.below b1)) (HS.out.keep SeenR.good (Keeps.below b1)) hca h1 h2 h3).mono ?_
      rintro e V2 ⟨rfl, c2⟩
      obtain ⟨w1, w2, f0, hwd⟩ : ∃ w1 w2 f0, width8 h l it an = ((w1, w2), f0) := ⟨_, _, _, rfl⟩
      rw [hwd]
      dsimp only
      have HWD := Lib.hid hwd
      clear hwd
      have b2 := bl_call b1 c2 (Nat.le_refl _)
      obtain ⟨g10, hg10⟩ : ∃ g, V2.heap.size = g := ⟨_, rfl⟩
      obtain ⟨V3, hV3⟩ : ∃ U, V2.alloc (.cells #[.int .i64 w1, .int .i64 w2] 23) = U := ⟨_, rfl⟩
      have S10 : Blk V3 g10 23 #[.int .i64 w1, .int .i64 w2] := by rw [← hV3]; exact Blk.new _ _ _ hg10.symm
      have b3 : Below W0.heap.size W0 V3 := by rw [← hV3]; exact bl_alloc b2 _ (Nat.le_refl _)
      clear c2 b2 b1
      obtain ⟨x0, x1, x2, x3, x4, y0, y1, y2⟩ := kk.out V3 b3
      go_wp2_with fail
      clear x0 x1 x2 x3 x4 y0 y1 y2
      clear hV3 hg10
      refine (good_any V3 (HG.out.keep (Keeps.below b3)) (HS.out.keep SeenR.good (Keeps.below b3)) h1 h2 h3).mono ?_
      rintro e V4 ⟨rfl, c4⟩
      have b4 := bl_call b3 c4 (Nat.le_refl _)
      have T10 := S10.bl c4
      clear S10 c4 b3
      obtain ⟨gb, hgb⟩ : ∃ gb, good8 h l = gb := ⟨_, rfl⟩
      rw [hgb]
      cases gb with
      | false =>
        obtain ⟨s, hs1, hs2⟩ := width_bad (l := l) (a := (an : Int)) hgb hitl (by omega) (by omega)
        rw [HWD.out] at hs1
        injection hs1 with e1 e2
        injection e1 with e1 e3
        subst e1; subst e2; subst e3
        have hfb : (f0 != 0) = true := by simpa using hs2
        clear hgb hs2 HWD
        have HBF : Hid (Below w.heap.size w V4) := bl_call HBW.out b4 (Nat.le_refl _)
        have kl : Hid (∀ V, Below V4.heap.size V4 V → V.cell? ⟨g10, 0, none⟩ = some (.int .i64 0) ∧ V.cell? ⟨g10, 1, none⟩ = some (.int .i64 0)) := fun V hb => ⟨(T10.bl hb).c0, (T10.bl hb).c1⟩
        clear T10 b4
        go_wp2_with fail
        refine wp_frame ?_
        intro a0 hsz hget hdf
        have b10 : a0.tmps[10]? = some (.pointer (some ⟨g10, 0, none⟩)) := (hget 10).trans (by kernel_rfl)
        have b11 : a0.tmps[11]? = some (.int .i64 f0) := (hget 11).trans (by kernel_rfl)
        replace hsz : a0.tmps.size = 130 := hsz.trans (by kernel_rfl)
        replace hdf : a0.defers = [] := hdf
        clear hget
        refine wp_region_list (fun W => Below V4.heap.size V4 W) (fun w w' => Below w.heap.size w w')
          [isV (.int .i64 f0), isV (.bool true), isV (.bool true), isV (.agg #[.int .i64 0, .int .i64 0]), isV (.agg #[.int .i64 0, .int .i64 0]), isV (.bool true), isV (.bool true), isV (.bool true), isV (.bool true), isV (.bool true), isV (.bool true)]
          (by kernel_rfl) (by kernel_rfl) (by kernel_rfl) (by simp) (by simp) (Below.refl _ _).drew ?stabA ?stepA ?finA
        case stabA => exact (StabL.is (StabL.is (StabL.is (StabL.is (StabL.is (StabL.is (StabL.is (StabL.is (StabL.is (StabL.is (StabL.is StabL.nil)))))))))))
        case stepA =>
          refine StepsL.isA ?_ (StepsL.isA ?_ (StepsL.isA ?_ (StepsL.isA ?_ (StepsL.isA ?_ (StepsL.isA ?_ (StepsL.isA ?_ (StepsL.isA ?_ (StepsL.isA ?_ (StepsL.isA ?_ (StepsL.isA ?_ StepsL.nil))))))))))
          · -- 0
            intro vs a W K ha hC hD hU hK
            have r11 : a.tmps[11]? = some (.int .i64 f0) := by rw [ha, fillA_base0 (by kernel_rfl)]; exact b11
            clear ha hU hD
            rw [if_pos (by rfl)]
            go_simp
            exact hK _ hC (Below.refl _ _)
          · -- 1
            intro vs a W K ha hC hD hU hK
            have r52 : a.tmps[52]? = some (vs 0) := by rw [ha]; exact fillA_get0 (j := 0) (by kernel_rfl) (by rw [hsz]; decide)
            have q0 : vs 0 = .int .i64 f0 := hD 0 (by simp [waits, Region.binds])
            rw [q0] at r52
            clear ha hU hD
            rw [if_pos (by rfl)]
            go_simp
            exact hK _ hC (Below.refl _ _)
          · -- 2
            intro vs a W K ha hC hD hU hK
            have r53 : a.tmps[53]? = some (vs 1) := by rw [ha]; exact fillA_get0 (j := 1) (by kernel_rfl) (by rw [hsz]; decide)
            have q1 : vs 1 = .bool true := hD 1 (by simp [waits, Region.binds])
            rw [q1] at r53
            clear ha hU hD
            rw [if_pos (by rfl)]
            go_simp
            exact hK _ hC (Below.refl _ _)
          · -- 3
            intro vs a W K ha hC hD hU hK
            have r54 : a.tmps[54]? = some (vs 2) := by rw [ha]; exact fillA_get0 (j := 2) (by kernel_rfl) (by rw [hsz]; decide)
            have q2 : vs 2 = .bool true := hD 2 (by simp [waits, Region.binds])
            rw [q2] at r54
            have r10 : a.tmps[10]? = some (.pointer (some ⟨g10, 0, none⟩)) := by rw [ha, fillA_base0 (by kernel_rfl)]; exact b10
            clear ha hU hD
            rw [if_pos (by simp [Region.wanted, yielded, r54])]
            obtain ⟨k0, k1⟩ := kl.out W hC
            go_simp
            exact hK _ hC (Below.refl _ _)
          · -- 4
            intro vs a W K ha hC hD hU hK
            have r54 : a.tmps[54]? = some (vs 2) := by rw [ha]; exact fillA_get0 (j := 2) (by kernel_rfl) (by rw [hsz]; decide)
            have q2 : vs 2 = .bool true := hD 2 (by simp [waits, Region.binds])
            rw [q2] at r54
            clear ha hU hD
            rw [if_pos (by simp [Region.wanted, yielded, r54])]
            go_simp
            refine (span8_any 0 0 W).mono ?_
            rintro e w' ⟨rfl, hb⟩
            exact hK _ (bl_call hC hb (Nat.le_refl _)) hb
          · -- 5
            intro vs a W K ha hC hD hU hK
            have r54 : a.tmps[54]? = some (vs 2) := by rw [ha]; exact fillA_get0 (j := 2) (by kernel_rfl) (by rw [hsz]; decide)
            have q2 : vs 2 = .bool true := hD 2 (by simp [waits, Region.binds])
            rw [q2] at r54
            have r55 : a.tmps[55]? = some (vs 3) := by rw [ha]; exact fillA_get0 (j := 3) (by kernel_rfl) (by rw [hsz]; decide)
            have q3 : vs 3 = .agg #[.int .i64 0, .int .i64 0] := hD 3 (by simp [waits, Region.binds])
            rw [q3] at r55
            have r56 : a.tmps[56]? = some (vs 4) := by rw [ha]; exact fillA_get0 (j := 4) (by kernel_rfl) (by rw [hsz]; decide)
            have q4 : vs 4 = .agg #[.int .i64 0, .int .i64 0] := hD 4 (by simp [waits, Region.binds])
            rw [q4] at r56
            clear ha hU hD
            rw [if_pos (by simp [Region.wanted, yielded, r54])]
            go_simp
            exact hK _ hC (Below.refl _ _)
          · -- 6
            intro vs a W K ha hC hD hU hK
            have r54 : a.tmps[54]? = some (vs 2) := by rw [ha]; exact fillA_get0 (j := 2) (by kernel_rfl) (by rw [hsz]; decide)
            have q2 : vs 2 = .bool true := hD 2 (by simp [waits, Region.binds])
            rw [q2] at r54
            have r57 : a.tmps[57]? = some (vs 5) := by rw [ha]; exact fillA_get0 (j := 5) (by kernel_rfl) (by rw [hsz]; decide)
            have q5 : vs 5 = .bool true := hD 5 (by simp [waits, Region.binds])
            rw [q5] at r57
            clear ha hU hD
            rw [if_pos (by rfl)]
            go_simp
            exact hK _ hC (Below.refl _ _)
          · -- 7
            intro vs a W K ha hC hD hU hK
            have r58 : a.tmps[58]? = some (vs 6) := by rw [ha]; exact fillA_get0 (j := 6) (by kernel_rfl) (by rw [hsz]; decide)
            have q6 : vs 6 = .bool true := hD 6 (by simp [waits, Region.binds])
            rw [q6] at r58
            clear ha hU hD
            rw [if_pos (by rfl)]
            go_simp
            exact hK _ hC (Below.refl _ _)
          · -- 8
            intro vs a W K ha hC hD hU hK
            have r59 : a.tmps[59]? = some (vs 7) := by rw [ha]; exact fillA_get0 (j := 7) (by kernel_rfl) (by rw [hsz]; decide)
            have q7 : vs 7 = .bool true := hD 7 (by simp [waits, Region.binds])
            rw [q7] at r59
            clear ha hU hD
            rw [if_pos (by simp [Region.wanted, yielded, r59])]
            go_simp
            refine (awake_any W).mono ?_
            rintro e w' ⟨rfl, hb⟩
            exact hK _ (bl_call hC hb (Nat.le_refl _)) hb
          · -- 9
            intro vs a W K ha hC hD hU hK
            have r59 : a.tmps[59]? = some (vs 7) := by rw [ha]; exact fillA_get0 (j := 7) (by kernel_rfl) (by rw [hsz]; decide)
            have q7 : vs 7 = .bool true := hD 7 (by simp [waits, Region.binds])
            rw [q7] at r59
            have r60 : a.tmps[60]? = some (vs 8) := by rw [ha]; exact fillA_get0 (j := 8) (by kernel_rfl) (by rw [hsz]; decide)
            have q8 : vs 8 = .bool true := hD 8 (by simp [waits, Region.binds])
            rw [q8] at r60
            clear ha hU hD
            rw [if_pos (by rfl)]
            go_simp
            exact hK _ hC (Below.refl _ _)
          · -- 10
            intro vs a W K ha hC hD hU hK
            have r61 : a.tmps[61]? = some (vs 9) := by rw [ha]; exact fillA_get0 (j := 9) (by kernel_rfl) (by rw [hsz]; decide)
            have q9 : vs 9 = .bool true := hD 9 (by simp [waits, Region.binds])
            rw [q9] at r61
            clear ha hU hD
            rw [if_pos (by rfl)]
            go_simp
            exact hK _ hC (Below.refl _ _)
        case finA =>
          refine Fin1.none (Nat.le_refl _) ?_
          intro vs W a1 hC hE ha
          have e0 : vs 10 = .bool true := hE 10 (by simp)
          have r0 : a1.tmps[6]? = some (vs 10) := by rw [ha]; exact fillA_get0 (j := 10) (by kernel_rfl) (by rw [hsz]; decide)
          have hdf1 : a1.defers = [] := by rw [ha, fillA_defers]; exact hdf
          rw [e0] at r0
          have hBF := bl_call HBF.out hC (Nat.le_refl _)
          clear ha hE hC e0
          go_simp
          go_wp2
          refine bodyPost_ret (results_tmp rfl _ _ _) hdf1 ?_
          exact ⟨by simp [r0], hBF⟩
      | true =>
        obtain ⟨e1, ea⟩ := good8_parts hgb
        have hwd := HWD.out
        rw [width_ok e1 ea hitl (by omega) (by omega)] at hwd
        injection hwd with hwd hf0
        subst hf0
        have hwb := wide8_bd HKK.out hitl (agree_ne ea hitl) (a := (an : Int)) (by omega)
        rw [hwd] at hwb
        dsimp only at hwb
        have HEN := Lib.hid (wide_ends ea hitl hwd)
        have HE1 := Lib.hid e1
        have HEA := Lib.hid ea
        clear e1 ea hwd hgb HWD
        have hws1 : IntKind.i64.wrap (w1 - by4) = w1 - by4 := by rw [IntKind.wrap_i64]; omega
        have hws2 : IntKind.i64.wrap (w2 + by4) = w2 + by4 := by rw [IntKind.wrap_i64]; omega
        go_wp2_with fail
        go_loopw [12] (fun i wr => ∃ j : Nat, i = .int .i64 j ∧ j ≤ 4 ∧ Below V4.heap.size V4 wr) (fun i _ => 4 - (intOf i).toNat)
        case atStart => exact ⟨0, rfl, by decide, Below.refl _ _⟩
        case round =>
          obtain ⟨j, rfl, hj, hB⟩ := hrel
          have hBr := bl_call b4 hB (Nat.le_refl _)
          by_cases hlt : j < 4
          · have hji : (j : Int) < 4 := by omega
            have hji5 : (j : Int) < 5 := by omega
            have T := T10.bl hB
            have t0 := T.c0
            have t1 := T.c1
            obtain ⟨nv, hnv, hlo, hhi⟩ : ∃ nv : Int, (#[.int .i64 w1, .int .i64 w2, .int .i64 (w1 - by4), .int .i64 (w2 + by4)] : Array Value)[j]? = some (.int .i64 nv) ∧ (j < 2 → nv = w1 ∨ nv = w2) ∧ (2 ≤ j → nv < w1 ∨ w2 < nv) := by
              rcases (by omega : j = 0 ∨ j = 1 ∨ j = 2 ∨ j = 3) with rfl | rfl | rfl | rfl
              · exact ⟨w1, rfl, fun _ => .inl rfl, fun h => by omega⟩
              · exact ⟨w2, rfl, fun _ => .inr rfl, fun h => by omega⟩
              · exact ⟨w1 - by4, rfl, fun h => by omega, fun _ => .inl (by omega)⟩
              · exact ⟨w2 + by4, rfl, fun h => by omega, fun _ => .inr (by omega)⟩
            obtain ⟨g8, hg8⟩ : ∃ g, wr.heap.size = g := ⟨_, rfl⟩
            obtain ⟨Va, hVa⟩ : ∃ V, wr.alloc (.cells #[.int .i64 w1, .int .i64 w2, .int .i64 (w1 - by4), .int .i64 (w2 + by4)] 3) = V := ⟨_, rfl⟩
            have hcl : Va.cell? ⟨g8, j, none⟩ = some (.int .i64 nv) := by rw [← hVa, ← hnv]; exact (Blk.new _ _ _ hg8.symm).cell j
            have hBa : Below V4.heap.size V4 Va := by rw [← hVa]; exact bl_alloc hB _ (Nat.le_refl _)
            have HLO := Lib.hid hlo
            have HHI := Lib.hid hhi
            clear hnv hlo hhi
            have HBa := Lib.hid hBa
            clear hBa
            by_cases hn0 : nv < 0
            · go_wp2_with fail
              go_roundw
              case rel => exact ⟨j + 1, by go_num, by omega, HBa.out⟩
              case measure => simp [intOf]; omega
            · by_cases hn4 : 40000 < nv
              · go_wp2_with fail
                go_roundw
                case rel => exact ⟨j + 1, by go_num, by omega, HBa.out⟩
                case measure => simp [intOf]; omega
              · have hb5 : Below W0.heap.size W0 Va := bl_call b4 HBa.out (Nat.le_refl _)
                go_wp2_with fail
                clear hcl hVa hg8 T t0 t1 hB hBr hws1 hws2
                obtain ⟨z1, z2, z3, hzz⟩ : ∃ z1 z2 z3, width8 h (moreS l it an nv) it an = ((z1, z2), z3) := ⟨_, _, _, rfl⟩
                have HZZ := Lib.hid hzz
                clear hzz
                have hq5 : q ≤ 5 := by omega
                have HZA : Hid (j < 2 → z1 = nv ∧ z2 = nv ∧ z3 = 0) := fun hj2 => by
                  have hp : ∃ p ∈ twosL h l it, p.1 + p.2 * (an : Int) = nv := by
                    rcases HLO.out hj2 with e | e
                    · rw [e]; exact HEN.out.1
                    · rw [e]; exact HEN.out.2.1
                  have := more_end HCK.out HE1.out HEA.out (by rw [Hq.out]; omega) hitl (by omega) (by omega) (by omega) (by omega) hp
                  rw [HZZ.out] at this
                  injection this with e1 e2
                  injection e1 with e1 e3
                  exact ⟨e1, e3, e2⟩
                have HZB : Hid (¬ j < 2 → z3 = 9) := fun hj2 => by
                  have := more_none HCK.out HE1.out (by rw [Hq.out]; omega) hitl (air := (an : Int)) (by omega) (by omega) (by omega) (by omega) (HEN.out.2.2 nv (HHI.out (by omega)))
                  rw [HZZ.out] at this
                  exact this
                have AS := Lib.hid (reE_stab Va.heap.size (.agg #[.int .i64 alo, .int .i64 ahi, .int .i64 most, .slice A n ca, .slice B m cb]) (.slice C q cc) q l it an nv z1 z2 z3)
                refine wp_region_invs (fun ls vs ww => InvG Va.heap.size Va (reE Va.heap.size (.agg #[.int .i64 alo, .int .i64 ahi, .int .i64 most, .slice A n ca, .slice B m cb]) (.slice C q cc) q l it an nv z1 z2 z3) 11 19 ls vs ww) 20 (by kernel_rfl) (by kernel_rfl) (by kernel_rfl) (by rfl) ⟨(Below.refl _ _).drew, fun i h => by cases h⟩ ?step (by rfl) (by rfl) ?fin
                case step =>
                  refine StepsI.cons ?_ (StepsI.cons ?_ (StepsI.cons ?_ (StepsI.cons ?_ (StepsI.cons ?_ (StepsI.cons ?_ (StepsI.cons ?_ (StepsI.cons ?_ (StepsI.cons ?_ (StepsI.cons ?_ (StepsI.cons ?_ (StepsI.cons ?_ (StepsI.cons ?_ (StepsI.cons ?_ (StepsI.cons ?_ (StepsI.cons ?_ (StepsI.cons ?_ (StepsI.cons ?_ (StepsI.cons ?_ (StepsI.cons ?_ StepsI.nil)))))))))))))))))))
                  all_goals
                    refine StepI.of ?_
                    intro ls vs W K hI hl hw hU hK
                    simp only [fillA, Act.put, List.setIfInBounds_toArray, List.set_cons_zero, List.set_cons_succ, Nat.zero_add, Nat.reduceAdd] at hK ⊢
                    simp [waits, Region.binds] at hw
                    have hC := hI.1
                  · obtain ⟨x0, x1, x2, x3, x4, y0, y1, y2⟩ := kk.out W (bl_call hb5 hC (Nat.le_refl _))
                    go_simp
                    exact hK _ _ (hI.step AS.out (Below.refl _ _) hC.size (by decide) (by decide) rfl)
                  · go_simp
                    exact hK _ _ (hI.step AS.out (bl_alloc (Below.refl _ _) _ (Nat.le_refl _)) hC.size (by decide) (by decide) (.inr ⟨_, hC.size, rfl, Blk.new _ _ _ rfl⟩))
                  · go_simp
                    exact hK _ _ (hI.step AS.out (Below.refl _ _) hC.size (by decide) (by decide) rfl)
                  · have h11 : ls 11 = false := (hU 11 _ rfl (by simp [waits, Region.binds])).1
                    obtain ⟨gl, hgl, hv1, hBl⟩ := (hI.2 1 (by simp [hw])).resolve_left (by rw [h11]; decide)
                    have q2 : vs 2 = _ := hI.2 2 (by simp [hw])
                    simp only [hv1, q2] at hK ⊢
                    rw [if_pos (by rfl)]
                    refine wp_append_lit W (.tmp 92) (.tmp 93) _ rfl SeenR.good (T := fun _ => True) (S := fun _ => False) Va.heap.size 72 iS _ 32 Try.underlying28 hiS hzS0 hzS1 hzS2 rfl (by decide) gl rfl hBl hgl C q cc l rfl (HS.out.keep SeenR.good (Keeps.below (bl_call hb5 hC (Nat.le_refl _)))) (fun y vs hr => hr) (by simp only [maxLen]; omega) (by omega) hC.size (fun h => h) (fun h => h) ?_
                    intro A2 c2 w' hO hb
                    exact hK _ _ (hI.step AS.out hb hC.size (by decide) (by decide) (.inr ⟨A2, c2, rfl, hO⟩))
                  · go_simp
                    exact hK _ _ (hI.step AS.out (Below.refl _ _) hC.size (by decide) (by decide) rfl)
                  · go_simp
                    exact hK _ _ (hI.step AS.out (Below.refl _ _) hC.size (by decide) (by decide) rfl)
                  · go_simp
                    exact hK _ _ (hI.step AS.out (Below.refl _ _) hC.size (by decide) (by decide) rfl)
                  · go_simp
                    exact hK _ _ (hI.step AS.out (Below.refl _ _) hC.size (by decide) (by decide) rfl)
                  · have q6 : vs 6 = _ := hI.2 6 (by simp [hw])
                    have q7 : vs 7 = _ := hI.2 7 (by simp [hw])
                    simp only [q6, q7] at hK ⊢
                    go_simp
                    refine (span8_any nv nv W).mono ?_
                    rintro e w' ⟨rfl, hb⟩
                    exact hK _ _ (hI.step AS.out hb hC.size (by decide) (by decide) rfl)
                  · have q4 : vs 4 = _ := hI.2 4 (by simp [hw])
                    have q5 : vs 5 = _ := hI.2 5 (by simp [hw])
                    have q8 : vs 8 = _ := hI.2 8 (by simp [hw])
                    simp only [q4, q5, q8] at hK ⊢
                    go_simp
                    exact hK _ _ (hI.step AS.out (Below.refl _ _) hC.size (by decide) (by decide) rfl)
                  · have q9 : vs 9 = _ := hI.2 9 (by simp [hw])
                    simp only [q9] at hK ⊢
                    go_simp
                    exact hK _ _ (hI.step AS.out (bl_alloc (Below.refl _ _) _ (Nat.le_refl _)) hC.size (by decide) (by decide) (.inr ⟨_, rfl, Blk.new _ _ _ rfl⟩))
                  · obtain ⟨A3, c3, hv3, hO3⟩ := (hI.2 3 (by simp [hw])).resolve_left (by rw [hl]; decide)
                    rw [hv3] at hO3
                    obtain ⟨g9, hv10, hB10⟩ := (hI.2 10 (by simp [hw])).resolve_left (by rw [hl]; decide)
                    simp only [hv3, hv10] at hK ⊢
                    rw [if_pos (by rfl)]
                    obtain ⟨A4, c4, w', hrun, hO4, hg4, _⟩ := run_append_one W 28 28 SeenR.good Va.heap.size 72 iS _ 32 Try.underlying28 hiS hzS0 hzS1 hzS2 rfl (by omega) (.slice A3 q c3) l ⟨(it : Int), (an : Int), nv, nv⟩ hO3 ⟨g9, 0, none⟩ 1 [.int .i64 it, .int .i64 an, .int .i64 nv, .int .i64 nv] rfl (fun j v hv => blk_news4 hB10 hv) (by rw [Hq.out]; simp only [maxLen]; omega) (by rw [Hq.out]; omega) hC.size (fun h => h)
                    rw [Hq.out] at hrun hO4
                    refine wp_append_of_run rfl rfl rfl hrun ?_
                    have hB2 : Below Va.heap.size Va w' := bl_grown hC hO3 hg4 (Nat.le_refl _) (Nat.le_refl _)
                    refine hK _ _ ⟨hB2, fun i hi => ?_⟩
                    have hb11 : updB ls 11 11 = true := by unfold updB; rw [if_pos rfl]
                    have hb19 : updB ls 11 19 = ls 19 := by unfold updB; rw [if_neg (by decide)]
                    rw [hb11, hb19]
                    match i, hi with
                    | 0, hi => exact hI.2 0 hi
                    | 2, hi => exact hI.2 2 hi
                    | 4, hi => exact hI.2 4 hi
                    | 5, hi => exact hI.2 5 hi
                    | 6, hi => exact hI.2 6 hi
                    | 7, hi => exact hI.2 7 hi
                    | 8, hi => exact hI.2 8 hi
                    | 9, hi => exact hI.2 9 hi
                    | 12, hi => exact hI.2 12 hi
                    | 13, hi => exact hI.2 13 hi
                    | 14, hi => exact hI.2 14 hi
                    | 15, hi => exact hI.2 15 hi
                    | 16, hi => exact hI.2 16 hi
                    | 17, hi => exact hI.2 17 hi
                    | 1, _ => exact .inl rfl
                    | 3, _ => exact .inl rfl
                    | 10, _ => exact .inl rfl
                    | 11, _ => exact .inr ⟨some ⟨A4, 0, none⟩, c4, rfl, hO4.slice SeenR.good rfl (by simp only [maxLen]; omega) (fun _ h => h.elim) (fun k hk1 hk2 => hk1)⟩
                    | 18, hi =>
                      obtain ⟨g5, z1a, z2a, z3a⟩ := hI.2 18 hi
                      exact ⟨g5, z1a, z2a, z3a.grown hg4 (fun e => by
                        obtain ⟨cur, hcur⟩ := hO3.blk e.symm
                        exact absurd (Blk.ty hcur z3a) (by decide))⟩
                    | _ + 19, _ => trivial
                  · go_simp
                    exact hK _ _ (hI.step AS.out (Below.refl _ _) hC.size (by decide) (by decide) rfl)
                  · go_simp
                    exact hK _ _ (hI.step AS.out (Below.refl _ _) hC.size (by decide) (by decide) rfl)
                  · have h19 : ls 19 = false := (hU 19 _ rfl (by simp [waits, Region.binds])).1
                    obtain ⟨A5, c5, hv11, hS5⟩ := (hI.2 11 (by simp [hw])).resolve_left (by rw [h19]; decide)
                    have q0 : vs 0 = _ := hI.2 0 (by simp [hw])
                    have q12 : vs 12 = _ := hI.2 12 (by simp [hw])
                    have q13 : vs 13 = _ := hI.2 13 (by simp [hw])
                    simp only [q0, hv11, q12, q13] at hK ⊢
                    go_simp
                    refine (twidth_any (cb := cb) (cc := c5) (it : Int) (an : Int) W (HG.out.keep (Keeps.below (bl_call hb5 hC (Nat.le_refl _)))) (hS5.mono SeenR.good (fun _ _ => trivial)) hca h1 h2 h3).mono ?_
                    rintro e w' ⟨rfl, hb⟩
                    rw [HZZ.out]
                    exact hK _ _ (hI.step AS.out hb hC.size (by decide) (by decide) rfl)
                  · have q14 : vs 14 = _ := hI.2 14 (by simp [hw])
                    simp only [q14] at hK ⊢
                    go_simp
                    exact hK _ _ (hI.step AS.out (Below.refl _ _) hC.size (by decide) (by decide) rfl)
                  · have q15 : vs 15 = _ := hI.2 15 (by simp [hw])
                    simp only [q15] at hK ⊢
                    go_simp
                    exact hK _ _ (hI.step AS.out (Below.refl _ _) hC.size (by decide) (by decide) rfl)
                  · have q15 : vs 15 = _ := hI.2 15 (by simp [hw])
                    simp only [q15] at hK ⊢
                    go_simp
                    exact hK _ _ (hI.step AS.out (Below.refl _ _) hC.size (by decide) (by decide) rfl)
                  · have h19 : ls 19 = false := (hU 19 _ rfl (by simp [waits, Region.binds])).1
                    go_simp
                    exact hK _ _ (hI.step AS.out (bl_alloc (Below.refl _ _) _ (Nat.le_refl _)) hC.size (by decide) (by decide) ⟨_, hC.size, rfl, by rw [h19]; exact Blk.new _ _ _ rfl⟩)
                  · have q16 : vs 16 = _ := hI.2 16 (by simp [hw])
                    have h11 : ls 11 = true := by simp [hw]
                    obtain ⟨g4, hg4, h4, hB4⟩ := hI.2 18 (by simp [hw])
                    rw [hl] at hB4
                    have z0 : W.cell? ⟨g4, 0, none⟩ = some (.int .i64 0) := hB4.cell 0
                    have z1' : W.cell? ⟨g4, 1, none⟩ = some (.int .i64 0) := hB4.cell 1
                    have fz0 := hB4.frozen 0
                    have fz1 := hB4.frozen 1
                    have hl4 := hB4.lt
                    simp only [q16, h4] at hK ⊢
                    go_simp
                    refine hK undef _ ⟨bl_set (bl_set hC hg4 _) hg4 _, fun i hi => ?_⟩
                    have hb19 : updB ls 19 19 = true := by unfold updB; rw [if_pos rfl]
                    have hb11 : updB ls 19 11 = true := by unfold updB; rw [if_neg (by decide)]; exact h11
                    rw [hb19, hb11]
                    match i, hi with
                    | 0, hi => exact hI.2 0 hi
                    | 2, hi => exact hI.2 2 hi
                    | 4, hi => exact hI.2 4 hi
                    | 5, hi => exact hI.2 5 hi
                    | 6, hi => exact hI.2 6 hi
                    | 7, hi => exact hI.2 7 hi
                    | 8, hi => exact hI.2 8 hi
                    | 9, hi => exact hI.2 9 hi
                    | 12, hi => exact hI.2 12 hi
                    | 13, hi => exact hI.2 13 hi
                    | 14, hi => exact hI.2 14 hi
                    | 15, hi => exact hI.2 15 hi
                    | 16, hi => exact hI.2 16 hi
                    | 17, hi => exact hI.2 17 hi
                    | 1, _ => exact .inl rfl
                    | 3, _ => exact .inl rfl
                    | 10, _ => exact .inl rfl
                    | 11, _ => exact .inl rfl
                    | 18, _ => exact ⟨g4, hg4, h4, hB4.set2 _ _⟩
                    | _ + 19, _ => trivial
                case fin =>
                  intro ls vs W hI hl hU
                  clear hU
                  have hC := hI.1
                  have e17 : vs 17 = .int .i64 z3 := hI.2 17 (hl 17 (by decide))
                  have e18 := hI.2 18 (hl 18 (by decide))
                  have e19 := hl 19 (by decide)
                  simp only [fillA, Act.put, List.setIfInBounds_toArray, List.set_cons_zero, List.set_cons_succ, Nat.zero_add, Nat.reduceAdd, e17]
                  rw [e19] at e18
                  obtain ⟨g14, hg14, h14, hB14⟩ := e18
                  rw [h14]
                  obtain ⟨u0, hu0⟩ : ∃ v0, vs 0 = v0 := ⟨_, rfl⟩
                  obtain ⟨u1, hu1⟩ : ∃ v0, vs 1 = v0 := ⟨_, rfl⟩
                  obtain ⟨u2, hu2⟩ : ∃ v0, vs 2 = v0 := ⟨_, rfl⟩
                  obtain ⟨u3, hu3⟩ : ∃ v0, vs 3 = v0 := ⟨_, rfl⟩
                  obtain ⟨u4, hu4⟩ : ∃ v0, vs 4 = v0 := ⟨_, rfl⟩
                  obtain ⟨u5, hu5⟩ : ∃ v0, vs 5 = v0 := ⟨_, rfl⟩
                  obtain ⟨u6, hu6⟩ : ∃ v0, vs 6 = v0 := ⟨_, rfl⟩
                  obtain ⟨u7, hu7⟩ : ∃ v0, vs 7 = v0 := ⟨_, rfl⟩
                  obtain ⟨u8, hu8⟩ : ∃ v0, vs 8 = v0 := ⟨_, rfl⟩
                  obtain ⟨u9, hu9⟩ : ∃ v0, vs 9 = v0 := ⟨_, rfl⟩
                  obtain ⟨u10, hu10⟩ : ∃ v0, vs 10 = v0 := ⟨_, rfl⟩
                  obtain ⟨u11, hu11⟩ : ∃ v0, vs 11 = v0 := ⟨_, rfl⟩
                  obtain ⟨u12, hu12⟩ : ∃ v0, vs 12 = v0 := ⟨_, rfl⟩
                  obtain ⟨u13, hu13⟩ : ∃ v0, vs 13 = v0 := ⟨_, rfl⟩
                  obtain ⟨u14, hu14⟩ : ∃ v0, vs 14 = v0 := ⟨_, rfl⟩
                  obtain ⟨u15, hu15⟩ : ∃ v0, vs 15 = v0 := ⟨_, rfl⟩
                  obtain ⟨u16, hu16⟩ : ∃ v0, vs 16 = v0 := ⟨_, rfl⟩
                  rw [hu0, hu1, hu2, hu3, hu4, hu5, hu6, hu7, hu8, hu9, hu10, hu11, hu12, hu13, hu14, hu15, hu16]
                  clear hu0 hu1 hu2 hu3 hu4 hu5 hu6 hu7 hu8 hu9 hu10 hu11 hu12 hu13 hu14 hu15 hu16
                  replace hB14 : Blk W g14 23 #[.int .i64 z1, .int .i64 z2] := hB14
                  clear h14 hI hl AS e17 e19
                  have kl : Hid (∀ V, Below W.heap.size W V → V.cell? ⟨g14, 0, none⟩ = some (.int .i64 z1) ∧ V.cell? ⟨g14, 1, none⟩ = some (.int .i64 z2)) := fun V hb => ⟨(hB14.bl hb).c0, (hB14.bl hb).c1⟩
                  have HBW4 : Hid (Below V4.heap.size V4 W) := bl_call HBa.out hC (Nat.le_refl _)
                  clear hB14 hC hg14 hb5
                  obtain ⟨Wc, hWc⟩ : ∃ V, V = W := ⟨_, rfl⟩
                  subst hWc
                  go_simp
                  by_cases hj2 : j < 2
                  · obtain ⟨e1, e2, e3⟩ := HZA.out hj2
                    rw [e1, e2] at kl
                    rw [e3]
                    clear e1 e2 e3
                    have hj2i : decide ((j : Int) < 2) = true := decide_eq_true (by omega)
                    have hj2g : decide ((2 : Int) ≤ (j : Int)) = false := decide_eq_false (by omega)
                    clear HZA HZB HZZ
                    go_wp2_with fail
                    refine wp_frameE ?_
                    intro a0 ha0
                    have b12 : a0.tmps[12]? = some (.int .i64 j) := by rw [ha0]; kernel_rfl
                    have b13 : a0.tmps[13]? = some (.int .i64 nv) := by rw [ha0]; kernel_rfl
                    have b14 : a0.tmps[14]? = some (.pointer (some ⟨g14, 0, none⟩)) := by rw [ha0]; kernel_rfl
                    have b15 : a0.tmps[15]? = some (.int .i64 0) := by rw [ha0]; kernel_rfl
                    have hsz : a0.tmps.size = 130 := by rw [ha0]; kernel_rfl
                    refine wp_region_list (fun W => Below Wc.heap.size Wc W) (fun w w' => Below w.heap.size w w')
                      [isV (.int .i64 j), isV (.bool true), isV (.bool true), isV (.int .i64 0), isV (.bool false), isV (.bool false), isV (.agg #[.int .i64 nv, .int .i64 nv]), isV (.int .i64 nv), isV (.int .i64 nv), isV (.agg #[.int .i64 nv, .int .i64 nv]), isV (.bool false), isV (.bool false), isV (.bool false), isV (.bool false), isV (.int .i64 j), isV (.bool false), isV (.bool false), isV (undef), isV (undef), isV (.bool false), isV (.bool false)]
                      (by kernel_rfl) (by kernel_rfl) (by kernel_rfl) (by simp) (by simp) (Below.refl _ _).drew ?stabA ?stepA ?finA
                    case stabA => exact (StabL.is (StabL.is (StabL.is (StabL.is (StabL.is (StabL.is (StabL.is (StabL.is (StabL.is (StabL.is (StabL.is (StabL.is (StabL.is (StabL.is (StabL.is (StabL.is (StabL.is (StabL.is (StabL.is (StabL.is (StabL.is StabL.nil)))))))))))))))))))))
                    case stepA =>
                      refine StepsL.isA ?_ (StepsL.isA ?_ (StepsL.isA ?_ (StepsL.isA ?_ (StepsL.isA ?_ (StepsL.isA ?_ (StepsL.isA ?_ (StepsL.isA ?_ (StepsL.isA ?_ (StepsL.isA ?_ (StepsL.isA ?_ (StepsL.isA ?_ (StepsL.isA ?_ (StepsL.isA ?_ (StepsL.isA ?_ (StepsL.isA ?_ (StepsL.isA ?_ (StepsL.isA ?_ (StepsL.isA ?_ (StepsL.isA ?_ (StepsL.isA ?_ StepsL.nil))))))))))))))))))))
                      · -- 0
                        intro vs a W K ha hC hD hU hK
                        have r12 : a.tmps[12]? = some (.int .i64 j) := by rw [ha, fillA_base0 (by kernel_rfl)]; exact b12
                        clear ha hU hD ha0
                        rw [if_pos (by rfl)]
                        go_simp
                        exact hK _ hC (Below.refl _ _)
                      · -- 1
                        intro vs a W K ha hC hD hU hK
                        have r108 : a.tmps[108]? = some (vs 0) := by rw [ha]; exact fillA_get0 (j := 0) (by kernel_rfl) (by rw [hsz]; decide)
                        have q0 : vs 0 = .int .i64 j := hD 0 (by simp [waits, Region.binds])
                        rw [q0] at r108
                        clear ha hU hD ha0
                        rw [if_pos (by rfl)]
                        go_simp
                        exact hK _ hC (Below.refl _ _)
                      · -- 2
                        intro vs a W K ha hC hD hU hK
                        have r109 : a.tmps[109]? = some (vs 1) := by rw [ha]; exact fillA_get0 (j := 1) (by kernel_rfl) (by rw [hsz]; decide)
                        have q1 : vs 1 = .bool true := hD 1 (by simp [waits, Region.binds])
                        rw [q1] at r109
                        clear ha hU hD ha0
                        rw [if_pos (by rfl)]
                        go_simp
                        exact hK _ hC (Below.refl _ _)
                      · -- 3
                        intro vs a W K ha hC hD hU hK
                        have r110 : a.tmps[110]? = some (vs 2) := by rw [ha]; exact fillA_get0 (j := 2) (by kernel_rfl) (by rw [hsz]; decide)
                        have q2 : vs 2 = .bool true := hD 2 (by simp [waits, Region.binds])
                        rw [q2] at r110
                        have r15 : a.tmps[15]? = some (.int .i64 0) := by rw [ha, fillA_base0 (by kernel_rfl)]; exact b15
                        clear ha hU hD ha0
                        rw [if_pos (by simp [Region.wanted, yielded, r110])]
                        go_simp
                        exact hK _ hC (Below.refl _ _)
                      · -- 4
                        intro vs a W K ha hC hD hU hK
                        have r110 : a.tmps[110]? = some (vs 2) := by rw [ha]; exact fillA_get0 (j := 2) (by kernel_rfl) (by rw [hsz]; decide)
                        have q2 : vs 2 = .bool true := hD 2 (by simp [waits, Region.binds])
                        rw [q2] at r110
                        have r111 : a.tmps[111]? = some (vs 3) := by rw [ha]; exact fillA_get0 (j := 3) (by kernel_rfl) (by rw [hsz]; decide)
                        have q3 : vs 3 = .int .i64 0 := hD 3 (by simp [waits, Region.binds])
                        rw [q3] at r111
                        clear ha hU hD ha0
                        rw [if_pos (by simp [Region.wanted, yielded, r110])]
                        go_simp
                        exact hK _ hC (Below.refl _ _)
                      · -- 5
                        intro vs a W K ha hC hD hU hK
                        have r110 : a.tmps[110]? = some (vs 2) := by rw [ha]; exact fillA_get0 (j := 2) (by kernel_rfl) (by rw [hsz]; decide)
                        have q2 : vs 2 = .bool true := hD 2 (by simp [waits, Region.binds])
                        rw [q2] at r110
                        have r112 : a.tmps[112]? = some (vs 4) := by rw [ha]; exact fillA_get0 (j := 4) (by kernel_rfl) (by rw [hsz]; decide)
                        have q4 : vs 4 = .bool false := hD 4 (by simp [waits, Region.binds])
                        rw [q4] at r112
                        clear ha hU hD ha0
                        rw [if_pos (by simp [Region.wanted, yielded, r110])]
                        go_simp
                        exact hK _ hC (Below.refl _ _)
                      · -- 6
                        intro vs a W K ha hC hD hU hK
                        have r113 : a.tmps[113]? = some (vs 5) := by rw [ha]; exact fillA_get0 (j := 5) (by kernel_rfl) (by rw [hsz]; decide)
                        have q5 : vs 5 = .bool false := hD 5 (by simp [waits, Region.binds])
                        rw [q5] at r113
                        have r14 : a.tmps[14]? = some (.pointer (some ⟨g14, 0, none⟩)) := by rw [ha, fillA_base0 (by kernel_rfl)]; exact b14
                        clear ha hU hD ha0
                        rw [if_pos (by simp [Region.wanted, yielded, r113])]
                        obtain ⟨k0, k1⟩ := kl.out W hC
                        go_simp
                        exact hK _ hC (Below.refl _ _)
                      · -- 7
                        intro vs a W K ha hC hD hU hK
                        have r113 : a.tmps[113]? = some (vs 5) := by rw [ha]; exact fillA_get0 (j := 5) (by kernel_rfl) (by rw [hsz]; decide)
                        have q5 : vs 5 = .bool false := hD 5 (by simp [waits, Region.binds])
                        rw [q5] at r113
                        have r13 : a.tmps[13]? = some (.int .i64 nv) := by rw [ha, fillA_base0 (by kernel_rfl)]; exact b13
                        clear ha hU hD ha0
                        rw [if_pos (by simp [Region.wanted, yielded, r113])]
                        go_simp
                        exact hK _ hC (Below.refl _ _)
                      · -- 8
                        intro vs a W K ha hC hD hU hK
                        have r113 : a.tmps[113]? = some (vs 5) := by rw [ha]; exact fillA_get0 (j := 5) (by kernel_rfl) (by rw [hsz]; decide)
                        have q5 : vs 5 = .bool false := hD 5 (by simp [waits, Region.binds])
                        rw [q5] at r113
                        have r13 : a.tmps[13]? = some (.int .i64 nv) := by rw [ha, fillA_base0 (by kernel_rfl)]; exact b13
                        clear ha hU hD ha0
                        rw [if_pos (by simp [Region.wanted, yielded, r113])]
                        go_simp
                        exact hK _ hC (Below.refl _ _)
                      · -- 9
                        intro vs a W K ha hC hD hU hK
                        have r113 : a.tmps[113]? = some (vs 5) := by rw [ha]; exact fillA_get0 (j := 5) (by kernel_rfl) (by rw [hsz]; decide)
                        have q5 : vs 5 = .bool false := hD 5 (by simp [waits, Region.binds])
                        rw [q5] at r113
                        have r115 : a.tmps[115]? = some (vs 7) := by rw [ha]; exact fillA_get0 (j := 7) (by kernel_rfl) (by rw [hsz]; decide)
                        have q7 : vs 7 = .int .i64 nv := hD 7 (by simp [waits, Region.binds])
                        rw [q7] at r115
                        have r116 : a.tmps[116]? = some (vs 8) := by rw [ha]; exact fillA_get0 (j := 8) (by kernel_rfl) (by rw [hsz]; decide)
                        have q8 : vs 8 = .int .i64 nv := hD 8 (by simp [waits, Region.binds])
                        rw [q8] at r116
                        clear ha hU hD ha0
                        rw [if_pos (by simp [Region.wanted, yielded, r113])]
                        go_simp
                        refine (span8_any nv nv W).mono ?_
                        rintro e w' ⟨rfl, hb⟩
                        exact hK _ (bl_call hC hb (Nat.le_refl _)) hb
                      · -- 10
                        intro vs a W K ha hC hD hU hK
                        have r113 : a.tmps[113]? = some (vs 5) := by rw [ha]; exact fillA_get0 (j := 5) (by kernel_rfl) (by rw [hsz]; decide)
                        have q5 : vs 5 = .bool false := hD 5 (by simp [waits, Region.binds])
                        rw [q5] at r113
                        have r114 : a.tmps[114]? = some (vs 6) := by rw [ha]; exact fillA_get0 (j := 6) (by kernel_rfl) (by rw [hsz]; decide)
                        have q6 : vs 6 = .agg #[.int .i64 nv, .int .i64 nv] := hD 6 (by simp [waits, Region.binds])
                        rw [q6] at r114
                        have r117 : a.tmps[117]? = some (vs 9) := by rw [ha]; exact fillA_get0 (j := 9) (by kernel_rfl) (by rw [hsz]; decide)
                        have q9 : vs 9 = .agg #[.int .i64 nv, .int .i64 nv] := hD 9 (by simp [waits, Region.binds])
                        rw [q9] at r117
                        clear ha hU hD ha0
                        rw [if_pos (by simp [Region.wanted, yielded, r113])]
                        go_simp
                        exact hK _ hC (Below.refl _ _)
                      · -- 11
                        intro vs a W K ha hC hD hU hK
                        have r110 : a.tmps[110]? = some (vs 2) := by rw [ha]; exact fillA_get0 (j := 2) (by kernel_rfl) (by rw [hsz]; decide)
                        have q2 : vs 2 = .bool true := hD 2 (by simp [waits, Region.binds])
                        rw [q2] at r110
                        have r113 : a.tmps[113]? = some (vs 5) := by rw [ha]; exact fillA_get0 (j := 5) (by kernel_rfl) (by rw [hsz]; decide)
                        have q5 : vs 5 = .bool false := hD 5 (by simp [waits, Region.binds])
                        rw [q5] at r113
                        have r118 : a.tmps[118]? = some (vs 10) := by rw [ha]; exact fillA_get0 (j := 10) (by kernel_rfl) (by rw [hsz]; decide)
                        have q10 : vs 10 = .bool false := hD 10 (by simp [waits, Region.binds])
                        rw [q10] at r118
                        clear ha hU hD ha0
                        rw [if_pos (by simp [Region.wanted, yielded, r110])]
                        go_simp
                        exact hK _ hC (Below.refl _ _)
                      · -- 12
                        intro vs a W K ha hC hD hU hK
                        have r110 : a.tmps[110]? = some (vs 2) := by rw [ha]; exact fillA_get0 (j := 2) (by kernel_rfl) (by rw [hsz]; decide)
                        have q2 : vs 2 = .bool true := hD 2 (by simp [waits, Region.binds])
                        rw [q2] at r110
                        have r119 : a.tmps[119]? = some (vs 11) := by rw [ha]; exact fillA_get0 (j := 11) (by kernel_rfl) (by rw [hsz]; decide)
                        have q11 : vs 11 = .bool false := hD 11 (by simp [waits, Region.binds])
                        rw [q11] at r119
                        clear ha hU hD ha0
                        rw [if_pos (by rfl)]
                        go_simp
                        exact hK _ hC (Below.refl _ _)
                      · -- 13
                        intro vs a W K ha hC hD hU hK
                        have r120 : a.tmps[120]? = some (vs 12) := by rw [ha]; exact fillA_get0 (j := 12) (by kernel_rfl) (by rw [hsz]; decide)
                        have q12 : vs 12 = .bool false := hD 12 (by simp [waits, Region.binds])
                        rw [q12] at r120
                        clear ha hU hD ha0
                        rw [if_pos (by rfl)]
                        go_simp
                        exact hK _ hC (Below.refl _ _)
                      · -- 14
                        intro vs a W K ha hC hD hU hK
                        have r121 : a.tmps[121]? = some (vs 13) := by rw [ha]; exact fillA_get0 (j := 13) (by kernel_rfl) (by rw [hsz]; decide)
                        have q13 : vs 13 = .bool false := hD 13 (by simp [waits, Region.binds])
                        rw [q13] at r121
                        have r12 : a.tmps[12]? = some (.int .i64 j) := by rw [ha, fillA_base0 (by kernel_rfl)]; exact b12
                        clear ha hU hD ha0
                        rw [if_pos (by simp [Region.wanted, yielded, r121])]
                        go_simp
                        exact hK _ hC (Below.refl _ _)
                      · -- 15
                        intro vs a W K ha hC hD hU hK
                        have r121 : a.tmps[121]? = some (vs 13) := by rw [ha]; exact fillA_get0 (j := 13) (by kernel_rfl) (by rw [hsz]; decide)
                        have q13 : vs 13 = .bool false := hD 13 (by simp [waits, Region.binds])
                        rw [q13] at r121
                        have r122 : a.tmps[122]? = some (vs 14) := by rw [ha]; exact fillA_get0 (j := 14) (by kernel_rfl) (by rw [hsz]; decide)
                        have q14 : vs 14 = .int .i64 j := hD 14 (by simp [waits, Region.binds])
                        rw [q14] at r122
                        clear ha hU hD ha0
                        rw [if_pos (by simp [Region.wanted, yielded, r121])]
                        go_simp
                        exact hK _ hC (Below.refl _ _)
                      · -- 16
                        intro vs a W K ha hC hD hU hK
                        have r121 : a.tmps[121]? = some (vs 13) := by rw [ha]; exact fillA_get0 (j := 13) (by kernel_rfl) (by rw [hsz]; decide)
                        have q13 : vs 13 = .bool false := hD 13 (by simp [waits, Region.binds])
                        rw [q13] at r121
                        have r123 : a.tmps[123]? = some (vs 15) := by rw [ha]; exact fillA_get0 (j := 15) (by kernel_rfl) (by rw [hsz]; decide)
                        have q15 : vs 15 = .bool false := hD 15 (by simp [waits, Region.binds])
                        rw [q15] at r123
                        clear ha hU hD ha0
                        rw [if_pos (by simp [Region.wanted, yielded, r121])]
                        go_simp
                        exact hK _ hC (Below.refl _ _)
                      · -- 17
                        intro vs a W K ha hC hD hU hK
                        have r124 : a.tmps[124]? = some (vs 16) := by rw [ha]; exact fillA_get0 (j := 16) (by kernel_rfl) (by rw [hsz]; decide)
                        have q16 : vs 16 = .bool false := hD 16 (by simp [waits, Region.binds])
                        rw [q16] at r124
                        clear ha hU hD ha0
                        rw [if_neg (by simp [Region.wanted, yielded, r124, undef])]
                      · -- 18
                        intro vs a W K ha hC hD hU hK
                        have r124 : a.tmps[124]? = some (vs 16) := by rw [ha]; exact fillA_get0 (j := 16) (by kernel_rfl) (by rw [hsz]; decide)
                        have q16 : vs 16 = .bool false := hD 16 (by simp [waits, Region.binds])
                        rw [q16] at r124
                        clear ha hU hD ha0
                        rw [if_neg (by simp [Region.wanted, yielded, r124, undef])]
                      · -- 19
                        intro vs a W K ha hC hD hU hK
                        have r121 : a.tmps[121]? = some (vs 13) := by rw [ha]; exact fillA_get0 (j := 13) (by kernel_rfl) (by rw [hsz]; decide)
                        have q13 : vs 13 = .bool false := hD 13 (by simp [waits, Region.binds])
                        rw [q13] at r121
                        have r124 : a.tmps[124]? = some (vs 16) := by rw [ha]; exact fillA_get0 (j := 16) (by kernel_rfl) (by rw [hsz]; decide)
                        have q16 : vs 16 = .bool false := hD 16 (by simp [waits, Region.binds])
                        rw [q16] at r124
                        have r126 : a.tmps[126]? = some (vs 18) := by rw [ha]; exact fillA_get0 (j := 18) (by kernel_rfl) (by rw [hsz]; decide)
                        have q18 : vs 18 = undef := hD 18 (by simp [waits, Region.binds])
                        rw [q18] at r126
                        clear ha hU hD ha0
                        rw [if_pos (by simp [Region.wanted, yielded, r121])]
                        go_simp
                        exact hK _ hC (Below.refl _ _)
                      · -- 20
                        intro vs a W K ha hC hD hU hK
                        have r121 : a.tmps[121]? = some (vs 13) := by rw [ha]; exact fillA_get0 (j := 13) (by kernel_rfl) (by rw [hsz]; decide)
                        have q13 : vs 13 = .bool false := hD 13 (by simp [waits, Region.binds])
                        rw [q13] at r121
                        have r127 : a.tmps[127]? = some (vs 19) := by rw [ha]; exact fillA_get0 (j := 19) (by kernel_rfl) (by rw [hsz]; decide)
                        have q19 : vs 19 = .bool false := hD 19 (by simp [waits, Region.binds])
                        rw [q19] at r127
                        clear ha hU hD ha0
                        rw [if_pos (by rfl)]
                        go_simp
                        exact hK _ hC (Below.refl _ _)
                    case finA =>
                      refine Fin1.none (Nat.le_refl _) ?_
                      intro vs W a1 hC hE ha
                      have eL : vs 20 = .bool false := hE 20 (by simp)
                      rw [ha, ha0]
                      clear ha ha0 hsz b12 b13 b14 b15
                      simp only [fillA, Act.put, List.setIfInBounds_toArray, List.set_cons_zero, List.set_cons_succ, Nat.zero_add, Nat.reduceAdd, eL]
                      obtain ⟨u0, hu0⟩ : ∃ v0, vs 0 = v0 := ⟨_, rfl⟩
                      obtain ⟨u1, hu1⟩ : ∃ v0, vs 1 = v0 := ⟨_, rfl⟩
                      obtain ⟨u2, hu2⟩ : ∃ v0, vs 2 = v0 := ⟨_, rfl⟩
                      obtain ⟨u3, hu3⟩ : ∃ v0, vs 3 = v0 := ⟨_, rfl⟩
                      obtain ⟨u4, hu4⟩ : ∃ v0, vs 4 = v0 := ⟨_, rfl⟩
                      obtain ⟨u5, hu5⟩ : ∃ v0, vs 5 = v0 := ⟨_, rfl⟩
                      obtain ⟨u6, hu6⟩ : ∃ v0, vs 6 = v0 := ⟨_, rfl⟩
                      obtain ⟨u7, hu7⟩ : ∃ v0, vs 7 = v0 := ⟨_, rfl⟩
                      obtain ⟨u8, hu8⟩ : ∃ v0, vs 8 = v0 := ⟨_, rfl⟩
                      obtain ⟨u9, hu9⟩ : ∃ v0, vs 9 = v0 := ⟨_, rfl⟩
                      obtain ⟨u10, hu10⟩ : ∃ v0, vs 10 = v0 := ⟨_, rfl⟩
                      obtain ⟨u11, hu11⟩ : ∃ v0, vs 11 = v0 := ⟨_, rfl⟩
                      obtain ⟨u12, hu12⟩ : ∃ v0, vs 12 = v0 := ⟨_, rfl⟩
                      obtain ⟨u13, hu13⟩ : ∃ v0, vs 13 = v0 := ⟨_, rfl⟩
                      obtain ⟨u14, hu14⟩ : ∃ v0, vs 14 = v0 := ⟨_, rfl⟩
                      obtain ⟨u15, hu15⟩ : ∃ v0, vs 15 = v0 := ⟨_, rfl⟩
                      obtain ⟨u16, hu16⟩ : ∃ v0, vs 16 = v0 := ⟨_, rfl⟩
                      obtain ⟨u17, hu17⟩ : ∃ v0, vs 17 = v0 := ⟨_, rfl⟩
                      obtain ⟨u18, hu18⟩ : ∃ v0, vs 18 = v0 := ⟨_, rfl⟩
                      obtain ⟨u19, hu19⟩ : ∃ v0, vs 19 = v0 := ⟨_, rfl⟩
                      rw [hu0, hu1, hu2, hu3, hu4, hu5, hu6, hu7, hu8, hu9, hu10, hu11, hu12, hu13, hu14, hu15, hu16, hu17, hu18, hu19]
                      clear hu0 hu1 hu2 hu3 hu4 hu5 hu6 hu7 hu8 hu9 hu10 hu11 hu12 hu13 hu14 hu15 hu16 hu17 hu18 hu19
                      clear eL hE
                      have HBW5 : Hid (Below V4.heap.size V4 W) := bl_call HBW4.out hC (Nat.le_refl _)
                      clear hC kl
                      go_wp2_with fail
                      go_roundw
                      case rel => exact ⟨j + 1, by go_num, by omega, HBW5.out⟩
                      case measure => simp [intOf]; omega
                  · rw [HZB.out hj2]
                    have hj2i : decide ((j : Int) < 2) = false := decide_eq_false (by omega)
                    have hj2g : decide ((2 : Int) ≤ (j : Int)) = true := decide_eq_true (by omega)
                    clear HZA HZB HZZ
                    go_wp2_with fail
                    refine wp_frameE ?_
                    intro a0 ha0
                    have b12 : a0.tmps[12]? = some (.int .i64 j) := by rw [ha0]; kernel_rfl
                    have b13 : a0.tmps[13]? = some (.int .i64 nv) := by rw [ha0]; kernel_rfl
                    have b14 : a0.tmps[14]? = some (.pointer (some ⟨g14, 0, none⟩)) := by rw [ha0]; kernel_rfl
                    have b15 : a0.tmps[15]? = some (.int .i64 9) := by rw [ha0]; kernel_rfl
                    have hsz : a0.tmps.size = 130 := by rw [ha0]; kernel_rfl
                    refine wp_region_list (fun W => Below Wc.heap.size Wc W) (fun w w' => Below w.heap.size w w')
                      [isV (.int .i64 j), isV (.bool false), isV (.bool false), isV (undef), isV (undef), isV (undef), isV (undef), isV (undef), isV (undef), isV (undef), isV (undef), isV (undef), isV (.bool false), isV (.bool false), isV (.int .i64 j), isV (.bool true), isV (.bool true), isV (.int .i64 9), isV (.bool false), isV (.bool false), isV (.bool false)]
                      (by kernel_rfl) (by kernel_rfl) (by kernel_rfl) (by simp) (by simp) (Below.refl _ _).drew ?stabA ?stepA ?finA
                    case stabA => exact (StabL.is (StabL.is (StabL.is (StabL.is (StabL.is (StabL.is (StabL.is (StabL.is (StabL.is (StabL.is (StabL.is (StabL.is (StabL.is (StabL.is (StabL.is (StabL.is (StabL.is (StabL.is (StabL.is (StabL.is (StabL.is StabL.nil)))))))))))))))))))))
                    case stepA =>
                      refine StepsL.isA ?_ (StepsL.isA ?_ (StepsL.isA ?_ (StepsL.isA ?_ (StepsL.isA ?_ (StepsL.isA ?_ (StepsL.isA ?_ (StepsL.isA ?_ (StepsL.isA ?_ (StepsL.isA ?_ (StepsL.isA ?_ (StepsL.isA ?_ (StepsL.isA ?_ (StepsL.isA ?_ (StepsL.isA ?_ (StepsL.isA ?_ (StepsL.isA ?_ (StepsL.isA ?_ (StepsL.isA ?_ (StepsL.isA ?_ (StepsL.isA ?_ StepsL.nil))))))))))))))))))))
                      · -- 0
                        intro vs a W K ha hC hD hU hK
                        have r12 : a.tmps[12]? = some (.int .i64 j) := by rw [ha, fillA_base0 (by kernel_rfl)]; exact b12
                        clear ha hU hD ha0
                        rw [if_pos (by rfl)]
                        go_simp
                        exact hK _ hC (Below.refl _ _)
                      · -- 1
                        intro vs a W K ha hC hD hU hK
                        have r108 : a.tmps[108]? = some (vs 0) := by rw [ha]; exact fillA_get0 (j := 0) (by kernel_rfl) (by rw [hsz]; decide)
                        have q0 : vs 0 = .int .i64 j := hD 0 (by simp [waits, Region.binds])
                        rw [q0] at r108
                        clear ha hU hD ha0
                        rw [if_pos (by rfl)]
                        go_simp
                        exact hK _ hC (Below.refl _ _)
                      · -- 2
                        intro vs a W K ha hC hD hU hK
                        have r109 : a.tmps[109]? = some (vs 1) := by rw [ha]; exact fillA_get0 (j := 1) (by kernel_rfl) (by rw [hsz]; decide)
                        have q1 : vs 1 = .bool false := hD 1 (by simp [waits, Region.binds])
                        rw [q1] at r109
                        clear ha hU hD ha0
                        rw [if_pos (by rfl)]
                        go_simp
                        exact hK _ hC (Below.refl _ _)
                      · -- 3
                        intro vs a W K ha hC hD hU hK
                        have r110 : a.tmps[110]? = some (vs 2) := by rw [ha]; exact fillA_get0 (j := 2) (by kernel_rfl) (by rw [hsz]; decide)
                        have q2 : vs 2 = .bool false := hD 2 (by simp [waits, Region.binds])
                        rw [q2] at r110
                        clear ha hU hD ha0
                        rw [if_neg (by simp [Region.wanted, yielded, r110, undef])]
                      · -- 4
                        intro vs a W K ha hC hD hU hK
                        have r110 : a.tmps[110]? = some (vs 2) := by rw [ha]; exact fillA_get0 (j := 2) (by kernel_rfl) (by rw [hsz]; decide)
                        have q2 : vs 2 = .bool false := hD 2 (by simp [waits, Region.binds])
                        rw [q2] at r110
                        clear ha hU hD ha0
                        rw [if_neg (by simp [Region.wanted, yielded, r110, undef])]
                      · -- 5
                        intro vs a W K ha hC hD hU hK
                        have r110 : a.tmps[110]? = some (vs 2) := by rw [ha]; exact fillA_get0 (j := 2) (by kernel_rfl) (by rw [hsz]; decide)
                        have q2 : vs 2 = .bool false := hD 2 (by simp [waits, Region.binds])
                        rw [q2] at r110
                        clear ha hU hD ha0
                        rw [if_neg (by simp [Region.wanted, yielded, r110, undef])]
                      · -- 6
                        intro vs a W K ha hC hD hU hK
                        have r113 : a.tmps[113]? = some (vs 5) := by rw [ha]; exact fillA_get0 (j := 5) (by kernel_rfl) (by rw [hsz]; decide)
                        have q5 : vs 5 = undef := hD 5 (by simp [waits, Region.binds])
                        rw [q5] at r113
                        clear ha hU hD ha0
                        rw [if_neg (by simp [Region.wanted, yielded, r113, undef])]
                      · -- 7
                        intro vs a W K ha hC hD hU hK
                        have r113 : a.tmps[113]? = some (vs 5) := by rw [ha]; exact fillA_get0 (j := 5) (by kernel_rfl) (by rw [hsz]; decide)
                        have q5 : vs 5 = undef := hD 5 (by simp [waits, Region.binds])
                        rw [q5] at r113
                        clear ha hU hD ha0
                        rw [if_neg (by simp [Region.wanted, yielded, r113, undef])]
                      · -- 8
                        intro vs a W K ha hC hD hU hK
                        have r113 : a.tmps[113]? = some (vs 5) := by rw [ha]; exact fillA_get0 (j := 5) (by kernel_rfl) (by rw [hsz]; decide)
                        have q5 : vs 5 = undef := hD 5 (by simp [waits, Region.binds])
                        rw [q5] at r113
                        clear ha hU hD ha0
                        rw [if_neg (by simp [Region.wanted, yielded, r113, undef])]
                      · -- 9
                        intro vs a W K ha hC hD hU hK
                        have r113 : a.tmps[113]? = some (vs 5) := by rw [ha]; exact fillA_get0 (j := 5) (by kernel_rfl) (by rw [hsz]; decide)
                        have q5 : vs 5 = undef := hD 5 (by simp [waits, Region.binds])
                        rw [q5] at r113
                        clear ha hU hD ha0
                        rw [if_neg (by simp [Region.wanted, yielded, r113, undef])]
                      · -- 10
                        intro vs a W K ha hC hD hU hK
                        have r113 : a.tmps[113]? = some (vs 5) := by rw [ha]; exact fillA_get0 (j := 5) (by kernel_rfl) (by rw [hsz]; decide)
                        have q5 : vs 5 = undef := hD 5 (by simp [waits, Region.binds])
                        rw [q5] at r113
                        clear ha hU hD ha0
                        rw [if_neg (by simp [Region.wanted, yielded, r113, undef])]
                      · -- 11
                        intro vs a W K ha hC hD hU hK
                        have r110 : a.tmps[110]? = some (vs 2) := by rw [ha]; exact fillA_get0 (j := 2) (by kernel_rfl) (by rw [hsz]; decide)
                        have q2 : vs 2 = .bool false := hD 2 (by simp [waits, Region.binds])
                        rw [q2] at r110
                        clear ha hU hD ha0
                        rw [if_neg (by simp [Region.wanted, yielded, r110, undef])]
                      · -- 12
                        intro vs a W K ha hC hD hU hK
                        have r110 : a.tmps[110]? = some (vs 2) := by rw [ha]; exact fillA_get0 (j := 2) (by kernel_rfl) (by rw [hsz]; decide)
                        have q2 : vs 2 = .bool false := hD 2 (by simp [waits, Region.binds])
                        rw [q2] at r110
                        have r119 : a.tmps[119]? = some (vs 11) := by rw [ha]; exact fillA_get0 (j := 11) (by kernel_rfl) (by rw [hsz]; decide)
                        have q11 : vs 11 = undef := hD 11 (by simp [waits, Region.binds])
                        rw [q11] at r119
                        clear ha hU hD ha0
                        rw [if_pos (by rfl)]
                        go_simp
                        exact hK _ hC (Below.refl _ _)
                      · -- 13
                        intro vs a W K ha hC hD hU hK
                        have r120 : a.tmps[120]? = some (vs 12) := by rw [ha]; exact fillA_get0 (j := 12) (by kernel_rfl) (by rw [hsz]; decide)
                        have q12 : vs 12 = .bool false := hD 12 (by simp [waits, Region.binds])
                        rw [q12] at r120
                        clear ha hU hD ha0
                        rw [if_pos (by rfl)]
                        go_simp
                        exact hK _ hC (Below.refl _ _)
                      · -- 14
                        intro vs a W K ha hC hD hU hK
                        have r121 : a.tmps[121]? = some (vs 13) := by rw [ha]; exact fillA_get0 (j := 13) (by kernel_rfl) (by rw [hsz]; decide)
                        have q13 : vs 13 = .bool false := hD 13 (by simp [waits, Region.binds])
                        rw [q13] at r121
                        have r12 : a.tmps[12]? = some (.int .i64 j) := by rw [ha, fillA_base0 (by kernel_rfl)]; exact b12
                        clear ha hU hD ha0
                        rw [if_pos (by simp [Region.wanted, yielded, r121])]
                        go_simp
                        exact hK _ hC (Below.refl _ _)
                      · -- 15
                        intro vs a W K ha hC hD hU hK
                        have r121 : a.tmps[121]? = some (vs 13) := by rw [ha]; exact fillA_get0 (j := 13) (by kernel_rfl) (by rw [hsz]; decide)
                        have q13 : vs 13 = .bool false := hD 13 (by simp [waits, Region.binds])
                        rw [q13] at r121
                        have r122 : a.tmps[122]? = some (vs 14) := by rw [ha]; exact fillA_get0 (j := 14) (by kernel_rfl) (by rw [hsz]; decide)
                        have q14 : vs 14 = .int .i64 j := hD 14 (by simp [waits, Region.binds])
                        rw [q14] at r122
                        clear ha hU hD ha0
                        rw [if_pos (by simp [Region.wanted, yielded, r121])]
                        go_simp
                        exact hK _ hC (Below.refl _ _)
                      · -- 16
                        intro vs a W K ha hC hD hU hK
                        have r121 : a.tmps[121]? = some (vs 13) := by rw [ha]; exact fillA_get0 (j := 13) (by kernel_rfl) (by rw [hsz]; decide)
                        have q13 : vs 13 = .bool false := hD 13 (by simp [waits, Region.binds])
                        rw [q13] at r121
                        have r123 : a.tmps[123]? = some (vs 15) := by rw [ha]; exact fillA_get0 (j := 15) (by kernel_rfl) (by rw [hsz]; decide)
                        have q15 : vs 15 = .bool true := hD 15 (by simp [waits, Region.binds])
                        rw [q15] at r123
                        clear ha hU hD ha0
                        rw [if_pos (by simp [Region.wanted, yielded, r121])]
                        go_simp
                        exact hK _ hC (Below.refl _ _)
                      · -- 17
                        intro vs a W K ha hC hD hU hK
                        have r124 : a.tmps[124]? = some (vs 16) := by rw [ha]; exact fillA_get0 (j := 16) (by kernel_rfl) (by rw [hsz]; decide)
                        have q16 : vs 16 = .bool true := hD 16 (by simp [waits, Region.binds])
                        rw [q16] at r124
                        have r15 : a.tmps[15]? = some (.int .i64 9) := by rw [ha, fillA_base0 (by kernel_rfl)]; exact b15
                        clear ha hU hD ha0
                        rw [if_pos (by simp [Region.wanted, yielded, r124])]
                        go_simp
                        exact hK _ hC (Below.refl _ _)
                      · -- 18
                        intro vs a W K ha hC hD hU hK
                        have r124 : a.tmps[124]? = some (vs 16) := by rw [ha]; exact fillA_get0 (j := 16) (by kernel_rfl) (by rw [hsz]; decide)
                        have q16 : vs 16 = .bool true := hD 16 (by simp [waits, Region.binds])
                        rw [q16] at r124
                        have r125 : a.tmps[125]? = some (vs 17) := by rw [ha]; exact fillA_get0 (j := 17) (by kernel_rfl) (by rw [hsz]; decide)
                        have q17 : vs 17 = .int .i64 9 := hD 17 (by simp [waits, Region.binds])
                        rw [q17] at r125
                        clear ha hU hD ha0
                        rw [if_pos (by simp [Region.wanted, yielded, r124])]
                        go_simp
                        exact hK _ hC (Below.refl _ _)
                      · -- 19
                        intro vs a W K ha hC hD hU hK
                        have r121 : a.tmps[121]? = some (vs 13) := by rw [ha]; exact fillA_get0 (j := 13) (by kernel_rfl) (by rw [hsz]; decide)
                        have q13 : vs 13 = .bool false := hD 13 (by simp [waits, Region.binds])
                        rw [q13] at r121
                        have r124 : a.tmps[124]? = some (vs 16) := by rw [ha]; exact fillA_get0 (j := 16) (by kernel_rfl) (by rw [hsz]; decide)
                        have q16 : vs 16 = .bool true := hD 16 (by simp [waits, Region.binds])
                        rw [q16] at r124
                        have r126 : a.tmps[126]? = some (vs 18) := by rw [ha]; exact fillA_get0 (j := 18) (by kernel_rfl) (by rw [hsz]; decide)
                        have q18 : vs 18 = .bool false := hD 18 (by simp [waits, Region.binds])
                        rw [q18] at r126
                        clear ha hU hD ha0
                        rw [if_pos (by simp [Region.wanted, yielded, r121])]
                        go_simp
                        exact hK _ hC (Below.refl _ _)
                      · -- 20
                        intro vs a W K ha hC hD hU hK
                        have r121 : a.tmps[121]? = some (vs 13) := by rw [ha]; exact fillA_get0 (j := 13) (by kernel_rfl) (by rw [hsz]; decide)
                        have q13 : vs 13 = .bool false := hD 13 (by simp [waits, Region.binds])
                        rw [q13] at r121
                        have r127 : a.tmps[127]? = some (vs 19) := by rw [ha]; exact fillA_get0 (j := 19) (by kernel_rfl) (by rw [hsz]; decide)
                        have q19 : vs 19 = .bool false := hD 19 (by simp [waits, Region.binds])
                        rw [q19] at r127
                        clear ha hU hD ha0
                        rw [if_pos (by rfl)]
                        go_simp
                        exact hK _ hC (Below.refl _ _)
                    case finA =>
                      refine Fin1.none (Nat.le_refl _) ?_
                      intro vs W a1 hC hE ha
                      have eL : vs 20 = .bool false := hE 20 (by simp)
                      rw [ha, ha0]
                      clear ha ha0 hsz b12 b13 b14 b15
                      simp only [fillA, Act.put, List.setIfInBounds_toArray, List.set_cons_zero, List.set_cons_succ, Nat.zero_add, Nat.reduceAdd, eL]
                      obtain ⟨u0, hu0⟩ : ∃ v0, vs 0 = v0 := ⟨_, rfl⟩
                      obtain ⟨u1, hu1⟩ : ∃ v0, vs 1 = v0 := ⟨_, rfl⟩
                      obtain ⟨u2, hu2⟩ : ∃ v0, vs 2 = v0 := ⟨_, rfl⟩
                      obtain ⟨u3, hu3⟩ : ∃ v0, vs 3 = v0 := ⟨_, rfl⟩
                      obtain ⟨u4, hu4⟩ : ∃ v0, vs 4 = v0 := ⟨_, rfl⟩
                      obtain ⟨u5, hu5⟩ : ∃ v0, vs 5 = v0 := ⟨_, rfl⟩
                      obtain ⟨u6, hu6⟩ : ∃ v0, vs 6 = v0 := ⟨_, rfl⟩
                      obtain ⟨u7, hu7⟩ : ∃ v0, vs 7 = v0 := ⟨_, rfl⟩
                      obtain ⟨u8, hu8⟩ : ∃ v0, vs 8 = v0 := ⟨_, rfl⟩
                      obtain ⟨u9, hu9⟩ : ∃ v0, vs 9 = v0 := ⟨_, rfl⟩
                      obtain ⟨u10, hu10⟩ : ∃ v0, vs 10 = v0 := ⟨_, rfl⟩
                      obtain ⟨u11, hu11⟩ : ∃ v0, vs 11 = v0 := ⟨_, rfl⟩
                      obtain ⟨u12, hu12⟩ : ∃ v0, vs 12 = v0 := ⟨_, rfl⟩
                      obtain ⟨u13, hu13⟩ : ∃ v0, vs 13 = v0 := ⟨_, rfl⟩
                      obtain ⟨u14, hu14⟩ : ∃ v0, vs 14 = v0 := ⟨_, rfl⟩
                      obtain ⟨u15, hu15⟩ : ∃ v0, vs 15 = v0 := ⟨_, rfl⟩
                      obtain ⟨u16, hu16⟩ : ∃ v0, vs 16 = v0 := ⟨_, rfl⟩
                      obtain ⟨u17, hu17⟩ : ∃ v0, vs 17 = v0 := ⟨_, rfl⟩
                      obtain ⟨u18, hu18⟩ : ∃ v0, vs 18 = v0 := ⟨_, rfl⟩
                      obtain ⟨u19, hu19⟩ : ∃ v0, vs 19 = v0 := ⟨_, rfl⟩
                      rw [hu0, hu1, hu2, hu3, hu4, hu5, hu6, hu7, hu8, hu9, hu10, hu11, hu12, hu13, hu14, hu15, hu16, hu17, hu18, hu19]
                      clear hu0 hu1 hu2 hu3 hu4 hu5 hu6 hu7 hu8 hu9 hu10 hu11 hu12 hu13 hu14 hu15 hu16 hu17 hu18 hu19
                      clear eL hE
                      have HBW5 : Hid (Below V4.heap.size V4 W) := bl_call HBW4.out hC (Nat.le_refl _)
                      clear hC kl
                      go_wp2_with fail
                      go_roundw
                      case rel => exact ⟨j + 1, by go_num, by omega, HBW5.out⟩
                      case measure => simp [intOf]; omega
          · obtain rfl : j = 4 := by omega
            clear hws1 hws2
            go_wp2_with fail
            refine (awake_any wr).mono ?_
            rintro e Vz ⟨rfl, cz⟩
            go_wp2
            go_ret
            exact ⟨by rfl, bl_call HBW.out (bl_call hBr cz (Nat.le_refl _)) (Nat.le_refl _)⟩

end Go.Proofs.Ytpbimgafafkjgaa
