/- Walks, layer 7: the law CastOrder. -/
import Derived.Test.YtpdldmichpmgmaaCKApp3
import Derived.Test.YtpdldmichpmgmaaCKLaw4
import Derived.Test.YtpdldmichpmgmaaCKLaws1
import Derived.Test.YtpdldmichpmgmaaCKMorP
import Derived.Test.YtpdldmichpmgmaaCKOrdQ
import Derived.Test.YtpdldmichpmgmaaCKOuts
import Derived.Test.YtpdldmichpmgmaaCKRefM
import Derived.Test.YtpdldmichpmgmaaCKTold
import Derived.Test.YtpdldmichpmgmaaCTRegs
set_option linter.unusedVariables false
set_option linter.unusedSimpArgs false
set_option linter.all false
namespace Go.Proofs.Ytpdldmichpmgmaa
open Go.RowKit Go.Shelf

/-- what the operations promise that put one more cast that is seen somewhere; 10: the append of one, 14: that of the rest -/
def putSE (B : Nat) (sv lv v3 v13 fp pp : Value) (k r : Nat) (y : SeenC) (s : List (SeenC)) : Nat → Bool → Bool → Value → World → Prop
  | 0, p, _, v, W => p = true ∨ ∃ g, B ≤ g ∧ v = .slice (some ⟨g, 0, none⟩) 0 0 ∧ Blk W g 53 #[]
  | 1, _, _, v, _ => v = sv
  | 2, _, _, v, _ => v = .int .i64 r
  | 3, _, _, v, _ => v = v3
  | 4, p, _, v, W => p = true ∨ ∃ A c, v = .slice A r c ∧ OwnL SeenCR 4 (fun _ => False) W B 53 v (s.take r)
  | 5, _, _, v, _ => v = lv
  | 6, _, _, v, _ => v = .int .i64 k
  | 7, _, _, v, _ => v = pp
  | 8, _, _, v, _ => v = .agg #[.int .i64 y.mould, .int .i64 y.cast, .int .i64 y.lo, .int .i64 y.hi]
  | 9, p, _, v, W => p = true ∨ ∃ g, v = .slice (some ⟨g, 0, none⟩) 1 1 ∧ Blk W g 53 #[.int .i64 y.mould, .int .i64 y.cast, .int .i64 y.lo, .int .i64 y.hi]
  | 10, _, e, v, W => e = true ∨ ∃ A c, v = .slice A (r + 1) c ∧ OwnL SeenCR 4 (fun _ => False) W B 53 v (s.take r ++ [y])
  | 11, _, _, v, _ => v = sv
  | 12, _, _, v, _ => v = .int .i64 r
  | 13, _, _, v, _ => v = v13
  | 14, _, _, v, W => ∃ A c, v = .slice A (k + 1) c ∧ OwnL SeenCR 4 (fun _ => False) W B 53 v (s.take r ++ [y] ++ s.drop r)
  | _, _, _, _, _ => True
theorem putSE_stab (B : Nat) (sv lv v3 v13 fp pp : Value) (k r : Nat) (y : SeenC) (s : List (SeenC)) : ∀ i p e v w w', Below w.heap.size w w' → putSE B sv lv v3 v13 fp pp k r y s i p e v w → putSE B sv lv v3 v13 fp pp k r y s i p e v w'
  | 0, _, _, _, _, _, hb, h => h.imp id fun ⟨g, h1, h2, h3⟩ => ⟨g, h1, h2, h3.bl hb⟩
  | 1, _, _, _, _, _, _, h => h
  | 2, _, _, _, _, _, _, h => h
  | 3, _, _, _, _, _, _, h => h
  | 4, _, _, _, _, _, hb, h => h.imp id fun ⟨A, c, h1, h2⟩ => ⟨A, c, h1, h2.below SeenCR.good hb⟩
  | 5, _, _, _, _, _, _, h => h
  | 6, _, _, _, _, _, _, h => h
  | 7, _, _, _, _, _, _, h => h
  | 8, _, _, _, _, _, _, h => h
  | 9, _, _, _, _, _, hb, h => h.imp id fun ⟨g, h1, h2⟩ => ⟨g, h1, h2.bl hb⟩
  | 10, _, _, _, _, _, hb, h => h.imp id fun ⟨A, c, h1, h2⟩ => ⟨A, c, h1, h2.below SeenCR.good hb⟩
  | 11, _, _, _, _, _, _, h => h
  | 12, _, _, _, _, _, _, h => h
  | 13, _, _, _, _, _, _, h => h
  | 14, _, _, _, _, _, hb, ⟨A, c, h1, h2⟩ => ⟨A, c, h1, h2.below SeenCR.good hb⟩
  | _ + 15, _, _, _, _, _, _, _ => trivial
/-- the same of a piece; 11: the append of one, 15: that of the rest -/
def putPE (B : Nat) (sv lv v3 v13 fp pp : Value) (k r : Nat) (y : Int × Int) (s : List (Int × Int)) : Nat → Bool → Bool → Value → World → Prop
  | 0, p, _, v, W => p = true ∨ ∃ g, B ≤ g ∧ v = .slice (some ⟨g, 0, none⟩) 0 0 ∧ Blk W g 23 #[]
  | 1, _, _, v, _ => v = sv
  | 2, _, _, v, _ => v = .int .i64 r
  | 3, _, _, v, _ => v = v3
  | 4, p, _, v, W => p = true ∨ ∃ A c, v = .slice A r c ∧ OwnL PairR 2 (fun _ => False) W B 23 v (s.take r)
  | 5, _, _, v, _ => v = fp
  | 6, _, _, v, _ => v = lv
  | 7, _, _, v, _ => v = .int .i64 k
  | 8, _, _, v, _ => v = pp
  | 9, _, _, v, _ => v = .agg #[.int .i64 y.1, .int .i64 y.2]
  | 10, p, _, v, W => p = true ∨ ∃ g, v = .slice (some ⟨g, 0, none⟩) 1 1 ∧ Blk W g 23 #[.int .i64 y.1, .int .i64 y.2]
  | 11, _, e, v, W => e = true ∨ ∃ A c, v = .slice A (r + 1) c ∧ OwnL PairR 2 (fun _ => False) W B 23 v (s.take r ++ [y])
  | 12, _, _, v, _ => v = sv
  | 13, _, _, v, _ => v = .int .i64 r
  | 14, _, _, v, _ => v = v13
  | 15, _, _, v, W => ∃ A c, v = .slice A (k + 1) c ∧ OwnL PairR 2 (fun _ => False) W B 23 v (s.take r ++ [y] ++ s.drop r)
  | _, _, _, _, _ => True
theorem putPE_stab (B : Nat) (sv lv v3 v13 fp pp : Value) (k r : Nat) (y : Int × Int) (s : List (Int × Int)) : ∀ i p e v w w', Below w.heap.size w w' → putPE B sv lv v3 v13 fp pp k r y s i p e v w → putPE B sv lv v3 v13 fp pp k r y s i p e v w'
  | 0, _, _, _, _, _, hb, h => h.imp id fun ⟨g, h1, h2, h3⟩ => ⟨g, h1, h2, h3.bl hb⟩
  | 1, _, _, _, _, _, _, h => h
  | 2, _, _, _, _, _, _, h => h
  | 3, _, _, _, _, _, _, h => h
  | 4, _, _, _, _, _, hb, h => h.imp id fun ⟨A, c, h1, h2⟩ => ⟨A, c, h1, h2.below PairR.good hb⟩
  | 5, _, _, _, _, _, _, h => h
  | 6, _, _, _, _, _, _, h => h
  | 7, _, _, _, _, _, _, h => h
  | 8, _, _, _, _, _, _, h => h
  | 9, _, _, _, _, _, _, h => h
  | 10, _, _, _, _, _, hb, h => h.imp id fun ⟨g, h1, h2⟩ => ⟨g, h1, h2.bl hb⟩
  | 11, _, _, _, _, _, hb, h => h.imp id fun ⟨A, c, h1, h2⟩ => ⟨A, c, h1, h2.below PairR.good hb⟩
  | 12, _, _, _, _, _, _, h => h
  | 13, _, _, _, _, _, _, h => h
  | 14, _, _, _, _, _, _, h => h
  | 15, _, _, _, _, _, hb, ⟨A, c, h1, h2⟩ => ⟨A, c, h1, h2.below PairR.good hb⟩
  | _ + 16, _, _, _, _, _, _, _ => trivial
theorem own_low7 {α : Type} {R : Rd α} {m : Nat} {S : Foot} {w : World} {B base : Nat} {e : TypeId} {v : Value} {xs : List α} (h : OwnL R m S w base e v xs) (hb : B ≤ base) : OwnL R m S w B e v xs := by
  obtain ⟨h1, cells, ho, h2⟩ := h
  refine ⟨h1, cells, ⟨ho.1, ?_⟩, h2⟩
  rcases ho.2 with h3 | ⟨g, cap, cur, e1, e2, h3⟩
  · exact .inl h3
  · exact .inr ⟨g, cap, cur, e1, Nat.le_trans hb e2, h3⟩
def Tup3 (a b : Nat) (e : Int) (v : Value) (_ : World) : Prop := ∃ A c A2 c2, v = .tuple #[.slice A a c, .slice A2 b c2, .int .i64 e]
def IsSl7 (a : Nat) (v : Value) (_ : World) : Prop := ∃ A c, v = .slice A a c
theorem PlanT.tup {B : Nat} {r : List Pl × List Int × Int} {e : Ending} {w : World} {a b : Nat} {x : Int} (h : PlanT B r e w) (h1 : r.1.length = a) (h2 : r.2.1.length = b) (h3 : r.2.2 = x) : ∃ v, e = .returned v ∧ Tup3 a b x v w := by
  obtain ⟨A, c, A2, c2, rfl, _, _⟩ := h
  rw [h1, h2, h3]
  exact ⟨_, rfl, A, c, A2, c2, rfl⟩
theorem turn7_succ {S : Foot} {A : Option Addr} {n c : Nat} {xs : List Nat} (k : Nat) (w : World) (h : Bytes S w A n xs) :
    Calls Try.prog 20 #[.slice A n c, .int .i64 ((k : Int) + 1)] w fun e w' => e = .returned (.int .i64 (turnL xs (k + 1))) ∧ w' = w := turn7_any (k + 1) w h

set_option maxRecDepth 100000 in
set_option maxHeartbeats 8000000 in
theorem orderLaw_any {A XA XB O : Option Addr} {n ca xn xc xm xd m od zn zc : Nat} {ZA : Option Addr} {zs : List Nat} {s : Shop} {klo khi : Int} {xs ys : List Nat} {p : List (Int × Int)} (w : World) (g : Moulds (fun _ => True) w A n s.moulds) (hX : Bytes (fun _ => True) w XA xn xs) (hY : Bytes (fun _ => True) w XB xm ys) (hP : Pairs (fun _ => True) w O m p) (hZ : Bytes (fun _ => True) w ZA zn zs) (hca : n ≤ ca) (h1 : s.klo = klo) (h2 : s.khi = khi) :
    Calls Try.prog 4 #[.agg #[.int .i64 klo, .int .i64 khi, .slice A n ca], .agg #[.slice XA xn xc, .slice XB xm xd, .slice O m od], .slice ZA zn zc] w fun e w' => e = .returned (.bool true) ∧ Below w.heap.size w w' := by
  obtain ⟨iP, hiP, hzP0, hzP1, hzP2⟩ := info_parts infoSp7
  obtain ⟨iS, hiS, hzS0, hzS1, hzS2⟩ := info_parts infoSeenC
  obtain ⟨W, hW⟩ : ∃ W, (w.alloc (.cells #[.int .i64 klo, .int .i64 khi, .slice A n ca] 26)).alloc (.cells #[.slice XA xn xc, .slice XB xm xd, .slice O m od] 63) = W := ⟨_, rfl⟩
  have X : Blk W w.heap.size 26 #[.int .i64 klo, .int .i64 khi, .slice A n ca] := by rw [← hW]; exact (Blk.new _ _ _ rfl).alloc _
  have Z : Blk W (w.heap.size + 1) 63 #[.slice XA xn xc, .slice XB xm xd, .slice O m od] := by rw [← hW]; exact Blk.new _ _ _ (by simp)
  have hBW : Below w.heap.size w W := by rw [← hW]; exact bl_alloc (bl_alloc (Below.refl _ _) _ (Nat.le_refl _)) _ (Nat.le_refl _)
  have HG : Hid (∀ V, Below W.heap.size W V → Moulds (fun _ => True) V A n s.moulds) := fun V hb => (g.keep MouldR.good (Keeps.below hBW)).keep MouldR.good (Keeps.below hb)
  have HXS : Hid (∀ V, Below W.heap.size W V → Bytes (fun _ => True) V XA xn xs) := fun V hb => (hX.keep ByteR.good (Keeps.below hBW)).keep ByteR.good (Keeps.below hb)
  have HYS : Hid (∀ V, Below W.heap.size W V → Bytes (fun _ => True) V XB xm ys) := fun V hb => (hY.keep ByteR.good (Keeps.below hBW)).keep ByteR.good (Keeps.below hb)
  have HPS : Hid (∀ V, Below W.heap.size W V → Pairs (fun _ => True) V O m p) := fun V hb => (hP.keep PairR.good (Keeps.below hBW)).keep PairR.good (Keeps.below hb)
  have kk : Hid (∀ V, Below W.heap.size W V → V.cell? ⟨w.heap.size, 0, none⟩ = some (.int .i64 klo) ∧ V.cell? ⟨w.heap.size, 1, none⟩ = some (.int .i64 khi) ∧ V.cell? ⟨w.heap.size, 2, none⟩ = some (.slice A n ca) ∧ V.cell? ⟨w.heap.size + 1, 0, none⟩ = some (.slice XA xn xc) ∧ V.cell? ⟨w.heap.size + 1, 1, none⟩ = some (.slice XB xm xd) ∧ V.cell? ⟨w.heap.size + 1, 2, none⟩ = some (.slice O m od)) :=
    fun V hb => ⟨(X.bl hb).cell 0, (X.bl hb).cell 1, (X.bl hb).cell 2, (Z.bl hb).cell 0, (Z.bl hb).cell 1, (Z.bl hb).cell 2⟩
  have HZS : Hid (∀ V, Below W.heap.size W V → Bytes (fun _ => True) V ZA zn zs) := fun V hb => (hZ.keep ByteR.good (Keeps.below hBW)).keep ByteR.good (Keeps.below hb)
  have Hn := Lib.hid g.len
  have Hm := Lib.hid hP.len
  have hnl := g.le
  have hml := hP.le
  clear X Z g hX hY hP hZ
  obtain ⟨x0, x1, x2, y0, y1, y2⟩ := kk.out W (Below.refl _ _)
  go_enter Try.func4, Try.ntmps4
  go_wp2_with fail
  clear hW x0 x1 x2 y0 y1 y2
  obtain ⟨WW, hWW⟩ : ∃ V, V = W := ⟨_, rfl⟩
  subst hWW
  refine (valid7_any WW (HG.out WW (Below.refl _ _)) h1 h2).mono ?_
  rintro e V1 ⟨rfl, b1⟩
  by_cases he : err7 s = 0
  · have heb : (err7 s == 0) = true := by rw [he]; rfl
    rw [heb]
    have HE : Hid ((check7 s).2.2 = 0) := he
    have hok := okS_of HE.out
    have HOK := Lib.hid hok
    have HTR := Lib.hid (any_truth hok xs)
    obtain ⟨k0, hk0⟩ : ∃ x, anyS7 s xs = x := ⟨_, rfl⟩
    obtain ⟨tw, htw⟩ : ∃ x, anyT7 s xs = x := ⟨_, rfl⟩
    rw [hk0, htw] at HTR
    have HBD := Lib.hid (truth_bd hok HTR.out)
    have HKB := Lib.hid (truth_k hok HTR.out)
    obtain ⟨l, hl⟩ : ∃ x, toldL7 s k0 tw ys = x := ⟨_, rfl⟩
    have HSI : Hid (∀ y ∈ l, SeenIn s k0 tw y) := by rw [← hl]; exact toldL_seen hok HTR.out ys
    have HL6 : Hid (l.length ≤ 6) := by rw [← hl]; exact toldL_len _ _ _ _
    have HA : Hid (∀ V, Below WW.heap.size WW V → Calls Try.prog 9 #[.agg #[.int .i64 klo, .int .i64 khi, .slice A n ca], .slice XA xn xc] V fun e w' => (∃ v, e = .returned v ∧ TruthV V.heap.size k0 tw v w') ∧ Below V.heap.size V w') := fun V hb => by
      have := any7_any (ca := ca) (cc := xc) V (HG.out V hb) (HXS.out V hb) h1 h2 HOK.out
      rw [hk0, htw] at this
      exact this.mono fun e w' h => ⟨TruthV.of h.1, h.2⟩
    have HT : Hid (∀ (V : World) (B : Nat) (v : Value), Below WW.heap.size WW V → TruthV B k0 tw v V → Calls Try.prog 10 #[.agg #[.int .i64 klo, .int .i64 khi, .slice A n ca], v, .slice XB xm xd] V fun e w' => (∃ v, e = .returned v ∧ SeensW V.heap.size l v w') ∧ Below V.heap.size V w') := fun V B v hb hv => by
      obtain ⟨D, dc, rfl, hD⟩ := hv
      have := told7_cap (klo := klo) (khi := khi) (ca := ca) (cc := xd) (dc := dc) V (HG.out V hb) (HYS.out V hb) (hD.mono PairR.good (T := fun _ => True) (fun _ _ => trivial)) HOK.out (HTR.out.len) HBD.out HKB.out
      rw [hl] at this
      exact this.mono fun e w' h => ⟨SeensW.of h.1, h.2⟩
    have HB1 := Lib.hid b1
    clear hk0 htw hl he heb b1
    go_wp2_with fail
    refine wp_frameT ?_
    intro a0 ha0
    have tb3 : a0.tmps[3]? = some (.pointer (some ⟨w.heap.size, 0, none⟩)) := by rw [ha0]; kernel_rfl
    have tb4 : a0.tmps[4]? = some (.pointer (some ⟨w.heap.size + 1, 0, none⟩)) := by rw [ha0]; kernel_rfl
    have hsz : a0.tmps.size = 185 := by rw [ha0]; kernel_rfl
    refine wp_region_list (fun W => Below V1.heap.size V1 W) (fun w w' => Below w.heap.size w w')
      [isV (.agg #[.int .i64 klo, .int .i64 khi, .slice A n ca]), isV (.agg #[.int .i64 klo, .int .i64 khi, .slice A n ca]), isV (.pointer (some ⟨w.heap.size + 1, 0, none⟩)), isV (.pointer (some ⟨w.heap.size + 1, 0, none⟩)), isV (.slice XA xn xc), TruthV V1.heap.size k0 tw, isV (.pointer (some ⟨w.heap.size + 1, 0, none⟩)), isV (.pointer (some ⟨w.heap.size + 1, 1, none⟩)), isV (.slice XB xm xd), SeensW V1.heap.size l]
      (by kernel_rfl) (by kernel_rfl) (by kernel_rfl) (by simp) (by simp) (Below.refl _ _).drew ?stabA ?stepA ?finA
    case stabA => exact (StabL.is (StabL.is (StabL.is (StabL.is (StabL.is (StabL.cons (fun v w V hC hX h => h.bl hX) (StabL.is (StabL.is (StabL.is (StabL.cons (fun v w V hC hX h => h.bl hX) StabL.nil))))))))))
    case stepA =>
      refine StepsL.isA ?_ (StepsL.isA ?_ (StepsL.isA ?_ (StepsL.isA ?_ (StepsL.isA ?_ (StepsL.consA ?_ (StepsL.isA ?_ (StepsL.isA ?_ (StepsL.isA ?_ (StepsL.consA ?_ StepsL.nil)))))))))
      · -- 0
        intro vs a W K ha hC hD hU hK
        have r3 : a.tmps[3]? = some (.pointer (some ⟨w.heap.size, 0, none⟩)) := by rw [ha, fillA_base0 (by kernel_rfl)]; exact tb3
        clear ha hU hD ha0
        rw [if_pos (by rfl)]
        obtain ⟨k1, k2, k3, k4, k5, k6⟩ := kk.out W (bl_call HB1.out hC (Nat.le_refl _))
        go_simp
        exact hK _ hC (Below.refl _ _)
      · -- 1
        intro vs a W K ha hC hD hU hK
        have r3 : a.tmps[3]? = some (.pointer (some ⟨w.heap.size, 0, none⟩)) := by rw [ha, fillA_base0 (by kernel_rfl)]; exact tb3
        clear ha hU hD ha0
        rw [if_pos (by rfl)]
        obtain ⟨k1, k2, k3, k4, k5, k6⟩ := kk.out W (bl_call HB1.out hC (Nat.le_refl _))
        go_simp
        exact hK _ hC (Below.refl _ _)
      · -- 2
        intro vs a W K ha hC hD hU hK
        have r4 : a.tmps[4]? = some (.pointer (some ⟨w.heap.size + 1, 0, none⟩)) := by rw [ha, fillA_base0 (by kernel_rfl)]; exact tb4
        clear ha hU hD ha0
        rw [if_pos (by rfl)]
        go_simp
        exact hK _ hC (Below.refl _ _)
      · -- 3
        intro vs a W K ha hC hD hU hK
        have r32 : a.tmps[32]? = some (vs 2) := by rw [ha]; exact fillA_get0 (j := 2) (by kernel_rfl) (by rw [hsz]; decide)
        have q2 : vs 2 = .pointer (some ⟨w.heap.size + 1, 0, none⟩) := hD 2 (by simp [waits, Region.binds])
        rw [q2] at r32
        clear ha hU hD ha0
        rw [if_pos (by rfl)]
        go_simp
        exact hK _ hC (Below.refl _ _)
      · -- 4
        intro vs a W K ha hC hD hU hK
        have r33 : a.tmps[33]? = some (vs 3) := by rw [ha]; exact fillA_get0 (j := 3) (by kernel_rfl) (by rw [hsz]; decide)
        have q3 : vs 3 = .pointer (some ⟨w.heap.size + 1, 0, none⟩) := hD 3 (by simp [waits, Region.binds])
        rw [q3] at r33
        clear ha hU hD ha0
        rw [if_pos (by rfl)]
        obtain ⟨k1, k2, k3, k4, k5, k6⟩ := kk.out W (bl_call HB1.out hC (Nat.le_refl _))
        go_simp
        exact hK _ hC (Below.refl _ _)
      · -- 5
        intro vs a W K ha hC hD hU hK
        have r31 : a.tmps[31]? = some (vs 1) := by rw [ha]; exact fillA_get0 (j := 1) (by kernel_rfl) (by rw [hsz]; decide)
        have q1 : vs 1 = .agg #[.int .i64 klo, .int .i64 khi, .slice A n ca] := hD 1 (by simp [waits, Region.binds])
        rw [q1] at r31
        have r34 : a.tmps[34]? = some (vs 4) := by rw [ha]; exact fillA_get0 (j := 4) (by kernel_rfl) (by rw [hsz]; decide)
        have q4 : vs 4 = .slice XA xn xc := hD 4 (by simp [waits, Region.binds])
        rw [q4] at r34
        clear ha hU hD ha0
        rw [if_pos (by rfl)]
        go_simp
        refine (HA.out W (bl_call HB1.out hC (Nat.le_refl _))).mono ?_
        rintro e w' ⟨⟨v, rfl, hv⟩, hb⟩
        exact hK _ _ (bl_call hC hb (Nat.le_refl _)) hb (hv.low hC.size)
      · -- 6
        intro vs a W K ha hC hD hU hK
        have r4 : a.tmps[4]? = some (.pointer (some ⟨w.heap.size + 1, 0, none⟩)) := by rw [ha, fillA_base0 (by kernel_rfl)]; exact tb4
        clear ha hU hD ha0
        rw [if_pos (by rfl)]
        go_simp
        exact hK _ hC (Below.refl _ _)
      · -- 7
        intro vs a W K ha hC hD hU hK
        have r36 : a.tmps[36]? = some (vs 6) := by rw [ha]; exact fillA_get0 (j := 6) (by kernel_rfl) (by rw [hsz]; decide)
        have q6 : vs 6 = .pointer (some ⟨w.heap.size + 1, 0, none⟩) := hD 6 (by simp [waits, Region.binds])
        rw [q6] at r36
        clear ha hU hD ha0
        rw [if_pos (by rfl)]
        go_simp
        exact hK _ hC (Below.refl _ _)
      · -- 8
        intro vs a W K ha hC hD hU hK
        have r37 : a.tmps[37]? = some (vs 7) := by rw [ha]; exact fillA_get0 (j := 7) (by kernel_rfl) (by rw [hsz]; decide)
        have q7 : vs 7 = .pointer (some ⟨w.heap.size + 1, 1, none⟩) := hD 7 (by simp [waits, Region.binds])
        rw [q7] at r37
        clear ha hU hD ha0
        rw [if_pos (by rfl)]
        obtain ⟨k1, k2, k3, k4, k5, k6⟩ := kk.out W (bl_call HB1.out hC (Nat.le_refl _))
        go_simp
        exact hK _ hC (Below.refl _ _)
      · -- 9
        intro vs a W K ha hC hD hU hK
        have r30 : a.tmps[30]? = some (vs 0) := by rw [ha]; exact fillA_get0 (j := 0) (by kernel_rfl) (by rw [hsz]; decide)
        have q0 : vs 0 = .agg #[.int .i64 klo, .int .i64 khi, .slice A n ca] := hD 0 (by simp [waits, Region.binds])
        rw [q0] at r30
        have r35 : a.tmps[35]? = some (vs 5) := by rw [ha]; exact fillA_get0 (j := 5) (by kernel_rfl) (by rw [hsz]; decide)
        have P5 : TruthV V1.heap.size k0 tw (vs 5) W := hD 5 (by simp [waits, Region.binds])
        obtain ⟨D35, d35, e35, hI35⟩ := P5
        rw [e35] at r35
        have r38 : a.tmps[38]? = some (vs 8) := by rw [ha]; exact fillA_get0 (j := 8) (by kernel_rfl) (by rw [hsz]; decide)
        have q8 : vs 8 = .slice XB xm xd := hD 8 (by simp [waits, Region.binds])
        rw [q8] at r38
        clear ha hU hD ha0
        rw [if_pos (by rfl)]
        go_simp
        refine (HT.out W V1.heap.size _ (bl_call HB1.out hC (Nat.le_refl _)) ⟨_, _, rfl, hI35⟩).mono ?_
        rintro e w' ⟨⟨v, rfl, hv⟩, hb⟩
        exact hK _ _ (bl_call hC hb (Nat.le_refl _)) hb (hv.low hC.size)
    case finA =>
      intro vs W hC hE hU
      rw [ha0]
      clear hU hsz tb3 tb4
      have E9 : SeensW V1.heap.size l (vs 9) W := hE 9 (by simp)
      simp only [fillA, Act.put, List.setIfInBounds_toArray, List.set_cons_zero, List.set_cons_succ, Nat.zero_add, Nat.reduceAdd]
      obtain ⟨C, cc, e9, hS, hqc⟩ := E9
      rw [e9]
      obtain ⟨u0, hu0⟩ : ∃ v0, vs 0 = v0 := ⟨_, rfl⟩
      obtain ⟨u1, hu1⟩ : ∃ v0, vs 1 = v0 := ⟨_, rfl⟩
      obtain ⟨u2, hu2⟩ : ∃ v0, vs 2 = v0 := ⟨_, rfl⟩
      obtain ⟨u3, hu3⟩ : ∃ v0, vs 3 = v0 := ⟨_, rfl⟩
      obtain ⟨u4, hu4⟩ : ∃ v0, vs 4 = v0 := ⟨_, rfl⟩
      obtain ⟨u5, hu5⟩ : ∃ v0, vs 5 = v0 := ⟨_, rfl⟩
      obtain ⟨u6, hu6⟩ : ∃ v0, vs 6 = v0 := ⟨_, rfl⟩
      obtain ⟨u7, hu7⟩ : ∃ v0, vs 7 = v0 := ⟨_, rfl⟩
      obtain ⟨u8, hu8⟩ : ∃ v0, vs 8 = v0 := ⟨_, rfl⟩
      rw [hu0, hu1, hu2, hu3, hu4, hu5, hu6, hu7, hu8]
      clear hu0 hu1 hu2 hu3 hu4 hu5 hu6 hu7 hu8
      clear hE e9 HA HT
      obtain ⟨q, hq⟩ : ∃ x, l.length = x := ⟨_, rfl⟩
      rw [hq] at hS hqc
      rw [hq]
      have HS : Hid (∀ V, Below W.heap.size W V → SeenCs (fun _ => True) V C q l) := fun V hb => (hS.keep SeenCR.good (Keeps.below hb)).mono SeenCR.good (fun _ _ => trivial)
      have HB4 : Hid (Below WW.heap.size WW W) := bl_call HB1.out hC (Nat.le_refl _)
      have HQL := Lib.hid hq
      have hq6 : q ≤ 6 := by rw [← HQL.out]; exact HL6.out
      clear hq hS hC HB1
      obtain ⟨V4, hV4⟩ : ∃ V, V = W := ⟨_, rfl⟩
      subst hV4
      obtain ⟨x0, x1, x2, _, _, y2⟩ := kk.out V4 HB4.out
      go_simp
      go_wp2_with fail
      clear x0 x1 x2 y2
      refine (rorder7_any V4 (HG.out V4 HB4.out) (HS.out V4 (Below.refl _ _)) (HPS.out V4 HB4.out) h1 h2).mono ?_
      rintro e V5 ⟨rfl, c5⟩
      have HB5 : Hid (Below WW.heap.size WW V5) := bl_call HB4.out c5 (Nat.le_refl _)
      have H45 : Hid (Below V4.heap.size V4 V5) := c5
      clear c5
      by_cases h0 : orderE s l p = 0
      · have HOE := Lib.hid h0
        obtain ⟨_, _, hp1, hp6⟩ := order_zero h0
        rw [Hm.out] at hp1 hp6
        rw [h0]
        clear h0
        go_wp2_with fail
        go_loopw [8, 9] (fun sv i wr => ∃ (k c : Nat) (An : Option Addr), i = .int .i64 k ∧ k ≤ q ∧ sv = .slice An k c ∧ Hid (OwnL SeenCR 4 (fun _ => False) wr V5.heap.size 53 (.slice An k c) (putL zs 0 l k)) ∧ Hid (Below V5.heap.size V5 wr)) (fun _ i _ => q - (intOf i).toNat)
        case atStart => exact ⟨0, 0, none, rfl, Nat.zero_le _, rfl, OwnL.nil _ _ _ _ _ _, Below.refl _ _⟩
        case round =>
          obtain ⟨k, c, An, rfl, hk, rfl, HO, HBk⟩ := hrel
          by_cases hlt : k < q
          · have hki : (k : Int) < q := by omega
            have HBW := Lib.hid (bl_call HB5.out HBk.out (Nat.le_refl _))
            obtain ⟨tv, htv⟩ : ∃ t, turnL zs (k + 0) = t := ⟨_, rfl⟩
            have HTV := Lib.hid htv
            obtain ⟨r, hr⟩ : ∃ r, tv % (k + 1) = r := ⟨_, rfl⟩
            have hrk : r < k + 1 := by rw [← hr]; exact Nat.mod_lt _ (by omega)
            have hmod : ((tv : Int)).tmod ((k : Int) + 1) = (r : Int) := by rw [Int.tmod_eq_emod_of_nonneg (by omega), ← hr]; rfl
            have HR : Hid (putK zs 0 k = r) := by rw [Hid, putK, htv, hr]
            have hw25 : IntKind.i64.wrap ((k : Int) + 1) = (k : Int) + 1 := by rw [IntKind.wrap_i64]; omega
            have hmz : ¬ ((k : Int) + 1) = 0 := by omega
            have hmz2 : (((k : Int) + 1) == 0) = false := by simp; omega
            clear htv hr
            have hcap := OwnL.cap7 HO.out
            go_wp2_with fail
            refine (turn7_any k _ (HZS.out wr HBW.out)).mono ?_
            rintro e w2 ⟨rfl, rfl⟩
            rw [show turnL zs k = tv from HTV.out]
            go_wp2_with fail
            clear hmod hw25 hmz hmz2
            obtain ⟨bC, oC, ym, yc, yl, yh, rfl, _, d0, d1, d2, d3, Hy⟩ := SeenCs.get (HS.out w2 (bl_call H45.out HBk.out (Nat.le_refl _))) hlt
            have HK0 := Lib.hid d0
            have HK1 := Lib.hid d1
            have HK2 := Lib.hid d2
            have HK3 := Lib.hid d3
            clear d0 d1 d2 d3
            obtain ⟨s2, hs2⟩ : ∃ s2, putL zs 0 l k = s2 := ⟨_, rfl⟩
            rw [hs2] at HO
            have Hsl : Hid (s2.length = k) := by rw [Hid, ← hs2]; exact putL_len zs 0 l (by rw [HQL.out]; omega)
            have HNX : Hid (putL zs 0 l (k + 1) = s2.take r ++ [(⟨ym, yc, yl, yh⟩ : SeenC)] ++ s2.drop r) := by
              rw [Hid, putL_snoc Hy.out, hs2, HR.out, List.append_assoc]; rfl
            clear hs2
            have hk5 : k ≤ 5 := by omega
            have hri : (r : Int) ≤ c := by omega
            have hrk2 : (r : Int) ≤ k := by omega
            have hrn : ¬ (r : Int) < 0 := by omega
            have hrc : r ≤ c := by omega
            have hrk3 : r ≤ k := by omega
            have hkc2 : k ≤ c := by omega
            have hkc3 : (k : Int) ≤ c := by omega
            cases An with
            | none =>
              have hs0 : s2 = [] := by
                obtain ⟨_, cells, ho, _⟩ := HO.out
                rcases ho.2 with ⟨_, h0⟩ | ⟨g9, cap, cur, e, _⟩
                · exact List.eq_nil_of_length_eq_zero h0
                · injection e with e; cases e
              have HSV : Hid (SliceOf SeenCR 4 (fun _ => True) w2 none k s2) := HO.out.slice SeenCR.good rfl (by simp only [maxLen]; omega) (fun _ _ => trivial) (fun _ _ _ => trivial)
              have HT3 : Hid (SliceOf SeenCR 4 (fun _ => True) w2 none r (s2.take r)) := HSV.out.take (by omega)
              have HT13 : Hid (SliceOf SeenCR 4 (fun _ => True) w2 none (k - r) (s2.drop r)) := ⟨by rw [List.length_drop, Hsl.out], by simp only [maxLen]; omega, fun j x hx => by rw [hs0] at hx; simp at hx⟩
              clear hs0
              have AS := Lib.hid (putSE_stab w2.heap.size (.slice none k c) (.slice (some ⟨bC, oC, none⟩) q cc) (.slice none r c) (.slice none (k - r) (c - r)) (.int .i64 0) (.pointer (some ⟨bC, oC + k * 4, none⟩)) k r (⟨ym, yc, yl, yh⟩ : SeenC) s2)
              refine wp_region_invs (fun ls vs ww => InvG w2.heap.size w2 (putSE w2.heap.size (.slice none k c) (.slice (some ⟨bC, oC, none⟩) q cc) (.slice none r c) (.slice none (k - r) (c - r)) (.int .i64 0) (.pointer (some ⟨bC, oC + k * 4, none⟩)) k r (⟨ym, yc, yl, yh⟩ : SeenC) s2) 10 14 ls vs ww) 15 (by kernel_rfl) (by kernel_rfl) (by kernel_rfl) (by rfl) ⟨(Below.refl _ _).drew, fun i h => by cases h⟩ ?stepAn (by rfl) (by rfl) ?finAn
              case stepAn =>
                refine StepsI.cons ?_ (StepsI.cons ?_ (StepsI.cons ?_ (StepsI.cons ?_ (StepsI.cons ?_ (StepsI.cons ?_ (StepsI.cons ?_ (StepsI.cons ?_ (StepsI.cons ?_ (StepsI.cons ?_ (StepsI.cons ?_ (StepsI.cons ?_ (StepsI.cons ?_ (StepsI.cons ?_ (StepsI.cons ?_ StepsI.nil))))))))))))))
                all_goals
                  refine StepI.of ?_
                  intro ls vs W K hI hl hw hU hK
                  simp only [fillA, Act.put, List.setIfInBounds_toArray, List.set_cons_zero, List.set_cons_succ, Nat.zero_add, Nat.reduceAdd] at hK ⊢
                  simp [waits, Region.binds] at hw
                  have hC := hI.1
                · go_simp
                  exact hK _ _ (hI.step AS.out (bl_alloc (Below.refl _ _) _ (Nat.le_refl _)) hC.size (by decide) (by decide) (.inr ⟨_, hC.size, rfl, Blk.new _ _ _ rfl⟩))
                · have hM : vs 15 = .slice none k c := (hU 15 _ rfl (by simp [waits, Region.binds])).2
                  simp only [hM] at hK ⊢
                  go_simp
                  exact hK _ _ (hI.step AS.out (Below.refl _ _) hC.size (by decide) (by decide) rfl)
                · go_simp
                  exact hK _ _ (hI.step AS.out (Below.refl _ _) hC.size (by decide) (by decide) rfl)
                · have q1 : vs 1 = _ := hI.2 1 (by simp [hw])
                  have q2 : vs 2 = _ := hI.2 2 (by simp [hw])
                  simp only [q1, q2] at hK ⊢
                  go_simp
                  exact hK _ _ (hI.step AS.out (Below.refl _ _) hC.size (by decide) (by decide) rfl)
                · have h10x : ls 10 = false := (hU 10 _ rfl (by simp [waits, Region.binds])).1
                  obtain ⟨gl, hgl, hv0, hBl⟩ := (hI.2 0 (by simp [hw])).resolve_left (by rw [h10x]; decide)
                  have q3 : vs 3 = _ := hI.2 3 (by simp [hw])
                  simp only [hv0, q3] at hK ⊢
                  rw [if_pos (by rfl)]
                  refine wp_append_lit W (.tmp 59) (.tmp 62) _ rfl SeenCR.good (T := fun _ => True) (S := fun _ => False) w2.heap.size 53 iS _ 32 Try.underlying41 hiS hzS0 hzS1 hzS2 rfl (by decide) gl rfl hBl hgl none r c (s2.take r) rfl (HT3.out.keep SeenCR.good (Keeps.below hC)) (fun y vs hr => hr) (by simp only [maxLen]; omega) (by omega) hC.size (fun h => h) (fun h => h) ?_
                  intro A2 c2 w' hO2 hb
                  exact hK _ _ (hI.step AS.out hb hC.size (by decide) (by decide) (.inr ⟨A2, c2, rfl, hO2⟩))
                · go_simp
                  exact hK _ _ (hI.step AS.out (Below.refl _ _) hC.size (by decide) (by decide) rfl)
                · go_simp
                  exact hK _ _ (hI.step AS.out (Below.refl _ _) hC.size (by decide) (by decide) rfl)
                · have q5 : vs 5 = _ := hI.2 5 (by simp [hw])
                  have q6 : vs 6 = _ := hI.2 6 (by simp [hw])
                  simp only [q5, q6] at hK ⊢
                  go_simp
                  exact hK _ _ (hI.step AS.out (Below.refl _ _) hC.size (by decide) (by decide) rfl)
                · have q7 : vs 7 = _ := hI.2 7 (by simp [hw])
                  simp only [q7] at hK ⊢
                  have k0 := getc hC HK0.out
                  have k1 := getc hC HK1.out
                  have k2 := getc hC HK2.out
                  have k3 := getc hC HK3.out
                  go_simp
                  exact hK _ _ (hI.step AS.out (Below.refl _ _) hC.size (by decide) (by decide) rfl)
                · have q8 : vs 8 = _ := hI.2 8 (by simp [hw])
                  simp only [q8] at hK ⊢
                  go_simp
                  exact hK _ _ (hI.step AS.out (bl_alloc (Below.refl _ _) _ (Nat.le_refl _)) hC.size (by decide) (by decide) (.inr ⟨_, rfl, Blk.new _ _ _ rfl⟩))
                · obtain ⟨A3, c3, hv4, hO3⟩ := (hI.2 4 (by simp [hw])).resolve_left (by rw [hl]; decide)
                  rw [hv4] at hO3
                  obtain ⟨g9, hv9, hB9⟩ := (hI.2 9 (by simp [hw])).resolve_left (by rw [hl]; decide)
                  simp only [hv4, hv9] at hK ⊢
                  rw [if_pos (by rfl)]
                  have hlt3 : (s2.take r).length = r := by rw [List.length_take, Hsl.out]; omega
                  obtain ⟨A4, c4, w', hrun, hO4, hg4, _⟩ := run_append_one W 41 41 SeenCR.good w2.heap.size 53 iS _ 32 Try.underlying41 hiS hzS0 hzS1 hzS2 rfl (by omega) (.slice A3 r c3) (s2.take r) (⟨ym, yc, yl, yh⟩ : SeenC) hO3 ⟨g9, 0, none⟩ 1 [.int .i64 ym, .int .i64 yc, .int .i64 yl, .int .i64 yh] rfl (fun j v hv => blk_news4 hB9 hv) (by rw [hlt3]; simp only [maxLen]; omega) (by rw [hlt3]; omega) hC.size (fun h => h)
                  rw [hlt3] at hrun hO4
                  refine wp_append_of_run rfl rfl rfl hrun ?_
                  have hB2 : Below w2.heap.size w2 w' := bl_grown hC hO3 hg4 (Nat.le_refl _) (Nat.le_refl _)
                  refine hK _ _ ⟨hB2, fun i hi => ?_⟩
                  have hbA : updB ls 10 10 = true := by unfold updB; rw [if_pos rfl]
                  have hbB : updB ls 10 14 = ls 14 := by unfold updB; rw [if_neg (by decide)]
                  rw [hbA, hbB]
                  match i, hi with
                  | 1, hi => exact hI.2 1 hi
                  | 2, hi => exact hI.2 2 hi
                  | 3, hi => exact hI.2 3 hi
                  | 5, hi => exact hI.2 5 hi
                  | 6, hi => exact hI.2 6 hi
                  | 7, hi => exact hI.2 7 hi
                  | 8, hi => exact hI.2 8 hi
                  | 11, hi => exact hI.2 11 hi
                  | 12, hi => exact hI.2 12 hi
                  | 13, hi => exact hI.2 13 hi
                  | 0, _ => exact .inl rfl
                  | 4, _ => exact .inl rfl
                  | 9, _ => exact .inl rfl
                  | 10, _ => exact .inr ⟨some ⟨A4, 0, none⟩, c4, rfl, hO4⟩
                  | 14, hi =>
                    have h14 : ls 14 = true := hi
                    have h14f : ls 14 = false := (hU 14 _ rfl (by simp [waits, Region.binds])).1
                    rw [h14] at h14f; cases h14f
                  | _ + 15, _ => trivial
                · have hM : vs 15 = .slice none k c := (hU 15 _ rfl (by simp [waits, Region.binds])).2
                  simp only [hM] at hK ⊢
                  go_simp
                  exact hK _ _ (hI.step AS.out (Below.refl _ _) hC.size (by decide) (by decide) rfl)
                · go_simp
                  exact hK _ _ (hI.step AS.out (Below.refl _ _) hC.size (by decide) (by decide) rfl)
                · have q11 : vs 11 = _ := hI.2 11 (by simp [hw])
                  have q12 : vs 12 = _ := hI.2 12 (by simp [hw])
                  simp only [q11, q12] at hK ⊢
                  go_simp
                  exact hK _ _ (hI.step AS.out (Below.refl _ _) hC.size (by decide) (by decide) rfl)
                · obtain ⟨A5, c5, hv10, hO5⟩ := (hI.2 10 (by simp [hw])).resolve_left (by rw [hl]; decide)
                  rw [hv10] at hO5
                  have q13 : vs 13 = _ := hI.2 13 (by simp [hw])
                  have h10t : ls 10 = true := by simp [hw]
                  simp only [hv10, q13] at hK ⊢
                  rw [if_pos (by rfl)]
                  have hlt5 : (s2.take r ++ [(⟨ym, yc, yl, yh⟩ : SeenC)]).length = r + 1 := by rw [List.length_append, List.length_take, Hsl.out]; simp; omega
                  obtain ⟨A6, c6, w', hrun, hO6, hg6⟩ := run_append_rows W 41 41 SeenCR.good (T := fun _ => True) w2.heap.size 53 iS _ 32 Try.underlying41 hiS hzS0 hzS1 hzS2 rfl (by omega) (.slice A5 (r + 1) c5) _ hO5 none (k - r) (c - r) (s2.drop r) (HT13.out.keep SeenCR.good (Keeps.below hC)) (fun y vs hr => hr) (by rw [hlt5]; simp only [maxLen]; omega) (by rw [hlt5]; omega) hC.size (fun h => h)
                  rw [hlt5, show r + 1 + (k - r) = k + 1 by omega] at hrun hO6
                  refine wp_append_of_run rfl rfl rfl hrun ?_
                  have hB2 : Below w2.heap.size w2 w' := bl_grown hC hO5 hg6 (Nat.le_refl _) (Nat.le_refl _)
                  refine hK _ _ ⟨hB2, fun i hi => ?_⟩
                  have hbB : updB ls 14 14 = true := by unfold updB; rw [if_pos rfl]
                  have hbA : updB ls 14 10 = true := by unfold updB; rw [if_neg (by decide)]; exact h10t
                  rw [hbA, hbB]
                  match i, hi with
                  | 1, hi => exact hI.2 1 hi
                  | 2, hi => exact hI.2 2 hi
                  | 3, hi => exact hI.2 3 hi
                  | 5, hi => exact hI.2 5 hi
                  | 6, hi => exact hI.2 6 hi
                  | 7, hi => exact hI.2 7 hi
                  | 8, hi => exact hI.2 8 hi
                  | 11, hi => exact hI.2 11 hi
                  | 12, hi => exact hI.2 12 hi
                  | 13, hi => exact hI.2 13 hi
                  | 0, _ => exact .inl rfl
                  | 4, _ => exact .inl rfl
                  | 9, _ => exact .inl rfl
                  | 10, _ => exact .inl rfl
                  | 14, _ => exact ⟨A6, c6, rfl, hO6⟩
                  | _ + 15, _ => trivial
              case finAn =>
                intro ls vs W hI hl hU
                clear hU
                have hC := hI.1
                have eN := hI.2 14 (hl 14 (by decide))
                simp only [fillA, Act.put, List.setIfInBounds_toArray, List.set_cons_zero, List.set_cons_succ, Nat.zero_add, Nat.reduceAdd]
                obtain ⟨A7, c7, hN, hO7⟩ := eN
                rw [hN] at hO7 ⊢
                obtain ⟨u0, hu0⟩ : ∃ v0, vs 0 = v0 := ⟨_, rfl⟩
                obtain ⟨u1, hu1⟩ : ∃ v0, vs 1 = v0 := ⟨_, rfl⟩
                obtain ⟨u2, hu2⟩ : ∃ v0, vs 2 = v0 := ⟨_, rfl⟩
                obtain ⟨u3, hu3⟩ : ∃ v0, vs 3 = v0 := ⟨_, rfl⟩
                obtain ⟨u4, hu4⟩ : ∃ v0, vs 4 = v0 := ⟨_, rfl⟩
                obtain ⟨u5, hu5⟩ : ∃ v0, vs 5 = v0 := ⟨_, rfl⟩
                obtain ⟨u6, hu6⟩ : ∃ v0, vs 6 = v0 := ⟨_, rfl⟩
                obtain ⟨u7, hu7⟩ : ∃ v0, vs 7 = v0 := ⟨_, rfl⟩
                obtain ⟨u8, hu8⟩ : ∃ v0, vs 8 = v0 := ⟨_, rfl⟩
                obtain ⟨u9, hu9⟩ : ∃ v0, vs 9 = v0 := ⟨_, rfl⟩
                obtain ⟨u10, hu10⟩ : ∃ v0, vs 10 = v0 := ⟨_, rfl⟩
                obtain ⟨u11, hu11⟩ : ∃ v0, vs 11 = v0 := ⟨_, rfl⟩
                obtain ⟨u12, hu12⟩ : ∃ v0, vs 12 = v0 := ⟨_, rfl⟩
                obtain ⟨u13, hu13⟩ : ∃ v0, vs 13 = v0 := ⟨_, rfl⟩
                rw [hu0, hu1, hu2, hu3, hu4, hu5, hu6, hu7, hu8, hu9, hu10, hu11, hu12, hu13]
                clear hu0 hu1 hu2 hu3 hu4 hu5 hu6 hu7 hu8 hu9 hu10 hu11 hu12 hu13
                clear hN hI hl AS
                have HBX : Hid (Below V5.heap.size V5 W) := bl_call HBk.out hC (Nat.le_refl _)
                have HO7 : Hid (OwnL SeenCR 4 (fun _ => False) W V5.heap.size 53 (.slice A7 (k + 1) c7) (putL zs 0 l (k + 1))) := by rw [Hid, HNX.out]; exact own_low7 hO7 HBk.out.size
                clear hO7 hC
                go_simp
                go_wp2_with fail
                go_roundw
                case rel => exact ⟨k + 1, c7, A7, by go_num, by omega, rfl, HO7.out, HBX.out⟩
                case measure => simp [intOf]; omega
            | some ad =>
              obtain ⟨gb, rfl⟩ : ∃ gb, ad = ⟨gb, 0, none⟩ := by
                obtain ⟨_, cells, ho, _⟩ := HO.out
                rcases ho.2 with ⟨e, _⟩ | ⟨g9, cap, cur, e, _⟩
                · injection e with e; cases e
                · injection e with e; injection e with e; exact ⟨g9, e⟩
              have HSV : Hid (SliceOf SeenCR 4 (fun _ => True) w2 (some ⟨gb, 0, none⟩) k s2) := HO.out.slice SeenCR.good rfl (by simp only [maxLen]; omega) (fun _ _ => trivial) (fun _ _ _ => trivial)
              have HT3 : Hid (SliceOf SeenCR 4 (fun _ => True) w2 (some ⟨gb, 0, none⟩) r (s2.take r)) := HSV.out.take (by omega)
              obtain ⟨A13, hA13⟩ : ∃ A, (if c = r then (some ⟨gb, 0, none⟩ : Option Addr) else some ⟨gb, r * 4, none⟩) = A := ⟨_, rfl⟩
              have HT13 : Hid (SliceOf SeenCR 4 (fun _ => True) w2 A13 (k - r) (s2.drop r)) := by
                rw [Hid, ← hA13]
                split
                · have : k = r := by omega
                  rw [this, Nat.sub_self, List.drop_eq_nil_of_le (by rw [Hsl.out]; omega)]
                  exact ⟨rfl, Nat.zero_le _, fun j x hx => by simp at hx⟩
                · have := HSV.out.drop (k := r) (by omega)
                  rwa [Nat.zero_add] at this
              have AS := Lib.hid (putSE_stab w2.heap.size (.slice (some ⟨gb, 0, none⟩) k c) (.slice (some ⟨bC, oC, none⟩) q cc) (.slice (some ⟨gb, 0, none⟩) r c) (.slice A13 (k - r) (c - r)) (.int .i64 0) (.pointer (some ⟨bC, oC + k * 4, none⟩)) k r (⟨ym, yc, yl, yh⟩ : SeenC) s2)
              refine wp_region_invs (fun ls vs ww => InvG w2.heap.size w2 (putSE w2.heap.size (.slice (some ⟨gb, 0, none⟩) k c) (.slice (some ⟨bC, oC, none⟩) q cc) (.slice (some ⟨gb, 0, none⟩) r c) (.slice A13 (k - r) (c - r)) (.int .i64 0) (.pointer (some ⟨bC, oC + k * 4, none⟩)) k r (⟨ym, yc, yl, yh⟩ : SeenC) s2) 10 14 ls vs ww) 15 (by kernel_rfl) (by kernel_rfl) (by kernel_rfl) (by rfl) ⟨(Below.refl _ _).drew, fun i h => by cases h⟩ ?stepAs (by rfl) (by rfl) ?finAs
              case stepAs =>
                refine StepsI.cons ?_ (StepsI.cons ?_ (StepsI.cons ?_ (StepsI.cons ?_ (StepsI.cons ?_ (StepsI.cons ?_ (StepsI.cons ?_ (StepsI.cons ?_ (StepsI.cons ?_ (StepsI.cons ?_ (StepsI.cons ?_ (StepsI.cons ?_ (StepsI.cons ?_ (StepsI.cons ?_ (StepsI.cons ?_ StepsI.nil))))))))))))))
                all_goals
                  refine StepI.of ?_
                  intro ls vs W K hI hl hw hU hK
                  simp only [fillA, Act.put, List.setIfInBounds_toArray, List.set_cons_zero, List.set_cons_succ, Nat.zero_add, Nat.reduceAdd] at hK ⊢
                  simp [waits, Region.binds] at hw
                  have hC := hI.1
                · go_simp
                  exact hK _ _ (hI.step AS.out (bl_alloc (Below.refl _ _) _ (Nat.le_refl _)) hC.size (by decide) (by decide) (.inr ⟨_, hC.size, rfl, Blk.new _ _ _ rfl⟩))
                · have hM : vs 15 = .slice (some ⟨gb, 0, none⟩) k c := (hU 15 _ rfl (by simp [waits, Region.binds])).2
                  simp only [hM] at hK ⊢
                  go_simp
                  exact hK _ _ (hI.step AS.out (Below.refl _ _) hC.size (by decide) (by decide) rfl)
                · go_simp
                  exact hK _ _ (hI.step AS.out (Below.refl _ _) hC.size (by decide) (by decide) rfl)
                · have q1 : vs 1 = _ := hI.2 1 (by simp [hw])
                  have q2 : vs 2 = _ := hI.2 2 (by simp [hw])
                  simp only [q1, q2] at hK ⊢
                  go_simp
                  exact hK _ _ (hI.step AS.out (Below.refl _ _) hC.size (by decide) (by decide) rfl)
                · have h10x : ls 10 = false := (hU 10 _ rfl (by simp [waits, Region.binds])).1
                  obtain ⟨gl, hgl, hv0, hBl⟩ := (hI.2 0 (by simp [hw])).resolve_left (by rw [h10x]; decide)
                  have q3 : vs 3 = _ := hI.2 3 (by simp [hw])
                  simp only [hv0, q3] at hK ⊢
                  rw [if_pos (by rfl)]
                  refine wp_append_lit W (.tmp 59) (.tmp 62) _ rfl SeenCR.good (T := fun _ => True) (S := fun _ => False) w2.heap.size 53 iS _ 32 Try.underlying41 hiS hzS0 hzS1 hzS2 rfl (by decide) gl rfl hBl hgl (some ⟨gb, 0, none⟩) r c (s2.take r) rfl (HT3.out.keep SeenCR.good (Keeps.below hC)) (fun y vs hr => hr) (by simp only [maxLen]; omega) (by omega) hC.size (fun h => h) (fun h => h) ?_
                  intro A2 c2 w' hO2 hb
                  exact hK _ _ (hI.step AS.out hb hC.size (by decide) (by decide) (.inr ⟨A2, c2, rfl, hO2⟩))
                · go_simp
                  exact hK _ _ (hI.step AS.out (Below.refl _ _) hC.size (by decide) (by decide) rfl)
                · go_simp
                  exact hK _ _ (hI.step AS.out (Below.refl _ _) hC.size (by decide) (by decide) rfl)
                · have q5 : vs 5 = _ := hI.2 5 (by simp [hw])
                  have q6 : vs 6 = _ := hI.2 6 (by simp [hw])
                  simp only [q5, q6] at hK ⊢
                  go_simp
                  exact hK _ _ (hI.step AS.out (Below.refl _ _) hC.size (by decide) (by decide) rfl)
                · have q7 : vs 7 = _ := hI.2 7 (by simp [hw])
                  simp only [q7] at hK ⊢
                  have k0 := getc hC HK0.out
                  have k1 := getc hC HK1.out
                  have k2 := getc hC HK2.out
                  have k3 := getc hC HK3.out
                  go_simp
                  exact hK _ _ (hI.step AS.out (Below.refl _ _) hC.size (by decide) (by decide) rfl)
                · have q8 : vs 8 = _ := hI.2 8 (by simp [hw])
                  simp only [q8] at hK ⊢
                  go_simp
                  exact hK _ _ (hI.step AS.out (bl_alloc (Below.refl _ _) _ (Nat.le_refl _)) hC.size (by decide) (by decide) (.inr ⟨_, rfl, Blk.new _ _ _ rfl⟩))
                · obtain ⟨A3, c3, hv4, hO3⟩ := (hI.2 4 (by simp [hw])).resolve_left (by rw [hl]; decide)
                  rw [hv4] at hO3
                  obtain ⟨g9, hv9, hB9⟩ := (hI.2 9 (by simp [hw])).resolve_left (by rw [hl]; decide)
                  simp only [hv4, hv9] at hK ⊢
                  rw [if_pos (by rfl)]
                  have hlt3 : (s2.take r).length = r := by rw [List.length_take, Hsl.out]; omega
                  obtain ⟨A4, c4, w', hrun, hO4, hg4, _⟩ := run_append_one W 41 41 SeenCR.good w2.heap.size 53 iS _ 32 Try.underlying41 hiS hzS0 hzS1 hzS2 rfl (by omega) (.slice A3 r c3) (s2.take r) (⟨ym, yc, yl, yh⟩ : SeenC) hO3 ⟨g9, 0, none⟩ 1 [.int .i64 ym, .int .i64 yc, .int .i64 yl, .int .i64 yh] rfl (fun j v hv => blk_news4 hB9 hv) (by rw [hlt3]; simp only [maxLen]; omega) (by rw [hlt3]; omega) hC.size (fun h => h)
                  rw [hlt3] at hrun hO4
                  refine wp_append_of_run rfl rfl rfl hrun ?_
                  have hB2 : Below w2.heap.size w2 w' := bl_grown hC hO3 hg4 (Nat.le_refl _) (Nat.le_refl _)
                  refine hK _ _ ⟨hB2, fun i hi => ?_⟩
                  have hbA : updB ls 10 10 = true := by unfold updB; rw [if_pos rfl]
                  have hbB : updB ls 10 14 = ls 14 := by unfold updB; rw [if_neg (by decide)]
                  rw [hbA, hbB]
                  match i, hi with
                  | 1, hi => exact hI.2 1 hi
                  | 2, hi => exact hI.2 2 hi
                  | 3, hi => exact hI.2 3 hi
                  | 5, hi => exact hI.2 5 hi
                  | 6, hi => exact hI.2 6 hi
                  | 7, hi => exact hI.2 7 hi
                  | 8, hi => exact hI.2 8 hi
                  | 11, hi => exact hI.2 11 hi
                  | 12, hi => exact hI.2 12 hi
                  | 13, hi => exact hI.2 13 hi
                  | 0, _ => exact .inl rfl
                  | 4, _ => exact .inl rfl
                  | 9, _ => exact .inl rfl
                  | 10, _ => exact .inr ⟨some ⟨A4, 0, none⟩, c4, rfl, hO4⟩
                  | 14, hi =>
                    have h14 : ls 14 = true := hi
                    have h14f : ls 14 = false := (hU 14 _ rfl (by simp [waits, Region.binds])).1
                    rw [h14] at h14f; cases h14f
                  | _ + 15, _ => trivial
                · have hM : vs 15 = .slice (some ⟨gb, 0, none⟩) k c := (hU 15 _ rfl (by simp [waits, Region.binds])).2
                  simp only [hM] at hK ⊢
                  go_simp
                  exact hK _ _ (hI.step AS.out (Below.refl _ _) hC.size (by decide) (by decide) rfl)
                · go_simp
                  exact hK _ _ (hI.step AS.out (Below.refl _ _) hC.size (by decide) (by decide) rfl)
                · have q11 : vs 11 = _ := hI.2 11 (by simp [hw])
                  have q12 : vs 12 = _ := hI.2 12 (by simp [hw])
                  simp only [q11, q12] at hK ⊢
                  go_simp
                  exact hK _ _ (hI.step AS.out (Below.refl _ _) hC.size (by decide) (by decide) rfl)
                · obtain ⟨A5, c5, hv10, hO5⟩ := (hI.2 10 (by simp [hw])).resolve_left (by rw [hl]; decide)
                  rw [hv10] at hO5
                  have q13 : vs 13 = _ := hI.2 13 (by simp [hw])
                  have h10t : ls 10 = true := by simp [hw]
                  simp only [hv10, q13] at hK ⊢
                  rw [if_pos (by rfl)]
                  have hlt5 : (s2.take r ++ [(⟨ym, yc, yl, yh⟩ : SeenC)]).length = r + 1 := by rw [List.length_append, List.length_take, Hsl.out]; simp; omega
                  obtain ⟨A6, c6, w', hrun, hO6, hg6⟩ := run_append_rows W 41 41 SeenCR.good (T := fun _ => True) w2.heap.size 53 iS _ 32 Try.underlying41 hiS hzS0 hzS1 hzS2 rfl (by omega) (.slice A5 (r + 1) c5) _ hO5 A13 (k - r) (c - r) (s2.drop r) (HT13.out.keep SeenCR.good (Keeps.below hC)) (fun y vs hr => hr) (by rw [hlt5]; simp only [maxLen]; omega) (by rw [hlt5]; omega) hC.size (fun h => h)
                  rw [hlt5, show r + 1 + (k - r) = k + 1 by omega] at hrun hO6
                  refine wp_append_of_run rfl rfl rfl hrun ?_
                  have hB2 : Below w2.heap.size w2 w' := bl_grown hC hO5 hg6 (Nat.le_refl _) (Nat.le_refl _)
                  refine hK _ _ ⟨hB2, fun i hi => ?_⟩
                  have hbB : updB ls 14 14 = true := by unfold updB; rw [if_pos rfl]
                  have hbA : updB ls 14 10 = true := by unfold updB; rw [if_neg (by decide)]; exact h10t
                  rw [hbA, hbB]
                  match i, hi with
                  | 1, hi => exact hI.2 1 hi
                  | 2, hi => exact hI.2 2 hi
                  | 3, hi => exact hI.2 3 hi
                  | 5, hi => exact hI.2 5 hi
                  | 6, hi => exact hI.2 6 hi
                  | 7, hi => exact hI.2 7 hi
                  | 8, hi => exact hI.2 8 hi
                  | 11, hi => exact hI.2 11 hi
                  | 12, hi => exact hI.2 12 hi
                  | 13, hi => exact hI.2 13 hi
                  | 0, _ => exact .inl rfl
                  | 4, _ => exact .inl rfl
                  | 9, _ => exact .inl rfl
                  | 10, _ => exact .inl rfl
                  | 14, _ => exact ⟨A6, c6, rfl, hO6⟩
                  | _ + 15, _ => trivial
              case finAs =>
                intro ls vs W hI hl hU
                clear hU
                have hC := hI.1
                have eN := hI.2 14 (hl 14 (by decide))
                simp only [fillA, Act.put, List.setIfInBounds_toArray, List.set_cons_zero, List.set_cons_succ, Nat.zero_add, Nat.reduceAdd]
                obtain ⟨A7, c7, hN, hO7⟩ := eN
                rw [hN] at hO7 ⊢
                obtain ⟨u0, hu0⟩ : ∃ v0, vs 0 = v0 := ⟨_, rfl⟩
                obtain ⟨u1, hu1⟩ : ∃ v0, vs 1 = v0 := ⟨_, rfl⟩
                obtain ⟨u2, hu2⟩ : ∃ v0, vs 2 = v0 := ⟨_, rfl⟩
                obtain ⟨u3, hu3⟩ : ∃ v0, vs 3 = v0 := ⟨_, rfl⟩
                obtain ⟨u4, hu4⟩ : ∃ v0, vs 4 = v0 := ⟨_, rfl⟩
                obtain ⟨u5, hu5⟩ : ∃ v0, vs 5 = v0 := ⟨_, rfl⟩
                obtain ⟨u6, hu6⟩ : ∃ v0, vs 6 = v0 := ⟨_, rfl⟩
                obtain ⟨u7, hu7⟩ : ∃ v0, vs 7 = v0 := ⟨_, rfl⟩
                obtain ⟨u8, hu8⟩ : ∃ v0, vs 8 = v0 := ⟨_, rfl⟩
                obtain ⟨u9, hu9⟩ : ∃ v0, vs 9 = v0 := ⟨_, rfl⟩
                obtain ⟨u10, hu10⟩ : ∃ v0, vs 10 = v0 := ⟨_, rfl⟩
                obtain ⟨u11, hu11⟩ : ∃ v0, vs 11 = v0 := ⟨_, rfl⟩
                obtain ⟨u12, hu12⟩ : ∃ v0, vs 12 = v0 := ⟨_, rfl⟩
                obtain ⟨u13, hu13⟩ : ∃ v0, vs 13 = v0 := ⟨_, rfl⟩
                rw [hu0, hu1, hu2, hu3, hu4, hu5, hu6, hu7, hu8, hu9, hu10, hu11, hu12, hu13]
                clear hu0 hu1 hu2 hu3 hu4 hu5 hu6 hu7 hu8 hu9 hu10 hu11 hu12 hu13
                clear hN hI hl AS
                have HBX : Hid (Below V5.heap.size V5 W) := bl_call HBk.out hC (Nat.le_refl _)
                have HO7 : Hid (OwnL SeenCR 4 (fun _ => False) W V5.heap.size 53 (.slice A7 (k + 1) c7) (putL zs 0 l (k + 1))) := by rw [Hid, HNX.out]; exact own_low7 hO7 HBk.out.size
                clear hO7 hC
                go_simp
                go_wp2_with fail
                go_roundw
                case rel => exact ⟨k + 1, c7, A7, by go_num, by omega, rfl, HO7.out, HBX.out⟩
                case measure => simp [intOf]; omega
          · obtain rfl : q = k := by omega
            have hki : ¬ (q : Int) < q := by omega
            clear hlt
            have HSX : Hid (∀ V, Below wr.heap.size wr V → SeenCs (fun _ => True) V An q (putL zs 0 l q)) := fun V hb => (HO.out.slice SeenCR.good rfl (by simp only [maxLen]; omega) (fun _ _ => trivial) (fun _ _ _ => trivial)).keep SeenCR.good (Keeps.below hb)
            have HB6 : Hid (Below WW.heap.size WW wr) := bl_call HB5.out HBk.out (Nat.le_refl _)
            have H46 : Hid (Below V4.heap.size V4 wr) := bl_call H45.out HBk.out (Nat.le_refl _)
            have HPM : Hid (l.Perm (putL zs 0 l q)) := by have := putL_all zs 0 l; rwa [HQL.out] at this
            clear HO HBk
            obtain ⟨V6, hV6⟩ : ∃ V : World, V = wr := ⟨_, rfl⟩
            subst hV6
            obtain ⟨l2, hl2⟩ : ∃ x, putL zs 0 l q = x := ⟨_, rfl⟩
            rw [hl2] at HSX HPM
            clear hl2
            obtain ⟨A2s, hA2⟩ : ∃ x, x = An := ⟨_, rfl⟩
            subst hA2
            obtain ⟨c2s, hc2⟩ : ∃ x, x = c := ⟨_, rfl⟩
            subst hc2
            go_wp2_with fail
            go_loopw [11, 12] (fun sv i wr => ∃ (k c : Nat) (An : Option Addr), i = .int .i64 k ∧ k ≤ m ∧ sv = .slice An k c ∧ Hid (OwnL PairR 2 (fun _ => False) wr V6.heap.size 23 (.slice An k c) (putL zs 1 p k)) ∧ Hid (Below V6.heap.size V6 wr)) (fun _ i _ => m - (intOf i).toNat)
            case atStart => exact ⟨0, 0, none, rfl, Nat.zero_le _, rfl, OwnL.nil _ _ _ _ _ _, Below.refl _ _⟩
            case round =>
              rename_i wr
              obtain ⟨k, c, An, rfl, hk, rfl, HO, HBk⟩ := hrel
              by_cases hlt : k < m
              · have hki : (k : Int) < m := by omega
                have HBW := Lib.hid (bl_call HB6.out HBk.out (Nat.le_refl _))
                obtain ⟨tv, htv⟩ : ∃ t, turnL zs (k + 1) = t := ⟨_, rfl⟩
                have HTV := Lib.hid htv
                obtain ⟨r, hr⟩ : ∃ r, tv % (k + 1) = r := ⟨_, rfl⟩
                have hrk : r < k + 1 := by rw [← hr]; exact Nat.mod_lt _ (by omega)
                have hmod : ((tv : Int)).tmod ((k : Int) + 1) = (r : Int) := by rw [Int.tmod_eq_emod_of_nonneg (by omega), ← hr]; rfl
                have HR : Hid (putK zs 1 k = r) := by rw [Hid, putK, htv, hr]
                have hw25 : IntKind.i64.wrap ((k : Int) + 1) = (k : Int) + 1 := by rw [IntKind.wrap_i64]; omega
                have hmz : ¬ ((k : Int) + 1) = 0 := by omega
                have hmz2 : (((k : Int) + 1) == 0) = false := by simp; omega
                clear htv hr
                have hcap := OwnL.cap7 HO.out
                obtain ⟨x0, x1, x2, _, _, y2⟩ := kk.out wr HBW.out
                go_wp2_with fail
                refine (turn7_succ k _ (HZS.out wr HBW.out)).mono ?_
                rintro e w2 ⟨rfl, rfl⟩
                rw [show turnL zs (k + 1) = tv from HTV.out]
                go_wp2_with fail
                clear hmod hw25 hmz hmz2 x0 x1 x2 y2
                obtain ⟨bC, oC, yl, yh, rfl, _, d0, d1, Hy⟩ := Pairs.get (HPS.out w2 HBW.out) hlt
                have HK0 := Lib.hid d0
                have HK1 := Lib.hid d1
                clear d0 d1
                obtain ⟨s2, hs2⟩ : ∃ s2, putL zs 1 p k = s2 := ⟨_, rfl⟩
                rw [hs2] at HO
                have Hsl : Hid (s2.length = k) := by rw [Hid, ← hs2]; exact putL_len zs 1 p (by rw [Hm.out]; omega)
                have HNX : Hid (putL zs 1 p (k + 1) = s2.take r ++ [((yl, yh) : Int × Int)] ++ s2.drop r) := by
                  rw [Hid, putL_snoc Hy.out, hs2, HR.out, List.append_assoc]; rfl
                clear hs2
                have hk5 : k ≤ 5 := by omega
                have hri : (r : Int) ≤ c := by omega
                have hrk2 : (r : Int) ≤ k := by omega
                have hrn : ¬ (r : Int) < 0 := by omega
                have hrc : r ≤ c := by omega
                have hrk3 : r ≤ k := by omega
                have hkc2 : k ≤ c := by omega
                have hkc3 : (k : Int) ≤ c := by omega
                cases An with
                | none =>
                  have hs0 : s2 = [] := by
                    obtain ⟨_, cells, ho, _⟩ := HO.out
                    rcases ho.2 with ⟨_, h0⟩ | ⟨g9, cap, cur, e, _⟩
                    · exact List.eq_nil_of_length_eq_zero h0
                    · injection e with e; cases e
                  have HSV : Hid (SliceOf PairR 2 (fun _ => True) w2 none k s2) := HO.out.slice PairR.good rfl (by simp only [maxLen]; omega) (fun _ _ => trivial) (fun _ _ _ => trivial)
                  have HT3 : Hid (SliceOf PairR 2 (fun _ => True) w2 none r (s2.take r)) := HSV.out.take (by omega)
                  have HT13 : Hid (SliceOf PairR 2 (fun _ => True) w2 none (k - r) (s2.drop r)) := ⟨by rw [List.length_drop, Hsl.out], by simp only [maxLen]; omega, fun j x hx => by rw [hs0] at hx; simp at hx⟩
                  clear hs0
                  have AS := Lib.hid (putPE_stab w2.heap.size (.slice none k c) (.slice (some ⟨bC, oC, none⟩) m od) (.slice none r c) (.slice none (k - r) (c - r)) (.pointer (some ⟨w.heap.size + 1, 2, none⟩)) (.pointer (some ⟨bC, oC + k * 2, none⟩)) k r ((yl, yh) : Int × Int) s2)
                  refine wp_region_invs (fun ls vs ww => InvG w2.heap.size w2 (putPE w2.heap.size (.slice none k c) (.slice (some ⟨bC, oC, none⟩) m od) (.slice none r c) (.slice none (k - r) (c - r)) (.pointer (some ⟨w.heap.size + 1, 2, none⟩)) (.pointer (some ⟨bC, oC + k * 2, none⟩)) k r ((yl, yh) : Int × Int) s2) 11 15 ls vs ww) 16 (by kernel_rfl) (by kernel_rfl) (by kernel_rfl) (by rfl) ⟨(Below.refl _ _).drew, fun i h => by cases h⟩ ?stepBn (by rfl) (by rfl) ?finBn
                  case stepBn =>
                    refine StepsI.cons ?_ (StepsI.cons ?_ (StepsI.cons ?_ (StepsI.cons ?_ (StepsI.cons ?_ (StepsI.cons ?_ (StepsI.cons ?_ (StepsI.cons ?_ (StepsI.cons ?_ (StepsI.cons ?_ (StepsI.cons ?_ (StepsI.cons ?_ (StepsI.cons ?_ (StepsI.cons ?_ (StepsI.cons ?_ (StepsI.cons ?_ StepsI.nil)))))))))))))))
                    all_goals
                      refine StepI.of ?_
                      intro ls vs W K hI hl hw hU hK
                      simp only [fillA, Act.put, List.setIfInBounds_toArray, List.set_cons_zero, List.set_cons_succ, Nat.zero_add, Nat.reduceAdd] at hK ⊢
                      simp [waits, Region.binds] at hw
                      have hC := hI.1
                    · go_simp
                      exact hK _ _ (hI.step AS.out (bl_alloc (Below.refl _ _) _ (Nat.le_refl _)) hC.size (by decide) (by decide) (.inr ⟨_, hC.size, rfl, Blk.new _ _ _ rfl⟩))
                    · have hM : vs 16 = .slice none k c := (hU 16 _ rfl (by simp [waits, Region.binds])).2
                      simp only [hM] at hK ⊢
                      go_simp
                      exact hK _ _ (hI.step AS.out (Below.refl _ _) hC.size (by decide) (by decide) rfl)
                    · go_simp
                      exact hK _ _ (hI.step AS.out (Below.refl _ _) hC.size (by decide) (by decide) rfl)
                    · have q1 : vs 1 = _ := hI.2 1 (by simp [hw])
                      have q2 : vs 2 = _ := hI.2 2 (by simp [hw])
                      simp only [q1, q2] at hK ⊢
                      go_simp
                      exact hK _ _ (hI.step AS.out (Below.refl _ _) hC.size (by decide) (by decide) rfl)
                    · have h11x : ls 11 = false := (hU 11 _ rfl (by simp [waits, Region.binds])).1
                      obtain ⟨gl, hgl, hv0, hBl⟩ := (hI.2 0 (by simp [hw])).resolve_left (by rw [h11x]; decide)
                      have q3 : vs 3 = _ := hI.2 3 (by simp [hw])
                      simp only [hv0, q3] at hK ⊢
                      rw [if_pos (by rfl)]
                      refine wp_append_lit W (.tmp 88) (.tmp 91) _ rfl PairR.good (T := fun _ => True) (S := fun _ => False) w2.heap.size 23 iP _ 16 Try.underlying61 hiP hzP0 hzP1 hzP2 rfl (by decide) gl rfl hBl hgl none r c (s2.take r) rfl (HT3.out.keep PairR.good (Keeps.below hC)) (fun y vs hr => hr) (by simp only [maxLen]; omega) (by omega) hC.size (fun h => h) (fun h => h) ?_
                      intro A2 c2 w' hO2 hb
                      exact hK _ _ (hI.step AS.out hb hC.size (by decide) (by decide) (.inr ⟨A2, c2, rfl, hO2⟩))
                    · go_simp
                      exact hK _ _ (hI.step AS.out (Below.refl _ _) hC.size (by decide) (by decide) rfl)
                    · have q5 : vs 5 = _ := hI.2 5 (by simp [hw])
                      simp only [q5] at hK ⊢
                      obtain ⟨k1, k2, k3, k4, k5, k6⟩ := kk.out W (bl_call HBW.out hC (Nat.le_refl _))
                      go_simp
                      exact hK _ _ (hI.step AS.out (Below.refl _ _) hC.size (by decide) (by decide) rfl)
                    · go_simp
                      exact hK _ _ (hI.step AS.out (Below.refl _ _) hC.size (by decide) (by decide) rfl)
                    · have q6 : vs 6 = _ := hI.2 6 (by simp [hw])
                      have q7 : vs 7 = _ := hI.2 7 (by simp [hw])
                      simp only [q6, q7] at hK ⊢
                      go_simp
                      exact hK _ _ (hI.step AS.out (Below.refl _ _) hC.size (by decide) (by decide) rfl)
                    · have q8 : vs 8 = _ := hI.2 8 (by simp [hw])
                      simp only [q8] at hK ⊢
                      have k0 := getc hC HK0.out
                      have k1 := getc hC HK1.out
                      go_simp
                      exact hK _ _ (hI.step AS.out (Below.refl _ _) hC.size (by decide) (by decide) rfl)
                    · have q9 : vs 9 = _ := hI.2 9 (by simp [hw])
                      simp only [q9] at hK ⊢
                      go_simp
                      exact hK _ _ (hI.step AS.out (bl_alloc (Below.refl _ _) _ (Nat.le_refl _)) hC.size (by decide) (by decide) (.inr ⟨_, rfl, Blk.new _ _ _ rfl⟩))
                    · obtain ⟨A3, c3, hv4, hO3⟩ := (hI.2 4 (by simp [hw])).resolve_left (by rw [hl]; decide)
                      rw [hv4] at hO3
                      obtain ⟨g9, hv9, hB9⟩ := (hI.2 10 (by simp [hw])).resolve_left (by rw [hl]; decide)
                      simp only [hv4, hv9] at hK ⊢
                      rw [if_pos (by rfl)]
                      have hlt3 : (s2.take r).length = r := by rw [List.length_take, Hsl.out]; omega
                      obtain ⟨A4, c4, w', hrun, hO4, hg4, _⟩ := run_append_one W 61 61 PairR.good w2.heap.size 23 iP _ 16 Try.underlying61 hiP hzP0 hzP1 hzP2 rfl (by omega) (.slice A3 r c3) (s2.take r) ((yl, yh) : Int × Int) hO3 ⟨g9, 0, none⟩ 1 [.int .i64 yl, .int .i64 yh] rfl (fun j v hv => blk_news2 hB9 hv) (by rw [hlt3]; simp only [maxLen]; omega) (by rw [hlt3]; omega) hC.size (fun h => h)
                      rw [hlt3] at hrun hO4
                      refine wp_append_of_run rfl rfl rfl hrun ?_
                      have hB2 : Below w2.heap.size w2 w' := bl_grown hC hO3 hg4 (Nat.le_refl _) (Nat.le_refl _)
                      refine hK _ _ ⟨hB2, fun i hi => ?_⟩
                      have hbA : updB ls 11 11 = true := by unfold updB; rw [if_pos rfl]
                      have hbB : updB ls 11 15 = ls 15 := by unfold updB; rw [if_neg (by decide)]
                      rw [hbA, hbB]
                      match i, hi with
                      | 1, hi => exact hI.2 1 hi
                      | 2, hi => exact hI.2 2 hi
                      | 3, hi => exact hI.2 3 hi
                      | 5, hi => exact hI.2 5 hi
                      | 6, hi => exact hI.2 6 hi
                      | 7, hi => exact hI.2 7 hi
                      | 8, hi => exact hI.2 8 hi
                      | 9, hi => exact hI.2 9 hi
                      | 12, hi => exact hI.2 12 hi
                      | 13, hi => exact hI.2 13 hi
                      | 14, hi => exact hI.2 14 hi
                      | 0, _ => exact .inl rfl
                      | 4, _ => exact .inl rfl
                      | 10, _ => exact .inl rfl
                      | 11, _ => exact .inr ⟨some ⟨A4, 0, none⟩, c4, rfl, hO4⟩
                      | 15, hi =>
                        have h14 : ls 15 = true := hi
                        have h14f : ls 15 = false := (hU 15 _ rfl (by simp [waits, Region.binds])).1
                        rw [h14] at h14f; cases h14f
                      | _ + 16, _ => trivial
                    · have hM : vs 16 = .slice none k c := (hU 16 _ rfl (by simp [waits, Region.binds])).2
                      simp only [hM] at hK ⊢
                      go_simp
                      exact hK _ _ (hI.step AS.out (Below.refl _ _) hC.size (by decide) (by decide) rfl)
                    · go_simp
                      exact hK _ _ (hI.step AS.out (Below.refl _ _) hC.size (by decide) (by decide) rfl)
                    · have q12 : vs 12 = _ := hI.2 12 (by simp [hw])
                      have q13 : vs 13 = _ := hI.2 13 (by simp [hw])
                      simp only [q12, q13] at hK ⊢
                      go_simp
                      exact hK _ _ (hI.step AS.out (Below.refl _ _) hC.size (by decide) (by decide) rfl)
                    · obtain ⟨A5, c5, hv10, hO5⟩ := (hI.2 11 (by simp [hw])).resolve_left (by rw [hl]; decide)
                      rw [hv10] at hO5
                      have q13 : vs 14 = _ := hI.2 14 (by simp [hw])
                      have h10t : ls 11 = true := by simp [hw]
                      simp only [hv10, q13] at hK ⊢
                      rw [if_pos (by rfl)]
                      have hlt5 : (s2.take r ++ [((yl, yh) : Int × Int)]).length = r + 1 := by rw [List.length_append, List.length_take, Hsl.out]; simp; omega
                      obtain ⟨A6, c6, w', hrun, hO6, hg6⟩ := run_append_rows W 61 61 PairR.good (T := fun _ => True) w2.heap.size 23 iP _ 16 Try.underlying61 hiP hzP0 hzP1 hzP2 rfl (by omega) (.slice A5 (r + 1) c5) _ hO5 none (k - r) (c - r) (s2.drop r) (HT13.out.keep PairR.good (Keeps.below hC)) (fun y vs hr => hr) (by rw [hlt5]; simp only [maxLen]; omega) (by rw [hlt5]; omega) hC.size (fun h => h)
                      rw [hlt5, show r + 1 + (k - r) = k + 1 by omega] at hrun hO6
                      refine wp_append_of_run rfl rfl rfl hrun ?_
                      have hB2 : Below w2.heap.size w2 w' := bl_grown hC hO5 hg6 (Nat.le_refl _) (Nat.le_refl _)
                      refine hK _ _ ⟨hB2, fun i hi => ?_⟩
                      have hbB : updB ls 15 15 = true := by unfold updB; rw [if_pos rfl]
                      have hbA : updB ls 15 11 = true := by unfold updB; rw [if_neg (by decide)]; exact h10t
                      rw [hbA, hbB]
                      match i, hi with
                      | 1, hi => exact hI.2 1 hi
                      | 2, hi => exact hI.2 2 hi
                      | 3, hi => exact hI.2 3 hi
                      | 5, hi => exact hI.2 5 hi
                      | 6, hi => exact hI.2 6 hi
                      | 7, hi => exact hI.2 7 hi
                      | 8, hi => exact hI.2 8 hi
                      | 9, hi => exact hI.2 9 hi
                      | 12, hi => exact hI.2 12 hi
                      | 13, hi => exact hI.2 13 hi
                      | 14, hi => exact hI.2 14 hi
                      | 0, _ => exact .inl rfl
                      | 4, _ => exact .inl rfl
                      | 10, _ => exact .inl rfl
                      | 11, _ => exact .inl rfl
                      | 15, _ => exact ⟨A6, c6, rfl, hO6⟩
                      | _ + 16, _ => trivial
                  case finBn =>
                    intro ls vs W hI hl hU
                    clear hU
                    have hC := hI.1
                    have eN := hI.2 15 (hl 15 (by decide))
                    simp only [fillA, Act.put, List.setIfInBounds_toArray, List.set_cons_zero, List.set_cons_succ, Nat.zero_add, Nat.reduceAdd]
                    obtain ⟨A7, c7, hN, hO7⟩ := eN
                    rw [hN] at hO7 ⊢
                    obtain ⟨u0, hu0⟩ : ∃ v0, vs 0 = v0 := ⟨_, rfl⟩
                    obtain ⟨u1, hu1⟩ : ∃ v0, vs 1 = v0 := ⟨_, rfl⟩
                    obtain ⟨u2, hu2⟩ : ∃ v0, vs 2 = v0 := ⟨_, rfl⟩
                    obtain ⟨u3, hu3⟩ : ∃ v0, vs 3 = v0 := ⟨_, rfl⟩
                    obtain ⟨u4, hu4⟩ : ∃ v0, vs 4 = v0 := ⟨_, rfl⟩
                    obtain ⟨u5, hu5⟩ : ∃ v0, vs 5 = v0 := ⟨_, rfl⟩
                    obtain ⟨u6, hu6⟩ : ∃ v0, vs 6 = v0 := ⟨_, rfl⟩
                    obtain ⟨u7, hu7⟩ : ∃ v0, vs 7 = v0 := ⟨_, rfl⟩
                    obtain ⟨u8, hu8⟩ : ∃ v0, vs 8 = v0 := ⟨_, rfl⟩
                    obtain ⟨u9, hu9⟩ : ∃ v0, vs 9 = v0 := ⟨_, rfl⟩
                    obtain ⟨u10, hu10⟩ : ∃ v0, vs 10 = v0 := ⟨_, rfl⟩
                    obtain ⟨u11, hu11⟩ : ∃ v0, vs 11 = v0 := ⟨_, rfl⟩
                    obtain ⟨u12, hu12⟩ : ∃ v0, vs 12 = v0 := ⟨_, rfl⟩
                    obtain ⟨u13, hu13⟩ : ∃ v0, vs 13 = v0 := ⟨_, rfl⟩
                    obtain ⟨u14, hu14⟩ : ∃ v0, vs 14 = v0 := ⟨_, rfl⟩
                    rw [hu0, hu1, hu2, hu3, hu4, hu5, hu6, hu7, hu8, hu9, hu10, hu11, hu12, hu13, hu14]
                    clear hu0 hu1 hu2 hu3 hu4 hu5 hu6 hu7 hu8 hu9 hu10 hu11 hu12 hu13 hu14
                    clear hN hI hl AS
                    have HBX : Hid (Below V6.heap.size V6 W) := bl_call HBk.out hC (Nat.le_refl _)
                    have HO7 : Hid (OwnL PairR 2 (fun _ => False) W V6.heap.size 23 (.slice A7 (k + 1) c7) (putL zs 1 p (k + 1))) := by rw [Hid, HNX.out]; exact own_low7 hO7 HBk.out.size
                    clear hO7 hC
                    go_simp
                    go_wp2_with fail
                    go_roundw
                    case rel => exact ⟨k + 1, c7, A7, by go_num, by omega, rfl, HO7.out, HBX.out⟩
                    case measure => simp [intOf]; omega
                | some ad =>
                  obtain ⟨gb, rfl⟩ : ∃ gb, ad = ⟨gb, 0, none⟩ := by
                    obtain ⟨_, cells, ho, _⟩ := HO.out
                    rcases ho.2 with ⟨e, _⟩ | ⟨g9, cap, cur, e, _⟩
                    · injection e with e; cases e
                    · injection e with e; injection e with e; exact ⟨g9, e⟩
                  have HSV : Hid (SliceOf PairR 2 (fun _ => True) w2 (some ⟨gb, 0, none⟩) k s2) := HO.out.slice PairR.good rfl (by simp only [maxLen]; omega) (fun _ _ => trivial) (fun _ _ _ => trivial)
                  have HT3 : Hid (SliceOf PairR 2 (fun _ => True) w2 (some ⟨gb, 0, none⟩) r (s2.take r)) := HSV.out.take (by omega)
                  obtain ⟨A13, hA13⟩ : ∃ A, (if c = r then (some ⟨gb, 0, none⟩ : Option Addr) else some ⟨gb, r * 2, none⟩) = A := ⟨_, rfl⟩
                  have HT13 : Hid (SliceOf PairR 2 (fun _ => True) w2 A13 (k - r) (s2.drop r)) := by
                    rw [Hid, ← hA13]
                    split
                    · have : k = r := by omega
                      rw [this, Nat.sub_self, List.drop_eq_nil_of_le (by rw [Hsl.out]; omega)]
                      exact ⟨rfl, Nat.zero_le _, fun j x hx => by simp at hx⟩
                    · have := HSV.out.drop (k := r) (by omega)
                      rwa [Nat.zero_add] at this
                  have AS := Lib.hid (putPE_stab w2.heap.size (.slice (some ⟨gb, 0, none⟩) k c) (.slice (some ⟨bC, oC, none⟩) m od) (.slice (some ⟨gb, 0, none⟩) r c) (.slice A13 (k - r) (c - r)) (.pointer (some ⟨w.heap.size + 1, 2, none⟩)) (.pointer (some ⟨bC, oC + k * 2, none⟩)) k r ((yl, yh) : Int × Int) s2)
                  refine wp_region_invs (fun ls vs ww => InvG w2.heap.size w2 (putPE w2.heap.size (.slice (some ⟨gb, 0, none⟩) k c) (.slice (some ⟨bC, oC, none⟩) m od) (.slice (some ⟨gb, 0, none⟩) r c) (.slice A13 (k - r) (c - r)) (.pointer (some ⟨w.heap.size + 1, 2, none⟩)) (.pointer (some ⟨bC, oC + k * 2, none⟩)) k r ((yl, yh) : Int × Int) s2) 11 15 ls vs ww) 16 (by kernel_rfl) (by kernel_rfl) (by kernel_rfl) (by rfl) ⟨(Below.refl _ _).drew, fun i h => by cases h⟩ ?stepBs (by rfl) (by rfl) ?finBs
                  case stepBs =>
                    refine StepsI.cons ?_ (StepsI.cons ?_ (StepsI.cons ?_ (StepsI.cons ?_ (StepsI.cons ?_ (StepsI.cons ?_ (StepsI.cons ?_ (StepsI.cons ?_ (StepsI.cons ?_ (StepsI.cons ?_ (StepsI.cons ?_ (StepsI.cons ?_ (StepsI.cons ?_ (StepsI.cons ?_ (StepsI.cons ?_ (StepsI.cons ?_ StepsI.nil)))))))))))))))
                    all_goals
                      refine StepI.of ?_
                      intro ls vs W K hI hl hw hU hK
                      simp only [fillA, Act.put, List.setIfInBounds_toArray, List.set_cons_zero, List.set_cons_succ, Nat.zero_add, Nat.reduceAdd] at hK ⊢
                      simp [waits, Region.binds] at hw
                      have hC := hI.1
                    · go_simp
                      exact hK _ _ (hI.step AS.out (bl_alloc (Below.refl _ _) _ (Nat.le_refl _)) hC.size (by decide) (by decide) (.inr ⟨_, hC.size, rfl, Blk.new _ _ _ rfl⟩))
                    · have hM : vs 16 = .slice (some ⟨gb, 0, none⟩) k c := (hU 16 _ rfl (by simp [waits, Region.binds])).2
                      simp only [hM] at hK ⊢
                      go_simp
                      exact hK _ _ (hI.step AS.out (Below.refl _ _) hC.size (by decide) (by decide) rfl)
                    · go_simp
                      exact hK _ _ (hI.step AS.out (Below.refl _ _) hC.size (by decide) (by decide) rfl)
                    · have q1 : vs 1 = _ := hI.2 1 (by simp [hw])
                      have q2 : vs 2 = _ := hI.2 2 (by simp [hw])
                      simp only [q1, q2] at hK ⊢
                      go_simp
                      exact hK _ _ (hI.step AS.out (Below.refl _ _) hC.size (by decide) (by decide) rfl)
                    · have h11x : ls 11 = false := (hU 11 _ rfl (by simp [waits, Region.binds])).1
                      obtain ⟨gl, hgl, hv0, hBl⟩ := (hI.2 0 (by simp [hw])).resolve_left (by rw [h11x]; decide)
                      have q3 : vs 3 = _ := hI.2 3 (by simp [hw])
                      simp only [hv0, q3] at hK ⊢
                      rw [if_pos (by rfl)]
                      refine wp_append_lit W (.tmp 88) (.tmp 91) _ rfl PairR.good (T := fun _ => True) (S := fun _ => False) w2.heap.size 23 iP _ 16 Try.underlying61 hiP hzP0 hzP1 hzP2 rfl (by decide) gl rfl hBl hgl (some ⟨gb, 0, none⟩) r c (s2.take r) rfl (HT3.out.keep PairR.good (Keeps.below hC)) (fun y vs hr => hr) (by simp only [maxLen]; omega) (by omega) hC.size (fun h => h) (fun h => h) ?_
                      intro A2 c2 w' hO2 hb
                      exact hK _ _ (hI.step AS.out hb hC.size (by decide) (by decide) (.inr ⟨A2, c2, rfl, hO2⟩))
                    · go_simp
                      exact hK _ _ (hI.step AS.out (Below.refl _ _) hC.size (by decide) (by decide) rfl)
                    · have q5 : vs 5 = _ := hI.2 5 (by simp [hw])
                      simp only [q5] at hK ⊢
                      obtain ⟨k1, k2, k3, k4, k5, k6⟩ := kk.out W (bl_call HBW.out hC (Nat.le_refl _))
                      go_simp
                      exact hK _ _ (hI.step AS.out (Below.refl _ _) hC.size (by decide) (by decide) rfl)
                    · go_simp
                      exact hK _ _ (hI.step AS.out (Below.refl _ _) hC.size (by decide) (by decide) rfl)
                    · have q6 : vs 6 = _ := hI.2 6 (by simp [hw])
                      have q7 : vs 7 = _ := hI.2 7 (by simp [hw])
                      simp only [q6, q7] at hK ⊢
                      go_simp
                      exact hK _ _ (hI.step AS.out (Below.refl _ _) hC.size (by decide) (by decide) rfl)
                    · have q8 : vs 8 = _ := hI.2 8 (by simp [hw])
                      simp only [q8] at hK ⊢
                      have k0 := getc hC HK0.out
                      have k1 := getc hC HK1.out
                      go_simp
                      exact hK _ _ (hI.step AS.out (Below.refl _ _) hC.size (by decide) (by decide) rfl)
                    · have q9 : vs 9 = _ := hI.2 9 (by simp [hw])
                      simp only [q9] at hK ⊢
                      go_simp
                      exact hK _ _ (hI.step AS.out (bl_alloc (Below.refl _ _) _ (Nat.le_refl _)) hC.size (by decide) (by decide) (.inr ⟨_, rfl, Blk.new _ _ _ rfl⟩))
                    · obtain ⟨A3, c3, hv4, hO3⟩ := (hI.2 4 (by simp [hw])).resolve_left (by rw [hl]; decide)
                      rw [hv4] at hO3
                      obtain ⟨g9, hv9, hB9⟩ := (hI.2 10 (by simp [hw])).resolve_left (by rw [hl]; decide)
                      simp only [hv4, hv9] at hK ⊢
                      rw [if_pos (by rfl)]
                      have hlt3 : (s2.take r).length = r := by rw [List.length_take, Hsl.out]; omega
                      obtain ⟨A4, c4, w', hrun, hO4, hg4, _⟩ := run_append_one W 61 61 PairR.good w2.heap.size 23 iP _ 16 Try.underlying61 hiP hzP0 hzP1 hzP2 rfl (by omega) (.slice A3 r c3) (s2.take r) ((yl, yh) : Int × Int) hO3 ⟨g9, 0, none⟩ 1 [.int .i64 yl, .int .i64 yh] rfl (fun j v hv => blk_news2 hB9 hv) (by rw [hlt3]; simp only [maxLen]; omega) (by rw [hlt3]; omega) hC.size (fun h => h)
                      rw [hlt3] at hrun hO4
                      refine wp_append_of_run rfl rfl rfl hrun ?_
                      have hB2 : Below w2.heap.size w2 w' := bl_grown hC hO3 hg4 (Nat.le_refl _) (Nat.le_refl _)
                      refine hK _ _ ⟨hB2, fun i hi => ?_⟩
                      have hbA : updB ls 11 11 = true := by unfold updB; rw [if_pos rfl]
                      have hbB : updB ls 11 15 = ls 15 := by unfold updB; rw [if_neg (by decide)]
                      rw [hbA, hbB]
                      match i, hi with
                      | 1, hi => exact hI.2 1 hi
                      | 2, hi => exact hI.2 2 hi
                      | 3, hi => exact hI.2 3 hi
                      | 5, hi => exact hI.2 5 hi
                      | 6, hi => exact hI.2 6 hi
                      | 7, hi => exact hI.2 7 hi
                      | 8, hi => exact hI.2 8 hi
                      | 9, hi => exact hI.2 9 hi
                      | 12, hi => exact hI.2 12 hi
                      | 13, hi => exact hI.2 13 hi
                      | 14, hi => exact hI.2 14 hi
                      | 0, _ => exact .inl rfl
                      | 4, _ => exact .inl rfl
                      | 10, _ => exact .inl rfl
                      | 11, _ => exact .inr ⟨some ⟨A4, 0, none⟩, c4, rfl, hO4⟩
                      | 15, hi =>
                        have h14 : ls 15 = true := hi
                        have h14f : ls 15 = false := (hU 15 _ rfl (by simp [waits, Region.binds])).1
                        rw [h14] at h14f; cases h14f
                      | _ + 16, _ => trivial
                    · have hM : vs 16 = .slice (some ⟨gb, 0, none⟩) k c := (hU 16 _ rfl (by simp [waits, Region.binds])).2
                      simp only [hM] at hK ⊢
                      go_simp
                      exact hK _ _ (hI.step AS.out (Below.refl _ _) hC.size (by decide) (by decide) rfl)
                    · go_simp
                      exact hK _ _ (hI.step AS.out (Below.refl _ _) hC.size (by decide) (by decide) rfl)
                    · have q12 : vs 12 = _ := hI.2 12 (by simp [hw])
                      have q13 : vs 13 = _ := hI.2 13 (by simp [hw])
                      simp only [q12, q13] at hK ⊢
                      go_simp
                      exact hK _ _ (hI.step AS.out (Below.refl _ _) hC.size (by decide) (by decide) rfl)
                    · obtain ⟨A5, c5, hv10, hO5⟩ := (hI.2 11 (by simp [hw])).resolve_left (by rw [hl]; decide)
                      rw [hv10] at hO5
                      have q13 : vs 14 = _ := hI.2 14 (by simp [hw])
                      have h10t : ls 11 = true := by simp [hw]
                      simp only [hv10, q13] at hK ⊢
                      rw [if_pos (by rfl)]
                      have hlt5 : (s2.take r ++ [((yl, yh) : Int × Int)]).length = r + 1 := by rw [List.length_append, List.length_take, Hsl.out]; simp; omega
                      obtain ⟨A6, c6, w', hrun, hO6, hg6⟩ := run_append_rows W 61 61 PairR.good (T := fun _ => True) w2.heap.size 23 iP _ 16 Try.underlying61 hiP hzP0 hzP1 hzP2 rfl (by omega) (.slice A5 (r + 1) c5) _ hO5 A13 (k - r) (c - r) (s2.drop r) (HT13.out.keep PairR.good (Keeps.below hC)) (fun y vs hr => hr) (by rw [hlt5]; simp only [maxLen]; omega) (by rw [hlt5]; omega) hC.size (fun h => h)
                      rw [hlt5, show r + 1 + (k - r) = k + 1 by omega] at hrun hO6
                      refine wp_append_of_run rfl rfl rfl hrun ?_
                      have hB2 : Below w2.heap.size w2 w' := bl_grown hC hO5 hg6 (Nat.le_refl _) (Nat.le_refl _)
                      refine hK _ _ ⟨hB2, fun i hi => ?_⟩
                      have hbB : updB ls 15 15 = true := by unfold updB; rw [if_pos rfl]
                      have hbA : updB ls 15 11 = true := by unfold updB; rw [if_neg (by decide)]; exact h10t
                      rw [hbA, hbB]
                      match i, hi with
                      | 1, hi => exact hI.2 1 hi
                      | 2, hi => exact hI.2 2 hi
                      | 3, hi => exact hI.2 3 hi
                      | 5, hi => exact hI.2 5 hi
                      | 6, hi => exact hI.2 6 hi
                      | 7, hi => exact hI.2 7 hi
                      | 8, hi => exact hI.2 8 hi
                      | 9, hi => exact hI.2 9 hi
                      | 12, hi => exact hI.2 12 hi
                      | 13, hi => exact hI.2 13 hi
                      | 14, hi => exact hI.2 14 hi
                      | 0, _ => exact .inl rfl
                      | 4, _ => exact .inl rfl
                      | 10, _ => exact .inl rfl
                      | 11, _ => exact .inl rfl
                      | 15, _ => exact ⟨A6, c6, rfl, hO6⟩
                      | _ + 16, _ => trivial
                  case finBs =>
                    intro ls vs W hI hl hU
                    clear hU
                    have hC := hI.1
                    have eN := hI.2 15 (hl 15 (by decide))
                    simp only [fillA, Act.put, List.setIfInBounds_toArray, List.set_cons_zero, List.set_cons_succ, Nat.zero_add, Nat.reduceAdd]
                    obtain ⟨A7, c7, hN, hO7⟩ := eN
                    rw [hN] at hO7 ⊢
                    obtain ⟨u0, hu0⟩ : ∃ v0, vs 0 = v0 := ⟨_, rfl⟩
                    obtain ⟨u1, hu1⟩ : ∃ v0, vs 1 = v0 := ⟨_, rfl⟩
                    obtain ⟨u2, hu2⟩ : ∃ v0, vs 2 = v0 := ⟨_, rfl⟩
                    obtain ⟨u3, hu3⟩ : ∃ v0, vs 3 = v0 := ⟨_, rfl⟩
                    obtain ⟨u4, hu4⟩ : ∃ v0, vs 4 = v0 := ⟨_, rfl⟩
                    obtain ⟨u5, hu5⟩ : ∃ v0, vs 5 = v0 := ⟨_, rfl⟩
                    obtain ⟨u6, hu6⟩ : ∃ v0, vs 6 = v0 := ⟨_, rfl⟩
                    obtain ⟨u7, hu7⟩ : ∃ v0, vs 7 = v0 := ⟨_, rfl⟩
                    obtain ⟨u8, hu8⟩ : ∃ v0, vs 8 = v0 := ⟨_, rfl⟩
                    obtain ⟨u9, hu9⟩ : ∃ v0, vs 9 = v0 := ⟨_, rfl⟩
                    obtain ⟨u10, hu10⟩ : ∃ v0, vs 10 = v0 := ⟨_, rfl⟩
                    obtain ⟨u11, hu11⟩ : ∃ v0, vs 11 = v0 := ⟨_, rfl⟩
                    obtain ⟨u12, hu12⟩ : ∃ v0, vs 12 = v0 := ⟨_, rfl⟩
                    obtain ⟨u13, hu13⟩ : ∃ v0, vs 13 = v0 := ⟨_, rfl⟩
                    obtain ⟨u14, hu14⟩ : ∃ v0, vs 14 = v0 := ⟨_, rfl⟩
                    rw [hu0, hu1, hu2, hu3, hu4, hu5, hu6, hu7, hu8, hu9, hu10, hu11, hu12, hu13, hu14]
                    clear hu0 hu1 hu2 hu3 hu4 hu5 hu6 hu7 hu8 hu9 hu10 hu11 hu12 hu13 hu14
                    clear hN hI hl AS
                    have HBX : Hid (Below V6.heap.size V6 W) := bl_call HBk.out hC (Nat.le_refl _)
                    have HO7 : Hid (OwnL PairR 2 (fun _ => False) W V6.heap.size 23 (.slice A7 (k + 1) c7) (putL zs 1 p (k + 1))) := by rw [Hid, HNX.out]; exact own_low7 hO7 HBk.out.size
                    clear hO7 hC
                    go_simp
                    go_wp2_with fail
                    go_roundw
                    case rel => exact ⟨k + 1, c7, A7, by go_num, by omega, rfl, HO7.out, HBX.out⟩
                    case measure => simp [intOf]; omega
              · obtain rfl : k = m := by omega
                have hki : ¬ (k : Int) < k := by omega
                clear hlt
                have hcap := OwnL.cap7 HO.out
                have HPX : Hid (∀ V, Below wr.heap.size wr V → Pairs (fun _ => True) V An k (putL zs 1 p k)) := fun V hb => (HO.out.slice PairR.good rfl (by simp only [maxLen]; omega) (fun _ _ => trivial) (fun _ _ _ => trivial)).keep PairR.good (Keeps.below hb)
                have HB7 : Hid (Below WW.heap.size WW wr) := bl_call HB6.out HBk.out (Nat.le_refl _)
                have H47 : Hid (Below V4.heap.size V4 wr) := bl_call H46.out HBk.out (Nat.le_refl _)
                have H67 : Hid (Below V6.heap.size V6 wr) := HBk
                have HPN : Hid (p.Perm (putL zs 1 p k)) := by have := putL_all zs 1 p; rwa [Hm.out] at this
                have hAn : ∃ gb, An = some ⟨gb, 0, none⟩ := by
                  obtain ⟨_, cells, ho, _⟩ := HO.out
                  rcases ho.2 with ⟨_, h0⟩ | ⟨g9, cap, cur, e, _⟩
                  · rw [putL_len zs 1 p (by rw [Hm.out]; exact Nat.le_refl _)] at h0; omega
                  · injection e with e; exact ⟨g9, e⟩
                obtain ⟨gO, rfl⟩ := hAn
                clear HO HBk
                obtain ⟨V7, hV7⟩ : ∃ V : World, V = wr := ⟨_, rfl⟩
                subst hV7
                obtain ⟨p2, hp2⟩ : ∃ x, putL zs 1 p k = x := ⟨_, rfl⟩
                rw [hp2] at HPX HPN
                clear hp2
                have HOE2 := Lib.hid (order_order HPN.out HOE.out)
                have HE1 := Lib.hid (plan_perm HPM.out HOE.out)
                have HE2 := Lib.hid (plan_order HPN.out HOE.out HOE2.out)
                obtain ⟨uA, hA⟩ : ∃ x, (planR s l p).1 = x := ⟨_, rfl⟩
                obtain ⟨uM, hM⟩ : ∃ x, (planR s l p).2.1 = x := ⟨_, rfl⟩
                obtain ⟨uE, hE⟩ : ∃ x, (planR s l p).2.2 = x := ⟨_, rfl⟩
                have HPA : Hid (planR s l p = (uA, uM, uE)) := by rw [Hid, ← hA, ← hM, ← hE]
                have HPB : Hid (planR s l2 p = (uA, uM, uE)) := by rw [Hid, ← HE1.out]; exact HPA.out
                have HPC : Hid ((planR s l p2).2 = (uM, uE)) := by rw [Hid, ← HE2.out, HPA.out]
                clear hA hM hE
                have HA1 : Hid ((planR s l p).1 = uA) := by rw [Hid, HPA.out]
                have HA2 : Hid ((planR s l p).2.1 = uM) := by rw [Hid, HPA.out]
                have HA3 : Hid ((planR s l p).2.2 = uE) := by rw [Hid, HPA.out]
                have HB1 : Hid ((planR s l2 p).1 = uA) := by rw [Hid, HPB.out]
                have HB2 : Hid ((planR s l2 p).2.1 = uM) := by rw [Hid, HPB.out]
                have HB3 : Hid ((planR s l2 p).2.2 = uE) := by rw [Hid, HPB.out]
                have HC2 : Hid ((planR s l p2).2.1 = uM) := by rw [Hid, HPC.out]
                have HC3 : Hid ((planR s l p2).2.2 = uE) := by rw [Hid, HPC.out]
                obtain ⟨x0, x1, x2, _, _, y2⟩ := kk.out V7 HB7.out
                go_wp2_with fail
                clear x0 x1 x2 y2
                refine (kplan_any (cc := cc) V7 (HG.out V7 HB7.out) (HS.out V7 H47.out) (HPS.out V7 HB7.out) hca h1 h2).mono ?_
                rintro e V8 ⟨⟨D1, k1, D2, k2, rfl, hD1, hD2⟩, c8⟩
                rw [HA1.out] at hD1
                rw [HA2.out] at hD2
                rw [HA1.out, HA2.out, HA3.out]
                have HB8 : Hid (Below WW.heap.size WW V8) := bl_call HB7.out c8 (Nat.le_refl _)
                have H78 : Hid (Below V7.heap.size V7 V8) := c8
                have HD1 := Lib.hid hD1
                have HD2 := Lib.hid hD2
                clear c8 hD1 hD2
                obtain ⟨na, hna⟩ : ∃ x, uA.length = x := ⟨_, rfl⟩
                obtain ⟨nu, hnu⟩ : ∃ x, uM.length = x := ⟨_, rfl⟩
                rw [hna] at HD1
                rw [hnu] at HD2
                rw [hna, hnu]
                have HNA := Lib.hid hna
                have HNU := Lib.hid hnu
                clear hna hnu
                obtain ⟨x0, x1, x2, _, _, y2⟩ := kk.out V8 HB8.out
                go_wp2_with fail
                clear x0 x1 x2 y2
                refine (kplan_any (cc := c2s) V8 (HG.out V8 HB8.out) (HSX.out V8 (bl_call H67.out H78.out (Nat.le_refl _))) (HPS.out V8 HB8.out) hca h1 h2).mono ?_
                rintro e V9 ⟨⟨D3, k3, D4, k4, rfl, hD3, hD4⟩, c9⟩
                rw [HB1.out] at hD3
                rw [HB2.out] at hD4
                rw [HB1.out, HB2.out, HB3.out]
                rw [HNA.out] at hD3
                rw [HNU.out] at hD4
                rw [HNA.out, HNU.out]
                have HB9 : Hid (Below WW.heap.size WW V9) := bl_call HB8.out c9 (Nat.le_refl _)
                have H79 : Hid (Below V7.heap.size V7 V9) := bl_call H78.out c9 (Nat.le_refl _)
                have H89 : Hid (Below V8.heap.size V8 V9) := c9
                have HD3 := Lib.hid hD3
                have HD4 := Lib.hid hD4
                clear c9 hD3 hD4
                obtain ⟨x0, x1, x2, _, _, y2⟩ := kk.out V9 HB9.out
                go_wp2_with fail
                clear x0 x1 x2 y2
                refine (kplan_any (cc := cc) V9 (HG.out V9 HB9.out) (HS.out V9 (bl_call H47.out H79.out (Nat.le_refl _))) (HPX.out V9 H79.out) hca h1 h2).mono ?_
                rintro e V10 ⟨⟨D5, k5, D6, k6, rfl, hD5, hD6⟩, c10⟩
                rw [HC2.out] at hD6
                rw [HC2.out, HC3.out]
                rw [HNU.out] at hD6
                rw [HNU.out]
                clear hD5
                obtain ⟨nb, hnb⟩ : ∃ x, (planR s l p2).1.length = x := ⟨_, rfl⟩
                rw [hnb]
                clear hnb
                have HB10 : Hid (Below WW.heap.size WW V10) := bl_call HB9.out c10 (Nat.le_refl _)
                have H710 : Hid (Below V7.heap.size V7 V10) := bl_call H79.out c10 (Nat.le_refl _)
                have H810 : Hid (Below V8.heap.size V8 V10) := bl_call H89.out c10 (Nat.le_refl _)
                have H910 : Hid (Below V9.heap.size V9 V10) := c10
                have HD6 := Lib.hid hD6
                clear c10 hD6
                go_wp2_with fail
                refine (same7_any V10 (HD1.out.keep PlR.good (Keeps.below H810.out)) (HD3.out.keep PlR.good (Keeps.below H910.out))).mono ?_
                rintro e V11 ⟨rfl, q11, hV11⟩
                rw [decide_eq_true (rfl : uA = uA)]
                have H1011 : Below V10.heap.size V10 V11 := by rw [hV11]; exact bl_drewN (Below.refl _ _) _
                clear hV11
                go_wp2_with fail
                refine (ints_any V11 (HD2.out.keep IntR.good (Keeps.below (bl_call H810.out H1011 (Nat.le_refl _)))) (HD4.out.keep IntR.good (Keeps.below (bl_call H910.out H1011 (Nat.le_refl _))))).mono ?_
                rintro e V12 ⟨rfl, q12, hV12⟩
                rw [decide_eq_true (rfl : uM = uM)]
                have H1012 : Below V10.heap.size V10 V12 := by rw [hV12]; exact bl_drewN H1011 _
                clear hV12
                have huu : (uE != uE) = false := by simp
                go_wp2_with fail
                refine (ints_any V12 (HD2.out.keep IntR.good (Keeps.below (bl_call H810.out H1012 (Nat.le_refl _)))) (HD6.out.keep IntR.good (Keeps.below H1012))).mono ?_
                rintro e V13 ⟨rfl, q13, hV13⟩
                rw [decide_eq_true (rfl : uM = uM)]
                have H1013 : Below V10.heap.size V10 V13 := by rw [hV13]; exact bl_drewN H1012 _
                clear hV13
                have HB13 : Hid (Below WW.heap.size WW V13) := bl_call HB10.out H1013 (Nat.le_refl _)
                have H713 : Hid (Below V7.heap.size V7 V13) := bl_call H710.out H1013 (Nat.le_refl _)
                clear H1011 H1012 H1013
                by_cases hk2 : k < 2
                · have hk2i : (k : Int) < 2 := by omega
                  go_wp2_with fail
                  refine (awake7_any V13).mono ?_
                  rintro e V99 ⟨rfl, c99⟩
                  have b99 := bl_call hBW (bl_call HB13.out c99 (Nat.le_refl _)) (Nat.le_refl _)
                  clear c99
                  go_wp2
                  go_ret
                  exact ⟨by rfl, b99⟩
                · have hk2i : ¬ (k : Int) < 2 := by omega
                  have hk2d : decide ((k : Int) < 2) = false := decide_eq_false hk2i
                  obtain ⟨x, p3, hx3⟩ : ∃ x p3, p2 = x :: p3 := by
                    have hl3 := (HPX.out V7 (Below.refl _ _)).len
                    match p2, hl3 with
                    | [], h => exact absurd h (by simp; omega)
                    | x :: p3, _ => exact ⟨x, p3, rfl⟩
                  have hl3 := (HPX.out V7 (Below.refl _ _)).len
                  rw [hx3] at hl3
                  rw [List.length_cons] at hl3
                  have hf := plan_fewer (s := s) (l := l) (x := x) (p := p3) (by rw [← hx3]; exact HOE2.out) (by omega)
                  rw [← hx3, HPC.out] at hf
                  dsimp only at hf
                  obtain ⟨g1n, hg1n⟩ : ∃ y, (planR s l p3).1.length = y := ⟨_, rfl⟩
                  obtain ⟨g2n, hg2n⟩ : ∃ y, (planR s l p3).2.1.length = y := ⟨_, rfl⟩
                  obtain ⟨gE, hgE⟩ : ∃ y, (planR s l p3).2.2 = y := ⟨_, rfl⟩
                  rw [HNU.out, hg2n, hgE] at hf
                  have HFW := Lib.hid hf
                  clear hf
                  obtain ⟨k1, hk1⟩ : ∃ k1 : Nat, k - 1 = k1 := ⟨_, rfl⟩
                  obtain ⟨c1, hc1⟩ : ∃ c1 : Nat, c - 1 = c1 := ⟨_, rfl⟩
                  have HPX3 : Hid (∀ V, Below V7.heap.size V7 V → Pairs (fun _ => True) V (some ⟨gO, 2, none⟩) k1 p3) := fun V hb => by
                    have := SliceOf.drop (HPX.out V hb) (k := 1) (by omega)
                    rw [hx3, hk1] at this
                    simpa using this
                  have HPL2 : Hid (∀ V, Below V13.heap.size V13 V → Calls Try.prog 21 #[.agg #[.int .i64 klo, .int .i64 khi, .slice A n ca], .slice C q cc, .slice (some ⟨gO, 2, none⟩) k1 c1] V fun e w' => (∃ v, e = .returned v ∧ Tup3 g1n g2n gE v w') ∧ Below V.heap.size V w') := fun V hb =>
                    (kplan_any (cc := cc) (pc := c1) V (HG.out V (bl_call HB13.out hb (Nat.le_refl _))) (HS.out V (bl_call H47.out (bl_call H713.out hb (Nat.le_refl _)) (Nat.le_refl _))) (HPX3.out V (bl_call H713.out hb (Nat.le_refl _))) hca h1 h2).mono fun e w' h => ⟨h.1.tup hg1n hg2n hgE, h.2⟩
                  clear hg1n hg2n hgE hl3 hx3
                  have hk1c : (1 : Int) ≤ c := by omega
                  have hk1k : (1 : Int) ≤ k := by omega
                  have hk1n : 1 ≤ k := by omega
                  have hc1n : 1 ≤ c := by omega
                  have hc1q : ¬ c = 1 := by omega
                  have hkcn : k ≤ c := by omega
                  have hkci : (k : Int) ≤ c := by omega
                  go_wp2_with fail
                  refine wp_frameT ?_
                  intro a0 ha0
                  have tb3 : a0.tmps[3]? = some (.pointer (some ⟨w.heap.size, 0, none⟩)) := by rw [ha0]; kernel_rfl
                  have tb7 : a0.tmps[7]? = some (.slice C q cc) := by rw [ha0]; kernel_rfl
                  have tb11 : a0.tmps[11]? = some (.slice (some ⟨gO, 0, none⟩) k c) := by rw [ha0]; kernel_rfl
                  have hsz : a0.tmps.size = 185 := by rw [ha0]; kernel_rfl
                  refine wp_region_list (fun W => Below V13.heap.size V13 W) (fun w w' => Below w.heap.size w w')
                    [isV (.agg #[.int .i64 klo, .int .i64 khi, .slice A n ca]), isV (.slice C q cc), isV (.slice (some ⟨gO, 0, none⟩) k c), isV (.slice (some ⟨gO, 2, none⟩) k1 c1), Tup3 g1n g2n gE, Tup3 g1n g2n gE, IsSl7 g1n, IsSl7 g2n, isV (.int .i64 gE), IsSl7 g1n, IsSl7 g2n, isV (.int .i64 gE)]
                    (by kernel_rfl) (by kernel_rfl) (by kernel_rfl) (by simp) (by simp) (Below.refl _ _).drew ?stabT ?stepT ?finT
                  case stabT => exact (StabL.is (StabL.is (StabL.is (StabL.is (StabL.cons (fun v w V hC hX h => h) (StabL.cons (fun v w V hC hX h => h) (StabL.cons (fun v w V hC hX h => h) (StabL.cons (fun v w V hC hX h => h) (StabL.is (StabL.cons (fun v w V hC hX h => h) (StabL.cons (fun v w V hC hX h => h) (StabL.is StabL.nil))))))))))))
                  case stepT =>
                    refine StepsL.isA ?_ (StepsL.isA ?_ (StepsL.isA ?_ (StepsL.isA ?_ (StepsL.consA ?_ (StepsL.consA ?_ (StepsL.consA ?_ (StepsL.consA ?_ (StepsL.isA ?_ (StepsL.consA ?_ (StepsL.consA ?_ (StepsL.isA ?_ StepsL.nil)))))))))))
                    · -- 0
                      intro vs a W K ha hC hD hU hK
                      have r3 : a.tmps[3]? = some (.pointer (some ⟨w.heap.size, 0, none⟩)) := by rw [ha, fillA_base0 (by kernel_rfl)]; exact tb3
                      clear ha hU hD ha0
                      rw [if_pos (by rfl)]
                      obtain ⟨kk1, kk2, kk3, kk4, kk5, kk6⟩ := kk.out W (bl_call HB13.out hC (Nat.le_refl _))
                      go_simp
                      exact hK _ hC (Below.refl _ _)
                    · -- 1
                      intro vs a W K ha hC hD hU hK
                      have r7 : a.tmps[7]? = some (.slice C q cc) := by rw [ha, fillA_base0 (by kernel_rfl)]; exact tb7
                      clear ha hU hD ha0
                      rw [if_pos (by rfl)]
                      go_simp
                      exact hK _ hC (Below.refl _ _)
                    · -- 2
                      intro vs a W K ha hC hD hU hK
                      have r11 : a.tmps[11]? = some (.slice (some ⟨gO, 0, none⟩) k c) := by rw [ha, fillA_base0 (by kernel_rfl)]; exact tb11
                      clear ha hU hD ha0
                      rw [if_pos (by rfl)]
                      go_simp
                      exact hK _ hC (Below.refl _ _)
                    · -- 3
                      intro vs a W K ha hC hD hU hK
                      have r163 : a.tmps[163]? = some (vs 2) := by rw [ha]; exact fillA_get0 (j := 2) (by kernel_rfl) (by rw [hsz]; decide)
                      have q2 : vs 2 = .slice (some ⟨gO, 0, none⟩) k c := hD 2 (by simp [waits, Region.binds])
                      rw [q2] at r163
                      clear ha hU hD ha0
                      rw [if_pos (by rfl)]
                      go_simp
                      exact hK _ hC (Below.refl _ _)
                    · -- 4
                      intro vs a W K ha hC hD hU hK
                      have r161 : a.tmps[161]? = some (vs 0) := by rw [ha]; exact fillA_get0 (j := 0) (by kernel_rfl) (by rw [hsz]; decide)
                      have q0 : vs 0 = .agg #[.int .i64 klo, .int .i64 khi, .slice A n ca] := hD 0 (by simp [waits, Region.binds])
                      rw [q0] at r161
                      have r162 : a.tmps[162]? = some (vs 1) := by rw [ha]; exact fillA_get0 (j := 1) (by kernel_rfl) (by rw [hsz]; decide)
                      have q1 : vs 1 = .slice C q cc := hD 1 (by simp [waits, Region.binds])
                      rw [q1] at r162
                      have r164 : a.tmps[164]? = some (vs 3) := by rw [ha]; exact fillA_get0 (j := 3) (by kernel_rfl) (by rw [hsz]; decide)
                      have q3 : vs 3 = .slice (some ⟨gO, 2, none⟩) k1 c1 := hD 3 (by simp [waits, Region.binds])
                      rw [q3] at r164
                      clear ha hU hD ha0
                      rw [if_pos (by rfl)]
                      go_simp
                      refine (HPL2.out W hC).mono ?_
                      rintro e w' ⟨⟨v, rfl, hv⟩, hb⟩
                      exact hK _ _ (bl_call hC hb (Nat.le_refl _)) hb hv
                    · -- 5
                      intro vs a W K ha hC hD hU hK
                      have r165 : a.tmps[165]? = some (vs 4) := by rw [ha]; exact fillA_get0 (j := 4) (by kernel_rfl) (by rw [hsz]; decide)
                      have P4 : Tup3 g1n g2n gE (vs 4) W := hD 4 (by simp [waits, Region.binds])
                      obtain ⟨A165, c165, B165, d165, e165⟩ := P4
                      rw [e165] at r165
                      clear ha hU hD ha0
                      rw [if_pos (by rfl)]
                      go_simp
                      exact hK _ _ hC (Below.refl _ _) ⟨_, _, _, _, rfl⟩
                    · -- 6
                      intro vs a W K ha hC hD hU hK
                      have r160 : a.tmps[160]? = some (vs 5) := by rw [ha]; exact fillA_get0 (j := 5) (by kernel_rfl) (by rw [hsz]; decide)
                      have P5 : Tup3 g1n g2n gE (vs 5) W := hD 5 (by simp [waits, Region.binds])
                      obtain ⟨A160, c160, B160, d160, e160⟩ := P5
                      rw [e160] at r160
                      clear ha hU hD ha0
                      rw [if_pos (by rfl)]
                      go_simp
                      exact hK _ _ hC (Below.refl _ _) ⟨_, _, rfl⟩
                    · -- 7
                      intro vs a W K ha hC hD hU hK
                      have r160 : a.tmps[160]? = some (vs 5) := by rw [ha]; exact fillA_get0 (j := 5) (by kernel_rfl) (by rw [hsz]; decide)
                      have P5 : Tup3 g1n g2n gE (vs 5) W := hD 5 (by simp [waits, Region.binds])
                      obtain ⟨A160, c160, B160, d160, e160⟩ := P5
                      rw [e160] at r160
                      clear ha hU hD ha0
                      rw [if_pos (by rfl)]
                      go_simp
                      exact hK _ _ hC (Below.refl _ _) ⟨_, _, rfl⟩
                    · -- 8
                      intro vs a W K ha hC hD hU hK
                      have r160 : a.tmps[160]? = some (vs 5) := by rw [ha]; exact fillA_get0 (j := 5) (by kernel_rfl) (by rw [hsz]; decide)
                      have P5 : Tup3 g1n g2n gE (vs 5) W := hD 5 (by simp [waits, Region.binds])
                      obtain ⟨A160, c160, B160, d160, e160⟩ := P5
                      rw [e160] at r160
                      clear ha hU hD ha0
                      rw [if_pos (by rfl)]
                      go_simp
                      exact hK _ hC (Below.refl _ _)
                    · -- 9
                      intro vs a W K ha hC hD hU hK
                      have r166 : a.tmps[166]? = some (vs 6) := by rw [ha]; exact fillA_get0 (j := 6) (by kernel_rfl) (by rw [hsz]; decide)
                      have P6 : IsSl7 g1n (vs 6) W := hD 6 (by simp [waits, Region.binds])
                      obtain ⟨A166, c166, e166⟩ := P6
                      rw [e166] at r166
                      clear ha hU hD ha0
                      rw [if_pos (by rfl)]
                      go_simp
                      exact hK _ _ hC (Below.refl _ _) ⟨_, _, rfl⟩
                    · -- 10
                      intro vs a W K ha hC hD hU hK
                      have r167 : a.tmps[167]? = some (vs 7) := by rw [ha]; exact fillA_get0 (j := 7) (by kernel_rfl) (by rw [hsz]; decide)
                      have P7 : IsSl7 g2n (vs 7) W := hD 7 (by simp [waits, Region.binds])
                      obtain ⟨A167, c167, e167⟩ := P7
                      rw [e167] at r167
                      clear ha hU hD ha0
                      rw [if_pos (by rfl)]
                      go_simp
                      exact hK _ _ hC (Below.refl _ _) ⟨_, _, rfl⟩
                    · -- 11
                      intro vs a W K ha hC hD hU hK
                      have r168 : a.tmps[168]? = some (vs 8) := by rw [ha]; exact fillA_get0 (j := 8) (by kernel_rfl) (by rw [hsz]; decide)
                      have q8 : vs 8 = .int .i64 gE := hD 8 (by simp [waits, Region.binds])
                      rw [q8] at r168
                      clear ha hU hD ha0
                      rw [if_pos (by rfl)]
                      go_simp
                      exact hK _ hC (Below.refl _ _)
                  case finT =>
                    refine Fin1.none (Nat.le_refl _) ?_
                    intro vs W a1 hC hE ha
                    have E10 : IsSl7 g2n (vs 10) W := hE 10 (by simp)
                    have e11 : vs 11 = .int .i64 gE := hE 11 (by simp)
                    obtain ⟨A10, c10x, e10⟩ := E10
                    rw [ha, ha0]
                    clear ha ha0 hsz tb3 tb7 tb11
                    simp only [fillA, Act.put, List.setIfInBounds_toArray, List.set_cons_zero, List.set_cons_succ, Nat.zero_add, Nat.reduceAdd, e10, e11]
                    obtain ⟨u0, hu0⟩ : ∃ v0, vs 0 = v0 := ⟨_, rfl⟩
                    obtain ⟨u1, hu1⟩ : ∃ v0, vs 1 = v0 := ⟨_, rfl⟩
                    obtain ⟨u2, hu2⟩ : ∃ v0, vs 2 = v0 := ⟨_, rfl⟩
                    obtain ⟨u3, hu3⟩ : ∃ v0, vs 3 = v0 := ⟨_, rfl⟩
                    obtain ⟨u4, hu4⟩ : ∃ v0, vs 4 = v0 := ⟨_, rfl⟩
                    obtain ⟨u5, hu5⟩ : ∃ v0, vs 5 = v0 := ⟨_, rfl⟩
                    obtain ⟨u6, hu6⟩ : ∃ v0, vs 6 = v0 := ⟨_, rfl⟩
                    obtain ⟨u7, hu7⟩ : ∃ v0, vs 7 = v0 := ⟨_, rfl⟩
                    obtain ⟨u8, hu8⟩ : ∃ v0, vs 8 = v0 := ⟨_, rfl⟩
                    obtain ⟨u9, hu9⟩ : ∃ v0, vs 9 = v0 := ⟨_, rfl⟩
                    rw [hu0, hu1, hu2, hu3, hu4, hu5, hu6, hu7, hu8, hu9]
                    clear hu0 hu1 hu2 hu3 hu4 hu5 hu6 hu7 hu8 hu9
                    clear hE e10 e11
                    have HB14 : Hid (Below WW.heap.size WW W) := bl_call HB13.out hC (Nat.le_refl _)
                    clear hC
                    rcases HFW.out with he8 | ⟨he0, hg0, hle⟩
                    · subst he8
                      go_wp2_with fail
                      refine (awake7_any W).mono ?_
                      rintro e V99 ⟨rfl, c99⟩
                      have b99 := bl_call hBW (bl_call HB14.out c99 (Nat.le_refl _)) (Nat.le_refl _)
                      clear c99
                      go_wp2
                      go_ret
                      exact ⟨by rfl, b99⟩
                    · subst he0 hg0
                      have hlei : (g2n : Int) ≤ (nu : Int) := by omega
                      go_wp2_with fail
                      refine (awake7_any W).mono ?_
                      rintro e V99 ⟨rfl, c99⟩
                      have b99 := bl_call hBW (bl_call HB14.out c99 (Nat.le_refl _)) (Nat.le_refl _)
                      clear c99
                      go_wp2
                      go_ret
                      exact ⟨by rfl, b99⟩
      · obtain ⟨ev, hev⟩ : ∃ x, orderE s l p = x := ⟨_, rfl⟩
        rw [hev] at h0
        rw [hev]
        have hvb : (ev != 0) = true := by simpa using h0
        clear h0 hev
        go_wp2_with fail
        refine (awake7_any V5).mono ?_
        rintro e V99 ⟨rfl, c99⟩
        have b99 := bl_call hBW (bl_call HB5.out c99 (Nat.le_refl _)) (Nat.le_refl _)
        clear c99
        go_wp2
        go_ret
        exact ⟨by rfl, b99⟩
  · have heb : (err7 s == 0) = false := by simpa using he
    rw [heb]
    clear he heb
    go_wp2_with fail
    refine (awake7_any V1).mono ?_
    rintro e V99 ⟨rfl, c99⟩
    have b99 := bl_call hBW (bl_call b1 c99 (Nat.le_refl _)) (Nat.le_refl _)
    clear c99
    go_wp2
    go_ret
    exact ⟨by rfl, b99⟩
end Go.Proofs.Ytpdldmichpmgmaa
