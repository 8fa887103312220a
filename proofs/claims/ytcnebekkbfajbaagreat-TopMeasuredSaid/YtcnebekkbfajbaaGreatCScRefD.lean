/- A part of the proof that TopMeasured always answers true. -/
import Derived.Test.YtcnebekkbfajbaaGreatCScEnter
import Derived.Test.YtcnebekkbfajbaaGreatCScTell
set_option linter.all false
namespace Go.Proofs.YtcnebekkbfajbaaGreat
open Go.RowKit Go.Shelf
theorem in_t {x lo hi : Int} (h : inB x lo hi = true) : lo ≤ x ∧ x ≤ hi := by simp [inB] at h; omega
def RcOk (c : Case5) (e : Ending) : Prop := ∃ p a z : Int, e = .returned (.tuple #[.int .i64 p, .int .i64 a, .int .i64 z]) ∧ (z = 0 → Ok5 c)
theorem RcOk.bad {c : Case5} {p a z : Int} (h : z ≠ 0) : RcOk c (.returned (.tuple #[.int .i64 p, .int .i64 a, .int .i64 z])) := ⟨p, a, z, rfl, fun e => absurd e h⟩
set_option maxRecDepth 100000 in
set_option maxHeartbeats 4000000 in
theorem rcheck5_any {c : Case5} {A B : Option Addr} {n ca m cb : Nat} {kd ba mo : Int} (w : World) (g : CaseAt (fun _ => True) w A n B m c) (h1 : c.kind = kd) (h2 : c.base = ba) (h3 : c.most = mo) :
  Calls Tryz.prog 4 #[.agg #[.int .i64 kd, .int .i64 ba, .int .i64 mo, .slice A n ca, .slice B m cb]] w fun e w' => RcOk c e ∧ Below w.heap.size w w' := by
 have hnle := g.hs.le
 have hmle := g.rs.le
 have HNL : Hid (c.hts.length = n) := g.hs.len
 have HML : Hid (c.roads.length = m) := g.rs.len
 obtain ⟨W, hW⟩ : ∃ W, w.alloc (.cells #[.int .i64 kd, .int .i64 ba, .int .i64 mo, .slice A n ca, .slice B m cb] 25) = W := ⟨_, rfl⟩
 have X : Blk W w.heap.size 25 #[.int .i64 kd, .int .i64 ba, .int .i64 mo, .slice A n ca, .slice B m cb] := by rw [← hW]; exact Blk.new _ _ _ rfl
 have hBW : Below w.heap.size w W := by rw [← hW]; exact bl_alloc (Below.refl _ _) _ (Nat.le_refl _)
 have HG : Hid (∀ V, Below W.heap.size W V → CaseAt (fun _ => True) V A n B m c) := fun V hb => (g.bl hBW).bl hb
 have kk : Hid (∀ V, Below W.heap.size W V → V.cell? ⟨w.heap.size, 0, none⟩ = some (.int .i64 kd) ∧ V.cell? ⟨w.heap.size, 1, none⟩ = some (.int .i64 ba) ∧ V.cell? ⟨w.heap.size, 2, none⟩ = some (.int .i64 mo) ∧ V.cell? ⟨w.heap.size, 3, none⟩ = some (.slice A n ca) ∧ V.cell? ⟨w.heap.size, 4, none⟩ = some (.slice B m cb)) :=
  fun V hb => ⟨(X.bl hb).cell 0, (X.bl hb).cell 1, (X.bl hb).cell 2, (X.bl hb).cell 3, (X.bl hb).cell 4⟩
 have HBW := Lib.hid hBW
 clear g X hBW
 obtain ⟨x0, x1, x2, x3, x4⟩ := kk.out W (Below.refl _ _)
 go_enter Tryz.func4, Tryz.ntmps4
 go_wp2_with fail
 refine (in5_any kd 1 3 W).mono ?_
 rintro e w' ⟨rfl, hw'⟩
 rw [hw']
 clear hw' hW
 cases hk1 : inB kd 1 3 with
 | false =>
  clear hk1
  go_wp2_with fail
  go_ret3
  exact ⟨RcOk.bad (by decide), HBW.out⟩
 | true =>
  have HK := Lib.hid (in_t hk1)
  clear hk1
  go_wp2_with fail
  refine (in5_any ba 0 9000 W).mono ?_
  rintro e w' ⟨rfl, hw'⟩
  rw [hw']
  clear hw'
  cases hk2 : inB ba 0 9000 with
  | false =>
   clear hk2
   go_wp2_with fail
   go_ret3
   exact ⟨RcOk.bad (by decide), HBW.out⟩
  | true =>
   have HB := Lib.hid (in_t hk2)
   clear hk2
   go_wp2_with fail
   refine (in5_any mo 0 100000 W).mono ?_
   rintro e w' ⟨rfl, hw'⟩
   rw [hw']
   clear hw'
   cases hk3 : inB mo 0 100000 with
   | false =>
    clear hk3
    go_wp2_with fail
    go_ret3
    exact ⟨RcOk.bad (by decide), HBW.out⟩
   | true =>
    have HM := Lib.hid (in_t hk3)
    clear hk3
    go_wp2_with fail
    refine (in5_any (n : Int) 1 8 W).mono ?_
    rintro e w' ⟨rfl, hw'⟩
    rw [hw']
    clear hw'
    cases hk4 : inB (n : Int) 1 8 with
    | false =>
     clear hk4
     go_wp2_with fail
     go_ret3
     exact ⟨RcOk.bad (by decide), HBW.out⟩
    | true =>
     have hn8 : 1 ≤ n ∧ n ≤ 8 := by have := in_t hk4; omega
     clear hk4
     by_cases hm8 : (8 : Int) < m
     ·go_wp2_with fail
      go_ret3
      exact ⟨RcOk.bad (by decide), HBW.out⟩
     go_wp2_with fail
     clear x0 x1 x2 x3 x4
     go_loopw [5] (fun i wr => ∃ k : Nat, k ≤ n ∧ i = .int .i64 k ∧ Hid (Below W.heap.size W wr) ∧ Hid (∀ x ∈ c.hts.take k, ba ≤ x ∧ x ≤ 9000)) (fun i _ => n - (intOf i).toNat)
     case atStart => exact ⟨0, Nat.zero_le _, rfl, Below.refl _ _, fun x hx => by simp at hx⟩
     case round =>
      obtain ⟨wo, hwo⟩ : ∃ V, V = wr := ⟨_, rfl⟩
      rw [← hwo] at hrel ⊢
      clear hwo
      obtain ⟨k, hk, rfl, HBr, HAr⟩ := hrel
      obtain ⟨x0, x1, x2, x3, x4⟩ := kk.out wo HBr.out
      by_cases hlt : k < n
      ·have hki : (k : Int) < n := by omega
       obtain ⟨b, off, x, rfl, hcx, Hx⟩ := Ints.get (HG.out wo HBr.out).hs hlt
       obtain ⟨b1, hb1⟩ : ∃ b, inB x ba 9000 = b := ⟨_, rfl⟩
       have HI1 : Hid (∀ k, Calls Tryz.prog 18 #[.int .i64 x, .int .i64 ba, .int .i64 9000] (wo.drewN k) fun e w' => e = .returned (.bool b1) ∧ w' = wo.drewN k) := fun k => by rw [← hb1]; exact in5_any _ _ _ _
       have HQ : Hid (∀ q, Below W.heap.size W (wo.drewN q)) := fun q => bl_drewN HBr.out q
       cases b1 with
       | false =>
        clear hb1
        go_wp2_with fail
        go_quiet ((go_at_call 18; with_reducible refine Calls.quiet_of_same (n := _) (HI1.out _)))
        go_wp2_with fail
        go_ret3
        exact ⟨RcOk.bad (by decide), bl_call HBW.out (HQ.out _) (Nat.le_refl _)⟩
       | true =>
        have HA2 : Hid (∀ x ∈ c.hts.take (k + 1), ba ≤ x ∧ x ≤ 9000) := by
         intro y hy
         rw [take_snoc_get Hx.out, List.mem_append, List.mem_singleton] at hy
         rcases hy with hy | rfl
         ·exact HAr.out y hy
         exact in_t hb1
        clear hb1
        go_wp2_with fail
        go_quiet ((go_at_call 18; with_reducible refine Calls.quiet_of_same (n := _) (HI1.out _)))
        go_wp2_with fail
        go_roundw
        case rel => exact ⟨k + 1, by omega, by go_num, HQ.out _, HA2⟩
        case measure => simp [intOf]; omega
      obtain rfl : k = n := by omega
      have HAF : Hid (∀ x ∈ c.hts, ba ≤ x ∧ x ≤ 9000) := by
       have h := HAr.out
       rwa [List.take_of_length_le (by rw [HNL.out]; exact Nat.le_refl _)] at h
      have hki : ¬ (k : Int) < k := by omega
      go_wp2_with fail
      clear x0 x1 x2 x3 x4
      go_loopw [6] (fun i wr => ∃ j : Nat, j ≤ m ∧ i = .int .i64 j ∧ Hid (Below W.heap.size W wr) ∧ Hid (∀ r ∈ c.roads.take j, (0 ≤ r.1 ∧ r.1 < c.hts.length) ∧ (0 ≤ r.2 ∧ r.2 < c.hts.length) ∧ r.1 ≠ r.2)) (fun i _ => m - (intOf i).toNat)
      case atStart => exact ⟨0, Nat.zero_le _, rfl, HBr.out, fun x hx => by simp at hx⟩
      case round =>
       obtain ⟨wq, hwq⟩ : ∃ V, V = wr := ⟨_, rfl⟩
       rw [← hwq] at hrel ⊢
       clear hwq
       obtain ⟨j, hj, rfl, HBq, HRq⟩ := hrel
       obtain ⟨x0, x1, x2, x3, x4⟩ := kk.out wq HBq.out
       by_cases hjl : j < m
       ·have hji : (j : Int) < m := by omega
        obtain ⟨b, off, ra, rz, hA, _, q0, q1, Hx⟩ := Pairs.get (HG.out wq HBq.out).rs hjl
        subst hA
        obtain ⟨gR, hgR⟩ : ∃ g, wq.heap.size = g := ⟨_, rfl⟩
        obtain ⟨U3, hU3⟩ : ∃ U, wq.alloc (.cells #[.int .i64 ra, .int .i64 rz] 72) = U := ⟨_, rfl⟩
        have RU : Blk U3 gR 72 #[.int .i64 ra, .int .i64 rz] := by rw [← hU3]; exact Blk.new _ _ _ hgR.symm
        have HB3 : Hid (Below W.heap.size W U3) := by rw [Hid, ← hU3]; exact bl_alloc HBq.out _ (Nat.le_refl _)
        have r0 := RU.cell 0
        have r1 := RU.cell 1
        obtain ⟨u0, u1, u2, u3, u4⟩ := kk.out U3 HB3.out
        have hw1 : IntKind.i64.wrap ((k : Int) - 1) = k - 1 := by rw [IntKind.wrap_i64]; omega
        have HBE : Hid (Below w.heap.size w U3) := bl_call HBW.out HB3.out (Nat.le_refl _)
        clear RU
        go_wp2_with fail
        refine (in5_any ra 0 ((k : Int) - 1) U3).mono ?_
        rintro e w' ⟨rfl, hw'⟩
        rw [hw']
        clear hw'
        cases hk5 : inB ra 0 ((k : Int) - 1) with
        | false =>
         clear hk5
         go_wp2_with fail
         go_ret3
         exact ⟨RcOk.bad (by decide), HBE.out⟩
        | true =>
         have ha := in_t hk5
         clear hk5
         go_wp2_with fail
         refine (in5_any rz 0 ((k : Int) - 1) U3).mono ?_
         rintro e w' ⟨rfl, hw'⟩
         rw [hw']
         clear hw'
         cases hk6 : inB rz 0 ((k : Int) - 1) with
         | false =>
          clear hk6
          go_wp2_with fail
          go_ret3
          exact ⟨RcOk.bad (by decide), HBE.out⟩
         | true =>
          have hz := in_t hk6
          clear hk6
          by_cases hq : ra = rz
          ·subst hq
           go_wp2_with fail
           go_ret3
           exact ⟨RcOk.bad (by decide), HBE.out⟩
          have hqb : (ra == rz) = false := by simpa using hq
          have HR2 : Hid (∀ r ∈ c.roads.take (j + 1), (0 ≤ r.1 ∧ r.1 < c.hts.length) ∧ (0 ≤ r.2 ∧ r.2 < c.hts.length) ∧ r.1 ≠ r.2) := by
           intro y hy
           rw [take_snoc_get Hx.out, List.mem_append, List.mem_singleton] at hy
           rcases hy with hy | rfl
           ·exact HRq.out y hy
           have := HNL.out; exact ⟨⟨ha.1, by omega⟩, ⟨hz.1, by omega⟩, hq⟩
          go_wp2_with fail
          go_roundw
          case rel => exact ⟨j + 1, by omega, by go_num, HB3, HR2⟩
          case measure => simp [intOf]; omega
       obtain rfl : j = m := by omega
       have HOK : Hid (Ok5 c) := by
        have hr := HRq.out
        rw [List.take_of_length_le (by rw [HML.out]; exact Nat.le_refl _)] at hr
        exact ⟨by rw [h1]; exact HK.out, by rw [h2]; exact HB.out, by rw [h3]; exact HM.out, by rw [HNL.out]; exact hn8, by rw [HML.out]; omega, by rw [h2]; exact HAF.out, hr⟩
       have HBE : Hid (Below w.heap.size w wq) := bl_call HBW.out HBq.out (Nat.le_refl _)
       have hji : ¬ (j : Int) < j := by omega
       go_wp2_with fail
       go_ret3
       exact ⟨⟨0, 0, 0, rfl, fun _ => HOK.out⟩, HBE.out⟩
open Go.RowKit Go.Shelf
def anyStep (s : Nat × Nat) (i : Nat) : Nat × Nat := if s.1 % (30 - i) = 0 ∧ s.2 % (30 - i) = 0 then (s.1 / (30 - i), s.2 / (30 - i)) else s
def anyS5 (a b k : Nat) : Nat × Nat := (List.range k).foldl anyStep (1 + a % 30, 1 + b % 30)
theorem anyS5_succ (a b k : Nat) : anyS5 a b (k + 1) = anyStep (anyS5 a b k) k := by unfold anyS5; rw [List.range_succ, List.foldl_append]; rfl
theorem anyS5_all (a b : Nat) : anyS5 a b 29 = any5N a b := rfl
theorem anyS5_bd (a b k : Nat) (hk : k ≤ 29) : (1 ≤ (anyS5 a b k).1 ∧ (anyS5 a b k).1 ≤ 30) ∧ (1 ≤ (anyS5 a b k).2 ∧ (anyS5 a b k).2 ≤ 30) := by
 induction k with
 | zero => unfold anyS5; simp; omega
 | succ k ih =>
  obtain ⟨⟨h1, h2⟩, h3, h4⟩ := ih (by omega)
  rw [anyS5_succ]
  unfold anyStep
  split
  ·rename_i h
   have key : ∀ x d : Nat, 1 ≤ x → x ≤ 30 → 1 ≤ d → x % d = 0 → 1 ≤ x / d ∧ x / d ≤ 30 := fun x d a1 a2 a3 a4 => by
    have := Nat.div_add_mod x d
    have h5 := Nat.div_le_self x d
    refine ⟨Nat.pos_of_ne_zero fun e => ?_, by omega⟩
    rw [e, a4] at this
    omega
   exact ⟨key _ _ h1 h2 (by omega) h.1, key _ _ h3 h4 (by omega) h.2⟩
  exact ⟨⟨h1, h2⟩, h3, h4⟩
theorem ret_any5 {tmps : Array Value} {w : World} {g : Nat} {a b : Int} {T : TypeId} (ht : tmps[2]? = some (.pointer (some ⟨g, 0, none⟩))) (h : Blk w g T #[.int .i64 a, .int .i64 b]) : (results Tryz.f6 tmps).run Tryz.prog w = .ok (.agg #[.int .i64 a, .int .i64 b]) w := by
 have c0 := h.cell 0
 have c1 := h.cell 1
 simp [results, Tryz.results6, asAddr, go_sem, ht, c0, c1]
theorem tmod_cast (a d : Nat) : Int.tmod (a : Int) (d : Int) = ((a % d : Nat) : Int) := by rw [Int.tmod_eq_emod_of_nonneg (by omega)]; exact (Int.natCast_emod a d).symm
set_option maxRecDepth 100000 in
set_option maxHeartbeats 4000000 in
theorem any5_any {a b : Nat} (ha : a < 256) (hb : b < 256) (w : World) :
  Calls Tryz.prog 6 #[.agg #[.int .u8 (a : Int), .int .u8 (b : Int)]] w fun e w' => e = .returned (.agg #[.int .i64 ((any5N a b).1 : Int), .int .i64 ((any5N a b).2 : Int)]) ∧ Below w.heap.size w w' := by
 obtain ⟨W0, hW⟩ : ∃ W, (w.alloc (.cells #[.int .u8 (a : Int), .int .u8 (b : Int)] 34)).alloc (.cells #[.int .i64 0, .int .i64 0] 42) = W := ⟨_, rfl⟩
 have X : Blk W0 w.heap.size 34 #[.int .u8 (a : Int), .int .u8 (b : Int)] := by rw [← hW]; exact (Blk.new _ _ _ rfl).alloc _
 have Y : Blk W0 (w.heap.size + 1) 42 #[.int .i64 0, .int .i64 0] := by rw [← hW]; exact Blk.new _ _ _ (by simp)
 have hBW : Below w.heap.size w W0 := by rw [← hW]; exact bl_alloc (bl_alloc (Below.refl _ _) _ (Nat.le_refl _)) _ (Nat.le_refl _)
 obtain ⟨ua, hua⟩ : ∃ x, a % 30 = x := ⟨_, rfl⟩
 obtain ⟨ub, hub⟩ : ∃ x, b % 30 = x := ⟨_, rfl⟩
 have hua2 : ua < 30 := by omega
 have hub2 : ub < 30 := by omega
 have t1 : Int.tmod (a : Int) 30 = (ua : Int) := by rw [← hua]; exact tmod_cast a 30
 have t2 : Int.tmod (b : Int) 30 = (ub : Int) := by rw [← hub]; exact tmod_cast b 30
 have w1 : IntKind.i64.wrap (a : Int) = (a : Int) := by rw [IntKind.wrap_i64]; omega
 have w2 : IntKind.i64.wrap (b : Int) = (b : Int) := by rw [IntKind.wrap_i64]; omega
 have w3 : IntKind.i64.wrap (1 + (ua : Int)) = ((1 + ua : Nat) : Int) := by rw [IntKind.wrap_i64]; omega
 have w4 : IntKind.i64.wrap (1 + (ub : Int)) = ((1 + ub : Nat) : Int) := by rw [IntKind.wrap_i64]; omega
 have w5 : IntKind.i64.wrap (ua : Int) = (ua : Int) := by rw [IntKind.wrap_i64]; omega
 have w6 : IntKind.i64.wrap (ub : Int) = (ub : Int) := by rw [IntKind.wrap_i64]; omega
 have HA0 : Hid (anyS5 a b 0 = (1 + ua, 1 + ub)) := by rw [Hid, ← hua, ← hub]; rfl
 obtain ⟨za, hza⟩ : ∃ x, 1 + ua = x := ⟨_, rfl⟩
 obtain ⟨zb, hzb⟩ : ∃ x, 1 + ub = x := ⟨_, rfl⟩
 rw [hza] at HA0 w3
 rw [hzb] at HA0 w4
 have x0 := X.cell 0
 have x1 := X.cell 1
 have HY := Lib.hid Y
 have hYl := Y.lt
 clear X Y hua hub
 go_enter Tryz.func6, Tryz.ntmps6
 go_wp2_with fail
 refine (of5_any (za : Int) (zb : Int) W0).mono ?_
 rintro e V1 ⟨rfl, b1⟩
 have HB1 : Hid (Below w.heap.size w V1) := bl_call hBW b1 (Nat.le_refl _)
 have HY1 : Hid (Blk V1 (w.heap.size + 1) 42 #[.int .i64 0, .int .i64 0]) := HY.out.bl b1
 have hs1 : W0.heap.size ≤ V1.heap.size := b1.size
 clear x0 x1 w1 w2 w3 w4 w5 w6 t1 t2 b1 hW
 obtain ⟨gs, hgs⟩ : ∃ g, V1.heap.size = g := ⟨_, rfl⟩
 obtain ⟨U1, hU1⟩ : ∃ U, V1.alloc (.cells #[.int .i64 (za : Int), .int .i64 (zb : Int)] 42) = U := ⟨_, rfl⟩
 have HSU : Hid (Blk U1 gs 42 #[.int .i64 (za : Int), .int .i64 (zb : Int)]) := by rw [Hid, ← hU1]; exact Blk.new _ _ _ hgs.symm
 have HBU : Hid (Below w.heap.size w U1) := by rw [Hid, ← hU1]; exact bl_alloc HB1.out _ (by have := HB1.out.size; omega)
 obtain ⟨gr, hgr⟩ : ∃ g, w.heap.size + 1 = g := ⟨_, rfl⟩
 rw [hgr] at HY1 HY hYl
 have HYU : Hid (Blk U1 gr 42 #[.int .i64 0, .int .i64 0]) := by rw [Hid, ← hU1]; exact HY1.out.alloc _
 have hwgs : w.heap.size ≤ gs := by rw [← hgs]; exact HB1.out.size
 have hgrs : gr < gs := by rw [← hgs]; omega
 go_wp2_with fail
 clear hU1 hgs
 go_loopw [4] (fun i wr => ∃ (k sa sb : Nat), k ≤ 29 ∧ i = .int .i64 ((30 - k : Nat) : Int) ∧ Hid (Below w.heap.size w wr ∧ Kept (fun j => j = gs ∨ U1.heap.size ≤ j) U1 wr) ∧ Hid (Blk wr gs 42 #[.int .i64 (sa : Int), .int .i64 (sb : Int)]) ∧ Hid (anyS5 a b k = (sa, sb))) (fun i _ => (intOf i).toNat)
 case atStart => exact ⟨0, za, zb, by omega, rfl, ⟨HBU.out, Kept.refl _ _⟩, HSU.out, HA0.out⟩
 case round =>
  obtain ⟨wo, hwo⟩ : ∃ V, V = wr := ⟨_, rfl⟩
  rw [← hwo] at hrel ⊢
  clear hwo
  obtain ⟨k, sa, sb, hk, rfl, HBK, HSB, HSk⟩ := hrel
  have HBr : Hid (Below w.heap.size w wo) := HBK.out.1
  have HWO : Hid (w.heap.size ≤ w.heap.size) := Nat.le_refl _
  obtain ⟨d, hd⟩ : ∃ d : Nat, 30 - k = d := ⟨_, rfl⟩
  rw [hd]
  have hd1 : 1 ≤ d ∧ d ≤ 30 := by omega
  by_cases hlt : k < 29
  ·have hdi : (1 : Int) < d := by omega
   have hbd := anyS5_bd a b k hk
   rw [HSk.out] at hbd
   obtain ⟨⟨a1, a2⟩, a3, a4⟩ := hbd
   dsimp only at a1 a2 a3 a4
   have hdz : ¬ (d : Int) = 0 := by omega
   have hdzb : ((d : Int) == 0) = false := by simp; omega
   have wd1 : IntKind.i64.wrap ((d : Int) - 1) = ((30 - (k + 1) : Nat) : Int) := by rw [IntKind.wrap_i64]; omega
   obtain ⟨ra, hra⟩ : ∃ x, sa % d = x := ⟨_, rfl⟩
   obtain ⟨rb, hrb⟩ : ∃ x, sb % d = x := ⟨_, rfl⟩
   have t1 : Int.tmod (sa : Int) (d : Int) = (ra : Int) := by rw [← hra]; exact tmod_cast sa d
   have t2 : Int.tmod (sb : Int) (d : Int) = (rb : Int) := by rw [← hrb]; exact tmod_cast sb d
   have hra2 : ra < 30 := by have := Nat.mod_lt sa (show 0 < d by omega); omega
   have hrb2 : rb < 30 := by have := Nat.mod_lt sb (show 0 < d by omega); omega
   have w1 : IntKind.i64.wrap (ra : Int) = (ra : Int) := by rw [IntKind.wrap_i64]; omega
   have w2 : IntKind.i64.wrap (rb : Int) = (rb : Int) := by rw [IntKind.wrap_i64]; omega
   have z0 := HSB.out.cell 0
   have z1 := HSB.out.cell 1
   have HSTEP : Hid (anyS5 a b (k + 1) = if ra = 0 ∧ rb = 0 then (sa / d, sb / d) else (sa, sb)) := by rw [Hid, anyS5_succ, HSk.out, anyStep, hd, hra, hrb]
   by_cases hc : ra = 0 ∧ rb = 0
   ·obtain ⟨c1, c2⟩ := hc
    subst c1 c2
    obtain ⟨qa, hqa⟩ : ∃ x, sa / d = x := ⟨_, rfl⟩
    obtain ⟨qb, hqb⟩ : ∃ x, sb / d = x := ⟨_, rfl⟩
    have HS1 : Hid (anyS5 a b (k + 1) = (qa, qb)) := by rw [Hid, HSTEP.out, if_pos ⟨rfl, rfl⟩, hqa, hqb]
    have hqa2 : qa ≤ 30 := by have := Nat.div_le_self sa d; omega
    have hqb2 : qb ≤ 30 := by have := Nat.div_le_self sb d; omega
    have HQA : Hid (IntKind.i64.wrap ((sa : Int) / (d : Int)) = (qa : Int)) := by rw [Hid, ← Int.natCast_ediv, hqa, IntKind.wrap_i64]; omega
    have HQB : Hid (IntKind.i64.wrap ((sb : Int) / (d : Int)) = (qb : Int)) := by rw [Hid, ← Int.natCast_ediv, hqb, IntKind.wrap_i64]; omega
    have hd0 : ¬ d = 0 := by omega
    have kk : Hid (∀ V, Below wo.heap.size wo V → V.cell? ⟨gs, 0, none⟩ = some (.int .i64 (sa : Int)) ∧ V.cell? ⟨gs, 1, none⟩ = some (.int .i64 (sb : Int))) := fun V hb => ⟨(HSB.out.bl hb).cell 0, (HSB.out.bl hb).cell 1⟩
    go_wp2_with fail
    clear z0 z1 t1 t2 w1 w2 hra hrb hqa hqb
    refine wp_frame5 ?_
    intro a0 ha0
    have tb3 : a0.tmps[3]? = some (.pointer (some ⟨gs, 0, none⟩)) := by rw [ha0]; kernel_rfl
    have tb4 : a0.tmps[4]? = some (.int .i64 (d : Int)) := by rw [ha0]; kernel_rfl
    have hsz : a0.tmps.size = 42 := by rw [ha0]; kernel_rfl
    refine wp_region_list (fun W => Below wo.heap.size wo W) (fun w w' => Below w.heap.size w w')
     [isV (.pointer (some ⟨gs, 0, none⟩)), isV (.int .i64 (sa : Int)), isV (.int .i64 (d : Int)), isV (.int .i64 (qa : Int)), isV (.pointer (some ⟨gs, 1, none⟩)), isV (.int .i64 (sb : Int)), isV (.int .i64 (d : Int)), isV (.int .i64 (qb : Int)), isV (.agg #[.int .i64 (qa : Int), .int .i64 (qb : Int)])]
     (by kernel_rfl) (by kernel_rfl) (by kernel_rfl) (by simp) (by simp) (Below.refl _ _).drew ?stabA ?stepA ?finA
    case stabA => exact (StabL.is (StabL.is (StabL.is (StabL.is (StabL.is (StabL.is (StabL.is (StabL.is (StabL.is StabL.nil)))))))))
    case stepA =>
     refine StepsL.isA ?_ (StepsL.isA ?_ (StepsL.isA ?_ (StepsL.isA ?_ (StepsL.isA ?_ (StepsL.isA ?_ (StepsL.isA ?_ (StepsL.isA ?_ (StepsL.isA ?_ StepsL.nil))))))))
     all_goals intro vs a W K ha hC hD hU hK
     all_goals try rw [if_pos (by rfl)]
     ·have r3 := fb ha (by kernel_rfl) tb3
      clear ha hU hD ha0
      go_simp
      exact hK _ hC (Below.refl _ _)
     ·have r32 := fq 32 0 ha hsz (by kernel_rfl) (by decide) (hD 0 (by simp [waits, Region.binds]))
      clear ha hU hD ha0
      obtain ⟨z0, z1⟩ := kk.out W hC
      go_simp
      exact hK _ hC (Below.refl _ _)
     ·have r4 := fb ha (by kernel_rfl) tb4
      clear ha hU hD ha0
      go_simp
      exact hK _ hC (Below.refl _ _)
     ·have r33 := fq 33 1 ha hsz (by kernel_rfl) (by decide) (hD 1 (by simp [waits, Region.binds]))
      have r34 := fq 34 2 ha hsz (by kernel_rfl) (by decide) (hD 2 (by simp [waits, Region.binds]))
      clear ha hU hD ha0
      go_simp
      rw [HQA.out]
      exact hK _ hC (Below.refl _ _)
     ·have r3 := fb ha (by kernel_rfl) tb3
      clear ha hU hD ha0
      go_simp
      exact hK _ hC (Below.refl _ _)
     ·have r36 := fq 36 4 ha hsz (by kernel_rfl) (by decide) (hD 4 (by simp [waits, Region.binds]))
      clear ha hU hD ha0
      obtain ⟨z0, z1⟩ := kk.out W hC
      go_simp
      exact hK _ hC (Below.refl _ _)
     ·have r4 := fb ha (by kernel_rfl) tb4
      clear ha hU hD ha0
      go_simp
      exact hK _ hC (Below.refl _ _)
     ·have r37 := fq 37 5 ha hsz (by kernel_rfl) (by decide) (hD 5 (by simp [waits, Region.binds]))
      have r38 := fq 38 6 ha hsz (by kernel_rfl) (by decide) (hD 6 (by simp [waits, Region.binds]))
      clear ha hU hD ha0
      go_simp
      rw [HQB.out]
      exact hK _ hC (Below.refl _ _)
     have r35 := fq 35 3 ha hsz (by kernel_rfl) (by decide) (hD 3 (by simp [waits, Region.binds]))
     have r39 := fq 39 7 ha hsz (by kernel_rfl) (by decide) (hD 7 (by simp [waits, Region.binds]))
     clear ha hU hD ha0
     go_simp
     refine (of5_any (qa : Int) (qb : Int) W).mono ?_
     rintro e w' ⟨rfl, hb⟩
     exact hK _ (bl_call hC hb (Nat.le_refl _)) hb
    intro vs W hC hE hU
    rw [ha0]
    clear hU hsz tb3 tb4
    have e40 : vs 8 = .agg #[.int .i64 (qa : Int), .int .i64 (qb : Int)] := hE 8 (by simp)
    simp only [fillA, Act.put, List.setIfInBounds_toArray, List.set_cons_zero, List.set_cons_succ, Nat.zero_add, Nat.reduceAdd, e40]
    generalize vs 0 = u0, vs 1 = u1, vs 2 = u2, vs 3 = u3, vs 4 = u4, vs 5 = u5, vs 6 = u6, vs 7 = u7
    have HBW := Lib.hid hC
    have BW := HSB.out.bl hC
    have z0 := BW.cell 0
    have z1 := BW.cell 1
    have f0 := BW.frozen 0
    have f1 := BW.frozen 1
    have lz := BW.lt
    obtain ⟨Va, hVa⟩ : ∃ V, W.setCell ⟨gs, 0, none⟩ (.int .i64 (qa : Int)) = V := ⟨_, rfl⟩
    obtain ⟨Vb, hVb⟩ : ∃ V, Va.setCell ⟨gs, 1, none⟩ (.int .i64 (qb : Int)) = V := ⟨_, rfl⟩
    have bA : Blk Va gs 42 #[.int .i64 (qa : Int), .int .i64 (sb : Int)] := by rw [← hVa]; exact BW.set_ 0 _
    have HBB : Hid (Blk Vb gs 42 #[.int .i64 (qa : Int), .int .i64 (qb : Int)]) := by rw [Hid, ← hVb]; exact bA.set_ 1 _
    have a1 := bA.cell 1
    have a2 := bA.frozen 1
    have HKE : Hid (Kept (fun j => j = gs ∨ U1.heap.size ≤ j) U1 Vb) := by
     have hUw := HBK.out.2.size
     have h1 : Kept (fun j => j = gs ∨ U1.heap.size ≤ j) U1 W := HBK.out.2.trans (Kept.of_bl hC)
     rw [Hid, ← hVb, ← hVa]
     exact (h1.trans (Kept.setCell _ _ _ (.inl rfl))).trans (Kept.setCell _ _ _ (.inl rfl))
    have HBE : Hid (Below w.heap.size w Vb) := by rw [Hid, ← hVb, ← hVa]; exact bl_set (bl_set (bl_call HBr.out hC HWO.out) hwgs _) hwgs _
    clear hE e40 hC BW bA
    go_simp
    go_wp2_with fail
    go_roundw
    case rel => exact ⟨k + 1, qa, qb, by omega, by go_num, ⟨HBE.out, HKE.out⟩, HBB, HS1⟩
    case measure => simp [intOf]; omega
   have HS1 : Hid (anyS5 a b (k + 1) = (sa, sb)) := by rw [Hid, HSTEP.out, if_neg hc]
   by_cases c1 : ra = 0
   ·have c2 : ¬ rb = 0 := fun e => hc ⟨c1, e⟩
    have c2b : ((rb : Int) == 0) = false := by simp; omega
    subst c1
    go_wp2_with fail
    go_roundw
    case rel => exact ⟨k + 1, sa, sb, by omega, by go_num, HBK, HSB, HS1⟩
    case measure => simp [intOf]; omega
   have c1b : ((ra : Int) == 0) = false := by simp; omega
   go_wp2_with fail
   go_roundw
   case rel => exact ⟨k + 1, sa, sb, by omega, by go_num, HBK, HSB, HS1⟩
   case measure => simp [intOf]; omega
  obtain rfl : k = 29 := by omega
  obtain rfl : d = 1 := by omega
  have HYw : Blk wo gr 42 #[.int .i64 0, .int .i64 0] := (HBK.out.2.block _ HYU.out.lt (by have := HYU.out.lt; omega)).trans HYU.out
  have z0 := HSB.out.cell 0
  have z1 := HSB.out.cell 1
  have y0 := HYw.cell 0
  have y5 := HYw.frozen 0
  obtain ⟨Va, hVa⟩ : ∃ V, wo.setCell ⟨gr, 0, none⟩ (.int .i64 (sa : Int)) = V := ⟨_, rfl⟩
  obtain ⟨Vb, hVb⟩ : ∃ V, Va.setCell ⟨gr, 1, none⟩ (.int .i64 (sb : Int)) = V := ⟨_, rfl⟩
  have bA : Blk Va gr 42 #[.int .i64 (sa : Int), .int .i64 0] := by rw [← hVa]; exact HYw.set_ 0 _
  have HBB : Hid (Blk Vb gr 42 #[.int .i64 (sa : Int), .int .i64 (sb : Int)]) := by rw [Hid, ← hVb]; exact bA.set_ 1 _
  have a1 := bA.cell 1
  have a2 := bA.frozen 1
  have hwgr : w.heap.size ≤ gr := by omega
  have HBE : Hid (Below w.heap.size w Vb) := by rw [Hid, ← hVb, ← hVa]; exact bl_set (bl_set HBr.out hwgr _) hwgr _
  have HR : Hid (any5N a b = (sa, sb)) := by rw [Hid, ← anyS5_all]; exact HSk.out
  clear bA HYw
  go_wp2_with fail
  exact bodyPost_ret (ret_any5 rfl HBB.out) rfl ⟨by rw [HR.out], HBE.out⟩
end Go.Proofs.YtcnebekkbfajbaaGreat
