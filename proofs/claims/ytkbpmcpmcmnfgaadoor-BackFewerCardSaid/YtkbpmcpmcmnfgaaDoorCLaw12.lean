/- Walks: the law of fewer causes. -/
import Derived.Test.YtkbpmcpmcmnfgaaDoorCFewer
import Derived.Test.YtkbpmcpmcmnfgaaDoorCHelp1
import Derived.Test.YtkbpmcpmcmnfgaaDoorCLaw6
set_option linter.unusedVariables false
set_option linter.unusedSimpArgs false
set_option linter.all false
namespace Go.Proofs.YtkbpmcpmcmnfgaaDoor
open Go.RowKit

/-- the numbers below m that bits name -/
def bitL (x : Int) (m : Nat) : List Int := ((List.range m).filter fun i => decide (x / 2 ^ i % 2 = 1)).map fun i : Nat => (i : Int)
theorem bit_two (x : Int) (i : Nat) (h : 0 ≤ x) : ∃ y r : Int, x / 2 ^ i = y ∧ 0 ≤ y ∧ y ≤ x ∧ y % 2 = r ∧ Int.tmod y 2 = r ∧ (r = 0 ∨ r = 1) := by
  have h2 : (0 : Int) < 2 ^ i := Int.pow_pos (by decide)
  have h1 : 0 ≤ x / 2 ^ i := Int.ediv_nonneg h (Int.le_of_lt h2)
  exact ⟨_, _, rfl, h1, Int.ediv_le_self _ h, rfl, Int.tmod_eq_emod_of_nonneg h1, by omega⟩
theorem fin_plain {c : Claim} (he : err c = 0) {lp : List Int} {ep : Int} (h : plainR c = (lp, ep)) : (setsL c = [] ∧ lp = [] ∧ ep = 8) ∨ (setsL c ≠ [] ∧ ep = 0 ∧ lp.length = c.causes.length ∧ ∃ r, setsL c = setL lp :: r) := by
  by_cases ha : agreeL c = []
  · rw [plain_none he ha] at h
    injection h with h1 h2
    exact .inl ⟨(sets_nil (okC_of he)).2 ha, h1.symm, h2.symm⟩
  · rw [plain_ok he ha] at h
    injection h with h1 h2
    subst h1 h2
    obtain ⟨h3, h4⟩ := plain_first (okC_of he) ha
    exact .inr ⟨fun e => ha ((sets_nil (okC_of he)).1 e), rfl, h4, h3⟩

theorem pair_get {l : List (List Int)} (h : l.Pairwise fun a b => partL a b = false ∧ partL b a = false) {i k : Nat} {a b : List Int} (ha : l[i]? = some a) (hb : l[k]? = some b) (hne : i ≠ k) : partL a b = false := by
  obtain ⟨hi, ha⟩ := List.getElem?_eq_some_iff.1 ha
  obtain ⟨hk, hb⟩ := List.getElem?_eq_some_iff.1 hb
  subst ha hb
  rcases Nat.lt_or_gt_of_ne hne with h1 | h1
  · exact ((List.pairwise_iff_getElem.1 h) i k hi hk h1).1
  · exact ((List.pairwise_iff_getElem.1 h) k i hk hi h1).2

set_option maxRecDepth 100000 in
set_option maxHeartbeats 1000000 in
theorem fewerLaw_any {A B C : Option Addr} {n ca m cb q cc : Nat} {c : Claim} (x : Int) (w : World) (htab : TabOk w) (h : ClaimAt (fun _ => True) w A n B m C q c) (hca : n ≤ ca) (hcb : m ≤ cb) (hx0 : 0 ≤ x ∧ x < 256) :
    Calls Tryd.prog 8 #[.agg #[.slice A n ca, .slice B m cb, .slice C q cc], .int .u8 x] w fun e w' => e = .returned (.bool true) ∧ Below w.heap.size w w' := by
  obtain ⟨i0, hi0, hz0, hz1, hz2⟩ := info_parts infoInt
  obtain ⟨W0, hW0⟩ : ∃ W0, w.alloc (.cells #[.slice A n ca, .slice B m cb, .slice C q cc] 26) = W0 := ⟨_, rfl⟩
  have X1 : Blk W0 w.heap.size 26 #[.slice A n ca, .slice B m cb, .slice C q cc] := by rw [← hW0]; exact Blk.new _ _ _ rfl
  have hB0 : Below w.heap.size w W0 := by rw [← hW0]; exact bl_alloc (Below.refl _ _) _ (Nat.le_refl _)
  have e1 := h.keep (Keeps.below hB0)
  have t0 := htab.bl hB0
  have HW0 := Lib.hid hW0
  have Hm := Lib.hid h.cs.len
  clear hW0 h htab
  obtain ⟨hx1, hx2⟩ := hx0
  by_cases he : err c = 0
  · have hv : ((check c).2.2 == 0) = true := by have he' : (check c).2.2 = 0 := he; simpa using he'
    have HS := Lib.hid (sets_ok he)
    have hok := okC_of he
    have hm5 : m ≤ 5 := by rw [← Hm.out]; exact hok.nc
    obtain ⟨lp, ep, hp⟩ : ∃ lp ep, plainR c = (lp, ep) := ⟨_, _, rfl⟩
    have Hfin := Lib.hid (fin_plain he hp)
    have HP := Lib.hid hp
    have Hasc : Hid (∀ s, s ∈ setsL c → ascL s m = true) := fun s hs => by rw [← Hm.out]; exact asc_sets hok hs
    have Hset : Hid (∀ s, s ∈ setsL c → ∃ l1 l2, mustR (onlyC c s) = (l1, l2, 0) ∧ l1.length = s.length ∧ l2.length = s.length) := fun s hs => only_set he hs
    have Hpair : Hid ((setsL c).Pairwise fun a b => partL a b = false ∧ partL b a = false) := sets_pair hok
    have Hoth : Hid ((mustR (onlyC c (bitL x m))).2.2 = if (setsL c).any (fun s => partL s (bitL x m)) then 0 else 8) := by
      rw [Hid, must_only he, found_iff hok]
      by_cases ha : agreeL (onlyC c (bitL x m)) = []
      · rw [if_pos ha, if_neg (by simp [ha])]
      · rw [if_neg ha, if_pos (by simp [ha])]
    clear hp he hok
    go_enter Tryd.func8, Tryd.ntmps8
    go_wp2_with fail
    rw [HW0.out]
    refine (bsets_any W0 t0 e1 hca hcb).mono ?_
    rintro e u1 ⟨A3, n3, c3, rfl, hR3, b1⟩
    rw [HS.out] at hR3 ⊢
    have q0 : u1.cell? ⟨w.heap.size, 0, none⟩ = some (.slice A n ca) := (X1.bl b1).cell 0
    have q1 : u1.cell? ⟨w.heap.size, 1, none⟩ = some (.slice B m cb) := (X1.bl b1).cell 1
    have q2 : u1.cell? ⟨w.heap.size, 2, none⟩ = some (.slice C q cc) := (X1.bl b1).cell 2
    go_wp2_with fail
    clear q0 q1 q2
    refine (bplainest_any u1 (t0.bl b1) (e1.keep (Keeps.below b1)) hca hcb).mono ?_
    rintro e u2 ⟨Ap, np, cp, rfl, hIp, k2⟩
    rw [HP.out] at hIp ⊢
    have hR3 := hR3.keep (SlR.good IntR.good) (Keeps.below k2)
    have b2 := bl_call b1 k2 (Nat.le_refl _)
    clear b1 k2
    have q0 : u2.cell? ⟨w.heap.size, 0, none⟩ = some (.slice A n ca) := (X1.bl b2).cell 0
    have q1 : u2.cell? ⟨w.heap.size, 1, none⟩ = some (.slice B m cb) := (X1.bl b2).cell 1
    have q2 : u2.cell? ⟨w.heap.size, 2, none⟩ = some (.slice C q cc) := (X1.bl b2).cell 2
    go_wp2_with fail
    clear q0 q1 q2
    refine (valid_any u2 (e1.keep (Keeps.below b2))).mono ?_
    rintro e u3 ⟨rfl, k3⟩
    rw [hv]
    have hR3 := hR3.keep (SlR.good IntR.good) (Keeps.below k3)
    have hIp := hIp.keep IntR.good (Keeps.below k3)
    have b3 := bl_call b2 k3 (Nat.le_refl _)
    clear b2 k3
    have X2 := X1.bl b3
    go_wp2
    go_loopw [9, 10] (fun v j wr => ∃ (k n' cap : Nat) (A' : Option Addr) (l : List Int), k ≤ m ∧ j = .int .i64 k ∧ v = .slice A' n' cap ∧ n' ≤ k ∧ Hid (l.length = n') ∧ OwnL IntR 1 (fun _ => False) wr u3.heap.size 3 (.slice A' n' cap) l ∧ Below u3.heap.size u3 wr ∧ Hid (l = ((List.range k).filter fun i => decide (x / 2 ^ i % 2 = 1)).map fun i : Nat => (i : Int))) (fun _ j _ => m - (intOf j).toNat)
    case atStart => exact ⟨0, 0, 0, none, [], Nat.zero_le _, rfl, rfl, Nat.le_refl _, rfl, OwnL.nil _ _ _ _ _ _, Below.refl _ _, rfl⟩
    case round =>
      obtain ⟨k, n', cap, A', l, hk, rfl, rfl, hn', Hl, hO, hB2, Hf⟩ := hrel
      have X3 := X2.bl hB2
      have q1 : wr.cell? ⟨w.heap.size, 1, none⟩ = some (.slice B m cb) := X3.cell 1
      by_cases hlt2 : k < m
      · have hki2 : (k : Int) < m := by omega
        obtain ⟨y, r, hy, hy0, hy1, hr1, hr2, hr01⟩ := bit_two x k hx1
        have Hy := Lib.hid hy
        have Hr := Lib.hid hr1
        rcases hr01 with rfl | rfl
        · have Hs : Hid (l = ((List.range (k + 1)).filter fun i => decide (x / 2 ^ i % 2 = 1)).map fun i : Nat => (i : Int)) := by
            rw [Hid, range_filter_succ, ← Hf.out, if_neg (by rw [hy, hr1]; decide), List.append_nil]
          go_wp2
          go_roundw
          case rel => exact ⟨k + 1, n', cap, _, _, by omega, by go_num, rfl, by omega, Hl, hO, hB2, Hs⟩
          case measure => simp [intOf]; omega
        · have Hs : Hid (l ++ [(k : Int)] = ((List.range (k + 1)).filter fun i => decide (x / 2 ^ i % 2 = 1)).map fun i : Nat => (i : Int)) := by
            rw [Hid, range_filter_succ, ← Hf.out, if_pos (by rw [hy, hr1]; decide)]
          go_wp2_with (at_builtin; refine wpList_append_n _ rfl _ _ _ rfl IntR.good u3.heap.size 3 i0 _ 8 Tryd.underlying34 hi0 hz0 hz1 hz2 rfl (by omega) _ l (k : Int) n' Hl.out rfl (hO.alloc IntR.good _) ⟨_, 0, none⟩ 1 [.int .i64 k] rfl rfl (news_new rfl rfl) ?c1 ?c2 ?c3 (fun h => h) ?_)
          case c1 => simp only [maxLen]; omega
          case c2 => omega
          case c3 => have := hB2.size; simp; omega
          intro A2 cap2 w2 hO2 hg2 _
          have hB3 : Below u3.heap.size u3 w2 := bl_grown (bl_alloc hB2 _ (Nat.le_refl _)) (hO.alloc IntR.good _) hg2 (Nat.le_refl _) (Nat.le_refl _)
          clear hg2 hO
          go_wp2
          go_roundw
          case rel => exact ⟨k + 1, n' + 1, cap2, _, _, by omega, by go_num, rfl, by omega, by rw [Hid, List.length_append, Hl.out]; rfl, hO2, hB3, Hs⟩
          case measure => simp [intOf]; omega
      · obtain rfl : m = k := by omega
        have hki2 : ¬ (m : Int) < m := by omega
        have hL : Ints (fun k => u3.heap.size ≤ k) wr A' n' (bitL x m) := by
          have hS := hO.slice (T := fun k => u3.heap.size ≤ k) IntR.good rfl (by simp only [maxLen]; omega) (fun _ h => h.elim) (fun _ h _ => h)
          rw [Hf.out] at hS
          exact hS
        have hR3 := hR3.keep (SlR.good IntR.good) (Keeps.below hB2)
        have hIp := hIp.keep IntR.good (Keeps.below hB2)
        have b4 := bl_call b3 hB2 (Nat.le_refl _)
        clear hO Hf Hl hB2 b3 X2
        have q0 : wr.cell? ⟨w.heap.size, 0, none⟩ = some (.slice A n ca) := X3.cell 0
        have q2 : wr.cell? ⟨w.heap.size, 2, none⟩ = some (.slice C q cc) := X3.cell 2
        go_wp2_with fail
        clear q0 q1 q2
        refine (only_any wr (e1.keep (Keeps.below b4)) hm5 hL).mono ?_
        rintro e w1 ⟨B', m', cb', rfl, hm', hC', k1⟩
        have b5 := bl_call b4 k1 (Nat.le_refl _)
        go_wp2_with fail
        refine (bmust_any w1 (t0.bl b5) hC' hca hm').mono ?_
        rintro e u6 ⟨A4, n4, c4, A5, n5, c5, rfl, _, _, k2⟩
        rw [Hoth.out]
        have b6 := bl_call b5 k2 (Nat.le_refl _)
        have hL := (hL.keep IntR.good (Keeps.below k1)).keep IntR.good (Keeps.below k2)
        have hR3 := (hR3.keep (SlR.good IntR.good) (Keeps.below k1)).keep (SlR.good IntR.good) (Keeps.below k2)
        have hIp := (hIp.keep IntR.good (Keeps.below k1)).keep IntR.good (Keeps.below k2)
        clear k1 k2 b4 b5 hC' X3
        obtain ⟨oth, hoth⟩ : ∃ oth, bitL x m = oth := ⟨_, rfl⟩
        rw [hoth] at hL ⊢
        clear hoth Hoth
        have hle3 := hR3.le
        have X4 := X1.bl b6
        have Hn3 := Lib.hid hR3.len
        rcases hfo : (setsL c).any (fun s => partL s oth)
        all_goals
          have Hfo := Lib.hid hfo
          clear hfo
          go_wp2
          go_loopw [14, 15] (fun f j wr => ∃ (k : Nat) (fb : Bool), k ≤ n3 ∧ j = .int .i64 k ∧ f = .bool fb ∧ Hid (fb = ((setsL c).take k).any fun s => partL s oth) ∧ Below u6.heap.size u6 wr) (fun _ j _ => n3 - (intOf j).toNat)
          case atStart => exact ⟨0, false, Nat.zero_le _, rfl, rfl, rfl, Below.refl _ _⟩
          case round =>
            obtain ⟨k, fb, hk, rfl, rfl, Hfb, hB⟩ := hrel
            have X5 := X4.bl hB
            have b7 := bl_call b6 hB (Nat.le_refl _)
            have hRr := hR3.keep (SlR.good IntR.good) (Keeps.below hB)
            have q1 : wr.cell? ⟨w.heap.size, 1, none⟩ = some (.slice B m cb) := X5.cell 1
            by_cases hlt : k < n3
            · have hki : (k : Int) < n3 := by omega
              have hLr := hL.keep IntR.good (Keeps.below hB)
              obtain ⟨bt, ot, s, As, ns, cs, rfl, hct, hV, Hs⟩ := Rows.get hRr hlt
              have hmem := List.mem_of_getElem? Hs.out
              have hasc := Hasc.out s hmem
              obtain ⟨l1, l2, hmo, hl1, hl2⟩ := Hset.out s hmem
              have HMo := Lib.hid hmo
              have Hl1 := Lib.hid hl1
              have Hl2 := Lib.hid hl2
              have Hns := Lib.hid hV.len
              have HA : Hid (∀ z, Calls Tryd.prog 45 #[.slice As ns cs, .int .i64 m] (wr.drewN z) (fun e w'' => e = .returned (.bool true) ∧ ∃ mm, w'' = wr.drewN mm)) := fun z => (ascending_any (c := cs) (m : Int) _ (hV.keep IntR.good (Keeps.drewN _ _))).mono fun e w' hh => ⟨by rw [hh.1, hasc], by obtain ⟨q, hq⟩ := hh.2; exact ⟨z + q, by rw [hq, World.drewN_drewN]⟩⟩
              obtain ⟨pb, hpb⟩ : ∃ pb, partL s oth = pb := ⟨_, rfl⟩
              have Hstep : Hid (((setsL c).take (k + 1)).any (fun s => partL s oth) = (fb || pb)) := by
                rw [Hid, take_snoc_get Hs.out, List.any_append, ← Hfb.out]; simp [hpb]
              clear hmo hl1 hl2 hasc hmem
              go_wp2
              go_quiet ((go_at_call 45; with_reducible exact HA.out _))
              obtain ⟨v5, hv5⟩ : ∃ v5, wr.drewN nq = v5 := ⟨_, rfl⟩
              have hB5 : Below wr.heap.size wr v5 := by rw [← hv5]; exact bl_drewN (Below.refl _ _) _
              rw [hv5]
              clear hv5
              have hct5 := getc hB5 hct
              have hV5 := hV.keep IntR.good (Keeps.below hB5)
              have hL5 := hLr.keep IntR.good (Keeps.below hB5)
              have X6 := X5.bl hB5
              have hB6 := bl_call hB hB5 (Nat.le_refl _)
              have b8 := bl_call b7 hB5 (Nat.le_refl _)
              clear HA hct hV hLr X5 b7 hB hB5 q1 hRr
              cases fb with
              | false =>
                have Hnf : Hid (pb = ((setsL c).take (k + 1)).any fun s => partL s oth) := by rw [Hid, Hstep.out]; rfl
                go_wp2_with fail
                refine (lawpart_any _ hV5 hL5).mono ?_
                rintro e w' ⟨rfl, rfl⟩
                rw [hpb]
                have q0 : v5.cell? ⟨w.heap.size, 0, none⟩ = some (.slice A n ca) := X6.cell 0
                have q1 : v5.cell? ⟨w.heap.size, 1, none⟩ = some (.slice B m cb) := X6.cell 1
                have q2 : v5.cell? ⟨w.heap.size, 2, none⟩ = some (.slice C q cc) := X6.cell 2
                have kk : Hid (∀ W', Below v5.heap.size v5 W' → W'.cell? ⟨w.heap.size, 0, none⟩ = some (.slice A n ca) ∧ W'.cell? ⟨w.heap.size, 1, none⟩ = some (.slice B m cb) ∧ W'.cell? ⟨w.heap.size, 2, none⟩ = some (.slice C q cc) ∧ W'.cell? ⟨bt, ot + k, none⟩ = some (.slice As ns cs) ∧ Below v5.heap.size v5 W') := fun W' hb => ⟨getc hb q0, getc hb q1, getc hb q2, getc hb hct5, hb⟩
                go_wp2
                go_region_held3 (fun w' => w'.cell? ⟨w.heap.size, 0, none⟩ = some (.slice A n ca) ∧ w'.cell? ⟨w.heap.size, 1, none⟩ = some (.slice B m cb) ∧ w'.cell? ⟨w.heap.size, 2, none⟩ = some (.slice C q cc) ∧ w'.cell? ⟨bt, ot + k, none⟩ = some (.slice As ns cs) ∧ Below v5.heap.size v5 w')
                  (first | exact kk.out _ (Below.refl _ _).drew | exact kk.out _ (Below.refl _ _) | exact kk.out _ hp1 | exact kk.out _ hp2)
                  (first | (go_at_call 44; have hh := ‹_ ∧ _ ∧ _ ∧ _ ∧ Below v5.heap.size v5 _›; have hp := hh.2.2.2.2; clear hh; refine (only_any _ (e1.keep (Keeps.below (bl_call b8 hp (Nat.le_refl _)))) hm5 (hV5.keep IntR.good (Keeps.below hp))).mono ?_; rintro e w1 ⟨B1, m1, cb1, rfl, hm1, hC1, k1⟩; have hp1 := bl_call hp k1 (Nat.le_refl _)) | (go_at_call 26; refine (bmust_any _ (t0.bl (bl_call b8 hp1 (Nat.le_refl _))) hC1 hca hm1).mono ?_; rintro e w2 ⟨A6, n6, c6, A7, n7, c7, rfl, hJ1, hJ2, k2⟩; rw [HMo.out] at hJ1 hJ2 ⊢; have hp2 := bl_call hp1 k2 (Nat.le_refl _)))
                rename_i hHeld
                clear hHeld
                obtain rfl : n6 = ns := by rw [← hJ1.len, Hl1.out, Hns.out]
                obtain rfl : n7 = n6 := by rw [← hJ2.len, Hl2.out, Hns.out]
                have hct6 := getc hp2 hct5
                have hnn : ((n7 : Int) != (n7 : Int)) = false := by simp
                have hB7 := bl_call hB6 hp2 (Nat.le_refl _)
                have hRo := hR3.keep (SlR.good IntR.good) (Keeps.below hB7)
                have hVo := hV5.keep IntR.good (Keeps.below hp2)
                clear hJ1 hJ2 hC1 k1 k2 hp1 hp kk q0 q1 q2 hp2 hV5 hct5 hL5 X6 b8 hB6
                go_wp2
                obtain ⟨wo, rfl⟩ : ∃ wo : World, wo = w2 := ⟨_, rfl⟩
                go_loopw [19] (fun j wr => ∃ i : Nat, i ≤ n3 ∧ j = .int .i64 i ∧ Below wo.heap.size wo wr) (fun j _ => n3 - (intOf j).toNat)
                case atStart => exact ⟨0, Nat.zero_le _, rfl, Below.refl _ _⟩
                case round =>
                  obtain ⟨i, hi, rfl, hBi⟩ := hrel
                  by_cases hlt3 : i < n3
                  · have hii : (i : Int) < n3 := by omega
                    by_cases hik : i = k
                    · have hb : ((i : Int) != (k : Int)) = false := by simp [hik]
                      clear hik
                      go_wp2
                      go_quiet (fail)
                      go_wp2
                      go_roundw
                      case rel => exact ⟨i + 1, by omega, by go_num, bl_drewN hBi _⟩
                      case measure => simp [intOf]; omega
                    · have hb : ((i : Int) != (k : Int)) = true := by simp; omega
                      obtain ⟨bt2, ot2, s2, A8, n8, c8, hAe, hct8, hV8, Hs8⟩ := Rows.get (hRo.keep (SlR.good IntR.good) (Keeps.below hBi)) hlt3
                      obtain ⟨rfl, rfl⟩ : bt = bt2 ∧ ot = ot2 := by injection hAe with hAe; injection hAe with e1 e2; exact ⟨e1, e2⟩
                      have hct9 := getc hBi hct6
                      have hV9 := hVo.keep IntR.good (Keeps.below hBi)
                      have hpf := pair_get Hpair.out Hs8.out Hs.out hik
                      have HPa : Hid (∀ z, Calls Tryd.prog 41 #[.slice A8 n8 c8, .slice As n7 cs] (wr.drewN z) (fun e w' => e = .returned (.bool false) ∧ w' = wr.drewN z)) := fun z => (lawpart_any (c := c8) (d := cs) _ (hV8.keep IntR.good (Keeps.drewN _ _)) (hV9.keep IntR.good (Keeps.drewN _ _))).mono fun e w' hh => ⟨by rw [hh.1, hpf], hh.2.symm⟩
                      clear hpf hV8 hV9 hAe hik
                      go_wp2
                      go_quiet ((go_at_call 41; with_reducible refine Calls.quiet_of_same (n := _) (HPa.out _)))
                      go_wp2
                      go_roundw
                      case rel => exact ⟨i + 1, by omega, by go_num, bl_drewN hBi _⟩
                      case measure => simp [intOf]; omega
                  · have hii : ¬ (i : Int) < n3 := by omega
                    go_wp2
                    go_roundw
                    case rel => exact ⟨k + 1, _, by omega, by go_num, rfl, Hnf, bl_call hB7 hBi (Nat.le_refl _)⟩
                    case measure => simp [intOf]; omega
              | true =>
                have Hnf : Hid (true = ((setsL c).take (k + 1)).any fun s => partL s oth) := by rw [Hid, Hstep.out]; rfl
                have q0 : v5.cell? ⟨w.heap.size, 0, none⟩ = some (.slice A n ca) := X6.cell 0
                have q1 : v5.cell? ⟨w.heap.size, 1, none⟩ = some (.slice B m cb) := X6.cell 1
                have q2 : v5.cell? ⟨w.heap.size, 2, none⟩ = some (.slice C q cc) := X6.cell 2
                have kk : Hid (∀ W', Below v5.heap.size v5 W' → W'.cell? ⟨w.heap.size, 0, none⟩ = some (.slice A n ca) ∧ W'.cell? ⟨w.heap.size, 1, none⟩ = some (.slice B m cb) ∧ W'.cell? ⟨w.heap.size, 2, none⟩ = some (.slice C q cc) ∧ W'.cell? ⟨bt, ot + k, none⟩ = some (.slice As ns cs) ∧ Below v5.heap.size v5 W') := fun W' hb => ⟨getc hb q0, getc hb q1, getc hb q2, getc hb hct5, hb⟩
                go_wp2
                go_region_held3 (fun w' => w'.cell? ⟨w.heap.size, 0, none⟩ = some (.slice A n ca) ∧ w'.cell? ⟨w.heap.size, 1, none⟩ = some (.slice B m cb) ∧ w'.cell? ⟨w.heap.size, 2, none⟩ = some (.slice C q cc) ∧ w'.cell? ⟨bt, ot + k, none⟩ = some (.slice As ns cs) ∧ Below v5.heap.size v5 w')
                  (first | exact kk.out _ (Below.refl _ _).drew | exact kk.out _ (Below.refl _ _) | exact kk.out _ hp1 | exact kk.out _ hp2)
                  (first | (go_at_call 44; have hh := ‹_ ∧ _ ∧ _ ∧ _ ∧ Below v5.heap.size v5 _›; have hp := hh.2.2.2.2; clear hh; refine (only_any _ (e1.keep (Keeps.below (bl_call b8 hp (Nat.le_refl _)))) hm5 (hV5.keep IntR.good (Keeps.below hp))).mono ?_; rintro e w1 ⟨B1, m1, cb1, rfl, hm1, hC1, k1⟩; have hp1 := bl_call hp k1 (Nat.le_refl _)) | (go_at_call 26; refine (bmust_any _ (t0.bl (bl_call b8 hp1 (Nat.le_refl _))) hC1 hca hm1).mono ?_; rintro e w2 ⟨A6, n6, c6, A7, n7, c7, rfl, hJ1, hJ2, k2⟩; rw [HMo.out] at hJ1 hJ2 ⊢; have hp2 := bl_call hp1 k2 (Nat.le_refl _)))
                rename_i hHeld
                clear hHeld
                obtain rfl : n6 = ns := by rw [← hJ1.len, Hl1.out, Hns.out]
                obtain rfl : n7 = n6 := by rw [← hJ2.len, Hl2.out, Hns.out]
                have hct6 := getc hp2 hct5
                have hnn : ((n7 : Int) != (n7 : Int)) = false := by simp
                have hB7 := bl_call hB6 hp2 (Nat.le_refl _)
                have hRo := hR3.keep (SlR.good IntR.good) (Keeps.below hB7)
                have hVo := hV5.keep IntR.good (Keeps.below hp2)
                clear hJ1 hJ2 hC1 k1 k2 hp1 hp kk q0 q1 q2 hp2 hV5 hct5 hL5 X6 b8 hB6
                go_wp2
                obtain ⟨wo, rfl⟩ : ∃ wo : World, wo = w2 := ⟨_, rfl⟩
                go_loopw [19] (fun j wr => ∃ i : Nat, i ≤ n3 ∧ j = .int .i64 i ∧ Below wo.heap.size wo wr) (fun j _ => n3 - (intOf j).toNat)
                case atStart => exact ⟨0, Nat.zero_le _, rfl, Below.refl _ _⟩
                case round =>
                  obtain ⟨i, hi, rfl, hBi⟩ := hrel
                  by_cases hlt3 : i < n3
                  · have hii : (i : Int) < n3 := by omega
                    by_cases hik : i = k
                    · have hb : ((i : Int) != (k : Int)) = false := by simp [hik]
                      clear hik
                      go_wp2
                      go_quiet (fail)
                      go_wp2
                      go_roundw
                      case rel => exact ⟨i + 1, by omega, by go_num, bl_drewN hBi _⟩
                      case measure => simp [intOf]; omega
                    · have hb : ((i : Int) != (k : Int)) = true := by simp; omega
                      obtain ⟨bt2, ot2, s2, A8, n8, c8, hAe, hct8, hV8, Hs8⟩ := Rows.get (hRo.keep (SlR.good IntR.good) (Keeps.below hBi)) hlt3
                      obtain ⟨rfl, rfl⟩ : bt = bt2 ∧ ot = ot2 := by injection hAe with hAe; injection hAe with e1 e2; exact ⟨e1, e2⟩
                      have hct9 := getc hBi hct6
                      have hV9 := hVo.keep IntR.good (Keeps.below hBi)
                      have hpf := pair_get Hpair.out Hs8.out Hs.out hik
                      have HPa : Hid (∀ z, Calls Tryd.prog 41 #[.slice A8 n8 c8, .slice As n7 cs] (wr.drewN z) (fun e w' => e = .returned (.bool false) ∧ w' = wr.drewN z)) := fun z => (lawpart_any (c := c8) (d := cs) _ (hV8.keep IntR.good (Keeps.drewN _ _)) (hV9.keep IntR.good (Keeps.drewN _ _))).mono fun e w' hh => ⟨by rw [hh.1, hpf], hh.2.symm⟩
                      clear hpf hV8 hV9 hAe hik
                      go_wp2
                      go_quiet ((go_at_call 41; with_reducible refine Calls.quiet_of_same (n := _) (HPa.out _)))
                      go_wp2
                      go_roundw
                      case rel => exact ⟨i + 1, by omega, by go_num, bl_drewN hBi _⟩
                      case measure => simp [intOf]; omega
                  · have hii : ¬ (i : Int) < n3 := by omega
                    go_wp2
                    go_roundw
                    case rel => exact ⟨k + 1, _, by omega, by go_num, rfl, Hnf, bl_call hB7 hBi (Nat.le_refl _)⟩
                    case measure => simp [intOf]; omega
            · obtain rfl : n3 = k := by omega
              have hki : ¬ (n3 : Int) < n3 := by omega
              have hfb := Hfb.out
              rw [List.take_of_length_le (by rw [Hn3.out]; exact Nat.le_refl _), Hfo.out] at hfb
              subst hfb
              have hIr := hIp.keep IntR.good (Keeps.below hB)
              rcases Hfin.out with ⟨hs, hlp, hep⟩ | ⟨hne, hep, hlp, r, hr⟩
              · obtain rfl : 0 = n3 := by rw [← Hn3.out, hs]; rfl
                obtain rfl : 0 = np := by rw [← hIr.len, hlp]; rfl
                clear hs hlp
                subst hep
                go_wp2_with fail
                refine (awake_any _ (t0.bl b7)).mono ?_
                rintro e u4 ⟨rfl, b4⟩
                go_wp2
                go_ret
                exact ⟨rfl, bl_call (bl_call hB0 b7 (Nat.le_refl _)) b4 (Nat.le_refl _)⟩
              · have hpos : 0 < n3 := by rw [← Hn3.out]; exact List.length_pos_iff.2 hne
                have hn0 : ((n3 : Int) == 0) = false := by simp; omega
                obtain rfl : np = m := by rw [← hIr.len, hlp, Hm.out]
                have hnp : np ≤ 1000000 := by omega
                obtain ⟨bt, ot, s, As, ns, cs, rfl, hct, hV, Hs⟩ := Rows.get hRr hpos
                simp only [Nat.add_zero] at hct
                have hseq : setL lp = s := by have := Hs.out; rw [hr] at this; simpa using this
                have Hseq := Lib.hid hseq
                subst hep
                have kk : Hid (∀ W', Below wr.heap.size wr W' → W'.cell? ⟨w.heap.size, 1, none⟩ = some (.slice B np cb) ∧ W'.cell? ⟨bt, ot, none⟩ = some (.slice As ns cs) ∧ Below wr.heap.size wr W') := fun W' hb => ⟨getc hb q1, getc hb hct, hb⟩
                clear hne hlp hr hseq Hfin
                go_wp2
                go_region_held3 (fun w' => w'.cell? ⟨w.heap.size, 1, none⟩ = some (.slice B np cb) ∧ w'.cell? ⟨bt, ot, none⟩ = some (.slice As ns cs) ∧ Below wr.heap.size wr w')
                  (first | exact kk.out _ (Below.refl _ _).drew | exact kk.out _ (Below.refl _ _) | exact kk.out _ hp1 | exact kk.out _ hp2 | exact kk.out _ hp3)
                  (first | (go_at_call 40; have hh := ‹_ ∧ _ ∧ Below wr.heap.size wr _›; have hp := hh.2.2; clear hh; refine (set_any _ (hIr.keep IntR.good (Keeps.below hp)) hnp).mono ?_; rintro e w1 ⟨A6, n6, c6, rfl, hJ6, k1⟩; have hp1 := bl_call hp k1 (Nat.le_refl _)) | (go_at_call 22; refine (ints_any _ hJ6 (hV.keep IntR.good (Keeps.below hp1))).mono ?_; rintro e w2 ⟨rfl, z2, rfl⟩; rw [decide_eq_true Hseq.out]; have hp2 := bl_drewN hp1 z2) | (go_at_call 25; refine (awake_any _ (t0.bl (bl_call b7 hp2 (Nat.le_refl _)))).mono ?_; rintro e w3 ⟨rfl, k3⟩; have hp3 := bl_call hp2 k3 (Nat.le_refl _)))
                rename_i hHeld
                clear hHeld
                go_wp2
                go_ret
                exact ⟨rfl, bl_call (bl_call hB0 b7 (Nat.le_refl _)) hp3 (Nat.le_refl _)⟩
  · have hv : ((check c).2.2 == 0) = false := by have he' : (check c).2.2 ≠ 0 := he; simpa using he'
    have HS := Lib.hid (sets_bad he)
    have HP := Lib.hid (plain_bad he)
    obtain ⟨e0, hee⟩ : ∃ e0, err c = e0 := ⟨_, rfl⟩
    rw [hee] at he HP HS
    have h1 : (e0 != 0) = true := by simpa using he
    have h2 : (e0 == e0) = true := by simp
    clear he hee
    go_enter Tryd.func8, Tryd.ntmps8
    go_wp2_with fail
    rw [HW0.out]
    refine (bsets_any W0 t0 e1 hca hcb).mono ?_
    rintro e u1 ⟨A3, n3, c3, rfl, hR3, b1⟩
    rw [HS.out] at hR3 ⊢
    obtain rfl : 0 = n3 := hR3.len
    have q0 : u1.cell? ⟨w.heap.size, 0, none⟩ = some (.slice A n ca) := (X1.bl b1).cell 0
    have q1 : u1.cell? ⟨w.heap.size, 1, none⟩ = some (.slice B m cb) := (X1.bl b1).cell 1
    have q2 : u1.cell? ⟨w.heap.size, 2, none⟩ = some (.slice C q cc) := (X1.bl b1).cell 2
    go_wp2_with fail
    clear q0 q1 q2
    refine (bplainest_any u1 (t0.bl b1) (e1.keep (Keeps.below b1)) hca hcb).mono ?_
    rintro e u2 ⟨Ap, np, cp, rfl, hIp, k2⟩
    rw [HP.out] at hIp ⊢
    obtain rfl : 0 = np := hIp.len
    have b2 := bl_call b1 k2 (Nat.le_refl _)
    have q0 : u2.cell? ⟨w.heap.size, 0, none⟩ = some (.slice A n ca) := (X1.bl b2).cell 0
    have q1 : u2.cell? ⟨w.heap.size, 1, none⟩ = some (.slice B m cb) := (X1.bl b2).cell 1
    have q2 : u2.cell? ⟨w.heap.size, 2, none⟩ = some (.slice C q cc) := (X1.bl b2).cell 2
    go_wp2_with fail
    clear q0 q1 q2
    refine (valid_any u2 (e1.keep (Keeps.below b2))).mono ?_
    rintro e u3 ⟨rfl, b3⟩
    rw [hv]
    have b3 := bl_call b2 b3 (Nat.le_refl _)
    go_wp2_with fail
    refine (awake_any _ (t0.bl b3)).mono ?_
    rintro e u4 ⟨rfl, b4⟩
    go_wp2
    go_ret
    exact ⟨rfl, bl_call (bl_call hB0 b3 (Nat.le_refl _)) b4 (Nat.le_refl _)⟩

end Go.Proofs.YtkbpmcpmcmnfgaaDoor
