/- Walks: the law of a claim made of a truth. -/
import Derived.Test.YtkbpmcpmcmnfgaaDoorCBackPureF
import Derived.Test.YtkbpmcpmcmnfgaaDoorCLaw6
set_option linter.unusedVariables false
set_option linter.unusedSimpArgs false
set_option linter.all false
namespace Go.Proofs.YtkbpmcpmcmnfgaaDoor
open Go.RowKit

set_option maxRecDepth 100000 in
set_option maxHeartbeats 1600000 in
theorem trueLaw_any {A B C X Y : Option Addr} {n ca m cb q cc nx cx ny cy : Nat} {c : Claim} {xs ys : List Int} (w : World) (htab : TabOk w) (h : ClaimAt (fun _ => True) w A n B m C q c) (hca : n ≤ ca) (hcb : m ≤ cb) (hX : Bytes (fun _ => True) w X nx xs) (hY : Bytes (fun _ => True) w Y ny ys) :
    Calls Tryd.prog 7 #[.agg #[.slice A n ca, .slice B m cb, .slice C q cc], .slice X nx cx, .slice Y ny cy] w fun e w' => e = .returned (.bool true) ∧ Below w.heap.size w w' := by
  obtain ⟨W0, hW0⟩ : ∃ W0, w.alloc (.cells #[.slice A n ca, .slice B m cb, .slice C q cc] 26) = W0 := ⟨_, rfl⟩
  have X1 : Blk W0 w.heap.size 26 #[.slice A n ca, .slice B m cb, .slice C q cc] := by rw [← hW0]; exact Blk.new _ _ _ rfl
  have hB0 : Below w.heap.size w W0 := by rw [← hW0]; exact bl_alloc (Below.refl _ _) _ (Nat.le_refl _)
  have e1 := h.keep (Keeps.below hB0)
  have x1 := hX.keep U8R.good (Keeps.below hB0)
  have y1 := hY.keep U8R.good (Keeps.below hB0)
  have t0 := htab.bl hB0
  have HW0 := Lib.hid hW0
  have Hm := Lib.hid h.cs.len
  have Hn := Lib.hid h.fs.len
  clear hW0 h htab hX hY
  have q0 : W0.cell? ⟨w.heap.size, 0, none⟩ = some (.slice A n ca) := X1.cell 0
  have q1 : W0.cell? ⟨w.heap.size, 1, none⟩ = some (.slice B m cb) := X1.cell 1
  have q2 : W0.cell? ⟨w.heap.size, 2, none⟩ = some (.slice C q cc) := X1.cell 2
  by_cases he : err c = 0
  · have hv : ((check c).2.2 == 0) = true := by have he' : (check c).2.2 = 0 := he; simpa using he'
    have hok := okC_of he
    have hm5 : m ≤ 5 := by rw [← Hm.out]; exact hok.nc
    have hn5 : n ≤ 5 := by rw [← Hn.out]; exact hok.nf.2
    have htr := truth_ok hok xs
    have Hex := Lib.hid (truth_exts hok xs)
    have htl : (truthR c xs).length = m := by rw [exts_len_of Hex.out, Hm.out]
    have hag := told_agree hok Hex.out ys
    have hed := told_err he (truthR c xs) ys 0
    have hokd := okC_of hed
    have hned := List.ne_nil_of_mem hag
    have HM := Lib.hid (must_ok hed hned)
    have HWR := Lib.hid (wrong_none hed hag)
    have HS := Lib.hid (sets_ok hed)
    have hp1 := part_may hokd hag
    have hp2 := must_part hokd hag
    have Ham : Hid (∀ i : Nat, i < m → ∃ lo hi, amountR (toldC c (truthR c xs) ys 0) i = ((lo, hi), 0) ∧ inB ((truthR c xs).getD i 0) lo hi = true) := fun i hi => amount_in hed hag (by show i < c.causes.length; rw [Hm.out]; exact hi)
    have Hva : Hid (∀ i : Nat, i < n → ∃ lo hi, valueR (toldC c (truthR c xs) ys 0) i = ((lo, hi), 0) ∧ inB (len c (truthR c xs) i) lo hi = true) := fun i hi => by
      obtain ⟨lo, hi', h1, h2⟩ := value_in hed hag (f := i) (by show i < c.feats.length; rw [Hn.out]; exact hi)
      exact ⟨lo, hi', h1, by rw [len_told] at h2; exact h2⟩
    have Hsome : Hid (∃ s ∈ setsL (toldC c (truthR c xs) ys 0), partL s (setL (truthR c xs)) = true) := some_least hokd _ _ hag (Nat.le_refl _)
    have HOKC := Lib.hid hok
    obtain ⟨t, ht⟩ : ∃ t, truthR c xs = t := ⟨_, rfl⟩
    obtain ⟨d, hd⟩ : ∃ d, toldC c (truthR c xs) ys 0 = d := ⟨_, rfl⟩
    rw [hd] at HM HWR HS hp1 hp2 Ham Hva Hsome
    rw [ht] at hd htr htl hp1 hp2 Ham Hva Hsome
    have Hd := Lib.hid hd
    have Ht := Lib.hid ht
    clear hd ht hag hed hned hokd he
    go_enter Tryd.func7, Tryd.ntmps7
    go_wp2_with fail
    rw [HW0.out]
    refine (valid_any W0 e1).mono ?_
    rintro e u1 ⟨rfl, b1⟩
    rw [hv]
    have r0 := getc b1 q0
    have r1 := getc b1 q1
    have r2 := getc b1 q2
    go_wp2_with fail
    refine (truth_any u1 (e1.keep (Keeps.below b1)) hok (x1.keep U8R.good (Keeps.below b1))).mono ?_
    rintro e u2 ⟨T, nt, ct, rfl, hT, k2⟩
    rw [Ht.out] at hT
    obtain rfl : nt = m := by rw [← hT.len, htl]
    have b2 := bl_call b1 k2 (Nat.le_refl _)
    have r0 := getc b2 q0
    have r1 := getc b2 q1
    have r2 := getc b2 q2
    clear b1 k2
    go_wp2_with fail
    refine (told_any 0 u2 (e1.keep (Keeps.below b2)) hok hT htr (y1.keep U8R.good (Keeps.below b2)) (by decide) (by decide)).mono ?_
    rintro e u3 ⟨C', q', cq', rfl, hD, k3⟩
    rw [Hd.out] at hD
    have b3 := bl_call b2 k3 (Nat.le_refl _)
    have hT := hT.keep IntR.good (Keeps.below k3)
    obtain ⟨u4, hu4⟩ : ∃ u4, u3.alloc (.cells #[.slice A n ca, .slice B nt cb, .slice C' q' cq'] 26) = u4 := ⟨_, rfl⟩
    have D4 : Blk u4 u3.heap.size 26 #[.slice A n ca, .slice B nt cb, .slice C' q' cq'] := by rw [← hu4]; exact Blk.new _ _ _ rfl
    have b4 : Below W0.heap.size W0 u4 := by rw [← hu4]; exact bl_alloc b3 _ (Nat.le_refl _)
    have hD : ClaimAt (fun _ => True) u4 A n B nt C' q' d := by rw [← hu4]; exact hD.keep (Keeps.alloc _ _)
    have hT : Ints (fun k => u1.heap.size ≤ k) u4 T nt t := by rw [← hu4]; exact hT.keep IntR.good (Keeps.alloc _ _)
    clear b2 k3 b3 r0 r1 r2
    go_wp2_with fail
    clear hu4
    refine (set_any u4 hT (by omega)).mono ?_
    rintro e u5 ⟨A5, n5, c5, rfl, hI5, k5⟩
    have d5 := D4.bl k5
    have w0 : u5.cell? ⟨u3.heap.size, 0, none⟩ = some (.slice A n ca) := d5.cell 0
    have w1 : u5.cell? ⟨u3.heap.size, 1, none⟩ = some (.slice B nt cb) := d5.cell 1
    have w2 : u5.cell? ⟨u3.heap.size, 2, none⟩ = some (.slice C' q' cq') := d5.cell 2
    go_wp2_with fail
    clear w0 w1 w2
    refine (bmust_any u5 (t0.bl (bl_call b4 k5 (Nat.le_refl _))) (hD.keep (Keeps.below k5)) hca hcb).mono ?_
    rintro e u6 ⟨A6, n6, c6, A7, n7, c7, rfl, hI6, hI7, k6⟩
    rw [HM.out] at hI6 hI7 ⊢
    have j6 := bl_call k5 k6 (Nat.le_refl _)
    have d6 := D4.bl j6
    have w0 : u6.cell? ⟨u3.heap.size, 0, none⟩ = some (.slice A n ca) := d6.cell 0
    have w1 : u6.cell? ⟨u3.heap.size, 1, none⟩ = some (.slice B nt cb) := d6.cell 1
    have w2 : u6.cell? ⟨u3.heap.size, 2, none⟩ = some (.slice C' q' cq') := d6.cell 2
    go_wp2_with fail
    clear w0 w1 w2 d5
    refine (bwrong_any u6 (hD.keep (Keeps.below j6)) hca hcb).mono ?_
    rintro e u7 ⟨A8, n8, c8, rfl, hI8, k7⟩
    rw [HWR.out] at hI8 ⊢
    obtain rfl : 0 = n8 := hI8.len
    have j7 := bl_call j6 k7 (Nat.le_refl _)
    have d7 := D4.bl j7
    have w0 : u7.cell? ⟨u3.heap.size, 0, none⟩ = some (.slice A n ca) := d7.cell 0
    have w1 : u7.cell? ⟨u3.heap.size, 1, none⟩ = some (.slice B nt cb) := d7.cell 1
    have w2 : u7.cell? ⟨u3.heap.size, 2, none⟩ = some (.slice C' q' cq') := d7.cell 2
    go_wp2_with fail
    clear w0 w1 w2 d6 d7
    refine (bsets_any u7 (t0.bl (bl_call b4 j7 (Nat.le_refl _))) (hD.keep (Keeps.below j7)) hca hcb).mono ?_
    rintro e u8 ⟨A9, n9, c9, rfl, hR9, k8⟩
    rw [HS.out] at hR9 ⊢
    have j8 := bl_call j7 k8 (Nat.le_refl _)
    have s5 := ((hI5.keep IntR.good (Keeps.below k6)).keep IntR.good (Keeps.below k7)).keep IntR.good (Keeps.below k8)
    have s6 := (hI6.keep IntR.good (Keeps.below k7)).keep IntR.good (Keeps.below k8)
    have s7 := (hI7.keep IntR.good (Keeps.below k7)).keep IntR.good (Keeps.below k8)
    have sT := hT.keep IntR.good (Keeps.below j8)
    have D8 := D4.bl j8
    have b8 := bl_call b4 j8 (Nat.le_refl _)
    have X8 := X1.bl b8
    have sD := hD.keep (Keeps.below j8)
    clear hI5 hI6 hI7 hI8 k5 k6 k7 k8 j6 j7 j8 hD hT D4 b4
    go_wp2_with fail
    refine (lawpart_any _ s5 s7).mono ?_
    rintro e w' ⟨rfl, rfl⟩
    rw [hp1]
    go_wp2_with fail
    refine (lawpart_any _ s6 s5).mono ?_
    rintro e w' ⟨rfl, rfl⟩
    rw [hp2]
    have hTl := sT.le
    have hRl := hR9.le
    clear s6 s7 hp1 hp2
    go_wp2
    go_loopw [20] (fun i wr => ∃ k : Nat, k ≤ nt ∧ i = .int .i64 k ∧ Below u8.heap.size u8 wr) (fun i _ => nt - (intOf i).toNat)
    case atStart => exact ⟨0, Nat.zero_le _, rfl, Below.refl _ _⟩
    case round =>
      obtain ⟨k, hk, rfl, hB⟩ := hrel
      have b9 := bl_call b8 hB (Nat.le_refl _)
      have d9 := D8.bl hB
      have w0 : wr.cell? ⟨u3.heap.size, 0, none⟩ = some (.slice A n ca) := d9.cell 0
      have w1 : wr.cell? ⟨u3.heap.size, 1, none⟩ = some (.slice B nt cb) := d9.cell 1
      have w2 : wr.cell? ⟨u3.heap.size, 2, none⟩ = some (.slice C' q' cq') := d9.cell 2
      by_cases hlt : k < nt
      · have hki : (k : Int) < nt := by omega
        obtain ⟨lo, hi, ham, hin⟩ := Ham.out k hlt
        obtain ⟨bt, ot, ti, rfl, hct, Hti⟩ := Ints.get (sT.keep IntR.good (Keeps.below hB)) hlt
        rw [getD_of Hti.out] at hin
        go_wp2_with fail
        clear w0 w1 w2
        refine (bamount_any (k : Int) wr (sD.keep (Keeps.below hB)) hca hcb).mono ?_
        rintro e v1 ⟨rfl, k1⟩
        rw [ham]
        have hct1 := getc k1 hct
        obtain ⟨v2, hv2⟩ : ∃ v2, v1.alloc (.cells #[.int .i64 lo, .int .i64 hi] 44) = v2 := ⟨_, rfl⟩
        have G2 : Blk v2 v1.heap.size 44 #[.int .i64 lo, .int .i64 hi] := by rw [← hv2]; exact Blk.new _ _ _ rfl
        have k2 : Below wr.heap.size wr v2 := by rw [← hv2]; exact bl_alloc k1 _ (Nat.le_refl _)
        have hB2 := bl_call hB k2 (Nat.le_refl _)
        have z0 : v2.cell? ⟨v1.heap.size, 0, none⟩ = some (.int .i64 lo) := G2.c0
        have z1 : v2.cell? ⟨v1.heap.size, 1, none⟩ = some (.int .i64 hi) := G2.c1
        have z2 : v2.cell? ⟨bt, ot + k, none⟩ = some (.int .i64 ti) := getc k2 hct
        have kk : Hid (∀ W', Below v2.heap.size v2 W' → W'.cell? ⟨v1.heap.size, 0, none⟩ = some (.int .i64 lo) ∧ W'.cell? ⟨v1.heap.size, 1, none⟩ = some (.int .i64 hi) ∧ W'.cell? ⟨bt, ot + k, none⟩ = some (.int .i64 ti) ∧ Below v2.heap.size v2 W') := fun W' hb => ⟨getc hb z0, getc hb z1, getc hb z2, hb⟩
        clear k1 hct1 hct ham
        go_wp2
        clear hv2
        go_region_held3 (fun w' => w'.cell? ⟨v1.heap.size, 0, none⟩ = some (.int .i64 lo) ∧ w'.cell? ⟨v1.heap.size, 1, none⟩ = some (.int .i64 hi) ∧ w'.cell? ⟨bt, ot + k, none⟩ = some (.int .i64 ti) ∧ Below v2.heap.size v2 w')
          (first | exact kk.out _ (Below.refl _ _).drew | exact kk.out _ (Below.refl _ _) | exact kk.out _ p3)
          (first | (go_at_call 42; have hh := ‹_ ∧ _ ∧ _ ∧ Below v2.heap.size v2 _›; have hp := hh.2.2.2; clear hh; refine (inside_any _ _ _ _).mono ?_; rintro e v3 ⟨rfl, k3⟩; rw [hin]; have p3 := bl_call hp k3 (Nat.le_refl _)))
        rename_i hHeld
        clear hHeld
        go_wp2
        go_roundw
        case rel => exact ⟨k + 1, by omega, by go_num, bl_call hB2 p3 (Nat.le_refl _)⟩
        case measure => simp [intOf]; omega
      · have hki : ¬ (k : Int) < nt := by omega
        clear w0 w1 w2 d9
        obtain ⟨wo, rfl⟩ : ∃ wo : World, wo = wr := ⟨_, rfl⟩
        have hn64 : (n : Int) ≤ 5 := by omega
        go_wp2
        go_loopw [23] (fun i wr => ∃ k : Nat, k ≤ n ∧ i = .int .i64 k ∧ Below u8.heap.size u8 wr) (fun i _ => n - (intOf i).toNat)
        case atStart => exact ⟨0, Nat.zero_le _, rfl, hB⟩
        case round =>
          clear b9 hB
          obtain ⟨i, hi, rfl, hB⟩ := hrel
          have b9 := bl_call b8 hB (Nat.le_refl _)
          have d9 := D8.bl hB
          have w0 : wr.cell? ⟨u3.heap.size, 0, none⟩ = some (.slice A n ca) := d9.cell 0
          have w1 : wr.cell? ⟨u3.heap.size, 1, none⟩ = some (.slice B nt cb) := d9.cell 1
          have w2 : wr.cell? ⟨u3.heap.size, 2, none⟩ = some (.slice C' q' cq') := d9.cell 2
          have c0 : wr.cell? ⟨w.heap.size, 0, none⟩ = some (.slice A n ca) := (X8.bl hB).cell 0
          have c1 : wr.cell? ⟨w.heap.size, 1, none⟩ = some (.slice B nt cb) := (X8.bl hB).cell 1
          have c2 : wr.cell? ⟨w.heap.size, 2, none⟩ = some (.slice C q cc) := (X8.bl hB).cell 2
          by_cases hlt2 : i < n
          · have hii : (i : Int) < n := by omega
            obtain ⟨lo, hi', hva, hin⟩ := Hva.out i hlt2
            have hif : i < c.feats.length := by rw [Hn.out]; exact hlt2
            obtain ⟨L, hL⟩ : ∃ L, len c t i = L := ⟨_, rfl⟩
            rw [hL] at hin
            have HL := Lib.hid hL
            clear hL
            go_wp2_with fail
            clear w0 w1 w2
            refine (bvalue_any (i : Int) wr (sD.keep (Keeps.below hB)) hca hcb).mono ?_
            rintro e v1 ⟨rfl, k1⟩
            rw [hva]
            obtain ⟨v2, hv2⟩ : ∃ v2, v1.alloc (.cells #[.int .i64 lo, .int .i64 hi'] 44) = v2 := ⟨_, rfl⟩
            have G2 : Blk v2 v1.heap.size 44 #[.int .i64 lo, .int .i64 hi'] := by rw [← hv2]; exact Blk.new _ _ _ rfl
            have k2 : Below wr.heap.size wr v2 := by rw [← hv2]; exact bl_alloc k1 _ (Nat.le_refl _)
            have hB2 := bl_call hB k2 (Nat.le_refl _)
            have b10 := bl_call b8 hB2 (Nat.le_refl _)
            have z0 : v2.cell? ⟨v1.heap.size, 0, none⟩ = some (.int .i64 lo) := G2.c0
            have z1 : v2.cell? ⟨v1.heap.size, 1, none⟩ = some (.int .i64 hi') := G2.c1
            have c0 := getc k2 c0
            have c1 := getc k2 c1
            have c2 := getc k2 c2
            have kk : Hid (∀ W', Below v2.heap.size v2 W' → W'.cell? ⟨v1.heap.size, 0, none⟩ = some (.int .i64 lo) ∧ W'.cell? ⟨v1.heap.size, 1, none⟩ = some (.int .i64 hi') ∧ W'.cell? ⟨w.heap.size, 0, none⟩ = some (.slice A n ca) ∧ W'.cell? ⟨w.heap.size, 1, none⟩ = some (.slice B nt cb) ∧ W'.cell? ⟨w.heap.size, 2, none⟩ = some (.slice C q cc) ∧ Below v2.heap.size v2 W') := fun W' hb => ⟨getc hb z0, getc hb z1, getc hb c0, getc hb c1, getc hb c2, hb⟩
            have sT2 := sT.keep IntR.good (Keeps.below hB2)
            clear k1 hva
            go_wp2
            clear hv2
            go_region_held3 (fun w' => w'.cell? ⟨v1.heap.size, 0, none⟩ = some (.int .i64 lo) ∧ w'.cell? ⟨v1.heap.size, 1, none⟩ = some (.int .i64 hi') ∧ w'.cell? ⟨w.heap.size, 0, none⟩ = some (.slice A n ca) ∧ w'.cell? ⟨w.heap.size, 1, none⟩ = some (.slice B nt cb) ∧ w'.cell? ⟨w.heap.size, 2, none⟩ = some (.slice C q cc) ∧ Below v2.heap.size v2 w')
              (first | exact kk.out _ (Below.refl _ _).drew | exact kk.out _ (Below.refl _ _) | exact kk.out _ p3 | exact kk.out _ p4)
              (first | (go_at_call 43; have hh := ‹_ ∧ _ ∧ _ ∧ _ ∧ _ ∧ Below v2.heap.size v2 _›; have hp := hh.2.2.2.2.2; clear hh; refine (length_any i _ (e1.keep (Keeps.below (bl_call b10 hp (Nat.le_refl _)))) HOKC.out (sT2.keep IntR.good (Keeps.below hp)) htr hif).mono ?_; rintro e v3 ⟨rfl, k3⟩; rw [HL.out]; have p3 := bl_call hp k3 (Nat.le_refl _)) | (go_at_call 42; refine (inside_any _ _ _ _).mono ?_; rintro e v4 ⟨rfl, k4⟩; rw [hin]; have p4 := bl_call p3 k4 (Nat.le_refl _)))
            rename_i hHeld
            clear hHeld
            go_wp2
            go_roundw
            case rel => exact ⟨i + 1, by omega, by go_num, bl_call hB2 p4 (Nat.le_refl _)⟩
            case measure => simp [intOf]; omega
          · have hii : ¬ (i : Int) < n := by omega
            clear w0 w1 w2 c1 c2
            have sR := hR9.keep (SlR.good IntR.good) (Keeps.below hB)
            have sS := s5.keep IntR.good (Keeps.below hB)
            have Hr := Lib.hid sR.len
            obtain ⟨wp, rfl⟩ : ∃ wp : World, wp = wr := ⟨_, rfl⟩
            go_wp2
            go_loop [26] (fun j => ∃ k : Nat, k ≤ n9 ∧ j = .int .i64 k ∧ Hid (((setsL d).take k).all (fun s => !partL s (setL t)) = true)) (fun j => n9 - (intOf j).toNat)
            case atStart => exact ⟨0, Nat.zero_le _, rfl, rfl⟩
            case round =>
              obtain ⟨j, hj, rfl, Hj⟩ := hrel
              by_cases hlt3 : j < n9
              · have hji : (j : Int) < n9 := by omega
                obtain ⟨bs, os, s, As, ns, cs, rfl, hcs, hV, Hs⟩ := Rows.get sR hlt3
                cases hps : partL s (setL t)
                · have Hj2 : Hid (((setsL d).take (j + 1)).all (fun s => !partL s (setL t)) = true) := by rw [Hid, take_snoc_get Hs.out, List.all_append, Hj.out]; simp [hps]
                  go_wp2_with fail
                  refine (lawpart_any _ hV sS).mono ?_
                  rintro e w' ⟨rfl, rfl⟩
                  rw [hps]
                  go_wp2
                  go_round
                  case rel => exact ⟨j + 1, by omega, by go_num, Hj2⟩
                  case measure => simp [intOf]; omega
                · go_wp2_with fail
                  refine (lawpart_any _ hV sS).mono ?_
                  rintro e w' ⟨rfl, rfl⟩
                  rw [hps]
                  go_wp2_with fail
                  refine (awake_any _ (t0.bl b9)).mono ?_
                  rintro e u9 ⟨rfl, k9⟩
                  go_wp2
                  go_ret
                  exact ⟨rfl, bl_call (bl_call hB0 b9 (Nat.le_refl _)) k9 (Nat.le_refl _)⟩
              · exfalso
                obtain ⟨s, hs, hps⟩ := Hsome.out
                have hall := Hj.out
                rw [List.take_of_length_le (by rw [Hr.out]; omega), List.all_eq_true] at hall
                have := hall s hs
                rw [hps] at this
                cases this
  · have hv : ((check c).2.2 == 0) = false := by have he' : (check c).2.2 ≠ 0 := he; simpa using he'
    have HM := Lib.hid (must_bad he)
    obtain ⟨e0, hee⟩ : ∃ e0, err c = e0 := ⟨_, rfl⟩
    rw [hee] at he HM
    have h1 : (e0 != 0) = true := by simpa using he
    clear he hee
    go_enter Tryd.func7, Tryd.ntmps7
    go_wp2_with fail
    rw [HW0.out]
    refine (valid_any W0 e1).mono ?_
    rintro e u1 ⟨rfl, b1⟩
    rw [hv]
    have r0 := getc b1 q0
    have r1 := getc b1 q1
    have r2 := getc b1 q2
    go_wp2_with fail
    refine (bmust_any u1 (t0.bl b1) (e1.keep (Keeps.below b1)) hca hcb).mono ?_
    rintro e u2 ⟨A1, n1, c1, A2, n2, c2, rfl, _, _, b2⟩
    rw [HM.out]
    have b2 := bl_call b1 b2 (Nat.le_refl _)
    go_wp2_with fail
    refine (awake_any _ (t0.bl b2)).mono ?_
    rintro e u4 ⟨rfl, b4⟩
    go_wp2
    go_ret
    exact ⟨rfl, bl_call (bl_call hB0 b2 (Nat.le_refl _)) b4 (Nat.le_refl _)⟩

end Go.Proofs.YtkbpmcpmcmnfgaaDoor
