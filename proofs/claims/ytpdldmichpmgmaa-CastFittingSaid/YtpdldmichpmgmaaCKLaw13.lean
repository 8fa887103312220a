/- Walks, layer 7: the law CastFitting. -/
import Derived.Test.YtpdldmichpmgmaaCKAppL
import Derived.Test.YtpdldmichpmgmaaCKFitC
import Derived.Test.YtpdldmichpmgmaaCKFttP
import Derived.Test.YtpdldmichpmgmaaCKLaw4
import Derived.Test.YtpdldmichpmgmaaCKOut5
import Derived.Test.YtpdldmichpmgmaaCKOuts
import Derived.Test.YtpdldmichpmgmaaCKRefs1
import Derived.Test.YtpdldmichpmgmaaCKStE
import Derived.Test.YtpdldmichpmgmaaCTRegs
set_option linter.unusedVariables false
set_option linter.unusedSimpArgs false
set_option linter.all false
namespace Go.Proofs.Ytpdldmichpmgmaa
open Go.RowKit Go.Shelf

theorem fit_in {s : Shop} {l : List SeenC} {m c : Nat} {a z : Int} (hk : OkS s) (h : (m, c) ∈ fit7 s l a z) : m < s.moulds.length ∧ c < castsN s m := by
  unfold fit7 at h
  rw [List.mem_filter, places_mem] at h
  have hcs := castsN_bd hk (m := m) h.1.1
  exact ⟨h.1.1, by have := h.1.2; dsimp only at this; omega⟩
theorem there_of {s : Shop} {m c : Nat} (hk : OkS s) (hm : m < s.moulds.length) (hc : c < castsN s m) : there7 s (m : Int) (c : Int) = true := by
  have hcs := castsN_bd hk (m := m) hm
  unfold there7
  rw [Bool.and_eq_true, inB_iff, inB_iff]
  simp only [Int.toNat_natCast]
  omega
theorem fit_nodup {s : Shop} {l : List SeenC} {a z : Int} : (fit7 s l a z).Nodup := (places_nodup s).filter _
theorem take_fresh {α : Type} : ∀ {L : List α} {i : Nat} {x : α}, L.Nodup → L[i]? = some x → x ∉ L.take i
  | [], i, x, _, h => by simp at h
  | y :: L, 0, x, _, _ => by simp
  | y :: L, i + 1, x, hn, h => by
    rw [List.nodup_cons] at hn
    have h2 : L[i]? = some x := by simpa using h
    rw [List.take_succ_cons, List.mem_cons]
    rintro (e | e)
    · subst e; exact hn.1 (List.mem_of_getElem? h2)
    · exact take_fresh hn.2 h2 e
/-- what the operations promise that put one more cast that is seen behind the others; 12: the append -/
def fitE (B : Nat) (lv pt : Value) (pv sb mx a z : Int) (q : Nat) (l : List SeenC) (m c : Nat) : Nat → Bool → Value → World → Prop
  | 0, p, v, W => p = true ∨ ∃ g, B ≤ g ∧ v = .slice (some ⟨g, 0, none⟩) 0 0 ∧ Blk W g 53 #[]
  | 1, _, v, _ => v = lv
  | 2, p, v, W => p = true ∨ ∃ A c, v = .slice A q c ∧ OwnL SeenCR 4 (fun _ => False) W B 53 v l
  | 3, _, v, _ => v = .int .i64 m
  | 4, _, v, _ => v = .int .i64 c
  | 5, _, v, _ => v = pt
  | 6, _, v, _ => v = .int .i64 pv
  | 7, _, v, _ => v = .int .i64 sb
  | 8, _, v, _ => v = .int .i64 mx
  | 9, _, v, _ => v = .agg #[.int .i64 a, .int .i64 z]
  | 10, _, v, _ => v = .agg #[.int .i64 m, .int .i64 c, .int .i64 a, .int .i64 z]
  | 11, p, v, W => p = true ∨ ∃ g, v = .slice (some ⟨g, 0, none⟩) 1 1 ∧ Blk W g 53 #[.int .i64 m, .int .i64 c, .int .i64 a, .int .i64 z]
  | 12, _, v, W => ∃ A c', v = .slice A (q + 1) c' ∧ SeenCs (fun k => B ≤ k) W A (q + 1) (l ++ [(⟨(m : Int), (c : Int), a, z⟩ : SeenC)])
  | _, _, _, _ => True
theorem fitE_stab (B : Nat) (lv pt : Value) (pv sb mx a z : Int) (q : Nat) (l : List SeenC) (m c : Nat) : ∀ i p v w w', Below w.heap.size w w' → fitE B lv pt pv sb mx a z q l m c i p v w → fitE B lv pt pv sb mx a z q l m c i p v w'
  | 0, _, _, _, _, hb, h => h.imp id fun ⟨g, h1, h2, h3⟩ => ⟨g, h1, h2, h3.bl hb⟩
  | 2, _, _, _, _, hb, h => h.imp id fun ⟨A, c, h1, h2⟩ => ⟨A, c, h1, h2.below SeenCR.good hb⟩
  | 11, _, _, _, _, hb, h => h.imp id fun ⟨g, h1, h2⟩ => ⟨g, h1, h2.bl hb⟩
  | 12, _, _, _, _, hb, ⟨A, c, h1, h2⟩ => ⟨A, c, h1, h2.keep SeenCR.good (Keeps.below hb)⟩
  | 1, _, _, _, _, _, h => h
  | 3, _, _, _, _, _, h => h
  | 4, _, _, _, _, _, h => h
  | 5, _, _, _, _, _, h => h
  | 6, _, _, _, _, _, h => h
  | 7, _, _, _, _, _, h => h
  | 8, _, _, _, _, _, h => h
  | 9, _, _, _, _, _, h => h
  | 10, _, _, _, _, _, h => h
  | _ + 13, _, _, _, _, _, _ => trivial

set_option maxRecDepth 100000 in
set_option maxHeartbeats 8000000 in
theorem fittingLaw_any {A XA XB : Option Addr} {n ca xn xc xm xd : Nat} {s : Shop} {klo khi : Int} {xs ys : List Nat} (pa pz : Int) (w : World) (g : Moulds (fun _ => True) w A n s.moulds) (hX : Bytes (fun _ => True) w XA xn xs) (hY : Bytes (fun _ => True) w XB xm ys) (hca : n ≤ ca) (h1 : s.klo = klo) (h2 : s.khi = khi) :
    Calls Try.prog 3 #[.agg #[.int .i64 klo, .int .i64 khi, .slice A n ca], .agg #[.slice XA xn xc, .slice XB xm xd], .agg #[.int .i64 pa, .int .i64 pz]] w fun e w' => e = .returned (.bool true) ∧ Below w.heap.size w w' := by
  obtain ⟨W, hW⟩ : ∃ W, ((w.alloc (.cells #[.int .i64 klo, .int .i64 khi, .slice A n ca] 26)).alloc (.cells #[.slice XA xn xc, .slice XB xm xd] 29)).alloc (.cells #[.int .i64 pa, .int .i64 pz] 23) = W := ⟨_, rfl⟩
  have X : Blk W w.heap.size 26 #[.int .i64 klo, .int .i64 khi, .slice A n ca] := by rw [← hW]; exact ((Blk.new _ _ _ rfl).alloc _).alloc _
  have Z : Blk W (w.heap.size + 1) 29 #[.slice XA xn xc, .slice XB xm xd] := by rw [← hW]; exact (Blk.new _ _ _ (by simp)).alloc _
  have U : Blk W (w.heap.size + 1 + 1) 23 #[.int .i64 pa, .int .i64 pz] := by rw [← hW]; exact Blk.new _ _ _ (by simp)
  have hBW : Below w.heap.size w W := by rw [← hW]; exact bl_alloc (bl_alloc (bl_alloc (Below.refl _ _) _ (Nat.le_refl _)) _ (Nat.le_refl _)) _ (Nat.le_refl _)
  have HG : Hid (∀ V, Below W.heap.size W V → Moulds (fun _ => True) V A n s.moulds) := fun V hb => (g.keep MouldR.good (Keeps.below hBW)).keep MouldR.good (Keeps.below hb)
  have HXS : Hid (∀ V, Below W.heap.size W V → Bytes (fun _ => True) V XA xn xs) := fun V hb => (hX.keep ByteR.good (Keeps.below hBW)).keep ByteR.good (Keeps.below hb)
  have HYS : Hid (∀ V, Below W.heap.size W V → Bytes (fun _ => True) V XB xm ys) := fun V hb => (hY.keep ByteR.good (Keeps.below hBW)).keep ByteR.good (Keeps.below hb)
  have kk : Hid (∀ V, Below W.heap.size W V → V.cell? ⟨w.heap.size, 0, none⟩ = some (.int .i64 klo) ∧ V.cell? ⟨w.heap.size, 1, none⟩ = some (.int .i64 khi) ∧ V.cell? ⟨w.heap.size, 2, none⟩ = some (.slice A n ca) ∧ V.cell? ⟨w.heap.size + 1, 0, none⟩ = some (.slice XA xn xc) ∧ V.cell? ⟨w.heap.size + 1, 1, none⟩ = some (.slice XB xm xd) ∧ V.cell? ⟨w.heap.size + 1 + 1, 0, none⟩ = some (.int .i64 pa) ∧ V.cell? ⟨w.heap.size + 1 + 1, 1, none⟩ = some (.int .i64 pz)) :=
    fun V hb => ⟨(X.bl hb).cell 0, (X.bl hb).cell 1, (X.bl hb).cell 2, (Z.bl hb).cell 0, (Z.bl hb).cell 1, (U.bl hb).cell 0, (U.bl hb).cell 1⟩
  have Hn := Lib.hid g.len
  have hnl := g.le
  clear X Z U g hX hY
  obtain ⟨x0, x1, x2, y0, y1, y2, y3⟩ := kk.out W (Below.refl _ _)
  go_enter Try.func3, Try.ntmps3
  go_wp2_with fail
  clear hW x0 x1 x2 y0 y1 y2 y3
  refine (valid7_any W (HG.out W (Below.refl _ _)) h1 h2).mono ?_
  rintro e V1 ⟨rfl, b1⟩
  obtain ⟨x0, x1, x2, y0, y1, y2, y3⟩ := kk.out V1 b1
  by_cases he : err7 s = 0
  · have heb : (err7 s == 0) = true := by rw [he]; rfl
    rw [heb]
    have HE : Hid ((check7 s).2.2 = 0) := he
    have hok := okS_of HE.out
    have HOK := Lib.hid hok
    have HTR := Lib.hid (any_truth hok xs)
    clear he heb
    go_wp2_with fail
    refine (range_any pa pz 0 20000 V1).mono ?_
    rintro e V1b ⟨rfl, c1⟩
    replace b1 := bl_call b1 c1 (Nat.le_refl _)
    clear x0 x1 x2 y0 y1 y2 y3
    obtain ⟨x0, x1, x2, y0, y1, y2, y3⟩ := kk.out V1b b1
    obtain ⟨er, her⟩ : ∃ x, rangeE ⟨pa, pz⟩ 0 20000 = x := ⟨_, rfl⟩
    rw [her]
    clear c1
    by_cases hr : er = 0
    · have HR : Hid (rangeE ⟨pa, pz⟩ 0 20000 = 0) := her.trans hr
      subst hr
      clear her
      go_wp2_with fail
      clear x0 x1 x2 y0 y1 y2 y3
      refine (any7_any V1b (HG.out V1b b1) (HXS.out V1b b1) h1 h2 hok).mono ?_
      rintro e V2 ⟨⟨T, tc, rfl, hT⟩, c2⟩
      have b2 := bl_call b1 c2 (Nat.le_refl _)
      obtain ⟨k0, hk0⟩ : ∃ x, anyS7 s xs = x := ⟨_, rfl⟩
      obtain ⟨tw, htw⟩ : ∃ x, anyT7 s xs = x := ⟨_, rfl⟩
      rw [hk0, htw] at HTR
      rw [htw] at hT
      rw [hk0, htw]
      have Htn : Hid (tw.length = n) := HTR.out.len.trans Hn.out
      rw [Htn.out] at hT
      rw [Htn.out]
      obtain ⟨gT, hgT⟩ : ∃ x, V2.heap.size = x := ⟨_, rfl⟩
      obtain ⟨V3, hV3⟩ : ∃ V, V2.alloc (.cells #[.int .i64 k0, .slice T n tc] 39) = V := ⟨_, rfl⟩
      have S3 : Blk V3 gT 39 #[.int .i64 k0, .slice T n tc] := by rw [← hV3]; exact Blk.new _ _ _ hgT.symm
      have b3 : Below W.heap.size W V3 := by rw [← hV3]; exact bl_alloc b2 _ (Nat.le_refl _)
      have hT3 : Pairs (fun _ => True) V3 T n tw := by rw [← hV3]; exact (hT.keep PairR.good (Keeps.alloc _ _)).mono PairR.good (fun _ _ => trivial)
      obtain ⟨x0, x1, x2, y0, y1, y2, y3⟩ := kk.out V3 b3
      have s0 := S3.cell 0
      have s1 := S3.cell 1
      clear hk0 htw hT c2
      go_wp2_with fail
      clear x0 x1 x2 y0 y1 y2 y3 s0 s1 hV3 hgT
      have HBD := Lib.hid (truth_bd hok HTR.out)
      have HKB := Lib.hid (truth_k hok HTR.out)
      refine (told7_any V3 (HG.out V3 b3) (HYS.out V3 b3) hT3 hok Hn.out.symm HBD.out HKB.out).mono ?_
      rintro e V4 ⟨⟨C, cc, rfl, hS⟩, c4⟩
      have b4 := bl_call b3 c4 (Nat.le_refl _)
      obtain ⟨l, hl⟩ : ∃ x, toldL7 s k0 tw ys = x := ⟨_, rfl⟩
      have HSI : Hid (∀ y ∈ l, SeenIn s k0 tw y) := by rw [← hl]; exact toldL_seen hok HTR.out ys
      have HL6 : Hid (l.length ≤ 6) := by rw [← hl]; exact toldL_len _ _ _ _
      rw [hl] at hS
      rw [hl]
      obtain ⟨q, hq⟩ : ∃ x, l.length = x := ⟨_, rfl⟩
      rw [hq] at hS
      rw [hq]
      have HSN : Hid (seen7 s l = (0, 0)) := seen_ok HE.out HL6.out HSI.out
      have hs0 : (seen7 s l).2 = 0 := by rw [HSN.out]
      have hkn := truth_known hok HTR.out HSI.out
      have hne := List.ne_nil_of_mem hkn
      have HS : Hid (∀ V, Below V4.heap.size V4 V → SeenCs (fun _ => True) V C q l) := fun V hb => (hS.keep SeenCR.good (Keeps.below hb)).mono SeenCR.good (fun _ _ => trivial)
      have HTV : Hid (∀ V, Below V4.heap.size V4 V → Pairs (fun _ => True) V T n tw) := fun V hb => hT3.keep PairR.good (Keeps.below (bl_call c4 hb (Nat.le_refl _)))
      have S4 := Lib.hid (S3.bl c4)
      have HKN := Lib.hid hkn
      have HB4 := Lib.hid b4
      have HSH := Lib.hid (shrinksR_n hs0 hne)
      have HSZ : Hid (∀ m c : Nat, m < n → c < castsN s m → sizesR s l m c = (size7 s l m c, 0) ∧ (size7 s l m c).1 ≤ madeT k0 tw m c ∧ madeT k0 tw m c ≤ (size7 s l m c).2) := fun m c hm hc => by
        rw [← Hn.out] at hm
        exact ⟨sizesR_in hs0 hok hm hc hne, truth_size hok HTR.out HSI.out hm c⟩
      clear hl hq hS hT3 S3 c4 hs0 hkn hne b3 b4 b2 b1
      obtain ⟨x0, x1, x2, y0, y1, y2, y3⟩ := kk.out V4 HB4.out
      go_wp2_with fail
      clear x0 x1 x2 y0 y1 y2 y3
      refine (kFits_cap pa pz V4 (HG.out V4 HB4.out) (HS.out V4 (Below.refl _ _)) hca h1 h2).mono ?_
      rw [fitsR_n (by rw [HSN.out]) HR.out (List.ne_nil_of_mem HKN.out)]
      rintro e V5 ⟨⟨D, kc, rfl, hD, hcap⟩, c5⟩
      obtain ⟨L, hLL⟩ : ∃ x, fit7 s l pa pz = x := ⟨_, rfl⟩
      have HLL := Lib.hid hLL
      dsimp only at hD hcap
      rw [hLL] at hD hcap
      dsimp only
      rw [hLL]
      obtain ⟨fn, hfn⟩ : ∃ x, L.length = x := ⟨_, rfl⟩
      rw [hfn] at hD hcap
      rw [hfn]
      have HFN := Lib.hid hfn
      have HD : Hid (∀ V, Below V5.heap.size V5 V → Pls (fun _ => True) V D fn L) := fun V hb => (hD.keep PlR.good (Keeps.below hb)).mono PlR.good (fun _ _ => trivial)
      have hfl := hD.le
      have HB5 : Hid (Below W.heap.size W V5) := bl_call HB4.out c5 (Nat.le_refl _)
      have H45 : Hid (Below V4.heap.size V4 V5) := c5
      have hb3 := rangeE_ok HR.out
      have hpa : 0 ≤ pa ∧ pa ≤ 20000 ∧ 0 ≤ pz ∧ pz ≤ 20000 := by omega
      have HQL : Hid (l.length = q) := by have := (HS.out V4 (Below.refl _ _)).len; exact this
      have hq6 : q ≤ 6 := by rw [← HQL.out]; exact HL6.out
      have hn4 : n ≤ 4 := by rw [← Hn.out]; exact HOK.out.nm.2
      clear hLL hfn hD c5 hb3
      obtain ⟨x0, x1, x2, _, _, y2, y3⟩ := kk.out V5 HB5.out
      go_wp2_with fail
      clear x0 x1 x2 y2 y3
      go_loopw [13] (fun i wr => ∃ m : Nat, m ≤ n ∧ i = .int .i64 m ∧ Hid (Below V5.heap.size V5 wr)) (fun i _ => n - (intOf i).toNat)
      case atStart => exact ⟨0, Nat.zero_le _, rfl, Below.refl _ _⟩
      case round =>
        obtain ⟨m, hmn, rfl, HBm⟩ := hrel
        have b6 := bl_call HB5.out HBm.out (Nat.le_refl _)
        obtain ⟨x0, x1, x2, _, _, y2, y3⟩ := kk.out wr b6
        by_cases hlt : m < n
        · have hmi : (m : Int) < n := by omega
          go_wp2_with fail
          clear x0 x1 x2 y2 y3
          obtain ⟨Wm, hWm⟩ : ∃ Wm : World, Wm = wr := ⟨_, rfl⟩
          subst hWm
          have HB6 := Lib.hid b6
          clear b6
          go_loopw [14] (fun i wr => ∃ c : Nat, c ≤ castsN s m ∧ i = .int .i64 c ∧ Hid (Below Wm.heap.size Wm wr)) (fun i _ => castsN s m - (intOf i).toNat)
          case atStart => exact ⟨0, Nat.zero_le _, rfl, Below.refl _ _⟩
          case round =>
            obtain ⟨c, hcn, rfl, HBc⟩ := hrel
            have b7 := bl_call HB6.out HBc.out (Nat.le_refl _)
            obtain ⟨x0, x1, x2, _, _, y2, y3⟩ := kk.out wr b7
            obtain ⟨bM, oM, sn, ma, mz, my, mu, ct, hAe, hbM, e0, e1, e2, e3, e4, e5, hss, HxM⟩ := Moulds.get (HG.out wr b7) hlt
            subst hAe
            have hcs := castsN_bd HOK.out (m := m) (by rw [Hn.out]; exact hlt)
            rw [getD_of HxM.out] at hcs
            dsimp only at hcs
            obtain ⟨hcs1, hcs8, hcsE⟩ := hcs
            clear hss hbM e0 e1 e2 e3 e4
            by_cases hlt2 : c < castsN s m
            · have hci : (c : Int) < ct := by omega
              have hc8 : c ≤ 8 := by omega
              go_wp2_with fail
              clear x0 x1 x2 y2 y3 e5
              refine (at7_any (m : Int) (c : Int) wr).mono ?_
              rintro e V6 ⟨rfl, c6⟩
              go_wp2_with fail
              have b56 : Below V5.heap.size V5 V6 := bl_call HBm.out (bl_call HBc.out c6 (Nat.le_refl _)) (Nat.le_refl _)
              refine (has7_any (m, c) V6 (HD.out V6 b56)).mono ?_
              rintro e V7 ⟨rfl, c7⟩
              have HM7 : Hid (Below Wm.heap.size Wm V7) := bl_call HBc.out (bl_call c6 c7 (Nat.le_refl _)) (Nat.le_refl _)
              have H57 : Hid (Below V5.heap.size V5 V7) := bl_call HBm.out HM7.out (Nat.le_refl _)
              have H47 : Hid (Below V4.heap.size V4 V7) := bl_call H45.out H57.out (Nat.le_refl _)
              have HB7 : Hid (Below W.heap.size W V7) := bl_call HB5.out H57.out (Nat.le_refl _)
              clear b56 c6 c7 b7 hcn HBc
              obtain ⟨iS, hiS, hzS0, hzS1, hzS2⟩ := info_parts infoSeenC
              obtain ⟨nn, hnn⟩ : ∃ x, madeT k0 tw m c = x := ⟨_, rfl⟩
              have HNN := Lib.hid hnn
              clear hnn
              have hmS : m < s.moulds.length := by rw [Hn.out]; exact hlt
              have HMS := Lib.hid hmS
              have HCM : Hid (∀ V, Below V7.heap.size V7 V → Calls Try.prog 14 #[.agg #[.int .i64 k0, .slice T n tc], .agg #[.int .i64 m, .int .i64 c]] V fun e w' => e = .returned (.int .i64 nn) ∧ Below V.heap.size V w') := fun V hb => by
                have hmt : m < tw.length := by rw [Htn.out]; exact hlt
                have hx : tw[m]? = some (tw[m]) := List.getElem?_eq_getElem hmt
                obtain ⟨p1, p2⟩ := HBD.out _ (List.getElem_mem hmt)
                have := lmade7_any (tc := tc) (c := c) V (HTV.out V (bl_call H47.out hb (Nat.le_refl _))) (a := (tw[m]).1) (v := (tw[m]).2) hx p1 p2 hc8 HKB.out
                rw [show made7 (tw[m]).1 (tw[m]).2 (c : Int) k0 = nn by rw [← HNN.out, madeT, getD_of hx]] at this
                exact this
              have ks : Hid (∀ V, Below V7.heap.size V7 V → V.cell? ⟨gT, 0, none⟩ = some (.int .i64 k0) ∧ V.cell? ⟨gT, 1, none⟩ = some (.slice T n tc)) := fun V hb => ⟨(S4.out.bl (bl_call H47.out hb (Nat.le_refl _))).cell 0, (S4.out.bl (bl_call H47.out hb (Nat.le_refl _))).cell 1⟩
              clear hmS
              dsimp only
              by_cases hin : (m, c) ∈ L
              · have HIB : Hid (inB nn pa pz = true) := by
                  rw [Hid, inB_iff, ← HNN.out]
                  exact fitting_is HOK.out HTR.out HSI.out HMS.out hlt2 (by rw [HLL.out]; exact hin)
                rw [decide_eq_true hin]
                go_wp2_with fail
                refine wp_frameT ?_
                intro a0 ha0
                have tb5 : a0.tmps[5]? = some (.pointer (some ⟨w.heap.size + 1 + 1, 0, none⟩)) := by rw [ha0]; kernel_rfl
                have tb9 : a0.tmps[9]? = some (.pointer (some ⟨gT, 0, none⟩)) := by rw [ha0]; kernel_rfl
                have tb13 : a0.tmps[13]? = some (.int .i64 (m : Int)) := by rw [ha0]; kernel_rfl
                have tb14 : a0.tmps[14]? = some (.int .i64 (c : Int)) := by rw [ha0]; kernel_rfl
                have tb15 : a0.tmps[15]? = some (.bool true) := by rw [ha0]; kernel_rfl
                have hsz : a0.tmps.size = 187 := by rw [ha0]; kernel_rfl
                refine wp_region_list (fun W => Below V7.heap.size V7 W) (fun w w' => Below w.heap.size w w')
                  [isV (.bool true), isV (.bool true), isV (.agg #[.int .i64 k0, .slice T n tc]), isV (.int .i64 (m : Int)), isV (.int .i64 (c : Int)), isV (.agg #[.int .i64 (m : Int), .int .i64 (c : Int)]), isV (.int .i64 nn), isV (.agg #[.int .i64 pa, .int .i64 pz]), isV (.bool true), isV (.bool false), isV (.bool false)]
                  (by kernel_rfl) (by kernel_rfl) (by kernel_rfl) (by simp) (by simp) (Below.refl _ _).drew ?stabP ?stepP ?finP
                case stabP => exact (StabL.is (StabL.is (StabL.is (StabL.is (StabL.is (StabL.is (StabL.is (StabL.is (StabL.is (StabL.is (StabL.is StabL.nil)))))))))))
                case stepP =>
                  refine StepsL.isA ?_ (StepsL.isA ?_ (StepsL.isA ?_ (StepsL.isA ?_ (StepsL.isA ?_ (StepsL.isA ?_ (StepsL.isA ?_ (StepsL.isA ?_ (StepsL.isA ?_ (StepsL.isA ?_ (StepsL.isA ?_ StepsL.nil))))))))))
                  · -- 0
                    intro vs a W K ha hC hD hU hK
                    have r15 : a.tmps[15]? = some (.bool true) := by rw [ha, fillA_base0 (by kernel_rfl)]; exact tb15
                    clear ha hU hD ha0
                    rw [if_pos (by rfl)]
                    go_simp
                    exact hK _ hC (Below.refl _ _)
                  · -- 1
                    intro vs a W K ha hC hD hU hK
                    have r84 : a.tmps[84]? = some (vs 0) := by rw [ha]; exact fillA_get0 (j := 0) (by kernel_rfl) (by rw [hsz]; decide)
                    have q0 : vs 0 = .bool true := hD 0 (by simp [waits, Region.binds])
                    rw [q0] at r84
                    clear ha hU hD ha0
                    rw [if_pos (by rfl)]
                    go_simp
                    exact hK _ hC (Below.refl _ _)
                  · -- 2
                    intro vs a W K ha hC hD hU hK
                    have r85 : a.tmps[85]? = some (vs 1) := by rw [ha]; exact fillA_get0 (j := 1) (by kernel_rfl) (by rw [hsz]; decide)
                    have q1 : vs 1 = .bool true := hD 1 (by simp [waits, Region.binds])
                    rw [q1] at r85
                    have r9 : a.tmps[9]? = some (.pointer (some ⟨gT, 0, none⟩)) := by rw [ha, fillA_base0 (by kernel_rfl)]; exact tb9
                    clear ha hU hD ha0
                    rw [if_pos (by simp [Region.wanted, yielded, r85])]
                    obtain ⟨kt0, kt1⟩ := ks.out W hC
                    obtain ⟨k1, k2, k3, _, _, k6, k7⟩ := kk.out W (bl_call HB7.out hC (Nat.le_refl _))
                    go_simp
                    exact hK _ hC (Below.refl _ _)
                  · -- 3
                    intro vs a W K ha hC hD hU hK
                    have r85 : a.tmps[85]? = some (vs 1) := by rw [ha]; exact fillA_get0 (j := 1) (by kernel_rfl) (by rw [hsz]; decide)
                    have q1 : vs 1 = .bool true := hD 1 (by simp [waits, Region.binds])
                    rw [q1] at r85
                    have r13 : a.tmps[13]? = some (.int .i64 (m : Int)) := by rw [ha, fillA_base0 (by kernel_rfl)]; exact tb13
                    clear ha hU hD ha0
                    rw [if_pos (by simp [Region.wanted, yielded, r85])]
                    go_simp
                    exact hK _ hC (Below.refl _ _)
                  · -- 4
                    intro vs a W K ha hC hD hU hK
                    have r85 : a.tmps[85]? = some (vs 1) := by rw [ha]; exact fillA_get0 (j := 1) (by kernel_rfl) (by rw [hsz]; decide)
                    have q1 : vs 1 = .bool true := hD 1 (by simp [waits, Region.binds])
                    rw [q1] at r85
                    have r14 : a.tmps[14]? = some (.int .i64 (c : Int)) := by rw [ha, fillA_base0 (by kernel_rfl)]; exact tb14
                    clear ha hU hD ha0
                    rw [if_pos (by simp [Region.wanted, yielded, r85])]
                    go_simp
                    exact hK _ hC (Below.refl _ _)
                  · -- 5
                    intro vs a W K ha hC hD hU hK
                    have r85 : a.tmps[85]? = some (vs 1) := by rw [ha]; exact fillA_get0 (j := 1) (by kernel_rfl) (by rw [hsz]; decide)
                    have q1 : vs 1 = .bool true := hD 1 (by simp [waits, Region.binds])
                    rw [q1] at r85
                    have r87 : a.tmps[87]? = some (vs 3) := by rw [ha]; exact fillA_get0 (j := 3) (by kernel_rfl) (by rw [hsz]; decide)
                    have q3 : vs 3 = .int .i64 (m : Int) := hD 3 (by simp [waits, Region.binds])
                    rw [q3] at r87
                    have r88 : a.tmps[88]? = some (vs 4) := by rw [ha]; exact fillA_get0 (j := 4) (by kernel_rfl) (by rw [hsz]; decide)
                    have q4 : vs 4 = .int .i64 (c : Int) := hD 4 (by simp [waits, Region.binds])
                    rw [q4] at r88
                    clear ha hU hD ha0
                    rw [if_pos (by simp [Region.wanted, yielded, r85])]
                    go_simp
                    refine (at7_any (m : Int) (c : Int) W).mono ?_
                    rintro e w' ⟨rfl, hb⟩
                    exact hK _ (bl_call hC hb (Nat.le_refl _)) hb
                  · -- 6
                    intro vs a W K ha hC hD hU hK
                    have r85 : a.tmps[85]? = some (vs 1) := by rw [ha]; exact fillA_get0 (j := 1) (by kernel_rfl) (by rw [hsz]; decide)
                    have q1 : vs 1 = .bool true := hD 1 (by simp [waits, Region.binds])
                    rw [q1] at r85
                    have r86 : a.tmps[86]? = some (vs 2) := by rw [ha]; exact fillA_get0 (j := 2) (by kernel_rfl) (by rw [hsz]; decide)
                    have q2 : vs 2 = .agg #[.int .i64 k0, .slice T n tc] := hD 2 (by simp [waits, Region.binds])
                    rw [q2] at r86
                    have r89 : a.tmps[89]? = some (vs 5) := by rw [ha]; exact fillA_get0 (j := 5) (by kernel_rfl) (by rw [hsz]; decide)
                    have q5 : vs 5 = .agg #[.int .i64 (m : Int), .int .i64 (c : Int)] := hD 5 (by simp [waits, Region.binds])
                    rw [q5] at r89
                    clear ha hU hD ha0
                    rw [if_pos (by simp [Region.wanted, yielded, r85])]
                    go_simp
                    refine (HCM.out W hC).mono ?_
                    rintro e w' ⟨rfl, hb⟩
                    exact hK _ (bl_call hC hb (Nat.le_refl _)) hb
                  · -- 7
                    intro vs a W K ha hC hD hU hK
                    have r85 : a.tmps[85]? = some (vs 1) := by rw [ha]; exact fillA_get0 (j := 1) (by kernel_rfl) (by rw [hsz]; decide)
                    have q1 : vs 1 = .bool true := hD 1 (by simp [waits, Region.binds])
                    rw [q1] at r85
                    have r5 : a.tmps[5]? = some (.pointer (some ⟨w.heap.size + 1 + 1, 0, none⟩)) := by rw [ha, fillA_base0 (by kernel_rfl)]; exact tb5
                    clear ha hU hD ha0
                    rw [if_pos (by simp [Region.wanted, yielded, r85])]
                    obtain ⟨kt0, kt1⟩ := ks.out W hC
                    obtain ⟨k1, k2, k3, _, _, k6, k7⟩ := kk.out W (bl_call HB7.out hC (Nat.le_refl _))
                    go_simp
                    exact hK _ hC (Below.refl _ _)
                  · -- 8
                    intro vs a W K ha hC hD hU hK
                    have r85 : a.tmps[85]? = some (vs 1) := by rw [ha]; exact fillA_get0 (j := 1) (by kernel_rfl) (by rw [hsz]; decide)
                    have q1 : vs 1 = .bool true := hD 1 (by simp [waits, Region.binds])
                    rw [q1] at r85
                    have r90 : a.tmps[90]? = some (vs 6) := by rw [ha]; exact fillA_get0 (j := 6) (by kernel_rfl) (by rw [hsz]; decide)
                    have q6 : vs 6 = .int .i64 nn := hD 6 (by simp [waits, Region.binds])
                    rw [q6] at r90
                    have r91 : a.tmps[91]? = some (vs 7) := by rw [ha]; exact fillA_get0 (j := 7) (by kernel_rfl) (by rw [hsz]; decide)
                    have q7 : vs 7 = .agg #[.int .i64 pa, .int .i64 pz] := hD 7 (by simp [waits, Region.binds])
                    rw [q7] at r91
                    clear ha hU hD ha0
                    rw [if_pos (by simp [Region.wanted, yielded, r85])]
                    go_simp
                    refine (inspan_any nn pa pz W).mono ?_
                    rw [HIB.out]
                    rintro e w' ⟨rfl, hb⟩
                    exact hK _ (bl_call hC hb (Nat.le_refl _)) hb
                  · -- 9
                    intro vs a W K ha hC hD hU hK
                    have r85 : a.tmps[85]? = some (vs 1) := by rw [ha]; exact fillA_get0 (j := 1) (by kernel_rfl) (by rw [hsz]; decide)
                    have q1 : vs 1 = .bool true := hD 1 (by simp [waits, Region.binds])
                    rw [q1] at r85
                    have r92 : a.tmps[92]? = some (vs 8) := by rw [ha]; exact fillA_get0 (j := 8) (by kernel_rfl) (by rw [hsz]; decide)
                    have q8 : vs 8 = .bool true := hD 8 (by simp [waits, Region.binds])
                    rw [q8] at r92
                    clear ha hU hD ha0
                    rw [if_pos (by simp [Region.wanted, yielded, r85])]
                    go_simp
                    exact hK _ hC (Below.refl _ _)
                  · -- 10
                    intro vs a W K ha hC hD hU hK
                    have r85 : a.tmps[85]? = some (vs 1) := by rw [ha]; exact fillA_get0 (j := 1) (by kernel_rfl) (by rw [hsz]; decide)
                    have q1 : vs 1 = .bool true := hD 1 (by simp [waits, Region.binds])
                    rw [q1] at r85
                    have r93 : a.tmps[93]? = some (vs 9) := by rw [ha]; exact fillA_get0 (j := 9) (by kernel_rfl) (by rw [hsz]; decide)
                    have q9 : vs 9 = .bool false := hD 9 (by simp [waits, Region.binds])
                    rw [q9] at r93
                    clear ha hU hD ha0
                    rw [if_pos (by rfl)]
                    go_simp
                    exact hK _ hC (Below.refl _ _)
                case finP =>
                  refine Fin1.none (Nat.le_refl _) ?_
                  intro vs W a1 hC hE ha
                  have eL : vs 10 = .bool false := hE 10 (by simp)
                  rw [ha, ha0]
                  clear ha ha0 hsz tb5 tb9 tb13 tb14 tb15
                  simp only [fillA, Act.put, List.setIfInBounds_toArray, List.set_cons_zero, List.set_cons_succ, Nat.zero_add, Nat.reduceAdd, eL]
                  obtain ⟨u0, hu0⟩ : ∃ v0, vs 0 = v0 := ⟨_, rfl⟩
                  obtain ⟨u1, hu1⟩ : ∃ v0, vs 1 = v0 := ⟨_, rfl⟩
                  obtain ⟨u2, hu2⟩ : ∃ v0, vs 2 = v0 := ⟨_, rfl⟩
                  obtain ⟨u3, hu3⟩ : ∃ v0, vs 3 = v0 := ⟨_, rfl⟩
                  obtain ⟨u4, hu4⟩ : ∃ v0, vs 4 = v0 := ⟨_, rfl⟩
                  obtain ⟨u5, hu5⟩ : ∃ v0, vs 5 = v0 := ⟨_, rfl⟩
                  obtain ⟨u6, hu6⟩ : ∃ v0, vs 6 = v0 := ⟨_, rfl⟩
                  obtain ⟨u7, hu7⟩ : ∃ v0, vs 7 = v0 := ⟨_, rfl⟩
                  obtain ⟨u8, hu8⟩ : ∃ v0, vs 8 = v0 := ⟨_, rfl⟩
                  obtain ⟨u9, hu9⟩ : ∃ v0, vs 9 = v0 := ⟨_, rfl⟩
                  rw [hu0, hu1, hu2, hu3, hu4, hu5, hu6, hu7, hu8, hu9]
                  clear hu0 hu1 hu2 hu3 hu4 hu5 hu6 hu7 hu8 hu9
                  have H7W : Hid (Below V7.heap.size V7 W) := hC
                  clear hE eL hC
                  have HEND : Hid (Below Wm.heap.size Wm W) := bl_call HM7.out H7W.out (Nat.le_refl _)
                  go_wp2_with fail
                  go_roundw
                  case rel => exact ⟨c + 1, by omega, by go_num, HEND.out⟩
                  case measure => simp [intOf]; omega
              · rw [decide_eq_false hin]
                go_wp2_with fail
                refine wp_frameT ?_
                intro a0 ha0
                have tb15 : a0.tmps[15]? = some (.bool false) := by rw [ha0]; kernel_rfl
                have hsz : a0.tmps.size = 187 := by rw [ha0]; kernel_rfl
                refine wp_region_list (fun W => Below V7.heap.size V7 W) (fun w w' => Below w.heap.size w w')
                  [isV (.bool false), isV (.bool false), isV (undef), isV (undef), isV (undef), isV (undef), isV (undef), isV (undef), isV (undef), isV (undef), isV (.bool false)]
                  (by kernel_rfl) (by kernel_rfl) (by kernel_rfl) (by simp) (by simp) (Below.refl _ _).drew ?stabQ ?stepQ ?finQ
                case stabQ => exact (StabL.is (StabL.is (StabL.is (StabL.is (StabL.is (StabL.is (StabL.is (StabL.is (StabL.is (StabL.is (StabL.is StabL.nil)))))))))))
                case stepQ =>
                  refine StepsL.isA ?_ (StepsL.isA ?_ (StepsL.isA ?_ (StepsL.isA ?_ (StepsL.isA ?_ (StepsL.isA ?_ (StepsL.isA ?_ (StepsL.isA ?_ (StepsL.isA ?_ (StepsL.isA ?_ (StepsL.isA ?_ StepsL.nil))))))))))
                  · -- 0
                    intro vs a W K ha hC hD hU hK
                    have r15 : a.tmps[15]? = some (.bool false) := by rw [ha, fillA_base0 (by kernel_rfl)]; exact tb15
                    clear ha hU hD ha0
                    rw [if_pos (by rfl)]
                    go_simp
                    exact hK _ hC (Below.refl _ _)
                  · -- 1
                    intro vs a W K ha hC hD hU hK
                    have r84 : a.tmps[84]? = some (vs 0) := by rw [ha]; exact fillA_get0 (j := 0) (by kernel_rfl) (by rw [hsz]; decide)
                    have q0 : vs 0 = .bool false := hD 0 (by simp [waits, Region.binds])
                    rw [q0] at r84
                    clear ha hU hD ha0
                    rw [if_pos (by rfl)]
                    go_simp
                    exact hK _ hC (Below.refl _ _)
                  · -- 2
                    intro vs a W K ha hC hD hU hK
                    have r85 : a.tmps[85]? = some (vs 1) := by rw [ha]; exact fillA_get0 (j := 1) (by kernel_rfl) (by rw [hsz]; decide)
                    have q1 : vs 1 = .bool false := hD 1 (by simp [waits, Region.binds])
                    rw [q1] at r85
                    clear ha hU hD ha0
                    rw [if_neg (by simp [Region.wanted, yielded, r85, undef])]
                  · -- 3
                    intro vs a W K ha hC hD hU hK
                    have r85 : a.tmps[85]? = some (vs 1) := by rw [ha]; exact fillA_get0 (j := 1) (by kernel_rfl) (by rw [hsz]; decide)
                    have q1 : vs 1 = .bool false := hD 1 (by simp [waits, Region.binds])
                    rw [q1] at r85
                    clear ha hU hD ha0
                    rw [if_neg (by simp [Region.wanted, yielded, r85, undef])]
                  · -- 4
                    intro vs a W K ha hC hD hU hK
                    have r85 : a.tmps[85]? = some (vs 1) := by rw [ha]; exact fillA_get0 (j := 1) (by kernel_rfl) (by rw [hsz]; decide)
                    have q1 : vs 1 = .bool false := hD 1 (by simp [waits, Region.binds])
                    rw [q1] at r85
                    clear ha hU hD ha0
                    rw [if_neg (by simp [Region.wanted, yielded, r85, undef])]
                  · -- 5
                    intro vs a W K ha hC hD hU hK
                    have r85 : a.tmps[85]? = some (vs 1) := by rw [ha]; exact fillA_get0 (j := 1) (by kernel_rfl) (by rw [hsz]; decide)
                    have q1 : vs 1 = .bool false := hD 1 (by simp [waits, Region.binds])
                    rw [q1] at r85
                    clear ha hU hD ha0
                    rw [if_neg (by simp [Region.wanted, yielded, r85, undef])]
                  · -- 6
                    intro vs a W K ha hC hD hU hK
                    have r85 : a.tmps[85]? = some (vs 1) := by rw [ha]; exact fillA_get0 (j := 1) (by kernel_rfl) (by rw [hsz]; decide)
                    have q1 : vs 1 = .bool false := hD 1 (by simp [waits, Region.binds])
                    rw [q1] at r85
                    clear ha hU hD ha0
                    rw [if_neg (by simp [Region.wanted, yielded, r85, undef])]
                  · -- 7
                    intro vs a W K ha hC hD hU hK
                    have r85 : a.tmps[85]? = some (vs 1) := by rw [ha]; exact fillA_get0 (j := 1) (by kernel_rfl) (by rw [hsz]; decide)
                    have q1 : vs 1 = .bool false := hD 1 (by simp [waits, Region.binds])
                    rw [q1] at r85
                    clear ha hU hD ha0
                    rw [if_neg (by simp [Region.wanted, yielded, r85, undef])]
                  · -- 8
                    intro vs a W K ha hC hD hU hK
                    have r85 : a.tmps[85]? = some (vs 1) := by rw [ha]; exact fillA_get0 (j := 1) (by kernel_rfl) (by rw [hsz]; decide)
                    have q1 : vs 1 = .bool false := hD 1 (by simp [waits, Region.binds])
                    rw [q1] at r85
                    clear ha hU hD ha0
                    rw [if_neg (by simp [Region.wanted, yielded, r85, undef])]
                  · -- 9
                    intro vs a W K ha hC hD hU hK
                    have r85 : a.tmps[85]? = some (vs 1) := by rw [ha]; exact fillA_get0 (j := 1) (by kernel_rfl) (by rw [hsz]; decide)
                    have q1 : vs 1 = .bool false := hD 1 (by simp [waits, Region.binds])
                    rw [q1] at r85
                    clear ha hU hD ha0
                    rw [if_neg (by simp [Region.wanted, yielded, r85, undef])]
                  · -- 10
                    intro vs a W K ha hC hD hU hK
                    have r85 : a.tmps[85]? = some (vs 1) := by rw [ha]; exact fillA_get0 (j := 1) (by kernel_rfl) (by rw [hsz]; decide)
                    have q1 : vs 1 = .bool false := hD 1 (by simp [waits, Region.binds])
                    rw [q1] at r85
                    have r93 : a.tmps[93]? = some (vs 9) := by rw [ha]; exact fillA_get0 (j := 9) (by kernel_rfl) (by rw [hsz]; decide)
                    have q9 : vs 9 = undef := hD 9 (by simp [waits, Region.binds])
                    rw [q9] at r93
                    clear ha hU hD ha0
                    rw [if_pos (by rfl)]
                    go_simp
                    exact hK _ hC (Below.refl _ _)
                case finQ =>
                  refine Fin1.none (Nat.le_refl _) ?_
                  intro vs W a1 hC hE ha
                  have eL : vs 10 = .bool false := hE 10 (by simp)
                  rw [ha, ha0]
                  clear ha ha0 hsz tb15
                  simp only [fillA, Act.put, List.setIfInBounds_toArray, List.set_cons_zero, List.set_cons_succ, Nat.zero_add, Nat.reduceAdd, eL]
                  obtain ⟨u0, hu0⟩ : ∃ v0, vs 0 = v0 := ⟨_, rfl⟩
                  obtain ⟨u1, hu1⟩ : ∃ v0, vs 1 = v0 := ⟨_, rfl⟩
                  obtain ⟨u2, hu2⟩ : ∃ v0, vs 2 = v0 := ⟨_, rfl⟩
                  obtain ⟨u3, hu3⟩ : ∃ v0, vs 3 = v0 := ⟨_, rfl⟩
                  obtain ⟨u4, hu4⟩ : ∃ v0, vs 4 = v0 := ⟨_, rfl⟩
                  obtain ⟨u5, hu5⟩ : ∃ v0, vs 5 = v0 := ⟨_, rfl⟩
                  obtain ⟨u6, hu6⟩ : ∃ v0, vs 6 = v0 := ⟨_, rfl⟩
                  obtain ⟨u7, hu7⟩ : ∃ v0, vs 7 = v0 := ⟨_, rfl⟩
                  obtain ⟨u8, hu8⟩ : ∃ v0, vs 8 = v0 := ⟨_, rfl⟩
                  obtain ⟨u9, hu9⟩ : ∃ v0, vs 9 = v0 := ⟨_, rfl⟩
                  rw [hu0, hu1, hu2, hu3, hu4, hu5, hu6, hu7, hu8, hu9]
                  clear hu0 hu1 hu2 hu3 hu4 hu5 hu6 hu7 hu8 hu9
                  have H7W : Hid (Below V7.heap.size V7 W) := hC
                  clear hE eL hC
                  by_cases hq : q = 6
                  · have HEND : Hid (Below Wm.heap.size Wm W) := bl_call HM7.out H7W.out (Nat.le_refl _)
                    have hqi : ((q : Int) == 6) = true := by simp; omega
                    subst hq
                    go_wp2_with fail
                    go_roundw
                    case rel => exact ⟨c + 1, by omega, by go_num, HEND.out⟩
                    case measure => simp [intOf]; omega
                  · have hqi : ((q : Int) == 6) = false := by simp; omega
                    have hqii : ¬ (q : Int) = 6 := by omega
                    have hq5 : q ≤ 5 := by omega
                    obtain ⟨V8, hV8⟩ : ∃ V, V = W := ⟨_, rfl⟩
                    subst hV8
                    have HM8 : Hid (Below Wm.heap.size Wm V8) := bl_call HM7.out H7W.out (Nat.le_refl _)
                    have H48 : Hid (Below V4.heap.size V4 V8) := bl_call H47.out H7W.out (Nat.le_refl _)
                    have HB8 : Hid (Below W.heap.size W V8) := bl_call HB7.out H7W.out (Nat.le_refl _)
                    obtain ⟨lo1, hlo1⟩ : ∃ x : Int, max 0 (pa - 1) = x := ⟨_, rfl⟩
                    obtain ⟨hi1, hhi1⟩ : ∃ x : Int, min 20000 (pz + 1) = x := ⟨_, rfl⟩
                    have HLO := Lib.hid hlo1
                    have HHI := Lib.hid hhi1
                    obtain ⟨lo, hi, hlh⟩ : ∃ lo hi, size7 s l m (c : Int) = (lo, hi) := ⟨_, _, rfl⟩
                    have hfo := fitting_other (pa := pa) (pz := pz) (by rw [HSN.out]) (by rw [HQL.out]; omega) HMS.out hlt2 (List.ne_nil_of_mem HKN.out) HR.out (by rw [HLL.out]; exact hin)
                    rw [hlo1, hhi1, hlh] at hfo
                    dsimp only at hfo
                    have HSR : Hid (sizesR s l m c = ((lo, hi), 0)) := by rw [Hid, ← hlh]; exact (HSZ.out m c hlt hlt2).1
                    obtain ⟨fE, hfE⟩ : ∃ x, (shrinksR s (l ++ [(⟨(m : Int), (c : Int), 0, lo1⟩ : SeenC)])).2 = x := ⟨_, rfl⟩
                    obtain ⟨gE, hgE⟩ : ∃ x, (shrinksR s (l ++ [(⟨(m : Int), (c : Int), hi1, 20000⟩ : SeenC)])).2 = x := ⟨_, rfl⟩
                    rw [hfE, hgE] at hfo
                    have HFE := Lib.hid hfE
                    have HGE := Lib.hid hgE
                    have HFO := Lib.hid hfo
                    clear hlo1 hhi1 hlh hfo hfE hgE ks
                    go_wp2_with fail
                    have AS := Lib.hid (fitE_stab V8.heap.size (.slice C q cc) (.pointer (some ⟨w.heap.size + 1 + 1, 0, none⟩)) (pa) (pa - 1) (lo1) (0) (lo1) q l m c)
                    refine wp_region_invs (fun ls vs ww => InvE V8.heap.size V8 (fitE V8.heap.size (.slice C q cc) (.pointer (some ⟨w.heap.size + 1 + 1, 0, none⟩)) (pa) (pa - 1) (lo1) (0) (lo1) q l m c) 12 ls vs ww) 13 (by kernel_rfl) (by kernel_rfl) (by kernel_rfl) (by rfl) ⟨(Below.refl _ _).drew, fun i h => by cases h⟩ ?stepG (by rfl) (by rfl) ?finG
                    case stepG =>
                      refine StepsI.cons ?_ (StepsI.cons ?_ (StepsI.cons ?_ (StepsI.cons ?_ (StepsI.cons ?_ (StepsI.cons ?_ (StepsI.cons ?_ (StepsI.cons ?_ (StepsI.cons ?_ (StepsI.cons ?_ (StepsI.cons ?_ (StepsI.cons ?_ (StepsI.cons ?_ StepsI.nil))))))))))))
                      all_goals
                        refine StepI.of ?_
                        intro ls vs W K hI hl hw hU hK
                        simp only [fillA, Act.put, List.setIfInBounds_toArray, List.set_cons_zero, List.set_cons_succ, Nat.zero_add, Nat.reduceAdd] at hK ⊢
                        simp [waits, Region.binds] at hw
                        have hC := hI.1
                      · go_simp
                        exact hK _ _ (hI.step AS.out (bl_alloc (Below.refl _ _) _ (Nat.le_refl _)) hC.size (by decide) (.inr ⟨_, hC.size, rfl, Blk.new _ _ _ rfl⟩))
                      · go_simp
                        exact hK _ _ (hI.step AS.out (Below.refl _ _) hC.size (by decide) rfl)
                      · have h12 : ls 12 = false := (hU 12 _ rfl (by simp [waits, Region.binds])).1
                        obtain ⟨gl, hgl, hv1, hBl⟩ := (hI.2 0 (by simp [hw])).resolve_left (by rw [h12]; decide)
                        have q2 : vs 1 = _ := hI.2 1 (by simp [hw])
                        simp only [hv1, q2] at hK ⊢
                        rw [if_pos (by rfl)]
                        refine wp_append_lit W (.tmp 101) (.tmp 102) _ rfl SeenCR.good (T := fun _ => True) (S := fun _ => False) V8.heap.size 53 iS _ 32 Try.underlying41 hiS hzS0 hzS1 hzS2 rfl (by decide) gl rfl hBl hgl C q cc l rfl (HS.out W (bl_call H48.out hC (Nat.le_refl _))) (fun y vs hr => hr) (by simp only [maxLen]; omega) (by omega) hC.size (fun h => h) (fun h => h) ?_
                        intro A2 c2 w' hO hb
                        exact hK _ _ (hI.step AS.out hb hC.size (by decide) (.inr ⟨A2, c2, rfl, hO⟩))
                      · go_simp
                        exact hK _ _ (hI.step AS.out (Below.refl _ _) hC.size (by decide) rfl)
                      · go_simp
                        exact hK _ _ (hI.step AS.out (Below.refl _ _) hC.size (by decide) rfl)
                      · go_simp
                        exact hK _ _ (hI.step AS.out (Below.refl _ _) hC.size (by decide) rfl)
                      · have q5 : vs 5 = _ := hI.2 5 (by simp [hw])
                        simp only [q5] at hK ⊢
                        obtain ⟨k1, k2, k3, _, _, k6, k7⟩ := kk.out W (bl_call HB8.out hC (Nat.le_refl _))
                        go_simp
                        exact hK _ _ (hI.step AS.out (Below.refl _ _) hC.size (by decide) rfl)
                      · have q6 : vs 6 = _ := hI.2 6 (by simp [hw])
                        simp only [q6] at hK ⊢
                        have hws := (show IntKind.i64.wrap (pa - 1) = pa - 1 by rw [IntKind.wrap_i64]; omega)
                        go_simp
                        exact hK _ _ (hI.step AS.out (Below.refl _ _) hC.size (by decide) rfl)
                      · have q7 : vs 7 = _ := hI.2 7 (by simp [hw])
                        simp only [q7] at hK ⊢
                        go_simp
                        exact hK _ _ (hI.step AS.out (Below.refl _ _) hC.size (by decide) (congrArg (Value.int .i64) (HLO.out)))
                      · have q8 : vs 8 = _ := hI.2 8 (by simp [hw])
                        simp only [q8] at hK ⊢
                        go_simp
                        refine (span7_any (0) (lo1) W).mono ?_
                        rintro e w' ⟨rfl, hb⟩
                        exact hK _ _ (hI.step AS.out hb hC.size (by decide) rfl)
                      · have q3 : vs 3 = _ := hI.2 3 (by simp [hw])
                        have q4 : vs 4 = _ := hI.2 4 (by simp [hw])
                        have q9 : vs 9 = _ := hI.2 9 (by simp [hw])
                        simp only [q3, q4, q9] at hK ⊢
                        go_simp
                        exact hK _ _ (hI.step AS.out (Below.refl _ _) hC.size (by decide) rfl)
                      · have q10 : vs 10 = _ := hI.2 10 (by simp [hw])
                        simp only [q10] at hK ⊢
                        go_simp
                        exact hK _ _ (hI.step AS.out (bl_alloc (Below.refl _ _) _ (Nat.le_refl _)) hC.size (by decide) (.inr ⟨_, rfl, Blk.new _ _ _ rfl⟩))
                      · obtain ⟨A3, c3, hv3, hO3⟩ := (hI.2 2 (by simp [hw])).resolve_left (by rw [hl]; decide)
                        rw [hv3] at hO3
                        obtain ⟨g9, hv12, hB12⟩ := (hI.2 11 (by simp [hw])).resolve_left (by rw [hl]; decide)
                        simp only [hv3, hv12] at hK ⊢
                        rw [if_pos (by rfl)]
                        obtain ⟨A4, c4, w', hrun, hO4, hg4, _⟩ := run_append_one W 41 41 SeenCR.good V8.heap.size 53 iS _ 32 Try.underlying41 hiS hzS0 hzS1 hzS2 rfl (by omega) (.slice A3 q c3) l (⟨(m : Int), (c : Int), 0, lo1⟩ : SeenC) hO3 ⟨g9, 0, none⟩ 1 [.int .i64 m, .int .i64 c, .int .i64 (0), .int .i64 (lo1)] rfl (fun j v hv => blk_news4 hB12 hv) (by rw [HQL.out]; simp only [maxLen]; omega) (by rw [HQL.out]; omega) hC.size (fun h => h)
                        rw [HQL.out] at hrun hO4
                        refine wp_append_of_run rfl rfl rfl hrun ?_
                        have hB2 : Below V8.heap.size V8 w' := bl_grown hC hO3 hg4 (Nat.le_refl _) (Nat.le_refl _)
                        refine hK _ _ ⟨hB2, fun i hi => ?_⟩
                        have hb12 : updB ls 12 12 = true := by unfold updB; rw [if_pos rfl]
                        rw [hb12]
                        match i, hi with
                        | 1, hi => exact hI.2 1 hi
                        | 3, hi => exact hI.2 3 hi
                        | 4, hi => exact hI.2 4 hi
                        | 5, hi => exact hI.2 5 hi
                        | 6, hi => exact hI.2 6 hi
                        | 7, hi => exact hI.2 7 hi
                        | 8, hi => exact hI.2 8 hi
                        | 9, hi => exact hI.2 9 hi
                        | 10, hi => exact hI.2 10 hi
                        | 0, _ => exact .inl rfl
                        | 2, _ => exact .inl rfl
                        | 11, _ => exact .inl rfl
                        | 12, _ => exact ⟨some ⟨A4, 0, none⟩, c4, rfl, hO4.slice SeenCR.good rfl (by simp only [maxLen]; omega) (fun _ h => h.elim) (fun k hk1 hk2 => hk1)⟩
                        | _ + 13, _ => trivial
                    case finG =>
                      intro ls vs W hI hl hU
                      clear hU
                      have hC := hI.1
                      have e12 := hI.2 12 (hl 12 (by decide))
                      simp only [fillA, Act.put, List.setIfInBounds_toArray, List.set_cons_zero, List.set_cons_succ, Nat.zero_add, Nat.reduceAdd]
                      obtain ⟨A7, c7, h12, hS7⟩ := e12
                      rw [h12]
                      obtain ⟨u0, hu0⟩ : ∃ v0, vs 0 = v0 := ⟨_, rfl⟩
                      obtain ⟨u1, hu1⟩ : ∃ v0, vs 1 = v0 := ⟨_, rfl⟩
                      obtain ⟨u2, hu2⟩ : ∃ v0, vs 2 = v0 := ⟨_, rfl⟩
                      obtain ⟨u3, hu3⟩ : ∃ v0, vs 3 = v0 := ⟨_, rfl⟩
                      obtain ⟨u4, hu4⟩ : ∃ v0, vs 4 = v0 := ⟨_, rfl⟩
                      obtain ⟨u5, hu5⟩ : ∃ v0, vs 5 = v0 := ⟨_, rfl⟩
                      obtain ⟨u6, hu6⟩ : ∃ v0, vs 6 = v0 := ⟨_, rfl⟩
                      obtain ⟨u7, hu7⟩ : ∃ v0, vs 7 = v0 := ⟨_, rfl⟩
                      obtain ⟨u8, hu8⟩ : ∃ v0, vs 8 = v0 := ⟨_, rfl⟩
                      obtain ⟨u9, hu9⟩ : ∃ v0, vs 9 = v0 := ⟨_, rfl⟩
                      obtain ⟨u10, hu10⟩ : ∃ v0, vs 10 = v0 := ⟨_, rfl⟩
                      obtain ⟨u11, hu11⟩ : ∃ v0, vs 11 = v0 := ⟨_, rfl⟩
                      rw [hu0, hu1, hu2, hu3, hu4, hu5, hu6, hu7, hu8, hu9, hu10, hu11]
                      clear hu0 hu1 hu2 hu3 hu4 hu5 hu6 hu7 hu8 hu9 hu10 hu11
                      clear h12 hI hl AS
                      have Hlo : Hid (∀ V, Below W.heap.size W V → SeenCs (fun _ => True) V A7 (q + 1) (l ++ [(⟨(m : Int), (c : Int), 0, lo1⟩ : SeenC)])) := fun V hb => (hS7.keep SeenCR.good (Keeps.below hb)).mono SeenCR.good (fun _ _ => trivial)
                      obtain ⟨Alo, hAlo⟩ : ∃ x, A7 = x := ⟨_, rfl⟩
                      subst hAlo
                      obtain ⟨clo, hclo⟩ : ∃ x, c7 = x := ⟨_, rfl⟩
                      subst hclo
                      have H78b : Hid (Below V8.heap.size V8 W) := hC
                      clear hC
                      obtain ⟨V9, hV9⟩ : ∃ V, V = W := ⟨_, rfl⟩
                      subst hV9
                      have H49 : Hid (Below V4.heap.size V4 V9) := bl_call H48.out H78b.out (Nat.le_refl _)
                      have HB9 : Hid (Below W.heap.size W V9) := bl_call HB8.out H78b.out (Nat.le_refl _)
                      go_simp
                      go_wp2_with fail
                      have AS := Lib.hid (fitE_stab V9.heap.size (.slice C q cc) (.pointer (some ⟨w.heap.size + 1 + 1, 1, none⟩)) (pz) (pz + 1) (hi1) (hi1) (20000) q l m c)
                      refine wp_region_invs (fun ls vs ww => InvE V9.heap.size V9 (fitE V9.heap.size (.slice C q cc) (.pointer (some ⟨w.heap.size + 1 + 1, 1, none⟩)) (pz) (pz + 1) (hi1) (hi1) (20000) q l m c) 12 ls vs ww) 13 (by kernel_rfl) (by kernel_rfl) (by kernel_rfl) (by rfl) ⟨(Below.refl _ _).drew, fun i h => by cases h⟩ ?stepH (by rfl) (by rfl) ?finH
                      case stepH =>
                        refine StepsI.cons ?_ (StepsI.cons ?_ (StepsI.cons ?_ (StepsI.cons ?_ (StepsI.cons ?_ (StepsI.cons ?_ (StepsI.cons ?_ (StepsI.cons ?_ (StepsI.cons ?_ (StepsI.cons ?_ (StepsI.cons ?_ (StepsI.cons ?_ (StepsI.cons ?_ StepsI.nil))))))))))))
                        all_goals
                          refine StepI.of ?_
                          intro ls vs W K hI hl hw hU hK
                          simp only [fillA, Act.put, List.setIfInBounds_toArray, List.set_cons_zero, List.set_cons_succ, Nat.zero_add, Nat.reduceAdd] at hK ⊢
                          simp [waits, Region.binds] at hw
                          have hC := hI.1
                        · go_simp
                          exact hK _ _ (hI.step AS.out (bl_alloc (Below.refl _ _) _ (Nat.le_refl _)) hC.size (by decide) (.inr ⟨_, hC.size, rfl, Blk.new _ _ _ rfl⟩))
                        · go_simp
                          exact hK _ _ (hI.step AS.out (Below.refl _ _) hC.size (by decide) rfl)
                        · have h12 : ls 12 = false := (hU 12 _ rfl (by simp [waits, Region.binds])).1
                          obtain ⟨gl, hgl, hv1, hBl⟩ := (hI.2 0 (by simp [hw])).resolve_left (by rw [h12]; decide)
                          have q2 : vs 1 = _ := hI.2 1 (by simp [hw])
                          simp only [hv1, q2] at hK ⊢
                          rw [if_pos (by rfl)]
                          refine wp_append_lit W (.tmp 114) (.tmp 115) _ rfl SeenCR.good (T := fun _ => True) (S := fun _ => False) V9.heap.size 53 iS _ 32 Try.underlying41 hiS hzS0 hzS1 hzS2 rfl (by decide) gl rfl hBl hgl C q cc l rfl (HS.out W (bl_call H49.out hC (Nat.le_refl _))) (fun y vs hr => hr) (by simp only [maxLen]; omega) (by omega) hC.size (fun h => h) (fun h => h) ?_
                          intro A2 c2 w' hO hb
                          exact hK _ _ (hI.step AS.out hb hC.size (by decide) (.inr ⟨A2, c2, rfl, hO⟩))
                        · go_simp
                          exact hK _ _ (hI.step AS.out (Below.refl _ _) hC.size (by decide) rfl)
                        · go_simp
                          exact hK _ _ (hI.step AS.out (Below.refl _ _) hC.size (by decide) rfl)
                        · go_simp
                          exact hK _ _ (hI.step AS.out (Below.refl _ _) hC.size (by decide) rfl)
                        · have q5 : vs 5 = _ := hI.2 5 (by simp [hw])
                          simp only [q5] at hK ⊢
                          obtain ⟨k1, k2, k3, _, _, k6, k7⟩ := kk.out W (bl_call HB9.out hC (Nat.le_refl _))
                          go_simp
                          exact hK _ _ (hI.step AS.out (Below.refl _ _) hC.size (by decide) rfl)
                        · have q6 : vs 6 = _ := hI.2 6 (by simp [hw])
                          simp only [q6] at hK ⊢
                          have hws := (show IntKind.i64.wrap (pz + 1) = pz + 1 by rw [IntKind.wrap_i64]; omega)
                          go_simp
                          exact hK _ _ (hI.step AS.out (Below.refl _ _) hC.size (by decide) rfl)
                        · have q7 : vs 7 = _ := hI.2 7 (by simp [hw])
                          simp only [q7] at hK ⊢
                          go_simp
                          exact hK _ _ (hI.step AS.out (Below.refl _ _) hC.size (by decide) (congrArg (Value.int .i64) (HHI.out)))
                        · have q8 : vs 8 = _ := hI.2 8 (by simp [hw])
                          simp only [q8] at hK ⊢
                          go_simp
                          refine (span7_any (hi1) (20000) W).mono ?_
                          rintro e w' ⟨rfl, hb⟩
                          exact hK _ _ (hI.step AS.out hb hC.size (by decide) rfl)
                        · have q3 : vs 3 = _ := hI.2 3 (by simp [hw])
                          have q4 : vs 4 = _ := hI.2 4 (by simp [hw])
                          have q9 : vs 9 = _ := hI.2 9 (by simp [hw])
                          simp only [q3, q4, q9] at hK ⊢
                          go_simp
                          exact hK _ _ (hI.step AS.out (Below.refl _ _) hC.size (by decide) rfl)
                        · have q10 : vs 10 = _ := hI.2 10 (by simp [hw])
                          simp only [q10] at hK ⊢
                          go_simp
                          exact hK _ _ (hI.step AS.out (bl_alloc (Below.refl _ _) _ (Nat.le_refl _)) hC.size (by decide) (.inr ⟨_, rfl, Blk.new _ _ _ rfl⟩))
                        · obtain ⟨A3, c3, hv3, hO3⟩ := (hI.2 2 (by simp [hw])).resolve_left (by rw [hl]; decide)
                          rw [hv3] at hO3
                          obtain ⟨g9, hv12, hB12⟩ := (hI.2 11 (by simp [hw])).resolve_left (by rw [hl]; decide)
                          simp only [hv3, hv12] at hK ⊢
                          rw [if_pos (by rfl)]
                          obtain ⟨A4, c4, w', hrun, hO4, hg4, _⟩ := run_append_one W 41 41 SeenCR.good V9.heap.size 53 iS _ 32 Try.underlying41 hiS hzS0 hzS1 hzS2 rfl (by omega) (.slice A3 q c3) l (⟨(m : Int), (c : Int), hi1, 20000⟩ : SeenC) hO3 ⟨g9, 0, none⟩ 1 [.int .i64 m, .int .i64 c, .int .i64 (hi1), .int .i64 (20000)] rfl (fun j v hv => blk_news4 hB12 hv) (by rw [HQL.out]; simp only [maxLen]; omega) (by rw [HQL.out]; omega) hC.size (fun h => h)
                          rw [HQL.out] at hrun hO4
                          refine wp_append_of_run rfl rfl rfl hrun ?_
                          have hB2 : Below V9.heap.size V9 w' := bl_grown hC hO3 hg4 (Nat.le_refl _) (Nat.le_refl _)
                          refine hK _ _ ⟨hB2, fun i hi => ?_⟩
                          have hb12 : updB ls 12 12 = true := by unfold updB; rw [if_pos rfl]
                          rw [hb12]
                          match i, hi with
                          | 1, hi => exact hI.2 1 hi
                          | 3, hi => exact hI.2 3 hi
                          | 4, hi => exact hI.2 4 hi
                          | 5, hi => exact hI.2 5 hi
                          | 6, hi => exact hI.2 6 hi
                          | 7, hi => exact hI.2 7 hi
                          | 8, hi => exact hI.2 8 hi
                          | 9, hi => exact hI.2 9 hi
                          | 10, hi => exact hI.2 10 hi
                          | 0, _ => exact .inl rfl
                          | 2, _ => exact .inl rfl
                          | 11, _ => exact .inl rfl
                          | 12, _ => exact ⟨some ⟨A4, 0, none⟩, c4, rfl, hO4.slice SeenCR.good rfl (by simp only [maxLen]; omega) (fun _ h => h.elim) (fun k hk1 hk2 => hk1)⟩
                          | _ + 13, _ => trivial
                      case finH =>
                        intro ls vs W hI hl hU
                        clear hU
                        have hC := hI.1
                        have e12 := hI.2 12 (hl 12 (by decide))
                        simp only [fillA, Act.put, List.setIfInBounds_toArray, List.set_cons_zero, List.set_cons_succ, Nat.zero_add, Nat.reduceAdd]
                        obtain ⟨A7, c7, h12, hS7⟩ := e12
                        rw [h12]
                        obtain ⟨u0, hu0⟩ : ∃ v0, vs 0 = v0 := ⟨_, rfl⟩
                        obtain ⟨u1, hu1⟩ : ∃ v0, vs 1 = v0 := ⟨_, rfl⟩
                        obtain ⟨u2, hu2⟩ : ∃ v0, vs 2 = v0 := ⟨_, rfl⟩
                        obtain ⟨u3, hu3⟩ : ∃ v0, vs 3 = v0 := ⟨_, rfl⟩
                        obtain ⟨u4, hu4⟩ : ∃ v0, vs 4 = v0 := ⟨_, rfl⟩
                        obtain ⟨u5, hu5⟩ : ∃ v0, vs 5 = v0 := ⟨_, rfl⟩
                        obtain ⟨u6, hu6⟩ : ∃ v0, vs 6 = v0 := ⟨_, rfl⟩
                        obtain ⟨u7, hu7⟩ : ∃ v0, vs 7 = v0 := ⟨_, rfl⟩
                        obtain ⟨u8, hu8⟩ : ∃ v0, vs 8 = v0 := ⟨_, rfl⟩
                        obtain ⟨u9, hu9⟩ : ∃ v0, vs 9 = v0 := ⟨_, rfl⟩
                        obtain ⟨u10, hu10⟩ : ∃ v0, vs 10 = v0 := ⟨_, rfl⟩
                        obtain ⟨u11, hu11⟩ : ∃ v0, vs 11 = v0 := ⟨_, rfl⟩
                        rw [hu0, hu1, hu2, hu3, hu4, hu5, hu6, hu7, hu8, hu9, hu10, hu11]
                        clear hu0 hu1 hu2 hu3 hu4 hu5 hu6 hu7 hu8 hu9 hu10 hu11
                        clear h12 hI hl AS
                        have Hhi : Hid (∀ V, Below W.heap.size W V → SeenCs (fun _ => True) V A7 (q + 1) (l ++ [(⟨(m : Int), (c : Int), hi1, 20000⟩ : SeenC)])) := fun V hb => (hS7.keep SeenCR.good (Keeps.below hb)).mono SeenCR.good (fun _ _ => trivial)
                        obtain ⟨Ahi, hAhi⟩ : ∃ x, A7 = x := ⟨_, rfl⟩
                        subst hAhi
                        obtain ⟨chi, hchi⟩ : ∃ x, c7 = x := ⟨_, rfl⟩
                        subst hchi
                        have H910 : Hid (Below V9.heap.size V9 W) := hC
                        clear hS7 hC
                        obtain ⟨V10, hV10⟩ : ∃ V, V = W := ⟨_, rfl⟩
                        subst hV10
                        have H410 : Hid (Below V4.heap.size V4 V10) := bl_call H49.out H910.out (Nat.le_refl _)
                        have HB10 : Hid (Below W.heap.size W V10) := bl_call HB9.out H910.out (Nat.le_refl _)
                        obtain ⟨x0, x1, x2, _, _, y2, y3⟩ := kk.out V10 HB10.out
                        go_simp
                        go_wp2_with fail
                        clear x0 x1 x2 y2 y3
                        refine (kshrinks_any V10 (HG.out V10 HB10.out) (Hlo.out V10 H910.out) hca h1 h2).mono ?_
                        rw [HFE.out]
                        rintro e V11 ⟨⟨D1, n1, kc1, rfl, _⟩, c11⟩
                        have HB11 : Hid (Below W.heap.size W V11) := bl_call HB10.out c11 (Nat.le_refl _)
                        obtain ⟨x0, x1, x2, _, _, y2, y3⟩ := kk.out V11 HB11.out
                        have H1011 : Hid (Below V10.heap.size V10 V11) := c11
                        clear c11
                        go_wp2_with fail
                        clear x0 x1 x2 y2 y3
                        refine (kshrinks_any V11 (HG.out V11 HB11.out) (Hhi.out V11 H1011.out) hca h1 h2).mono ?_
                        rw [HGE.out]
                        rintro e V12 ⟨⟨D2, n2, kc2, rfl, _⟩, c12⟩
                        have HB12 : Hid (Below W.heap.size W V12) := bl_call HB11.out c12 (Nat.le_refl _)
                        have H1012 : Hid (Below V10.heap.size V10 V12) := bl_call H1011.out c12 (Nat.le_refl _)
                        have H412 : Hid (Below V4.heap.size V4 V12) := bl_call H410.out H1012.out (Nat.le_refl _)
                        clear c12
                        have HCZ : Hid (∀ V, Below V12.heap.size V12 V → Calls Try.prog 17 #[.agg #[.int .i64 klo, .int .i64 khi, .slice (some ⟨bM, oM, none⟩) n ca], .slice C q cc, .agg #[.int .i64 m, .int .i64 c]] V fun e w' => e = .returned (.tuple #[.agg #[.int .i64 lo, .int .i64 hi], .int .i64 0]) ∧ Below V.heap.size V w') := fun V hb => by
                          have := ksizes_any (cc := cc) (m : Int) (c : Int) V (HG.out V (bl_call HB12.out hb (Nat.le_refl _))) (HS.out V (bl_call H412.out hb (Nat.le_refl _))) hca h1 h2
                          rw [HSR.out] at this
                          exact this
                        go_wp2_with fail
                        have AS := Lib.hid (stE_stab V12.heap.size 23 (#[.int .i64 0, .int .i64 0]) (#[.int .i64 lo, .int .i64 hi]) [.agg #[.int .i64 klo, .int .i64 khi, .slice (some ⟨bM, oM, none⟩) n ca], .slice C q cc, .int .i64 (m : Int), .int .i64 (c : Int), .agg #[.int .i64 (m : Int), .int .i64 (c : Int)], .tuple #[.agg #[.int .i64 lo, .int .i64 hi], .int .i64 0], .tuple #[.agg #[.int .i64 lo, .int .i64 hi], .int .i64 0], .agg #[.int .i64 lo, .int .i64 hi], .int .i64 0] 9)
                        refine wp_region_invs (InvE V12.heap.size V12 (stE V12.heap.size 23 (#[.int .i64 0, .int .i64 0]) (#[.int .i64 lo, .int .i64 hi]) [.agg #[.int .i64 klo, .int .i64 khi, .slice (some ⟨bM, oM, none⟩) n ca], .slice C q cc, .int .i64 (m : Int), .int .i64 (c : Int), .agg #[.int .i64 (m : Int), .int .i64 (c : Int)], .tuple #[.agg #[.int .i64 lo, .int .i64 hi], .int .i64 0], .tuple #[.agg #[.int .i64 lo, .int .i64 hi], .int .i64 0], .agg #[.int .i64 lo, .int .i64 hi], .int .i64 0] 9) 10) 11 (by kernel_rfl) (by kernel_rfl) (by kernel_rfl) (by rfl) ⟨(Below.refl _ _).drew, fun i h => by cases h⟩ ?stepI (by rfl) (by rfl) ?finI
                        case stepI =>
                          refine StepsI.cons ?_ (StepsI.cons ?_ (StepsI.cons ?_ (StepsI.cons ?_ (StepsI.cons ?_ (StepsI.cons ?_ (StepsI.cons ?_ (StepsI.cons ?_ (StepsI.cons ?_ (StepsI.cons ?_ (StepsI.cons ?_ StepsI.nil))))))))))
                          all_goals
                            refine StepI.of ?_
                            intro ls vs W K hI hl hw hU hK
                            simp only [fillA, Act.put, List.setIfInBounds_toArray, List.set_cons_zero, List.set_cons_succ, Nat.zero_add, Nat.reduceAdd] at hK ⊢
                            simp [waits, Region.binds] at hw
                            have hC := hI.1
                          · -- 0
                            obtain ⟨k1, k2, k3, _, _, k6, k7⟩ := kk.out W (bl_call HB12.out hC (Nat.le_refl _))
                            go_simp
                            exact hK _ _ (hI.step AS.out (Below.refl _ _) hC.size (by decide) (stE_put (by decide) rfl))
                          · -- 1
                            go_simp
                            exact hK _ _ (hI.step AS.out (Below.refl _ _) hC.size (by decide) (stE_put (by decide) rfl))
                          · -- 2
                            go_simp
                            exact hK _ _ (hI.step AS.out (Below.refl _ _) hC.size (by decide) (stE_put (by decide) rfl))
                          · -- 3
                            go_simp
                            exact hK _ _ (hI.step AS.out (Below.refl _ _) hC.size (by decide) (stE_put (by decide) rfl))
                          · -- 4
                            have q2 : vs 2 = .int .i64 (m : Int) := stE_get (hI.2 2 (by simp [hw])) (by decide) rfl
                            have q3 : vs 3 = .int .i64 (c : Int) := stE_get (hI.2 3 (by simp [hw])) (by decide) rfl
                            simp only [q2, q3] at hK ⊢
                            go_simp
                            refine (at7_any (m : Int) (c : Int) W).mono ?_
                            rintro e w' ⟨rfl, hb⟩
                            exact hK _ _ (hI.step AS.out hb hC.size (by decide) (stE_put (by decide) rfl))
                          · -- 5
                            have q0 : vs 0 = .agg #[.int .i64 klo, .int .i64 khi, .slice (some ⟨bM, oM, none⟩) n ca] := stE_get (hI.2 0 (by simp [hw])) (by decide) rfl
                            have q1 : vs 1 = .slice C q cc := stE_get (hI.2 1 (by simp [hw])) (by decide) rfl
                            have q4 : vs 4 = .agg #[.int .i64 (m : Int), .int .i64 (c : Int)] := stE_get (hI.2 4 (by simp [hw])) (by decide) rfl
                            simp only [q0, q1, q4] at hK ⊢
                            go_simp
                            refine (HCZ.out W hC).mono ?_
                            rintro e w' ⟨rfl, hb⟩
                            exact hK _ _ (hI.step AS.out hb hC.size (by decide) (stE_put (by decide) rfl))
                          · -- 6
                            have q5 : vs 5 = .tuple #[.agg #[.int .i64 lo, .int .i64 hi], .int .i64 0] := stE_get (hI.2 5 (by simp [hw])) (by decide) rfl
                            simp only [q5] at hK ⊢
                            go_simp
                            exact hK _ _ (hI.step AS.out (Below.refl _ _) hC.size (by decide) (stE_put (by decide) rfl))
                          · -- 7
                            have q6 : vs 6 = .tuple #[.agg #[.int .i64 lo, .int .i64 hi], .int .i64 0] := stE_get (hI.2 6 (by simp [hw])) (by decide) rfl
                            simp only [q6] at hK ⊢
                            go_simp
                            exact hK _ _ (hI.step AS.out (Below.refl _ _) hC.size (by decide) (stE_put (by decide) rfl))
                          · -- 8
                            have q6 : vs 6 = .tuple #[.agg #[.int .i64 lo, .int .i64 hi], .int .i64 0] := stE_get (hI.2 6 (by simp [hw])) (by decide) rfl
                            simp only [q6] at hK ⊢
                            go_simp
                            exact hK _ _ (hI.step AS.out (Below.refl _ _) hC.size (by decide) (stE_put (by decide) rfl))
                          · -- 9
                            have h8 : ls 10 = false := (hU 10 _ rfl (by simp [waits, Region.binds])).1
                            go_simp
                            exact hK _ _ (hI.step AS.out (bl_alloc (Below.refl _ _) _ (Nat.le_refl _)) hC.size (by decide) (stE_new hC.size h8))
                          · -- 10
                            have q : vs 7 = .agg #[.int .i64 lo, .int .i64 hi] := stE_get (hI.2 7 (by simp [hw])) (by decide) rfl
                            obtain ⟨g4, hg4, h4, hB4⟩ := stE_at (hI.2 9 (by simp [hw]))
                            rw [hl] at hB4
                            replace hB4 : Blk W g4 23 (#[.int .i64 0, .int .i64 0]) := hB4
                            have z0 := hB4.cell 0
                            have z1 := hB4.cell 1
                            have fz0 := hB4.frozen 0
                            have fz1 := hB4.frozen 1
                            have hl4 := hB4.lt
                            simp only [q, h4] at hK ⊢
                            go_simp
                            exact hK undef _ (stE_store hI (bl_set (bl_set (Below.refl _ _) hg4 _) hg4 _) h4 hg4 (hB4.set2 _ _))
                        case finI =>
                          intro ls vs W hI hl hU
                          have e6 : vs 8 = .int .i64 0 := stE_get (hI.2 8 (hl 8 (by decide))) (by decide) rfl
                          have h4 := stE_at (hI.2 9 (hl 9 (by decide)))
                          rw [hl 10 (by decide)] at h4
                          have b4 := hI.1
                          simp only [fillA, Act.put, List.setIfInBounds_toArray, List.set_cons_zero, List.set_cons_succ, Nat.zero_add, Nat.reduceAdd, e6]
                          obtain ⟨gZ, hg4, h4, hB4⟩ := h4
                          rw [h4]
                          have SgZ : Hid (Blk W gZ 23 (#[.int .i64 lo, .int .i64 hi])) := hB4
                          obtain ⟨u0, hu0⟩ : ∃ v0, vs 0 = v0 := ⟨_, rfl⟩
                          obtain ⟨u1, hu1⟩ : ∃ v0, vs 1 = v0 := ⟨_, rfl⟩
                          obtain ⟨u2, hu2⟩ : ∃ v0, vs 2 = v0 := ⟨_, rfl⟩
                          obtain ⟨u3, hu3⟩ : ∃ v0, vs 3 = v0 := ⟨_, rfl⟩
                          obtain ⟨u4, hu4⟩ : ∃ v0, vs 4 = v0 := ⟨_, rfl⟩
                          obtain ⟨u5, hu5⟩ : ∃ v0, vs 5 = v0 := ⟨_, rfl⟩
                          obtain ⟨u6, hu6⟩ : ∃ v0, vs 6 = v0 := ⟨_, rfl⟩
                          obtain ⟨u7, hu7⟩ : ∃ v0, vs 7 = v0 := ⟨_, rfl⟩
                          rw [hu0, hu1, hu2, hu3, hu4, hu5, hu6, hu7]
                          clear hu0 hu1 hu2 hu3 hu4 hu5 hu6 hu7
                          clear hI hl hU e6 h4 hB4 AS
                          have HEND : Hid (Below Wm.heap.size Wm W) := bl_call HM8.out (bl_call H78b.out (bl_call H910.out (bl_call H1012.out b4 (Nat.le_refl _)) (Nat.le_refl _)) (Nat.le_refl _)) (Nat.le_refl _)
                          clear b4 hg4
                          obtain ⟨V13, hV13⟩ : ∃ V, V = W := ⟨_, rfl⟩
                          subst hV13
                          have z0 := SgZ.out.cell 0
                          have z1 := SgZ.out.cell 1
                          go_simp
                          by_cases hf0 : fE = 0
                          · subst hf0
                            go_wp2_with fail
                            go_roundw
                            case rel => exact ⟨c + 1, by omega, by go_num, HEND.out⟩
                            case measure => simp [intOf]; omega
                          · have hfb : (fE != 0) = true := by simpa using hf0
                            by_cases hg0 : gE = 0
                            · subst hg0
                              go_wp2_with fail
                              go_roundw
                              case rel => exact ⟨c + 1, by omega, by go_num, HEND.out⟩
                              case measure => simp [intOf]; omega
                            · have hgb : (gE != 0) = true := by simpa using hg0
                              have hh := (HFO.out.resolve_left hf0).resolve_left hg0
                              have hhn : ¬ hi ≤ 20000 := by omega
                              have hhd : decide (hi ≤ 20000) = false := decide_eq_false hhn
                              clear hf0 hg0
                              go_wp2_with fail
                              go_roundw
                              case rel => exact ⟨c + 1, by omega, by go_num, HEND.out⟩
                              case measure => simp [intOf]; omega
            · obtain rfl : c = castsN s m := by omega
              have hci : ¬ ((castsN s m : Nat) : Int) < ct := by omega
              go_wp2_with fail
              go_roundw
              case rel => exact ⟨m + 1, by omega, by go_num, bl_call HBm.out HBc.out (Nat.le_refl _)⟩
              case measure => simp [intOf]; omega
        · obtain rfl : m = n := by omega
          have hmi : ¬ (m : Int) < m := by omega
          have HBn : Hid (Below V5.heap.size V5 wr) := HBm
          go_wp2_with fail
          clear x0 x1 x2 y2 y3
          obtain ⟨Wn, hWn⟩ : ∃ V : World, V = wr := ⟨_, rfl⟩
          subst hWn
          go_loopw [24] (fun i wr => ∃ k : Nat, k ≤ fn ∧ i = .int .i64 k ∧ Hid (Below Wn.heap.size Wn wr)) (fun i _ => fn - (intOf i).toNat)
          case atStart => exact ⟨0, Nat.zero_le _, rfl, Below.refl _ _⟩
          case round =>
            obtain ⟨k, hk, rfl, HBk⟩ := hrel
            have H5k : Hid (Below V5.heap.size V5 wr) := bl_call HBn.out HBk.out (Nat.le_refl _)
            have HBWk : Hid (Below W.heap.size W wr) := bl_call HB5.out H5k.out (Nat.le_refl _)
            by_cases hlt : k < fn
            · have hki : (k : Int) < fn := by omega
              have hkc : k ≤ kc := by omega
              have hkci : (k : Int) ≤ kc := by omega
              have hkn : k ≤ fn := by omega
              have hkni : (k : Int) ≤ fn := by omega
              obtain ⟨bF, oF, ya, yb, hDe, _, d0, d1, HxF⟩ := Pls.get (HD.out wr H5k.out) hlt
              subst hDe
              have hfi := fit_in HOK.out (by rw [HLL.out]; exact List.mem_of_getElem? HxF.out : (ya, yb) ∈ fit7 s l pa pz)
              have HTH := Lib.hid (there_of HOK.out hfi.1 hfi.2)
              have HNH : Hid ((ya, yb) ∉ L.take k) := take_fresh (by rw [← HLL.out]; exact fit_nodup) HxF.out
              have kq : Hid (∀ V, Below wr.heap.size wr V → V.cell? ⟨bF, oF + k * 2, none⟩ = some (.int .i64 (ya : Int)) ∧ V.cell? ⟨bF, oF + k * 2 + 1, none⟩ = some (.int .i64 (yb : Int))) := fun V hb => ⟨getc hb d0, getc hb d1⟩
              clear d0 d1 hfi
              go_wp2_with fail
              refine wp_frameT ?_
              intro a0 ha0
              have tb3 : a0.tmps[3]? = some (.pointer (some ⟨w.heap.size, 0, none⟩)) := by rw [ha0]; kernel_rfl
              have tb11 : a0.tmps[11]? = some (.slice (some ⟨bF, oF, none⟩) fn kc) := by rw [ha0]; kernel_rfl
              have tb24 : a0.tmps[24]? = some (.int .i64 (k : Int)) := by rw [ha0]; kernel_rfl
              have hsz : a0.tmps.size = 187 := by rw [ha0]; kernel_rfl
              refine wp_region_list (fun W => Below wr.heap.size wr W) (fun w w' => Below w.heap.size w w')
                [isV (.agg #[.int .i64 klo, .int .i64 khi, .slice A m ca]), isV (.slice (some ⟨bF, oF, none⟩) fn kc), isV (.int .i64 (k : Int)), isV (.pointer (some ⟨bF, oF + k * 2, none⟩)), isV (.agg #[.int .i64 (ya : Int), .int .i64 (yb : Int)]), isV (.bool true), isV (.bool false), isV (.bool false), isV (.slice (some ⟨bF, oF, none⟩) fn kc), isV (.int .i64 (k : Int)), isV (.slice (some ⟨bF, oF, none⟩) k kc), isV (.slice (some ⟨bF, oF, none⟩) fn kc), isV (.int .i64 (k : Int)), isV (.pointer (some ⟨bF, oF + k * 2, none⟩)), isV (.agg #[.int .i64 (ya : Int), .int .i64 (yb : Int)]), isV (.bool false), isV (.bool false)]
                (by kernel_rfl) (by kernel_rfl) (by kernel_rfl) (by simp) (by simp) (Below.refl _ _).drew ?stabJ ?stepJ ?finJ
              case stabJ => exact (StabL.is (StabL.is (StabL.is (StabL.is (StabL.is (StabL.is (StabL.is (StabL.is (StabL.is (StabL.is (StabL.is (StabL.is (StabL.is (StabL.is (StabL.is (StabL.is (StabL.is StabL.nil)))))))))))))))))
              case stepJ =>
                refine StepsL.isA ?_ (StepsL.isA ?_ (StepsL.isA ?_ (StepsL.isA ?_ (StepsL.isA ?_ (StepsL.isA ?_ (StepsL.isA ?_ (StepsL.isA ?_ (StepsL.isA ?_ (StepsL.isA ?_ (StepsL.isA ?_ (StepsL.isA ?_ (StepsL.isA ?_ (StepsL.isA ?_ (StepsL.isA ?_ (StepsL.isA ?_ (StepsL.isA ?_ StepsL.nil))))))))))))))))
                · -- 0
                  intro vs a W K ha hC hD hU hK
                  have r3 : a.tmps[3]? = some (.pointer (some ⟨w.heap.size, 0, none⟩)) := by rw [ha, fillA_base0 (by kernel_rfl)]; exact tb3
                  clear ha hU hD ha0
                  rw [if_pos (by rfl)]
                  obtain ⟨k1, k2, k3, _, _, k6, k7⟩ := kk.out W (bl_call HBWk.out hC (Nat.le_refl _))
                  obtain ⟨kf0, kf1⟩ := kq.out W hC
                  go_simp
                  exact hK _ hC (Below.refl _ _)
                · -- 1
                  intro vs a W K ha hC hD hU hK
                  have r11 : a.tmps[11]? = some (.slice (some ⟨bF, oF, none⟩) fn kc) := by rw [ha, fillA_base0 (by kernel_rfl)]; exact tb11
                  clear ha hU hD ha0
                  rw [if_pos (by rfl)]
                  go_simp
                  exact hK _ hC (Below.refl _ _)
                · -- 2
                  intro vs a W K ha hC hD hU hK
                  have r24 : a.tmps[24]? = some (.int .i64 (k : Int)) := by rw [ha, fillA_base0 (by kernel_rfl)]; exact tb24
                  clear ha hU hD ha0
                  rw [if_pos (by rfl)]
                  go_simp
                  exact hK _ hC (Below.refl _ _)
                · -- 3
                  intro vs a W K ha hC hD hU hK
                  have r170 : a.tmps[170]? = some (vs 1) := by rw [ha]; exact fillA_get0 (j := 1) (by kernel_rfl) (by rw [hsz]; decide)
                  have q1 : vs 1 = .slice (some ⟨bF, oF, none⟩) fn kc := hD 1 (by simp [waits, Region.binds])
                  rw [q1] at r170
                  have r171 : a.tmps[171]? = some (vs 2) := by rw [ha]; exact fillA_get0 (j := 2) (by kernel_rfl) (by rw [hsz]; decide)
                  have q2 : vs 2 = .int .i64 (k : Int) := hD 2 (by simp [waits, Region.binds])
                  rw [q2] at r171
                  clear ha hU hD ha0
                  rw [if_pos (by rfl)]
                  go_simp
                  exact hK _ hC (Below.refl _ _)
                · -- 4
                  intro vs a W K ha hC hD hU hK
                  have r172 : a.tmps[172]? = some (vs 3) := by rw [ha]; exact fillA_get0 (j := 3) (by kernel_rfl) (by rw [hsz]; decide)
                  have q3 : vs 3 = .pointer (some ⟨bF, oF + k * 2, none⟩) := hD 3 (by simp [waits, Region.binds])
                  rw [q3] at r172
                  clear ha hU hD ha0
                  rw [if_pos (by rfl)]
                  obtain ⟨k1, k2, k3, _, _, k6, k7⟩ := kk.out W (bl_call HBWk.out hC (Nat.le_refl _))
                  obtain ⟨kf0, kf1⟩ := kq.out W hC
                  go_simp
                  exact hK _ hC (Below.refl _ _)
                · -- 5
                  intro vs a W K ha hC hD hU hK
                  have r169 : a.tmps[169]? = some (vs 0) := by rw [ha]; exact fillA_get0 (j := 0) (by kernel_rfl) (by rw [hsz]; decide)
                  have q0 : vs 0 = .agg #[.int .i64 klo, .int .i64 khi, .slice A m ca] := hD 0 (by simp [waits, Region.binds])
                  rw [q0] at r169
                  have r173 : a.tmps[173]? = some (vs 4) := by rw [ha]; exact fillA_get0 (j := 4) (by kernel_rfl) (by rw [hsz]; decide)
                  have q4 : vs 4 = .agg #[.int .i64 (ya : Int), .int .i64 (yb : Int)] := hD 4 (by simp [waits, Region.binds])
                  rw [q4] at r173
                  clear ha hU hD ha0
                  rw [if_pos (by rfl)]
                  go_simp
                  refine (rthere7_any (ya : Int) (yb : Int) HOK.out W (HG.out W (bl_call HBWk.out hC (Nat.le_refl _)))).mono ?_
                  rw [HTH.out]
                  rintro e w' ⟨rfl, hb⟩
                  exact hK _ (bl_call hC hb (Nat.le_refl _)) hb
                · -- 6
                  intro vs a W K ha hC hD hU hK
                  have r174 : a.tmps[174]? = some (vs 5) := by rw [ha]; exact fillA_get0 (j := 5) (by kernel_rfl) (by rw [hsz]; decide)
                  have q5 : vs 5 = .bool true := hD 5 (by simp [waits, Region.binds])
                  rw [q5] at r174
                  clear ha hU hD ha0
                  rw [if_pos (by rfl)]
                  go_simp
                  exact hK _ hC (Below.refl _ _)
                · -- 7
                  intro vs a W K ha hC hD hU hK
                  have r175 : a.tmps[175]? = some (vs 6) := by rw [ha]; exact fillA_get0 (j := 6) (by kernel_rfl) (by rw [hsz]; decide)
                  have q6 : vs 6 = .bool false := hD 6 (by simp [waits, Region.binds])
                  rw [q6] at r175
                  clear ha hU hD ha0
                  rw [if_pos (by rfl)]
                  go_simp
                  exact hK _ hC (Below.refl _ _)
                · -- 8
                  intro vs a W K ha hC hD hU hK
                  have r176 : a.tmps[176]? = some (vs 7) := by rw [ha]; exact fillA_get0 (j := 7) (by kernel_rfl) (by rw [hsz]; decide)
                  have q7 : vs 7 = .bool false := hD 7 (by simp [waits, Region.binds])
                  rw [q7] at r176
                  have r11 : a.tmps[11]? = some (.slice (some ⟨bF, oF, none⟩) fn kc) := by rw [ha, fillA_base0 (by kernel_rfl)]; exact tb11
                  clear ha hU hD ha0
                  rw [if_pos (by simp [Region.wanted, yielded, r176])]
                  go_simp
                  exact hK _ hC (Below.refl _ _)
                · -- 9
                  intro vs a W K ha hC hD hU hK
                  have r176 : a.tmps[176]? = some (vs 7) := by rw [ha]; exact fillA_get0 (j := 7) (by kernel_rfl) (by rw [hsz]; decide)
                  have q7 : vs 7 = .bool false := hD 7 (by simp [waits, Region.binds])
                  rw [q7] at r176
                  have r24 : a.tmps[24]? = some (.int .i64 (k : Int)) := by rw [ha, fillA_base0 (by kernel_rfl)]; exact tb24
                  clear ha hU hD ha0
                  rw [if_pos (by simp [Region.wanted, yielded, r176])]
                  go_simp
                  exact hK _ hC (Below.refl _ _)
                · -- 10
                  intro vs a W K ha hC hD hU hK
                  have r176 : a.tmps[176]? = some (vs 7) := by rw [ha]; exact fillA_get0 (j := 7) (by kernel_rfl) (by rw [hsz]; decide)
                  have q7 : vs 7 = .bool false := hD 7 (by simp [waits, Region.binds])
                  rw [q7] at r176
                  have r177 : a.tmps[177]? = some (vs 8) := by rw [ha]; exact fillA_get0 (j := 8) (by kernel_rfl) (by rw [hsz]; decide)
                  have q8 : vs 8 = .slice (some ⟨bF, oF, none⟩) fn kc := hD 8 (by simp [waits, Region.binds])
                  rw [q8] at r177
                  have r178 : a.tmps[178]? = some (vs 9) := by rw [ha]; exact fillA_get0 (j := 9) (by kernel_rfl) (by rw [hsz]; decide)
                  have q9 : vs 9 = .int .i64 (k : Int) := hD 9 (by simp [waits, Region.binds])
                  rw [q9] at r178
                  clear ha hU hD ha0
                  rw [if_pos (by simp [Region.wanted, yielded, r176])]
                  go_simp
                  exact hK _ hC (Below.refl _ _)
                · -- 11
                  intro vs a W K ha hC hD hU hK
                  have r176 : a.tmps[176]? = some (vs 7) := by rw [ha]; exact fillA_get0 (j := 7) (by kernel_rfl) (by rw [hsz]; decide)
                  have q7 : vs 7 = .bool false := hD 7 (by simp [waits, Region.binds])
                  rw [q7] at r176
                  have r11 : a.tmps[11]? = some (.slice (some ⟨bF, oF, none⟩) fn kc) := by rw [ha, fillA_base0 (by kernel_rfl)]; exact tb11
                  clear ha hU hD ha0
                  rw [if_pos (by simp [Region.wanted, yielded, r176])]
                  go_simp
                  exact hK _ hC (Below.refl _ _)
                · -- 12
                  intro vs a W K ha hC hD hU hK
                  have r176 : a.tmps[176]? = some (vs 7) := by rw [ha]; exact fillA_get0 (j := 7) (by kernel_rfl) (by rw [hsz]; decide)
                  have q7 : vs 7 = .bool false := hD 7 (by simp [waits, Region.binds])
                  rw [q7] at r176
                  have r24 : a.tmps[24]? = some (.int .i64 (k : Int)) := by rw [ha, fillA_base0 (by kernel_rfl)]; exact tb24
                  clear ha hU hD ha0
                  rw [if_pos (by simp [Region.wanted, yielded, r176])]
                  go_simp
                  exact hK _ hC (Below.refl _ _)
                · -- 13
                  intro vs a W K ha hC hD hU hK
                  have r176 : a.tmps[176]? = some (vs 7) := by rw [ha]; exact fillA_get0 (j := 7) (by kernel_rfl) (by rw [hsz]; decide)
                  have q7 : vs 7 = .bool false := hD 7 (by simp [waits, Region.binds])
                  rw [q7] at r176
                  have r180 : a.tmps[180]? = some (vs 11) := by rw [ha]; exact fillA_get0 (j := 11) (by kernel_rfl) (by rw [hsz]; decide)
                  have q11 : vs 11 = .slice (some ⟨bF, oF, none⟩) fn kc := hD 11 (by simp [waits, Region.binds])
                  rw [q11] at r180
                  have r181 : a.tmps[181]? = some (vs 12) := by rw [ha]; exact fillA_get0 (j := 12) (by kernel_rfl) (by rw [hsz]; decide)
                  have q12 : vs 12 = .int .i64 (k : Int) := hD 12 (by simp [waits, Region.binds])
                  rw [q12] at r181
                  clear ha hU hD ha0
                  rw [if_pos (by simp [Region.wanted, yielded, r176])]
                  go_simp
                  exact hK _ hC (Below.refl _ _)
                · -- 14
                  intro vs a W K ha hC hD hU hK
                  have r176 : a.tmps[176]? = some (vs 7) := by rw [ha]; exact fillA_get0 (j := 7) (by kernel_rfl) (by rw [hsz]; decide)
                  have q7 : vs 7 = .bool false := hD 7 (by simp [waits, Region.binds])
                  rw [q7] at r176
                  have r182 : a.tmps[182]? = some (vs 13) := by rw [ha]; exact fillA_get0 (j := 13) (by kernel_rfl) (by rw [hsz]; decide)
                  have q13 : vs 13 = .pointer (some ⟨bF, oF + k * 2, none⟩) := hD 13 (by simp [waits, Region.binds])
                  rw [q13] at r182
                  clear ha hU hD ha0
                  rw [if_pos (by simp [Region.wanted, yielded, r176])]
                  obtain ⟨k1, k2, k3, _, _, k6, k7⟩ := kk.out W (bl_call HBWk.out hC (Nat.le_refl _))
                  obtain ⟨kf0, kf1⟩ := kq.out W hC
                  go_simp
                  exact hK _ hC (Below.refl _ _)
                · -- 15
                  intro vs a W K ha hC hD hU hK
                  have r176 : a.tmps[176]? = some (vs 7) := by rw [ha]; exact fillA_get0 (j := 7) (by kernel_rfl) (by rw [hsz]; decide)
                  have q7 : vs 7 = .bool false := hD 7 (by simp [waits, Region.binds])
                  rw [q7] at r176
                  have r179 : a.tmps[179]? = some (vs 10) := by rw [ha]; exact fillA_get0 (j := 10) (by kernel_rfl) (by rw [hsz]; decide)
                  have q10 : vs 10 = .slice (some ⟨bF, oF, none⟩) k kc := hD 10 (by simp [waits, Region.binds])
                  rw [q10] at r179
                  have r183 : a.tmps[183]? = some (vs 14) := by rw [ha]; exact fillA_get0 (j := 14) (by kernel_rfl) (by rw [hsz]; decide)
                  have q14 : vs 14 = .agg #[.int .i64 (ya : Int), .int .i64 (yb : Int)] := hD 14 (by simp [waits, Region.binds])
                  rw [q14] at r183
                  clear ha hU hD ha0
                  rw [if_pos (by simp [Region.wanted, yielded, r176])]
                  go_simp
                  refine (has7_any (ya, yb) W ((HD.out W (bl_call H5k.out hC (Nat.le_refl _))).take (k := k) (by omega))).mono ?_
                  rw [decide_eq_false HNH.out]
                  rintro e w' ⟨rfl, hb⟩
                  exact hK _ (bl_call hC hb (Nat.le_refl _)) hb
                · -- 16
                  intro vs a W K ha hC hD hU hK
                  have r176 : a.tmps[176]? = some (vs 7) := by rw [ha]; exact fillA_get0 (j := 7) (by kernel_rfl) (by rw [hsz]; decide)
                  have q7 : vs 7 = .bool false := hD 7 (by simp [waits, Region.binds])
                  rw [q7] at r176
                  have r184 : a.tmps[184]? = some (vs 15) := by rw [ha]; exact fillA_get0 (j := 15) (by kernel_rfl) (by rw [hsz]; decide)
                  have q15 : vs 15 = .bool false := hD 15 (by simp [waits, Region.binds])
                  rw [q15] at r184
                  clear ha hU hD ha0
                  rw [if_pos (by rfl)]
                  go_simp
                  exact hK _ hC (Below.refl _ _)
              case finJ =>
                refine Fin1.none (Nat.le_refl _) ?_
                intro vs W a1 hC hE ha
                have eL : vs 16 = .bool false := hE 16 (by simp)
                rw [ha, ha0]
                clear ha ha0 hsz tb3 tb11 tb24
                simp only [fillA, Act.put, List.setIfInBounds_toArray, List.set_cons_zero, List.set_cons_succ, Nat.zero_add, Nat.reduceAdd, eL]
                obtain ⟨u0, hu0⟩ : ∃ v0, vs 0 = v0 := ⟨_, rfl⟩
                obtain ⟨u1, hu1⟩ : ∃ v0, vs 1 = v0 := ⟨_, rfl⟩
                obtain ⟨u2, hu2⟩ : ∃ v0, vs 2 = v0 := ⟨_, rfl⟩
                obtain ⟨u3, hu3⟩ : ∃ v0, vs 3 = v0 := ⟨_, rfl⟩
                obtain ⟨u4, hu4⟩ : ∃ v0, vs 4 = v0 := ⟨_, rfl⟩
                obtain ⟨u5, hu5⟩ : ∃ v0, vs 5 = v0 := ⟨_, rfl⟩
                obtain ⟨u6, hu6⟩ : ∃ v0, vs 6 = v0 := ⟨_, rfl⟩
                obtain ⟨u7, hu7⟩ : ∃ v0, vs 7 = v0 := ⟨_, rfl⟩
                obtain ⟨u8, hu8⟩ : ∃ v0, vs 8 = v0 := ⟨_, rfl⟩
                obtain ⟨u9, hu9⟩ : ∃ v0, vs 9 = v0 := ⟨_, rfl⟩
                obtain ⟨u10, hu10⟩ : ∃ v0, vs 10 = v0 := ⟨_, rfl⟩
                obtain ⟨u11, hu11⟩ : ∃ v0, vs 11 = v0 := ⟨_, rfl⟩
                obtain ⟨u12, hu12⟩ : ∃ v0, vs 12 = v0 := ⟨_, rfl⟩
                obtain ⟨u13, hu13⟩ : ∃ v0, vs 13 = v0 := ⟨_, rfl⟩
                obtain ⟨u14, hu14⟩ : ∃ v0, vs 14 = v0 := ⟨_, rfl⟩
                obtain ⟨u15, hu15⟩ : ∃ v0, vs 15 = v0 := ⟨_, rfl⟩
                rw [hu0, hu1, hu2, hu3, hu4, hu5, hu6, hu7, hu8, hu9, hu10, hu11, hu12, hu13, hu14, hu15]
                clear hu0 hu1 hu2 hu3 hu4 hu5 hu6 hu7 hu8 hu9 hu10 hu11 hu12 hu13 hu14 hu15
                have HEND : Hid (Below Wn.heap.size Wn W) := bl_call HBk.out hC (Nat.le_refl _)
                clear hE eL hC
                go_wp2_with fail
                go_roundw
                case rel => exact ⟨k + 1, by omega, by go_num, HEND.out⟩
                case measure => simp [intOf]; omega
            · obtain rfl : k = fn := by omega
              have hki : ¬ (k : Int) < k := by omega
              go_wp2_with fail
              refine (awake7_any wr).mono ?_
              rintro e V99 ⟨rfl, c99⟩
              have b99 := bl_call hBW (bl_call HBWk.out c99 (Nat.le_refl _)) (Nat.le_refl _)
              clear c99
              go_wp2
              go_ret
              exact ⟨by rfl, b99⟩
    · have hrb : (er != 0) = true := by simpa using hr
      have HR : Hid (fitsR s [] pa pz = ([], er)) := by
        have h0 : (seen7 s []).2 = 0 := by rw [seen7_ok HE.out (by simp) (fun k hk => by simp at hk)]
        rw [Hid, fitsR_p h0 (by rw [her]; exact hr), her]
      clear hr her
      go_wp2_with fail
      clear x0 x1 x2 y0 y1 y2 y3
      refine (kFits_any (l := []) pa pz V1b (HG.out V1b b1) (SliceOf.nil _ _ _ _ _) hca h1 h2).mono ?_
      rw [HR.out]
      rintro e V2 ⟨⟨D, kc, rfl, hD⟩, c2⟩
      have b2 := bl_call b1 c2 (Nat.le_refl _)
      clear hD c2 b1
      go_wp2_with fail
      refine (awake7_any V2).mono ?_
      rintro e V3 ⟨rfl, c3⟩
      have b3 := bl_call hBW (bl_call b2 c3 (Nat.le_refl _)) (Nat.le_refl _)
      clear c3
      go_wp2
      go_ret
      exact ⟨by rfl, b3⟩
  · have heb : (err7 s == 0) = false := by simpa using he
    rw [heb]
    have HR := Lib.hid (fitsR_bad (s := s) (l := []) (a := pa) (z := pz) (by rw [seen7_bad he]; exact he))
    have HR2 : Hid ((seen7 s []).2 ≠ 0) := by rw [Hid, seen7_bad he]; exact he
    clear he heb
    go_wp2_with fail
    clear x0 x1 x2 y0 y1 y2 y3
    refine (kFits_any (l := []) pa pz V1 (HG.out V1 b1) (SliceOf.nil _ _ _ _ _) hca h1 h2).mono ?_
    rw [HR.out]
    rintro e V2 ⟨⟨D, kc, rfl, hD⟩, c2⟩
    obtain ⟨ev, hev⟩ : ∃ x, (seen7 s []).2 = x := ⟨_, rfl⟩
    have hvb : (ev != 0) = true := by rw [← hev]; simpa using HR2.out
    rw [hev]
    have b2 := bl_call b1 c2 (Nat.le_refl _)
    clear hev hD c2 b1
    go_wp2_with fail
    refine (awake7_any V2).mono ?_
    rintro e V3 ⟨rfl, c3⟩
    have b3 := bl_call hBW (bl_call b2 c3 (Nat.le_refl _)) (Nat.le_refl _)
    clear c3
    go_wp2
    go_ret
    exact ⟨by rfl, b3⟩
end Go.Proofs.Ytpdldmichpmgmaa
