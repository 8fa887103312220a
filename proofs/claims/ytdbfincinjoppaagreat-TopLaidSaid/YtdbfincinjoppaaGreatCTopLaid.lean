/- A part of the proof that TopLaid always answers true. -/
import Derived.Test.YtdbfincinjoppaaGreatCKLaw1
import Derived.Test.YtdbfincinjoppaaGreatCKLaw4
import Derived.Test.YtdbfincinjoppaaGreatCTLaw2
import Derived.Test.YtdbfincinjoppaaGreatCTLayW
import Derived.Test.YtdbfincinjoppaaGreatCTRefH
set_option linter.all false
namespace Go.Proofs.YtdbfincinjoppaaGreat
open Go.RowKit Go.Shelf
set_option maxRecDepth 100000 in
set_option maxHeartbeats 16000000 in
theorem topLaid_any {A B R XA XB SW CS : Option Addr} {n ca tn tca rm rc xn xc xm xd sn sc cn cd : Nat} {s : Shop} {h : Hall} {klo khi alo ahi most : Int} {xs ys ws cs : List Nat} (w : World) (g : Moulds (fun _ => True) w A n s.moulds) (hh : HallAt (fun _ => True) w B tn R rm h) (hX : Bytes (fun _ => True) w XA xn xs) (hY : Bytes (fun _ => True) w XB xm ys) (hW : Bytes (fun _ => True) w SW sn ws) (hC : Bytes (fun _ => True) w CS cn cs) (hca : n ≤ ca) (hta : tn ≤ tca) (h1 : s.klo = klo) (h2 : s.khi = khi) (q1 : h.alo = alo) (q2 : h.ahi = ahi) (q3 : h.most = most) :
  Calls Tryz.prog 3 #[.agg #[.int .i64 klo, .int .i64 khi, .slice A n ca], .agg #[.int .i64 alo, .int .i64 ahi, .int .i64 most, .slice B tn tca, .slice R rm rc], .agg #[.slice XA xn xc, .slice XB xm xd, .slice SW sn sc, .slice CS cn cd]] w fun e w' => e = .returned (.bool true) ∧ Below w.heap.size w w' := by
 obtain ⟨iT, hiT, hzT0, hzT1, hzT2⟩ := info_parts infoTile
 obtain ⟨iI, hiI, hzI0, hzI1, hzI2⟩ := info_parts infoI8
 have HGw : Hid (∀ V, Below w.heap.size w V → Moulds (fun _ => True) V A n s.moulds) := fun V hb => g.keep MouldR.good (Keeps.below hb)
 have HHw : Hid (∀ V, Below w.heap.size w V → HallAt (fun _ => True) V B tn R rm h) := fun V hb => hh.keep (Keeps.below hb)
 have HXw : Hid (∀ V, Below w.heap.size w V → Bytes (fun _ => True) V XA xn xs) := fun V hb => hX.keep ByteR.good (Keeps.below hb)
 have HYw : Hid (∀ V, Below w.heap.size w V → Bytes (fun _ => True) V XB xm ys) := fun V hb => hY.keep ByteR.good (Keeps.below hb)
 have HWw : Hid (∀ V, Below w.heap.size w V → Bytes (fun _ => True) V SW sn ws) := fun V hb => hW.keep ByteR.good (Keeps.below hb)
 have HCw : Hid (∀ V, Below w.heap.size w V → Bytes (fun _ => True) V CS cn cs) := fun V hb => hC.keep ByteR.good (Keeps.below hb)
 have Hn := Lib.hid g.len
 have Htn := Lib.hid hh.ts.len
 have Hrm := Lib.hid hh.rs.len
 have hnl := g.le
 have htl := hh.ts.le
 have hrl := hh.rs.le
 have hcl := hC.le
 have Hcn := Lib.hid hC.len
 obtain ⟨W, hWe⟩ : ∃ W, ((w.alloc (.cells #[.int .i64 klo, .int .i64 khi, .slice A n ca] 26)).alloc (.cells #[.int .i64 alo, .int .i64 ahi, .int .i64 most, .slice B tn tca, .slice R rm rc] 30)).alloc (.cells #[.slice XA xn xc, .slice XB xm xd, .slice SW sn sc, .slice CS cn cd] 35) = W := ⟨_, rfl⟩
 have X : Blk W w.heap.size 26 #[.int .i64 klo, .int .i64 khi, .slice A n ca] := by rw [← hWe]; exact ((Blk.new _ _ _ rfl).alloc _).alloc _
 have Y : Blk W (w.heap.size + 1) 30 #[.int .i64 alo, .int .i64 ahi, .int .i64 most, .slice B tn tca, .slice R rm rc] := by rw [← hWe]; exact (Blk.new _ _ _ (by simp)).alloc _
 have Z : Blk W (w.heap.size + 1 + 1) 35 #[.slice XA xn xc, .slice XB xm xd, .slice SW sn sc, .slice CS cn cd] := by rw [← hWe]; exact Blk.new _ _ _ (by simp)
 have hBW : Below w.heap.size w W := by rw [← hWe]; exact bl_alloc (bl_alloc (bl_alloc (Below.refl _ _) _ (Nat.le_refl _)) _ (Nat.le_refl _)) _ (Nat.le_refl _)
 have HXb := Lib.hid X
 have HYb := Lib.hid Y
 have HZb := Lib.hid Z
 have kk : Hid (∀ V, Below W.heap.size W V → V.cell? ⟨w.heap.size, 0, none⟩ = some (.int .i64 klo) ∧ V.cell? ⟨w.heap.size, 1, none⟩ = some (.int .i64 khi) ∧ V.cell? ⟨w.heap.size, 2, none⟩ = some (.slice A n ca) ∧ V.cell? ⟨w.heap.size + 1, 0, none⟩ = some (.int .i64 alo) ∧ V.cell? ⟨w.heap.size + 1, 1, none⟩ = some (.int .i64 ahi) ∧ V.cell? ⟨w.heap.size + 1, 2, none⟩ = some (.int .i64 most) ∧ V.cell? ⟨w.heap.size + 1, 3, none⟩ = some (.slice B tn tca) ∧ V.cell? ⟨w.heap.size + 1, 4, none⟩ = some (.slice R rm rc) ∧ V.cell? ⟨w.heap.size + 1 + 1, 0, none⟩ = some (.slice XA xn xc) ∧ V.cell? ⟨w.heap.size + 1 + 1, 1, none⟩ = some (.slice XB xm xd) ∧ V.cell? ⟨w.heap.size + 1 + 1, 2, none⟩ = some (.slice SW sn sc) ∧ V.cell? ⟨w.heap.size + 1 + 1, 3, none⟩ = some (.slice CS cn cd)) :=
  fun V hb => ⟨(X.bl hb).cell 0, (X.bl hb).cell 1, (X.bl hb).cell 2, (Y.bl hb).cell 0, (Y.bl hb).cell 1, (Y.bl hb).cell 2, (Y.bl hb).cell 3, (Y.bl hb).cell 4, (Z.bl hb).cell 0, (Z.bl hb).cell 1, (Z.bl hb).cell 2, (Z.bl hb).cell 3⟩
 clear X Y Z g hh hX hY hW hC
 obtain ⟨x0, x1, x2, a0c, a1c, a2c, a3c, a4c, y0, y1, y2, y3⟩ := kk.out W (Below.refl _ _)
 go_enter Tryz.func3, Tryz.ntmps3
 go_wp2_with fail
 clear hWe x0 x1 x2 a0c a1c a2c a3c a4c y0 y1 y2 y3
 refine (rcheck7_any W (HGw.out W hBW) h1 h2).mono ?_
 rintro e V1 ⟨rfl, b1⟩
 obtain ⟨i1, hi1⟩ : ∃ x, (check7 s).1 = x := ⟨_, rfl⟩
 obtain ⟨i2, hi2⟩ : ∃ x, (check7 s).2.1 = x := ⟨_, rfl⟩
 obtain ⟨e7, he7⟩ : ∃ x, (check7 s).2.2 = x := ⟨_, rfl⟩
 rw [hi1, hi2, he7]
 clear hi1 hi2
 obtain ⟨x0, x1, x2, a0c, a1c, a2c, a3c, a4c, y0, y1, y2, y3⟩ := kk.out V1 b1
 go_wp2_with fail
 clear x0 x1 x2 a0c a1c a2c a3c a4c y0 y1 y2 y3
 refine (rcheck_any V1 (HHw.out V1 (bl_call hBW b1 (Nat.le_refl _))) q1 q2 q3).mono ?_
 rintro e V2 ⟨rfl, c2⟩
 obtain ⟨i3, hi3⟩ : ∃ x, (check8 h).1 = x := ⟨_, rfl⟩
 obtain ⟨i4, hi4⟩ : ∃ x, (check8 h).2.1 = x := ⟨_, rfl⟩
 obtain ⟨e8, he8⟩ : ∃ x, (check8 h).2.2 = x := ⟨_, rfl⟩
 rw [hi3, hi4, he8]
 clear hi3 hi4
 have b2 : Below W.heap.size W V2 := bl_call b1 c2 (Nat.le_refl _)
 have HB2 := Lib.hid b2
 clear b1 c2 b2
 by_cases z7 : e7 = 0
 ·by_cases z8 : e8 = 0
  ·subst z7 z8
   have HE7 : Hid ((check7 s).2.2 = 0) := he7
   have HE8 : Hid ((check8 h).2.2 = 0) := he8
   clear he7 he8
   have hok := okS_of HE7.out
   have HOK := Lib.hid hok
   have HK8 : Hid (OkH h) := okH_of HE8.out
   have HTR := Lib.hid (any_truth hok xs)
   obtain ⟨x0, x1, x2, a0c, a1c, a2c, a3c, a4c, y0, y1, y2, y3⟩ := kk.out V2 HB2.out
   go_wp2_with fail
   clear x0 x1 x2 a0c a1c a2c a3c a4c y0 y1 y2 y3
   refine (any7_any V2 (HGw.out V2 (bl_call hBW HB2.out (Nat.le_refl _))) (HXw.out V2 (bl_call hBW HB2.out (Nat.le_refl _))) h1 h2 hok).mono ?_
   rintro e V3 ⟨⟨T, tc, rfl, hT⟩, c3⟩
   obtain ⟨k0, hk0⟩ : ∃ x, anyS7 s xs = x := ⟨_, rfl⟩
   obtain ⟨tw, htw⟩ : ∃ x, anyT7 s xs = x := ⟨_, rfl⟩
   rw [hk0, htw] at HTR
   rw [htw] at hT
   rw [hk0, htw]
   have Hnt : Hid (tw.length = n) := HTR.out.len.trans Hn.out
   rw [Hnt.out] at hT
   rw [Hnt.out]
   obtain ⟨gT, hgT⟩ : ∃ x, V3.heap.size = x := ⟨_, rfl⟩
   obtain ⟨V3a, hV3⟩ : ∃ V, V3.alloc (.cells #[.int .i64 k0, .slice T n tc] 43) = V := ⟨_, rfl⟩
   have S3 : Blk V3a gT 43 #[.int .i64 k0, .slice T n tc] := by rw [← hV3]; exact Blk.new _ _ _ hgT.symm
   have b3 : Below W.heap.size W V3a := by rw [← hV3]; exact bl_alloc (bl_call HB2.out c3 (Nat.le_refl _)) _ (Nat.le_refl _)
   have hT3 : Pairs (fun k => V2.heap.size ≤ k) V3a T n tw := by rw [← hV3]; exact hT.keep PairR.good (Keeps.alloc _ _)
   obtain ⟨x0, x1, x2, a0c, a1c, a2c, a3c, a4c, y0, y1, y2, y3⟩ := kk.out V3a b3
   have s0 := S3.cell 0
   have s1 := S3.cell 1
   have hgT2 : V2.heap.size ≤ gT := by rw [← hgT]; exact c3.size
   clear hk0 htw hT c3
   go_wp2_with fail
   clear x0 x1 x2 a0c a1c a2c a3c a4c y0 y1 y2 y3
   clear s0 s1 hV3 hgT
   have HBD := Lib.hid (truth_bd hok HTR.out)
   have HKB := Lib.hid (truth_k hok HTR.out)
   refine (told7_any V3a (HGw.out V3a (bl_call hBW b3 (Nat.le_refl _))) (HYw.out V3a (bl_call hBW b3 (Nat.le_refl _))) hT3 hok Hn.out.symm HBD.out HKB.out).mono ?_
   rintro e V4 ⟨⟨C, cc, rfl, hS⟩, c4⟩
   have b4 := bl_call b3 c4 (Nat.le_refl _)
   obtain ⟨l, hl⟩ : ∃ x, toldL7 s k0 tw ys = x := ⟨_, rfl⟩
   have HSI : Hid (∀ y ∈ l, SeenIn s k0 tw y) := by rw [← hl]; exact toldL_seen hok HTR.out ys
   have HL6 : Hid (l.length ≤ 6) := by rw [← hl]; exact toldL_len _ _ _ _
   rw [hl] at hS
   rw [hl]
   obtain ⟨q, hq⟩ : ∃ x, l.length = x := ⟨_, rfl⟩
   rw [hq] at hS
   rw [hq]
   have hs0 : (seen7 s l).2 = 0 := by rw [seen_ok HE7.out HL6.out HSI.out]
   have hne := List.ne_nil_of_mem (truth_known hok HTR.out HSI.out)
   have HSZ : Hid (∀ m c : Nat, m < n → c < castsN s m → sizesR s l m c = (size7 s l m c, 0) ∧ (size7 s l m c).1 ≤ madeT k0 tw m c ∧ madeT k0 tw m c ≤ (size7 s l m c).2) := fun m c hm hc => by
    rw [← Hn.out] at hm
    exact ⟨sizesR_in hs0 hok hm hc hne, truth_size hok HTR.out HSI.out hm c⟩
   have hVW : W.heap.size ≤ V2.heap.size := HB2.out.size
   have hW3 : w.heap.size + 1 + 1 < W.heap.size := HZb.out.lt
   have h34 : V2.heap.size ≤ V3a.heap.size := by have := S3.lt; omega
   have S4 := S3.bl c4
   have hT4 : Pairs (fun k => V2.heap.size ≤ k) V4 T n tw := hT3.keep PairR.good (Keeps.below c4)
   have HB4 := Lib.hid b4
   have h44 := c4.size
   clear hl hq hs0 hne c4 b3 S3 hT3 b4
   obtain ⟨x0, x1, x2, a0c, a1c, a2c, a3c, a4c, y0, y1, y2, y3⟩ := kk.out (V4.alloc (.cells #[] 55)) (bl_alloc HB4.out _ (Nat.le_refl _))
   have hts := (HHw.out V4 (bl_call hBW HB4.out (Nat.le_refl _))).ts
   have ht8 : 1 ≤ tn ∧ tn ≤ 8 := by rw [← Htn.out]; exact HK8.out.nt
   go_wp2_with (at_builtin; go_loud (refine wpList_append_lit _ rfl (.tmp 62) (.tmp 64) _ rfl TileR.good (T := fun _ => True) (S := fun _ => False) V4.heap.size 55 iT _ 48 Tryz.underlying27 hiT hzT0 hzT1 hzT2 rfl (by decide) V4.heap.size rfl (Blk.new _ _ _ rfl) (Nat.le_refl _) B tn tca h.tiles rfl (hts.keep TileR.good (Keeps.alloc _ _)) (fun _ _ h => h) ?c1 ?c2 ?c3 (fun h => h) (fun h => h) ?_))
   case c1 => simp only [maxLen]; omega
   case c2 => omega
   case c3 => simp
   intro Aq tcap V5 hO5 hb5
   have b5 : Below V4.heap.size V4 V5 := bl_call (bl_alloc (Below.refl _ _) _ (Nat.le_refl _)) (show Below (V4.alloc _).heap.size _ V5 by simpa using hb5) (by simp)
   obtain ⟨gTl, rfl⟩ : ∃ gb, Aq = some ⟨gb, 0, none⟩ := by
    obtain ⟨_, cells, ho, _⟩ := hO5
    rcases ho.2 with ⟨_, h0⟩ | ⟨g9, cap, cur, e, _⟩
    ·rw [Htn.out] at h0; omega
    injection e with e; exact ⟨g9, e⟩
   have htcap := OwnL.cap7 hO5
   have hgl : V4.heap.size ≤ gTl ∧ gTl < V5.heap.size := OwnL.block hO5 gTl (by simp [Value.ownBlock])
   have hy5 := HYb.out.bl (bl_call HB4.out b5 (Nat.le_refl _))
   have f3 := hy5.frozen 3
   have ly := hy5.lt
   have a3d := hy5.cell 3
   clear hb5 hts x0 x1 x2 a0c a1c a2c a3c a4c y0 y1 y2 y3
   obtain ⟨V6, hV6⟩ : ∃ V, V5.setCell ⟨w.heap.size + 1, 3, none⟩ (.slice (some ⟨gTl, 0, none⟩) tn tcap) = V := ⟨_, rfl⟩
   have Y6 : Blk V6 (w.heap.size + 1) 30 #[.int .i64 alo, .int .i64 ahi, .int .i64 most, .slice (some ⟨gTl, 0, none⟩) tn tcap, .slice R rm rc] := by rw [← hV6]; exact hy5.set_ 3 _
   have X6 : Blk V6 w.heap.size 26 #[.int .i64 klo, .int .i64 khi, .slice A n ca] := by rw [← hV6]; exact (HXb.out.bl (bl_call HB4.out b5 (Nat.le_refl _))).far (by simp) _
   have Z6 : Blk V6 (w.heap.size + 1 + 1) 35 #[.slice XA xn xc, .slice XB xm xd, .slice SW sn sc, .slice CS cn cd] := by rw [← hV6]; exact (HZb.out.bl (bl_call HB4.out b5 (Nat.le_refl _))).far (by simp) _
   have S6 : Blk V6 gT 43 #[.int .i64 k0, .slice T n tc] := by rw [← hV6]; exact (S4.bl b5).far (by simp; omega) _
   have hW6 : Below w.heap.size w V6 := by rw [← hV6]; exact bl_set (bl_call hBW (bl_call HB4.out b5 (Nat.le_refl _)) (Nat.le_refl _)) (by simp) _
   have hT6 : Pairs (fun k => V2.heap.size ≤ k ∧ k < V4.heap.size) V6 T n tw := by rw [← hV6]; exact ((((SliceOf.bound PairR.good hT4).keep PairR.good (Keeps.below b5))).keep PairR.good (Keeps.setCell _ _ _ (fun hk => by have := hk.1; dsimp only at this; omega)))
   have hS6 : SeenCs (fun k => V3a.heap.size ≤ k ∧ k < V4.heap.size) V6 C q l := by rw [← hV6]; exact ((((SliceOf.bound SeenCR.good hS).keep SeenCR.good (Keeps.below b5))).keep SeenCR.good (Keeps.setCell _ _ _ (fun hk => by have := hk.1; dsimp only at this; omega)))
   have hO6 : OwnL TileR 5 (fun _ => False) V6 V4.heap.size 55 (.slice (some ⟨gTl, 0, none⟩) tn tcap) h.tiles := by rw [← hV6]; exact hO5.keep TileR.good (Keeps.setCell _ _ _ (fun hh => by
     rcases hh with hh | hh
     ·exact hh
     have e9 : gTl = w.heap.size + 1 := by simpa [Value.ownBlock] using hh
     omega))
   have b6s : V5.heap.size = V6.heap.size := by rw [← hV6]; simp
   have kb : Hid (∀ V, Below V4.heap.size V6 V → V.cell? ⟨w.heap.size, 0, none⟩ = some (.int .i64 klo) ∧ V.cell? ⟨w.heap.size, 1, none⟩ = some (.int .i64 khi) ∧ V.cell? ⟨w.heap.size, 2, none⟩ = some (.slice A n ca) ∧ V.cell? ⟨w.heap.size + 1, 0, none⟩ = some (.int .i64 alo) ∧ V.cell? ⟨w.heap.size + 1, 1, none⟩ = some (.int .i64 ahi) ∧ V.cell? ⟨w.heap.size + 1, 2, none⟩ = some (.int .i64 most) ∧ V.cell? ⟨w.heap.size + 1, 3, none⟩ = some (.slice (some ⟨gTl, 0, none⟩) tn tcap) ∧ V.cell? ⟨w.heap.size + 1, 4, none⟩ = some (.slice R rm rc) ∧ V.cell? ⟨w.heap.size + 1 + 1, 2, none⟩ = some (.slice SW sn sc) ∧ V.cell? ⟨w.heap.size + 1 + 1, 3, none⟩ = some (.slice CS cn cd) ∧ V.cell? ⟨gT, 0, none⟩ = some (.int .i64 k0) ∧ V.cell? ⟨gT, 1, none⟩ = some (.slice T n tc)) := fun V hb => by
    have hh4 : ∀ {g : Nat} {t : TypeId} {c : Array Value}, Blk V6 g t c → g < V4.heap.size → Blk V g t c := fun hB hg => (hb.block _ hg).trans hB
    have lT : gT < V4.heap.size := S4.lt
    exact ⟨(hh4 X6 (by omega)).cell 0, (hh4 X6 (by omega)).cell 1, (hh4 X6 (by omega)).cell 2, (hh4 Y6 (by omega)).cell 0, (hh4 Y6 (by omega)).cell 1, (hh4 Y6 (by omega)).cell 2, (hh4 Y6 (by omega)).cell 3, (hh4 Y6 (by omega)).cell 4, (hh4 Z6 (by omega)).cell 2, (hh4 Z6 (by omega)).cell 3, (hh4 S6 lT).cell 0, (hh4 S6 lT).cell 1⟩
   have hwV4 : w.heap.size ≤ V4.heap.size := by omega
   have HTV : Hid (∀ V, Below V4.heap.size V6 V → Pairs (fun _ => True) V T n tw) := fun V hb => (hT6.keep PairR.good (Keeps.belowB hb (fun k hk => hk.2))).mono PairR.good (fun _ _ => trivial)
   have HSV : Hid (∀ V, Below V4.heap.size V6 V → SeenCs (fun _ => True) V C q l) := fun V hb => (hS6.keep SeenCR.good (Keeps.belowB hb (fun k hk => hk.2))).mono SeenCR.good (fun _ _ => trivial)
   have HWV : Hid (∀ V, Below V4.heap.size V6 V → Below w.heap.size w V) := fun V hb => hW6.trans (hb.mono hwV4)
   have HO6 := Lib.hid hO6
   have HT0 : Hid (Tiles (fun j => j = gTl) V6 (some ⟨gTl, 0, none⟩) tn h.tiles) := Tiles.own (S := fun _ => True) (hO6.slice TileR.good rfl (by simp only [maxLen]; omega) (fun _ h => h.elim) (fun _ _ _ => trivial))
   have HBt : Hid (∃ cur, Blk V6 gTl 55 cur) := OwnL.blk hO6 (by simp [Value.ownBlock])
   have hg64 : V4.heap.size ≤ gTl := hgl.1
   have hg65 : gTl < V6.heap.size := by omega
   have h46 : V4.heap.size ≤ V6.heap.size := by omega
   go_simp
   go_wp2_with fail
   clear hV6 Y6 X6 Z6 S6 hT6 hS6 hO6 hO5 hy5 f3 ly a3d S4 hT4 hS b5 hgl hW6
   obtain ⟨ZF, hZF⟩ : ∃ z, zT s l cs n = z := ⟨_, rfl⟩
   have HZF := Lib.hid hZF
   clear hZF
   go_loopw [15, 16] (fun o i wr => ∃ (k cr : Nat) (Ar : Option Addr), k ≤ tn ∧ i = .int .i64 k ∧ o = .slice Ar k cr ∧ Hid (Below V4.heap.size V6 wr) ∧ Hid (V6.heap.size ≤ wr.heap.size) ∧ Hid (∃ cur, Blk wr gTl 55 cur) ∧ Hid (Tiles (fun j => j = gTl) wr (some ⟨gTl, 0, none⟩) tn (wideT h.tiles ZF k)) ∧ Hid (OwnL IntR 1 (fun _ => False) wr V6.heap.size 3 (.slice Ar k cr) (reaL s k0 tw cs n k))) (fun _ i _ => tn - (intOf i).toNat)
   case atStart => exact ⟨0, 0, none, Nat.zero_le _, rfl, rfl, Below.refl _ _, Nat.le_refl _, HBt.out, by rw [wideT_zero]; exact HT0.out, OwnL.nil _ _ _ _ _ _⟩
   case round =>
    obtain ⟨k, cr, Ar, hk, rfl, rfl, HB, HSZ6, HBk, HTk, HOk⟩ := hrel
    have HBw : Hid (Below w.heap.size w wr) := HWV.out wr HB.out
    by_cases hlt : k < tn
    ·have hki : (k : Int) < tn := by omega
     obtain ⟨tv, htv⟩ : ∃ t, turnL cs k = t := ⟨_, rfl⟩
     have HTV2 := Lib.hid htv
     have htv255 : tv ≤ 255 := by rw [← htv]; exact turn_lt (Bytes.all (HCw.out wr HBw.out)) k
     clear htv
     have hn4 : n ≤ 4 := by rw [← Hn.out]; exact HOK.out.nm.2
     have hn1 : 1 ≤ n := by rw [← Hn.out]; exact HOK.out.nm.1
     obtain ⟨mm, hmm⟩ : ∃ m, tv % n = m := ⟨_, rfl⟩
     have hmn : mm < n := by rw [← hmm]; exact Nat.mod_lt _ (by omega)
     have HMM : Hid (moT cs n k = mm) := by rw [Hid, moT, HTV2.out, hmm]
     have ht0 : ((tv : Int)).tmod (n : Int) = (mm : Int) := by rw [Int.tmod_eq_emod_of_nonneg (by omega), ← hmm]; rfl
     obtain ⟨bM, oM, sn1, ma, mz, my, mu, ct, hAe, hbM, e0, e1, e2, e3, e4, e5, hss, HxM⟩ := Moulds.get (HGw.out wr HBw.out) hmn
     subst hAe
     have hcs := castsN_bd HOK.out (m := mm) (by rw [Hn.out]; exact hmn)
     rw [getD_of HxM.out] at hcs
     dsimp only at hcs
     obtain ⟨hcs1, hcs8, hcsE⟩ := hcs
     subst hcsE
     obtain ⟨cn1, hcn⟩ : ∃ x, castsN s mm = x := ⟨_, rfl⟩
     rw [hcn] at hcs1 hcs8 e5
     have HCN := Lib.hid hcn
     obtain ⟨m1, hm1⟩ : ∃ m1, tv / 4 % cn1 = m1 := ⟨_, rfl⟩
     have hmc : m1 < cn1 := by rw [← hm1]; exact Nat.mod_lt _ (by omega)
     have HM1 : Hid (caT s cs n k = m1) := by rw [Hid, caT, HTV2.out, HMM.out, HCN.out, hm1]
     obtain ⟨tv4, htv4⟩ : ∃ x, tv / 4 = x := ⟨_, rfl⟩
     have hq4 : ((tv : Int)).tdiv 4 = (tv4 : Int) := by rw [Int.tdiv_eq_ediv_of_nonneg (by omega), ← htv4]; rfl
     have hq4b : (tv : Int) / 4 = (tv4 : Int) := by rw [← htv4]; rfl
     rw [htv4] at hm1
     have ht1 : ((tv4 : Int)).tmod (cn1 : Int) = (m1 : Int) := by rw [Int.tmod_eq_emod_of_nonneg (by omega), ← hm1]; rfl
     have hdz : ¬ (n : Int) = 0 := by omega
     have hdn : ¬ n = 0 := by omega
     have hdz2 : ((n : Int) == 0) = false := by simp; omega
     have hdc : ¬ (cn1 : Int) = 0 := by omega
     have hdcn : ¬ cn1 = 0 := by omega
     have hdc2 : ((cn1 : Int) == 0) = false := by simp; omega
     have cm0 : IntKind.i64.wrap (mm : Int) = mm := by rw [IntKind.wrap_i64]; omega
     have cm1 : IntKind.i64.wrap (m1 : Int) = m1 := by rw [IntKind.wrap_i64]; omega
     have cm4 : IntKind.i64.wrap (tv4 : Int) = tv4 := by rw [IntKind.wrap_i64]; omega
     have hmi : (mm : Int) < n := by omega
     have cv : IntKind.i64.wrap (tv : Int) = tv := by rw [IntKind.wrap_i64]; omega
     have E5 := Lib.hid e5
     clear hmm hm1 hcn hss hbM e0 e1 e2 e3 e4 e5
     rcases Nat.eq_zero_or_pos cn with hcz | hcp
     ·obtain rfl : tv = 0 := by rw [← HTV2.out, turnL, if_pos (by rw [Hcn.out]; exact hcz)]
      subst hcz
      have HMZ : Hid (mm = 0 ∧ m1 = 0) := ⟨by have := HMM.out; rw [moT, HTV2.out] at this; simp at this; exact this.symm, by have := HM1.out; rw [caT, HTV2.out] at this; simp at this; exact this.symm⟩
      have hszk : sizesR s l mm m1 = ((size7 s l mm (m1 : Int)), 0) := (HSZ.out mm m1 hmn (by rw [HCN.out]; exact hmc)).1
      obtain ⟨lo, hi, hlh⟩ : ∃ lo hi, size7 s l mm (m1 : Int) = (lo, hi) := ⟨_, _, rfl⟩
      rw [hlh] at hszk
      have HZ := Lib.hid hszk
      have HZk : Hid (ZF k = (lo, hi)) := by rw [Hid, ← HZF.out, zT, HMM.out, HM1.out, hlh]
      have hre : reT s k0 tw cs n k = madeT k0 tw mm m1 := by rw [reT, HMM.out, HM1.out]
      have HRE := Lib.hid hre
      have HMD : Hid (∀ V, Below V4.heap.size V6 V → Calls Tryz.prog 11 #[.agg #[.int .i64 k0, .slice T n tc], .agg #[.int .i64 (mm : Int), .int .i64 (m1 : Int)]] V fun e w' => e = .returned (.int .i64 (reT s k0 tw cs n k)) ∧ Below V.heap.size V w') := fun V hb => by
       have hmt : mm < tw.length := by rw [Hnt.out]; exact hmn
       have hx : tw[mm]? = some (tw[mm]) := List.getElem?_eq_getElem hmt
       obtain ⟨p1, p2⟩ := HBD.out _ (List.getElem_mem hmt)
       have := lmade7_any (tc := tc) (c := m1) V (HTV.out V hb) (a := (tw[mm]).1) (v := (tw[mm]).2) hx p1 p2 (by omega) HKB.out
       rw [show made7 (tw[mm]).1 (tw[mm]).2 (m1 : Int) k0 = reT s k0 tw cs n k by rw [HRE.out, madeT, getD_of hx]] at this
       exact this
      clear hszk hlh hre
      obtain rfl : mm = 0 := HMZ.out.1
      obtain rfl : m1 = 0 := HMZ.out.2
      have HBK := HB
      have HS6K := HSZ6
      have HBkK := HBk
      have HTkK := HTk
      have HOkK := HOk
      have e5K := E5.out
      obtain ⟨Wk, hWk⟩ : ∃ V : World, V = wr := ⟨_, rfl⟩
      subst hWk
      have e5K : Wk.cell? ⟨bM, oM + 5, none⟩ = some (.int .i64 (cn1 : Int)) := by simpa using e5K
      obtain ⟨gA, hgA⟩ : ∃ x, Wk.heap.size = x := ⟨_, rfl⟩
      have HGA : Hid (V6.heap.size ≤ gA) := by rw [← hgA]; exact HS6K.out
      obtain ⟨V7, hV7⟩ : ∃ V, Wk.alloc (.cells #[.int .i64 0, .int .i64 0] 49) = V := ⟨_, rfl⟩
      have A7 : Blk V7 gA 49 #[.int .i64 0, .int .i64 0] := by rw [← hV7]; exact Blk.new _ _ _ hgA.symm
      have w7 : Below Wk.heap.size Wk V7 := by rw [← hV7]; exact bl_alloc (Below.refl _ _) _ (Nat.le_refl _)
      have g7 := A7.cell 0
      have g7b := A7.cell 1
      have f70 := A7.frozen 0
      have f7 := A7.frozen 1
      have l7 := A7.lt
      obtain ⟨V7b, hV7b⟩ : ∃ V, (V7.setCell ⟨gA, 0, none⟩ (.int .i64 0)).setCell ⟨gA, 1, none⟩ (.int .i64 0) = V := ⟨_, rfl⟩
      have A7b : Blk V7b gA 49 #[.int .i64 0, .int .i64 0] := by rw [← hV7b]; exact (A7.set_ 0 _).set_ 1 _
      have w7b : Below Wk.heap.size Wk V7b := by rw [← hV7b]; exact bl_set (bl_set w7 (Nat.le_of_eq hgA) _) (Nat.le_of_eq hgA) _
      have g7c := A7b.cell 0
      have g7d := A7b.cell 1
      have f7b := A7b.frozen 1
      have l7b := A7b.lt
      obtain ⟨V8, hV8⟩ : ∃ V, V7b.setCell ⟨gA, 1, none⟩ (.int .i64 0) = V := ⟨_, rfl⟩
      have A8 : Blk V8 gA 49 #[.int .i64 0, .int .i64 0] := by rw [← hV8]; exact A7b.set_ 1 _
      have w8 : Below Wk.heap.size Wk V8 := by rw [← hV8]; exact bl_set w7b (Nat.le_of_eq hgA) _
      have HB7 : Below V4.heap.size V6 V7b := bl_call HBK.out w7b h46
      have HB8 : Below V4.heap.size V6 V8 := bl_call HBK.out w8 h46
      obtain ⟨x0, x1, x2, a0c, a1c, a2c, a3c, a4c, y2, y3, t0c, t1c⟩ := kb.out Wk HBK.out
      obtain ⟨_, _, x27, _, _, _, _, _, _, _, _, _⟩ := kb.out V7b HB7
      obtain ⟨x08, x18, x28, _, _, _, _, _, _, _, _, _⟩ := kb.out V8 HB8
      have g80 := A8.cell 0
      have g81 := A8.cell 1
      have e57 := getc w7b e5K
      go_wp2_with fail
      clear x0 x1 x2 a0c a1c a2c a3c a4c y2 y3 t0c t1c x27 x08 x18 x28 g80 g81 g7 g7b g7c g7d f70 f7 f7b l7 l7b e57 hV7 hV7b hV8 hgA A7 A7b w7 w7b HB7
      refine (ksizes_any (0 : Int) (0 : Int) V8 (HGw.out V8 (HWV.out V8 HB8)) (HSV.out V8 HB8) hca h1 h2).mono ?_
      rw [show sizesR s l (0 : Int) (0 : Int) = ((lo, hi), 0) from HZ.out]
      rintro e V9 ⟨rfl, c9⟩
      have w9 : Below Wk.heap.size Wk V9 := bl_call w8 c9 (Nat.le_refl _)
      obtain ⟨gZ, hgZ⟩ : ∃ x, V9.heap.size = x := ⟨_, rfl⟩
      obtain ⟨V10a, hV10a⟩ : ∃ V, V9.alloc (.cells #[.int .i64 0, .int .i64 0] 23) = V := ⟨_, rfl⟩
      have Z10a : Blk V10a gZ 23 #[.int .i64 0, .int .i64 0] := by rw [← hV10a]; exact Blk.new _ _ _ hgZ.symm
      have A10a : Blk V10a gA 49 #[.int .i64 0, .int .i64 0] := by rw [← hV10a]; exact (A8.bl c9).alloc _
      have w10a : Below Wk.heap.size Wk V10a := by rw [← hV10a]; exact bl_alloc w9 _ (Nat.le_refl _)
      have hgz : Wk.heap.size ≤ gZ := by rw [← hgZ]; exact w9.size
      have hga : gA ≠ gZ := by have := (A8.bl c9).lt; omega
      have za0 := Z10a.cell 0
      have za1 := Z10a.cell 1
      have fa0 := Z10a.frozen 0
      have fa1 := Z10a.frozen 1
      have la := Z10a.lt
      obtain ⟨V10, hV10⟩ : ∃ V, (V10a.setCell ⟨gZ, 0, none⟩ (.int .i64 lo)).setCell ⟨gZ, 1, none⟩ (.int .i64 hi) = V := ⟨_, rfl⟩
      have Z10 : Blk V10 gZ 23 #[.int .i64 lo, .int .i64 hi] := by rw [← hV10]; exact (Z10a.set_ 0 _).set_ 1 _
      have w10 : Below Wk.heap.size Wk V10 := by rw [← hV10]; exact bl_set (bl_set w10a hgz _) hgz _
      have A10 : Blk V10 gA 49 #[.int .i64 0, .int .i64 0] := by rw [← hV10]; exact (A10a.far hga _).far hga _
      have HB10 : Below V4.heap.size V6 V10 := bl_call HBK.out w10 h46
      obtain ⟨cur, hcur⟩ := HBkK.out
      have cur10 := hcur.bl w10
      have HT10 := HTkK.out.keep TileR.good (Keeps.below w10)
      obtain ⟨bt, ot, st, ta, tz, ty, tu, hAt, _, v0, v1, v2, v3, v4, _, _⟩ := Tiles.get HT10 hlt
      injection hAt with hAt
      injection hAt with f1 f2
      subst f1 f2
      have v1 : V10.cell? ⟨gTl, k * 5 + 1, none⟩ = some (.int .i64 ta) := by simpa using v1
      have v2 : V10.cell? ⟨gTl, k * 5 + 2, none⟩ = some (.int .i64 tz) := by simpa using v2
      have r1 := cur10.frozen (k * 5 + 1)
      have r2 := cur10.frozen (k * 5 + 2)
      have lc := cur10.lt
      obtain ⟨V11, hV11⟩ : ∃ V, (V10.setCell ⟨gTl, k * 5 + 1, none⟩ (.int .i64 lo)).setCell ⟨gTl, k * 5 + 2, none⟩ (.int .i64 hi) = V := ⟨_, rfl⟩
      have hgAT : gTl ≠ gA := by have := HGA.out; omega
      have A11 : Blk V11 gA 49 #[.int .i64 0, .int .i64 0] := by rw [← hV11]; exact (A10.far (fun e => hgAT e.symm) _).far (fun e => hgAT e.symm) _
      have cur11 : ∃ c, Blk V11 gTl 55 c := ⟨_, by rw [← hV11]; exact (cur10.set_ _ _).set_ _ _⟩
      have HT11 : Tiles (fun j => j = gTl) V11 (some ⟨gTl, 0, none⟩) tn (wideT h.tiles ZF (k + 1)) := by
       rw [← hV11, wideT_succ (by rw [Htn.out]; exact hlt), HZk.out]
       exact Tiles.setWidth HT10 hlt lo hi
      have HB11 : Below V4.heap.size V6 V11 := by rw [← hV11]; exact bl_set (bl_set HB10 hg64 _) hg64 _
      have HO10 := HOkK.out.below IntR.good w10
      have hob : ∀ g, (Value.slice Ar k cr).ownBlock = some g → V6.heap.size ≤ g := fun g hg => (OwnL.block HO10 g hg).1
      have HO11 : OwnL IntR 1 (fun _ => False) V11 V6.heap.size 3 (.slice Ar k cr) (reaL s k0 tw cs n k) := by rw [← hV11]; exact (HO10.keep IntR.good (Keeps.setCell _ _ _ (fun hh => by rcases hh with hh | hh; exact hh; have := hob _ hh; dsimp only at this; omega))).keep IntR.good (Keeps.setCell _ _ _ (fun hh => by rcases hh with hh | hh; exact hh; have := hob _ hh; dsimp only at this; omega))
      have s11 : V6.heap.size ≤ V11.heap.size := by rw [← hV11]; simp; have := w10.size; have := HS6K.out; omega
      have z10a := Z10.cell 0
      have z10b := Z10.cell 1
      obtain ⟨_, _, _, _, _, _, a3c, _, _, _, _, _⟩ := kb.out V10 HB10
      obtain ⟨_, _, _, _, _, _, _, _, _, _, t0c, t1c⟩ := kb.out V11 HB11
      have g11 := A11.cell 0
      have g11b := A11.cell 1
      go_wp2_with fail
      clear z10a z10b a3c t0c t1c g11 g11b v0 v1 v2 v3 v4 r1 r2 lc za0 za1 fa0 fa1 la hV11 hV10 hV10a hgZ A10 A10a A11 Z10 Z10a w10a cur10 hcur HT10 HO10 hob w9 w10 w8 c9 HB8 HB10 A8
      refine (HMD.out V11 HB11).mono ?_
      rintro e V12 ⟨rfl, c12⟩
      have HB12 : Hid (Below V4.heap.size V6 V12) := bl_call HB11 c12 h46
      have s12 : Hid (V6.heap.size ≤ V12.heap.size) := Nat.le_trans s11 c12.size
      have cur12 : Hid (∃ c, Blk V12 gTl 55 c) := by obtain ⟨c, hc⟩ := cur11; exact ⟨c, hc.bl c12⟩
      have HT12 := Lib.hid (HT11.keep TileR.good (Keeps.below c12))
      have HO12 := Lib.hid (HO11.below IntR.good c12)
      have HLN := Lib.hid (reaL_len s k0 tw cs n k)
      have HRS := Lib.hid (reaL_succ s k0 tw cs n k)
      clear HB11 s11 cur11 HT11 HO11 c12
      go_wp2_with (at_builtin; go_loud (refine wpList_append_n _ rfl (.tmp 120) (.tmp 124) _ rfl IntR.good (S := fun _ => False) V6.heap.size 3 iI _ 8 Tryz.underlying47 hiI hzI0 hzI1 hzI2 rfl (by decide) (.slice Ar k cr) (reaL s k0 tw cs n k) (reT s k0 tw cs n k) k HLN.out rfl (HO12.out.alloc IntR.good _) ⟨V12.heap.size, 0, none⟩ 1 [.int .i64 (reT s k0 tw cs n k)] rfl rfl (news_new rfl rfl) ?c1 ?c2 ?c3 (fun h => h) ?_))
      case c1 => simp only [maxLen]; omega
      case c2 => omega
      case c3 => have := s12.out; simp; omega
      intro A13 c13 V13 hO13 hg13 _
      have hOx := HO12.out.alloc IntR.good (.cells #[.int .i64 (reT s k0 tw cs n k)] 3)
      have hob : ∀ g, (Value.slice Ar k cr).ownBlock = some g → V6.heap.size ≤ g := fun g hg => (OwnL.block hOx g hg).1
      have b13 : Below V6.heap.size V12 V13 := bl_grown (bl_alloc (Below.refl _ _) _ s12.out) hOx hg13 (Nat.le_refl _) s12.out
      have HB13 : Hid (Below V4.heap.size V6 V13) := HB12.out.trans (b13.mono h46)
      have s13 : Hid (V6.heap.size ≤ V13.heap.size) := Nat.le_trans s12.out b13.size
      have cur13 : Hid (∃ c, Blk V13 gTl 55 c) := by obtain ⟨c, hc⟩ := cur12.out; exact ⟨c, (b13.block _ hg65).trans hc⟩
      have HT13 : Hid (Tiles (fun j => j = gTl) V13 (some ⟨gTl, 0, none⟩) tn (wideT h.tiles ZF (k + 1))) := HT12.out.keep TileR.good (Keeps.belowB b13 (fun j hj => by rw [hj]; exact hg65))
      have HO13 : Hid (OwnL IntR 1 (fun _ => False) V13 V6.heap.size 3 (.slice (some ⟨A13, 0, none⟩) (k + 1) c13) (reaL s k0 tw cs n (k + 1))) := by rw [Hid, HRS.out]; exact hO13
      clear hO13 hg13 hOx hob b13
      go_wp2_with fail
      go_roundw
      case rel => exact ⟨k + 1, c13, some ⟨A13, 0, none⟩, by omega, by go_num, rfl, HB13.out, s13.out, cur13.out, HT13.out, HO13.out⟩
      case measure => simp [intOf]; omega
     have hcpi : (0 : Int) < cn := by omega
     obtain ⟨ix, hix⟩ : ∃ i, k % cn = i := ⟨_, rfl⟩
     have hixn : ix < cn := by rw [← hix]; exact Nat.mod_lt _ hcp
     have hti : ((k : Int)).tmod (cn : Int) = (ix : Int) := by rw [Int.tmod_eq_emod_of_nonneg (by omega), ← hix]; rfl
     have hcnz : ¬ (cn : Int) = 0 := by omega
     have hcnn : ¬ cn = 0 := by omega
     have hcnb : ((cn : Int) == 0) = false := by simp; omega
     have cmi : IntKind.i64.wrap (ix : Int) = ix := by rw [IntKind.wrap_i64]; omega
     have hixi : (ix : Int) < cn := by omega
     obtain ⟨bC, oC, xv, hCe, hcC, HxC, _⟩ := Bytes.get (HCw.out wr HBw.out) hixn
     subst hCe
     obtain rfl : xv = tv := by rw [← HTV2.out, turnL, if_neg (by rw [Hcn.out]; exact hcnn), Hcn.out, hix, getD_of HxC.out]
     have HCC := Lib.hid hcC
     clear hcC hix
     obtain ⟨x0, x1, x2, a0c, a1c, a2c, a3c, a4c, y2, y3, t0c, t1c⟩ := kb.out wr HB.out
     go_wp2_with fail
     clear x0 x1 x2 a0c a1c a2c a3c a4c y2 y3 t0c t1c
     refine wp_frameT ?_
     intro a0 ha0
     have tb5 : a0.tmps[5]? = some (.pointer (some ⟨w.heap.size + 1 + 1, 0, none⟩)) := by rw [ha0]; kernel_rfl
     have tb16 : a0.tmps[16]? = some (.int .i64 (k : Int)) := by rw [ha0]; kernel_rfl
     have hsz : a0.tmps.size = 260 := by rw [ha0]; kernel_rfl
     refine wp_region_list (fun W => Below wr.heap.size wr W) (fun w w' => Below w.heap.size w w')
      [isV (.pointer (some ⟨w.heap.size + 1 + 1, 3, none⟩)), isV (.slice (some ⟨bC, oC, none⟩) cn cd), isV (.int .i64 (k : Int)), isV (.pointer (some ⟨w.heap.size + 1 + 1, 3, none⟩)), isV (.slice (some ⟨bC, oC, none⟩) cn cd), isV (.int .i64 (cn : Int)), isV (.int .i64 (ix : Int)), isV (.pointer (some ⟨bC, oC + ix, none⟩)), isV (.int .u8 (xv : Int)), isV (.int .i64 (xv : Int))]
      (by kernel_rfl) (by kernel_rfl) (by kernel_rfl) (by simp) (by simp) (Below.refl _ _).drew ?stabA ?stepA ?finA
     case stabA => exact (StabL.is (StabL.is (StabL.is (StabL.is (StabL.is (StabL.is (StabL.is (StabL.is (StabL.is (StabL.is StabL.nil))))))))))
     case stepA =>
      refine StepsL.isA ?_ (StepsL.isA ?_ (StepsL.isA ?_ (StepsL.isA ?_ (StepsL.isA ?_ (StepsL.isA ?_ (StepsL.isA ?_ (StepsL.isA ?_ (StepsL.isA ?_ (StepsL.isA ?_ StepsL.nil)))))))))
      all_goals intro vs a W K ha hC hD hU hK
      all_goals try rw [if_pos (by rfl)]
      ·have r5 := fb ha (by kernel_rfl) tb5
       clear ha hU hD ha0
       go_simp
       exact hK _ hC (Below.refl _ _)
      ·have r78 := fq 78 0 ha hsz (by kernel_rfl) (by decide) (hD 0 (by simp [waits, Region.binds]))
       clear ha hU hD ha0
       obtain ⟨_, _, _, _, _, _, _, _, _, y3w, _, _⟩ := kb.out W (bl_call HB.out hC h46)
       have hccw := getc hC HCC.out
       go_simp
       exact hK _ hC (Below.refl _ _)
      ·have r16 := fb ha (by kernel_rfl) tb16
       clear ha hU hD ha0
       go_simp
       exact hK _ hC (Below.refl _ _)
      ·have r5 := fb ha (by kernel_rfl) tb5
       clear ha hU hD ha0
       go_simp
       exact hK _ hC (Below.refl _ _)
      ·have r81 := fq 81 3 ha hsz (by kernel_rfl) (by decide) (hD 3 (by simp [waits, Region.binds]))
       clear ha hU hD ha0
       obtain ⟨_, _, _, _, _, _, _, _, _, y3w, _, _⟩ := kb.out W (bl_call HB.out hC h46)
       have hccw := getc hC HCC.out
       go_simp
       exact hK _ hC (Below.refl _ _)
      ·have r82 := fq 82 4 ha hsz (by kernel_rfl) (by decide) (hD 4 (by simp [waits, Region.binds]))
       clear ha hU hD ha0
       go_simp
       exact hK _ hC (Below.refl _ _)
      ·have r80 := fq 80 2 ha hsz (by kernel_rfl) (by decide) (hD 2 (by simp [waits, Region.binds]))
       have r83 := fq 83 5 ha hsz (by kernel_rfl) (by decide) (hD 5 (by simp [waits, Region.binds]))
       clear ha hU hD ha0
       go_simp
       exact hK _ hC (Below.refl _ _)
      ·have r79 := fq 79 1 ha hsz (by kernel_rfl) (by decide) (hD 1 (by simp [waits, Region.binds]))
       have r84 := fq 84 6 ha hsz (by kernel_rfl) (by decide) (hD 6 (by simp [waits, Region.binds]))
       clear ha hU hD ha0
       go_simp
       exact hK _ hC (Below.refl _ _)
      ·have r85 := fq 85 7 ha hsz (by kernel_rfl) (by decide) (hD 7 (by simp [waits, Region.binds]))
       clear ha hU hD ha0
       obtain ⟨_, _, _, _, _, _, _, _, _, y3w, _, _⟩ := kb.out W (bl_call HB.out hC h46)
       have hccw := getc hC HCC.out
       go_simp
       exact hK _ hC (Below.refl _ _)
      have r86 := fq 86 8 ha hsz (by kernel_rfl) (by decide) (hD 8 (by simp [waits, Region.binds]))
      clear ha hU hD ha0
      go_simp
      exact hK _ hC (Below.refl _ _)
     intro vs W hC hE hU
     rw [ha0]
     clear hU hsz tb5 tb16
     have e9 : vs 9 = .int .i64 (xv : Int) := hE 9 (by simp)
     simp only [fillA, Act.put, List.setIfInBounds_toArray, List.set_cons_zero, List.set_cons_succ, Nat.zero_add, Nat.reduceAdd, e9]
     generalize vs 0 = u0, vs 1 = u1, vs 2 = u2, vs 3 = u3, vs 4 = u4, vs 5 = u5, vs 6 = u6, vs 7 = u7, vs 8 = u8
     have HWk : Hid (Below wr.heap.size wr W) := hC
     clear hE e9 hC
     obtain ⟨Wk, hWk⟩ : ∃ V : World, V = W := ⟨_, rfl⟩
     subst hWk
     have hszk : sizesR s l mm m1 = ((size7 s l mm (m1 : Int)), 0) := (HSZ.out mm m1 hmn (by rw [HCN.out]; exact hmc)).1
     obtain ⟨lo, hi, hlh⟩ : ∃ lo hi, size7 s l mm (m1 : Int) = (lo, hi) := ⟨_, _, rfl⟩
     rw [hlh] at hszk
     have HZ := Lib.hid hszk
     have HZk : Hid (ZF k = (lo, hi)) := by rw [Hid, ← HZF.out, zT, HMM.out, HM1.out, hlh]
     have hre : reT s k0 tw cs n k = madeT k0 tw mm m1 := by rw [reT, HMM.out, HM1.out]
     have HRE := Lib.hid hre
     have HMD : Hid (∀ V, Below V4.heap.size V6 V → Calls Tryz.prog 11 #[.agg #[.int .i64 k0, .slice T n tc], .agg #[.int .i64 (mm : Int), .int .i64 (m1 : Int)]] V fun e w' => e = .returned (.int .i64 (reT s k0 tw cs n k)) ∧ Below V.heap.size V w') := fun V hb => by
      have hmt : mm < tw.length := by rw [Hnt.out]; exact hmn
      have hx : tw[mm]? = some (tw[mm]) := List.getElem?_eq_getElem hmt
      obtain ⟨p1, p2⟩ := HBD.out _ (List.getElem_mem hmt)
      have := lmade7_any (tc := tc) (c := m1) V (HTV.out V hb) (a := (tw[mm]).1) (v := (tw[mm]).2) hx p1 p2 (by omega) HKB.out
      rw [show made7 (tw[mm]).1 (tw[mm]).2 (m1 : Int) k0 = reT s k0 tw cs n k by rw [HRE.out, madeT, getD_of hx]] at this
      exact this
     clear hszk hlh hre
     have HBK : Hid (Below V4.heap.size V6 Wk) := bl_call HB.out HWk.out h46
     have HS6K : Hid (V6.heap.size ≤ Wk.heap.size) := Nat.le_trans HSZ6.out HWk.out.size
     have HBkK : Hid (∃ c, Blk Wk gTl 55 c) := by obtain ⟨c, hc⟩ := HBk.out; exact ⟨c, hc.bl HWk.out⟩
     have HTkK := Lib.hid (HTk.out.keep TileR.good (Keeps.below HWk.out))
     have HOkK := Lib.hid (HOk.out.below IntR.good HWk.out)
     have e5K := getc HWk.out E5.out
     go_simp
     obtain ⟨gA, hgA⟩ : ∃ x, Wk.heap.size = x := ⟨_, rfl⟩
     have HGA : Hid (V6.heap.size ≤ gA) := by rw [← hgA]; exact HS6K.out
     obtain ⟨V7, hV7⟩ : ∃ V, Wk.alloc (.cells #[.int .i64 0, .int .i64 0] 49) = V := ⟨_, rfl⟩
     have A7 : Blk V7 gA 49 #[.int .i64 0, .int .i64 0] := by rw [← hV7]; exact Blk.new _ _ _ hgA.symm
     have w7 : Below Wk.heap.size Wk V7 := by rw [← hV7]; exact bl_alloc (Below.refl _ _) _ (Nat.le_refl _)
     have g7 := A7.cell 0
     have g7b := A7.cell 1
     have f70 := A7.frozen 0
     have f7 := A7.frozen 1
     have l7 := A7.lt
     obtain ⟨V7b, hV7b⟩ : ∃ V, (V7.setCell ⟨gA, 0, none⟩ (.int .i64 (mm : Int))).setCell ⟨gA, 1, none⟩ (.int .i64 0) = V := ⟨_, rfl⟩
     have A7b : Blk V7b gA 49 #[.int .i64 (mm : Int), .int .i64 0] := by rw [← hV7b]; exact (A7.set_ 0 _).set_ 1 _
     have w7b : Below Wk.heap.size Wk V7b := by rw [← hV7b]; exact bl_set (bl_set w7 (Nat.le_of_eq hgA) _) (Nat.le_of_eq hgA) _
     have g7c := A7b.cell 0
     have g7d := A7b.cell 1
     have f7b := A7b.frozen 1
     have l7b := A7b.lt
     obtain ⟨V8, hV8⟩ : ∃ V, V7b.setCell ⟨gA, 1, none⟩ (.int .i64 (m1 : Int)) = V := ⟨_, rfl⟩
     have A8 : Blk V8 gA 49 #[.int .i64 (mm : Int), .int .i64 (m1 : Int)] := by rw [← hV8]; exact A7b.set_ 1 _
     have w8 : Below Wk.heap.size Wk V8 := by rw [← hV8]; exact bl_set w7b (Nat.le_of_eq hgA) _
     have HB7 : Below V4.heap.size V6 V7b := bl_call HBK.out w7b h46
     have HB8 : Below V4.heap.size V6 V8 := bl_call HBK.out w8 h46
     obtain ⟨x0, x1, x2, a0c, a1c, a2c, a3c, a4c, y2, y3, t0c, t1c⟩ := kb.out Wk HBK.out
     obtain ⟨_, _, x27, _, _, _, _, _, _, _, _, _⟩ := kb.out V7b HB7
     obtain ⟨x08, x18, x28, _, _, _, _, _, _, _, _, _⟩ := kb.out V8 HB8
     have g80 := A8.cell 0
     have g81 := A8.cell 1
     have e57 := getc w7b e5K
     go_wp2_with fail
     clear x0 x1 x2 a0c a1c a2c a3c a4c y2 y3 t0c t1c x27 x08 x18 x28 g80 g81 g7 g7b g7c g7d f70 f7 f7b l7 l7b e57 hV7 hV7b hV8 hgA A7 A7b w7 w7b HB7
     refine (ksizes_any ((mm : Int) : Int) ((m1 : Int) : Int) V8 (HGw.out V8 (HWV.out V8 HB8)) (HSV.out V8 HB8) hca h1 h2).mono ?_
     rw [show sizesR s l ((mm : Int) : Int) ((m1 : Int) : Int) = ((lo, hi), 0) from HZ.out]
     rintro e V9 ⟨rfl, c9⟩
     have w9 : Below Wk.heap.size Wk V9 := bl_call w8 c9 (Nat.le_refl _)
     obtain ⟨gZ, hgZ⟩ : ∃ x, V9.heap.size = x := ⟨_, rfl⟩
     obtain ⟨V10a, hV10a⟩ : ∃ V, V9.alloc (.cells #[.int .i64 0, .int .i64 0] 23) = V := ⟨_, rfl⟩
     have Z10a : Blk V10a gZ 23 #[.int .i64 0, .int .i64 0] := by rw [← hV10a]; exact Blk.new _ _ _ hgZ.symm
     have A10a : Blk V10a gA 49 #[.int .i64 (mm : Int), .int .i64 (m1 : Int)] := by rw [← hV10a]; exact (A8.bl c9).alloc _
     have w10a : Below Wk.heap.size Wk V10a := by rw [← hV10a]; exact bl_alloc w9 _ (Nat.le_refl _)
     have hgz : Wk.heap.size ≤ gZ := by rw [← hgZ]; exact w9.size
     have hga : gA ≠ gZ := by have := (A8.bl c9).lt; omega
     have za0 := Z10a.cell 0
     have za1 := Z10a.cell 1
     have fa0 := Z10a.frozen 0
     have fa1 := Z10a.frozen 1
     have la := Z10a.lt
     obtain ⟨V10, hV10⟩ : ∃ V, (V10a.setCell ⟨gZ, 0, none⟩ (.int .i64 lo)).setCell ⟨gZ, 1, none⟩ (.int .i64 hi) = V := ⟨_, rfl⟩
     have Z10 : Blk V10 gZ 23 #[.int .i64 lo, .int .i64 hi] := by rw [← hV10]; exact (Z10a.set_ 0 _).set_ 1 _
     have w10 : Below Wk.heap.size Wk V10 := by rw [← hV10]; exact bl_set (bl_set w10a hgz _) hgz _
     have A10 : Blk V10 gA 49 #[.int .i64 (mm : Int), .int .i64 (m1 : Int)] := by rw [← hV10]; exact (A10a.far hga _).far hga _
     have HB10 : Below V4.heap.size V6 V10 := bl_call HBK.out w10 h46
     obtain ⟨cur, hcur⟩ := HBkK.out
     have cur10 := hcur.bl w10
     have HT10 := HTkK.out.keep TileR.good (Keeps.below w10)
     obtain ⟨bt, ot, st, ta, tz, ty, tu, hAt, _, v0, v1, v2, v3, v4, _, _⟩ := Tiles.get HT10 hlt
     injection hAt with hAt
     injection hAt with f1 f2
     subst f1 f2
     have v1 : V10.cell? ⟨gTl, k * 5 + 1, none⟩ = some (.int .i64 ta) := by simpa using v1
     have v2 : V10.cell? ⟨gTl, k * 5 + 2, none⟩ = some (.int .i64 tz) := by simpa using v2
     have r1 := cur10.frozen (k * 5 + 1)
     have r2 := cur10.frozen (k * 5 + 2)
     have lc := cur10.lt
     obtain ⟨V11, hV11⟩ : ∃ V, (V10.setCell ⟨gTl, k * 5 + 1, none⟩ (.int .i64 lo)).setCell ⟨gTl, k * 5 + 2, none⟩ (.int .i64 hi) = V := ⟨_, rfl⟩
     have hgAT : gTl ≠ gA := by have := HGA.out; omega
     have A11 : Blk V11 gA 49 #[.int .i64 (mm : Int), .int .i64 (m1 : Int)] := by rw [← hV11]; exact (A10.far (fun e => hgAT e.symm) _).far (fun e => hgAT e.symm) _
     have cur11 : ∃ c, Blk V11 gTl 55 c := ⟨_, by rw [← hV11]; exact (cur10.set_ _ _).set_ _ _⟩
     have HT11 : Tiles (fun j => j = gTl) V11 (some ⟨gTl, 0, none⟩) tn (wideT h.tiles ZF (k + 1)) := by
      rw [← hV11, wideT_succ (by rw [Htn.out]; exact hlt), HZk.out]
      exact Tiles.setWidth HT10 hlt lo hi
     have HB11 : Below V4.heap.size V6 V11 := by rw [← hV11]; exact bl_set (bl_set HB10 hg64 _) hg64 _
     have HO10 := HOkK.out.below IntR.good w10
     have hob : ∀ g, (Value.slice Ar k cr).ownBlock = some g → V6.heap.size ≤ g := fun g hg => (OwnL.block HO10 g hg).1
     have HO11 : OwnL IntR 1 (fun _ => False) V11 V6.heap.size 3 (.slice Ar k cr) (reaL s k0 tw cs n k) := by rw [← hV11]; exact (HO10.keep IntR.good (Keeps.setCell _ _ _ (fun hh => by rcases hh with hh | hh; exact hh; have := hob _ hh; dsimp only at this; omega))).keep IntR.good (Keeps.setCell _ _ _ (fun hh => by rcases hh with hh | hh; exact hh; have := hob _ hh; dsimp only at this; omega))
     have s11 : V6.heap.size ≤ V11.heap.size := by rw [← hV11]; simp; have := w10.size; have := HS6K.out; omega
     have z10a := Z10.cell 0
     have z10b := Z10.cell 1
     obtain ⟨_, _, _, _, _, _, a3c, _, _, _, _, _⟩ := kb.out V10 HB10
     obtain ⟨_, _, _, _, _, _, _, _, _, _, t0c, t1c⟩ := kb.out V11 HB11
     have g11 := A11.cell 0
     have g11b := A11.cell 1
     go_wp2_with fail
     clear z10a z10b a3c t0c t1c g11 g11b v0 v1 v2 v3 v4 r1 r2 lc za0 za1 fa0 fa1 la hV11 hV10 hV10a hgZ A10 A10a A11 Z10 Z10a w10a cur10 hcur HT10 HO10 hob w9 w10 w8 c9 HB8 HB10 A8
     refine (HMD.out V11 HB11).mono ?_
     rintro e V12 ⟨rfl, c12⟩
     have HB12 : Hid (Below V4.heap.size V6 V12) := bl_call HB11 c12 h46
     have s12 : Hid (V6.heap.size ≤ V12.heap.size) := Nat.le_trans s11 c12.size
     have cur12 : Hid (∃ c, Blk V12 gTl 55 c) := by obtain ⟨c, hc⟩ := cur11; exact ⟨c, hc.bl c12⟩
     have HT12 := Lib.hid (HT11.keep TileR.good (Keeps.below c12))
     have HO12 := Lib.hid (HO11.below IntR.good c12)
     have HLN := Lib.hid (reaL_len s k0 tw cs n k)
     have HRS := Lib.hid (reaL_succ s k0 tw cs n k)
     clear HB11 s11 cur11 HT11 HO11 c12
     go_wp2_with (at_builtin; go_loud (refine wpList_append_n _ rfl (.tmp 120) (.tmp 124) _ rfl IntR.good (S := fun _ => False) V6.heap.size 3 iI _ 8 Tryz.underlying47 hiI hzI0 hzI1 hzI2 rfl (by decide) (.slice Ar k cr) (reaL s k0 tw cs n k) (reT s k0 tw cs n k) k HLN.out rfl (HO12.out.alloc IntR.good _) ⟨V12.heap.size, 0, none⟩ 1 [.int .i64 (reT s k0 tw cs n k)] rfl rfl (news_new rfl rfl) ?c1 ?c2 ?c3 (fun h => h) ?_))
     case c1 => simp only [maxLen]; omega
     case c2 => omega
     case c3 => have := s12.out; simp; omega
     intro A13 c13 V13 hO13 hg13 _
     have hOx := HO12.out.alloc IntR.good (.cells #[.int .i64 (reT s k0 tw cs n k)] 3)
     have hob : ∀ g, (Value.slice Ar k cr).ownBlock = some g → V6.heap.size ≤ g := fun g hg => (OwnL.block hOx g hg).1
     have b13 : Below V6.heap.size V12 V13 := bl_grown (bl_alloc (Below.refl _ _) _ s12.out) hOx hg13 (Nat.le_refl _) s12.out
     have HB13 : Hid (Below V4.heap.size V6 V13) := HB12.out.trans (b13.mono h46)
     have s13 : Hid (V6.heap.size ≤ V13.heap.size) := Nat.le_trans s12.out b13.size
     have cur13 : Hid (∃ c, Blk V13 gTl 55 c) := by obtain ⟨c, hc⟩ := cur12.out; exact ⟨c, (b13.block _ hg65).trans hc⟩
     have HT13 : Hid (Tiles (fun j => j = gTl) V13 (some ⟨gTl, 0, none⟩) tn (wideT h.tiles ZF (k + 1))) := HT12.out.keep TileR.good (Keeps.belowB b13 (fun j hj => by rw [hj]; exact hg65))
     have HO13 : Hid (OwnL IntR 1 (fun _ => False) V13 V6.heap.size 3 (.slice (some ⟨A13, 0, none⟩) (k + 1) c13) (reaL s k0 tw cs n (k + 1))) := by rw [Hid, HRS.out]; exact hO13
     clear hO13 hg13 hOx hob b13
     go_wp2_with fail
     go_roundw
     case rel => exact ⟨k + 1, c13, some ⟨A13, 0, none⟩, by omega, by go_num, rfl, HB13.out, s13.out, cur13.out, HT13.out, HO13.out⟩
     case measure => simp [intOf]; omega
    obtain rfl : tn = k := by omega
    have hki : ¬ (tn : Int) < tn := by omega
    clear hlt
    have HBu := HB
    obtain ⟨U, hU⟩ : ∃ V : World, V = wr := ⟨_, rfl⟩
    subst hU
    obtain ⟨RE, hRE⟩ : ∃ x, reaL s k0 tw cs n tn = x := ⟨_, rfl⟩
    obtain ⟨hl, hhl⟩ : ∃ x, laidH h ZF = x := ⟨_, rfl⟩
    have l1 : hl.alo = alo := by rw [← hhl]; exact q1
    have l2 : hl.ahi = ahi := by rw [← hhl]; exact q2
    have l3 : hl.most = most := by rw [← hhl]; exact q3
    have Hlt : Hid (hl.tiles.length = tn) := by rw [Hid, ← hhl]; exact (wideT_len _ _ _).trans Htn.out
    have Hlr : Hid (hl.rows.length = rm) := by rw [Hid, ← hhl]; exact Hrm.out
    have HHL : Hid (∀ V, Below U.heap.size U V → HallAt (fun _ => True) V (some ⟨gTl, 0, none⟩) tn R rm hl) := fun V hb => by
     rw [← hhl]
     have h9 := (HTk.out.keep TileR.good (Keeps.below hb)).mono TileR.good (T := fun _ => True) (fun _ _ => trivial)
     refine ⟨?_, (HHw.out V (HWV.out V (bl_call HB.out hb h46))).rs⟩
     show Tiles _ V _ tn (wideT h.tiles ZF h.tiles.length)
     rw [Htn.out]
     exact h9
    have htn63 : tn ≤ maxLen := by simp only [maxLen]; omega
    have HIn : Hid (∀ V, Below U.heap.size U V → Ints (fun _ => True) V Ar tn RE) := fun V hb => by
     rw [← hRE]
     exact (HOk.out.slice (T := fun _ => True) IntR.good rfl htn63 (fun _ h => h.elim) (fun _ _ _ => trivial)).keep IntR.good (Keeps.below hb)
    have HTT : Hid (OkH hl → TruthT hl (truthL RE (anyL hl ws))) := by
     rw [Hid, ← hRE, ← hhl]
     exact fun hk => truthT_laid HZF.out Hn.out HOK.out Htn.out (fun m c hm hc => (HSZ.out m c hm hc).2) hk
    clear hhl hRE
    have kc : Hid (∀ V, Below U.heap.size U V → V.cell? ⟨w.heap.size, 0, none⟩ = some (.int .i64 klo) ∧ V.cell? ⟨w.heap.size, 1, none⟩ = some (.int .i64 khi) ∧ V.cell? ⟨w.heap.size, 2, none⟩ = some (.slice A n ca) ∧ V.cell? ⟨w.heap.size + 1, 0, none⟩ = some (.int .i64 alo) ∧ V.cell? ⟨w.heap.size + 1, 1, none⟩ = some (.int .i64 ahi) ∧ V.cell? ⟨w.heap.size + 1, 2, none⟩ = some (.int .i64 most) ∧ V.cell? ⟨w.heap.size + 1, 3, none⟩ = some (.slice (some ⟨gTl, 0, none⟩) tn tcap) ∧ V.cell? ⟨w.heap.size + 1, 4, none⟩ = some (.slice R rm rc) ∧ V.cell? ⟨w.heap.size + 1 + 1, 2, none⟩ = some (.slice SW sn sc) ∧ V.cell? ⟨w.heap.size + 1 + 1, 3, none⟩ = some (.slice CS cn cd) ∧ V.cell? ⟨gT, 0, none⟩ = some (.int .i64 k0) ∧ V.cell? ⟨gT, 1, none⟩ = some (.slice T n tc)) := fun V hb => kb.out V (bl_call HB.out hb h46)
    have HBW : Hid (∀ V, Below U.heap.size U V → Below w.heap.size w V) := fun V hb => HWV.out V (bl_call HB.out hb h46)
    clear kb HTV HSV HTk HBk HOk HSZ HGw HXw HYw HTR HBD HKB HT0 HBt HO6 HB4
    obtain ⟨x0, x1, x2, a0c, a1c, a2c, a3c, a4c, y2, y3, t0c, t1c⟩ := kc.out U (Below.refl _ _)
    go_wp2_with fail
    clear x0 x1 x2 a0c a1c a2c a3c a4c y2 y3 t0c t1c
    refine (rcheck_any U (HHL.out U (Below.refl _ _)) l1 l2 l3).mono ?_
    rintro e V11 ⟨rfl, b1⟩
    obtain ⟨j1, hj1⟩ : ∃ x, (check8 hl).1 = x := ⟨_, rfl⟩
    obtain ⟨j2, hj2⟩ : ∃ x, (check8 hl).2.1 = x := ⟨_, rfl⟩
    obtain ⟨j3, hj3⟩ : ∃ x, (check8 hl).2.2 = x := ⟨_, rfl⟩
    rw [hj1, hj2, hj3]
    have HJ3 := Lib.hid hj3
    clear hj1 hj2 hj3
    obtain ⟨x0, x1, x2, a0c, a1c, a2c, a3c, a4c, y2, y3, t0c, t1c⟩ := kc.out V11 b1
    go_wp2_with fail
    clear x0 x1 x2 a0c a1c a2c a3c a4c y2 y3 t0c t1c
    refine (tlay_any (l := []) V11 (HHL.out V11 b1) (SliceOf.nil _ _ _ _ _) htcap l1 l2 l3).mono ?_
    rintro e V12 ⟨c2, AR, rn, rcp, rfl, hR⟩
    have HBB : Hid (Below U.heap.size U V12) := bl_call b1 c2 (Nat.le_refl _)
    clear b1 c2
    obtain ⟨rows, hrows⟩ : ∃ x, (layR hl []).1 = x := ⟨_, rfl⟩
    obtain ⟨gp, hgp⟩ : ∃ x, (layR hl []).2.1 = x := ⟨_, rfl⟩
    obtain ⟨ge, hge⟩ : ∃ x, (layR hl []).2.2 = x := ⟨_, rfl⟩
    rw [hrows] at hR
    rw [hgp, hge]
    have HRW := Lib.hid hrows
    have HGP := Lib.hid hgp
    have HGE := Lib.hid hge
    clear hrows hgp hge
    by_cases z8 : j3 = 0
    ·have HE8b : Hid ((check8 hl).2.2 = 0) := HJ3.out.trans z8
     subst z8
     have HK2 : Hid (OkH hl) := okH_of HE8b.out
     rcases top_laid HE8b.out (agree_nil HK2.out) with hL | ⟨rows2, g2, hL, hlen, hgm, hrow⟩
     ·obtain rfl : ge = 8 := by rw [← HGE.out, hL]
      clear hL
      go_wp2_with fail
      refine (awake7_any V12).mono ?_
      rintro e V98 ⟨rfl, c98⟩
      go_wp2_with fail
      refine (awake_any V98).mono ?_
      rintro e V99 ⟨rfl, c99⟩
      have b99 : Below w.heap.size w V99 := bl_call (bl_call (HBW.out V12 HBB.out) c98 (Nat.le_refl _)) c99 (Nat.le_refl _)
      clear c98 c99
      go_wp2
      go_ret
      exact ⟨by rfl, b99⟩
     obtain rfl : ge = 0 := by rw [← HGE.out, hL]
     obtain rfl : rows = rows2 := by rw [← HRW.out, hL]
     obtain rfl : gp = g2 := by rw [← HGP.out, hL]
     clear hL
     have Hrn : Hid (rows.length = rn) := hR.len
     obtain rfl : rm = rn := by rw [← Hrn.out, hlen]; exact Hlr.out.symm
     have hgm2 : gp ≤ most := by rw [← l3]; exact hgm
     clear hgm hlen
     have hair := HK2.out.air
     rw [l1, l2] at hair
     have hnt := HK2.out.nt
     rw [Hlt.out] at hnt
     have hmo := HK2.out.most
     rw [l3] at hmo
     obtain ⟨x0, x1, x2, a0c, a1c, a2c, a3c, a4c, y2, y3, t0c, t1c⟩ := kc.out V12 HBB.out
     go_wp2_with fail
     clear x0 x1 x2 a0c a1c a2c a3c a4c y2 y3 t0c t1c
     refine (any_any (cb := rc) V12 (HHL.out V12 HBB.out) (HWw.out V12 (HBW.out V12 HBB.out)) rfl rfl rfl rfl HK2.out).mono ?_
     rintro e V13 ⟨⟨SA, scp, rfl, hSw, _⟩, c3⟩
     have HB3 : Hid (Below U.heap.size U V13) := bl_call HBB.out c3 (Nat.le_refl _)
     have htt0 := HTT.out HK2.out
     obtain ⟨sw, hsw⟩ : ∃ x, anyL hl ws = x := ⟨_, rfl⟩
     have hsl : sw.length = tn := by rw [← hsw]; exact (anyL_len _ _).trans Hlt.out
     rw [hsw, hsl] at hSw
     rw [hsw] at htt0
     rw [hsw, hsl]
     have HSWV : Hid (∀ V, Below V13.heap.size V13 V → TwosAt (fun _ => True) V SA tn sw) := fun V hb => (hSw.keep TwoR.good (Keeps.below hb)).mono TwoR.good (fun _ _ => trivial)
     have HRV : Hid (∀ V, Below V13.heap.size V13 V → Rows (fun _ => True) V AR rm rows) := fun V hb => hR.keep (SlR.good IntR.good) (Keeps.below (bl_call c3 hb (Nat.le_refl _)))
     obtain ⟨tt, htt⟩ : ∃ x, truthL RE sw = x := ⟨_, rfl⟩
     rw [htt] at htt0
     have HTG : Hid (∀ {j : Nat} {x : Int} {y : Int × Int}, RE[j]? = some x → sw[j]? = some y → tt[j]? = some (x, y.2)) := fun h1 h2 => by rw [← htt]; exact truthL_get h1 h2
     have HTB : Hid (∀ {k : Nat}, k < tn → (0 ≤ (tt.getD k dTwo).1 ∧ (tt.getD k dTwo).1 ≤ 20000) ∧ 0 ≤ (tt.getD k dTwo).2 ∧ (tt.getD k dTwo).2 ≤ 20) := fun hk => truthT_bd HK2.out htt0 (by rw [Hlt.out]; exact hk)
     have HROW : Hid (∀ (r : Nat) x, rows[r]? = some x → tilesE hl.tiles.length (hl.rows.getD r dRow).places x = 0 ∧ ∀ a, alo ≤ a → a ≤ ahi → 0 ≤ gapT hl tt r x a ∧ gapT hl tt r x a ≤ gp) := fun r x hx => ⟨(hrow r x hx).1, fun a ha1 ha2 => (hrow r x hx).2 tt htt0 a (by rw [l1]; exact ha1) (by rw [l2]; exact ha2)⟩
     clear hrow htt htt0 hsw hsl hSw hR c3
     have hrm : rm ≤ maxLen := hrl
     go_wp2_with fail
     go_loopw [25] (fun i wr => ∃ r : Nat, r ≤ rm ∧ i = .int .i64 r ∧ Hid (Below V13.heap.size V13 wr)) (fun i _ => rm - (intOf i).toNat)
     case atStart => exact ⟨0, Nat.zero_le _, rfl, Below.refl _ _⟩
     case round =>
      obtain ⟨r, hr, rfl, HC⟩ := hrel
      have HCU : Hid (Below U.heap.size U wr) := bl_call HB3.out HC.out (Nat.le_refl _)
      by_cases hlt : r < rm
      ·have hri : (r : Int) < rm := by omega
       obtain ⟨Wr, hWr⟩ : ∃ V : World, V = wr := ⟨_, rfl⟩
       subst hWr
       obtain ⟨bR2, oR2, x, Ax, qx, cx, hAR, hcell, hXI, Hxr⟩ := Rows.get (HRV.out Wr HC.out) hlt
       subst hAR
       obtain ⟨bF, oF, fr, sl, pl, hRe, hbF, r0, r1, _, HxF⟩ := RowTs.get (HHL.out Wr HCU.out).rs hlt
       subst hRe
       obtain ⟨hte, hgpx⟩ := HROW.out r x Hxr.out
       obtain ⟨f1, f2, f3, f4, f5, f6⟩ := rowE_zero HxF.out (HK2.out.row (by rw [Hlr.out]; exact hlt))
       have hxl := hXI.len
       obtain ⟨hpl, hin⟩ := tilesE_in hte
       rw [hxl, getD_of HxF.out] at hpl
       dsimp only at hpl
       rw [Hlt.out] at hin f6
       have hq8 : qx ≤ 8 := by omega
       have HIN := Lib.hid hin
       have HTE := Lib.hid hte
       have HXV : Hid (∀ V, Below Wr.heap.size Wr V → Ints (fun _ => True) V Ax qx x) := fun V hb => hXI.keep IntR.good (Keeps.below hb)
       have HGX : Hid (∀ a, alo ≤ a → a ≤ ahi → 0 ≤ gapK tt x a (fr + sl * a) qx ∧ gapK tt x a (fr + sl * a) qx ≤ gp) := fun a ha1 ha2 => by
        have h9 := hgpx a ha1 ha2
        rw [gapT, getD_of HxF.out, hxl] at h9
        exact h9
       have HTLS : Hid (∀ V, Below Wr.heap.size Wr V → Calls Tryz.prog 14 #[.agg #[.int .i64 alo, .int .i64 ahi, .int .i64 most, .slice (some ⟨gTl, 0, none⟩) tn tcap, .slice (some ⟨bF, oF, none⟩) rm rc], .int .i64 r, .slice Ax qx cx] V fun e w' => e = .returned (.int .i64 0) ∧ Below V.heap.size V w') := fun V hb => by
        have h9 := rtiles_any (c := cx) (ca := tcap) (cb := rc) (v1 := .int .i64 alo) (v2 := .int .i64 ahi) (v3 := .int .i64 most) V (HHL.out V (bl_call HCU.out hb (Nat.le_refl _))) (HXV.out V hb) rfl rfl rfl hlt
        rw [HTE.out] at h9
        exact h9
       have HCEL : Hid (∀ V, Below Wr.heap.size Wr V → V.cell? ⟨bR2, oR2 + r, none⟩ = some (.slice Ax qx cx) ∧ V.cell? ⟨bF, oF + r * 3, none⟩ = some (.int .i64 fr) ∧ V.cell? ⟨bF, oF + r * 3 + 1, none⟩ = some (.int .i64 sl)) := fun V hb => ⟨getc hb hcell, getc hb r0, getc hb r1⟩
       clear hcell hXI r0 r1 hbF hte hgpx hin hpl hxl
       go_wp2_with fail
       refine wp_frameT ?_
       intro a0 ha0
       have tb4 : a0.tmps[4]? = some (.pointer (some ⟨w.heap.size + 1, 0, none⟩)) := by rw [ha0]; kernel_rfl
       have tb21 : a0.tmps[21]? = some (.slice (some ⟨bR2, oR2, none⟩) rm rcp) := by rw [ha0]; kernel_rfl
       have tb25 : a0.tmps[25]? = some (.int .i64 (r : Int)) := by rw [ha0]; kernel_rfl
       have hsz : a0.tmps.size = 260 := by rw [ha0]; kernel_rfl
       refine wp_region_list (fun W => Below Wr.heap.size Wr W) (fun w w' => Below w.heap.size w w')
        [isV (.agg #[.int .i64 alo, .int .i64 ahi, .int .i64 most, .slice (some ⟨gTl, 0, none⟩) tn tcap, .slice (some ⟨bF, oF, none⟩) rm rc]), isV (.int .i64 (r : Int)), isV (.slice (some ⟨bR2, oR2, none⟩) rm rcp), isV (.int .i64 (r : Int)), isV (.pointer (some ⟨bR2, oR2 + r, none⟩)), isV (.slice Ax qx cx), isV (.int .i64 0)]
        (by kernel_rfl) (by kernel_rfl) (by kernel_rfl) (by simp) (by simp) (Below.refl _ _).drew ?stabB ?stepB ?finB
       case stabB => exact (StabL.is (StabL.is (StabL.is (StabL.is (StabL.is (StabL.is (StabL.is StabL.nil)))))))
       case stepB =>
        refine StepsL.isA ?_ (StepsL.isA ?_ (StepsL.isA ?_ (StepsL.isA ?_ (StepsL.isA ?_ (StepsL.isA ?_ (StepsL.isA ?_ StepsL.nil))))))
        all_goals intro vs a W K ha hC hD hU hK
        all_goals try rw [if_pos (by rfl)]
        ·have r4 := fb ha (by kernel_rfl) tb4
         clear ha hU hD ha0
         obtain ⟨x0, x1, x2, a0c, a1c, a2c, a3c, a4c, y2, y3, t0c, t1c⟩ := kc.out W (bl_call HCU.out hC (Nat.le_refl _))
         obtain ⟨c1, c2, c3⟩ := HCEL.out W hC
         go_simp
         exact hK _ hC (Below.refl _ _)
        ·have r25 := fb ha (by kernel_rfl) tb25
         clear ha hU hD ha0
         go_simp
         exact hK _ hC (Below.refl _ _)
        ·have r21 := fb ha (by kernel_rfl) tb21
         clear ha hU hD ha0
         go_simp
         exact hK _ hC (Below.refl _ _)
        ·have r25 := fb ha (by kernel_rfl) tb25
         clear ha hU hD ha0
         go_simp
         exact hK _ hC (Below.refl _ _)
        ·have r177 := fq 177 2 ha hsz (by kernel_rfl) (by decide) (hD 2 (by simp [waits, Region.binds]))
         have r178 := fq 178 3 ha hsz (by kernel_rfl) (by decide) (hD 3 (by simp [waits, Region.binds]))
         clear ha hU hD ha0
         go_simp
         exact hK _ hC (Below.refl _ _)
        ·have r179 := fq 179 4 ha hsz (by kernel_rfl) (by decide) (hD 4 (by simp [waits, Region.binds]))
         clear ha hU hD ha0
         obtain ⟨x0, x1, x2, a0c, a1c, a2c, a3c, a4c, y2, y3, t0c, t1c⟩ := kc.out W (bl_call HCU.out hC (Nat.le_refl _))
         obtain ⟨c1, c2, c3⟩ := HCEL.out W hC
         go_simp
         exact hK _ hC (Below.refl _ _)
        have r175 := fq 175 0 ha hsz (by kernel_rfl) (by decide) (hD 0 (by simp [waits, Region.binds]))
        have r176 := fq 176 1 ha hsz (by kernel_rfl) (by decide) (hD 1 (by simp [waits, Region.binds]))
        have r180 := fq 180 5 ha hsz (by kernel_rfl) (by decide) (hD 5 (by simp [waits, Region.binds]))
        clear ha hU hD ha0
        go_simp
        refine (HTLS.out W hC).mono ?_
        rintro e w' ⟨rfl, hb⟩
        exact hK _ (bl_call hC hb (Nat.le_refl _)) hb
       intro vs W hC hE hU
       rw [ha0]
       clear hU hsz tb4 tb21 tb25
       have e6 : vs 6 = .int .i64 0 := hE 6 (by simp)
       simp only [fillA, Act.put, List.setIfInBounds_toArray, List.set_cons_zero, List.set_cons_succ, Nat.zero_add, Nat.reduceAdd, e6]
       generalize vs 0 = u0, vs 1 = u1, vs 2 = u2, vs 3 = u3, vs 4 = u4, vs 5 = u5
       have HWk : Hid (Below Wr.heap.size Wr W) := hC
       clear hE e6 hC
       obtain ⟨Wk, hWk⟩ : ∃ V : World, V = W := ⟨_, rfl⟩
       subst hWk
       obtain ⟨x0, x1, x2, a0c, a1c, a2c, a3c, a4c, y2, y3, t0c, t1c⟩ := kc.out Wk (bl_call HCU.out HWk.out (Nat.le_refl _))
       go_simp
       go_wp2_with fail
       clear x0 x1 x2 a0c a1c a2c a3c a4c y2 y3 t0c t1c
       go_loopw [26] (fun i wr => ∃ ar : Int, alo ≤ ar ∧ ar ≤ ahi + 1 ∧ i = .int .i64 ar ∧ Hid (Below Wr.heap.size Wr wr)) (fun i _ => (ahi + 1 - intOf i).toNat)
       case atStart => exact ⟨alo, Int.le_refl _, by omega, rfl, HWk.out⟩
       case round =>
        obtain ⟨ar, ha1, ha2, rfl, HA⟩ := hrel
        have HAU : Hid (Below U.heap.size U wr) := bl_call HCU.out HA.out (Nat.le_refl _)
        obtain ⟨x0, x1, x2, a0c, a1c, a2c, a3c, a4c, y2, y3, t0c, t1c⟩ := kc.out wr HAU.out
        by_cases hle : ar ≤ ahi
        ·have hmu1 : 0 ≤ sl * ar := Int.mul_nonneg f3 (by omega)
         have hmu2 : sl * ar ≤ 160 * 40 := Int.mul_le_mul f4 (by omega) (by omega) (by decide)
         obtain ⟨m1, hm1⟩ : ∃ m1 : Int, sl * ar = m1 := ⟨_, rfl⟩
         have hgx0 := HGX.out ar ha1 hle
         rw [hm1] at hmu1 hmu2 hgx0
         have hw1 : IntKind.i64.wrap m1 = m1 := by rw [IntKind.wrap_i64]; omega
         obtain ⟨n0, hn0⟩ : ∃ n0 : Int, fr + m1 = n0 := ⟨_, rfl⟩
         rw [hn0] at hgx0
         have HG0 := Lib.hid hgx0
         have hnb : 0 ≤ n0 ∧ n0 ≤ 206400 := by omega
         have hw2 : IntKind.i64.wrap n0 = n0 := by rw [IntKind.wrap_i64]; omega
         clear hgx0 hmu1 hmu2
         obtain ⟨Wa, hWa⟩ : ∃ V : World, V = wr := ⟨_, rfl⟩
         subst hWa
         go_wp2_with fail
         clear x0 x1 x2 a0c a1c a2c a3c a4c y2 y3 t0c t1c
         refine wp_frameT ?_
         intro a0 ha0
         have tb4 : a0.tmps[4]? = some (.pointer (some ⟨w.heap.size + 1, 0, none⟩)) := by rw [ha0]; kernel_rfl
         have tb25 : a0.tmps[25]? = some (.int .i64 (r : Int)) := by rw [ha0]; kernel_rfl
         have tb26 : a0.tmps[26]? = some (.int .i64 ar) := by rw [ha0]; kernel_rfl
         have hsz : a0.tmps.size = 260 := by rw [ha0]; kernel_rfl
         refine wp_region_list (fun W => Below Wa.heap.size Wa W) (fun w w' => Below w.heap.size w w')
          [isV (.pointer (some ⟨w.heap.size + 1, 4, none⟩)), isV (.slice (some ⟨bF, oF, none⟩) rm rc), isV (.int .i64 (r : Int)), isV (.pointer (some ⟨bF, oF + r * 3, none⟩)), isV (.pointer (some ⟨bF, oF + r * 3, none⟩)), isV (.int .i64 fr), isV (.pointer (some ⟨w.heap.size + 1, 4, none⟩)), isV (.slice (some ⟨bF, oF, none⟩) rm rc), isV (.int .i64 (r : Int)), isV (.pointer (some ⟨bF, oF + r * 3, none⟩)), isV (.pointer (some ⟨bF, oF + r * 3 + 1, none⟩)), isV (.int .i64 sl), isV (.int .i64 ar), isV (.int .i64 m1), isV (.int .i64 n0)]
          (by kernel_rfl) (by kernel_rfl) (by kernel_rfl) (by simp) (by simp) (Below.refl _ _).drew ?stabC ?stepC ?finC
         case stabC => exact (StabL.is (StabL.is (StabL.is (StabL.is (StabL.is (StabL.is (StabL.is (StabL.is (StabL.is (StabL.is (StabL.is (StabL.is (StabL.is (StabL.is (StabL.is StabL.nil)))))))))))))))
         case stepC =>
          refine StepsL.isA ?_ (StepsL.isA ?_ (StepsL.isA ?_ (StepsL.isA ?_ (StepsL.isA ?_ (StepsL.isA ?_ (StepsL.isA ?_ (StepsL.isA ?_ (StepsL.isA ?_ (StepsL.isA ?_ (StepsL.isA ?_ (StepsL.isA ?_ (StepsL.isA ?_ (StepsL.isA ?_ (StepsL.isA ?_ StepsL.nil))))))))))))))
          all_goals intro vs a W K ha hC hD hU hK
          all_goals try rw [if_pos (by rfl)]
          ·have r4 := fb ha (by kernel_rfl) tb4
           clear ha hU hD ha0
           go_simp
           exact hK _ hC (Below.refl _ _)
          ·have r193 := fq 193 0 ha hsz (by kernel_rfl) (by decide) (hD 0 (by simp [waits, Region.binds]))
           clear ha hU hD ha0
           obtain ⟨x0, x1, x2, a0c, a1c, a2c, a3c, a4c, y2, y3, t0c, t1c⟩ := kc.out W (bl_call HAU.out hC (Nat.le_refl _))
           obtain ⟨c1, c2, c3⟩ := HCEL.out W (bl_call HA.out hC (Nat.le_refl _))
           go_simp
           exact hK _ hC (Below.refl _ _)
          ·have r25 := fb ha (by kernel_rfl) tb25
           clear ha hU hD ha0
           go_simp
           exact hK _ hC (Below.refl _ _)
          ·have r194 := fq 194 1 ha hsz (by kernel_rfl) (by decide) (hD 1 (by simp [waits, Region.binds]))
           have r195 := fq 195 2 ha hsz (by kernel_rfl) (by decide) (hD 2 (by simp [waits, Region.binds]))
           clear ha hU hD ha0
           go_simp
           exact hK _ hC (Below.refl _ _)
          ·have r196 := fq 196 3 ha hsz (by kernel_rfl) (by decide) (hD 3 (by simp [waits, Region.binds]))
           clear ha hU hD ha0
           go_simp
           exact hK _ hC (Below.refl _ _)
          ·have r197 := fq 197 4 ha hsz (by kernel_rfl) (by decide) (hD 4 (by simp [waits, Region.binds]))
           clear ha hU hD ha0
           obtain ⟨x0, x1, x2, a0c, a1c, a2c, a3c, a4c, y2, y3, t0c, t1c⟩ := kc.out W (bl_call HAU.out hC (Nat.le_refl _))
           obtain ⟨c1, c2, c3⟩ := HCEL.out W (bl_call HA.out hC (Nat.le_refl _))
           go_simp
           exact hK _ hC (Below.refl _ _)
          ·have r4 := fb ha (by kernel_rfl) tb4
           clear ha hU hD ha0
           go_simp
           exact hK _ hC (Below.refl _ _)
          ·have r199 := fq 199 6 ha hsz (by kernel_rfl) (by decide) (hD 6 (by simp [waits, Region.binds]))
           clear ha hU hD ha0
           obtain ⟨x0, x1, x2, a0c, a1c, a2c, a3c, a4c, y2, y3, t0c, t1c⟩ := kc.out W (bl_call HAU.out hC (Nat.le_refl _))
           obtain ⟨c1, c2, c3⟩ := HCEL.out W (bl_call HA.out hC (Nat.le_refl _))
           go_simp
           exact hK _ hC (Below.refl _ _)
          ·have r25 := fb ha (by kernel_rfl) tb25
           clear ha hU hD ha0
           go_simp
           exact hK _ hC (Below.refl _ _)
          ·have r200 := fq 200 7 ha hsz (by kernel_rfl) (by decide) (hD 7 (by simp [waits, Region.binds]))
           have r201 := fq 201 8 ha hsz (by kernel_rfl) (by decide) (hD 8 (by simp [waits, Region.binds]))
           clear ha hU hD ha0
           go_simp
           exact hK _ hC (Below.refl _ _)
          ·have r202 := fq 202 9 ha hsz (by kernel_rfl) (by decide) (hD 9 (by simp [waits, Region.binds]))
           clear ha hU hD ha0
           go_simp
           exact hK _ hC (Below.refl _ _)
          ·have r203 := fq 203 10 ha hsz (by kernel_rfl) (by decide) (hD 10 (by simp [waits, Region.binds]))
           clear ha hU hD ha0
           obtain ⟨x0, x1, x2, a0c, a1c, a2c, a3c, a4c, y2, y3, t0c, t1c⟩ := kc.out W (bl_call HAU.out hC (Nat.le_refl _))
           obtain ⟨c1, c2, c3⟩ := HCEL.out W (bl_call HA.out hC (Nat.le_refl _))
           go_simp
           exact hK _ hC (Below.refl _ _)
          ·have r26 := fb ha (by kernel_rfl) tb26
           clear ha hU hD ha0
           go_simp
           exact hK _ hC (Below.refl _ _)
          ·have r204 := fq 204 11 ha hsz (by kernel_rfl) (by decide) (hD 11 (by simp [waits, Region.binds]))
           have r205 := fq 205 12 ha hsz (by kernel_rfl) (by decide) (hD 12 (by simp [waits, Region.binds]))
           clear ha hU hD ha0
           go_simp
           first | exact hK _ hC (Below.refl _ _) | (rw [hm1, hw1]; exact hK _ hC (Below.refl _ _))
          have r198 := fq 198 5 ha hsz (by kernel_rfl) (by decide) (hD 5 (by simp [waits, Region.binds]))
          have r206 := fq 206 13 ha hsz (by kernel_rfl) (by decide) (hD 13 (by simp [waits, Region.binds]))
          clear ha hU hD ha0
          go_simp
          first | exact hK _ hC (Below.refl _ _) | (rw [hn0, hw2]; exact hK _ hC (Below.refl _ _))
         intro vs W hC hE hU
         rw [ha0]
         clear hU hsz tb4 tb25 tb26
         have e14 : vs 14 = .int .i64 n0 := hE 14 (by simp)
         simp only [fillA, Act.put, List.setIfInBounds_toArray, List.set_cons_zero, List.set_cons_succ, Nat.zero_add, Nat.reduceAdd, e14]
         generalize vs 0 = u0, vs 1 = u1, vs 2 = u2, vs 3 = u3, vs 4 = u4, vs 5 = u5, vs 6 = u6, vs 7 = u7, vs 8 = u8, vs 9 = u9, vs 10 = u10, vs 11 = u11, vs 12 = u12, vs 13 = u13
         have HWb : Hid (Below Wr.heap.size Wr W) := bl_call HA.out hC (Nat.le_refl _)
         clear hE e14 hC hm1 hn0 hw1 hw2
         obtain ⟨Wb, hWb⟩ : ∃ V : World, V = W := ⟨_, rfl⟩
         subst hWb
         go_simp
         go_wp2_with fail
         go_loopw [27, 28] (fun lv i wr => ∃ (j : Nat) (z : Int), j ≤ qx ∧ i = .int .i64 j ∧ lv = .int .i64 z ∧ -(20800 * (j : Int)) ≤ z ∧ z ≤ 206400 ∧ Hid (gapK tt x ar n0 j = z) ∧ Hid (Below Wr.heap.size Wr wr)) (fun _ i _ => qx - (intOf i).toNat)
         case atStart => exact ⟨0, n0, Nat.zero_le _, rfl, rfl, by omega, by omega, rfl, HWb.out⟩
         case round =>
          obtain ⟨j, z, hj, rfl, rfl, hz1, hz2, HZ, HD⟩ := hrel
          have HDU : Hid (Below U.heap.size U wr) := bl_call HCU.out HD.out (Nat.le_refl _)
          obtain ⟨c1, _, _⟩ := HCEL.out wr HD.out
          by_cases hjq : j < qx
          ·have hji : (j : Int) < qx := by omega
           obtain ⟨Wj, hWj⟩ : ∃ V : World, V = wr := ⟨_, rfl⟩
           subst hWj
           obtain ⟨bX, oX, v, hAx, cX, HxX⟩ := Ints.get (HXV.out Wj HD.out) hjq
           subst hAx
           obtain ⟨hv0, hvn⟩ := HIN.out v (List.mem_of_getElem? HxX.out)
           obtain ⟨i, rfl⟩ := Int.eq_ofNat_of_zero_le hv0
           have hit : i < tn := by omega
           have hiti : (i : Int) < tn := by omega
           obtain ⟨bE, oE, rv, hAr, cE, HxE⟩ := Ints.get (HIn.out Wj HDU.out) hit
           subst hAr
           obtain ⟨bD, oD, wv, sv, hSA, hbD, cD0, cD1, HxD⟩ := TwosAt.get (HSWV.out Wj (bl_call HC.out HD.out (Nat.le_refl _))) hit
           subst hSA
           have hti := HTG.out HxE.out HxD.out
           obtain ⟨⟨t1, t2⟩, t3, t4⟩ := HTB.out hit
           rw [getD_of hti] at t1 t2 t3 t4
           dsimp only at t1 t2 t3 t4
           have hmu3 : 0 ≤ sv * ar := Int.mul_nonneg t3 (by omega)
           have hmu4 : sv * ar ≤ 20 * 40 := Int.mul_le_mul t4 (by omega) (by omega) (by decide)
           obtain ⟨z1, hz9⟩ : ∃ z1 : Int, z - rv = z1 := ⟨_, rfl⟩
           obtain ⟨p1, hp1⟩ : ∃ p1 : Int, sv * ar = p1 := ⟨_, rfl⟩
           obtain ⟨z2, hz8⟩ : ∃ z2 : Int, z1 - p1 = z2 := ⟨_, rfl⟩
           rw [hp1] at hmu3 hmu4
           have hw1 : IntKind.i64.wrap z1 = z1 := by rw [IntKind.wrap_i64]; omega
           have hw2 : IntKind.i64.wrap p1 = p1 := by rw [IntKind.wrap_i64]; omega
           have hw3 : IntKind.i64.wrap z2 = z2 := by rw [IntKind.wrap_i64]; omega
           have HN : Hid (gapK tt x ar n0 (j + 1) = z2) := by
            rw [Hid, gapK_succ HxX.out, HZ.out, Int.toNat_natCast, getD_of hti]
            dsimp only
            rw [hz9, hp1, hz8]
           have hzb : -(20800 * ((j : Int) + 1)) ≤ z2 ∧ z2 ≤ 206400 := by omega
           clear hti t1 t2 t3 t4 hmu3 hmu4
           have HCX : Hid (∀ V, Below Wj.heap.size Wj V → V.cell? ⟨bR2, oR2 + r, none⟩ = some (.slice (some ⟨bX, oX, none⟩) qx cx) ∧ V.cell? ⟨bX, oX + j, none⟩ = some (.int .i64 i) ∧ V.cell? ⟨bE, oE + i, none⟩ = some (.int .i64 rv) ∧ V.cell? ⟨bD, oD + i * 2 + 1, none⟩ = some (.int .i64 sv)) := fun V hb => ⟨getc hb c1, getc hb cX, getc hb cE, getc hb cD1⟩
           clear cX cE cD0 cD1 hbD
           go_wp2_with fail
           clear c1
           refine wp_frameT ?_
           intro a0 ha0
           have tb15 : a0.tmps[15]? = some (.slice (some ⟨bE, oE, none⟩) tn cr) := by rw [ha0]; kernel_rfl
           have tb21 : a0.tmps[21]? = some (.slice (some ⟨bR2, oR2, none⟩) rm rcp) := by rw [ha0]; kernel_rfl
           have tb24 : a0.tmps[24]? = some (.slice (some ⟨bD, oD, none⟩) tn scp) := by rw [ha0]; kernel_rfl
           have tb25 : a0.tmps[25]? = some (.int .i64 (r : Int)) := by rw [ha0]; kernel_rfl
           have tb26 : a0.tmps[26]? = some (.int .i64 ar) := by rw [ha0]; kernel_rfl
           have tb28 : a0.tmps[28]? = some (.int .i64 (j : Int)) := by rw [ha0]; kernel_rfl
           have hsz : a0.tmps.size = 260 := by rw [ha0]; kernel_rfl
           refine wp_region_list (fun W => Below Wj.heap.size Wj W) (fun w w' => Below w.heap.size w w')
            [isV (.int .i64 z), isV (.slice (some ⟨bE, oE, none⟩) tn cr), isV (.slice (some ⟨bR2, oR2, none⟩) rm rcp), isV (.int .i64 (r : Int)), isV (.pointer (some ⟨bR2, oR2 + r, none⟩)), isV (.slice (some ⟨bX, oX, none⟩) qx cx), isV (.int .i64 (j : Int)), isV (.pointer (some ⟨bX, oX + j, none⟩)), isV (.int .i64 (i : Int)), isV (.pointer (some ⟨bE, oE + i, none⟩)), isV (.int .i64 rv), isV (.int .i64 z1), isV (.slice (some ⟨bD, oD, none⟩) tn scp), isV (.slice (some ⟨bR2, oR2, none⟩) rm rcp), isV (.int .i64 (r : Int)), isV (.pointer (some ⟨bR2, oR2 + r, none⟩)), isV (.slice (some ⟨bX, oX, none⟩) qx cx), isV (.int .i64 (j : Int)), isV (.pointer (some ⟨bX, oX + j, none⟩)), isV (.int .i64 (i : Int)), isV (.pointer (some ⟨bD, oD + i * 2, none⟩)), isV (.pointer (some ⟨bD, oD + i * 2 + 1, none⟩)), isV (.int .i64 sv), isV (.int .i64 ar), isV (.int .i64 p1), isV (.int .i64 z2)]
            (by kernel_rfl) (by kernel_rfl) (by kernel_rfl) (by simp) (by simp) (Below.refl _ _).drew ?stabD ?stepD ?finD
           case stabD => exact (StabL.is (StabL.is (StabL.is (StabL.is (StabL.is (StabL.is (StabL.is (StabL.is (StabL.is (StabL.is (StabL.is (StabL.is (StabL.is (StabL.is (StabL.is (StabL.is (StabL.is (StabL.is (StabL.is (StabL.is (StabL.is (StabL.is (StabL.is (StabL.is (StabL.is (StabL.is StabL.nil))))))))))))))))))))))))))
           case stepD =>
            refine StepsL.isA ?_ (StepsL.isA ?_ (StepsL.isA ?_ (StepsL.isA ?_ (StepsL.isA ?_ (StepsL.isA ?_ (StepsL.isA ?_ (StepsL.isA ?_ (StepsL.isA ?_ (StepsL.isA ?_ (StepsL.isA ?_ (StepsL.isA ?_ (StepsL.isA ?_ (StepsL.isA ?_ (StepsL.isA ?_ (StepsL.isA ?_ (StepsL.isA ?_ (StepsL.isA ?_ (StepsL.isA ?_ (StepsL.isA ?_ (StepsL.isA ?_ (StepsL.isA ?_ (StepsL.isA ?_ (StepsL.isA ?_ (StepsL.isA ?_ (StepsL.isA ?_ StepsL.nil)))))))))))))))))))))))))
            all_goals intro vs a W K ha hC hD hU hK
            all_goals try rw [if_pos (by rfl)]
            ·have r27 := fg 27 26 ha hsz (by kernel_rfl) (by decide)
             have q26 : vs 26 = .int .i64 z := (hU 26 _ rfl (by simp [waits, Region.binds])).trans (by rw [ha0]; kernel_rfl)
             rw [q26] at r27
             clear ha hU hD ha0
             go_simp
             exact hK _ hC (Below.refl _ _)
            ·have r15 := fb ha (by kernel_rfl) tb15
             clear ha hU hD ha0
             go_simp
             exact hK _ hC (Below.refl _ _)
            ·have r21 := fb ha (by kernel_rfl) tb21
             clear ha hU hD ha0
             go_simp
             exact hK _ hC (Below.refl _ _)
            ·have r25 := fb ha (by kernel_rfl) tb25
             clear ha hU hD ha0
             go_simp
             exact hK _ hC (Below.refl _ _)
            ·have r219 := fq 219 2 ha hsz (by kernel_rfl) (by decide) (hD 2 (by simp [waits, Region.binds]))
             have r220 := fq 220 3 ha hsz (by kernel_rfl) (by decide) (hD 3 (by simp [waits, Region.binds]))
             clear ha hU hD ha0
             go_simp
             exact hK _ hC (Below.refl _ _)
            ·have r221 := fq 221 4 ha hsz (by kernel_rfl) (by decide) (hD 4 (by simp [waits, Region.binds]))
             clear ha hU hD ha0
             obtain ⟨d1, d2, d3, d4⟩ := HCX.out W hC
             go_simp
             exact hK _ hC (Below.refl _ _)
            ·have r28 := fb ha (by kernel_rfl) tb28
             clear ha hU hD ha0
             go_simp
             exact hK _ hC (Below.refl _ _)
            ·have r222 := fq 222 5 ha hsz (by kernel_rfl) (by decide) (hD 5 (by simp [waits, Region.binds]))
             have r223 := fq 223 6 ha hsz (by kernel_rfl) (by decide) (hD 6 (by simp [waits, Region.binds]))
             clear ha hU hD ha0
             go_simp
             exact hK _ hC (Below.refl _ _)
            ·have r224 := fq 224 7 ha hsz (by kernel_rfl) (by decide) (hD 7 (by simp [waits, Region.binds]))
             clear ha hU hD ha0
             obtain ⟨d1, d2, d3, d4⟩ := HCX.out W hC
             go_simp
             exact hK _ hC (Below.refl _ _)
            ·have r218 := fq 218 1 ha hsz (by kernel_rfl) (by decide) (hD 1 (by simp [waits, Region.binds]))
             have r225 := fq 225 8 ha hsz (by kernel_rfl) (by decide) (hD 8 (by simp [waits, Region.binds]))
             clear ha hU hD ha0
             go_simp
             exact hK _ hC (Below.refl _ _)
            ·have r226 := fq 226 9 ha hsz (by kernel_rfl) (by decide) (hD 9 (by simp [waits, Region.binds]))
             clear ha hU hD ha0
             obtain ⟨d1, d2, d3, d4⟩ := HCX.out W hC
             go_simp
             exact hK _ hC (Below.refl _ _)
            ·have r217 := fq 217 0 ha hsz (by kernel_rfl) (by decide) (hD 0 (by simp [waits, Region.binds]))
             have r227 := fq 227 10 ha hsz (by kernel_rfl) (by decide) (hD 10 (by simp [waits, Region.binds]))
             clear ha hU hD ha0
             go_simp
             first | exact hK _ hC (Below.refl _ _) | (rw [hz9, hw1]; exact hK _ hC (Below.refl _ _))
            ·have r24 := fb ha (by kernel_rfl) tb24
             clear ha hU hD ha0
             go_simp
             exact hK _ hC (Below.refl _ _)
            ·have r21 := fb ha (by kernel_rfl) tb21
             clear ha hU hD ha0
             go_simp
             exact hK _ hC (Below.refl _ _)
            ·have r25 := fb ha (by kernel_rfl) tb25
             clear ha hU hD ha0
             go_simp
             exact hK _ hC (Below.refl _ _)
            ·have r230 := fq 230 13 ha hsz (by kernel_rfl) (by decide) (hD 13 (by simp [waits, Region.binds]))
             have r231 := fq 231 14 ha hsz (by kernel_rfl) (by decide) (hD 14 (by simp [waits, Region.binds]))
             clear ha hU hD ha0
             go_simp
             exact hK _ hC (Below.refl _ _)
            ·have r232 := fq 232 15 ha hsz (by kernel_rfl) (by decide) (hD 15 (by simp [waits, Region.binds]))
             clear ha hU hD ha0
             obtain ⟨d1, d2, d3, d4⟩ := HCX.out W hC
             go_simp
             exact hK _ hC (Below.refl _ _)
            ·have r28 := fb ha (by kernel_rfl) tb28
             clear ha hU hD ha0
             go_simp
             exact hK _ hC (Below.refl _ _)
            ·have r233 := fq 233 16 ha hsz (by kernel_rfl) (by decide) (hD 16 (by simp [waits, Region.binds]))
             have r234 := fq 234 17 ha hsz (by kernel_rfl) (by decide) (hD 17 (by simp [waits, Region.binds]))
             clear ha hU hD ha0
             go_simp
             exact hK _ hC (Below.refl _ _)
            ·have r235 := fq 235 18 ha hsz (by kernel_rfl) (by decide) (hD 18 (by simp [waits, Region.binds]))
             clear ha hU hD ha0
             obtain ⟨d1, d2, d3, d4⟩ := HCX.out W hC
             go_simp
             exact hK _ hC (Below.refl _ _)
            ·have r229 := fq 229 12 ha hsz (by kernel_rfl) (by decide) (hD 12 (by simp [waits, Region.binds]))
             have r236 := fq 236 19 ha hsz (by kernel_rfl) (by decide) (hD 19 (by simp [waits, Region.binds]))
             clear ha hU hD ha0
             go_simp
             exact hK _ hC (Below.refl _ _)
            ·have r237 := fq 237 20 ha hsz (by kernel_rfl) (by decide) (hD 20 (by simp [waits, Region.binds]))
             clear ha hU hD ha0
             go_simp
             exact hK _ hC (Below.refl _ _)
            ·have r238 := fq 238 21 ha hsz (by kernel_rfl) (by decide) (hD 21 (by simp [waits, Region.binds]))
             clear ha hU hD ha0
             obtain ⟨d1, d2, d3, d4⟩ := HCX.out W hC
             go_simp
             exact hK _ hC (Below.refl _ _)
            ·have r26 := fb ha (by kernel_rfl) tb26
             clear ha hU hD ha0
             go_simp
             exact hK _ hC (Below.refl _ _)
            ·have r239 := fq 239 22 ha hsz (by kernel_rfl) (by decide) (hD 22 (by simp [waits, Region.binds]))
             have r240 := fq 240 23 ha hsz (by kernel_rfl) (by decide) (hD 23 (by simp [waits, Region.binds]))
             clear ha hU hD ha0
             go_simp
             first | exact hK _ hC (Below.refl _ _) | (rw [hp1, hw2]; exact hK _ hC (Below.refl _ _))
            have r228 := fq 228 11 ha hsz (by kernel_rfl) (by decide) (hD 11 (by simp [waits, Region.binds]))
            have r241 := fq 241 24 ha hsz (by kernel_rfl) (by decide) (hD 24 (by simp [waits, Region.binds]))
            clear ha hU hD ha0
            go_simp
            first | exact hK _ hC (Below.refl _ _) | (rw [hz8, hw3]; exact hK _ hC (Below.refl _ _))
           intro vs W hC hE hU
           rw [ha0]
           clear hU hsz tb15 tb21 tb24 tb25 tb26 tb28
           have e25 : vs 25 = .int .i64 z2 := hE 25 (by simp)
           simp only [fillA, Act.put, List.setIfInBounds_toArray, List.set_cons_zero, List.set_cons_succ, Nat.zero_add, Nat.reduceAdd, e25]
           generalize vs 0 = u0, vs 1 = u1, vs 2 = u2, vs 3 = u3, vs 4 = u4, vs 5 = u5, vs 6 = u6, vs 7 = u7, vs 8 = u8, vs 9 = u9, vs 10 = u10, vs 11 = u11, vs 12 = u12, vs 13 = u13, vs 14 = u14, vs 15 = u15, vs 16 = u16, vs 17 = u17, vs 18 = u18, vs 19 = u19, vs 20 = u20, vs 21 = u21, vs 22 = u22, vs 23 = u23, vs 24 = u24
           have HWc : Hid (Below Wr.heap.size Wr W) := bl_call HD.out hC (Nat.le_refl _)
           clear hE e25 hC hz9 hp1 hz8 hw1 hw2 hw3
           go_simp
           go_wp2_with fail
           go_roundw
           case rel => exact ⟨j + 1, z2, by omega, by go_num, rfl, by omega, by omega, HN, HWc.out⟩
           case measure => simp [intOf]; omega
          obtain rfl : qx = j := by omega
          have hjj : ¬ (qx : Int) < qx := by omega
          clear hjq
          have hg0 := HG0.out
          rw [HZ.out] at hg0
          obtain ⟨hg1, hg2⟩ := hg0
          have hg3 : ¬ z < 0 := by omega
          have hg4 : ¬ gp < z := by omega
          have hg5 : ¬ most < gp := by omega
          have hg6 : (decide (z < 0)) = false := by simp; omega
          have hg7 : (decide (z > gp)) = false := by simp; omega
          have hg8 : (decide (gp > most)) = false := by simp; omega
          have hwa : IntKind.i64.wrap (ar + 1) = ar + 1 := by rw [IntKind.wrap_i64]; omega
          obtain ⟨x0, x1, x2, a0c, a1c, a2c, a3c, a4c, y2, y3, t0c, t1c⟩ := kc.out wr HDU.out
          go_wp2_with fail
          go_roundw
          case rel => exact ⟨ar + 1, by omega, by omega, by first | rfl | go_num, HD.out⟩
          case measure => simp [intOf]; omega
        go_wp2_with fail
        clear x0 x1 x2 a0c a1c a2c a3c a4c y2 y3 t0c t1c
        go_roundw
        case rel => exact ⟨r + 1, by omega, by go_num, bl_call HC.out HA.out (Nat.le_refl _)⟩
        case measure => simp [intOf]; omega
      obtain rfl : rm = r := by omega
      have hri : ¬ (rm : Int) < rm := by omega
      clear hlt
      go_wp2_with fail
      refine (awake7_any wr).mono ?_
      rintro e V98 ⟨rfl, c98⟩
      go_wp2_with fail
      refine (awake_any V98).mono ?_
      rintro e V99 ⟨rfl, c99⟩
      have b99 : Below w.heap.size w V99 := bl_call (bl_call (HBW.out wr HCU.out) c98 (Nat.le_refl _)) c99 (Nat.le_refl _)
      clear c98 c99
      go_wp2
      go_ret
      exact ⟨by rfl, b99⟩
    obtain rfl : ge = j3 := by rw [← HGE.out, ← HJ3.out]; exact layR_nil_bad (by rw [HJ3.out]; exact z8)
    have hb8 : (ge != 0) = true := by simpa using z8
    clear z8
    go_wp2_with fail
    refine (awake7_any V12).mono ?_
    rintro e V98 ⟨rfl, c98⟩
    go_wp2_with fail
    refine (awake_any V98).mono ?_
    rintro e V99 ⟨rfl, c99⟩
    have b99 : Below w.heap.size w V99 := bl_call (bl_call (HBW.out V12 HBB.out) c98 (Nat.le_refl _)) c99 (Nat.le_refl _)
    clear c98 c99
    go_wp2
    go_ret
    exact ⟨by rfl, b99⟩
  subst z7
  have hb8 : (e8 != 0) = true := by simpa using z8
  clear z8 he7 he8
  go_wp2_with fail
  refine (awake7_any V2).mono ?_
  rintro e V98 ⟨rfl, c98⟩
  go_wp2_with fail
  refine (awake_any V98).mono ?_
  rintro e V99 ⟨rfl, c99⟩
  have b99 : Below w.heap.size w V99 := bl_call (bl_call (bl_call hBW HB2.out (Nat.le_refl _)) c98 (Nat.le_refl _)) c99 (Nat.le_refl _)
  clear c98 c99
  go_wp2
  go_ret
  exact ⟨by rfl, b99⟩
 have hb7 : (e7 != 0) = true := by simpa using z7
 clear z7 he7 he8
 go_wp2_with fail
 refine (awake7_any V2).mono ?_
 rintro e V98 ⟨rfl, c98⟩
 go_wp2_with fail
 refine (awake_any V98).mono ?_
 rintro e V99 ⟨rfl, c99⟩
 have b99 : Below w.heap.size w V99 := bl_call (bl_call (bl_call hBW HB2.out (Nat.le_refl _)) c98 (Nat.le_refl _)) c99 (Nat.le_refl _)
 clear c98 c99
 go_wp2
 go_ret
 exact ⟨by rfl, b99⟩
end Go.Proofs.YtdbfincinjoppaaGreat
