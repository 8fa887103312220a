/- Walks, layer 7: Fits, with the capacity of its answer (for reslicing). -/
import Derived.Test.YtpdldmichpmgmaaCKFitss
import Derived.Test.YtpdldmichpmgmaaCKOuts
set_option linter.unusedVariables false
set_option linter.unusedSimpArgs false
set_option linter.all false
namespace Go.Proofs.Ytpdldmichpmgmaa
open Go.RowKit Go.Shelf

def PlsEC (B : Nat) (xs : List (Nat × Nat)) (e : Ending) (w' : World) : Prop := ∃ A c, e = .returned (.slice A xs.length c) ∧ Pls (fun k => B ≤ k) w' A xs.length xs ∧ xs.length ≤ c
def PlsTC (B : Nat) (r : List (Nat × Nat) × Int) (e : Ending) (w' : World) : Prop := ∃ A c, e = .returned (.tuple #[.slice A r.1.length c, .int .i64 r.2]) ∧ Pls (fun k => B ≤ k) w' A r.1.length r.1 ∧ r.1.length ≤ c
theorem PlsTC.nil {B : Nat} {e : Int} {w' : World} : PlsTC B ([], e) (.returned (.tuple #[.slice none 0 0, .int .i64 e])) w' := ⟨none, 0, rfl, ⟨rfl, Nat.zero_le _, fun k x hx => by simp at hx⟩, Nat.le_refl _⟩
set_option maxRecDepth 100000 in
set_option maxHeartbeats 4000000 in
theorem kfits_cap {Ad C : Option Addr} {n ca q cc gh : Nat} {s : Shop} {l : List SeenC} (hok : OkS s) (hk : known7 s l ≠ []) (a z : Int) (w : World) (g : SBox w gh Ad n ca C q cc s l) :
    Calls Try.prog 28 #[.pointer (some ⟨gh, 0, none⟩), .agg #[.int .i64 a, .int .i64 z]] w fun e w' => PlsEC w.heap.size (fit7 s l a z) e w' ∧ Below w.heap.size w w' := by
  obtain ⟨iP, hiP, hzP0, hzP1, hzP2⟩ := info_parts infoPl7
  obtain ⟨W, hW⟩ : ∃ W, w.alloc (.cells #[.int .i64 a, .int .i64 z] 23) = W := ⟨_, rfl⟩
  obtain ⟨g3, hg3⟩ : ∃ g, w.heap.size = g := ⟨_, rfl⟩
  have X : Blk W g3 23 #[.int .i64 a, .int .i64 z] := by rw [← hW, ← hg3]; exact Blk.new _ _ _ rfl
  have hBW : Below w.heap.size w W := by rw [← hW]; exact bl_alloc (Below.refl _ _) _ (Nat.le_refl _)
  have hWs : w.heap.size ≤ W.heap.size := hBW.size
  have gW := g.bl hBW
  have HG := Lib.hid gW
  have HX := Lib.hid X
  have HBW := Lib.hid hBW
  have Hn := Lib.hid gW.ms.len
  have hle := gW.ms.le
  have hn4 : n ≤ 4 := by have := hok.nm; have := gW.ms.len; omega
  have y2 : W.cell? ⟨gh, 2, none⟩ = some (.slice Ad n ca) := by obtain ⟨⟨D, kc, hB, _⟩, _⟩ := gW; exact (hB.cell 2).trans shopC_2
  have yl : gh < W.heap.size := World.block_lt_of_cell? _ _ y2
  have hsz3 : g3 ≤ w.heap.size ∧ w.heap.size ≤ g3 := by omega
  clear g gW X hBW
  go_enter Try.func28, Try.ntmps28
  go_wp2_with fail
  clear hW y2 hg3
  go_loopw [4, 5, 6, 7, 8, 15, 22] (fun lv _ _ _ _ i' _ wr => ∃ (m c ln : Nat) (An : Option Addr), i' = .int .i64 m ∧ m ≤ n ∧ lv = .slice An ln c ∧ Hid ((fitU s l a z m 0).length = ln) ∧ Hid (OwnL PlR 2 (fun _ => False) wr W.heap.size 47 (.slice An ln c) (fitU s l a z m 0)) ∧ Hid (Below W.heap.size W wr)) (fun _ _ _ _ _ i' _ _ => n - (intOf i').toNat)
  case atStart => exact ⟨0, 0, 0, none, rfl, Nat.zero_le _, rfl, rfl, by rw [fitU_zero]; exact OwnL.nil _ _ _ _ _ _, Below.refl _ _⟩
  case round =>
    obtain ⟨m, c, ln, An, rfl, hm, rfl, HL, HO, HB⟩ := hrel
    by_cases hlt : m < n
    · have hmi : (m : Int) < n := by omega
      have hmS : m < s.moulds.length := by rw [Hn.out]; exact hlt
      obtain ⟨b, off, sn, a1, z1, y1, u1, c5, rfl, hb0, hd0, hd1, hd2, hd3, hd4, hd5, hs, Hx⟩ := Moulds.get (HG.out.ms.keep MouldR.good (Keeps.below HB.out)) hlt
      have hcs : (castsN s m : Int) = c5 := by have := (castsN_bd hok hmS).2.2; rw [this, getD_of Hx.out]
      have hcb : castsN s m ≤ 8 := (castsN_bd hok hmS).2.1
      have HCS := Lib.hid hcs
      obtain ⟨V, hV⟩ : ∃ V, wr.alloc (.cells #[.string sn, .int .i64 a1, .int .i64 z1, .int .i64 y1, .int .i64 u1, .int .i64 c5] 44) = V := ⟨_, rfl⟩
      have bV : Below wr.heap.size wr V := by rw [← hV]; exact bl_alloc (Below.refl _ _) _ (Nat.le_refl _)
      have HBV : Hid (Below W.heap.size W V) := bl_call HB.out bV (Nat.le_refl _)
      have HOV : Hid (OwnL PlR 2 (fun _ => False) V W.heap.size 47 (.slice An ln c) (fitU s l a z m 0)) := HO.out.below PlR.good bV
      have hM : Blk V wr.heap.size 44 #[.string sn, .int .i64 a1, .int .i64 z1, .int .i64 y1, .int .i64 u1, .int .i64 c5] := by rw [← hV]; exact Blk.new _ _ _ rfl
      have m5 := hM.cell 5
      have ml := hM.lt
      have hm4 : (m : Int) < 4 := by omega
      clear bV hM HB HO hcs
      go_wp2_with fail
      clear hV m5 ml hd0 hd1 hd2 hd3 hd4 hd5 hb0
      go_loopw [4, 7, 8, 22] (fun lv _ _ i' wr => ∃ (j c ln : Nat) (An : Option Addr), i' = .int .i64 j ∧ j ≤ castsN s m ∧ lv = .slice An ln c ∧ Hid ((fitU s l a z m j).length = ln) ∧ Hid (OwnL PlR 2 (fun _ => False) wr W.heap.size 47 (.slice An ln c) (fitU s l a z m j)) ∧ Hid (Below W.heap.size W wr)) (fun _ _ _ i' _ => castsN s m - (intOf i').toNat)
      case atStart => exact ⟨0, c, ln, An, rfl, Nat.zero_le _, rfl, HL, HOV, HBV⟩
      case round =>
        clear HOV HBV HL
        obtain ⟨j, c, ln, An, rfl, hj, rfl, HL, HO, HB⟩ := hrel
        by_cases hlt2 : j < castsN s m
        · have hji : (j : Int) < c5 := by have := HCS.out; omega
          have hj8 : (j : Int) < 8 := by omega
          obtain ⟨v1, v2, hv⟩ : ∃ v1 v2, size7 s l m j = (v1, v2) := ⟨_, _, rfl⟩
          obtain ⟨⟨D, kc, hB, _⟩, _⟩ := HG.out.bl HB.out
          have u0 := hB.cell (4 + (m * 8 + j) * 2)
          have u1 := hB.cell (4 + ((m * 8 + j) * 2 + 1))
          rw [shopC_in (cellsS_lo _ (by omega)), sizeF_at hmS hlt2 (by omega), hv] at u0
          rw [shopC_in (cellsS_hi _ (by omega)), sizeF_at hmS hlt2 (by omega), hv] at u1
          rw [show 4 + (m * 8 + j) * 2 = 4 + m * 16 + j * 2 by omega] at u0
          rw [show 4 + ((m * 8 + j) * 2 + 1) = 4 + m * 16 + j * 2 + 1 by omega] at u1
          dsimp only at u0 u1
          have ghl := hB.lt
          obtain ⟨ob, hob⟩ : ∃ ob, (outB a z v1 || outB a z v2) = ob := ⟨_, rfl⟩
          have HF : Hid (fitB s l a z (m, j) = !ob) := by rw [Hid, fitB]; dsimp only; rw [hv, hob]
          obtain ⟨V, hV⟩ : ∃ V, wr.alloc (.cells #[.int .i64 v1, .int .i64 v2] 23) = V := ⟨_, rfl⟩
          obtain ⟨gz, hgz⟩ : ∃ g, wr.heap.size = g := ⟨_, rfl⟩
          have bV : Below wr.heap.size wr V := by rw [← hV]; exact bl_alloc (Below.refl _ _) _ (Nat.le_refl _)
          have HBV : Hid (Below W.heap.size W V) := bl_call HB.out bV (Nat.le_refl _)
          have HOV : Hid (OwnL PlR 2 (fun _ => False) V W.heap.size 47 (.slice An ln c) (fitU s l a z m j)) := HO.out.below PlR.good bV
          have hZ : Blk V gz 23 #[.int .i64 v1, .int .i64 v2] := by rw [← hV, ← hgz]; exact Blk.new _ _ _ rfl
          have k0 := hZ.cell 0
          have k1 := hZ.cell 1
          have kl := hZ.lt
          have x0 := (HX.out.bl HBV.out).cell 0
          have x1 := (HX.out.bl HBV.out).cell 1
          have xl := (HX.out.bl HBV.out).lt
          have hln : (fitU s l a z m j).length ≤ 32 := by have := fitU_len (l := l) (a := a) (z := z) hok m j hmS (by omega); omega
          have HLN := Lib.hid hln
          clear hB bV hZ hv HB HO hln
          go_wp2_with fail
          clear hV hgz u0 u1 k0 k1 x0 x1
          refine (kout2 _ (by exact newc rfl rfl) (by exact newc rfl rfl) hob).mono ?_
          rintro e V2 ⟨rfl, b2⟩
          have b12 : Below V.heap.size V V2 := bl_call (bl_alloc (Below.refl _ _) _ (Nat.le_refl _)) b2 (Nat.le_refl _)
          have HB2 : Hid (Below W.heap.size W V2) := bl_call HBV.out b12 (Nat.le_refl _)
          have HO2 : Hid (OwnL PlR 2 (fun _ => False) V2 W.heap.size 47 (.slice An ln c) (fitU s l a z m j)) := HOV.out.below PlR.good b12
          clear b2 b12 HBV HOV hob kl
          cases ob with
          | true =>
            have HN : Hid (fitU s l a z m (j + 1) = fitU s l a z m j) := fitU_no HF.out
            go_wp2_with fail
            go_roundw
            case rel => exact ⟨j + 1, c, ln, An, by go_num, by omega, rfl, by rw [HN.out]; exact HL, by rw [HN.out]; exact HO2, HB2⟩
            case measure => simp [intOf]; omega
          | false =>
            have HN : Hid (fitU s l a z m (j + 1) = fitU s l a z m j ++ [(m, j)]) := fitU_yes HF.out
            have hl32 : ln ≤ 32 := by rw [← HL.out]; exact HLN.out
            go_wp2_with (at_builtin; refine wpList_append_n _ rfl (.tmp 44) (.tmp 48) _ rfl PlR.good W.heap.size 47 iP _ 16 Try.underlying33 hiP hzP0 hzP1 hzP2 rfl (by omega) (.slice An ln c) (fitU s l a z m j) (m, j) ln HL.out rfl (HO2.out.alloc PlR.good _) ⟨_, 0, none⟩ 1 [.int .i64 (m : Int), .int .i64 (j : Int)] rfl rfl (fun j v hv => blk_news2 (Blk.new _ _ _ rfl) hv) ?c1 ?c2 ?c3 (fun h => h) ?_)
            case c1 => simp only [maxLen]; omega
            case c2 => omega
            case c3 => have := HB2.out.size; simp; omega
            intro A' cap' w3 hown2 hg2 hat2
            have hB3 : Below W.heap.size W w3 := bl_grown (bl_alloc HB2.out _ (Nat.le_refl _)) (HO2.out.alloc PlR.good _) hg2 (Nat.le_refl _) (Nat.le_refl _)
            have HO3 : Hid (OwnL PlR 2 (fun _ => False) w3 W.heap.size 47 (.slice (some ⟨A', 0, none⟩) (ln + 1) cap') (fitU s l a z m (j + 1))) := by rw [Hid, HN.out]; exact hown2
            have HL3 : Hid ((fitU s l a z m (j + 1)).length = ln + 1) := by rw [Hid, HN.out, List.length_append, HL.out]; rfl
            have HB3 := Lib.hid hB3
            clear hown2 hg2 hat2 hB3
            go_wp2_with fail
            go_roundw
            case rel => exact ⟨j + 1, cap', ln + 1, some ⟨A', 0, none⟩, by go_num, by omega, by simp, HL3, HO3, HB3⟩
            case measure => simp [intOf]; omega
        · obtain rfl : j = castsN s m := by omega
          have hji : ¬ ((castsN s m : Nat) : Int) < c5 := by have := HCS.out; omega
          go_wp2_with fail
          go_roundw
          case rel => exact ⟨m + 1, c, ln, An, by go_num, by omega, rfl, by rw [← fitU_next]; exact HL, by rw [← fitU_next]; exact HO, HB⟩
          case measure => simp [intOf]; omega
    · obtain rfl : m = n := by omega
      have hmi : ¬ ((m : Int)) < m := by omega
      have hfl : fitU s l a z m 0 = fit7 s l a z := by rw [← Hn.out]; exact fitU_all hok hk
      rw [hfl] at HL HO
      clear hfl
      go_wp2_with fail
      go_ret
      have hl32 : ln ≤ 40 := by
        rw [← HL.out]
        exact Nat.le_trans (List.length_filter_le _ _) (Nat.le_trans (places_len hok) (by decide))
      have hp : Pls (fun k => w.heap.size ≤ k) wr An ln (fit7 s l a z) := HO.out.slice PlR.good rfl (by simp only [maxLen]; omega) (fun _ h => h.elim) (fun k h1 _ => by omega)
      have hcap := HO.out.cap7
      have hL := HL.out
      subst hL
      exact ⟨⟨An, c, rfl, hp, hcap⟩, bl_call HBW.out HB.out (Nat.le_refl _)⟩
set_option maxRecDepth 100000 in
set_option maxHeartbeats 2000000 in
theorem kFits_cap {Ad C : Option Addr} {n ca q cc : Nat} {s : Shop} {l : List SeenC} {klo khi : Int} (a z : Int) (w : World) (g : Moulds (fun _ => True) w Ad n s.moulds) (gs : SeenCs (fun _ => True) w C q l) (hca : n ≤ ca) (h1 : s.klo = klo) (h2 : s.khi = khi) :
    Calls Try.prog 7 #[.agg #[.int .i64 klo, .int .i64 khi, .slice Ad n ca], .slice C q cc, .agg #[.int .i64 a, .int .i64 z]] w fun e w' => PlsTC w.heap.size (fitsR s l a z) e w' ∧ Below w.heap.size w w' := by
  obtain ⟨W, hW⟩ : ∃ W, (w.alloc (.cells #[.int .i64 klo, .int .i64 khi, .slice Ad n ca] 26)).alloc (.cells #[.int .i64 a, .int .i64 z] 23) = W := ⟨_, rfl⟩
  have X5 : Blk W (w.heap.size + 1) 23 #[.int .i64 a, .int .i64 z] := by rw [← hW]; exact Blk.new _ _ _ (by simp)
  have hBW : Below w.heap.size w W := by rw [← hW]; exact bl_alloc (bl_alloc (Below.refl _ _) _ (Nat.le_refl _)) _ (Nat.le_refl _)
  have hc := g.keep MouldR.good (Keeps.below hBW)
  have hs := gs.keep SeenCR.good (Keeps.below hBW)
  have hWs : w.heap.size ≤ W.heap.size := hBW.size
  have HW := Lib.hid hW
  clear hW g gs
  go_enter Try.func7, Try.ntmps7
  go_wp2_with fail
  rw [HW.out]
  refine (kenter_any W hc hs hca h1 h2).mono ?_
  rintro e W1 ⟨b1, p, rfl, hbx⟩
  have B1 : Below w.heap.size w W1 := hBW.trans (b1.mono hWs)
  have Y5 := X5.bl b1
  clear X5
  by_cases he : (seen7 s l).2 = 0
  · obtain ⟨gh, rfl, hbox⟩ := hbx he
    have HOK : Hid (OkS s) := okS_of (seen7_zero he).1
    have HE := Lib.hid he
    rw [he]
    clear he hbx
    have z0 := Y5.cell 0
    have z1 := Y5.cell 1
    go_wp2_with fail
    refine (ksize_any a z W1).mono ?_
    rintro e W2 ⟨rfl, b2⟩
    have B2 : Below w.heap.size w W2 := bl_call B1 b2 (Nat.le_refl _)
    have Y52 := Y5.bl b2
    have hbox2 := hbox.bl b2
    clear z0 z1 Y5 hbox b2
    obtain ⟨re, hre⟩ : ∃ re, rangeE ⟨a, z⟩ 0 20000 = re := ⟨_, rfl⟩
    rw [hre]
    have HRE := Lib.hid hre
    clear hre
    by_cases hr : re = 0
    · have hrb : (re != 0) = false := by rw [hr]; rfl
      have HR0 : Hid (rangeE ⟨a, z⟩ 0 20000 = 0) := by rw [Hid, HRE.out, hr]
      clear hr
      obtain ⟨⟨D, kc, hB, hI, hz, hnz⟩, _⟩ := id hbox2
      have s68 : W2.cell? ⟨gh, 68, none⟩ = some (.slice D (known7 s l).length kc) := (hB.cell 68).trans shopC_68
      have hghl := hB.lt
      by_cases hk : known7 s l = []
      · have HR := Lib.hid (fitsR_no HE.out HR0.out hk)
        obtain ⟨rfl, rfl⟩ := hz hk
        rw [hk] at s68
        have heq := eqnil_t
        clear hz hnz hk hI hB hbox2
        go_wp2_with fail
        go_ret2
        exact ⟨by rw [HR.out]; exact PlsTC.nil, B2⟩
      · have HR := Lib.hid (fitsR_n HE.out HR0.out hk)
        obtain ⟨gk, rfl⟩ := hnz hk
        have heq := fun V => eqnil_f gk (known7 s l).length kc V
        have HK := Lib.hid hk
        have HBX := Lib.hid hbox2
        have z0 := Y52.cell 0
        have z1 := Y52.cell 1
        clear hz hnz hk hI hB hbox2
        go_wp2_with fail
        refine (kfits_cap HOK.out HK.out a z W2 HBX.out).mono ?_
        rintro e W3 ⟨⟨A9, c9, rfl, hP, hcap⟩, b3⟩
        have B3 : Below w.heap.size w W3 := bl_call B2 b3 (Nat.le_refl _)
        clear z0 z1 s68 heq
        go_wp2_with fail
        go_ret2
        exact ⟨by rw [HR.out]; exact ⟨A9, c9, rfl, hP.mono PlR.good (fun k h => Nat.le_trans B2.size h), hcap⟩, B3⟩
    · have hrb : (re != 0) = true := by simpa using hr
      have HR : Hid (fitsR s l a z = ([], re)) := by rw [Hid, fitsR_p HE.out (by rw [HRE.out]; exact hr), HRE.out]
      clear hr hbox2
      go_wp2_with fail
      go_ret2
      exact ⟨by rw [HR.out]; exact PlsTC.nil, B2⟩
  · have HR := Lib.hid (fitsR_bad (a := a) (z := z) he)
    have heb : ((seen7 s l).2 != 0) = true := by simpa using he
    have heb2 : ((seen7 s l).2 == 0) = false := by simpa using he
    clear he hbx
    go_wp2_with fail
    go_ret2
    exact ⟨by rw [HR.out]; exact PlsTC.nil, B1⟩

end Go.Proofs.Ytpdldmichpmgmaa
