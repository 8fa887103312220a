/- Walks, layer 7, the reference: Fit, Fits. -/
import Derived.Test.YtnaadjhiahjlfaaCKRefs2
set_option linter.unusedVariables false
set_option linter.unusedSimpArgs false
set_option linter.all false
namespace Go.Proofs.Ytnaadjhiahjlfaa
open Go.RowKit Go.Shelf

def plF (s : Shop) (m c : Nat) : List Pl := ((List.range m).flatMap fun m => (List.range (castsN s m)).map fun c => (m, c)) ++ (List.range c).map fun c => (m, c)
theorem plF_succ (s : Shop) (m c : Nat) : plF s m (c + 1) = plF s m c ++ [(m, c)] := by
  unfold plF; rw [List.range_succ, List.map_append, ← List.append_assoc]; rfl
theorem plF_next (s : Shop) (m : Nat) : plF s m (castsN s m) = plF s (m + 1) 0 := by
  unfold plF; rw [List.range_succ, List.flatMap_append, List.flatMap_singleton]; simp
theorem plF_all (s : Shop) : plF s s.moulds.length 0 = placesL s := by
  unfold plF placesL; simp [castsN]
theorem plF_zero (s : Shop) : plF s 0 0 = [] := by unfold plF; simp
theorem plF_len {s : Shop} (hk : OkS s) : ∀ m, m ≤ s.moulds.length → ∀ c, (plF s m c).length ≤ m * 8 + c
  | 0, _, c => by unfold plF; simp
  | m + 1, hm, c => by
    have ih := plF_len hk m (by omega) (castsN s m)
    have hc := (castsN_bd hk (m := m) (by omega)).2.1
    have e : (plF s (m + 1) c).length = (plF s (m + 1) 0).length + c := by unfold plF; simp
    rw [e, ← plF_next]
    omega
def fitP (s : Shop) (l : List SeenC) (a z : Int) (p : Pl) : Bool := decide (a ≤ (size7 s l p.1 p.2).1) && decide ((size7 s l p.1 p.2).2 ≤ z)
def fitF (s : Shop) (l : List SeenC) (a z : Int) (m c : Nat) : List Pl := (plF s m c).filter (fitP s l a z)
theorem fitF_succ (s : Shop) (l : List SeenC) (a z : Int) (m c : Nat) : fitF s l a z m (c + 1) = if fitP s l a z (m, c) then fitF s l a z m c ++ [(m, c)] else fitF s l a z m c := by
  unfold fitF
  rw [plF_succ, List.filter_append]
  split <;> rename_i h <;> simp [h]
theorem fitF_len {s : Shop} (hk : OkS s) (l : List SeenC) (a z : Int) {m : Nat} (hm : m ≤ s.moulds.length) (c : Nat) : (fitF s l a z m c).length ≤ m * 8 + c :=
  Nat.le_trans (List.length_filter_le _ _) (plF_len hk m hm c)
def IsPls7 (w0 : Nat) (xs : List Pl) (e : Ending) (w' : World) : Prop := ∃ (A' : Option Addr) (c : Nat), e = .returned (.slice A' xs.length c) ∧ Pls (fun k => w0 ≤ k) w' A' xs.length xs

set_option maxHeartbeats 8000000 in
set_option maxRecDepth 100000 in
theorem rfit7_any {A C : Option Addr} {n ca q cc : Nat} {s : Shop} {l : List SeenC} {klo khi : Int} (pa pz : Int) (w : World) (g : Moulds (fun _ => True) w A n s.moulds) (gs : SeenCs (fun _ => True) w C q l) (h1 : s.klo = klo) (h2 : s.khi = khi)
    (hk : OkS s) (hne : known7 s l ≠ []) (hq6 : l.length ≤ 6) (hsn : ∀ (j : Nat) (y : SeenC), l[j]? = some y → 0 ≤ y.cast ∧ y.cast ≤ 8) :
    Calls Try.prog 83 #[.agg #[.int .i64 klo, .int .i64 khi, .slice A n ca], .slice C q cc, .agg #[.int .i64 pa, .int .i64 pz]] w fun e w' => IsPls7 w.heap.size (fit7 s l pa pz) e w' ∧ Below w.heap.size w w' := by
  obtain ⟨i0, hi0, hz0, hz1, hz2⟩ := info_parts infoPl7
  have Hn := Lib.hid g.len
  have hn4 : n ≤ 4 := by rw [← Hn.out]; exact hk.nm.2
  have hnl := g.le
  obtain ⟨W, hW⟩ : ∃ W, (w.alloc (.cells #[.int .i64 klo, .int .i64 khi, .slice A n ca] 46)).alloc (.cells #[.int .i64 pa, .int .i64 pz] 23) = W := ⟨_, rfl⟩
  have X : Blk W w.heap.size 46 #[.int .i64 klo, .int .i64 khi, .slice A n ca] := by rw [← hW]; exact (Blk.new _ _ _ rfl).alloc _
  have Z : Blk W (w.heap.size + 1) 23 #[.int .i64 pa, .int .i64 pz] := by rw [← hW]; exact Blk.new _ _ _ (by simp)
  have hBW : Below w.heap.size w W := by rw [← hW]; exact bl_alloc (bl_alloc (Below.refl _ _) _ (Nat.le_refl _)) _ (Nat.le_refl _)
  have hWs := hBW.size
  have HG : Hid (∀ V, Below W.heap.size W V → Moulds (fun _ => True) V A n s.moulds) := fun V hb => (g.keep MouldR.good (Keeps.below hBW)).keep MouldR.good (Keeps.below hb)
  have HS : Hid (∀ V, Below W.heap.size W V → SeenCs (fun _ => True) V C q l) := fun V hb => (gs.keep SeenCR.good (Keeps.below hBW)).keep SeenCR.good (Keeps.below hb)
  have kk : Hid (∀ V, Below W.heap.size W V → V.cell? ⟨w.heap.size, 0, none⟩ = some (.int .i64 klo) ∧ V.cell? ⟨w.heap.size, 1, none⟩ = some (.int .i64 khi) ∧ V.cell? ⟨w.heap.size, 2, none⟩ = some (.slice A n ca) ∧ V.cell? ⟨w.heap.size + 1, 0, none⟩ = some (.int .i64 pa) ∧ V.cell? ⟨w.heap.size + 1, 1, none⟩ = some (.int .i64 pz)) :=
    fun V hb => ⟨(X.bl hb).cell 0, (X.bl hb).cell 1, (X.bl hb).cell 2, (Z.bl hb).cell 0, (Z.bl hb).cell 1⟩
  have HOK := Lib.hid hk
  have HFA : Hid (fit7 s l pa pz = fitF s l pa pz n 0) := by rw [Hid, fitF, ← Hn.out, plF_all]; rfl
  have HSZ : Hid (∀ (V : World) (m c : Nat), Below W.heap.size W V → m < n → c ≤ 8 → Calls Try.prog 80 #[.agg #[.int .i64 klo, .int .i64 khi, .slice A n ca], .slice C q cc, .agg #[.int .i64 m, .int .i64 c]] V fun e w' => e = .returned (.agg #[.int .i64 (size7 s l m c).1, .int .i64 (size7 s l m c).2]) ∧ Below V.heap.size V w') := fun V m c hb hm hc =>
    rsize7_any V (HG.out V hb) (HS.out V hb) h1 h2 HOK.out (by rw [Hn.out]; exact hm) hc hne hq6 hsn
  clear X Z g gs hk
  obtain ⟨x0, x1, x2, y0, y1⟩ := kk.out W (Below.refl _ _)
  go_enter Try.func83, Try.ntmps83
  go_wp2_with fail
  clear hW x0 x1 x2 y0 y1
  go_loopw [7, 8] (fun o i wr => ∃ (m len cap : Nat) (An : Option Addr), m ≤ n ∧ i = .int .i64 m ∧ o = .slice An len cap ∧ Hid (Below W.heap.size W wr) ∧ Hid (OwnL PlR 2 (fun _ => False) wr W.heap.size 49 (.slice An len cap) (fitF s l pa pz m 0)) ∧ Hid ((fitF s l pa pz m 0).length = len)) (fun _ i _ => n - (intOf i).toNat)
  case atStart => exact ⟨0, 0, 0, none, Nat.zero_le _, rfl, rfl, Below.refl _ _, by rw [fitF, plF_zero]; exact OwnL.nil _ _ _ _ _ _, by rw [Hid, fitF, plF_zero]; rfl⟩
  case round =>
    obtain ⟨m, len, cap, An, hmn, rfl, rfl, HB, HO, Hlen⟩ := hrel
    obtain ⟨x0, x1, x2, y0, y1⟩ := kk.out wr HB.out
    by_cases hlt : m < n
    · have hmi : (m : Int) < n := by omega
      go_wp2_with fail
      clear x0 x1 x2 y0 y1
      go_loopw [7, 9] (fun o i wr => ∃ (c len cap : Nat) (An : Option Addr), c ≤ castsN s m ∧ i = .int .i64 c ∧ o = .slice An len cap ∧ Hid (Below W.heap.size W wr) ∧ Hid (OwnL PlR 2 (fun _ => False) wr W.heap.size 49 (.slice An len cap) (fitF s l pa pz m c)) ∧ Hid ((fitF s l pa pz m c).length = len)) (fun _ i _ => castsN s m - (intOf i).toNat)
      case atStart => exact ⟨0, len, cap, An, Nat.zero_le _, rfl, rfl, HB.out, HO.out, Hlen.out⟩
      case round =>
        clear HB HO Hlen
        obtain ⟨c, len, cap, An, hcn, rfl, rfl, HB, HO, Hlen⟩ := hrel
        obtain ⟨x0, x1, x2, y0, y1⟩ := kk.out wr HB.out
        obtain ⟨bM, oM, sn, ma, mz, my, mu, ct, hAe, hbM, e0, e1, e2, e3, e4, e5, hss, HxM⟩ := Moulds.get (HG.out wr HB.out) hlt
        have hcs := castsN_bd HOK.out (m := m) (by rw [Hn.out]; exact hlt)
        rw [getD_of HxM.out] at hcs
        dsimp only at hcs
        obtain ⟨hcs1, hcs8, hcsE⟩ := hcs
        subst hAe
        clear hss hbM e0 e1 e2 e3 e4
        by_cases hlt2 : c < castsN s m
        · have hci : (c : Int) < ct := by omega
          have hc8 : c ≤ 8 := by omega
          have hlen40 : len ≤ 39 := by have := fitF_len HOK.out l pa pz (m := m) (by rw [Hn.out]; omega) c; rw [Hlen.out] at this; omega
          obtain ⟨lo, hi, hlh⟩ : ∃ lo hi, size7 s l m (c : Int) = (lo, hi) := ⟨_, _, rfl⟩
          have HLH := Lib.hid hlh
          obtain ⟨gA, hgA⟩ : ∃ x, wr.heap.size = x := ⟨_, rfl⟩
          obtain ⟨V1, hV1⟩ : ∃ V, wr.alloc (.cells #[.int .i64 m, .int .i64 c] 49) = V := ⟨_, rfl⟩
          have SA : Blk V1 gA 49 #[.int .i64 m, .int .i64 c] := by rw [← hV1]; exact Blk.new _ _ _ hgA.symm
          have b1 : Below W.heap.size W V1 := by rw [← hV1]; exact bl_alloc HB.out _ (Nat.le_refl _)
          have hO1 : OwnL PlR 2 (fun _ => False) V1 W.heap.size 49 (.slice An len cap) (fitF s l pa pz m c) := by rw [← hV1]; exact HO.out.alloc PlR.good _
          obtain ⟨z0, z1, z2, _, _⟩ := kk.out V1 b1
          have a0 := SA.cell 0
          have a1 := SA.cell 1
          have hgAW : W.heap.size ≤ gA := by rw [← hgA]; exact HB.out.size
          clear hlh
          go_wp2_with fail
          clear hV1 hgA x0 x1 x2 y0 y1 z0 z1 z2 a0 a1
          refine (HSZ.out V1 m c b1 hlt hc8).mono ?_
          rw [HLH.out]
          rintro e V2 ⟨rfl, c2⟩
          have b2 := bl_call b1 c2 (Nat.le_refl _)
          have SA2 := SA.bl c2
          obtain ⟨gZ, hgZ⟩ : ∃ x, V2.heap.size = x := ⟨_, rfl⟩
          obtain ⟨V3, hV3⟩ : ∃ V, V2.alloc (.cells #[.int .i64 lo, .int .i64 hi] 23) = V := ⟨_, rfl⟩
          have SZ : Blk V3 gZ 23 #[.int .i64 lo, .int .i64 hi] := by rw [← hV3]; exact Blk.new _ _ _ hgZ.symm
          have b3 : Below W.heap.size W V3 := by rw [← hV3]; exact bl_alloc b2 _ (Nat.le_refl _)
          have hO3 : OwnL PlR 2 (fun _ => False) V3 W.heap.size 49 (.slice An len cap) (fitF s l pa pz m c) := by rw [← hV3]; exact (hO1.below PlR.good c2).alloc PlR.good _
          have SA3 : Blk V3 gA 49 #[.int .i64 m, .int .i64 c] := by rw [← hV3]; exact SA2.alloc _
          obtain ⟨_, _, _, y0, y1⟩ := kk.out V3 b3
          have z0 := SZ.cell 0
          have z1 := SZ.cell 1
          have a0 := SA3.cell 0
          have a1 := SA3.cell 1
          have HS1 := Lib.hid (fitF_succ s l pa pz m c)
          have HFP : Hid (fitP s l pa pz (m, c) = (decide (pa ≤ lo) && decide (hi ≤ pz))) := by rw [Hid, fitP]; dsimp only; rw [HLH.out]
          rw [HFP.out] at HS1
          have HO3 := Lib.hid hO3
          clear SA SA2 SA3 SZ c2 hO1 b1 b2 hO3 HO HB
          have bad : ∀ (hb : (decide (pa ≤ lo) && decide (hi ≤ pz)) = false), fitF s l pa pz m (c + 1) = fitF s l pa pz m c := fun hb => by rw [HS1.out, if_neg (by rw [hb]; decide)]
          have HBAD := Lib.hid bad
          clear bad
          by_cases ha : pa ≤ lo
          · by_cases hz : hi ≤ pz
            · have HSY : Hid (fitF s l pa pz m (c + 1) = fitF s l pa pz m c ++ [(m, c)]) := by rw [Hid, HS1.out, if_pos (by simp [ha, hz])]
              go_wp2_with (at_builtin; refine wpList_append_n _ rfl (.tmp 48) (.tmp 50) _ rfl PlR.good W.heap.size 49 i0 _ 16 Try.underlying61 hi0 hz0 hz1 hz2 rfl (by omega) _ (fitF s l pa pz m c) (m, c) len Hlen.out rfl (HO3.out.alloc PlR.good _) ⟨V3.heap.size, 0, none⟩ 1 [.int .i64 m, .int .i64 c] rfl rfl (news_new rfl (by simp)) ?c1 ?c2 ?c3 (fun h => h) ?_)
              case c1 => simp only [maxLen]; omega
              case c2 => omega
              case c3 => have := b3.size; simp; omega
              intro A' cap' w2 hown2 hg2 hat2
              have hB2 : Below W.heap.size W w2 := bl_grown (bl_alloc b3 _ (Nat.le_refl _)) (HO3.out.alloc PlR.good _) hg2 (Nat.le_refl _) (Nat.le_refl _)
              have HOW := Lib.hid hown2
              clear hg2 hat2 hown2 a0 a1 z0 z1 y0 y1
              go_wp2
              go_roundw
              case rel => exact ⟨c + 1, len + 1, cap', _, by omega, by go_num, rfl, hB2, by rw [HSY.out]; exact HOW.out, by rw [Hid, HSY.out, List.length_append, Hlen.out]; rfl⟩
              case measure => simp [intOf]; omega
            · have HSN := Lib.hid (HBAD.out (by simp [hz]))
              go_wp2_with fail
              go_roundw
              case rel => exact ⟨c + 1, len, cap, An, by omega, by go_num, rfl, b3, by rw [HSN.out]; exact HO3.out, by rw [Hid, HSN.out]; exact Hlen.out⟩
              case measure => simp [intOf]; omega
          · have HSN := Lib.hid (HBAD.out (by simp [ha]))
            go_wp2_with fail
            go_roundw
            case rel => exact ⟨c + 1, len, cap, An, by omega, by go_num, rfl, b3, by rw [HSN.out]; exact HO3.out, by rw [Hid, HSN.out]; exact Hlen.out⟩
            case measure => simp [intOf]; omega
        · obtain rfl : c = castsN s m := by omega
          have hci : ¬ ((castsN s m : Nat) : Int) < ct := by omega
          have HNX := Lib.hid (show fitF s l pa pz m (castsN s m) = fitF s l pa pz (m + 1) 0 by unfold fitF; rw [plF_next])
          rw [HNX.out] at HO Hlen
          go_wp2_with fail
          go_roundw
          case rel => exact ⟨m + 1, len, cap, An, by omega, by go_num, rfl, HB.out, HO.out, Hlen.out⟩
          case measure => simp [intOf]; omega
    · obtain rfl : m = n := by omega
      have hmi : ¬ (m : Int) < m := by omega
      have hlen40 : len ≤ 39 := by have := fitF_len HOK.out l pa pz (m := m) (by rw [Hn.out]; omega) 0; rw [Hlen.out] at this; omega
      go_wp2_with fail
      go_ret
      rw [IsPls7, HFA.out, Hlen.out]
      exact ⟨⟨An, cap, by rfl, HO.out.slice PlR.good rfl (by simp only [maxLen]; omega) (fun _ h => h.elim) (fun j h _ => Nat.le_trans hWs h)⟩, hBW.trans (HB.out.mono hWs)⟩


set_option maxRecDepth 100000 in
set_option maxHeartbeats 4000000 in
theorem rfits7_any {A C : Option Addr} {n ca q cc : Nat} {s : Shop} {l : List SeenC} {klo khi : Int} (pa pz : Int) (w : World) (g : Moulds (fun _ => True) w A n s.moulds) (gs : SeenCs (fun _ => True) w C q l) (h1 : s.klo = klo) (h2 : s.khi = khi) :
    Calls Try.prog 28 #[.agg #[.int .i64 klo, .int .i64 khi, .slice A n ca], .slice C q cc, .agg #[.int .i64 pa, .int .i64 pz]] w fun e w' => PlsT w.heap.size (fitsR s l pa pz) e w' ∧ Below w.heap.size w w' := by
  obtain ⟨W, hW⟩ : ∃ W, (w.alloc (.cells #[.int .i64 klo, .int .i64 khi, .slice A n ca] 46)).alloc (.cells #[.int .i64 pa, .int .i64 pz] 23) = W := ⟨_, rfl⟩
  have X : Blk W w.heap.size 46 #[.int .i64 klo, .int .i64 khi, .slice A n ca] := by rw [← hW]; exact (Blk.new _ _ _ rfl).alloc _
  have Z : Blk W (w.heap.size + 1) 23 #[.int .i64 pa, .int .i64 pz] := by rw [← hW]; exact Blk.new _ _ _ (by simp)
  have hBW : Below w.heap.size w W := by rw [← hW]; exact bl_alloc (bl_alloc (Below.refl _ _) _ (Nat.le_refl _)) _ (Nat.le_refl _)
  have hWs := hBW.size
  have HC : Hid (∀ V, Below W.heap.size W V → Moulds (fun _ => True) V A n s.moulds) := fun V hb => (g.keep MouldR.good (Keeps.below hBW)).keep MouldR.good (Keeps.below hb)
  have HS : Hid (∀ V, Below W.heap.size W V → SeenCs (fun _ => True) V C q l) := fun V hb => (gs.keep SeenCR.good (Keeps.below hBW)).keep SeenCR.good (Keeps.below hb)
  have kk : Hid (∀ V, Below W.heap.size W V → V.cell? ⟨w.heap.size, 0, none⟩ = some (.int .i64 klo) ∧ V.cell? ⟨w.heap.size, 1, none⟩ = some (.int .i64 khi) ∧ V.cell? ⟨w.heap.size, 2, none⟩ = some (.slice A n ca) ∧ V.cell? ⟨w.heap.size + 1, 0, none⟩ = some (.int .i64 pa) ∧ V.cell? ⟨w.heap.size + 1, 1, none⟩ = some (.int .i64 pz)) :=
    fun V hb => ⟨(X.bl hb).cell 0, (X.bl hb).cell 1, (X.bl hb).cell 2, (Z.bl hb).cell 0, (Z.bl hb).cell 1⟩
  clear X Z g gs
  obtain ⟨x0, x1, x2, y0, y1⟩ := kk.out W (Below.refl _ _)
  go_enter Try.func28, Try.ntmps28
  go_wp2_with fail
  clear hW x0 x1 x2 y0 y1
  refine (rseen7_any W (HC.out W (Below.refl _ _)) (HS.out W (Below.refl _ _)) h1 h2).mono ?_
  rintro e W1 ⟨rfl, b1⟩
  obtain ⟨x0, x1, x2, y0, y1⟩ := kk.out W1 b1
  obtain ⟨es, hes⟩ : ∃ es, (seen7 s l).2 = es := ⟨_, rfl⟩
  obtain ⟨ei, hei⟩ : ∃ ei, (seen7 s l).1 = ei := ⟨_, rfl⟩
  rw [hes, hei]
  have HES := Lib.hid hes
  clear hei hes
  by_cases he : es = 0
  · obtain ⟨hk, hq6, hsn⟩ := seen7_all (HES.out.trans he)
    subst he
    go_wp2_with fail
    refine (range_any pa pz 0 20000 W1).mono ?_
    rintro e W2 ⟨rfl, c2⟩
    have b2 := bl_call b1 c2 (Nat.le_refl _)
    clear x0 x1 x2 y0 y1 b1 c2
    obtain ⟨x0, x1, x2, y0, y1⟩ := kk.out W2 b2
    obtain ⟨er, her⟩ : ∃ x, rangeE ⟨pa, pz⟩ 0 20000 = x := ⟨_, rfl⟩
    rw [her]
    have HER := Lib.hid her
    clear her
    go_wp2_with fail
    refine (ragree7_any er W2 (HC.out W2 b2) (HS.out W2 b2) h1 h2 (fun _ => HES.out)).mono ?_
    rintro e W3 ⟨rfl, c3⟩
    have b3 := bl_call b2 c3 (Nat.le_refl _)
    clear x0 x1 x2 y0 y1 b2 c3
    obtain ⟨x0, x1, x2, y0, y1⟩ := kk.out W3 b3
    by_cases hr : er = 0
    · by_cases hkn : known7 s l = []
      · have HR : Hid (fitsR s l pa pz = ([], 9)) := fitsR_no HES.out (HER.out.trans hr) hkn
        have ha : agreeE7 s l er = 9 := by unfold agreeE7; rw [if_pos ⟨hr, hkn⟩]
        rw [ha]
        clear ha hr hkn
        go_wp2_with fail
        go_ret2
        exact ⟨by rw [HR.out]; exact PlsT.nil, hBW.trans (b3.mono hWs)⟩
      · have HR : Hid (fitsR s l pa pz = (fit7 s l pa pz, 0)) := fitsR_n HES.out (HER.out.trans hr) hkn
        have ha : agreeE7 s l er = 0 := by unfold agreeE7; rw [if_neg (by simp [hkn])]; exact hr
        rw [ha]
        clear ha hr
        go_wp2_with fail
        refine (rfit7_any pa pz W3 (HC.out W3 b3) (HS.out W3 b3) h1 h2 hk hkn hq6 hsn).mono ?_
        rintro e W4 ⟨⟨D, dk, rfl, hD⟩, c4⟩
        have b4 := bl_call b3 c4 (Nat.le_refl _)
        have h3s := b3.size
        obtain ⟨dn, hdn⟩ : ∃ x, (fit7 s l pa pz).length = x := ⟨_, rfl⟩
        rw [hdn] at hD
        rw [hdn]
        have HDN := Lib.hid hdn
        have HD := Lib.hid hD
        clear x0 x1 x2 y0 y1 hD hdn hkn c4
        go_wp2_with fail
        go_ret2
        exact ⟨⟨D, dk, by rw [HR.out, HDN.out]; rfl, by rw [HR.out, HDN.out]; exact HD.out.mono PlR.good (fun k h => by omega)⟩, hBW.trans (b4.mono hWs)⟩
    · have HR : Hid (fitsR s l pa pz = ([], er)) := by rw [Hid, fitsR_p HES.out (by rw [HER.out]; exact hr), HER.out]
      have ha : agreeE7 s l er = er := by unfold agreeE7; rw [if_neg (by simp [hr])]
      have hrb : (er != 0) = true := by simpa using hr
      rw [ha]
      clear ha hr
      go_wp2_with fail
      go_ret2
      exact ⟨by rw [HR.out]; exact PlsT.nil, hBW.trans (b3.mono hWs)⟩
  · have heb : (es == 0) = false := by simpa using he
    have heb2 : (es != 0) = true := by simpa using he
    have HR : Hid (fitsR s l pa pz = ([], es)) := by rw [Hid, fitsR_bad (by rw [HES.out]; exact he), HES.out]
    have ha : agreeE7 s l es = es := by unfold agreeE7; rw [if_neg (by simp [he])]
    go_wp2_with fail
    refine (ragree7_any es W1 (HC.out W1 b1) (HS.out W1 b1) h1 h2 (fun h => absurd h he)).mono ?_
    rintro e W3 ⟨rfl, c3⟩
    have b3 := bl_call b1 c3 (Nat.le_refl _)
    rw [ha]
    clear x0 x1 x2 y0 y1 ha c3 b1 he
    go_wp2_with fail
    go_ret2
    exact ⟨by rw [HR.out]; exact PlsT.nil, hBW.trans (b3.mono hWs)⟩
end Go.Proofs.Ytnaadjhiahjlfaa
