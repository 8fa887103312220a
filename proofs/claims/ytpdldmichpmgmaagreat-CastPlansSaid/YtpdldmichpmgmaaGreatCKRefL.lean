/- Walks, layer 7, the reference: Fit. -/
import Derived.Test.YtpdldmichpmgmaaGreatCKRefs2
set_option linter.unusedVariables false
set_option linter.unusedSimpArgs false
set_option linter.all false
namespace Go.Proofs.YtpdldmichpmgmaaGreat
open Go.RowKit Go.Shelf

def plF (s : Shop) (m c : Nat) : List Pl := ((List.range m).flatMap fun m => (List.range (castsN s m)).map fun c => (m, c)) ++ (List.range c).map fun c => (m, c)
theorem plF_succ (s : Shop) (m c : Nat) : plF s m (c + 1) = plF s m c ++ [(m, c)] := by
  unfold plF; rw [List.range_succ, List.map_append, ← List.append_assoc]; rfl
theorem plF_next (s : Shop) (m : Nat) : plF s m (castsN s m) = plF s (m + 1) 0 := by
  unfold plF; rw [List.range_succ, List.flatMap_append, List.flatMap_singleton]; simp
theorem plF_all (s : Shop) : plF s s.moulds.length 0 = placesL s := by
  unfold plF placesL; simp [castsN]
theorem plF_zero (s : Shop) : plF s 0 0 = [] := by unfold plF; simp
theorem plF_len {s : Shop} (hk : OkS s) : ∀ m, m ≤ s.moulds.length → ∀ c, (plF s m c).length ≤ m * 8 + c
  | 0, _, c => by unfold plF; simp
  | m + 1, hm, c => by
    have ih := plF_len hk m (by omega) (castsN s m)
    have hc := (castsN_bd hk (m := m) (by omega)).2.1
    have e : (plF s (m + 1) c).length = (plF s (m + 1) 0).length + c := by unfold plF; simp
    rw [e, ← plF_next]
    omega
def fitP (s : Shop) (l : List SeenC) (a z : Int) (p : Pl) : Bool := decide (a ≤ (size7 s l p.1 p.2).1) && decide ((size7 s l p.1 p.2).2 ≤ z)
def fitF (s : Shop) (l : List SeenC) (a z : Int) (m c : Nat) : List Pl := (plF s m c).filter (fitP s l a z)
theorem fitF_succ (s : Shop) (l : List SeenC) (a z : Int) (m c : Nat) : fitF s l a z m (c + 1) = if fitP s l a z (m, c) then fitF s l a z m c ++ [(m, c)] else fitF s l a z m c := by
  unfold fitF
  rw [plF_succ, List.filter_append]
  split <;> rename_i h <;> simp [h]
theorem fitF_len {s : Shop} (hk : OkS s) (l : List SeenC) (a z : Int) {m : Nat} (hm : m ≤ s.moulds.length) (c : Nat) : (fitF s l a z m c).length ≤ m * 8 + c :=
  Nat.le_trans (List.length_filter_le _ _) (plF_len hk m hm c)
def IsPls7 (w0 : Nat) (xs : List Pl) (e : Ending) (w' : World) : Prop := ∃ (A' : Option Addr) (c : Nat), e = .returned (.slice A' xs.length c) ∧ Pls (fun k => w0 ≤ k) w' A' xs.length xs

set_option maxHeartbeats 8000000 in
set_option maxRecDepth 100000 in
theorem rfit7_any {A C : Option Addr} {n ca q cc : Nat} {s : Shop} {l : List SeenC} {klo khi : Int} (pa pz : Int) (w : World) (g : Moulds (fun _ => True) w A n s.moulds) (gs : SeenCs (fun _ => True) w C q l) (h1 : s.klo = klo) (h2 : s.khi = khi)
    (hk : OkS s) (hne : known7 s l ≠ []) (hq6 : l.length ≤ 6) (hsn : ∀ (j : Nat) (y : SeenC), l[j]? = some y → 0 ≤ y.cast ∧ y.cast ≤ 8) :
    Calls Tryz.prog 53 #[.agg #[.int .i64 klo, .int .i64 khi, .slice A n ca], .slice C q cc, .agg #[.int .i64 pa, .int .i64 pz]] w fun e w' => IsPls7 w.heap.size (fit7 s l pa pz) e w' ∧ Below w.heap.size w w' := by
  obtain ⟨i0, hi0, hz0, hz1, hz2⟩ := info_parts infoPl7
  have Hn := Lib.hid g.len
  have hn4 : n ≤ 4 := by rw [← Hn.out]; exact hk.nm.2
  have hnl := g.le
  obtain ⟨W, hW⟩ : ∃ W, (w.alloc (.cells #[.int .i64 klo, .int .i64 khi, .slice A n ca] 26)).alloc (.cells #[.int .i64 pa, .int .i64 pz] 23) = W := ⟨_, rfl⟩
  have X : Blk W w.heap.size 26 #[.int .i64 klo, .int .i64 khi, .slice A n ca] := by rw [← hW]; exact (Blk.new _ _ _ rfl).alloc _
  have Z : Blk W (w.heap.size + 1) 23 #[.int .i64 pa, .int .i64 pz] := by rw [← hW]; exact Blk.new _ _ _ (by simp)
  have hBW : Below w.heap.size w W := by rw [← hW]; exact bl_alloc (bl_alloc (Below.refl _ _) _ (Nat.le_refl _)) _ (Nat.le_refl _)
  have hWs := hBW.size
  have HG : Hid (∀ V, Below W.heap.size W V → Moulds (fun _ => True) V A n s.moulds) := fun V hb => (g.keep MouldR.good (Keeps.below hBW)).keep MouldR.good (Keeps.below hb)
  have HS : Hid (∀ V, Below W.heap.size W V → SeenCs (fun _ => True) V C q l) := fun V hb => (gs.keep SeenCR.good (Keeps.below hBW)).keep SeenCR.good (Keeps.below hb)
  have kk : Hid (∀ V, Below W.heap.size W V → V.cell? ⟨w.heap.size, 0, none⟩ = some (.int .i64 klo) ∧ V.cell? ⟨w.heap.size, 1, none⟩ = some (.int .i64 khi) ∧ V.cell? ⟨w.heap.size, 2, none⟩ = some (.slice A n ca) ∧ V.cell? ⟨w.heap.size + 1, 0, none⟩ = some (.int .i64 pa) ∧ V.cell? ⟨w.heap.size + 1, 1, none⟩ = some (.int .i64 pz)) :=
    fun V hb => ⟨(X.bl hb).cell 0, (X.bl hb).cell 1, (X.bl hb).cell 2, (Z.bl hb).cell 0, (Z.bl hb).cell 1⟩
  have HOK := Lib.hid hk
  have HFA : Hid (fit7 s l pa pz = fitF s l pa pz n 0) := by rw [Hid, fitF, ← Hn.out, plF_all]; rfl
  have HSZ : Hid (∀ (V : World) (m c : Nat), Below W.heap.size W V → m < n → c ≤ 8 → Calls Tryz.prog 73 #[.agg #[.int .i64 klo, .int .i64 khi, .slice A n ca], .slice C q cc, .agg #[.int .i64 m, .int .i64 c]] V fun e w' => e = .returned (.agg #[.int .i64 (size7 s l m c).1, .int .i64 (size7 s l m c).2]) ∧ Below V.heap.size V w') := fun V m c hb hm hc =>
    rsize7_any V (HG.out V hb) (HS.out V hb) h1 h2 HOK.out (by rw [Hn.out]; exact hm) hc hne hq6 hsn
  clear X Z g gs hk
  obtain ⟨x0, x1, x2, y0, y1⟩ := kk.out W (Below.refl _ _)
  go_enter Tryz.func53, Tryz.ntmps53
  go_wp2_with fail
  clear hW x0 x1 x2 y0 y1
  go_loopw [7, 8] (fun o i wr => ∃ (m len cap : Nat) (An : Option Addr), m ≤ n ∧ i = .int .i64 m ∧ o = .slice An len cap ∧ Hid (Below W.heap.size W wr) ∧ Hid (OwnL PlR 2 (fun _ => False) wr W.heap.size 54 (.slice An len cap) (fitF s l pa pz m 0)) ∧ Hid ((fitF s l pa pz m 0).length = len)) (fun _ i _ => n - (intOf i).toNat)
  case atStart => exact ⟨0, 0, 0, none, Nat.zero_le _, rfl, rfl, Below.refl _ _, by rw [fitF, plF_zero]; exact OwnL.nil _ _ _ _ _ _, by rw [Hid, fitF, plF_zero]; rfl⟩
  case round =>
    obtain ⟨m, len, cap, An, hmn, rfl, rfl, HB, HO, Hlen⟩ := hrel
    obtain ⟨x0, x1, x2, y0, y1⟩ := kk.out wr HB.out
    by_cases hlt : m < n
    · have hmi : (m : Int) < n := by omega
      go_wp2_with fail
      clear x0 x1 x2 y0 y1
      go_loopw [7, 9] (fun o i wr => ∃ (c len cap : Nat) (An : Option Addr), c ≤ castsN s m ∧ i = .int .i64 c ∧ o = .slice An len cap ∧ Hid (Below W.heap.size W wr) ∧ Hid (OwnL PlR 2 (fun _ => False) wr W.heap.size 54 (.slice An len cap) (fitF s l pa pz m c)) ∧ Hid ((fitF s l pa pz m c).length = len)) (fun _ i _ => castsN s m - (intOf i).toNat)
      case atStart => exact ⟨0, len, cap, An, Nat.zero_le _, rfl, rfl, HB.out, HO.out, Hlen.out⟩
      case round =>
        clear HB HO Hlen
        obtain ⟨c, len, cap, An, hcn, rfl, rfl, HB, HO, Hlen⟩ := hrel
        obtain ⟨x0, x1, x2, y0, y1⟩ := kk.out wr HB.out
        obtain ⟨bM, oM, sn, ma, mz, my, mu, ct, hAe, hbM, e0, e1, e2, e3, e4, e5, hss, HxM⟩ := Moulds.get (HG.out wr HB.out) hlt
        have hcs := castsN_bd HOK.out (m := m) (by rw [Hn.out]; exact hlt)
        rw [getD_of HxM.out] at hcs
        dsimp only at hcs
        obtain ⟨hcs1, hcs8, hcsE⟩ := hcs
        subst hAe
        clear hss hbM e0 e1 e2 e3 e4
        by_cases hlt2 : c < castsN s m
        · have hci : (c : Int) < ct := by omega
          have hc8 : c ≤ 8 := by omega
          have hlen40 : len ≤ 39 := by have := fitF_len HOK.out l pa pz (m := m) (by rw [Hn.out]; omega) c; rw [Hlen.out] at this; omega
          obtain ⟨lo, hi, hlh⟩ : ∃ lo hi, size7 s l m (c : Int) = (lo, hi) := ⟨_, _, rfl⟩
          have HLH := Lib.hid hlh
          obtain ⟨gA, hgA⟩ : ∃ x, wr.heap.size = x := ⟨_, rfl⟩
          obtain ⟨V1, hV1⟩ : ∃ V, wr.alloc (.cells #[.int .i64 m, .int .i64 c] 54) = V := ⟨_, rfl⟩
          have SA : Blk V1 gA 54 #[.int .i64 m, .int .i64 c] := by rw [← hV1]; exact Blk.new _ _ _ hgA.symm
          have b1 : Below W.heap.size W V1 := by rw [← hV1]; exact bl_alloc HB.out _ (Nat.le_refl _)
          have hO1 : OwnL PlR 2 (fun _ => False) V1 W.heap.size 54 (.slice An len cap) (fitF s l pa pz m c) := by rw [← hV1]; exact HO.out.alloc PlR.good _
          obtain ⟨z0, z1, z2, _, _⟩ := kk.out V1 b1
          have a0 := SA.cell 0
          have a1 := SA.cell 1
          have hgAW : W.heap.size ≤ gA := by rw [← hgA]; exact HB.out.size
          clear hlh
          go_wp2_with fail
          clear hV1 hgA x0 x1 x2 y0 y1 z0 z1 z2 a0 a1
          refine (HSZ.out V1 m c b1 hlt hc8).mono ?_
          rw [HLH.out]
          rintro e V2 ⟨rfl, c2⟩
          have b2 := bl_call b1 c2 (Nat.le_refl _)
          have SA2 := SA.bl c2
          obtain ⟨gZ, hgZ⟩ : ∃ x, V2.heap.size = x := ⟨_, rfl⟩
          obtain ⟨V3, hV3⟩ : ∃ V, V2.alloc (.cells #[.int .i64 lo, .int .i64 hi] 23) = V := ⟨_, rfl⟩
          have SZ : Blk V3 gZ 23 #[.int .i64 lo, .int .i64 hi] := by rw [← hV3]; exact Blk.new _ _ _ hgZ.symm
          have b3 : Below W.heap.size W V3 := by rw [← hV3]; exact bl_alloc b2 _ (Nat.le_refl _)
          have hO3 : OwnL PlR 2 (fun _ => False) V3 W.heap.size 54 (.slice An len cap) (fitF s l pa pz m c) := by rw [← hV3]; exact (hO1.below PlR.good c2).alloc PlR.good _
          have SA3 : Blk V3 gA 54 #[.int .i64 m, .int .i64 c] := by rw [← hV3]; exact SA2.alloc _
          obtain ⟨_, _, _, y0, y1⟩ := kk.out V3 b3
          have z0 := SZ.cell 0
          have z1 := SZ.cell 1
          have a0 := SA3.cell 0
          have a1 := SA3.cell 1
          have HS1 := Lib.hid (fitF_succ s l pa pz m c)
          have HFP : Hid (fitP s l pa pz (m, c) = (decide (pa ≤ lo) && decide (hi ≤ pz))) := by rw [Hid, fitP]; dsimp only; rw [HLH.out]
          rw [HFP.out] at HS1
          have HO3 := Lib.hid hO3
          clear SA SA2 SA3 SZ c2 hO1 b1 b2 hO3 HO HB
          have bad : ∀ (hb : (decide (pa ≤ lo) && decide (hi ≤ pz)) = false), fitF s l pa pz m (c + 1) = fitF s l pa pz m c := fun hb => by rw [HS1.out, if_neg (by rw [hb]; decide)]
          have HBAD := Lib.hid bad
          clear bad
          by_cases ha : pa ≤ lo
          · by_cases hz : hi ≤ pz
            · have HSY : Hid (fitF s l pa pz m (c + 1) = fitF s l pa pz m c ++ [(m, c)]) := by rw [Hid, HS1.out, if_pos (by simp [ha, hz])]
              go_wp2_with (at_builtin; refine wpList_append_n _ rfl (.tmp 48) (.tmp 50) _ rfl PlR.good W.heap.size 54 i0 _ 16 Tryz.underlying29 hi0 hz0 hz1 hz2 rfl (by omega) _ (fitF s l pa pz m c) (m, c) len Hlen.out rfl (HO3.out.alloc PlR.good _) ⟨V3.heap.size, 0, none⟩ 1 [.int .i64 m, .int .i64 c] rfl rfl (news_new rfl (by simp)) ?c1 ?c2 ?c3 (fun h => h) ?_)
              case c1 => simp only [maxLen]; omega
              case c2 => omega
              case c3 => have := b3.size; simp; omega
              intro A' cap' w2 hown2 hg2 hat2
              have hB2 : Below W.heap.size W w2 := bl_grown (bl_alloc b3 _ (Nat.le_refl _)) (HO3.out.alloc PlR.good _) hg2 (Nat.le_refl _) (Nat.le_refl _)
              have HOW := Lib.hid hown2
              clear hg2 hat2 hown2 a0 a1 z0 z1 y0 y1
              go_wp2
              go_roundw
              case rel => exact ⟨c + 1, len + 1, cap', _, by omega, by go_num, rfl, hB2, by rw [HSY.out]; exact HOW.out, by rw [Hid, HSY.out, List.length_append, Hlen.out]; rfl⟩
              case measure => simp [intOf]; omega
            · have HSN := Lib.hid (HBAD.out (by simp [hz]))
              go_wp2_with fail
              go_roundw
              case rel => exact ⟨c + 1, len, cap, An, by omega, by go_num, rfl, b3, by rw [HSN.out]; exact HO3.out, by rw [Hid, HSN.out]; exact Hlen.out⟩
              case measure => simp [intOf]; omega
          · have HSN := Lib.hid (HBAD.out (by simp [ha]))
            go_wp2_with fail
            go_roundw
            case rel => exact ⟨c + 1, len, cap, An, by omega, by go_num, rfl, b3, by rw [HSN.out]; exact HO3.out, by rw [Hid, HSN.out]; exact Hlen.out⟩
            case measure => simp [intOf]; omega
        · obtain rfl : c = castsN s m := by omega
          have hci : ¬ ((castsN s m : Nat) : Int) < ct := by omega
          have HNX := Lib.hid (show fitF s l pa pz m (castsN s m) = fitF s l pa pz (m + 1) 0 by unfold fitF; rw [plF_next])
          rw [HNX.out] at HO Hlen
          go_wp2_with fail
          go_roundw
          case rel => exact ⟨m + 1, len, cap, An, by omega, by go_num, rfl, HB.out, HO.out, Hlen.out⟩
          case measure => simp [intOf]; omega
    · obtain rfl : m = n := by omega
      have hmi : ¬ (m : Int) < m := by omega
      have hlen40 : len ≤ 39 := by have := fitF_len HOK.out l pa pz (m := m) (by rw [Hn.out]; omega) 0; rw [Hlen.out] at this; omega
      go_wp2_with fail
      go_ret
      rw [IsPls7, HFA.out, Hlen.out]
      exact ⟨⟨An, cap, by rfl, HO.out.slice PlR.good rfl (by simp only [maxLen]; omega) (fun _ h => h.elim) (fun j h _ => Nat.le_trans hWs h)⟩, hBW.trans (HB.out.mono hWs)⟩


end Go.Proofs.YtpdldmichpmgmaaGreat
