/- Walks, layer 7, the reference: first, the first plan. -/
import Derived.Test.YtpdldmichpmgmaaGreatCKApp3
import Derived.Test.YtpdldmichpmgmaaGreatCKFews
set_option linter.unusedVariables false
set_option linter.unusedSimpArgs false
set_option linter.all false
namespace Go.Proofs.YtpdldmichpmgmaaGreat
open Go.RowKit Go.Shelf

/-- a list of casts, as an answer -/
def IsPlsF (xs : List Pl) (e : Ending) (w' : World) : Prop := ∃ (A' : Option Addr) (c : Nat), e = .returned (.slice A' xs.length c) ∧ Pls (fun _ => True) w' A' xs.length xs
theorem firstL_len (all : List (List Pl)) (set : List Int) : ∀ k, (firstL all set k).length ≤ k
  | 0 => by simp [firstL]
  | k + 1 => by
    have := firstL_len all set k
    rw [firstL_succ]
    split
    · rw [List.length_append, List.length_singleton]; omega
    · omega
theorem find_at7 {α : Type} {p : α → Bool} {L : List α} {k : Nat} {a : α} (h1 : ∀ x ∈ L.take k, p x = false) (ha : L[k]? = some a) (hp : p a = true) : L.find? p = some a := find_at h1 ha hp
/-- what the operations promise that put one more cast behind the plan so far; 8: the append -/
def firE (B : Nat) (ov lv pp : Value) (k ya yb : Nat) (L : List Pl) : Nat → Bool → Value → World → Prop
  | 0, p, v, W => p = true ∨ ∃ g, B ≤ g ∧ v = .slice (some ⟨g, 0, none⟩) 0 0 ∧ Blk W g 54 #[]
  | 1, _, v, _ => v = ov
  | 2, p, v, W => p = true ∨ ∃ A c, v = .slice A L.length c ∧ OwnL PlR 2 (fun _ => False) W B 54 v L
  | 3, _, v, _ => v = lv
  | 4, _, v, _ => v = .int .i64 k
  | 5, _, v, _ => v = pp
  | 6, _, v, _ => v = .agg #[.int .i64 (ya : Int), .int .i64 (yb : Int)]
  | 7, p, v, W => p = true ∨ ∃ g, v = .slice (some ⟨g, 0, none⟩) 1 1 ∧ Blk W g 54 #[.int .i64 (ya : Int), .int .i64 (yb : Int)]
  | 8, _, v, W => ∃ A c, v = .slice A (L.length + 1) c ∧ Pls (fun k => B ≤ k) W A (L.length + 1) (L ++ [(ya, yb)])
  | _, _, _, _ => True
theorem firE_stab (B : Nat) (ov lv pp : Value) (k ya yb : Nat) (L : List Pl) : ∀ i p v w w', Below w.heap.size w w' → firE B ov lv pp k ya yb L i p v w → firE B ov lv pp k ya yb L i p v w'
  | 0, _, _, _, _, hb, h => h.imp id fun ⟨g, h1, h2, h3⟩ => ⟨g, h1, h2, h3.bl hb⟩
  | 2, _, _, _, _, hb, h => h.imp id fun ⟨A, c, h1, h2⟩ => ⟨A, c, h1, h2.below PlR.good hb⟩
  | 7, _, _, _, _, hb, h => h.imp id fun ⟨g, h1, h2⟩ => ⟨g, h1, h2.bl hb⟩
  | 8, _, _, _, _, hb, ⟨A, c, h1, h2⟩ => ⟨A, c, h1, h2.keep PlR.good (Keeps.below hb)⟩
  | 1, _, _, _, _, _, h => h
  | 3, _, _, _, _, _, h => h
  | 4, _, _, _, _, _, h => h
  | 5, _, _, _, _, _, h => h
  | 6, _, _, _, _, _, h => h
  | _ + 9, _, _, _, _, _, _ => trivial
/-- what is behind one in a slice, wherever it lies if it is none -/
theorem ords_drop {S : Foot} {w : World} {b off n k : Nat} {A : Option Addr} {xs : List (List Pl)} (h : Ords S w (some ⟨b, off, none⟩) n xs) (hk : k ≤ n) (hA : A = some ⟨b, off + k, none⟩ ∨ n - k = 0) : Ords S w A (n - k) (xs.drop k) := by
  rcases hA with rfl | hz
  · have := SliceOf.drop h hk
    rwa [Nat.mul_one] at this
  · have hl : xs.drop k = [] := List.drop_eq_nil_of_le (by have := h.1; omega)
    rw [hz, hl]
    exact ⟨rfl, Nat.zero_le _, fun j x hx => by simp at hx⟩

set_option maxHeartbeats 16000000 in
set_option maxRecDepth 100000 in
theorem rfirst7_any {S T : Foot} {A B : Option Addr} {n c m d : Nat} {all : List (List Pl)} {set : List Int} (w : World) (h : Ords S w A n all) (g : Ints T w B m set) (hn : n ≤ 8) (hl : ∀ l ∈ all, l.length ≤ 40) :
    Calls Tryz.prog 36 #[.slice A n c, .slice B m d] w fun e w' => IsPlsF (firstL all set n) e w' ∧ Below w.heap.size w w' := by
  obtain ⟨iP, hiP, hzP0, hzP1, hzP2⟩ := info_parts infoPl7
  have Hn := Lib.hid h.len
  have hnl := h.le
  have HA : Hid (∀ V, Below w.heap.size w V → Ords S V A n all) := fun V hb => h.keep OrdR.good (Keeps.below hb)
  have HM : Hid (∀ V, Below w.heap.size w V → Ints T V B m set) := fun V hb => g.keep IntR.good (Keeps.below hb)
  have HL := Lib.hid hl
  have HFL : Hid (∀ k, (firstL all set k).length ≤ k) := firstL_len all set
  clear h g hl
  go_enter Tryz.func36, Tryz.ntmps36
  go_wp2_with fail
  go_loopw [5, 6] (fun o i wr => ∃ (r len cap : Nat) (Ao : Option Addr), r ≤ n ∧ i = .int .i64 r ∧ o = .slice Ao len cap ∧ Hid (Below w.heap.size w wr) ∧ Hid (Pls (fun _ => True) wr Ao len (firstL all set r))) (fun _ i _ => n - (intOf i).toNat)
  case atStart => exact ⟨0, 0, 0, none, Nat.zero_le _, rfl, rfl, Below.refl _ _, SliceOf.nil _ _ _ _ _⟩
  case round =>
    obtain ⟨r, len, cap, Ao, hr, rfl, rfl, HB, HO⟩ := hrel
    have HLN : Hid ((firstL all set r).length = len) := HO.out.len
    have hlr : len ≤ r := by rw [← HLN.out]; exact HFL.out r
    by_cases hlt : r < n
    · have hri : (r : Int) < n := by omega
      have HFS := Lib.hid (firstL_succ all set r)
      obtain ⟨F, hF⟩ : ∃ F, firstL all set r = F := ⟨_, rfl⟩
      rw [hF] at HO HLN HFS
      clear hF
      go_wp2_with fail
      refine (ronly7_any (but := F) wr (HA.out wr HB.out) (HM.out wr HB.out) HO.out hn HL.out).mono ?_
      rintro e V1 ⟨⟨G1, g1, rfl, hG, _⟩, c1⟩
      obtain ⟨OL, hOL⟩ : ∃ x, onlyL all set F = x := ⟨_, rfl⟩
      have HOL := Lib.hid hOL
      rw [hOL] at HFS hG
      obtain ⟨bA, oA, A1, n1, c1x, L, rfl, _, hLc, hL, HxL⟩ := Ords.get hG hlt
      have HL1 : Hid (L.length = n1) := hL.len
      have hn40 : n1 ≤ 40 := by rw [← HL1.out]; exact only40 HL.out set F L (by rw [HOL.out]; exact List.mem_of_getElem? HxL.out)
      have HLs : Hid (∀ V, Below V1.heap.size V1 V → Pls (fun _ => True) V A1 n1 L) := fun V hb => (hL.keep PlR.good (Keeps.below hb)).mono PlR.good (fun _ _ => trivial)
      have HOs : Hid (∀ V, Below V1.heap.size V1 V → Pls (fun _ => True) V Ao len F) := fun V hb => HO.out.keep PlR.good (Keeps.below (bl_call c1 hb (Nat.le_refl _)))
      have HB1 : Hid (Below w.heap.size w V1) := bl_call HB.out c1 (Nat.le_refl _)
      rw [getD_of HxL.out] at HFS
      obtain ⟨q, hq⟩ : ∃ q : Pl → Bool, (fun a => (fewestL ((onlyL all set (F ++ [a])).drop (r + 1))).isNone) = q := ⟨_, rfl⟩
      have HQ : Hid (∀ a, (fewestL ((onlyL all set (F ++ [a])).drop (r + 1))).isNone = q a) := fun a => by rw [← hq]
      rw [hq] at HFS
      clear hOL hG hL c1 HB HO hq
      go_wp2_with fail
      clear hLc
      go_loopw [5, 8] (fun o i wr => ∃ k : Nat, k ≤ n1 ∧ i = .int .i64 k ∧ o = .slice Ao len cap ∧ Hid (Below V1.heap.size V1 wr) ∧ Hid (∀ x ∈ L.take k, q x = false)) (fun _ i _ => n1 - (intOf i).toNat)
      case atStart => exact ⟨0, Nat.zero_le _, rfl, rfl, Below.refl _ _, fun x hx => by simp at hx⟩
      case round =>
        obtain ⟨k, hk, rfl, rfl, HBk, HNk⟩ := hrel
        by_cases hlt2 : k < n1
        · have hki : (k : Int) < n1 := by omega
          obtain ⟨b2, o2, ya, yb, rfl, _, d0, d1, Hy⟩ := Pls.get (HLs.out wr HBk.out) hlt2
          have HD0 := Lib.hid d0
          have HD1 := Lib.hid d1
          obtain ⟨V, hV⟩ : ∃ V : World, V = wr := ⟨_, rfl⟩
          subst hV
          have HOV : Hid (Pls (fun _ => True) V Ao len F) := HOs.out V HBk.out
          clear d0 d1
          go_wp2_with fail
          have AS := Lib.hid (firE_stab V.heap.size (.slice Ao len cap) (.slice (some ⟨b2, o2, none⟩) n1 c1x) (.pointer (some ⟨b2, o2 + k * 2, none⟩)) k ya yb F)
          refine wp_region_invs (fun ls vs ww => InvE V.heap.size V (firE V.heap.size (.slice Ao len cap) (.slice (some ⟨b2, o2, none⟩) n1 c1x) (.pointer (some ⟨b2, o2 + k * 2, none⟩)) k ya yb F) 8 ls vs ww) 9 (by kernel_rfl) (by kernel_rfl) (by kernel_rfl) (by rfl) ⟨(Below.refl _ _).drew, fun i h => by cases h⟩ ?step (by rfl) (by rfl) ?fin
          case step =>
            refine StepsI.cons ?_ (StepsI.cons ?_ (StepsI.cons ?_ (StepsI.cons ?_ (StepsI.cons ?_ (StepsI.cons ?_ (StepsI.cons ?_ (StepsI.cons ?_ (StepsI.cons ?_ StepsI.nil))))))))
            all_goals
              refine StepI.of ?_
              intro ls vs W K hI hl hw hU hK
              simp only [fillA, Act.put, List.setIfInBounds_toArray, List.set_cons_zero, List.set_cons_succ, Nat.zero_add, Nat.reduceAdd] at hK ⊢
              simp [waits, Region.binds] at hw
              have hC := hI.1
            · go_simp
              exact hK _ _ (hI.step AS.out (bl_alloc (Below.refl _ _) _ (Nat.le_refl _)) hC.size (by decide) (.inr ⟨_, hC.size, rfl, Blk.new _ _ _ rfl⟩))
            · go_simp
              exact hK _ _ (hI.step AS.out (Below.refl _ _) hC.size (by decide) rfl)
            · have h8 : ls 8 = false := (hU 8 _ rfl (by simp [waits, Region.binds])).1
              obtain ⟨gl, hgl, hv0, hBl⟩ := (hI.2 0 (by simp [hw])).resolve_left (by rw [h8]; decide)
              have q1 : vs 1 = _ := hI.2 1 (by simp [hw])
              simp only [hv0, q1] at hK ⊢
              rw [if_pos (by rfl)]
              refine wp_append_lit W (.tmp 31) (.tmp 32) _ rfl PlR.good (T := fun _ => True) (S := fun _ => False) V.heap.size 54 iP _ 16 Tryz.underlying29 hiP hzP0 hzP1 hzP2 rfl (by decide) gl rfl hBl hgl Ao len cap F rfl (HOV.out.keep PlR.good (Keeps.below hC)) (fun y vs hr => hr) (by simp only [maxLen]; omega) (by omega) hC.size (fun h => h) (fun h => h) ?_
              intro A2 c2 w' hO hb
              have e2 : len = F.length := HLN.out.symm
              exact hK _ _ (hI.step AS.out hb hC.size (by decide) (.inr ⟨A2, c2, by rw [e2], hO⟩))
            · go_simp
              exact hK _ _ (hI.step AS.out (Below.refl _ _) hC.size (by decide) rfl)
            · go_simp
              exact hK _ _ (hI.step AS.out (Below.refl _ _) hC.size (by decide) rfl)
            · have q3 : vs 3 = _ := hI.2 3 (by simp [hw])
              have q4 : vs 4 = _ := hI.2 4 (by simp [hw])
              simp only [q3, q4] at hK ⊢
              go_simp
              exact hK _ _ (hI.step AS.out (Below.refl _ _) hC.size (by decide) rfl)
            · have q5 : vs 5 = _ := hI.2 5 (by simp [hw])
              simp only [q5] at hK ⊢
              have k0 := getc hC HD0.out
              have k1 := getc hC HD1.out
              go_simp
              exact hK _ _ (hI.step AS.out (Below.refl _ _) hC.size (by decide) rfl)
            · have q6 : vs 6 = _ := hI.2 6 (by simp [hw])
              simp only [q6] at hK ⊢
              go_simp
              exact hK _ _ (hI.step AS.out (bl_alloc (Below.refl _ _) _ (Nat.le_refl _)) hC.size (by decide) (.inr ⟨_, rfl, Blk.new _ _ _ rfl⟩))
            · obtain ⟨A3, c3, hv2, hO3⟩ := (hI.2 2 (by simp [hw])).resolve_left (by rw [hl]; decide)
              rw [hv2] at hO3
              obtain ⟨g9, hv7, hB7⟩ := (hI.2 7 (by simp [hw])).resolve_left (by rw [hl]; decide)
              simp only [hv2, hv7] at hK ⊢
              rw [if_pos (by rfl)]
              have e2 : F.length = len := HLN.out
              obtain ⟨A4, c4, w', hrun, hO4, hg4, _⟩ := run_append_one W 29 29 PlR.good V.heap.size 54 iP _ 16 Tryz.underlying29 hiP hzP0 hzP1 hzP2 rfl (by omega) (.slice A3 F.length c3) F ((ya, yb) : Pl) hO3 ⟨g9, 0, none⟩ 1 [.int .i64 ya, .int .i64 yb] rfl (fun j v hv => blk_news2 hB7 hv) (by simp only [maxLen]; omega) (by omega) hC.size (fun h => h)
              refine wp_append_of_run rfl rfl rfl hrun ?_
              have hB2 : Below V.heap.size V w' := bl_grown hC hO3 hg4 (Nat.le_refl _) (Nat.le_refl _)
              refine hK _ _ ⟨hB2, fun i hi => ?_⟩
              have hb8 : updB ls 8 8 = true := by unfold updB; rw [if_pos rfl]
              rw [hb8]
              match i, hi with
              | 1, hi => exact hI.2 1 hi
              | 3, hi => exact hI.2 3 hi
              | 4, hi => exact hI.2 4 hi
              | 5, hi => exact hI.2 5 hi
              | 6, hi => exact hI.2 6 hi
              | 0, _ => exact .inl rfl
              | 2, _ => exact .inl rfl
              | 7, _ => exact .inl rfl
              | 8, _ => exact ⟨some ⟨A4, 0, none⟩, c4, rfl, hO4.slice PlR.good rfl (by simp only [maxLen]; omega) (fun _ h => h.elim) (fun k hk1 hk2 => hk1)⟩
              | _ + 9, _ => trivial
          case fin =>
            intro ls vs W hI hl hU
            clear hU
            have hC := hI.1
            have e8 := hI.2 8 (hl 8 (by decide))
            simp only [fillA, Act.put, List.setIfInBounds_toArray, List.set_cons_zero, List.set_cons_succ, Nat.zero_add, Nat.reduceAdd]
            obtain ⟨A7, c7, h8, hS7⟩ := e8
            rw [h8]
            obtain ⟨u0, hu0⟩ : ∃ v0, vs 0 = v0 := ⟨_, rfl⟩
            obtain ⟨u1, hu1⟩ : ∃ v0, vs 1 = v0 := ⟨_, rfl⟩
            obtain ⟨u2, hu2⟩ : ∃ v0, vs 2 = v0 := ⟨_, rfl⟩
            obtain ⟨u3, hu3⟩ : ∃ v0, vs 3 = v0 := ⟨_, rfl⟩
            obtain ⟨u4, hu4⟩ : ∃ v0, vs 4 = v0 := ⟨_, rfl⟩
            obtain ⟨u5, hu5⟩ : ∃ v0, vs 5 = v0 := ⟨_, rfl⟩
            obtain ⟨u6, hu6⟩ : ∃ v0, vs 6 = v0 := ⟨_, rfl⟩
            obtain ⟨u7, hu7⟩ : ∃ v0, vs 7 = v0 := ⟨_, rfl⟩
            rw [hu0, hu1, hu2, hu3, hu4, hu5, hu6, hu7]
            clear hu0 hu1 hu2 hu3 hu4 hu5 hu6 hu7
            clear h8 hI hl AS
            rw [HLN.out] at hS7
            rw [HLN.out]
            have HS7 : Hid (∀ V2, Below W.heap.size W V2 → Pls (fun _ => True) V2 A7 (len + 1) (F ++ [(ya, yb)])) := fun V2 hb => (hS7.keep PlR.good (Keeps.below hb)).mono PlR.good (fun _ _ => trivial)
            have HBW : Hid (Below V1.heap.size V1 W) := bl_call HBk.out hC (Nat.le_refl _)
            clear hS7 hC
            obtain ⟨V2, hV2⟩ : ∃ V2 : World, V2 = W := ⟨_, rfl⟩
            subst hV2
            have HBw2 : Hid (Below w.heap.size w V2) := bl_call HB1.out HBW.out (Nat.le_refl _)
            go_simp
            go_wp2_with fail
            refine (ronly7_any (but := F ++ [(ya, yb)]) V2 (HA.out V2 HBw2.out) (HM.out V2 HBw2.out) (HS7.out V2 (Below.refl _ _)) hn HL.out).mono ?_
            rintro e V3 ⟨⟨G2, g2, rfl, hG2, hcap2⟩, c3⟩
            obtain ⟨bB, oB, _, _, _, _, rfl, _, _, _, _⟩ := Ords.get hG2 hlt
            have HG2 := Lib.hid hG2
            have HB3 : Hid (Below V1.heap.size V1 V3) := bl_call HBW.out c3 (Nat.le_refl _)
            have HS3 : Hid (Pls (fun _ => True) V3 A7 (len + 1) (F ++ [(ya, yb)])) := HS7.out V3 c3
            clear hG2 c3
            have hw1 : IntKind.i64.wrap ((r : Int) + 1) = ((r + 1 : Nat) : Int) := by rw [IntKind.wrap_i64]; omega
            obtain ⟨r1, hr1⟩ : ∃ r1, r + 1 = r1 := ⟨_, rfl⟩
            have HR1 := Lib.hid hr1
            rw [hr1] at hw1 HQ
            have hr1n : r1 ≤ n := by omega
            have hr1i : (r1 : Int) ≤ n := by omega
            have hr1c : r1 ≤ g2 := by omega
            have hr1ci : (r1 : Int) ≤ g2 := by omega
            have hcapi : (n : Int) ≤ g2 := by omega
            clear hr1
            obtain ⟨A13, hA13⟩ : ∃ A, (if g2 = r1 then (some ⟨bB, oB, none⟩ : Option Addr) else some ⟨bB, oB + r1, none⟩) = A := ⟨_, rfl⟩
            have HDR : Hid (Ords (fun k => V2.heap.size ≤ k) V3 A13 (n - r1) ((onlyL all set (F ++ [(ya, yb)])).drop r1)) := ords_drop (k := r1) HG2.out hr1n (by rw [← hA13]; split; (right; omega); (left; rfl))
            go_wp2_with fail
            refine (rfewest7_any V3 HDR.out (by omega) (fun l hl => only40 HL.out _ _ l (List.mem_of_mem_drop hl))).mono ?_
            rintro e V4 ⟨⟨J1, j1, rfl, _⟩, c4⟩
            obtain ⟨lk, hlk⟩ : ∃ x, (fewestL ((onlyL all set (F ++ [(ya, yb)])).drop r1)).isSome = x := ⟨_, rfl⟩
            obtain ⟨jn, hjn⟩ : ∃ x, ((fewestL ((onlyL all set (F ++ [(ya, yb)])).drop r1)).getD []).length = x := ⟨_, rfl⟩
            rw [hlk, hjn]
            have hqa := HQ.out (ya, yb)
            have hqk : q (ya, yb) = !lk := by
              rw [← hqa, ← hlk]
              cases fewestL ((onlyL all set (F ++ [(ya, yb)])).drop r1) <;> rfl
            have HQK := Lib.hid hqk
            have HB4 : Hid (Below V1.heap.size V1 V4) := bl_call HB3.out c4 (Nat.le_refl _)
            have HS4 : Hid (Pls (fun _ => True) V4 A7 (len + 1) (F ++ [(ya, yb)])) := HS3.out.keep PlR.good (Keeps.below c4)
            clear hlk hjn hqa hqk c4
            cases lk with
            | false =>
              have HF2 : Hid (firstL all set (r + 1) = F ++ [(ya, yb)]) := by
                rw [Hid, HFS.out, find_at7 HNk.out Hy.out (by rw [HQK.out]; rfl)]
              have HBe : Hid (Below w.heap.size w V4) := bl_call HB1.out HB4.out (Nat.le_refl _)
              go_wp2_with fail
              go_roundw
              case rel => exact ⟨r + 1, len + 1, c7, A7, by omega, by rw [HR1.out], rfl, HBe.out, by rw [HF2.out]; exact HS4.out⟩
              case measure => have := HR1.out; simp [intOf]; omega
            | true =>
              have HN2 : Hid (∀ x ∈ L.take (k + 1), q x = false) := fun x hx => by
                rw [take_snoc_get Hy.out] at hx
                rcases List.mem_append.1 hx with hx | hx
                · exact HNk.out x hx
                · rw [List.mem_singleton] at hx; rw [hx, HQK.out]; rfl
              go_wp2_with fail
              go_roundw
              case rel => exact ⟨k + 1, by omega, by go_num, rfl, HB4.out, HN2.out⟩
              case measure => simp [intOf]; omega
        · obtain rfl : k = n1 := by omega
          have hki : ¬ (k : Int) < k := by omega
          have HF2 : Hid (firstL all set (r + 1) = F) := by
            have hnone : L.find? q = none := List.find?_eq_none.2 fun x hx => by
              rw [HNk.out x (by rw [List.take_of_length_le (by rw [HL1.out]; exact Nat.le_refl _)]; exact hx)]
              decide
            rw [Hid, HFS.out, hnone]
          have HBe : Hid (Below w.heap.size w wr) := bl_call HB1.out HBk.out (Nat.le_refl _)
          have HOe : Hid (Pls (fun _ => True) wr Ao len F) := HOs.out wr HBk.out
          go_wp2_with fail
          go_roundw
          case rel => exact ⟨r + 1, len, cap, Ao, by omega, by go_num, rfl, HBe.out, by rw [HF2.out]; exact HOe.out⟩
          case measure => simp [intOf]; omega
    · obtain rfl : r = n := by omega
      have hri : ¬ (r : Int) < r := by omega
      go_wp2_with fail
      go_ret
      exact ⟨⟨Ao, cap, by rw [HLN.out]; rfl, by rw [HLN.out]; exact HO.out⟩, HB.out⟩
end Go.Proofs.YtpdldmichpmgmaaGreat
