/- Walks: one round of the range over the widths and swells of a tile. -/
import Derived.Test.YtnaadjhiahjlfaaCTEnter0
set_option linter.unusedVariables false
set_option linter.unusedSimpArgs false
set_option linter.all false
namespace Go.Proofs.Ytnaadjhiahjlfaa
open Go.RowKit Go.Shelf
attribute [local go_sem] Oper.semAt_some

/-- the first range over a function in some code -/
def firstRF : Code → Option (Code × Code)
  | .rangeFunc _ _ a b => some (a, b)
  | .loop c => firstRF c
  | .seq a b => match firstRF a with
    | some c => some c
    | none => firstRF b
  | .block _ c => firstRF c
  | .scope c => firstRF c
  | .cond _ a b => match firstRF a with
    | some c => some c
    | none => firstRF b
  | _ => none
noncomputable def enterBody : Code × Code := (Try.f60.body.bind firstRF).getD (.skip, .skip)

/-- the widths so far of a tile, and whether there is one -/
def EnterJ (gw gm : Nat) (L : List (Int × Int)) (i : Nat) (O : Foot) (A : World) : Prop :=
  O = (fun k => k = gw ∨ k = gm) ∧ Blk A gw 162 (cellsF fun a => wideOf (L.take i) a) ∧ Blk A gm 4 #[.bool (decide (0 < i))]
theorem EnterJ.stay {gw gm : Nat} {L : List (Int × Int)} {i : Nat} {O : Foot} {A B : World} (h : EnterJ gw gm L i O A) (hK : Kept (fun k => ¬ O k) A B) : EnterJ gw gm L i O B := by
  obtain ⟨rfl, h1, h2⟩ := h
  exact ⟨rfl, (hK.block _ h1.lt (fun h => h (.inl rfl))).trans h1, (hK.block _ h2.lt (fun h => h (.inr rfl))).trans h2⟩
def mixF (new old : Nat → Int × Int) (j : Nat) : Nat → Int × Int := fun a => if a < j then new a else old a
theorem mixF_0 (new old : Nat → Int × Int) : mixF new old 0 = old := by funext a; simp [mixF]
theorem mixF_at (new old : Nat → Int × Int) (j : Nat) : mixF new old j j = old j := by simp [mixF]
theorem mixF_upd (new old : Nat → Int × Int) (j : Nat) : updF (mixF new old j) j (new j) = mixF new old (j + 1) := by
  funext a
  unfold updF mixF
  by_cases h : a = j
  · subst h; simp
  · rw [if_neg h]
    by_cases h2 : a < j
    · rw [if_pos h2, if_pos (by omega)]
    · rw [if_neg h2, if_neg (by omega)]
theorem updF_two (f : Nat → Int × Int) (j : Nat) (p q : Int × Int) : updF (updF f j p) j q = updF f j q := by
  funext a; unfold updF; by_cases h : a = j <;> simp [h]
theorem min_if (a b : Int) : (if b < a then b else a) = min a b := by split <;> omega
theorem max_if (a b : Int) : (if a < b then b else a) = max a b := by split <;> omega
theorem updF_at (f : Nat → Int × Int) (j : Nat) (p : Int × Int) : updF f j p j = p := by simp [updF]

set_option maxRecDepth 100000 in
set_option maxHeartbeats 4000000 in
theorem enter_round {n : Nat} {gw gm : Nat} (hne : gw ≠ gm) (L : List (Int × Int)) (hL : ∀ p ∈ L, 0 ≤ p.1 ∧ p.1 ≤ 20100 ∧ 0 ≤ p.2 ∧ p.2 ≤ 30) (O0 : Foot) (W0 : World) (c0 c1 c2 c3 c4 c5 c6 c7 c10 c11 c12 c13 c14 c15 c16 c17 c18 c19 c20 c21 c22 c23 c24 c25 c26 c27 c28 c29 c30 c31 c32 c33 c34 c35 c36 c37 c38 c39 c40 c41 c42 c43 c44 c45 c46 c47 c48 c49 c50 c51 c52 c53 c54 c55 c56 c57 c58 c59 c60 c61 c62 c63 c64 c65 c66 c67 c68 c69 c70 c71 c72 c73 c74 c75 c76 c77 c78 c79 c80 c81 c82 c83 c84 c85 c86 c87 : Value) :
    RoundOf Fence.wide n 1 Try.prog #[44, 45] enterBody.1 enterBody.2 #[c0, c1, c2, c3, c4, c5, c6, c7, .pointer (some ⟨gw, 0, none⟩), .pointer (some ⟨gm, 0, none⟩), c10, c11, c12, c13, c14, c15, c16, c17, c18, c19, c20, c21, c22, c23, c24, c25, c26, c27, c28, c29, c30, c31, c32, c33, c34, c35, c36, c37, c38, c39, c40, c41, c42, c43, c44, c45, c46, c47, c48, c49, c50, c51, c52, c53, c54, c55, c56, c57, c58, c59, c60, c61, c62, c63, c64, c65, c66, c67, c68, c69, c70, c71, c72, c73, c74, c75, c76, c77, c78, c79, c80, c81, c82, c83, c84, c85, c86, c87] O0 W0 (EnterJ gw gm L) (fun _ _ _ => False) (fun p : Int × Int => #[.int .i64 p.1, .int .i64 p.2]) L := by
  intro l i x O A hx ⟨hOe, h1, h2⟩ hlt hsub hK hnl hlA hWl
  obtain ⟨wd, sw⟩ := x
  obtain ⟨g1, g2, g3, g4⟩ := hL _ (List.mem_of_getElem? hx)
  dsimp only at g1 g2 g3 g4
  have HX := Lib.hid hx
  rw [fold2]
  simp only [List.setIfInBounds_toArray, List.set_cons_zero, List.set_cons_succ]
  conv => arg 4; whnf
  gi_wp2
  refine ⟨Kept.refl _ _, fun A2 hK2 hs2 _ => ?_⟩
  conv => arg 4; whnf
  have hOw : O gw := by rw [hOe]; exact .inl rfl
  have hOm : O gm := by rw [hOe]; exact .inr rfl
  have H1 : Blk A2 gw 162 (cellsF fun a => wideOf (L.take i) a) := (hK2.block _ h1.lt (fun h => hnl (h ▸ hOw))).trans h1
  have H2 : Blk A2 gm 4 #[.bool (decide (0 < i))] := (hK2.block _ h2.lt (fun h => hnl (h ▸ hOm))).trans h2
  obtain ⟨f0, hf0⟩ : ∃ f0 : Nat → Int × Int, (fun a : Nat => wideOf (L.take i) a) = f0 := ⟨_, rfl⟩
  obtain ⟨f1, hf1⟩ : ∃ f1 : Nat → Int × Int, (fun a : Nat => wideOf (L.take (i + 1)) a) = f1 := ⟨_, rfl⟩
  rw [hf0] at H1
  have HF0 : Hid (i = 0 → ∀ a : Nat, f1 a = (wd + sw * a, wd + sw * a)) := by
    intro h0 a
    subst h0
    rw [← hf1, take_snoc_get HX.out]; rfl
  have HFS : Hid (0 < i → ∀ a : Nat, f1 a = (min (f0 a).1 (wd + sw * a), max (f0 a).2 (wd + sw * a))) := by
    intro h0 a
    rw [← hf1, ← hf0]
    dsimp only
    rw [take_snoc_get HX.out]
    refine wideOf_snoc (fun h => ?_) _ _
    have e1 := congrArg List.length h
    have e2 := of_getq HX.out
    rw [List.length_take, List.length_nil] at e1
    omega
  have HF1 := Lib.hid hf1
  have HOE := Lib.hid hOe
  clear hx h1 h2 hK2 hf0 hf1 hOe
  gi_wp2
  gi_loopw [12, 13, 46] (fun _ _ i' wr => ∃ j : Nat, i' = .int .i64 j ∧ j ≤ 41 ∧ Hid (Kept (fun k => k = gw) A2 wr) ∧ Hid (Blk wr gw 162 (cellsF (mixF f1 f0 j)))) (fun _ _ i' _ => 41 - (intOf i').toNat)
  case atStart => exact ⟨0, rfl, by omega, Kept.refl _ _, by rw [Hid, mixF_0]; exact H1⟩
  case round =>
    obtain ⟨j, rfl, hj, HK3, HB⟩ := hrel
    have hm2 : Blk wr gm 4 #[.bool (decide (0 < i))] := (HK3.out.block _ H2.lt (fun h => hne h.symm)).trans H2
    by_cases hlt : j < 41
    · have hji : (j : Int) < 41 := by omega
      have hm1 : 0 ≤ sw * (j : Int) := Int.mul_nonneg g3 (by omega)
      have hm3 : sw * (j : Int) ≤ 30 * 40 := Int.mul_le_mul g4 (by omega) (by omega) (by decide)
      have hx1 : IntKind.i64.wrap (sw * (j : Int)) = sw * (j : Int) := by rw [IntKind.wrap_i64]; omega
      obtain ⟨nn, hnn⟩ : ∃ nn : Int, wd + sw * (j : Int) = nn := ⟨_, rfl⟩
      have hx2 : IntKind.i64.wrap (wd + sw * (j : Int)) = nn := by rw [hnn, IntKind.wrap_i64]; omega
      have HN := Lib.hid hnn
      have hnb : 0 ≤ nn ∧ nn ≤ 30000 := by omega
      clear hnn
      have m0 := hm2.cell 0
      by_cases h0 : 0 < i
      · have hd : decide (0 < i) = true := decide_eq_true h0
        have Hi := Lib.hid h0
        rw [hd] at m0
        clear hd h0
        gi_wp2_with fail
        clear m0
        obtain ⟨wq, hwq⟩ : ∃ wq, wq = wr := ⟨_, rfl⟩
        obtain ⟨fq, hfq⟩ : ∃ fq, mixF f1 f0 j = fq := ⟨_, rfl⟩
        have HQ : Hid (Blk wq gw 162 (cellsF fq)) := by rw [Hid, hwq, ← hfq]; exact HB.out
        have HKq : Hid (Kept (fun k => k = gw) A2 wq) := by rw [Hid, hwq]; exact HK3.out
        have HFQ : updF fq j (min (fq j).1 nn, max (fq j).2 nn) = mixF f1 f0 (j + 1) := by
          rw [← hfq, mixF_at, ← HN.out, ← HFS.out Hi.out j, mixF_upd]
        rw [← hwq]
        clear hwq hfq hm2
        obtain ⟨p1, p2, hp⟩ : ∃ p1 p2, fq j = (p1, p2) := ⟨_, _, rfl⟩
        have q0 := HQ.out.cell (j * 2)
        have q1 := HQ.out.cell (j * 2 + 1)
        rw [cellsF_lo _ hlt, hp] at q0
        rw [cellsF_hi _ hlt, hp] at q1
        rw [hp] at HFQ
        dsimp only at q0 q1 HFQ
        clear hp
        have Q0 := Lib.hid q0
        have Q1 := Lib.hid q1
        have hmin := min_if p1 nn
        have hmax := max_if p2 nn
        clear q0 q1
        refine wpIn_region_list1 (F := Fence.wide.inRound l) (r := some l) rfl (fun W => Below wq.heap.size wq W) (fun w w' => Below w.heap.size w w')
          [isV (.int .i64 j), isV (.int .i64 j), isV (.pointer (some ⟨gw, j * 2, none⟩)), isV (.pointer (some ⟨gw, j * 2, none⟩)), isV (.int .i64 p1), isV (.int .i64 nn), isV (.int .i64 (min p1 nn)), isV (.int .i64 j), isV (.pointer (some ⟨gw, j * 2, none⟩)), isV (.pointer (some ⟨gw, j * 2 + 1, none⟩)), isV (.int .i64 p2), isV (.int .i64 nn), isV (.int .i64 (max p2 nn)), isV (.agg #[.int .i64 (min p1 nn), .int .i64 (max p2 nn)]), isV (.pointer (some ⟨gw, j * 2, none⟩))]
          (by kernel_rfl) (by kernel_rfl) (by kernel_rfl) (by simp) (by simp) (Below.refl _ _).drew ?stab ?step ?fin
        case stab => exact StabL.is (StabL.is (StabL.is (StabL.is (StabL.is (StabL.is (StabL.is (StabL.is (StabL.is (StabL.is (StabL.is (StabL.is (StabL.is (StabL.is (StabL.is StabL.nil))))))))))))))
        case step =>
          refine StepsL.is ?_ (StepsL.is ?_ (StepsL.is ?_ (StepsL.is ?_ (StepsL.is ?_ (StepsL.is ?_ (StepsL.is ?_ (StepsL.is ?_ (StepsL.is ?_ (StepsL.is ?_ (StepsL.is ?_ (StepsL.is ?_ (StepsL.is ?_ (StepsL.is ?_ (StepsL.is ?_ StepsL.nil))))))))))))))
          all_goals
            intro vs W K hC hD hU hK
            simp only [fillA, Act.put, List.setIfInBounds_toArray, List.set_cons_zero, List.set_cons_succ, Nat.zero_add, Nat.reduceAdd] at hK ⊢
            simp [waits, Region.binds] at hD
            try simp only [envOf, List.getD_cons_succ, List.getD_cons_zero, isV] at hD
          all_goals ((try simp only [hD] at hK ⊢); have k1 := getc hC Q0.out; have k2 := getc hC Q1.out; go_simp; exact hK _ hC (Below.refl _ _))
        case fin =>
          intro vs W hC hE hU
          have e13 := hE 13 (by simp)
          have e14 := hE 14 (by simp)
          simp only [envOf, List.getD_cons_succ, List.getD_cons_zero, isV] at e13 e14
          have hB4 := HQ.out.bl hC
          have k1 := getc hC Q0.out
          have k2 := getc hC Q1.out
          have fr0 := hB4.frozen (j * 2)
          have fr1 := hB4.frozen (j * 2 + 1)
          have hgl := hB4.lt
          have HB4 := Lib.hid hB4
          have HC := Lib.hid hC
          simp only [fillA, Act.put, List.setIfInBounds_toArray, List.set_cons_zero, List.set_cons_succ, Nat.zero_add, Nat.reduceAdd, e13, e14]
          clear e13 e14 hE hU hC hB4
          simp [Region.wanted, yielded]
          go_simp
          gi_wp2
          refine ⟨⟨j + 1, by go_num, by omega, ((HKq.out.trans (Kept.of_bl HC.out)).trans (Kept.setCell _ _ _ rfl)).trans (Kept.setCell _ _ _ rfl), ?_⟩, by simp [intOf]; omega⟩
          have h5 := (HB4.out.set_ (j * 2) (.int .i64 (min p1 nn))).set_ (j * 2 + 1) (.int .i64 (max p2 nn))
          rw [cellsF_set _ hlt, HFQ] at h5
          exact h5
      · have hd : decide (0 < i) = false := decide_eq_false h0
        have Hi := Lib.hid h0
        rw [hd] at m0
        clear hd h0
        have b0 := HB.out.cell (j * 2)
        have b1 := HB.out.cell (j * 2 + 1)
        rw [cellsF_lo _ hlt] at b0
        rw [cellsF_hi _ hlt] at b1
        have fr0 := HB.out.frozen (j * 2)
        have fr1 := HB.out.frozen (j * 2 + 1)
        have hgl := HB.out.lt
        gi_wp2_with fail
        clear m0 b0 b1 fr0 fr1 hgl
        obtain ⟨wq, hwq⟩ : ∃ wq, (wr.setCell ⟨gw, j * 2, none⟩ (.int .i64 nn)).setCell ⟨gw, j * 2 + 1, none⟩ (.int .i64 nn) = wq := ⟨_, rfl⟩
        obtain ⟨fq, hfq⟩ : ∃ fq, updF (mixF f1 f0 j) j (nn, nn) = fq := ⟨_, rfl⟩
        have HQ : Hid (Blk wq gw 162 (cellsF fq)) := by
          rw [Hid, ← hwq, ← hfq, ← cellsF_set _ hlt]; exact (HB.out.set_ _ _).set_ _ _
        have HKq : Hid (Kept (fun k => k = gw) A2 wq) := by rw [Hid, ← hwq]; exact (HK3.out.trans (Kept.setCell _ _ _ rfl)).trans (Kept.setCell _ _ _ rfl)
        have HFQ : updF fq j (min (fq j).1 nn, max (fq j).2 nn) = mixF f1 f0 (j + 1) := by
          rw [← hfq, updF_at, updF_two, ← mixF_upd f1 f0 j, HF0.out (by have := Hi.out; omega) j, HN.out]
          simp
        rw [hwq]
        clear hwq hfq hm2
        obtain ⟨p1, p2, hp⟩ : ∃ p1 p2, fq j = (p1, p2) := ⟨_, _, rfl⟩
        have q0 := HQ.out.cell (j * 2)
        have q1 := HQ.out.cell (j * 2 + 1)
        rw [cellsF_lo _ hlt, hp] at q0
        rw [cellsF_hi _ hlt, hp] at q1
        rw [hp] at HFQ
        dsimp only at q0 q1 HFQ
        clear hp
        have Q0 := Lib.hid q0
        have Q1 := Lib.hid q1
        have hmin := min_if p1 nn
        have hmax := max_if p2 nn
        clear q0 q1
        refine wpIn_region_list1 (F := Fence.wide.inRound l) (r := some l) rfl (fun W => Below wq.heap.size wq W) (fun w w' => Below w.heap.size w w')
          [isV (.int .i64 j), isV (.int .i64 j), isV (.pointer (some ⟨gw, j * 2, none⟩)), isV (.pointer (some ⟨gw, j * 2, none⟩)), isV (.int .i64 p1), isV (.int .i64 nn), isV (.int .i64 (min p1 nn)), isV (.int .i64 j), isV (.pointer (some ⟨gw, j * 2, none⟩)), isV (.pointer (some ⟨gw, j * 2 + 1, none⟩)), isV (.int .i64 p2), isV (.int .i64 nn), isV (.int .i64 (max p2 nn)), isV (.agg #[.int .i64 (min p1 nn), .int .i64 (max p2 nn)]), isV (.pointer (some ⟨gw, j * 2, none⟩))]
          (by kernel_rfl) (by kernel_rfl) (by kernel_rfl) (by simp) (by simp) (Below.refl _ _).drew ?stab ?step ?fin
        case stab => exact StabL.is (StabL.is (StabL.is (StabL.is (StabL.is (StabL.is (StabL.is (StabL.is (StabL.is (StabL.is (StabL.is (StabL.is (StabL.is (StabL.is (StabL.is StabL.nil))))))))))))))
        case step =>
          refine StepsL.is ?_ (StepsL.is ?_ (StepsL.is ?_ (StepsL.is ?_ (StepsL.is ?_ (StepsL.is ?_ (StepsL.is ?_ (StepsL.is ?_ (StepsL.is ?_ (StepsL.is ?_ (StepsL.is ?_ (StepsL.is ?_ (StepsL.is ?_ (StepsL.is ?_ (StepsL.is ?_ StepsL.nil))))))))))))))
          all_goals
            intro vs W K hC hD hU hK
            simp only [fillA, Act.put, List.setIfInBounds_toArray, List.set_cons_zero, List.set_cons_succ, Nat.zero_add, Nat.reduceAdd] at hK ⊢
            simp [waits, Region.binds] at hD
            try simp only [envOf, List.getD_cons_succ, List.getD_cons_zero, isV] at hD
          all_goals ((try simp only [hD] at hK ⊢); have k1 := getc hC Q0.out; have k2 := getc hC Q1.out; go_simp; exact hK _ hC (Below.refl _ _))
        case fin =>
          intro vs W hC hE hU
          have e13 := hE 13 (by simp)
          have e14 := hE 14 (by simp)
          simp only [envOf, List.getD_cons_succ, List.getD_cons_zero, isV] at e13 e14
          have hB4 := HQ.out.bl hC
          have k1 := getc hC Q0.out
          have k2 := getc hC Q1.out
          have fr0 := hB4.frozen (j * 2)
          have fr1 := hB4.frozen (j * 2 + 1)
          have hgl := hB4.lt
          have HB4 := Lib.hid hB4
          have HC := Lib.hid hC
          simp only [fillA, Act.put, List.setIfInBounds_toArray, List.set_cons_zero, List.set_cons_succ, Nat.zero_add, Nat.reduceAdd, e13, e14]
          clear e13 e14 hE hU hC hB4
          simp [Region.wanted, yielded]
          go_simp
          gi_wp2
          refine ⟨⟨j + 1, by go_num, by omega, ((HKq.out.trans (Kept.of_bl HC.out)).trans (Kept.setCell _ _ _ rfl)).trans (Kept.setCell _ _ _ rfl), ?_⟩, by simp [intOf]; omega⟩
          have h5 := (HB4.out.set_ (j * 2) (.int .i64 (min p1 nn))).set_ (j * 2 + 1) (.int .i64 (max p2 nn))
          rw [cellsF_set _ hlt, HFQ] at h5
          exact h5
    · obtain rfl : j = 41 := by omega
      have m0 := hm2.cell 0
      have fr := hm2.frozen 0
      have hgl := hm2.lt
      have HM := Lib.hid hm2
      clear hm2
      gi_wp2
      refine ⟨(HK3.out.mono fun k _ h => h ▸ hOw).trans (Kept.setCell _ _ _ hOm), O, fun k h => .inl h, HOE.out, ?_, ?_⟩
      · rw [HF1.out, cellsF_ext (f := f1) (g := mixF f1 f0 41) (fun a ha => by simp [mixF, ha])]
        exact HB.out.far hne _
      · rw [decide_eq_true (Nat.succ_pos i)]; exact HM.out.set_ 0 _

end Go.Proofs.Ytnaadjhiahjlfaa
