/- A part of the proof that TopLaid always answers true. -/
import Derived.Test.YtdbfincinjoppaaGreatCMaps2
import Derived.Test.YtdbfincinjoppaaGreatCTSeen
set_option linter.all false
namespace Go.Proofs.YtdbfincinjoppaaGreat
open Go.RowKit Go.Shelf
def wideV (h : Hall) (l : List Seen) (t : Nat) : Value := .agg (cellsF fun a => wide8 h l t a)
def knownV (h : Hall) (l : List Seen) (k : Nat) : List Value := (List.range k).map (wideV h l)
theorem knownV_succ (h : Hall) (l : List Seen) (k : Nat) : knownV h l (k + 1) = knownV h l k ++ [wideV h l k] := by unfold knownV; rw [List.range_succ, List.map_append]; rfl
theorem knownV_len (h : Hall) (l : List Seen) (k : Nat) : (knownV h l k).length = k := by simp [knownV]
theorem knownV_get (h : Hall) (l : List Seen) {k t : Nat} (ht : t < k) : (knownV h l k)[t]? = some (wideV h l t) := by simp [knownV, ht]
theorem seen_zero {h : Hall} {l : List Seen} (e : (seen8 h l).2 = 0) : (check8 h).2.2 = 0 ∧ l.length ≤ 6 ∧ ∀ k, k < l.length → seenE h.tiles.length l k = 0 := by
 by_cases h1 : err8 h = 0
 ·by_cases h2 : 6 < l.length
  ·rw [seen8_long h1 h2] at e; cases e
  rw [seen8_n h1 h2] at e
  rcases firstErr_cases (seenE h.tiles.length l) l.length with ⟨_, h3⟩ | ⟨k, _, h4, h5, _⟩
  ·exact ⟨h1, by omega, h3⟩
  rw [h4] at e; exact absurd e h5
 rw [seen8_bad h1] at e; exact absurd e h1
theorem seen_one {nt : Nat} {l : List Seen} {k : Nat} {y : Seen} (h : l[k]? = some y) (e : seenE nt l k = 0) : (0 ≤ y.tile ∧ y.tile < nt) ∧ (0 ≤ y.air ∧ y.air ≤ 40) ∧ 0 ≤ y.lo ∧ y.lo ≤ y.hi ∧ y.hi ≤ 40000 := by
 unfold seenE at e
 rw [getD_of h] at e
 dsimp only at e
 split at e
 ·cases e
 split at e
 ·cases e
 split at e
 ·cases e
 rename_i g1 g2 g3
 simp [inB] at g1 g2
 omega
structure OkH (h : Hall) : Prop where
 air : 0 ≤ h.alo ∧ h.alo ≤ h.ahi ∧ h.ahi ≤ h.alo + 12 ∧ h.ahi ≤ 40
 most : 0 ≤ h.most ∧ h.most ≤ 20000
 nt : 1 ≤ h.tiles.length ∧ h.tiles.length ≤ 8
 nr : 1 ≤ h.rows.length ∧ h.rows.length ≤ 3
 tile : ∀ {k : Nat}, k < h.tiles.length → tileE h.tiles k = 0
 row : ∀ {k : Nat}, k < h.rows.length → rowE h.tiles.length h.rows k = 0
theorem okH_of {h : Hall} (e : (check8 h).2.2 = 0) : OkH h := by
 unfold check8 at e
 split at e
 ·cases e
 split at e
 ·cases e
 split at e
 ·cases e
 rename_i g1 g2 g3
 simp [inB] at g1 g2
 rcases firstErr_cases (tileE h.tiles) h.tiles.length with ⟨h4, h5⟩ | ⟨k, _, h4, h5, _⟩
 ·rw [h4] at e
  dsimp only at e
  rcases firstErr_cases (rowE h.tiles.length h.rows) h.rows.length with ⟨h6, h7⟩ | ⟨k, _, h6, h7, _⟩
  ·exact ⟨by omega, by omega, by omega, by omega, fun hk => h5 _ hk, fun hk => h7 _ hk⟩
  rw [h6] at e; exact absurd e h7
 rw [h4] at e; exact absurd e h5
theorem twos_bd {h : Hall} {l : List Seen} {t : Nat} (hk : OkH h) (ht : t < h.tiles.length) {p : Int × Int} (hp : p ∈ twosL h l t) : 0 ≤ p.1 ∧ p.1 ≤ 20100 ∧ 0 ≤ p.2 ∧ p.2 ≤ 30 := by
 have hx : h.tiles[t]? = some h.tiles[t] := List.getElem?_eq_getElem ht
 have hz := tileE_zero hx (hk.tile ht)
 unfold twosL twosK at hp
 rw [getD_of hx] at hp
 obtain ⟨hm, _⟩ := List.mem_filter.1 hp
 obtain ⟨k, hk2, rfl⟩ := List.mem_map.1 hm
 have hk3 := List.mem_range.1 hk2
 generalize h.tiles[t] = x at *
 have hs : 0 < swellN x := by unfold swellN; omega
 have hd : k / swellN x < wideN x := by rw [Nat.mul_comm] at hk3; exact Nat.div_lt_of_lt_mul hk3
 have hm2 : k % swellN x < swellN x := Nat.mod_lt _ hs
 unfold pairN
 dsimp only
 generalize k / swellN x = d at *
 generalize k % swellN x = e at *
 unfold wideN at hd
 unfold swellN at hm2
 omega
theorem wideOf_snoc {l : List (Int × Int)} (hl : l ≠ []) (p : Int × Int) (a : Int) : wideOf (l ++ [p]) a = (min (wideOf l a).1 (p.1 + p.2 * a), max (wideOf l a).2 (p.1 + p.2 * a)) := by
 unfold wideOf
 rw [List.map_append]
 exact endsOf_snoc (by simpa using hl) _
def markD (D : Nat) : Deferred := { target := .collected D, args := #[] }
theorem leaves_marks {F : Fence} {n : Nat} {P : Program} {fn : Func} {tmps : Array Value} {R : Ending → World → Prop} : ∀ (ds : List Nat) (w : World), (∀ D ∈ ds, w.heap[D]? = some (.deferred (some []))) → ds.Nodup →
  (∀ w', Kept (fun k => k ∈ ds) w w' → w'.heap.size = w.heap.size → ∃ v, (results fn tmps).run P w' = .ok v w' ∧ R (.returned v) w') → LeavesInM F n P fn tmps R (ds.map markD) .returning w := by
 intro ds
 induction ds with
 | nil => intro w _ _ h; exact h w (Kept.refl _ _) rfl
 | cons D ds ih =>
  intro w hw hd h
  rw [List.nodup_cons] at hd
  refine ⟨by simp, .inl ⟨D, _, rfl, run_takeDeferred (hw D List.mem_cons_self), ?_⟩⟩
  refine ih _ (fun E hE => ?_) hd.2 (fun w' hK hs => ?_)
  ·have hne : E ≠ D := fun e => hd.1 (e ▸ hE)
   rw [World.putObj_heap_other hne]
   exact hw E (List.mem_cons_of_mem _ hE)
  refine h w' ((Kept.putObj (M := fun k => k ∈ D :: ds) w D _ List.mem_cons_self).trans (hK.mono fun k _ hk => List.mem_cons_of_mem _ hk)) (by rw [hs]; simp)
theorem truths_call (gh t : Nat) (w : World) : Calls Tryz.prog 75 #[.pointer (some ⟨gh, 0, none⟩), .int .i64 t] w fun e w' =>
  e = .returned (.func (.func 107) #[] #[.pointer (some ⟨w.heap.size, 0, none⟩), .pointer (some ⟨w.heap.size + 1, 0, none⟩)]) ∧ w' = (w.alloc (.cells #[.pointer (some ⟨gh, 0, none⟩)] 111)).alloc (.cells #[.int .i64 t] 3) := by
 go_enter Tryz.func75, Tryz.ntmps75
 go_wp2
 go_ret
 exact ⟨rfl, rfl⟩
theorem HallAt.bound {S : Foot} {w : World} {A B : Option Addr} {n m : Nat} {h : Hall} (g : HallAt S w A n B m h) : HallAt (fun k => S k ∧ k < w.heap.size) w A n B m h := ⟨g.ts.bound TileR.good, g.rs.bound RowR.good⟩
theorem fold2 (p q : Tmp) (v u : Value) (t : Array Value) : ((#[p, q] : Array Tmp).zip #[v, u]).foldl (fun t (p, v) => t.setIfInBounds p v) t = (t.setIfInBounds p v).setIfInBounds q u := by simp
theorem zeros82 : Tryz.zeroCells136 = cellsF (fun _ => (0, 0)) := by kernel_rfl
open Go.RowKit Go.Shelf
attribute [local go_sem] Oper.semAt_some
noncomputable def enterBody : Code × Code := (Tryz.f45.body.bind firstRF).getD (.skip, .skip)
def EnterJ (gw gm : Nat) (L : List (Int × Int)) (i : Nat) (O : Foot) (A : World) : Prop :=
 O = (fun k => k = gw ∨ k = gm) ∧ Blk A gw 136 (cellsF fun a => wideOf (L.take i) a) ∧ Blk A gm 4 #[.bool (decide (0 < i))]
theorem EnterJ.stay {gw gm : Nat} {L : List (Int × Int)} {i : Nat} {O : Foot} {A B : World} (h : EnterJ gw gm L i O A) (hK : Kept (fun k => ¬ O k) A B) : EnterJ gw gm L i O B := by
 obtain ⟨rfl, h1, h2⟩ := h
 exact ⟨rfl, (hK.block _ h1.lt (fun h => h (.inl rfl))).trans h1, (hK.block _ h2.lt (fun h => h (.inr rfl))).trans h2⟩
theorem mixF_0 (new old : Nat → Int × Int) : mixF new old 0 = old := by funext a; simp [mixF]
theorem updF_two (f : Nat → Int × Int) (j : Nat) (p q : Int × Int) : updF (updF f j p) j q = updF f j q := by
 funext a; unfold updF; by_cases h : a = j <;> simp [h]
theorem updF_at (f : Nat → Int × Int) (j : Nat) (p : Int × Int) : updF f j p j = p := by simp [updF]
set_option maxRecDepth 100000 in
set_option maxHeartbeats 4000000 in
theorem enter_round {n : Nat} {gw gm : Nat} (hne : gw ≠ gm) (L : List (Int × Int)) (hL : ∀ p ∈ L, 0 ≤ p.1 ∧ p.1 ≤ 20100 ∧ 0 ≤ p.2 ∧ p.2 ≤ 30) (O0 : Foot) (W0 : World) (c0 c1 c2 c3 c4 c5 c6 c7 c10 c11 c12 c13 c14 c15 c16 c17 c18 c19 c20 c21 c22 c23 c24 c25 c26 c27 c28 c29 c30 c31 c32 c33 c34 c35 c36 c37 c38 c39 c40 c41 c42 c43 c44 c45 c46 c47 c48 c49 c50 c51 c52 c53 c54 c55 c56 c57 c58 c59 c60 c61 c62 c63 c64 c65 c66 c67 c68 c69 c70 c71 c72 c73 c74 c75 c76 c77 c78 c79 c80 c81 c82 c83 c84 c85 c86 c87 : Value) :
  RoundOf Fence.wide n 1 Tryz.prog #[44, 45] enterBody.1 enterBody.2 #[c0, c1, c2, c3, c4, c5, c6, c7, .pointer (some ⟨gw, 0, none⟩), .pointer (some ⟨gm, 0, none⟩), c10, c11, c12, c13, c14, c15, c16, c17, c18, c19, c20, c21, c22, c23, c24, c25, c26, c27, c28, c29, c30, c31, c32, c33, c34, c35, c36, c37, c38, c39, c40, c41, c42, c43, c44, c45, c46, c47, c48, c49, c50, c51, c52, c53, c54, c55, c56, c57, c58, c59, c60, c61, c62, c63, c64, c65, c66, c67, c68, c69, c70, c71, c72, c73, c74, c75, c76, c77, c78, c79, c80, c81, c82, c83, c84, c85, c86, c87] O0 W0 (EnterJ gw gm L) (fun _ _ _ => False) (fun p : Int × Int => #[.int .i64 p.1, .int .i64 p.2]) L := by
 intro l i x O A hx ⟨hOe, h1, h2⟩ hlt hsub hK hnl hlA hWl
 obtain ⟨wd, sw⟩ := x
 obtain ⟨g1, g2, g3, g4⟩ := hL _ (List.mem_of_getElem? hx)
 dsimp only at g1 g2 g3 g4
 have HX := Lib.hid hx
 rw [fold2]
 simp only [List.setIfInBounds_toArray, List.set_cons_zero, List.set_cons_succ]
 conv => arg 4; whnf
 gi_wp2
 refine ⟨Kept.refl _ _, fun A2 hK2 hs2 _ => ?_⟩
 conv => arg 4; whnf
 have hOw : O gw := by rw [hOe]; exact .inl rfl
 have hOm : O gm := by rw [hOe]; exact .inr rfl
 have H1 : Blk A2 gw 136 (cellsF fun a => wideOf (L.take i) a) := (hK2.block _ h1.lt (fun h => hnl (h ▸ hOw))).trans h1
 have H2 : Blk A2 gm 4 #[.bool (decide (0 < i))] := (hK2.block _ h2.lt (fun h => hnl (h ▸ hOm))).trans h2
 obtain ⟨f0, hf0⟩ : ∃ f0 : Nat → Int × Int, (fun a : Nat => wideOf (L.take i) a) = f0 := ⟨_, rfl⟩
 obtain ⟨f1, hf1⟩ : ∃ f1 : Nat → Int × Int, (fun a : Nat => wideOf (L.take (i + 1)) a) = f1 := ⟨_, rfl⟩
 rw [hf0] at H1
 have HF0 : Hid (i = 0 → ∀ a : Nat, f1 a = (wd + sw * a, wd + sw * a)) := by
  intro h0 a
  subst h0
  rw [← hf1, take_snoc_get HX.out]; rfl
 have HFS : Hid (0 < i → ∀ a : Nat, f1 a = (min (f0 a).1 (wd + sw * a), max (f0 a).2 (wd + sw * a))) := by
  intro h0 a
  rw [← hf1, ← hf0]
  dsimp only
  rw [take_snoc_get HX.out]
  refine wideOf_snoc (fun h => ?_) _ _
  have e1 := congrArg List.length h
  have e2 := of_getq HX.out
  rw [List.length_take, List.length_nil] at e1
  omega
 have HF1 := Lib.hid hf1
 have HOE := Lib.hid hOe
 clear hx h1 h2 hK2 hf0 hf1 hOe
 gi_wp2
 gi_loopw [12, 13, 46] (fun _ _ i' wr => ∃ j : Nat, i' = .int .i64 j ∧ j ≤ 41 ∧ Hid (Kept (fun k => k = gw) A2 wr) ∧ Hid (Blk wr gw 136 (cellsF (mixF f1 f0 j)))) (fun _ _ i' _ => 41 - (intOf i').toNat)
 case atStart => exact ⟨0, rfl, by omega, Kept.refl _ _, by rw [Hid, mixF_0]; exact H1⟩
 case round =>
  obtain ⟨j, rfl, hj, HK3, HB⟩ := hrel
  have hm2 : Blk wr gm 4 #[.bool (decide (0 < i))] := (HK3.out.block _ H2.lt (fun h => hne h.symm)).trans H2
  by_cases hlt : j < 41
  ·have hji : (j : Int) < 41 := by omega
   have hm1 : 0 ≤ sw * (j : Int) := Int.mul_nonneg g3 (by omega)
   have hm3 : sw * (j : Int) ≤ 30 * 40 := Int.mul_le_mul g4 (by omega) (by omega) (by decide)
   have hx1 : IntKind.i64.wrap (sw * (j : Int)) = sw * (j : Int) := by rw [IntKind.wrap_i64]; omega
   obtain ⟨nn, hnn⟩ : ∃ nn : Int, wd + sw * (j : Int) = nn := ⟨_, rfl⟩
   have hx2 : IntKind.i64.wrap (wd + sw * (j : Int)) = nn := by rw [hnn, IntKind.wrap_i64]; omega
   have HN := Lib.hid hnn
   have hnb : 0 ≤ nn ∧ nn ≤ 30000 := by omega
   clear hnn
   have m0 := hm2.cell 0
   by_cases h0 : 0 < i
   ·have hd : decide (0 < i) = true := decide_eq_true h0
    have Hi := Lib.hid h0
    rw [hd] at m0
    clear hd h0
    gi_wp2_with fail
    clear m0
    obtain ⟨wq, hwq⟩ : ∃ wq, wq = wr := ⟨_, rfl⟩
    obtain ⟨fq, hfq⟩ : ∃ fq, mixF f1 f0 j = fq := ⟨_, rfl⟩
    have HQ : Hid (Blk wq gw 136 (cellsF fq)) := by rw [Hid, hwq, ← hfq]; exact HB.out
    have HKq : Hid (Kept (fun k => k = gw) A2 wq) := by rw [Hid, hwq]; exact HK3.out
    have HFQ : updF fq j (min (fq j).1 nn, max (fq j).2 nn) = mixF f1 f0 (j + 1) := by
     rw [← hfq, mixF_at, ← HN.out, ← HFS.out Hi.out j, mixF_upd]
    rw [← hwq]
    clear hwq hfq hm2
    obtain ⟨p1, p2, hp⟩ : ∃ p1 p2, fq j = (p1, p2) := ⟨_, _, rfl⟩
    have q0 := HQ.out.cell (j * 2)
    have q1 := HQ.out.cell (j * 2 + 1)
    rw [cellsF_lo _ hlt, hp] at q0
    rw [cellsF_hi _ hlt, hp] at q1
    rw [hp] at HFQ
    dsimp only at q0 q1 HFQ
    clear hp
    have Q0 := Lib.hid q0
    have Q1 := Lib.hid q1
    have hmin := min_if p1 nn
    have hmax := max_if p2 nn
    clear q0 q1
    refine wpIn_region_list1 (F := Fence.wide.inRound l) (r := some l) rfl (fun W => Below wq.heap.size wq W) (fun w w' => Below w.heap.size w w')
     [isV (.int .i64 j), isV (.int .i64 j), isV (.pointer (some ⟨gw, j * 2, none⟩)), isV (.pointer (some ⟨gw, j * 2, none⟩)), isV (.int .i64 p1), isV (.int .i64 nn), isV (.int .i64 (min p1 nn)), isV (.int .i64 j), isV (.pointer (some ⟨gw, j * 2, none⟩)), isV (.pointer (some ⟨gw, j * 2 + 1, none⟩)), isV (.int .i64 p2), isV (.int .i64 nn), isV (.int .i64 (max p2 nn)), isV (.agg #[.int .i64 (min p1 nn), .int .i64 (max p2 nn)]), isV (.pointer (some ⟨gw, j * 2, none⟩))]
     (by kernel_rfl) (by kernel_rfl) (by kernel_rfl) (by simp) (by simp) (Below.refl _ _).drew ?stab ?step ?fin
    case stab => exact StabL.is (StabL.is (StabL.is (StabL.is (StabL.is (StabL.is (StabL.is (StabL.is (StabL.is (StabL.is (StabL.is (StabL.is (StabL.is (StabL.is (StabL.is StabL.nil))))))))))))))
    case step =>
     refine StepsL.is ?_ (StepsL.is ?_ (StepsL.is ?_ (StepsL.is ?_ (StepsL.is ?_ (StepsL.is ?_ (StepsL.is ?_ (StepsL.is ?_ (StepsL.is ?_ (StepsL.is ?_ (StepsL.is ?_ (StepsL.is ?_ (StepsL.is ?_ (StepsL.is ?_ (StepsL.is ?_ StepsL.nil))))))))))))))
     all_goals
      intro vs W K hC hD hU hK
      simp only [fillA, Act.put, List.setIfInBounds_toArray, List.set_cons_zero, List.set_cons_succ, Nat.zero_add, Nat.reduceAdd] at hK ⊢
      simp [waits, Region.binds] at hD
      try simp only [envOf, List.getD_cons_succ, List.getD_cons_zero, isV] at hD
     all_goals ((try simp only [hD] at hK ⊢); have k1 := getc hC Q0.out; have k2 := getc hC Q1.out; go_simp; exact hK _ hC (Below.refl _ _))
    case fin =>
     intro vs W hC hE hU
     have e13 := hE 13 (by simp)
     have e14 := hE 14 (by simp)
     simp only [envOf, List.getD_cons_succ, List.getD_cons_zero, isV] at e13 e14
     have hB4 := HQ.out.bl hC
     have k1 := getc hC Q0.out
     have k2 := getc hC Q1.out
     have fr0 := hB4.frozen (j * 2)
     have fr1 := hB4.frozen (j * 2 + 1)
     have hgl := hB4.lt
     have HB4 := Lib.hid hB4
     have HC := Lib.hid hC
     simp only [fillA, Act.put, List.setIfInBounds_toArray, List.set_cons_zero, List.set_cons_succ, Nat.zero_add, Nat.reduceAdd, e13, e14]
     clear e13 e14 hE hU hC hB4
     simp [Region.wanted, yielded]
     go_simp
     gi_wp2
     refine ⟨⟨j + 1, by go_num, by omega, ((HKq.out.trans (Kept.of_bl HC.out)).trans (Kept.setCell _ _ _ rfl)).trans (Kept.setCell _ _ _ rfl), ?_⟩, by simp [intOf]; omega⟩
     have h5 := (HB4.out.set_ (j * 2) (.int .i64 (min p1 nn))).set_ (j * 2 + 1) (.int .i64 (max p2 nn))
     rw [cellsF_set _ hlt, HFQ] at h5
     exact h5
   have hd : decide (0 < i) = false := decide_eq_false h0
   have Hi := Lib.hid h0
   rw [hd] at m0
   clear hd h0
   have b0 := HB.out.cell (j * 2)
   have b1 := HB.out.cell (j * 2 + 1)
   rw [cellsF_lo _ hlt] at b0
   rw [cellsF_hi _ hlt] at b1
   have fr0 := HB.out.frozen (j * 2)
   have fr1 := HB.out.frozen (j * 2 + 1)
   have hgl := HB.out.lt
   gi_wp2_with fail
   clear m0 b0 b1 fr0 fr1 hgl
   obtain ⟨wq, hwq⟩ : ∃ wq, (wr.setCell ⟨gw, j * 2, none⟩ (.int .i64 nn)).setCell ⟨gw, j * 2 + 1, none⟩ (.int .i64 nn) = wq := ⟨_, rfl⟩
   obtain ⟨fq, hfq⟩ : ∃ fq, updF (mixF f1 f0 j) j (nn, nn) = fq := ⟨_, rfl⟩
   have HQ : Hid (Blk wq gw 136 (cellsF fq)) := by
    rw [Hid, ← hwq, ← hfq, ← cellsF_set _ hlt]; exact (HB.out.set_ _ _).set_ _ _
   have HKq : Hid (Kept (fun k => k = gw) A2 wq) := by rw [Hid, ← hwq]; exact (HK3.out.trans (Kept.setCell _ _ _ rfl)).trans (Kept.setCell _ _ _ rfl)
   have HFQ : updF fq j (min (fq j).1 nn, max (fq j).2 nn) = mixF f1 f0 (j + 1) := by
    rw [← hfq, updF_at, updF_two, ← mixF_upd f1 f0 j, HF0.out (by have := Hi.out; omega) j, HN.out]
    simp
   rw [hwq]
   clear hwq hfq hm2
   obtain ⟨p1, p2, hp⟩ : ∃ p1 p2, fq j = (p1, p2) := ⟨_, _, rfl⟩
   have q0 := HQ.out.cell (j * 2)
   have q1 := HQ.out.cell (j * 2 + 1)
   rw [cellsF_lo _ hlt, hp] at q0
   rw [cellsF_hi _ hlt, hp] at q1
   rw [hp] at HFQ
   dsimp only at q0 q1 HFQ
   clear hp
   have Q0 := Lib.hid q0
   have Q1 := Lib.hid q1
   have hmin := min_if p1 nn
   have hmax := max_if p2 nn
   clear q0 q1
   refine wpIn_region_list1 (F := Fence.wide.inRound l) (r := some l) rfl (fun W => Below wq.heap.size wq W) (fun w w' => Below w.heap.size w w')
    [isV (.int .i64 j), isV (.int .i64 j), isV (.pointer (some ⟨gw, j * 2, none⟩)), isV (.pointer (some ⟨gw, j * 2, none⟩)), isV (.int .i64 p1), isV (.int .i64 nn), isV (.int .i64 (min p1 nn)), isV (.int .i64 j), isV (.pointer (some ⟨gw, j * 2, none⟩)), isV (.pointer (some ⟨gw, j * 2 + 1, none⟩)), isV (.int .i64 p2), isV (.int .i64 nn), isV (.int .i64 (max p2 nn)), isV (.agg #[.int .i64 (min p1 nn), .int .i64 (max p2 nn)]), isV (.pointer (some ⟨gw, j * 2, none⟩))]
    (by kernel_rfl) (by kernel_rfl) (by kernel_rfl) (by simp) (by simp) (Below.refl _ _).drew ?stab ?step ?fin
   case stab => exact StabL.is (StabL.is (StabL.is (StabL.is (StabL.is (StabL.is (StabL.is (StabL.is (StabL.is (StabL.is (StabL.is (StabL.is (StabL.is (StabL.is (StabL.is StabL.nil))))))))))))))
   case step =>
    refine StepsL.is ?_ (StepsL.is ?_ (StepsL.is ?_ (StepsL.is ?_ (StepsL.is ?_ (StepsL.is ?_ (StepsL.is ?_ (StepsL.is ?_ (StepsL.is ?_ (StepsL.is ?_ (StepsL.is ?_ (StepsL.is ?_ (StepsL.is ?_ (StepsL.is ?_ (StepsL.is ?_ StepsL.nil))))))))))))))
    all_goals
     intro vs W K hC hD hU hK
     simp only [fillA, Act.put, List.setIfInBounds_toArray, List.set_cons_zero, List.set_cons_succ, Nat.zero_add, Nat.reduceAdd] at hK ⊢
     simp [waits, Region.binds] at hD
     try simp only [envOf, List.getD_cons_succ, List.getD_cons_zero, isV] at hD
    all_goals ((try simp only [hD] at hK ⊢); have k1 := getc hC Q0.out; have k2 := getc hC Q1.out; go_simp; exact hK _ hC (Below.refl _ _))
   case fin =>
    intro vs W hC hE hU
    have e13 := hE 13 (by simp)
    have e14 := hE 14 (by simp)
    simp only [envOf, List.getD_cons_succ, List.getD_cons_zero, isV] at e13 e14
    have hB4 := HQ.out.bl hC
    have k1 := getc hC Q0.out
    have k2 := getc hC Q1.out
    have fr0 := hB4.frozen (j * 2)
    have fr1 := hB4.frozen (j * 2 + 1)
    have hgl := hB4.lt
    have HB4 := Lib.hid hB4
    have HC := Lib.hid hC
    simp only [fillA, Act.put, List.setIfInBounds_toArray, List.set_cons_zero, List.set_cons_succ, Nat.zero_add, Nat.reduceAdd, e13, e14]
    clear e13 e14 hE hU hC hB4
    simp [Region.wanted, yielded]
    go_simp
    gi_wp2
    refine ⟨⟨j + 1, by go_num, by omega, ((HKq.out.trans (Kept.of_bl HC.out)).trans (Kept.setCell _ _ _ rfl)).trans (Kept.setCell _ _ _ rfl), ?_⟩, by simp [intOf]; omega⟩
    have h5 := (HB4.out.set_ (j * 2) (.int .i64 (min p1 nn))).set_ (j * 2 + 1) (.int .i64 (max p2 nn))
    rw [cellsF_set _ hlt, HFQ] at h5
    exact h5
  obtain rfl : j = 41 := by omega
  have m0 := hm2.cell 0
  have fr := hm2.frozen 0
  have hgl := hm2.lt
  have HM := Lib.hid hm2
  clear hm2
  gi_wp2
  refine ⟨(HK3.out.mono fun k _ h => h ▸ hOw).trans (Kept.setCell _ _ _ hOm), O, fun k h => .inl h, HOE.out, ?_, ?_⟩
  ·rw [HF1.out, cellsF_ext (f := f1) (g := mixF f1 f0 41) (fun a ha => by simp [mixF, ha])]
   exact HB.out.far hne _
  rw [decide_eq_true (Nat.succ_pos i)]; exact HM.out.set_ 0 _
open Go.RowKit Go.Shelf
attribute [local go_sem] Oper.semAt_some
noncomputable def enterLoop : Code := (Tryz.f45.body.bind firstLoopC).getD .skip
def DefersAt (ds : List Nat) (B : Nat) (w : World) : Prop := ds.Nodup ∧ ∀ D ∈ ds, B ≤ D ∧ w.heap[D]? = some (.deferred (some []))
theorem DefersAt.kept {ds : List Nat} {B : Nat} {w w' : World} {M : Foot} (h : DefersAt ds B w) (hk : Kept M w w') (hM : ∀ D, M D → D < w.heap.size → D ∉ ds) : DefersAt ds B w' :=
 ⟨h.1, fun D hD => ⟨(h.2 D hD).1, (hk.block D (Array.getElem?_eq_some_iff.1 (h.2 D hD).2).1 (fun hm => hM D hm (Array.getElem?_eq_some_iff.1 (h.2 D hD).2).1 hD)).trans (h.2 D hD).2⟩⟩
theorem DefersAt.lt {ds : List Nat} {B : Nat} {w : World} (h : DefersAt ds B w) {D : Nat} (hD : D ∈ ds) : D < w.heap.size := (Array.getElem?_eq_some_iff.1 (h.2 D hD).2).1
theorem DefersAt.cons {ds : List Nat} {B D : Nat} {w : World} (h : DefersAt ds B w) (hn : D ∉ ds) (hB : B ≤ D) (hD : w.heap[D]? = some (.deferred (some []))) : DefersAt (D :: ds) B w :=
 ⟨List.nodup_cons.2 ⟨hn, h.1⟩, fun E hE => by rcases List.mem_cons.1 hE with rfl | hE; exact ⟨hB, hD⟩; exact h.2 E hE⟩
theorem wide8_fun (h : Hall) (l : List Seen) (k : Nat) : Value.agg (cellsF fun a => wideOf ((twosL h l k).take (twosL h l k).length) a) = wideV h l k := by
 rw [List.take_length]; rfl
theorem size_widths {f : Nat → Int × Int} : (Tryz.prog.info? 136).map (·.size) = some (cellsF f).size := by rw [cellsF_size]; kernel_rfl
set_option maxRecDepth 100000 in
set_option maxHeartbeats 1000000 in
theorem enter_loop {A B C : Option Addr} {n ca m cb q cc : Nat} {h : Hall} {l : List Seen} {alo ahi most : Int} {W2 : World} {gm gh B0 : Nat} {rv : Value} {T0 : TypeId}
  (hokh : OkH h) (hl6 : l.length ≤ 6) (hsn : ∀ (k : Nat) (y : Seen), l[k]? = some y → 0 ≤ y.air ∧ y.air ≤ 40) (hn : h.tiles.length = n) (hB0 : B0 ≤ gm) (hgmh : gm < gh)
  (MH : Blk W2 gh T0 #[.int .i64 alo, .int .i64 ahi, .int .i64 most, .slice A n ca, .slice B m cb, .slice C q cc, .map (some gm), rv]) (MM : MapOf W2 gm [])
  (hb : HallAt (fun k => True ∧ k < B0) W2 A n B m h) (sb : Seens (fun k => True ∧ k < B0) W2 C q l)
  {Q : Exit → Act → World → Prop} (c0 c1 c2 c3 c5 c6 c14 c15 c16 c17 c18 c19 c20 c21 c22 c23 c24 c25 c26 c27 c28 c29 c30 c31 c32 c33 c34 c35 c36 c87 v7 v8 v9 v10 v11 v12 v13 v39 v40 v41 v42 v43 v44 v45 v46 v47 v48 v49 v50 v51 v52 v53 v54 v55 v56 v57 v58 v59 v60 v61 v62 v63 v64 v65 v66 v67 v68 v69 v70 v71 v72 v73 v74 v75 v76 v77 v78 v79 v80 v81 v82 v83 v84 v85 v86 : Value)
  (hexit : ∀ (ds : List Nat) (u : Nat → Value) (w' : World), DefersAt ds W2.heap.size w' → Kept (fun j => j = gm ∨ W2.heap.size ≤ j) W2 w' → MapOf w' gm (knownV h l n) → (∀ t, t < n → twosL h l t ≠ []) → Q (.exit 0) { tmps := #[c0, c1, c2, c3, .pointer (some ⟨gh, 0, none⟩), c5, c6, u 7, u 8, u 9, u 10, u 11, u 12, u 13, c14, c15, c16, c17, c18, c19, c20, c21, c22, c23, c24, c25, c26, c27, c28, c29, c30, c31, c32, c33, c34, c35, c36, .int .i64 n, u 38, u 39, u 40, u 41, u 42, u 43, u 44, u 45, u 46, u 47, u 48, u 49, u 50, u 51, u 52, u 53, u 54, u 55, u 56, u 57, u 58, u 59, u 60, u 61, u 62, u 63, u 64, u 65, u 66, u 67, u 68, u 69, u 70, u 71, u 72, u 73, u 74, u 75, u 76, u 77, u 78, u 79, u 80, u 81, u 82, u 83, u 84, u 85, u 86, c87], defers := ds.map markD } w')
  (hret : ∀ (ds : List Nat) (tmps : Array Value) (w' : World), DefersAt ds W2.heap.size w' → Kept (fun j => j = gm ∨ W2.heap.size ≤ j) W2 w' → (∃ t, t < n ∧ twosL h l t = []) → (∀ w, (results Tryz.f45 tmps).run Tryz.prog w = .ok (.tuple #[.pointer (some ⟨gh, 0, none⟩), .bool false, .int .i64 0]) w) → Q .ret { tmps := tmps, defers := ds.map markD } w') :
  (Code.loop enterLoop).wpIn Fence.wide 1 Tryz.prog Q { tmps := #[c0, c1, c2, c3, .pointer (some ⟨gh, 0, none⟩), c5, c6, v7, v8, v9, v10, v11, v12, v13, c14, c15, c16, c17, c18, c19, c20, c21, c22, c23, c24, c25, c26, c27, c28, c29, c30, c31, c32, c33, c34, c35, c36, .int .i64 n, .int .i64 0, v39, v40, v41, v42, v43, v44, v45, v46, v47, v48, v49, v50, v51, v52, v53, v54, v55, v56, v57, v58, v59, v60, v61, v62, v63, v64, v65, v66, v67, v68, v69, v70, v71, v72, v73, v74, v75, v76, v77, v78, v79, v80, v81, v82, v83, v84, v85, v86, c87], defers := [] } W2 := by
 have hgmlt := MM.lt
 have hghlt := MH.lt
 have Hn := Lib.hid hn
 have hlen := hb.ts.le
 have HEX := Lib.hid hexit
 have HRT := Lib.hid hret
 clear hexit hret
 refine wpIn_loop (fun a' w' => ∃ (k : Nat) (ds : List Nat) (u : Nat → Value), k ≤ n ∧ Hid (DefersAt ds W2.heap.size w') ∧ Hid (Kept (fun j => j = gm ∨ W2.heap.size ≤ j) W2 w') ∧ Hid (MapOf w' gm (knownV h l k)) ∧ Hid (∀ t, t < k → twosL h l t ≠ []) ∧ a' = { tmps := #[c0, c1, c2, c3, .pointer (some ⟨gh, 0, none⟩), c5, c6, u 7, u 8, u 9, u 10, u 11, u 12, u 13, c14, c15, c16, c17, c18, c19, c20, c21, c22, c23, c24, c25, c26, c27, c28, c29, c30, c31, c32, c33, c34, c35, c36, .int .i64 n, .int .i64 k, u 39, u 40, u 41, u 42, u 43, u 44, u 45, u 46, u 47, u 48, u 49, u 50, u 51, u 52, u 53, u 54, u 55, u 56, u 57, u 58, u 59, u 60, u 61, u 62, u 63, u 64, u 65, u 66, u 67, u 68, u 69, u 70, u 71, u 72, u 73, u 74, u 75, u 76, u 77, u 78, u 79, u 80, u 81, u 82, u 83, u 84, u 85, u 86, c87], defers := ds.map markD }) (fun a' _ => n - (intOf (a'.tmps.getD 38 undef)).toNat) ?_ ?_
 ·exact ⟨0, [], (fun i => (#[c0, c1, c2, c3, .pointer (some ⟨gh, 0, none⟩), c5, c6, v7, v8, v9, v10, v11, v12, v13, c14, c15, c16, c17, c18, c19, c20, c21, c22, c23, c24, c25, c26, c27, c28, c29, c30, c31, c32, c33, c34, c35, c36, .int .i64 n, .int .i64 0, v39, v40, v41, v42, v43, v44, v45, v46, v47, v48, v49, v50, v51, v52, v53, v54, v55, v56, v57, v58, v59, v60, v61, v62, v63, v64, v65, v66, v67, v68, v69, v70, v71, v72, v73, v74, v75, v76, v77, v78, v79, v80, v81, v82, v83, v84, v85, v86, c87] : Array Value).getD i undef), Nat.zero_le _, ⟨List.nodup_nil, fun D h => by cases h⟩, Kept.refl _ _, MM, (fun t h => by omega), rfl⟩
 rintro a' wr ⟨k, ds, u, hk, HD, HK, HM, HT, rfl⟩
 conv => arg 4; whnf
 refine wpIn_wide.2 ?_
 by_cases hlt : k < n
 ·have hki : (k : Int) < n := by omega
  obtain ⟨wa, hwa⟩ : ∃ wa, wr.alloc (.cells Tryz.zeroCells136 136) = wa := ⟨_, rfl⟩
  go_wp2_with fail
  refine (truths_call gh k _).mono ?_
  rintro e w' ⟨rfl, rfl⟩
  obtain ⟨gw, hgw⟩ : ∃ gw, wr.heap.size = gw := ⟨_, rfl⟩
  obtain ⟨gf, hgf⟩ : ∃ gf, wa.heap.size = gf := ⟨_, rfl⟩
  have e1 : gf = gw + 1 := by rw [← hgf, ← hwa, ← hgw]; simp
  have e2 : (wa.alloc (.cells #[.bool false] 4)).heap.size = gf + 1 := by rw [← hgf]; simp
  have q1 : Blk wa gw 136 (cellsF fun _ => (0, 0)) := by rw [← hwa, ← zeros82]; exact Blk.new _ _ _ hgw.symm
  obtain ⟨wd, hwd⟩ : ∃ wd, ((wa.alloc (.cells #[.bool false] 4)).alloc (.cells #[.pointer (some ⟨gh, 0, none⟩)] 111)).alloc (.cells #[.int .i64 k] 3) = wd := ⟨_, rfl⟩
  have e3 : wd.heap.size = gf + 3 := by rw [← hwd]; simp [hgf]
  have q2 : Blk wd gw 136 (cellsF fun _ => (0, 0)) := by rw [← hwd]; exact ((q1.alloc _).alloc _).alloc _
  have q3 : Blk wd gf 4 #[.bool false] := by rw [← hwd]; exact ((Blk.new _ _ _ hgf.symm).alloc _).alloc _
  have q4 : Blk wd (gf + 1) 111 #[.pointer (some ⟨gh, 0, none⟩)] := by rw [← hwd]; exact (Blk.new _ _ _ e2.symm).alloc _
  have q5 : Blk wd (gf + 2) 3 #[.int .i64 k] := by rw [← hwd]; exact Blk.new _ _ _ (by simp [hgf])
  have hKd : Kept (fun _ => False) wr wd := by rw [← hwd, ← hwa]; exact (((Kept.alloc _ _ _).trans (Kept.alloc _ _ _)).trans (Kept.alloc _ _ _)).trans (Kept.alloc _ _ _)
  have eb : (wa.alloc (.cells #[.bool false] 4)).heap.size + 1 = gf + 2 := by rw [e2]
  rw [eb, e2, hwd, hgw, hgf]
  have hsz : W2.heap.size ≤ gw := by rw [← hgw]; exact HK.out.size
  have HSW : Hid (wr.heap.size = gw) := hgw
  have HSD : Hid (wd.heap.size = gf + 3) := e3
  have hkT : k < h.tiles.length := by rw [Hn.out]; exact hlt
  have hK2d : Kept (fun j => j = gm ∨ W2.heap.size ≤ j) W2 wd := HK.out.trans hKd.any
  have hDd : DefersAt ds W2.heap.size wd := HD.out.kept hKd (fun D hD => hD.elim)
  have hMd : MapOf wd gm (knownV h l k) := HM.out.at (hKd.block _ HM.out.lt (fun h => h))
  clear eb e2 hwd hwa q1 hgw hgf hKd e3 hki
  have HKD := Lib.hid hK2d
  have HDD := Lib.hid hDd
  have HMD := Lib.hid hMd
  clear hK2d hDd hMd
  subst e1
  go_wp2_with fail
  refine (wpIn_wide (n := 1)).1 ?_
  have KA : ∀ A', Kept (fun j => (j = gw ∨ j = gw + 1) ∨ wd.heap.size ≤ j) wd A' → Kept (fun j => j = gm ∨ W2.heap.size ≤ j) W2 A' := fun A' hK => HKD.out.seq hK (fun i _ h => by have := HSD.out; omega)
  refine rangeFunc_outer (m := 1) (gf := 107) (lb := #[.pointer (some ⟨gw + 2, 0, none⟩), .pointer (some ⟨gw + 3, 0, none⟩)]) rfl eg_truths (truths_seq (T := A) (n := n) (ct := ca) (R := B) (m := m) (L := C) (q := q) (cl := cc) (h := h) (l := l) (gw + 2) (gw + 3) gh k hkT (hokh.tile hkT) hl6 hsn) (fun _ => rfl) (fun j => j = gw ∨ j = gw + 1) (EnterJ gw (gw + 1) (twosL h l k)) (fun _ _ _ => False) ?o0 ?inv (fun i O A B h1 _ hK => h1.stay hK) (fun _ _ _ _ h _ _ => h) ?init (enter_round (by omega) _ (fun p hp => twos_bd hokh hkT hp) _ _ _ _ _ _ _ _ _ _ _ _ _ _ _ _ _ _ _ _ _ _ _ _ _ _ _ _ _ _ _ _ _ _ _ _ _ _ _ _ _ _ _ _ _ _ _ _ _ _ _ _ _ _ _ _ _ _ _ _ _ _ _ _ _ _ _ _ _ _ _ _ _ _ _ _ _ _ _ _ _ _ _ _ _ _ _ _) ?done (fun _ _ _ _ h _ _ _ _ _ => h.elim)
  case o0 => intro j hj; have := HSD.out; omega
  case inv =>
   intro A' hK
   have hKA := KA A' hK
   have h1 : Blk A' (gw + 2) 111 #[.pointer (some ⟨gh, 0, none⟩)] := (hK.block _ q4.lt (by have := HSD.out; omega)).trans q4
   have h2 : Blk A' (gw + 3) 3 #[.int .i64 k] := (hK.block _ q5.lt (by have := HSD.out; omega)).trans q5
   have h3 := (hKA.block _ hghlt (by omega)).trans MH
   exact ⟨⟨_, h1⟩, ⟨_, h2⟩, Blk.cell h3 3, Blk.cell h3 5, (hb.keep (hKA.keeps (fun j hj e => by omega))).mono (fun _ _ => trivial), (sb.keep SeenR.good (hKA.keeps (fun j hj e => by omega))).mono SeenR.good (fun _ _ => trivial)⟩
  case init => exact ⟨rfl, q2, q3⟩
  rintro O w9 D ⟨hOe, hB1, hB2⟩ hO hK9 hD hnD hDb
  have KA9 := KA w9 hK9
  have DD : DefersAt (D :: ds) W2.heap.size w9 := (HDD.out.kept hK9 (fun E hE hlt hm => by have := HSD.out; have := HSW.out; have := HD.out.lt hm; omega)).cons (fun hm => by have := HDD.out.lt hm; omega) (by have := HSD.out; omega) hDb
  have hMM : MapOf w9 gm (knownV h l k) := HMD.out.at (hK9.block _ HMD.out.lt (by have := HSD.out; omega))
  have HDD9 := Lib.hid DD
  have HKA9 := Lib.hid KA9
  have b0 := hB2.cell 0
  have HB1 := Lib.hid hB1
  clear DD KA9 hB2 hB1 hOe hO hnD hD hDb hK9
  by_cases hnil : twosL h l k = []
  ·have hz : decide (0 < (twosL h l k).length) = false := by rw [hnil]; rfl
   rw [hz] at b0
   have HNIL := Lib.hid hnil
   clear hz hnil
   gi_wp2_with fail
   go_wp2_with fail
   exact HRT.out (D :: ds) _ w9 HDD9.out HKA9.out ⟨k, hlt, HNIL.out⟩ (fun w => by simp [results, Tryz.results45, go_sem])
  have hz : decide (0 < (twosL h l k).length) = true := decide_eq_true (List.length_pos_iff.2 hnil)
  rw [hz] at b0
  have HNIL := Lib.hid hnil
  clear hz hnil
  gi_wp2_with fail
  go_wp2_with fail
  have hM9 : Blk w9 gh T0 #[.int .i64 alo, .int .i64 ahi, .int .i64 most, .slice A n ca, .slice B m cb, .slice C q cc, .map (some gm), rv] := (HKA9.out.block _ hghlt (by omega)).trans MH
  have hp6 := hM9.cell 6
  have HP6 : Hid (w9.cell? ⟨gh, 6, none⟩ = some (.map (some gm))) := hp6
  clear hM9 hp6 b0
  refine wp_region_list (fun W => Below w9.heap.size w9 W) (fun w w' => Below w.heap.size w w')
   [isV (.pointer (some ⟨gh, 0, none⟩)), isV (.pointer (some ⟨gh, 0, none⟩)), isV (.pointer (some ⟨gh, 6, none⟩)), isV (.map (some gm)), isV (.int .i64 k), isV (wideV h l k)]
   (by kernel_rfl) (by kernel_rfl) (by kernel_rfl) (by simp) (by simp) (Below.refl _ _).drew ?stab ?step ?fin
  case stab => exact StabL.is (StabL.is (StabL.is (StabL.is (StabL.is (StabL.is StabL.nil)))))
  case step =>
   refine StepsL.is ?_ (StepsL.is ?_ (StepsL.is ?_ (StepsL.is ?_ (StepsL.is ?_ (StepsL.is ?_ StepsL.nil)))))
   all_goals
    intro vs W K hC hD hU hK
    simp only [fillA, Act.put, List.setIfInBounds_toArray, List.set_cons_zero, List.set_cons_succ, Nat.zero_add, Nat.reduceAdd] at hK ⊢
    simp [waits, Region.binds] at hD
    try simp only [envOf, List.getD_cons_succ, List.getD_cons_zero, isV] at hD
   ·go_simp; exact hK _ hC (Below.refl _ _)
   ·(try simp only [hD] at hK ⊢); go_simp; exact hK _ hC (Below.refl _ _)
   ·(try simp only [hD] at hK ⊢); go_simp; exact hK _ hC (Below.refl _ _)
   ·(try simp only [hD] at hK ⊢); have k1 := getc hC HP6.out; go_simp; exact hK _ hC (Below.refl _ _)
   ·go_simp; exact hK _ hC (Below.refl _ _)
   have hB := HB1.out.bl hC
   have hK2 := hK _ hC (Below.refl _ _)
   rw [if_pos (by simp [Region.wanted])]
   refine wp_load_row 136 (.tmp 8) rfl gw rfl _ _ (0, 0) _ hB Tryz.underlying136 rfl size_widths ?_
   rw [wide8_fun]
   exact hK2
  intro vs W hC hE hU
  have e3 := hE 3 (by simp)
  have e4 := hE 4 (by simp)
  have e5 := hE 5 (by simp)
  simp only [envOf, List.getD_cons_succ, List.getD_cons_zero, isV] at e3 e4 e5
  simp only [fillA, Act.put, List.setIfInBounds_toArray, List.set_cons_zero, List.set_cons_succ, Nat.zero_add, Nat.reduceAdd, e3, e4, e5]
  clear e3 e4 e5 hE hU
  simp [Region.wanted, yielded]
  obtain ⟨w', hrun, hM', hg⟩ := (hMM.bl hC).put (P := Tryz.prog) Tryz.underlying137 Tryz.underlying3 (wideV h l k)
  rw [knownV_len] at hrun
  rw [← knownV_succ] at hM'
  have hKw : Kept (fun j => j = gm) w9 w' := (Kept.of_bl hC).trans (Kept.grown hg (fun j e => by injection e with e; exact e.symm))
  have hDw : DefersAt (D :: ds) W2.heap.size w' := HDD9.out.kept hKw (fun E hE _ hm => by have := (HDD9.out.2 E hm).1; omega)
  have HR := Lib.hid (⟨hM', HKA9.out.trans (hKw.mono fun _ _ h => .inl h), hDw⟩ : _ ∧ _ ∧ _)
  clear hM' hg hKw hDw hC
  go_simp
  go_wp2_with fail
  refine ⟨⟨k + 1, D :: ds, (fun i => (#[c0, c1, c2, c3, .pointer (some ⟨gh, 0, none⟩), c5, c6, .int .i64 k, .pointer (some ⟨gw, 0, none⟩), .pointer (some ⟨gw + 1, 0, none⟩), u 10, u 11, u 12, u 13, c14, c15, c16, c17, c18, c19, c20, c21, c22, c23, c24, c25, c26, c27, c28, c29, c30, c31, c32, c33, c34, c35, c36, .int .i64 n, u 38, .bool true, .int .i64 k, .pointer (some ⟨gh, 0, none⟩), .int .i64 k, .func (.func 107) #[] #[.pointer (some ⟨gw + 2, 0, none⟩), .pointer (some ⟨gw + 3, 0, none⟩)], u 44, u 45, u 46, u 47, u 48, u 49, u 50, u 51, u 52, u 53, u 54, u 55, u 56, u 57, u 58, u 59, u 60, u 61, u 62, u 63, u 64, u 65, u 66, u 67, u 68, u 69, u 70, u 71, u 72, u 73, u 74, u 75, u 76, .bool true, .bool false, u 79, vs 0, vs 1, vs 2, .map (some gm), .int .i64 k, wideV h l k, .int .i64 ((k : Int) + 1), c87] : Array Value).getD i undef), by omega, HR.out.2.2, HR.out.2.1, HR.out.1, fun t ht => ?_, ?_⟩, by simp [intOf]; omega⟩
  ·by_cases e : t = k
   ·rw [e]; exact HNIL.out
   exact HT.out t (by omega)
  simp [markD]
 obtain rfl : k = n := by omega
 go_wp2
 exact HEX.out ds (fun i => (#[c0, c1, c2, c3, .pointer (some ⟨gh, 0, none⟩), c5, c6, u 7, u 8, u 9, u 10, u 11, u 12, u 13, c14, c15, c16, c17, c18, c19, c20, c21, c22, c23, c24, c25, c26, c27, c28, c29, c30, c31, c32, c33, c34, c35, c36, .int .i64 k, .int .i64 k, .bool false, u 40, u 41, u 42, u 43, u 44, u 45, u 46, u 47, u 48, u 49, u 50, u 51, u 52, u 53, u 54, u 55, u 56, u 57, u 58, u 59, u 60, u 61, u 62, u 63, u 64, u 65, u 66, u 67, u 68, u 69, u 70, u 71, u 72, u 73, u 74, u 75, u 76, u 77, u 78, u 79, u 80, u 81, u 82, u 83, u 84, u 85, u 86, c87] : Array Value).getD i undef) wr HD.out HK.out HM.out HT.out
end Go.Proofs.YtdbfincinjoppaaGreat
