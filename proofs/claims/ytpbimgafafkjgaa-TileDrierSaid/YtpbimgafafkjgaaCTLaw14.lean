/- Walks: the law TileDrier. -/
import Derived.Test.YtpbimgafafkjgaaCTDryPs
import Derived.Test.YtpbimgafafkjgaaCTLaw2
import Derived.Test.YtpbimgafafkjgaaCTOuts1
import Derived.Test.YtpbimgafafkjgaaCTRegs
set_option linter.unusedVariables false
set_option linter.unusedSimpArgs false
set_option linter.all false
namespace Go.Proofs.Ytpbimgafafkjgaa
open Go.RowKit

/-- what the operations promise that copy the hall twice -/
def drE (B : Nat) (cs : Array Value) : Nat → Bool → Value → World → Prop
  | 0, _, v, _ => v = .agg cs
  | 1, _, v, _ => v = .agg cs
  | 2, b, v, W => ∃ g, v = .pointer (some ⟨g, 0, none⟩) ∧ Blk W g 27 (if b then cs else #[.int .i64 0, .int .i64 0, .int .i64 0, .slice none 0 0, .slice none 0 0]) ∧ B ≤ g
  | 3, _, v, W => ∃ g, v = .pointer (some ⟨g, 0, none⟩) ∧ Blk W g 27 #[.int .i64 0, .int .i64 0, .int .i64 0, .slice none 0 0, .slice none 0 0] ∧ B ≤ g
  | _, _, _, _ => True
theorem drE_stab (B : Nat) (cs : Array Value) : ∀ i b v w w', Below w.heap.size w w' → drE B cs i b v w → drE B cs i b v w'
  | 0, _, _, _, _, _, h => h
  | 1, _, _, _, _, _, h => h
  | 2, _, _, _, _, hb, ⟨g, h1, h2, h3⟩ => ⟨g, h1, h2.bl hb, h3⟩
  | 3, _, _, _, _, hb, ⟨g, h1, h2, h3⟩ => ⟨g, h1, h2.bl hb, h3⟩
  | _ + 4, _, _, _, _, _, _ => trivial
def drD (x y : Value) (_ : World) : Prop := ∀ g1 g2 : Nat, x = .pointer (some ⟨g1, 0, none⟩) → y = .pointer (some ⟨g2, 0, none⟩) → g1 ≠ g2
theorem drD_stab : ∀ x y w w', Below w.heap.size w w' → drD x y w → drD x y w' := fun _ _ _ _ _ h => h
theorem OwnL.at {α : Type} {R : Rd α} {m : Nat} {S : Foot} {w : World} {base : Nat} {e : TypeId} {A : Option Addr} {n c : Nat} {xs : List α} (h : OwnL R m S w base e (.slice A n c) xs) (hx : 0 < xs.length) : ∃ (gb : Nat) (cur : Array Value), A = some ⟨gb, 0, none⟩ ∧ base ≤ gb ∧ Blk w gb e cur := by
  obtain ⟨_, cells, ho, _⟩ := h
  rcases ho.2 with ⟨_, h0⟩ | ⟨gb, cap, cur, e, hb, hgg, _⟩
  · omega
  · injection e with e
    exact ⟨gb, cur, e, hb, hgg⟩
theorem wpList_append_lit {P : Program} {ops : Array Oper} {rest : List Oper} {o : Oper} {a : Act} {Q : Exit → Act → World → Prop} (w : World) (hgd : o.guard = none) (s x : Operand) (t : TypeId)
    (ho : o.op = .call { callee := .builtin .append, args := #[s, x], argTypes := #[t, t] })
    {α : Type} {R : Rd α} {m : Nat} (g : R.Good m) {T S : Foot} (base : Nat) (e : TypeId) (i : TypeInfo) (z : Value) (bytes : Nat) (ht : P.underlying t = some (.slice e)) (hi : P.info? e = some i) (hz : i.zero = some z)
    (hsize : i.size = m) (hby : i.bytes = bytes) (hzs : z.cells.size = m) (hsz : 0 < m)
    (gl : Nat) (hs : a.eval s = .slice (some ⟨gl, 0, none⟩) 0 0) (hBl : Blk w gl e #[]) (hgl : base ≤ gl)
    (A : Option Addr) (q c : Nat) (ys : List α) (hx : a.eval x = .slice A q c) (hR : SliceOf R m T w A q ys) (hconv : ∀ y vs, R T w y vs → R S w y vs)
    (h63 : q ≤ maxLen) (hbytes : q * bytes ≤ 140737488355328) (hbase : base ≤ w.heap.size) (hS : ¬ S w.heap.size) (hSl : ¬ S gl)
    (h : ∀ A' cap' w', OwnL R m S w' base e (.slice A' q cap') ys → Below w.heap.size w w' → wpList P ops Q rest (a.put o.dst (.slice A' q cap')) w') : wpList P ops Q (o :: rest) a w :=
  wpList_plain hgd fun K hK => wp_append_lit w s x t ho g base e i z bytes ht hi hz hsize hby hzs hsz gl hs hBl hgl A q c ys hx hR hconv h63 hbytes hbase hS hSl fun A' c' w' h1 h2 => hK _ _ (h A' c' w' h1 h2)
theorem minI (a b : Int) : (if b < a then b else a) = min a b := by split <;> omega
theorem maxI (a b : Int) : (if a < b then b else a) = max a b := by split <;> omega
theorem infoRow8 : (Try.prog.info? 75).map (fun i => (i.zero, i.size, i.bytes)) = some (some (.agg #[.int .i64 0, .int .i64 0, .int .i64 0]), 3, 24) := by kernel_rfl

set_option maxRecDepth 100000 in
set_option maxHeartbeats 8000000 in
theorem drierLaw_any {A B C : Option Addr} {n ca m cb q cc : Nat} {h : Hall} {l : List Seen} {alo ahi most : Int} (d0 d1 d2 d3 d4 : Nat) (hd0 : d0 < 256) (hd1 : d1 < 256) (hd2 : d2 < 256) (hd3 : d3 < 256) (hd4 : d4 < 256) (w : World) (g : HallAt (fun _ => True) w A n B m h) (gs : Seens (fun _ => True) w C q l) (hca : n ≤ ca) (h1 : h.alo = alo) (h2 : h.ahi = ahi) (h3 : h.most = most) :
    Calls Try.prog 14 #[.agg #[.int .i64 alo, .int .i64 ahi, .int .i64 most, .slice A n ca, .slice B m cb], .slice C q cc, .agg #[.int .u8 d0, .int .u8 d1, .int .u8 d2, .int .u8 d3, .int .u8 d4]] w fun e w' => e = .returned (.bool true) ∧ Below w.heap.size w w' := by
  obtain ⟨iR, hiR, hzR0, hzR1, hzR2⟩ := info_parts infoRow8
  have Hm := Lib.hid g.rs.len
  have Hn := Lib.hid g.ts.len
  obtain ⟨W0, hW⟩ : ∃ W0, (w.alloc (.cells #[.int .i64 alo, .int .i64 ahi, .int .i64 most, .slice A n ca, .slice B m cb] 27)).alloc (.cells #[.int .u8 d0, .int .u8 d1, .int .u8 d2, .int .u8 d3, .int .u8 d4] 85) = W0 := ⟨_, rfl⟩
  obtain ⟨g0, hg0⟩ : ∃ g0, w.heap.size = g0 := ⟨_, rfl⟩
  have X : Blk W0 g0 27 #[.int .i64 alo, .int .i64 ahi, .int .i64 most, .slice A n ca, .slice B m cb] := by rw [← hW, ← hg0]; exact (Blk.new _ _ _ rfl).alloc _
  have Z : Blk W0 (g0 + 1) 85 #[.int .u8 d0, .int .u8 d1, .int .u8 d2, .int .u8 d3, .int .u8 d4] := by rw [← hW, ← hg0]; exact Blk.new _ _ _ (by simp)
  have HBW : Hid (Below w.heap.size w W0) := by rw [Hid, ← hW]; exact bl_alloc (bl_alloc (Below.refl _ _) _ (Nat.le_refl _)) _ (Nat.le_refl _)
  have HG := Lib.hid (g.keep (Keeps.below HBW.out))
  have HS := Lib.hid (gs.keep SeenR.good (Keeps.below HBW.out))
  have HX := Lib.hid X
  have kk : Hid (∀ V, Below W0.heap.size W0 V → V.cell? ⟨g0, 0, none⟩ = some (.int .i64 alo) ∧ V.cell? ⟨g0, 1, none⟩ = some (.int .i64 ahi) ∧ V.cell? ⟨g0, 2, none⟩ = some (.int .i64 most) ∧ V.cell? ⟨g0, 3, none⟩ = some (.slice A n ca) ∧ V.cell? ⟨g0, 4, none⟩ = some (.slice B m cb) ∧ V.cell? ⟨g0 + 1, 0, none⟩ = some (.int .u8 d0) ∧ V.cell? ⟨g0 + 1, 1, none⟩ = some (.int .u8 d1) ∧ V.cell? ⟨g0 + 1, 2, none⟩ = some (.int .u8 d2) ∧ V.cell? ⟨g0 + 1, 3, none⟩ = some (.int .u8 d3) ∧ V.cell? ⟨g0 + 1, 4, none⟩ = some (.int .u8 d4)) :=
    fun V hb => ⟨(X.bl hb).cell 0, (X.bl hb).cell 1, (X.bl hb).cell 2, (X.bl hb).cell 3, (X.bl hb).cell 4, (Z.bl hb).cell 0, (Z.bl hb).cell 1, (Z.bl hb).cell 2, (Z.bl hb).cell 3, (Z.bl hb).cell 4⟩
  clear X Z g gs
  obtain ⟨x0, x1, x2, x3, x4, y0, y1, y2, y3, y4⟩ := kk.out W0 (Below.refl _ _)
  go_enter Try.func14, Try.ntmps14
  go_wp2_with fail
  clear hW x0 x1 x2 x3 x4 y0 y1 y2 y3 y4
  refine (good_any W0 HG.out HS.out h1 h2 h3).mono ?_
  rintro e V1 ⟨rfl, b1⟩
  obtain ⟨gb, hgb⟩ : ∃ gb, good8 h l = gb := ⟨_, rfl⟩
  rw [hgb]
  cases gb with
  | false =>
    clear hgb
    go_wp2_with fail
    refine (awake_any V1).mono ?_
    rintro e V2 ⟨rfl, c2⟩
    go_wp2
    go_ret
    exact ⟨by rfl, bl_call HBW.out (bl_call b1 c2 (Nat.le_refl _)) (Nat.le_refl _)⟩
  | true =>
    obtain ⟨e1, ea⟩ := good8_parts hgb
    obtain ⟨hk, hq6, hsn⟩ := seen_air e1
    have HE1 := Lib.hid e1
    have HEA := Lib.hid ea
    have HKK := Lib.hid hk
    have hm1 : 1 ≤ m ∧ m ≤ 3 := by have := hk.nr; rw [Hm.out] at this; exact this
    have hn1 : 1 ≤ n ∧ n ≤ 8 := by have := hk.nt; rw [Hn.out] at this; exact this
    obtain ⟨row, hrow⟩ : ∃ row, d0 % m = row := ⟨_, rfl⟩
    have hrm : row < m := by rw [← hrow]; exact Nat.mod_lt _ (by omega)
    have hmod : ((d0 : Int)).tmod (m : Int) = (row : Int) := by rw [Int.tmod_eq_emod_of_nonneg (by omega), ← hrow]; rfl
    have hcv : IntKind.i64.wrap (d0 : Int) = d0 := by rw [IntKind.wrap_i64]; omega
    have hmz : ¬ (m : Int) = 0 := by omega
    have hmz2 : ((m : Int) == 0) = false := by simp; omega
    have hri : (row : Int) < m := by omega
    have hml : m ≤ maxLen := HG.out.rs.le
    clear e1 ea hk hgb hq6 hsn hrow
    obtain ⟨x0, x1, x2, x3, x4, y0, y1, y2, y3, y4⟩ := kk.out V1 b1
    go_wp2_with fail
    clear x0 x1 x2 x3 x4 y0 y1 y2 y3 y4
    refine (chosen_any (v1 := .int .i64 alo) (v2 := .int .i64 ahi) (v3 := .int .i64 most) V1 (HG.out.keep (Keeps.below b1)) rfl rfl rfl HKK.out hrm hd1).mono ?_
    rintro e V2 ⟨⟨T, cT, rfl, hT, hcT⟩, c2⟩
    have b2 := bl_call b1 c2 (Nat.le_refl _)
    obtain ⟨TL, hTL⟩ : ∃ TL, choK n (rowP h row) d1 n = TL := ⟨_, rfl⟩
    have HTE : Hid (tilesE n (h.rows.getD row dRow).places TL = 0) := by
      have := cho_at HKK.out (row := row) (bits := d1) (by rw [Hm.out]; exact hrm) hd1
      rwa [Hn.out, hTL] at this
    rw [hTL] at hT hcT ⊢
    have HAS : Hid (asked8 h l row TL = 0) := asked_fine HE1.out (by rw [Hm.out]; exact hrm) (by rw [Hn.out]; exact HTE.out) HEA.out
    have HTM : Hid (∀ i ∈ TL, 0 ≤ i ∧ i < n) := (tilesE_zero HTE.out).2.1
    have hk8 : TL.length ≤ 8 := by rw [← hTL]; have := choK_len n (rowP h row) d1 n; omega
    clear hTL
    obtain ⟨k, hk⟩ : ∃ k, TL.length = k := ⟨_, rfl⟩
    rw [hk] at hT hcT hk8 ⊢
    have HKL := Lib.hid hk
    have HT := Lib.hid hT
    clear hk hT c2 b1
    obtain ⟨b, off, fr, sw, pl, rfl, hbb, r0, r1, r2, Hx⟩ := RowTs.get HG.out.rs hrm
    have hre := HKK.out.row (k := row) (by rw [Hm.out]; exact hrm)
    obtain ⟨f1, f2, f3, f4, f5, f6⟩ := rowE_zero Hx.out hre
    have hair := HKK.out.air
    have HR0 := Lib.hid r0
    clear hre r0 r1 r2 hbb f3 f4 f5 f6
    obtain ⟨r2, hr2⟩ : ∃ r, d2 % 4 = r := ⟨_, rfl⟩
    obtain ⟨r3, hr3⟩ : ∃ r, d3 % 4 = r := ⟨_, rfl⟩
    have hr24 : r2 < 4 := by omega
    have hr34 : r3 < 4 := by omega
    have hm2 : ((d2 : Int)).tmod 4 = (r2 : Int) := by rw [Int.tmod_eq_emod_of_nonneg (by omega), ← hr2]; rfl
    have hm3 : ((d3 : Int)).tmod 4 = (r3 : Int) := by rw [Int.tmod_eq_emod_of_nonneg (by omega), ← hr3]; rfl
    have hcv2 : IntKind.i64.wrap (d2 : Int) = d2 := by rw [IntKind.wrap_i64]; omega
    have hcv3 : IntKind.i64.wrap (d3 : Int) = d3 := by rw [IntKind.wrap_i64]; omega
    have hcv4 : IntKind.i64.wrap (d4 : Int) = d4 := by rw [IntKind.wrap_i64]; omega
    rw [h1, h2] at hair
    obtain ⟨x9, hx9⟩ : ∃ x, min ahi (alo + (r2 : Int)) = x := ⟨_, rfl⟩
    obtain ⟨z9, hz9⟩ : ∃ x, max x9 (ahi - (r3 : Int)) = x := ⟨_, rfl⟩
    obtain ⟨by4, hby⟩ : ∃ x, min (200000 - fr) (d4 : Int) = x := ⟨_, rfl⟩
    have hs53 : IntKind.i64.wrap (alo + (r2 : Int)) = alo + (r2 : Int) := by rw [IntKind.wrap_i64]; omega
    have hs67 : IntKind.i64.wrap (ahi - (r3 : Int)) = ahi - (r3 : Int) := by rw [IntKind.wrap_i64]; omega
    have hs82 : IntKind.i64.wrap (200000 - fr) = 200000 - fr := by rw [IntKind.wrap_i64]; omega
    have hq9 : (if alo + (r2 : Int) < ahi then alo + (r2 : Int) else ahi) = x9 := by rw [minI, hx9]
    have hqz : (if x9 < ahi - (r3 : Int) then ahi - (r3 : Int) else x9) = z9 := by rw [maxI, hz9]
    have hqb : (if (d4 : Int) < 200000 - fr then (d4 : Int) else 200000 - fr) = by4 := by rw [minI, hby]
    have hx9a : alo ≤ x9 := by omega
    have hz9a : x9 ≤ z9 := by omega
    have hz9b : z9 ≤ ahi := by omega
    have hby0 : 0 ≤ by4 := by omega
    have hby1 : fr + by4 ≤ 200000 := by omega
    have hby2 : by4 ≤ 255 := by omega
    have hs97 : IntKind.i64.wrap (fr + by4) = fr + by4 := by rw [IntKind.wrap_i64]; omega
    clear hr2 hr3
    obtain ⟨x0, x1, x2, x3, x4, y0, y1, y2, y3, y4⟩ := kk.out V2 b2
    go_wp2_with fail
    clear x0 x1 x2 x3 x4 y0 y1 y2 y3 y4
    have AS := Lib.hid (drE_stab V2.heap.size #[.int .i64 alo, .int .i64 ahi, .int .i64 most, .slice A n ca, .slice (some ⟨b, off, none⟩) m cb])
    have DS := Lib.hid (drD_stab)
    refine wp_region_invs (fun ls vs ww => InvE V2.heap.size V2 (drE V2.heap.size #[.int .i64 alo, .int .i64 ahi, .int .i64 most, .slice A n ca, .slice (some ⟨b, off, none⟩) m cb]) 4 ls vs ww ∧ PairI 2 3 (drD) ls vs ww) 5 (by kernel_rfl) (by kernel_rfl) (by kernel_rfl) (by rfl) ⟨⟨(Below.refl _ _).drew, fun i h => by cases h⟩, PairI.none⟩ ?step (by rfl) (by rfl) ?fin
    case step =>
      refine StepsI.cons ?_ (StepsI.cons ?_ (StepsI.cons ?_ (StepsI.cons ?_ (StepsI.cons ?_ StepsI.nil))))
      all_goals
        refine StepI.of ?_
        intro ls vs W K hI hl hw hU hK
        simp only [fillA, Act.put, List.setIfInBounds_toArray, List.set_cons_zero, List.set_cons_succ, Nat.zero_add, Nat.reduceAdd] at hK ⊢
        simp [waits, Region.binds] at hw
        have hC := hI.1.1
      · obtain ⟨x0, x1, x2, x3, x4, y0, y1, y2, y3, y4⟩ := kk.out W (bl_call b2 hC (Nat.le_refl _))
        go_simp
        exact hK _ _ ⟨hI.1.step AS.out (Below.refl _ _) hC.size (by decide) rfl, hI.2.step DS.out (Below.refl _ _) (by decide) (by decide)⟩
      · obtain ⟨x0, x1, x2, x3, x4, y0, y1, y2, y3, y4⟩ := kk.out W (bl_call b2 hC (Nat.le_refl _))
        go_simp
        exact hK _ _ ⟨hI.1.step AS.out (Below.refl _ _) hC.size (by decide) rfl, hI.2.step DS.out (Below.refl _ _) (by decide) (by decide)⟩
      · have h4 : ls 4 = false := (hU 4 _ rfl (by simp [waits, Region.binds])).1
        go_simp
        refine hK _ _ ⟨hI.1.step AS.out (bl_alloc (Below.refl _ _) _ (Nat.le_refl _)) hC.size (by decide) ⟨_, rfl, by rw [h4]; exact Blk.new _ _ _ rfl, hC.size⟩, PairI.left (by decide) fun h3 g1 g2 e1 e2 => ?_⟩
        obtain ⟨g3, e3, hB3, _⟩ := hI.1.2 3 h3
        rw [e3] at e2
        have q1 : W.heap.size = g1 := by injection e1 with e; injection e with e; injection e
        have q2 : g3 = g2 := by injection e2 with e; injection e with e; injection e
        have := hB3.lt; omega
      · go_simp
        refine hK _ _ ⟨hI.1.step AS.out (bl_alloc (Below.refl _ _) _ (Nat.le_refl _)) hC.size (by decide) ⟨_, rfl, Blk.new _ _ _ rfl, hC.size⟩, PairI.right (by decide) fun h3 g1 g2 e1 e2 => ?_⟩
        obtain ⟨g3, e3, hB3, _⟩ := hI.1.2 2 h3
        rw [e3] at e1
        have q1 : g3 = g1 := by injection e1 with e; injection e with e; injection e
        have q2 : W.heap.size = g2 := by injection e2 with e; injection e with e; injection e
        have := hB3.lt; omega
      · have q0 : vs 0 = _ := hI.1.2 0 (by simp [hw])
        have h2t : ls 2 = true := by simp [hw]
        obtain ⟨g4, h4, hB4, hg4⟩ := hI.1.2 2 h2t
        rw [hl] at hB4
        replace hB4 : Blk W g4 27 #[.int .i64 0, .int .i64 0, .int .i64 0, .slice none 0 0, .slice none 0 0] := hB4
        have z0 := hB4.cell 0
        have z1 := hB4.cell 1
        have z2 := hB4.cell 2
        have z3 := hB4.cell 3
        have z4 := hB4.cell 4
        have fz0 := hB4.frozen 0
        have fz1 := hB4.frozen 1
        have fz2 := hB4.frozen 2
        have fz3 := hB4.frozen 3
        have fz4 := hB4.frozen 4
        have hl4 := hB4.lt
        simp only [q0, h4] at hK ⊢
        go_simp
        refine hK undef _ ⟨⟨bl_set (bl_set (bl_set (bl_set (bl_set hC hg4 _) hg4 _) hg4 _) hg4 _) hg4 _, fun i hi => ?_⟩, fun h2 h3 => hI.2 h2 h3⟩
        have hb4 : updB ls 4 4 = true := by unfold updB; rw [if_pos rfl]
        rw [hb4]
        match i, hi with
        | 0, hi => exact hI.1.2 0 hi
        | 1, hi => exact hI.1.2 1 hi
        | 2, _ => exact ⟨g4, h4, ((((hB4.set_ 0 _).set_ 1 _).set_ 2 _).set_ 3 _).set_ 4 _, hg4⟩
        | 3, hi =>
          obtain ⟨g5, h5, hB5, hg5⟩ := hI.1.2 3 hi
          have hne : g5 ≠ g4 := fun e => hI.2 h2t hi g4 g5 h4 h5 e.symm
          exact ⟨g5, h5, ((((hB5.far hne _).far hne _).far hne _).far hne _).far hne _, hg5⟩
        | _ + 4, _ => trivial
    case fin =>
      intro ls vs W hI hl hU
      clear hU
      have hC := hI.1.1
      have b2w := bl_call b2 hC (Nat.le_refl _)
      have e1 : vs 1 = _ := hI.1.2 1 (hl 1 (by decide))
      have e2 := hI.1.2 2 (hl 2 (by decide))
      have e3 := hI.1.2 3 (hl 3 (by decide))
      have eD := hI.2 (hl 2 (by decide)) (hl 3 (by decide))
      have e4 := hl 4 (by decide)
      simp only [fillA, Act.put, List.setIfInBounds_toArray, List.set_cons_zero, List.set_cons_succ, Nat.zero_add, Nat.reduceAdd, e1]
      rw [e4] at e2
      obtain ⟨g9, h9, hB9, hg9⟩ := e2
      obtain ⟨g10, h10, hB10, hg10⟩ := e3
      have hne : g9 ≠ g10 := eD g9 g10 h9 h10
      rw [h9, h10]
      obtain ⟨u0, hu0⟩ : ∃ v0, vs 0 = v0 := ⟨_, rfl⟩
      rw [hu0]
      clear hu0
      replace hB9 : Blk W g9 27 #[.int .i64 alo, .int .i64 ahi, .int .i64 most, .slice A n ca, .slice (some ⟨b, off, none⟩) m cb] := hB9
      replace hB10 : Blk W g10 27 #[.int .i64 0, .int .i64 0, .int .i64 0, .slice none 0 0, .slice none 0 0] := hB10
      clear h9 h10 hI hl AS DS e1 e4 eD
      have z0 := hB10.cell 0
      have z1 := hB10.cell 1
      have z2 := hB10.cell 2
      have z3 := hB10.cell 3
      have z4 := hB10.cell 4
      have fz0 := hB10.frozen 0
      have fz1 := hB10.frozen 1
      have fz2 := hB10.frozen 2
      have fz3 := hB10.frozen 3
      have fz4 := hB10.frozen 4
      have hl9 := hB10.lt
      obtain ⟨U3, hU3⟩ : ∃ U, ((((W.setCell ⟨g10, 0, none⟩ (.int .i64 alo)).setCell ⟨g10, 1, none⟩ (.int .i64 ahi)).setCell ⟨g10, 2, none⟩ (.int .i64 most)).setCell ⟨g10, 3, none⟩ (.slice A n ca)).setCell ⟨g10, 4, none⟩ (.slice (some ⟨b, off, none⟩) m cb) = U := ⟨_, rfl⟩
      have hw2g : W0.heap.size ≤ V2.heap.size := b2.size
      have hg9w : W0.heap.size ≤ g9 := by omega
      have hg10w : W0.heap.size ≤ g10 := by omega
      have D10 : Blk U3 g10 27 #[.int .i64 alo, .int .i64 ahi, .int .i64 most, .slice A n ca, .slice (some ⟨b, off, none⟩) m cb] := by rw [← hU3]; exact ((((hB10.set_ 0 _).set_ 1 _).set_ 2 _).set_ 3 _).set_ 4 _
      have D9 : Blk U3 g9 27 #[.int .i64 alo, .int .i64 ahi, .int .i64 most, .slice A n ca, .slice (some ⟨b, off, none⟩) m cb] := by rw [← hU3]; exact ((((hB9.far hne _).far hne _).far hne _).far hne _).far hne _
      have b3 : Below W0.heap.size W0 U3 := by rw [← hU3]; exact bl_set (bl_set (bl_set (bl_set (bl_set b2w hg10w _) hg10w _) hg10w _) hg10w _) hg10w _
      have b23 : Below V2.heap.size V2 U3 := by rw [← hU3]; exact bl_set (bl_set (bl_set (bl_set (bl_set hC hg10 _) hg10 _) hg10 _) hg10 _) hg10 _
      go_simp
      clear hU3 hB9 hB10 b2 b2w hC hw2g
      clear z0 fz0 z1 fz1 z2 fz2 z3 fz3 z4 fz4 hl9
      have z0 := D9.cell 0
      have fz0 := D9.frozen 0
      have hl9 := D9.lt
      obtain ⟨U4, hU4⟩ : ∃ U, U3.setCell ⟨g9, 0, none⟩ (.int .i64 x9) = U := ⟨_, rfl⟩
      have D9b : Blk U4 g9 27 #[.int .i64 x9, .int .i64 ahi, .int .i64 most, .slice A n ca, .slice (some ⟨b, off, none⟩) m cb] := by rw [← hU4]; exact D9.set_ 0 _
      have D10b : Blk U4 g10 27 #[.int .i64 alo, .int .i64 ahi, .int .i64 most, .slice A n ca, .slice (some ⟨b, off, none⟩) m cb] := by rw [← hU4]; exact D10.far (fun e => hne e.symm) _
      have b4 : Below W0.heap.size W0 U4 := by rw [← hU4]; exact bl_set b3 hg9w _
      have b24 : Below V2.heap.size V2 U4 := by rw [← hU4]; exact bl_set b23 hg9 _
      have z0b := D9b.cell 0
      have z1b := D9b.cell 1
      have fz1b := D9b.frozen 1
      have hl9b := D9b.lt
      obtain ⟨U5, hU5⟩ : ∃ U, U4.setCell ⟨g9, 1, none⟩ (.int .i64 z9) = U := ⟨_, rfl⟩
      have D9c : Blk U5 g9 27 #[.int .i64 x9, .int .i64 z9, .int .i64 most, .slice A n ca, .slice (some ⟨b, off, none⟩) m cb] := by rw [← hU5]; exact D9b.set_ 1 _
      have D10c : Blk U5 g10 27 #[.int .i64 alo, .int .i64 ahi, .int .i64 most, .slice A n ca, .slice (some ⟨b, off, none⟩) m cb] := by rw [← hU5]; exact D10b.far (fun e => hne e.symm) _
      have b5 : Below W0.heap.size W0 U5 := by rw [← hU5]; exact bl_set b4 hg9w _
      have b25 : Below V2.heap.size V2 U5 := by rw [← hU5]; exact bl_set b24 hg9 _
      obtain ⟨gl, hgl⟩ : ∃ g, U5.heap.size = g := ⟨_, rfl⟩
      obtain ⟨Ua, hUa⟩ : ∃ U, U5.alloc (.cells #[] 75) = U := ⟨_, rfl⟩
      have ba5 : Below U5.heap.size U5 Ua := by rw [← hUa]; exact bl_alloc (Below.refl _ _) _ (Nat.le_refl _)
      have ba := bl_call b5 ba5 (Nat.le_refl _)
      have HLB : Hid (Blk Ua gl 75 #[]) := by rw [Hid, ← hUa]; exact Blk.new _ _ _ hgl.symm
      have HRW := Lib.hid (HG.out.keep (Keeps.below ba)).rs
      have hgla : gl ≤ Ua.heap.size := by rw [← hgl]; exact ba5.size
      obtain ⟨x0, x1, _, _, _, _, _, y2, _, _⟩ := kk.out U3 b3
      obtain ⟨_, x1b, _, _, _, _, _, _, y3, _⟩ := kk.out U4 b4
      obtain ⟨_, _, _, _, x4, _, _, _, _, _⟩ := kk.out Ua ba
      go_wp2_with (at_builtin; refine wpList_append_lit _ rfl (.tmp 71) (.tmp 73) _ rfl RowR.good (T := fun _ => True) (S := fun _ => False) gl 75 iR _ 24 Try.underlying25 hiR hzR0 hzR1 hzR2 rfl (by decide) gl rfl HLB.out (Nat.le_refl _) (some ⟨b, off, none⟩) m cb h.rows rfl HRW.out (fun y vs hr => hr) hml ?c2 hgla (fun h => h) (fun h => h) ?_)
      case c2 => omega
      clear x0 x1 y2 x1b y3 x4 z0 fz0 hl9 z0b z1b fz1b hl9b hU4 hU5 hUa D9 D10 b3 b23 D9b D10b b4 b24 ba HLB HRW
      intro A2 cap2 U6 hO6 c6
      obtain ⟨gb, cur, rfl, hgb, HB6⟩ := hO6.at (by rw [Hm.out]; omega)
      have c56 : Below U5.heap.size U5 U6 := bl_call ba5 c6 (Nat.le_refl _)
      rw [← hgl] at hgb
      have HR6 : RowTs (fun k => U5.heap.size ≤ k) U6 (some ⟨gb, 0, none⟩) m h.rows := hO6.slice RowR.good rfl hml (fun k h => h.elim) (fun k h1 h2 => by rw [hgl]; exact h1)
      clear hO6 c6 ba5 hgla hgl
      have hg10s := D10c.lt
      have hg9s := D9c.lt
      have hngb : g10 ≠ gb := by omega
      have hngb9 : g9 ≠ gb := by omega
      have D9d := D9c.bl c56
      have D10d := D10c.bl c56
      have b6 := bl_call b5 c56 (Nat.le_refl _)
      have b26 := bl_call b25 c56 (Nat.le_refl _)
      have z0 := D10d.cell 0
      have z1 := D10d.cell 1
      have z2 := D10d.cell 2
      have z3 := D10d.cell 3
      have z4 := D10d.cell 4
      have fz0 := D10d.frozen 0
      have fz1 := D10d.frozen 1
      have fz2 := D10d.frozen 2
      have fz3 := D10d.frozen 3
      have fz4 := D10d.frozen 4
      have hl9 := D10d.lt
      obtain ⟨U7, hU7⟩ : ∃ U, U6.setCell ⟨g10, 4, none⟩ (.slice (some ⟨gb, 0, none⟩) m cap2) = U := ⟨_, rfl⟩
      have D9e : Blk U7 g9 27 #[.int .i64 x9, .int .i64 z9, .int .i64 most, .slice A n ca, .slice (some ⟨b, off, none⟩) m cb] := by rw [← hU7]; exact D9d.far hne _
      have D10e : Blk U7 g10 27 #[.int .i64 alo, .int .i64 ahi, .int .i64 most, .slice A n ca, .slice (some ⟨gb, 0, none⟩) m cap2] := by rw [← hU7]; exact D10d.set_ 4 _
      have HB7 : Blk U7 gb 75 cur := by rw [← hU7]; exact HB6.far (fun e => hngb e.symm) _
      have HR7 : RowTs (fun k => U5.heap.size ≤ k) U7 (some ⟨gb, 0, none⟩) m h.rows := by rw [← hU7]; exact HR6.keep RowR.good (Keeps.setCell _ ⟨g10, 4, none⟩ _ (fun h => by have hx : U5.heap.size ≤ g10 := h; omega))
      have b7 : Below W0.heap.size W0 U7 := by rw [← hU7]; exact bl_set b6 hg10w _
      have b27 : Below V2.heap.size V2 U7 := by rw [← hU7]; exact bl_set b26 hg10 _
      have hgb7 : W0.heap.size ≤ gb := by have := b5.size; omega
      have hgb27 : V2.heap.size ≤ gb := by have := b25.size; omega
      clear HB6 HR6 c56 D9c D10c b5 b25
      go_wp2_with fail
      clear z0 fz0 z1 fz1 z2 fz2 z3 fz3 z4 fz4 hl9
      clear hU7 D9d D10d b6 b26
      obtain ⟨x0, x1, x2, x3, x4, y0, y1, y2, y3, y4⟩ := kk.out U7 b7
      have r0 := getc b7 HR0.out
      go_quiet (fail)
      clear r0
      clear x0 x1 x2 x3 x4 y0 y1 y2 y3 y4
      obtain ⟨U8, hU8⟩ : ∃ U, U7.drewN nq = U := ⟨_, rfl⟩
      have D9f : Blk U8 g9 27 #[.int .i64 x9, .int .i64 z9, .int .i64 most, .slice A n ca, .slice (some ⟨b, off, none⟩) m cb] := by rw [← hU8]; exact D9e.drewN _
      have D10f : Blk U8 g10 27 #[.int .i64 alo, .int .i64 ahi, .int .i64 most, .slice A n ca, .slice (some ⟨gb, 0, none⟩) m cap2] := by rw [← hU8]; exact D10e.drewN _
      have HB8 : Blk U8 gb 75 cur := by rw [← hU8]; exact HB7.drewN _
      have HR8 : RowTs (fun k => U5.heap.size ≤ k) U8 (some ⟨gb, 0, none⟩) m h.rows := by rw [← hU8]; exact HR7.keep RowR.good (Keeps.drewN _ _)
      have b8 : Below W0.heap.size W0 U8 := by rw [← hU8]; exact bl_drewN b7 _
      have b28 : Below V2.heap.size V2 U8 := by rw [← hU8]; exact bl_drewN b27 _
      rw [hU8]
      clear hU8 D9e D10e HB7 HR7 b7 b27
      go_wp2_with fail
      refine wp_region_list (fun W => Below U8.heap.size U8 W) (fun w w' => Below w.heap.size w w')
        [isV (.pointer (some ⟨g10, 4, none⟩)), isV (.slice (some ⟨gb, 0, none⟩) m cap2), isV (.int .i64 row), isV (.pointer (some ⟨g0, 4, none⟩)), isV (.slice (some ⟨b, off, none⟩) m cb), isV (.int .i64 row), isV (.pointer (some ⟨b, off + row * 3, none⟩)), isV (.pointer (some ⟨b, off + row * 3, none⟩)), isV (.int .i64 fr), isV (.int .i64 by4), isV (.int .i64 (fr + by4)), isV (.pointer (some ⟨gb, row * 3, none⟩)), isV (.pointer (some ⟨gb, row * 3, none⟩))]
        (by kernel_rfl) (by kernel_rfl) (by kernel_rfl) (by simp) (by simp) (Below.refl _ _).drew ?stab ?step ?fin
      case stab => exact (StabL.is (StabL.is (StabL.is (StabL.is (StabL.is (StabL.is (StabL.is (StabL.is (StabL.is (StabL.is (StabL.is (StabL.is (StabL.is StabL.nil)))))))))))))
      case step =>
        refine StepsL.is ?_ (StepsL.is ?_ (StepsL.is ?_ (StepsL.is ?_ (StepsL.is ?_ (StepsL.is ?_ (StepsL.is ?_ (StepsL.is ?_ (StepsL.is ?_ (StepsL.is ?_ (StepsL.is ?_ (StepsL.is ?_ (StepsL.is ?_ StepsL.nil))))))))))))
        all_goals
          intro vs W K hC hD hU hK
          simp only [fillA, Act.put, List.setIfInBounds_toArray, List.set_cons_zero, List.set_cons_succ, Nat.zero_add, Nat.reduceAdd] at hK ⊢
          simp [waits, Region.binds] at hD
          try simp only [envOf, List.getD_cons_succ, List.getD_cons_zero, isV] at hD
          try simp only [hD] at hK ⊢
        · go_simp; exact hK _ hC (Below.refl _ _)
        · have k0 := (D10f.bl hC).cell 4
          go_simp; exact hK _ hC (Below.refl _ _)
        · go_simp; exact hK _ hC (Below.refl _ _)
        · go_simp; exact hK _ hC (Below.refl _ _)
        · obtain ⟨x0, x1, x2, x3, x4, y0, y1, y2, y3, y4⟩ := kk.out W (bl_call b8 hC (Nat.le_refl _))
          go_simp; exact hK _ hC (Below.refl _ _)
        · go_simp; exact hK _ hC (Below.refl _ _)
        · go_simp; exact hK _ hC (Below.refl _ _)
        · go_simp; exact hK _ hC (Below.refl _ _)
        · have k0 := getc (bl_call b8 hC (Nat.le_refl _)) HR0.out
          go_simp; exact hK _ hC (Below.refl _ _)
        · go_simp; exact hK _ hC (Below.refl _ _)
        · go_simp; exact hK _ hC (Below.refl _ _)
        · go_simp; exact hK _ hC (Below.refl _ _)
        · go_simp; exact hK _ hC (Below.refl _ _)
      case fin =>
        intro vs W hC hE hU
        have e10 : vs 10 = .int .i64 (fr + by4) := hE 10 (by simp)
        have e12 : vs 12 = .pointer (some ⟨gb, row * 3, none⟩) := hE 12 (by simp)
        simp only [fillA, Act.put, List.setIfInBounds_toArray, List.set_cons_zero, List.set_cons_succ, Nat.zero_add, Nat.reduceAdd, e10, e12]
        obtain ⟨u0, hu0⟩ : ∃ v0, vs 0 = v0 := ⟨_, rfl⟩
        obtain ⟨u1, hu1⟩ : ∃ v0, vs 1 = v0 := ⟨_, rfl⟩
        obtain ⟨u2, hu2⟩ : ∃ v0, vs 2 = v0 := ⟨_, rfl⟩
        obtain ⟨u3, hu3⟩ : ∃ v0, vs 3 = v0 := ⟨_, rfl⟩
        obtain ⟨u4, hu4⟩ : ∃ v0, vs 4 = v0 := ⟨_, rfl⟩
        obtain ⟨u5, hu5⟩ : ∃ v0, vs 5 = v0 := ⟨_, rfl⟩
        obtain ⟨u6, hu6⟩ : ∃ v0, vs 6 = v0 := ⟨_, rfl⟩
        obtain ⟨u7, hu7⟩ : ∃ v0, vs 7 = v0 := ⟨_, rfl⟩
        obtain ⟨u8, hu8⟩ : ∃ v0, vs 8 = v0 := ⟨_, rfl⟩
        obtain ⟨u9, hu9⟩ : ∃ v0, vs 9 = v0 := ⟨_, rfl⟩
        obtain ⟨u11, hu11⟩ : ∃ v0, vs 11 = v0 := ⟨_, rfl⟩
        rw [hu0, hu1, hu2, hu3, hu4, hu5, hu6, hu7, hu8, hu9, hu11]
        clear hu0 hu1 hu2 hu3 hu4 hu5 hu6 hu7 hu8 hu9 hu11
        clear hE hU e10 e12
        have b9 := bl_call b8 hC (Nat.le_refl _)
        have b29 := bl_call b28 hC (Nat.le_refl _)
        have D9g := D9f.bl hC
        have D10g := D10f.bl hC
        have HR9 : RowTs (fun k => U5.heap.size ≤ k) W (some ⟨gb, 0, none⟩) m h.rows := HR8.keep RowR.good (Keeps.below hC)
        have HB9 := HB8.bl hC
        have z0 : W.cell? ⟨gb, row * 3, none⟩ = some (.int .i64 fr) := by
          obtain ⟨b1, o1, a1, a2, a3, e1, _, q1, _, _, q4⟩ := HR9.get hrm
          injection e1 with e1
          injection e1 with e1 e2
          subst e1; subst e2
          have e5 := Hx.out.symm.trans q4.out
          injection e5 with e5
          injection e5 with e5
          subst e5
          simpa using q1
        have fz0 := HB9.frozen (row * 3)
        have hlb := HB9.lt
        clear HB8 HR8 hC b8 b28 D9f D10f
        obtain ⟨U9, hU9⟩ : ∃ U, W.setCell ⟨gb, row * 3, none⟩ (.int .i64 (fr + by4)) = U := ⟨_, rfl⟩
        have D9h := D9g.far (p := ⟨gb, row * 3, none⟩) hngb9 (.int .i64 (fr + by4))
        have D10h := D10g.far (p := ⟨gb, row * 3, none⟩) hngb (.int .i64 (fr + by4))
        rw [hU9] at D9h D10h
        have b10 : Below W0.heap.size W0 U9 := by rw [← hU9]; exact bl_set b9 hgb7 _
        have b210 : Below V2.heap.size V2 U9 := by rw [← hU9]; exact bl_set b29 hgb27 _
        have HRB : Hid (RowTs (fun _ => True) U9 (some ⟨gb, 0, none⟩) m (bigOf h row by4).rows) := by
          have := HR9.setFrame hrm ((h.rows.getD row dRow).frame + by4)
          rw [getD_of Hx.out] at this
          dsimp only at this
          rw [hU9] at this
          have h2 := this.mono RowR.good (T := fun _ => True) (fun _ _ => trivial)
          rw [Hid, bigOf, getD_of Hx.out]
          exact h2
        clear HR9 HB9
        obtain ⟨x0, x1, x2, x3, x4, y0, y1, y2, y3, y4⟩ := kk.out U9 b10
        go_simp
        go_wp2_with fail
        clear x0 x1 x2 x3 x4 y0 y1 y2 y3 y4
        clear hU9 z0 fz0 hlb b9 b29 D9g D10g
        have hrl : row < h.rows.length := by rw [Hm.out]; exact hrm
        have HDL := Lib.hid (dry_law HAS.out (by omega) (show h.alo ≤ x9 by omega) hz9a (show z9 ≤ h.ahi by omega))
        have HDA := Lib.hid (dry_asked HAS.out (show h.alo ≤ x9 by omega) hz9a (show z9 ≤ h.ahi by omega))
        have HBA := Lib.hid (big_asked HAS.out hby0 (by rw [getD_of Hx.out]; exact hby1))
        have HBG := Lib.hid (big_gap (l := l) (tl := TL) (d := by4) hrl)
        obtain ⟨a1, a2, hga⟩ : ∃ a1 a2, gap8 h l row TL = (a1, a2) := ⟨_, _, rfl⟩
        obtain ⟨e1, e2, hgd⟩ : ∃ a1 a2, gap8 (dryOf h x9 z9) l row TL = (a1, a2) := ⟨_, _, rfl⟩
        have hgbd : -170400 ≤ a1 ∧ a1 ≤ 206400 ∧ -170400 ≤ a2 ∧ a2 ≤ 206400 := by
          obtain ⟨_, ⟨a, ha1, ha2, ea⟩, ⟨c, hc1, hc2, ec⟩⟩ := gap8_bd (l := l) (row := row) (tl := TL) (h := h) (by omega)
          obtain ⟨an, rfl⟩ := Int.eq_ofNat_of_zero_le (show 0 ≤ a by omega)
          obtain ⟨cn, rfl⟩ := Int.eq_ofNat_of_zero_le (show 0 ≤ c by omega)
          have hT9 : ∀ i ∈ TL, 0 ≤ i ∧ i < h.tiles.length := fun i hi => by have := HTM.out i hi; rw [Hn.out]; exact this
          have hl8 : TL.length ≤ 8 := by rw [HKL.out]; exact hk8
          have q1 := at8_bd HKK.out HEA.out hrl hl8 hT9 (a := an) (by omega)
          have q2 := at8_bd HKK.out HEA.out hrl hl8 hT9 (a := cn) (by omega)
          rw [hga] at ea ec
          dsimp only at ea ec
          omega
        have hdl1 : a1 ≤ e1 := by have := HDL.out.1; rw [hga, hgd] at this; exact this
        have hdl2 : e2 ≤ a2 := by have := HDL.out.2.1; rw [hga, hgd] at this; exact this
        have hs179 : IntKind.i64.wrap (a1 + by4) = a1 + by4 := by rw [IntKind.wrap_i64]; omega
        have hs183 : IntKind.i64.wrap (a2 + by4) = a2 + by4 := by rw [IntKind.wrap_i64]; omega
        have HGA : Hid (gapR h l row TL = ((a1, a2), 0)) := by rw [Hid, gapR_ok HAS.out, hga]
        have HGD : Hid (gapR (dryOf h x9 z9) l row TL = ((e1, e2), 0)) := by rw [Hid, gapR_ok HDA.out, hgd]
        have HGB : Hid (gapR (bigOf h row by4) l row TL = ((a1 + by4, a2 + by4), 0)) := by rw [Hid, gapR_ok HBA.out, HBG.out, hga]
        clear hga hgd HBG hs97 hs67 hs53 hs82 hq9 hqz hqb hx9 hz9 hby hm2 hm3 hcv2 hcv3 hcv4 hgbd
        have HT9 := Lib.hid (HT.out.keep IntR.good (Keeps.below b210))
        clear HT b210
        refine (tgap_any row U9 (HG.out.keep (Keeps.below b10)) (HS.out.keep SeenR.good (Keeps.below b10)) HT9.out hca h1 h2 h3).mono ?_
        rintro e X1 ⟨rfl, c1⟩
        rw [HGA.out]
        dsimp only
        have D9_x1 := D9h.bl c1
        have D10_x1 := D10h.bl c1
        have HRB_x1 := Lib.hid (HRB.out.keep RowR.good (Keeps.below c1))
        have HT_x1 := Lib.hid (HT9.out.keep IntR.good (Keeps.below c1))
        have b_x1 := bl_call b10 c1 (Nat.le_refl _)
        clear D9h D10h HRB HT9 b10
        obtain ⟨g12, hg12⟩ : ∃ g, X1.heap.size = g := ⟨_, rfl⟩
        obtain ⟨X2, hX2⟩ : ∃ U, X1.alloc (.cells #[.int .i64 a1, .int .i64 a2] 23) = U := ⟨_, rfl⟩
        have Sg12_n : Blk X2 g12 23 #[.int .i64 a1, .int .i64 a2] := by rw [← hX2]; exact Blk.new _ _ _ hg12.symm
        have D9_x2 := D9_x1.alloc (.cells #[.int .i64 a1, .int .i64 a2] 23)
        have D10_x2 := D10_x1.alloc (.cells #[.int .i64 a1, .int .i64 a2] 23)
        have HRB_x2 := Lib.hid (HRB_x1.out.keep RowR.good (Keeps.alloc _ (.cells #[.int .i64 a1, .int .i64 a2] 23)))
        have HT_x2 := Lib.hid (HT_x1.out.keep IntR.good (Keeps.alloc _ (.cells #[.int .i64 a1, .int .i64 a2] 23)))
        have b_x2 := bl_alloc b_x1 (.cells #[.int .i64 a1, .int .i64 a2] 23) (Nat.le_refl _)
        clear D9_x1 D10_x1 HRB_x1 HT_x1 b_x1
        rw [hX2] at D9_x2 D10_x2 HRB_x2 HT_x2 b_x2
        have z0 := D9_x2.cell 0
        have z1 := D9_x2.cell 1
        have z2 := D9_x2.cell 2
        have z3 := D9_x2.cell 3
        have z4 := D9_x2.cell 4
        go_wp2_with fail
        clear z0 z1 z2 z3 z4
        clear hX2 hg12 c1
        refine (tgap_any (h := dryOf h x9 z9) row X2 ⟨(HG.out.keep (Keeps.below b_x2)).ts, (HG.out.keep (Keeps.below b_x2)).rs⟩ (HS.out.keep SeenR.good (Keeps.below b_x2)) HT_x2.out hca rfl rfl h3).mono ?_
        rintro e X3 ⟨rfl, c3⟩
        rw [HGD.out]
        dsimp only
        have D9_x3 := D9_x2.bl c3
        have D10_x3 := D10_x2.bl c3
        have Sg12_x3 := Sg12_n.bl c3
        have HRB_x3 := Lib.hid (HRB_x2.out.keep RowR.good (Keeps.below c3))
        have HT_x3 := Lib.hid (HT_x2.out.keep IntR.good (Keeps.below c3))
        have b_x3 := bl_call b_x2 c3 (Nat.le_refl _)
        clear D9_x2 D10_x2 Sg12_n HRB_x2 HT_x2 b_x2
        obtain ⟨g14, hg14⟩ : ∃ g, X3.heap.size = g := ⟨_, rfl⟩
        obtain ⟨X4, hX4⟩ : ∃ U, X3.alloc (.cells #[.int .i64 e1, .int .i64 e2] 23) = U := ⟨_, rfl⟩
        have Sg14_n : Blk X4 g14 23 #[.int .i64 e1, .int .i64 e2] := by rw [← hX4]; exact Blk.new _ _ _ hg14.symm
        have D9_x4 := D9_x3.alloc (.cells #[.int .i64 e1, .int .i64 e2] 23)
        have D10_x4 := D10_x3.alloc (.cells #[.int .i64 e1, .int .i64 e2] 23)
        have Sg12_x4 := Sg12_x3.alloc (.cells #[.int .i64 e1, .int .i64 e2] 23)
        have HRB_x4 := Lib.hid (HRB_x3.out.keep RowR.good (Keeps.alloc _ (.cells #[.int .i64 e1, .int .i64 e2] 23)))
        have HT_x4 := Lib.hid (HT_x3.out.keep IntR.good (Keeps.alloc _ (.cells #[.int .i64 e1, .int .i64 e2] 23)))
        have b_x4 := bl_alloc b_x3 (.cells #[.int .i64 e1, .int .i64 e2] 23) (Nat.le_refl _)
        clear D9_x3 D10_x3 Sg12_x3 HRB_x3 HT_x3 b_x3
        rw [hX4] at D9_x4 D10_x4 HRB_x4 HT_x4 b_x4 Sg12_x4
        have z0 := D10_x4.cell 0
        have z1 := D10_x4.cell 1
        have z2 := D10_x4.cell 2
        have z3 := D10_x4.cell 3
        have z4 := D10_x4.cell 4
        go_wp2_with fail
        clear z0 z1 z2 z3 z4
        clear hX4 hg14 c3
        refine (tgap_any (h := bigOf h row by4) row X4 ⟨(HG.out.keep (Keeps.below b_x4)).ts, HRB_x4.out⟩ (HS.out.keep SeenR.good (Keeps.below b_x4)) HT_x4.out hca h1 h2 h3).mono ?_
        rintro e X5 ⟨rfl, c5⟩
        rw [HGB.out]
        dsimp only
        have D9_x5 := D9_x4.bl c5
        have D10_x5 := D10_x4.bl c5
        have Sg12_x5 := Sg12_x4.bl c5
        have Sg14_x5 := Sg14_n.bl c5
        have HRB_x5 := Lib.hid (HRB_x4.out.keep RowR.good (Keeps.below c5))
        have HT_x5 := Lib.hid (HT_x4.out.keep IntR.good (Keeps.below c5))
        have b_x5 := bl_call b_x4 c5 (Nat.le_refl _)
        clear D9_x4 D10_x4 Sg12_x4 Sg14_n HRB_x4 HT_x4 b_x4
        obtain ⟨g16, hg16⟩ : ∃ g, X5.heap.size = g := ⟨_, rfl⟩
        obtain ⟨X6, hX6⟩ : ∃ U, X5.alloc (.cells #[.int .i64 (a1 + by4), .int .i64 (a2 + by4)] 23) = U := ⟨_, rfl⟩
        have Sg16_n : Blk X6 g16 23 #[.int .i64 (a1 + by4), .int .i64 (a2 + by4)] := by rw [← hX6]; exact Blk.new _ _ _ hg16.symm
        have D9_x6 := D9_x5.alloc (.cells #[.int .i64 (a1 + by4), .int .i64 (a2 + by4)] 23)
        have D10_x6 := D10_x5.alloc (.cells #[.int .i64 (a1 + by4), .int .i64 (a2 + by4)] 23)
        have Sg12_x6 := Sg12_x5.alloc (.cells #[.int .i64 (a1 + by4), .int .i64 (a2 + by4)] 23)
        have Sg14_x6 := Sg14_x5.alloc (.cells #[.int .i64 (a1 + by4), .int .i64 (a2 + by4)] 23)
        have HRB_x6 := Lib.hid (HRB_x5.out.keep RowR.good (Keeps.alloc _ (.cells #[.int .i64 (a1 + by4), .int .i64 (a2 + by4)] 23)))
        have HT_x6 := Lib.hid (HT_x5.out.keep IntR.good (Keeps.alloc _ (.cells #[.int .i64 (a1 + by4), .int .i64 (a2 + by4)] 23)))
        have b_x6 := bl_alloc b_x5 (.cells #[.int .i64 (a1 + by4), .int .i64 (a2 + by4)] 23) (Nat.le_refl _)
        clear D9_x5 D10_x5 Sg12_x5 Sg14_x5 HRB_x5 HT_x5 b_x5
        rw [hX6] at D9_x6 D10_x6 HRB_x6 HT_x6 b_x6 Sg12_x6 Sg14_x6
        obtain ⟨x0, x1, x2, x3, x4, y0, y1, y2, y3, y4⟩ := kk.out X6 b_x6
        go_wp2_with fail
        clear x0 x1 x2 x3 x4 y0 y1 y2 y3 y4
        clear hX6 hg16 c5
        refine (twhy_any row X6 (HG.out.keep (Keeps.below b_x6)) (HS.out.keep SeenR.good (Keeps.below b_x6)) HT_x6.out hca h1 h2 h3).mono ?_
        rintro e X7 ⟨rfl, c7⟩
        obtain ⟨w1, hw1⟩ : ∃ x, (whyR h l row TL).1 = x := ⟨_, rfl⟩
        have hw3 : (whyR h l row TL).2.2 = 0 := (why_iff HAS.out (by omega)).1
        rw [hw1, hw3]
        generalize (whyR h l row TL).2.1 = w2
        have HW1 := Lib.hid hw1
        clear hw1 hw3
        have D9_x7 := D9_x6.bl c7
        have D10_x7 := D10_x6.bl c7
        have Sg12_x7 := Sg12_x6.bl c7
        have Sg14_x7 := Sg14_x6.bl c7
        have Sg16_x7 := Sg16_n.bl c7
        have HRB_x7 := Lib.hid (HRB_x6.out.keep RowR.good (Keeps.below c7))
        have HT_x7 := Lib.hid (HT_x6.out.keep IntR.good (Keeps.below c7))
        have b_x7 := bl_call b_x6 c7 (Nat.le_refl _)
        clear D9_x6 D10_x6 Sg12_x6 Sg14_x6 Sg16_n HRB_x6 HT_x6 b_x6
        have z0 := D9_x7.cell 0
        have z1 := D9_x7.cell 1
        have z2 := D9_x7.cell 2
        have z3 := D9_x7.cell 3
        have z4 := D9_x7.cell 4
        go_wp2_with fail
        clear z0 z1 z2 z3 z4
        clear c7
        refine (twhy_any (h := dryOf h x9 z9) row X7 ⟨(HG.out.keep (Keeps.below b_x7)).ts, (HG.out.keep (Keeps.below b_x7)).rs⟩ (HS.out.keep SeenR.good (Keeps.below b_x7)) HT_x7.out hca rfl rfl h3).mono ?_
        rintro e X8 ⟨rfl, c8⟩
        obtain ⟨q1, hq1⟩ : ∃ x, (whyR (dryOf h x9 z9) l row TL).1 = x := ⟨_, rfl⟩
        have hq3 : (whyR (dryOf h x9 z9) l row TL).2.2 = 0 := (why_iff HDA.out hz9a).1
        rw [hq1, hq3]
        generalize (whyR (dryOf h x9 z9) l row TL).2.1 = q2
        have HQ1 := Lib.hid hq1
        clear hq1 hq3
        have D9_x8 := D9_x7.bl c8
        have D10_x8 := D10_x7.bl c8
        have Sg12_x8 := Sg12_x7.bl c8
        have Sg14_x8 := Sg14_x7.bl c8
        have Sg16_x8 := Sg16_x7.bl c8
        have HRB_x8 := Lib.hid (HRB_x7.out.keep RowR.good (Keeps.below c8))
        have HT_x8 := Lib.hid (HT_x7.out.keep IntR.good (Keeps.below c8))
        have b_x8 := bl_call b_x7 c8 (Nat.le_refl _)
        clear D9_x7 D10_x7 Sg12_x7 Sg14_x7 Sg16_x7 HRB_x7 HT_x7 b_x7
        have HBF : Hid (Below w.heap.size w X8) := bl_call HBW.out b_x8 (Nat.le_refl _)
        have kl : Hid (∀ V, Below X8.heap.size X8 V → V.cell? ⟨g12, 0, none⟩ = some (.int .i64 a1) ∧ V.cell? ⟨g12, 1, none⟩ = some (.int .i64 a2) ∧ V.cell? ⟨g14, 0, none⟩ = some (.int .i64 e1) ∧ V.cell? ⟨g14, 1, none⟩ = some (.int .i64 e2) ∧ V.cell? ⟨g16, 0, none⟩ = some (.int .i64 (a1 + by4)) ∧ V.cell? ⟨g16, 1, none⟩ = some (.int .i64 (a2 + by4))) := fun V hb => ⟨(Sg12_x8.bl hb).c0, (Sg12_x8.bl hb).c1, (Sg14_x8.bl hb).c0, (Sg14_x8.bl hb).c1, (Sg16_x8.bl hb).c0, (Sg16_x8.bl hb).c1⟩
        clear c8 D9_x8 D10_x8 HRB_x8 HT_x8 b_x8 Sg12_x8 Sg14_x8 Sg16_x8
        clear HGA HGD HGB HDA HBA HKK HTM HTE HE1 HEA HG HS hx9a hz9a hz9b hby0 hby1 hby2 hgb7 hgb27 hg10s hg9s hg9w hg10w f1 f2 hair hne hngb hngb9 HX
        by_cases hw0 : w1 = 0
        · subst hw0
          obtain rfl : q1 = 0 := by rw [← HQ1.out]; exact HDL.out.2.2 HW1.out
          clear HDL HW1 HQ1
          go_wp2_with fail
          refine wp_frame ?_
          intro a0 hsz hget hdf
          have b11 : a0.tmps[11]? = some (.int .i64 by4) := (hget 11).trans (by kernel_rfl)
          have b12 : a0.tmps[12]? = some (.pointer (some ⟨g12, 0, none⟩)) := (hget 12).trans (by kernel_rfl)
          have b13 : a0.tmps[13]? = some (.int .i64 0) := (hget 13).trans (by kernel_rfl)
          have b14 : a0.tmps[14]? = some (.pointer (some ⟨g14, 0, none⟩)) := (hget 14).trans (by kernel_rfl)
          have b15 : a0.tmps[15]? = some (.int .i64 0) := (hget 15).trans (by kernel_rfl)
          have b16 : a0.tmps[16]? = some (.pointer (some ⟨g16, 0, none⟩)) := (hget 16).trans (by kernel_rfl)
          have b17 : a0.tmps[17]? = some (.int .i64 0) := (hget 17).trans (by kernel_rfl)
          have b18 : a0.tmps[18]? = some (.int .i64 0) := (hget 18).trans (by kernel_rfl)
          have b20 : a0.tmps[20]? = some (.int .i64 0) := (hget 20).trans (by kernel_rfl)
          have b21 : a0.tmps[21]? = some (.int .i64 0) := (hget 21).trans (by kernel_rfl)
          have b23 : a0.tmps[23]? = some (.int .i64 0) := (hget 23).trans (by kernel_rfl)
          replace hsz : a0.tmps.size = 198 := hsz.trans (by kernel_rfl)
          replace hdf : a0.defers = [] := hdf
          clear hget
          refine wp_region_list (fun W => Below X8.heap.size X8 W) (fun w w' => Below w.heap.size w w')
            [isV (.int .i64 0), isV (.bool true), isV (.bool true), isV (.int .i64 0), isV (.bool true), isV (.bool true), isV (.bool true), isV (.int .i64 0), isV (.bool true), isV (.bool true), isV (.bool true), isV (.int .i64 0), isV (.bool true), isV (.bool true), isV (.bool true), isV (.int .i64 0), isV (.bool true), isV (.bool true), isV (.bool true), isV (.pointer (some ⟨g14, 0, none⟩)), isV (.int .i64 e1), isV (.pointer (some ⟨g12, 0, none⟩)), isV (.int .i64 a1), isV (.bool true), isV (.bool true), isV (.bool true), isV (.pointer (some ⟨g14, 1, none⟩)), isV (.int .i64 e2), isV (.pointer (some ⟨g12, 1, none⟩)), isV (.int .i64 a2), isV (.bool true), isV (.bool true), isV (.bool true), isV (.agg #[.int .i64 (a1 + by4), .int .i64 (a2 + by4)]), isV (.pointer (some ⟨g12, 0, none⟩)), isV (.int .i64 a1), isV (.int .i64 by4), isV (.int .i64 (a1 + by4)), isV (.pointer (some ⟨g12, 1, none⟩)), isV (.int .i64 a2), isV (.int .i64 by4), isV (.int .i64 (a2 + by4)), isV (.agg #[.int .i64 (a1 + by4), .int .i64 (a2 + by4)]), isV (.bool true), isV (.bool true), isV (.bool true), isV (.int .i64 0), isV (.bool false), isV (.bool false), isV (.int .i64 0), isV (.bool true), isV (.bool true), isV (.bool true), isV (.bool true), isV (.bool true), isV (.bool true), isV (.bool true)]
            (by kernel_rfl) (by kernel_rfl) (by kernel_rfl) (by simp) (by simp) (Below.refl _ _).drew ?stabA ?stepA ?finA
          case stabA => exact (StabL.is (StabL.is (StabL.is (StabL.is (StabL.is (StabL.is (StabL.is (StabL.is (StabL.is (StabL.is (StabL.is (StabL.is (StabL.is (StabL.is (StabL.is (StabL.is (StabL.is (StabL.is (StabL.is (StabL.is (StabL.is (StabL.is (StabL.is (StabL.is (StabL.is (StabL.is (StabL.is (StabL.is (StabL.is (StabL.is (StabL.is (StabL.is (StabL.is (StabL.is (StabL.is (StabL.is (StabL.is (StabL.is (StabL.is (StabL.is (StabL.is (StabL.is (StabL.is (StabL.is (StabL.is (StabL.is (StabL.is (StabL.is (StabL.is (StabL.is (StabL.is (StabL.is (StabL.is (StabL.is (StabL.is (StabL.is (StabL.is StabL.nil)))))))))))))))))))))))))))))))))))))))))))))))))))))))))
          case stepA =>
            refine StepsL.isA ?_ (StepsL.isA ?_ (StepsL.isA ?_ (StepsL.isA ?_ (StepsL.isA ?_ (StepsL.isA ?_ (StepsL.isA ?_ (StepsL.isA ?_ (StepsL.isA ?_ (StepsL.isA ?_ (StepsL.isA ?_ (StepsL.isA ?_ (StepsL.isA ?_ (StepsL.isA ?_ (StepsL.isA ?_ (StepsL.isA ?_ (StepsL.isA ?_ (StepsL.isA ?_ (StepsL.isA ?_ (StepsL.isA ?_ (StepsL.isA ?_ (StepsL.isA ?_ (StepsL.isA ?_ (StepsL.isA ?_ (StepsL.isA ?_ (StepsL.isA ?_ (StepsL.isA ?_ (StepsL.isA ?_ (StepsL.isA ?_ (StepsL.isA ?_ (StepsL.isA ?_ (StepsL.isA ?_ (StepsL.isA ?_ (StepsL.isA ?_ (StepsL.isA ?_ (StepsL.isA ?_ (StepsL.isA ?_ (StepsL.isA ?_ (StepsL.isA ?_ (StepsL.isA ?_ (StepsL.isA ?_ (StepsL.isA ?_ (StepsL.isA ?_ (StepsL.isA ?_ (StepsL.isA ?_ (StepsL.isA ?_ (StepsL.isA ?_ (StepsL.isA ?_ (StepsL.isA ?_ (StepsL.isA ?_ (StepsL.isA ?_ (StepsL.isA ?_ (StepsL.isA ?_ (StepsL.isA ?_ (StepsL.isA ?_ (StepsL.isA ?_ (StepsL.isA ?_ StepsL.nil))))))))))))))))))))))))))))))))))))))))))))))))))))))))
            · -- 0
              intro vs a W K ha hC hD hU hK
              have r13 : a.tmps[13]? = some (.int .i64 0) := by rw [ha, fillA_base0 (by kernel_rfl)]; exact b13
              clear ha hU hD
              rw [if_pos (by rfl)]
              go_simp
              exact hK _ hC (Below.refl _ _)
            · -- 1
              intro vs a W K ha hC hD hU hK
              have r142 : a.tmps[142]? = some (vs 0) := by rw [ha]; exact fillA_get0 (j := 0) (by kernel_rfl) (by rw [hsz]; decide)
              have q0 : vs 0 = .int .i64 0 := hD 0 (by simp [waits, Region.binds])
              rw [q0] at r142
              clear ha hU hD
              rw [if_pos (by rfl)]
              go_simp
              exact hK _ hC (Below.refl _ _)
            · -- 2
              intro vs a W K ha hC hD hU hK
              have r143 : a.tmps[143]? = some (vs 1) := by rw [ha]; exact fillA_get0 (j := 1) (by kernel_rfl) (by rw [hsz]; decide)
              have q1 : vs 1 = .bool true := hD 1 (by simp [waits, Region.binds])
              rw [q1] at r143
              clear ha hU hD
              rw [if_pos (by rfl)]
              go_simp
              exact hK _ hC (Below.refl _ _)
            · -- 3
              intro vs a W K ha hC hD hU hK
              have r144 : a.tmps[144]? = some (vs 2) := by rw [ha]; exact fillA_get0 (j := 2) (by kernel_rfl) (by rw [hsz]; decide)
              have q2 : vs 2 = .bool true := hD 2 (by simp [waits, Region.binds])
              rw [q2] at r144
              have r15 : a.tmps[15]? = some (.int .i64 0) := by rw [ha, fillA_base0 (by kernel_rfl)]; exact b15
              clear ha hU hD
              rw [if_pos (by simp [Region.wanted, yielded, r144])]
              go_simp
              exact hK _ hC (Below.refl _ _)
            · -- 4
              intro vs a W K ha hC hD hU hK
              have r144 : a.tmps[144]? = some (vs 2) := by rw [ha]; exact fillA_get0 (j := 2) (by kernel_rfl) (by rw [hsz]; decide)
              have q2 : vs 2 = .bool true := hD 2 (by simp [waits, Region.binds])
              rw [q2] at r144
              have r145 : a.tmps[145]? = some (vs 3) := by rw [ha]; exact fillA_get0 (j := 3) (by kernel_rfl) (by rw [hsz]; decide)
              have q3 : vs 3 = .int .i64 0 := hD 3 (by simp [waits, Region.binds])
              rw [q3] at r145
              clear ha hU hD
              rw [if_pos (by simp [Region.wanted, yielded, r144])]
              go_simp
              exact hK _ hC (Below.refl _ _)
            · -- 5
              intro vs a W K ha hC hD hU hK
              have r144 : a.tmps[144]? = some (vs 2) := by rw [ha]; exact fillA_get0 (j := 2) (by kernel_rfl) (by rw [hsz]; decide)
              have q2 : vs 2 = .bool true := hD 2 (by simp [waits, Region.binds])
              rw [q2] at r144
              have r146 : a.tmps[146]? = some (vs 4) := by rw [ha]; exact fillA_get0 (j := 4) (by kernel_rfl) (by rw [hsz]; decide)
              have q4 : vs 4 = .bool true := hD 4 (by simp [waits, Region.binds])
              rw [q4] at r146
              clear ha hU hD
              rw [if_pos (by rfl)]
              go_simp
              exact hK _ hC (Below.refl _ _)
            · -- 6
              intro vs a W K ha hC hD hU hK
              have r147 : a.tmps[147]? = some (vs 5) := by rw [ha]; exact fillA_get0 (j := 5) (by kernel_rfl) (by rw [hsz]; decide)
              have q5 : vs 5 = .bool true := hD 5 (by simp [waits, Region.binds])
              rw [q5] at r147
              clear ha hU hD
              rw [if_pos (by rfl)]
              go_simp
              exact hK _ hC (Below.refl _ _)
            · -- 7
              intro vs a W K ha hC hD hU hK
              have r148 : a.tmps[148]? = some (vs 6) := by rw [ha]; exact fillA_get0 (j := 6) (by kernel_rfl) (by rw [hsz]; decide)
              have q6 : vs 6 = .bool true := hD 6 (by simp [waits, Region.binds])
              rw [q6] at r148
              have r17 : a.tmps[17]? = some (.int .i64 0) := by rw [ha, fillA_base0 (by kernel_rfl)]; exact b17
              clear ha hU hD
              rw [if_pos (by simp [Region.wanted, yielded, r148])]
              go_simp
              exact hK _ hC (Below.refl _ _)
            · -- 8
              intro vs a W K ha hC hD hU hK
              have r148 : a.tmps[148]? = some (vs 6) := by rw [ha]; exact fillA_get0 (j := 6) (by kernel_rfl) (by rw [hsz]; decide)
              have q6 : vs 6 = .bool true := hD 6 (by simp [waits, Region.binds])
              rw [q6] at r148
              have r149 : a.tmps[149]? = some (vs 7) := by rw [ha]; exact fillA_get0 (j := 7) (by kernel_rfl) (by rw [hsz]; decide)
              have q7 : vs 7 = .int .i64 0 := hD 7 (by simp [waits, Region.binds])
              rw [q7] at r149
              clear ha hU hD
              rw [if_pos (by simp [Region.wanted, yielded, r148])]
              go_simp
              exact hK _ hC (Below.refl _ _)
            · -- 9
              intro vs a W K ha hC hD hU hK
              have r148 : a.tmps[148]? = some (vs 6) := by rw [ha]; exact fillA_get0 (j := 6) (by kernel_rfl) (by rw [hsz]; decide)
              have q6 : vs 6 = .bool true := hD 6 (by simp [waits, Region.binds])
              rw [q6] at r148
              have r150 : a.tmps[150]? = some (vs 8) := by rw [ha]; exact fillA_get0 (j := 8) (by kernel_rfl) (by rw [hsz]; decide)
              have q8 : vs 8 = .bool true := hD 8 (by simp [waits, Region.binds])
              rw [q8] at r150
              clear ha hU hD
              rw [if_pos (by rfl)]
              go_simp
              exact hK _ hC (Below.refl _ _)
            · -- 10
              intro vs a W K ha hC hD hU hK
              have r151 : a.tmps[151]? = some (vs 9) := by rw [ha]; exact fillA_get0 (j := 9) (by kernel_rfl) (by rw [hsz]; decide)
              have q9 : vs 9 = .bool true := hD 9 (by simp [waits, Region.binds])
              rw [q9] at r151
              clear ha hU hD
              rw [if_pos (by rfl)]
              go_simp
              exact hK _ hC (Below.refl _ _)
            · -- 11
              intro vs a W K ha hC hD hU hK
              have r152 : a.tmps[152]? = some (vs 10) := by rw [ha]; exact fillA_get0 (j := 10) (by kernel_rfl) (by rw [hsz]; decide)
              have q10 : vs 10 = .bool true := hD 10 (by simp [waits, Region.binds])
              rw [q10] at r152
              have r20 : a.tmps[20]? = some (.int .i64 0) := by rw [ha, fillA_base0 (by kernel_rfl)]; exact b20
              clear ha hU hD
              rw [if_pos (by simp [Region.wanted, yielded, r152])]
              go_simp
              exact hK _ hC (Below.refl _ _)
            · -- 12
              intro vs a W K ha hC hD hU hK
              have r152 : a.tmps[152]? = some (vs 10) := by rw [ha]; exact fillA_get0 (j := 10) (by kernel_rfl) (by rw [hsz]; decide)
              have q10 : vs 10 = .bool true := hD 10 (by simp [waits, Region.binds])
              rw [q10] at r152
              have r153 : a.tmps[153]? = some (vs 11) := by rw [ha]; exact fillA_get0 (j := 11) (by kernel_rfl) (by rw [hsz]; decide)
              have q11 : vs 11 = .int .i64 0 := hD 11 (by simp [waits, Region.binds])
              rw [q11] at r153
              clear ha hU hD
              rw [if_pos (by simp [Region.wanted, yielded, r152])]
              go_simp
              exact hK _ hC (Below.refl _ _)
            · -- 13
              intro vs a W K ha hC hD hU hK
              have r152 : a.tmps[152]? = some (vs 10) := by rw [ha]; exact fillA_get0 (j := 10) (by kernel_rfl) (by rw [hsz]; decide)
              have q10 : vs 10 = .bool true := hD 10 (by simp [waits, Region.binds])
              rw [q10] at r152
              have r154 : a.tmps[154]? = some (vs 12) := by rw [ha]; exact fillA_get0 (j := 12) (by kernel_rfl) (by rw [hsz]; decide)
              have q12 : vs 12 = .bool true := hD 12 (by simp [waits, Region.binds])
              rw [q12] at r154
              clear ha hU hD
              rw [if_pos (by rfl)]
              go_simp
              exact hK _ hC (Below.refl _ _)
            · -- 14
              intro vs a W K ha hC hD hU hK
              have r155 : a.tmps[155]? = some (vs 13) := by rw [ha]; exact fillA_get0 (j := 13) (by kernel_rfl) (by rw [hsz]; decide)
              have q13 : vs 13 = .bool true := hD 13 (by simp [waits, Region.binds])
              rw [q13] at r155
              clear ha hU hD
              rw [if_pos (by rfl)]
              go_simp
              exact hK _ hC (Below.refl _ _)
            · -- 15
              intro vs a W K ha hC hD hU hK
              have r156 : a.tmps[156]? = some (vs 14) := by rw [ha]; exact fillA_get0 (j := 14) (by kernel_rfl) (by rw [hsz]; decide)
              have q14 : vs 14 = .bool true := hD 14 (by simp [waits, Region.binds])
              rw [q14] at r156
              have r23 : a.tmps[23]? = some (.int .i64 0) := by rw [ha, fillA_base0 (by kernel_rfl)]; exact b23
              clear ha hU hD
              rw [if_pos (by simp [Region.wanted, yielded, r156])]
              go_simp
              exact hK _ hC (Below.refl _ _)
            · -- 16
              intro vs a W K ha hC hD hU hK
              have r156 : a.tmps[156]? = some (vs 14) := by rw [ha]; exact fillA_get0 (j := 14) (by kernel_rfl) (by rw [hsz]; decide)
              have q14 : vs 14 = .bool true := hD 14 (by simp [waits, Region.binds])
              rw [q14] at r156
              have r157 : a.tmps[157]? = some (vs 15) := by rw [ha]; exact fillA_get0 (j := 15) (by kernel_rfl) (by rw [hsz]; decide)
              have q15 : vs 15 = .int .i64 0 := hD 15 (by simp [waits, Region.binds])
              rw [q15] at r157
              clear ha hU hD
              rw [if_pos (by simp [Region.wanted, yielded, r156])]
              go_simp
              exact hK _ hC (Below.refl _ _)
            · -- 17
              intro vs a W K ha hC hD hU hK
              have r156 : a.tmps[156]? = some (vs 14) := by rw [ha]; exact fillA_get0 (j := 14) (by kernel_rfl) (by rw [hsz]; decide)
              have q14 : vs 14 = .bool true := hD 14 (by simp [waits, Region.binds])
              rw [q14] at r156
              have r158 : a.tmps[158]? = some (vs 16) := by rw [ha]; exact fillA_get0 (j := 16) (by kernel_rfl) (by rw [hsz]; decide)
              have q16 : vs 16 = .bool true := hD 16 (by simp [waits, Region.binds])
              rw [q16] at r158
              clear ha hU hD
              rw [if_pos (by rfl)]
              go_simp
              exact hK _ hC (Below.refl _ _)
            · -- 18
              intro vs a W K ha hC hD hU hK
              have r159 : a.tmps[159]? = some (vs 17) := by rw [ha]; exact fillA_get0 (j := 17) (by kernel_rfl) (by rw [hsz]; decide)
              have q17 : vs 17 = .bool true := hD 17 (by simp [waits, Region.binds])
              rw [q17] at r159
              clear ha hU hD
              rw [if_pos (by rfl)]
              go_simp
              exact hK _ hC (Below.refl _ _)
            · -- 19
              intro vs a W K ha hC hD hU hK
              have r160 : a.tmps[160]? = some (vs 18) := by rw [ha]; exact fillA_get0 (j := 18) (by kernel_rfl) (by rw [hsz]; decide)
              have q18 : vs 18 = .bool true := hD 18 (by simp [waits, Region.binds])
              rw [q18] at r160
              have r14 : a.tmps[14]? = some (.pointer (some ⟨g14, 0, none⟩)) := by rw [ha, fillA_base0 (by kernel_rfl)]; exact b14
              clear ha hU hD
              rw [if_pos (by simp [Region.wanted, yielded, r160])]
              go_simp
              exact hK _ hC (Below.refl _ _)
            · -- 20
              intro vs a W K ha hC hD hU hK
              have r160 : a.tmps[160]? = some (vs 18) := by rw [ha]; exact fillA_get0 (j := 18) (by kernel_rfl) (by rw [hsz]; decide)
              have q18 : vs 18 = .bool true := hD 18 (by simp [waits, Region.binds])
              rw [q18] at r160
              have r161 : a.tmps[161]? = some (vs 19) := by rw [ha]; exact fillA_get0 (j := 19) (by kernel_rfl) (by rw [hsz]; decide)
              have q19 : vs 19 = .pointer (some ⟨g14, 0, none⟩) := hD 19 (by simp [waits, Region.binds])
              rw [q19] at r161
              clear ha hU hD
              rw [if_pos (by simp [Region.wanted, yielded, r160])]
              obtain ⟨k0, k1, k2, k3, k4, k5⟩ := kl.out W hC
              go_simp
              exact hK _ hC (Below.refl _ _)
            · -- 21
              intro vs a W K ha hC hD hU hK
              have r160 : a.tmps[160]? = some (vs 18) := by rw [ha]; exact fillA_get0 (j := 18) (by kernel_rfl) (by rw [hsz]; decide)
              have q18 : vs 18 = .bool true := hD 18 (by simp [waits, Region.binds])
              rw [q18] at r160
              have r12 : a.tmps[12]? = some (.pointer (some ⟨g12, 0, none⟩)) := by rw [ha, fillA_base0 (by kernel_rfl)]; exact b12
              clear ha hU hD
              rw [if_pos (by simp [Region.wanted, yielded, r160])]
              go_simp
              exact hK _ hC (Below.refl _ _)
            · -- 22
              intro vs a W K ha hC hD hU hK
              have r160 : a.tmps[160]? = some (vs 18) := by rw [ha]; exact fillA_get0 (j := 18) (by kernel_rfl) (by rw [hsz]; decide)
              have q18 : vs 18 = .bool true := hD 18 (by simp [waits, Region.binds])
              rw [q18] at r160
              have r163 : a.tmps[163]? = some (vs 21) := by rw [ha]; exact fillA_get0 (j := 21) (by kernel_rfl) (by rw [hsz]; decide)
              have q21 : vs 21 = .pointer (some ⟨g12, 0, none⟩) := hD 21 (by simp [waits, Region.binds])
              rw [q21] at r163
              clear ha hU hD
              rw [if_pos (by simp [Region.wanted, yielded, r160])]
              obtain ⟨k0, k1, k2, k3, k4, k5⟩ := kl.out W hC
              go_simp
              exact hK _ hC (Below.refl _ _)
            · -- 23
              intro vs a W K ha hC hD hU hK
              have r160 : a.tmps[160]? = some (vs 18) := by rw [ha]; exact fillA_get0 (j := 18) (by kernel_rfl) (by rw [hsz]; decide)
              have q18 : vs 18 = .bool true := hD 18 (by simp [waits, Region.binds])
              rw [q18] at r160
              have r162 : a.tmps[162]? = some (vs 20) := by rw [ha]; exact fillA_get0 (j := 20) (by kernel_rfl) (by rw [hsz]; decide)
              have q20 : vs 20 = .int .i64 e1 := hD 20 (by simp [waits, Region.binds])
              rw [q20] at r162
              have r164 : a.tmps[164]? = some (vs 22) := by rw [ha]; exact fillA_get0 (j := 22) (by kernel_rfl) (by rw [hsz]; decide)
              have q22 : vs 22 = .int .i64 a1 := hD 22 (by simp [waits, Region.binds])
              rw [q22] at r164
              clear ha hU hD
              rw [if_pos (by simp [Region.wanted, yielded, r160])]
              go_simp
              exact hK _ hC (Below.refl _ _)
            · -- 24
              intro vs a W K ha hC hD hU hK
              have r160 : a.tmps[160]? = some (vs 18) := by rw [ha]; exact fillA_get0 (j := 18) (by kernel_rfl) (by rw [hsz]; decide)
              have q18 : vs 18 = .bool true := hD 18 (by simp [waits, Region.binds])
              rw [q18] at r160
              have r165 : a.tmps[165]? = some (vs 23) := by rw [ha]; exact fillA_get0 (j := 23) (by kernel_rfl) (by rw [hsz]; decide)
              have q23 : vs 23 = .bool true := hD 23 (by simp [waits, Region.binds])
              rw [q23] at r165
              clear ha hU hD
              rw [if_pos (by rfl)]
              go_simp
              exact hK _ hC (Below.refl _ _)
            · -- 25
              intro vs a W K ha hC hD hU hK
              have r166 : a.tmps[166]? = some (vs 24) := by rw [ha]; exact fillA_get0 (j := 24) (by kernel_rfl) (by rw [hsz]; decide)
              have q24 : vs 24 = .bool true := hD 24 (by simp [waits, Region.binds])
              rw [q24] at r166
              clear ha hU hD
              rw [if_pos (by rfl)]
              go_simp
              exact hK _ hC (Below.refl _ _)
            · -- 26
              intro vs a W K ha hC hD hU hK
              have r167 : a.tmps[167]? = some (vs 25) := by rw [ha]; exact fillA_get0 (j := 25) (by kernel_rfl) (by rw [hsz]; decide)
              have q25 : vs 25 = .bool true := hD 25 (by simp [waits, Region.binds])
              rw [q25] at r167
              have r14 : a.tmps[14]? = some (.pointer (some ⟨g14, 0, none⟩)) := by rw [ha, fillA_base0 (by kernel_rfl)]; exact b14
              clear ha hU hD
              rw [if_pos (by simp [Region.wanted, yielded, r167])]
              go_simp
              exact hK _ hC (Below.refl _ _)
            · -- 27
              intro vs a W K ha hC hD hU hK
              have r167 : a.tmps[167]? = some (vs 25) := by rw [ha]; exact fillA_get0 (j := 25) (by kernel_rfl) (by rw [hsz]; decide)
              have q25 : vs 25 = .bool true := hD 25 (by simp [waits, Region.binds])
              rw [q25] at r167
              have r168 : a.tmps[168]? = some (vs 26) := by rw [ha]; exact fillA_get0 (j := 26) (by kernel_rfl) (by rw [hsz]; decide)
              have q26 : vs 26 = .pointer (some ⟨g14, 1, none⟩) := hD 26 (by simp [waits, Region.binds])
              rw [q26] at r168
              clear ha hU hD
              rw [if_pos (by simp [Region.wanted, yielded, r167])]
              obtain ⟨k0, k1, k2, k3, k4, k5⟩ := kl.out W hC
              go_simp
              exact hK _ hC (Below.refl _ _)
            · -- 28
              intro vs a W K ha hC hD hU hK
              have r167 : a.tmps[167]? = some (vs 25) := by rw [ha]; exact fillA_get0 (j := 25) (by kernel_rfl) (by rw [hsz]; decide)
              have q25 : vs 25 = .bool true := hD 25 (by simp [waits, Region.binds])
              rw [q25] at r167
              have r12 : a.tmps[12]? = some (.pointer (some ⟨g12, 0, none⟩)) := by rw [ha, fillA_base0 (by kernel_rfl)]; exact b12
              clear ha hU hD
              rw [if_pos (by simp [Region.wanted, yielded, r167])]
              go_simp
              exact hK _ hC (Below.refl _ _)
            · -- 29
              intro vs a W K ha hC hD hU hK
              have r167 : a.tmps[167]? = some (vs 25) := by rw [ha]; exact fillA_get0 (j := 25) (by kernel_rfl) (by rw [hsz]; decide)
              have q25 : vs 25 = .bool true := hD 25 (by simp [waits, Region.binds])
              rw [q25] at r167
              have r170 : a.tmps[170]? = some (vs 28) := by rw [ha]; exact fillA_get0 (j := 28) (by kernel_rfl) (by rw [hsz]; decide)
              have q28 : vs 28 = .pointer (some ⟨g12, 1, none⟩) := hD 28 (by simp [waits, Region.binds])
              rw [q28] at r170
              clear ha hU hD
              rw [if_pos (by simp [Region.wanted, yielded, r167])]
              obtain ⟨k0, k1, k2, k3, k4, k5⟩ := kl.out W hC
              go_simp
              exact hK _ hC (Below.refl _ _)
            · -- 30
              intro vs a W K ha hC hD hU hK
              have r167 : a.tmps[167]? = some (vs 25) := by rw [ha]; exact fillA_get0 (j := 25) (by kernel_rfl) (by rw [hsz]; decide)
              have q25 : vs 25 = .bool true := hD 25 (by simp [waits, Region.binds])
              rw [q25] at r167
              have r169 : a.tmps[169]? = some (vs 27) := by rw [ha]; exact fillA_get0 (j := 27) (by kernel_rfl) (by rw [hsz]; decide)
              have q27 : vs 27 = .int .i64 e2 := hD 27 (by simp [waits, Region.binds])
              rw [q27] at r169
              have r171 : a.tmps[171]? = some (vs 29) := by rw [ha]; exact fillA_get0 (j := 29) (by kernel_rfl) (by rw [hsz]; decide)
              have q29 : vs 29 = .int .i64 a2 := hD 29 (by simp [waits, Region.binds])
              rw [q29] at r171
              clear ha hU hD
              rw [if_pos (by simp [Region.wanted, yielded, r167])]
              go_simp
              exact hK _ hC (Below.refl _ _)
            · -- 31
              intro vs a W K ha hC hD hU hK
              have r167 : a.tmps[167]? = some (vs 25) := by rw [ha]; exact fillA_get0 (j := 25) (by kernel_rfl) (by rw [hsz]; decide)
              have q25 : vs 25 = .bool true := hD 25 (by simp [waits, Region.binds])
              rw [q25] at r167
              have r172 : a.tmps[172]? = some (vs 30) := by rw [ha]; exact fillA_get0 (j := 30) (by kernel_rfl) (by rw [hsz]; decide)
              have q30 : vs 30 = .bool true := hD 30 (by simp [waits, Region.binds])
              rw [q30] at r172
              clear ha hU hD
              rw [if_pos (by rfl)]
              go_simp
              exact hK _ hC (Below.refl _ _)
            · -- 32
              intro vs a W K ha hC hD hU hK
              have r173 : a.tmps[173]? = some (vs 31) := by rw [ha]; exact fillA_get0 (j := 31) (by kernel_rfl) (by rw [hsz]; decide)
              have q31 : vs 31 = .bool true := hD 31 (by simp [waits, Region.binds])
              rw [q31] at r173
              clear ha hU hD
              rw [if_pos (by rfl)]
              go_simp
              exact hK _ hC (Below.refl _ _)
            · -- 33
              intro vs a W K ha hC hD hU hK
              have r174 : a.tmps[174]? = some (vs 32) := by rw [ha]; exact fillA_get0 (j := 32) (by kernel_rfl) (by rw [hsz]; decide)
              have q32 : vs 32 = .bool true := hD 32 (by simp [waits, Region.binds])
              rw [q32] at r174
              have r16 : a.tmps[16]? = some (.pointer (some ⟨g16, 0, none⟩)) := by rw [ha, fillA_base0 (by kernel_rfl)]; exact b16
              clear ha hU hD
              rw [if_pos (by simp [Region.wanted, yielded, r174])]
              obtain ⟨k0, k1, k2, k3, k4, k5⟩ := kl.out W hC
              go_simp
              exact hK _ hC (Below.refl _ _)
            · -- 34
              intro vs a W K ha hC hD hU hK
              have r174 : a.tmps[174]? = some (vs 32) := by rw [ha]; exact fillA_get0 (j := 32) (by kernel_rfl) (by rw [hsz]; decide)
              have q32 : vs 32 = .bool true := hD 32 (by simp [waits, Region.binds])
              rw [q32] at r174
              have r12 : a.tmps[12]? = some (.pointer (some ⟨g12, 0, none⟩)) := by rw [ha, fillA_base0 (by kernel_rfl)]; exact b12
              clear ha hU hD
              rw [if_pos (by simp [Region.wanted, yielded, r174])]
              go_simp
              exact hK _ hC (Below.refl _ _)
            · -- 35
              intro vs a W K ha hC hD hU hK
              have r174 : a.tmps[174]? = some (vs 32) := by rw [ha]; exact fillA_get0 (j := 32) (by kernel_rfl) (by rw [hsz]; decide)
              have q32 : vs 32 = .bool true := hD 32 (by simp [waits, Region.binds])
              rw [q32] at r174
              have r176 : a.tmps[176]? = some (vs 34) := by rw [ha]; exact fillA_get0 (j := 34) (by kernel_rfl) (by rw [hsz]; decide)
              have q34 : vs 34 = .pointer (some ⟨g12, 0, none⟩) := hD 34 (by simp [waits, Region.binds])
              rw [q34] at r176
              clear ha hU hD
              rw [if_pos (by simp [Region.wanted, yielded, r174])]
              obtain ⟨k0, k1, k2, k3, k4, k5⟩ := kl.out W hC
              go_simp
              exact hK _ hC (Below.refl _ _)
            · -- 36
              intro vs a W K ha hC hD hU hK
              have r174 : a.tmps[174]? = some (vs 32) := by rw [ha]; exact fillA_get0 (j := 32) (by kernel_rfl) (by rw [hsz]; decide)
              have q32 : vs 32 = .bool true := hD 32 (by simp [waits, Region.binds])
              rw [q32] at r174
              have r11 : a.tmps[11]? = some (.int .i64 by4) := by rw [ha, fillA_base0 (by kernel_rfl)]; exact b11
              clear ha hU hD
              rw [if_pos (by simp [Region.wanted, yielded, r174])]
              go_simp
              exact hK _ hC (Below.refl _ _)
            · -- 37
              intro vs a W K ha hC hD hU hK
              have r174 : a.tmps[174]? = some (vs 32) := by rw [ha]; exact fillA_get0 (j := 32) (by kernel_rfl) (by rw [hsz]; decide)
              have q32 : vs 32 = .bool true := hD 32 (by simp [waits, Region.binds])
              rw [q32] at r174
              have r177 : a.tmps[177]? = some (vs 35) := by rw [ha]; exact fillA_get0 (j := 35) (by kernel_rfl) (by rw [hsz]; decide)
              have q35 : vs 35 = .int .i64 a1 := hD 35 (by simp [waits, Region.binds])
              rw [q35] at r177
              have r178 : a.tmps[178]? = some (vs 36) := by rw [ha]; exact fillA_get0 (j := 36) (by kernel_rfl) (by rw [hsz]; decide)
              have q36 : vs 36 = .int .i64 by4 := hD 36 (by simp [waits, Region.binds])
              rw [q36] at r178
              clear ha hU hD
              rw [if_pos (by simp [Region.wanted, yielded, r174])]
              go_simp
              exact hK _ hC (Below.refl _ _)
            · -- 38
              intro vs a W K ha hC hD hU hK
              have r174 : a.tmps[174]? = some (vs 32) := by rw [ha]; exact fillA_get0 (j := 32) (by kernel_rfl) (by rw [hsz]; decide)
              have q32 : vs 32 = .bool true := hD 32 (by simp [waits, Region.binds])
              rw [q32] at r174
              have r12 : a.tmps[12]? = some (.pointer (some ⟨g12, 0, none⟩)) := by rw [ha, fillA_base0 (by kernel_rfl)]; exact b12
              clear ha hU hD
              rw [if_pos (by simp [Region.wanted, yielded, r174])]
              go_simp
              exact hK _ hC (Below.refl _ _)
            · -- 39
              intro vs a W K ha hC hD hU hK
              have r174 : a.tmps[174]? = some (vs 32) := by rw [ha]; exact fillA_get0 (j := 32) (by kernel_rfl) (by rw [hsz]; decide)
              have q32 : vs 32 = .bool true := hD 32 (by simp [waits, Region.binds])
              rw [q32] at r174
              have r180 : a.tmps[180]? = some (vs 38) := by rw [ha]; exact fillA_get0 (j := 38) (by kernel_rfl) (by rw [hsz]; decide)
              have q38 : vs 38 = .pointer (some ⟨g12, 1, none⟩) := hD 38 (by simp [waits, Region.binds])
              rw [q38] at r180
              clear ha hU hD
              rw [if_pos (by simp [Region.wanted, yielded, r174])]
              obtain ⟨k0, k1, k2, k3, k4, k5⟩ := kl.out W hC
              go_simp
              exact hK _ hC (Below.refl _ _)
            · -- 40
              intro vs a W K ha hC hD hU hK
              have r174 : a.tmps[174]? = some (vs 32) := by rw [ha]; exact fillA_get0 (j := 32) (by kernel_rfl) (by rw [hsz]; decide)
              have q32 : vs 32 = .bool true := hD 32 (by simp [waits, Region.binds])
              rw [q32] at r174
              have r11 : a.tmps[11]? = some (.int .i64 by4) := by rw [ha, fillA_base0 (by kernel_rfl)]; exact b11
              clear ha hU hD
              rw [if_pos (by simp [Region.wanted, yielded, r174])]
              go_simp
              exact hK _ hC (Below.refl _ _)
            · -- 41
              intro vs a W K ha hC hD hU hK
              have r174 : a.tmps[174]? = some (vs 32) := by rw [ha]; exact fillA_get0 (j := 32) (by kernel_rfl) (by rw [hsz]; decide)
              have q32 : vs 32 = .bool true := hD 32 (by simp [waits, Region.binds])
              rw [q32] at r174
              have r181 : a.tmps[181]? = some (vs 39) := by rw [ha]; exact fillA_get0 (j := 39) (by kernel_rfl) (by rw [hsz]; decide)
              have q39 : vs 39 = .int .i64 a2 := hD 39 (by simp [waits, Region.binds])
              rw [q39] at r181
              have r182 : a.tmps[182]? = some (vs 40) := by rw [ha]; exact fillA_get0 (j := 40) (by kernel_rfl) (by rw [hsz]; decide)
              have q40 : vs 40 = .int .i64 by4 := hD 40 (by simp [waits, Region.binds])
              rw [q40] at r182
              clear ha hU hD
              rw [if_pos (by simp [Region.wanted, yielded, r174])]
              go_simp
              exact hK _ hC (Below.refl _ _)
            · -- 42
              intro vs a W K ha hC hD hU hK
              have r174 : a.tmps[174]? = some (vs 32) := by rw [ha]; exact fillA_get0 (j := 32) (by kernel_rfl) (by rw [hsz]; decide)
              have q32 : vs 32 = .bool true := hD 32 (by simp [waits, Region.binds])
              rw [q32] at r174
              have r179 : a.tmps[179]? = some (vs 37) := by rw [ha]; exact fillA_get0 (j := 37) (by kernel_rfl) (by rw [hsz]; decide)
              have q37 : vs 37 = .int .i64 (a1 + by4) := hD 37 (by simp [waits, Region.binds])
              rw [q37] at r179
              have r183 : a.tmps[183]? = some (vs 41) := by rw [ha]; exact fillA_get0 (j := 41) (by kernel_rfl) (by rw [hsz]; decide)
              have q41 : vs 41 = .int .i64 (a2 + by4) := hD 41 (by simp [waits, Region.binds])
              rw [q41] at r183
              clear ha hU hD
              rw [if_pos (by simp [Region.wanted, yielded, r174])]
              go_simp
              refine (span8_any (a1 + by4) (a2 + by4) W).mono ?_
              rintro e w' ⟨rfl, hb⟩
              exact hK _ (bl_call hC hb (Nat.le_refl _)) hb
            · -- 43
              intro vs a W K ha hC hD hU hK
              have r174 : a.tmps[174]? = some (vs 32) := by rw [ha]; exact fillA_get0 (j := 32) (by kernel_rfl) (by rw [hsz]; decide)
              have q32 : vs 32 = .bool true := hD 32 (by simp [waits, Region.binds])
              rw [q32] at r174
              have r175 : a.tmps[175]? = some (vs 33) := by rw [ha]; exact fillA_get0 (j := 33) (by kernel_rfl) (by rw [hsz]; decide)
              have q33 : vs 33 = .agg #[.int .i64 (a1 + by4), .int .i64 (a2 + by4)] := hD 33 (by simp [waits, Region.binds])
              rw [q33] at r175
              have r184 : a.tmps[184]? = some (vs 42) := by rw [ha]; exact fillA_get0 (j := 42) (by kernel_rfl) (by rw [hsz]; decide)
              have q42 : vs 42 = .agg #[.int .i64 (a1 + by4), .int .i64 (a2 + by4)] := hD 42 (by simp [waits, Region.binds])
              rw [q42] at r184
              clear ha hU hD
              rw [if_pos (by simp [Region.wanted, yielded, r174])]
              go_simp
              exact hK _ hC (Below.refl _ _)
            · -- 44
              intro vs a W K ha hC hD hU hK
              have r174 : a.tmps[174]? = some (vs 32) := by rw [ha]; exact fillA_get0 (j := 32) (by kernel_rfl) (by rw [hsz]; decide)
              have q32 : vs 32 = .bool true := hD 32 (by simp [waits, Region.binds])
              rw [q32] at r174
              have r185 : a.tmps[185]? = some (vs 43) := by rw [ha]; exact fillA_get0 (j := 43) (by kernel_rfl) (by rw [hsz]; decide)
              have q43 : vs 43 = .bool true := hD 43 (by simp [waits, Region.binds])
              rw [q43] at r185
              clear ha hU hD
              rw [if_pos (by rfl)]
              go_simp
              exact hK _ hC (Below.refl _ _)
            · -- 45
              intro vs a W K ha hC hD hU hK
              have r186 : a.tmps[186]? = some (vs 44) := by rw [ha]; exact fillA_get0 (j := 44) (by kernel_rfl) (by rw [hsz]; decide)
              have q44 : vs 44 = .bool true := hD 44 (by simp [waits, Region.binds])
              rw [q44] at r186
              clear ha hU hD
              rw [if_pos (by rfl)]
              go_simp
              exact hK _ hC (Below.refl _ _)
            · -- 46
              intro vs a W K ha hC hD hU hK
              have r187 : a.tmps[187]? = some (vs 45) := by rw [ha]; exact fillA_get0 (j := 45) (by kernel_rfl) (by rw [hsz]; decide)
              have q45 : vs 45 = .bool true := hD 45 (by simp [waits, Region.binds])
              rw [q45] at r187
              have r18 : a.tmps[18]? = some (.int .i64 0) := by rw [ha, fillA_base0 (by kernel_rfl)]; exact b18
              clear ha hU hD
              rw [if_pos (by simp [Region.wanted, yielded, r187])]
              go_simp
              exact hK _ hC (Below.refl _ _)
            · -- 47
              intro vs a W K ha hC hD hU hK
              have r187 : a.tmps[187]? = some (vs 45) := by rw [ha]; exact fillA_get0 (j := 45) (by kernel_rfl) (by rw [hsz]; decide)
              have q45 : vs 45 = .bool true := hD 45 (by simp [waits, Region.binds])
              rw [q45] at r187
              have r188 : a.tmps[188]? = some (vs 46) := by rw [ha]; exact fillA_get0 (j := 46) (by kernel_rfl) (by rw [hsz]; decide)
              have q46 : vs 46 = .int .i64 0 := hD 46 (by simp [waits, Region.binds])
              rw [q46] at r188
              clear ha hU hD
              rw [if_pos (by simp [Region.wanted, yielded, r187])]
              go_simp
              exact hK _ hC (Below.refl _ _)
            · -- 48
              intro vs a W K ha hC hD hU hK
              have r187 : a.tmps[187]? = some (vs 45) := by rw [ha]; exact fillA_get0 (j := 45) (by kernel_rfl) (by rw [hsz]; decide)
              have q45 : vs 45 = .bool true := hD 45 (by simp [waits, Region.binds])
              rw [q45] at r187
              have r189 : a.tmps[189]? = some (vs 47) := by rw [ha]; exact fillA_get0 (j := 47) (by kernel_rfl) (by rw [hsz]; decide)
              have q47 : vs 47 = .bool false := hD 47 (by simp [waits, Region.binds])
              rw [q47] at r189
              clear ha hU hD
              rw [if_pos (by simp [Region.wanted, yielded, r187])]
              go_simp
              exact hK _ hC (Below.refl _ _)
            · -- 49
              intro vs a W K ha hC hD hU hK
              have r190 : a.tmps[190]? = some (vs 48) := by rw [ha]; exact fillA_get0 (j := 48) (by kernel_rfl) (by rw [hsz]; decide)
              have q48 : vs 48 = .bool false := hD 48 (by simp [waits, Region.binds])
              rw [q48] at r190
              have r21 : a.tmps[21]? = some (.int .i64 0) := by rw [ha, fillA_base0 (by kernel_rfl)]; exact b21
              clear ha hU hD
              rw [if_pos (by simp [Region.wanted, yielded, r190])]
              go_simp
              exact hK _ hC (Below.refl _ _)
            · -- 50
              intro vs a W K ha hC hD hU hK
              have r190 : a.tmps[190]? = some (vs 48) := by rw [ha]; exact fillA_get0 (j := 48) (by kernel_rfl) (by rw [hsz]; decide)
              have q48 : vs 48 = .bool false := hD 48 (by simp [waits, Region.binds])
              rw [q48] at r190
              have r191 : a.tmps[191]? = some (vs 49) := by rw [ha]; exact fillA_get0 (j := 49) (by kernel_rfl) (by rw [hsz]; decide)
              have q49 : vs 49 = .int .i64 0 := hD 49 (by simp [waits, Region.binds])
              rw [q49] at r191
              clear ha hU hD
              rw [if_pos (by simp [Region.wanted, yielded, r190])]
              go_simp
              exact hK _ hC (Below.refl _ _)
            · -- 51
              intro vs a W K ha hC hD hU hK
              have r187 : a.tmps[187]? = some (vs 45) := by rw [ha]; exact fillA_get0 (j := 45) (by kernel_rfl) (by rw [hsz]; decide)
              have q45 : vs 45 = .bool true := hD 45 (by simp [waits, Region.binds])
              rw [q45] at r187
              have r190 : a.tmps[190]? = some (vs 48) := by rw [ha]; exact fillA_get0 (j := 48) (by kernel_rfl) (by rw [hsz]; decide)
              have q48 : vs 48 = .bool false := hD 48 (by simp [waits, Region.binds])
              rw [q48] at r190
              have r192 : a.tmps[192]? = some (vs 50) := by rw [ha]; exact fillA_get0 (j := 50) (by kernel_rfl) (by rw [hsz]; decide)
              have q50 : vs 50 = .bool true := hD 50 (by simp [waits, Region.binds])
              rw [q50] at r192
              clear ha hU hD
              rw [if_pos (by simp [Region.wanted, yielded, r187])]
              go_simp
              exact hK _ hC (Below.refl _ _)
            · -- 52
              intro vs a W K ha hC hD hU hK
              have r187 : a.tmps[187]? = some (vs 45) := by rw [ha]; exact fillA_get0 (j := 45) (by kernel_rfl) (by rw [hsz]; decide)
              have q45 : vs 45 = .bool true := hD 45 (by simp [waits, Region.binds])
              rw [q45] at r187
              have r193 : a.tmps[193]? = some (vs 51) := by rw [ha]; exact fillA_get0 (j := 51) (by kernel_rfl) (by rw [hsz]; decide)
              have q51 : vs 51 = .bool true := hD 51 (by simp [waits, Region.binds])
              rw [q51] at r193
              clear ha hU hD
              rw [if_pos (by rfl)]
              go_simp
              exact hK _ hC (Below.refl _ _)
            · -- 53
              intro vs a W K ha hC hD hU hK
              have r194 : a.tmps[194]? = some (vs 52) := by rw [ha]; exact fillA_get0 (j := 52) (by kernel_rfl) (by rw [hsz]; decide)
              have q52 : vs 52 = .bool true := hD 52 (by simp [waits, Region.binds])
              rw [q52] at r194
              clear ha hU hD
              rw [if_pos (by rfl)]
              go_simp
              exact hK _ hC (Below.refl _ _)
            · -- 54
              intro vs a W K ha hC hD hU hK
              have r195 : a.tmps[195]? = some (vs 53) := by rw [ha]; exact fillA_get0 (j := 53) (by kernel_rfl) (by rw [hsz]; decide)
              have q53 : vs 53 = .bool true := hD 53 (by simp [waits, Region.binds])
              rw [q53] at r195
              clear ha hU hD
              rw [if_pos (by simp [Region.wanted, yielded, r195])]
              go_simp
              refine (awake_any W).mono ?_
              rintro e w' ⟨rfl, hb⟩
              exact hK _ (bl_call hC hb (Nat.le_refl _)) hb
            · -- 55
              intro vs a W K ha hC hD hU hK
              have r195 : a.tmps[195]? = some (vs 53) := by rw [ha]; exact fillA_get0 (j := 53) (by kernel_rfl) (by rw [hsz]; decide)
              have q53 : vs 53 = .bool true := hD 53 (by simp [waits, Region.binds])
              rw [q53] at r195
              have r196 : a.tmps[196]? = some (vs 54) := by rw [ha]; exact fillA_get0 (j := 54) (by kernel_rfl) (by rw [hsz]; decide)
              have q54 : vs 54 = .bool true := hD 54 (by simp [waits, Region.binds])
              rw [q54] at r196
              clear ha hU hD
              rw [if_pos (by rfl)]
              go_simp
              exact hK _ hC (Below.refl _ _)
            · -- 56
              intro vs a W K ha hC hD hU hK
              have r197 : a.tmps[197]? = some (vs 55) := by rw [ha]; exact fillA_get0 (j := 55) (by kernel_rfl) (by rw [hsz]; decide)
              have q55 : vs 55 = .bool true := hD 55 (by simp [waits, Region.binds])
              rw [q55] at r197
              clear ha hU hD
              rw [if_pos (by rfl)]
              go_simp
              exact hK _ hC (Below.refl _ _)
          case finA =>
            refine Fin1.none (Nat.le_refl _) ?_
            intro vs W a1 hC hE ha
            have e0 : vs 56 = .bool true := hE 56 (by simp)
            have r0 : a1.tmps[6]? = some (vs 56) := by rw [ha]; exact fillA_get0 (j := 56) (by kernel_rfl) (by rw [hsz]; decide)
            have hdf1 : a1.defers = [] := by rw [ha, fillA_defers]; exact hdf
            rw [e0] at r0
            have hBF := bl_call HBF.out hC (Nat.le_refl _)
            clear ha hE hC e0
            go_simp
            go_wp2
            refine bodyPost_ret (results_tmp rfl _ _ _) hdf1 ?_
            exact ⟨by simp [r0], hBF⟩
        · have hwb : (w1 != 0) = true := by simpa using hw0
          clear HDL HW1 HQ1 hw0
          go_wp2_with fail
          refine wp_frame ?_
          intro a0 hsz hget hdf
          have b11 : a0.tmps[11]? = some (.int .i64 by4) := (hget 11).trans (by kernel_rfl)
          have b12 : a0.tmps[12]? = some (.pointer (some ⟨g12, 0, none⟩)) := (hget 12).trans (by kernel_rfl)
          have b13 : a0.tmps[13]? = some (.int .i64 0) := (hget 13).trans (by kernel_rfl)
          have b14 : a0.tmps[14]? = some (.pointer (some ⟨g14, 0, none⟩)) := (hget 14).trans (by kernel_rfl)
          have b15 : a0.tmps[15]? = some (.int .i64 0) := (hget 15).trans (by kernel_rfl)
          have b16 : a0.tmps[16]? = some (.pointer (some ⟨g16, 0, none⟩)) := (hget 16).trans (by kernel_rfl)
          have b17 : a0.tmps[17]? = some (.int .i64 0) := (hget 17).trans (by kernel_rfl)
          have b18 : a0.tmps[18]? = some (.int .i64 w1) := (hget 18).trans (by kernel_rfl)
          have b20 : a0.tmps[20]? = some (.int .i64 0) := (hget 20).trans (by kernel_rfl)
          have b21 : a0.tmps[21]? = some (.int .i64 q1) := (hget 21).trans (by kernel_rfl)
          have b23 : a0.tmps[23]? = some (.int .i64 0) := (hget 23).trans (by kernel_rfl)
          replace hsz : a0.tmps.size = 198 := hsz.trans (by kernel_rfl)
          replace hdf : a0.defers = [] := hdf
          clear hget
          refine wp_region_list (fun W => Below X8.heap.size X8 W) (fun w w' => Below w.heap.size w w')
            [isV (.int .i64 0), isV (.bool true), isV (.bool true), isV (.int .i64 0), isV (.bool true), isV (.bool true), isV (.bool true), isV (.int .i64 0), isV (.bool true), isV (.bool true), isV (.bool true), isV (.int .i64 0), isV (.bool true), isV (.bool true), isV (.bool true), isV (.int .i64 0), isV (.bool true), isV (.bool true), isV (.bool true), isV (.pointer (some ⟨g14, 0, none⟩)), isV (.int .i64 e1), isV (.pointer (some ⟨g12, 0, none⟩)), isV (.int .i64 a1), isV (.bool true), isV (.bool true), isV (.bool true), isV (.pointer (some ⟨g14, 1, none⟩)), isV (.int .i64 e2), isV (.pointer (some ⟨g12, 1, none⟩)), isV (.int .i64 a2), isV (.bool true), isV (.bool true), isV (.bool true), isV (.agg #[.int .i64 (a1 + by4), .int .i64 (a2 + by4)]), isV (.pointer (some ⟨g12, 0, none⟩)), isV (.int .i64 a1), isV (.int .i64 by4), isV (.int .i64 (a1 + by4)), isV (.pointer (some ⟨g12, 1, none⟩)), isV (.int .i64 a2), isV (.int .i64 by4), isV (.int .i64 (a2 + by4)), isV (.agg #[.int .i64 (a1 + by4), .int .i64 (a2 + by4)]), isV (.bool true), isV (.bool true), isV (.bool true), isV (.int .i64 w1), isV (.bool true), isV (.bool true), isV (undef), isV (undef), isV (.bool true), isV (.bool true), isV (.bool true), isV (.bool true), isV (.bool true), isV (.bool true)]
            (by kernel_rfl) (by kernel_rfl) (by kernel_rfl) (by simp) (by simp) (Below.refl _ _).drew ?stabA ?stepA ?finA
          case stabA => exact (StabL.is (StabL.is (StabL.is (StabL.is (StabL.is (StabL.is (StabL.is (StabL.is (StabL.is (StabL.is (StabL.is (StabL.is (StabL.is (StabL.is (StabL.is (StabL.is (StabL.is (StabL.is (StabL.is (StabL.is (StabL.is (StabL.is (StabL.is (StabL.is (StabL.is (StabL.is (StabL.is (StabL.is (StabL.is (StabL.is (StabL.is (StabL.is (StabL.is (StabL.is (StabL.is (StabL.is (StabL.is (StabL.is (StabL.is (StabL.is (StabL.is (StabL.is (StabL.is (StabL.is (StabL.is (StabL.is (StabL.is (StabL.is (StabL.is (StabL.is (StabL.is (StabL.is (StabL.is (StabL.is (StabL.is (StabL.is (StabL.is StabL.nil)))))))))))))))))))))))))))))))))))))))))))))))))))))))))
          case stepA =>
            refine StepsL.isA ?_ (StepsL.isA ?_ (StepsL.isA ?_ (StepsL.isA ?_ (StepsL.isA ?_ (StepsL.isA ?_ (StepsL.isA ?_ (StepsL.isA ?_ (StepsL.isA ?_ (StepsL.isA ?_ (StepsL.isA ?_ (StepsL.isA ?_ (StepsL.isA ?_ (StepsL.isA ?_ (StepsL.isA ?_ (StepsL.isA ?_ (StepsL.isA ?_ (StepsL.isA ?_ (StepsL.isA ?_ (StepsL.isA ?_ (StepsL.isA ?_ (StepsL.isA ?_ (StepsL.isA ?_ (StepsL.isA ?_ (StepsL.isA ?_ (StepsL.isA ?_ (StepsL.isA ?_ (StepsL.isA ?_ (StepsL.isA ?_ (StepsL.isA ?_ (StepsL.isA ?_ (StepsL.isA ?_ (StepsL.isA ?_ (StepsL.isA ?_ (StepsL.isA ?_ (StepsL.isA ?_ (StepsL.isA ?_ (StepsL.isA ?_ (StepsL.isA ?_ (StepsL.isA ?_ (StepsL.isA ?_ (StepsL.isA ?_ (StepsL.isA ?_ (StepsL.isA ?_ (StepsL.isA ?_ (StepsL.isA ?_ (StepsL.isA ?_ (StepsL.isA ?_ (StepsL.isA ?_ (StepsL.isA ?_ (StepsL.isA ?_ (StepsL.isA ?_ (StepsL.isA ?_ (StepsL.isA ?_ (StepsL.isA ?_ (StepsL.isA ?_ (StepsL.isA ?_ StepsL.nil))))))))))))))))))))))))))))))))))))))))))))))))))))))))
            · -- 0
              intro vs a W K ha hC hD hU hK
              have r13 : a.tmps[13]? = some (.int .i64 0) := by rw [ha, fillA_base0 (by kernel_rfl)]; exact b13
              clear ha hU hD
              rw [if_pos (by rfl)]
              go_simp
              exact hK _ hC (Below.refl _ _)
            · -- 1
              intro vs a W K ha hC hD hU hK
              have r142 : a.tmps[142]? = some (vs 0) := by rw [ha]; exact fillA_get0 (j := 0) (by kernel_rfl) (by rw [hsz]; decide)
              have q0 : vs 0 = .int .i64 0 := hD 0 (by simp [waits, Region.binds])
              rw [q0] at r142
              clear ha hU hD
              rw [if_pos (by rfl)]
              go_simp
              exact hK _ hC (Below.refl _ _)
            · -- 2
              intro vs a W K ha hC hD hU hK
              have r143 : a.tmps[143]? = some (vs 1) := by rw [ha]; exact fillA_get0 (j := 1) (by kernel_rfl) (by rw [hsz]; decide)
              have q1 : vs 1 = .bool true := hD 1 (by simp [waits, Region.binds])
              rw [q1] at r143
              clear ha hU hD
              rw [if_pos (by rfl)]
              go_simp
              exact hK _ hC (Below.refl _ _)
            · -- 3
              intro vs a W K ha hC hD hU hK
              have r144 : a.tmps[144]? = some (vs 2) := by rw [ha]; exact fillA_get0 (j := 2) (by kernel_rfl) (by rw [hsz]; decide)
              have q2 : vs 2 = .bool true := hD 2 (by simp [waits, Region.binds])
              rw [q2] at r144
              have r15 : a.tmps[15]? = some (.int .i64 0) := by rw [ha, fillA_base0 (by kernel_rfl)]; exact b15
              clear ha hU hD
              rw [if_pos (by simp [Region.wanted, yielded, r144])]
              go_simp
              exact hK _ hC (Below.refl _ _)
            · -- 4
              intro vs a W K ha hC hD hU hK
              have r144 : a.tmps[144]? = some (vs 2) := by rw [ha]; exact fillA_get0 (j := 2) (by kernel_rfl) (by rw [hsz]; decide)
              have q2 : vs 2 = .bool true := hD 2 (by simp [waits, Region.binds])
              rw [q2] at r144
              have r145 : a.tmps[145]? = some (vs 3) := by rw [ha]; exact fillA_get0 (j := 3) (by kernel_rfl) (by rw [hsz]; decide)
              have q3 : vs 3 = .int .i64 0 := hD 3 (by simp [waits, Region.binds])
              rw [q3] at r145
              clear ha hU hD
              rw [if_pos (by simp [Region.wanted, yielded, r144])]
              go_simp
              exact hK _ hC (Below.refl _ _)
            · -- 5
              intro vs a W K ha hC hD hU hK
              have r144 : a.tmps[144]? = some (vs 2) := by rw [ha]; exact fillA_get0 (j := 2) (by kernel_rfl) (by rw [hsz]; decide)
              have q2 : vs 2 = .bool true := hD 2 (by simp [waits, Region.binds])
              rw [q2] at r144
              have r146 : a.tmps[146]? = some (vs 4) := by rw [ha]; exact fillA_get0 (j := 4) (by kernel_rfl) (by rw [hsz]; decide)
              have q4 : vs 4 = .bool true := hD 4 (by simp [waits, Region.binds])
              rw [q4] at r146
              clear ha hU hD
              rw [if_pos (by rfl)]
              go_simp
              exact hK _ hC (Below.refl _ _)
            · -- 6
              intro vs a W K ha hC hD hU hK
              have r147 : a.tmps[147]? = some (vs 5) := by rw [ha]; exact fillA_get0 (j := 5) (by kernel_rfl) (by rw [hsz]; decide)
              have q5 : vs 5 = .bool true := hD 5 (by simp [waits, Region.binds])
              rw [q5] at r147
              clear ha hU hD
              rw [if_pos (by rfl)]
              go_simp
              exact hK _ hC (Below.refl _ _)
            · -- 7
              intro vs a W K ha hC hD hU hK
              have r148 : a.tmps[148]? = some (vs 6) := by rw [ha]; exact fillA_get0 (j := 6) (by kernel_rfl) (by rw [hsz]; decide)
              have q6 : vs 6 = .bool true := hD 6 (by simp [waits, Region.binds])
              rw [q6] at r148
              have r17 : a.tmps[17]? = some (.int .i64 0) := by rw [ha, fillA_base0 (by kernel_rfl)]; exact b17
              clear ha hU hD
              rw [if_pos (by simp [Region.wanted, yielded, r148])]
              go_simp
              exact hK _ hC (Below.refl _ _)
            · -- 8
              intro vs a W K ha hC hD hU hK
              have r148 : a.tmps[148]? = some (vs 6) := by rw [ha]; exact fillA_get0 (j := 6) (by kernel_rfl) (by rw [hsz]; decide)
              have q6 : vs 6 = .bool true := hD 6 (by simp [waits, Region.binds])
              rw [q6] at r148
              have r149 : a.tmps[149]? = some (vs 7) := by rw [ha]; exact fillA_get0 (j := 7) (by kernel_rfl) (by rw [hsz]; decide)
              have q7 : vs 7 = .int .i64 0 := hD 7 (by simp [waits, Region.binds])
              rw [q7] at r149
              clear ha hU hD
              rw [if_pos (by simp [Region.wanted, yielded, r148])]
              go_simp
              exact hK _ hC (Below.refl _ _)
            · -- 9
              intro vs a W K ha hC hD hU hK
              have r148 : a.tmps[148]? = some (vs 6) := by rw [ha]; exact fillA_get0 (j := 6) (by kernel_rfl) (by rw [hsz]; decide)
              have q6 : vs 6 = .bool true := hD 6 (by simp [waits, Region.binds])
              rw [q6] at r148
              have r150 : a.tmps[150]? = some (vs 8) := by rw [ha]; exact fillA_get0 (j := 8) (by kernel_rfl) (by rw [hsz]; decide)
              have q8 : vs 8 = .bool true := hD 8 (by simp [waits, Region.binds])
              rw [q8] at r150
              clear ha hU hD
              rw [if_pos (by rfl)]
              go_simp
              exact hK _ hC (Below.refl _ _)
            · -- 10
              intro vs a W K ha hC hD hU hK
              have r151 : a.tmps[151]? = some (vs 9) := by rw [ha]; exact fillA_get0 (j := 9) (by kernel_rfl) (by rw [hsz]; decide)
              have q9 : vs 9 = .bool true := hD 9 (by simp [waits, Region.binds])
              rw [q9] at r151
              clear ha hU hD
              rw [if_pos (by rfl)]
              go_simp
              exact hK _ hC (Below.refl _ _)
            · -- 11
              intro vs a W K ha hC hD hU hK
              have r152 : a.tmps[152]? = some (vs 10) := by rw [ha]; exact fillA_get0 (j := 10) (by kernel_rfl) (by rw [hsz]; decide)
              have q10 : vs 10 = .bool true := hD 10 (by simp [waits, Region.binds])
              rw [q10] at r152
              have r20 : a.tmps[20]? = some (.int .i64 0) := by rw [ha, fillA_base0 (by kernel_rfl)]; exact b20
              clear ha hU hD
              rw [if_pos (by simp [Region.wanted, yielded, r152])]
              go_simp
              exact hK _ hC (Below.refl _ _)
            · -- 12
              intro vs a W K ha hC hD hU hK
              have r152 : a.tmps[152]? = some (vs 10) := by rw [ha]; exact fillA_get0 (j := 10) (by kernel_rfl) (by rw [hsz]; decide)
              have q10 : vs 10 = .bool true := hD 10 (by simp [waits, Region.binds])
              rw [q10] at r152
              have r153 : a.tmps[153]? = some (vs 11) := by rw [ha]; exact fillA_get0 (j := 11) (by kernel_rfl) (by rw [hsz]; decide)
              have q11 : vs 11 = .int .i64 0 := hD 11 (by simp [waits, Region.binds])
              rw [q11] at r153
              clear ha hU hD
              rw [if_pos (by simp [Region.wanted, yielded, r152])]
              go_simp
              exact hK _ hC (Below.refl _ _)
            · -- 13
              intro vs a W K ha hC hD hU hK
              have r152 : a.tmps[152]? = some (vs 10) := by rw [ha]; exact fillA_get0 (j := 10) (by kernel_rfl) (by rw [hsz]; decide)
              have q10 : vs 10 = .bool true := hD 10 (by simp [waits, Region.binds])
              rw [q10] at r152
              have r154 : a.tmps[154]? = some (vs 12) := by rw [ha]; exact fillA_get0 (j := 12) (by kernel_rfl) (by rw [hsz]; decide)
              have q12 : vs 12 = .bool true := hD 12 (by simp [waits, Region.binds])
              rw [q12] at r154
              clear ha hU hD
              rw [if_pos (by rfl)]
              go_simp
              exact hK _ hC (Below.refl _ _)
            · -- 14
              intro vs a W K ha hC hD hU hK
              have r155 : a.tmps[155]? = some (vs 13) := by rw [ha]; exact fillA_get0 (j := 13) (by kernel_rfl) (by rw [hsz]; decide)
              have q13 : vs 13 = .bool true := hD 13 (by simp [waits, Region.binds])
              rw [q13] at r155
              clear ha hU hD
              rw [if_pos (by rfl)]
              go_simp
              exact hK _ hC (Below.refl _ _)
            · -- 15
              intro vs a W K ha hC hD hU hK
              have r156 : a.tmps[156]? = some (vs 14) := by rw [ha]; exact fillA_get0 (j := 14) (by kernel_rfl) (by rw [hsz]; decide)
              have q14 : vs 14 = .bool true := hD 14 (by simp [waits, Region.binds])
              rw [q14] at r156
              have r23 : a.tmps[23]? = some (.int .i64 0) := by rw [ha, fillA_base0 (by kernel_rfl)]; exact b23
              clear ha hU hD
              rw [if_pos (by simp [Region.wanted, yielded, r156])]
              go_simp
              exact hK _ hC (Below.refl _ _)
            · -- 16
              intro vs a W K ha hC hD hU hK
              have r156 : a.tmps[156]? = some (vs 14) := by rw [ha]; exact fillA_get0 (j := 14) (by kernel_rfl) (by rw [hsz]; decide)
              have q14 : vs 14 = .bool true := hD 14 (by simp [waits, Region.binds])
              rw [q14] at r156
              have r157 : a.tmps[157]? = some (vs 15) := by rw [ha]; exact fillA_get0 (j := 15) (by kernel_rfl) (by rw [hsz]; decide)
              have q15 : vs 15 = .int .i64 0 := hD 15 (by simp [waits, Region.binds])
              rw [q15] at r157
              clear ha hU hD
              rw [if_pos (by simp [Region.wanted, yielded, r156])]
              go_simp
              exact hK _ hC (Below.refl _ _)
            · -- 17
              intro vs a W K ha hC hD hU hK
              have r156 : a.tmps[156]? = some (vs 14) := by rw [ha]; exact fillA_get0 (j := 14) (by kernel_rfl) (by rw [hsz]; decide)
              have q14 : vs 14 = .bool true := hD 14 (by simp [waits, Region.binds])
              rw [q14] at r156
              have r158 : a.tmps[158]? = some (vs 16) := by rw [ha]; exact fillA_get0 (j := 16) (by kernel_rfl) (by rw [hsz]; decide)
              have q16 : vs 16 = .bool true := hD 16 (by simp [waits, Region.binds])
              rw [q16] at r158
              clear ha hU hD
              rw [if_pos (by rfl)]
              go_simp
              exact hK _ hC (Below.refl _ _)
            · -- 18
              intro vs a W K ha hC hD hU hK
              have r159 : a.tmps[159]? = some (vs 17) := by rw [ha]; exact fillA_get0 (j := 17) (by kernel_rfl) (by rw [hsz]; decide)
              have q17 : vs 17 = .bool true := hD 17 (by simp [waits, Region.binds])
              rw [q17] at r159
              clear ha hU hD
              rw [if_pos (by rfl)]
              go_simp
              exact hK _ hC (Below.refl _ _)
            · -- 19
              intro vs a W K ha hC hD hU hK
              have r160 : a.tmps[160]? = some (vs 18) := by rw [ha]; exact fillA_get0 (j := 18) (by kernel_rfl) (by rw [hsz]; decide)
              have q18 : vs 18 = .bool true := hD 18 (by simp [waits, Region.binds])
              rw [q18] at r160
              have r14 : a.tmps[14]? = some (.pointer (some ⟨g14, 0, none⟩)) := by rw [ha, fillA_base0 (by kernel_rfl)]; exact b14
              clear ha hU hD
              rw [if_pos (by simp [Region.wanted, yielded, r160])]
              go_simp
              exact hK _ hC (Below.refl _ _)
            · -- 20
              intro vs a W K ha hC hD hU hK
              have r160 : a.tmps[160]? = some (vs 18) := by rw [ha]; exact fillA_get0 (j := 18) (by kernel_rfl) (by rw [hsz]; decide)
              have q18 : vs 18 = .bool true := hD 18 (by simp [waits, Region.binds])
              rw [q18] at r160
              have r161 : a.tmps[161]? = some (vs 19) := by rw [ha]; exact fillA_get0 (j := 19) (by kernel_rfl) (by rw [hsz]; decide)
              have q19 : vs 19 = .pointer (some ⟨g14, 0, none⟩) := hD 19 (by simp [waits, Region.binds])
              rw [q19] at r161
              clear ha hU hD
              rw [if_pos (by simp [Region.wanted, yielded, r160])]
              obtain ⟨k0, k1, k2, k3, k4, k5⟩ := kl.out W hC
              go_simp
              exact hK _ hC (Below.refl _ _)
            · -- 21
              intro vs a W K ha hC hD hU hK
              have r160 : a.tmps[160]? = some (vs 18) := by rw [ha]; exact fillA_get0 (j := 18) (by kernel_rfl) (by rw [hsz]; decide)
              have q18 : vs 18 = .bool true := hD 18 (by simp [waits, Region.binds])
              rw [q18] at r160
              have r12 : a.tmps[12]? = some (.pointer (some ⟨g12, 0, none⟩)) := by rw [ha, fillA_base0 (by kernel_rfl)]; exact b12
              clear ha hU hD
              rw [if_pos (by simp [Region.wanted, yielded, r160])]
              go_simp
              exact hK _ hC (Below.refl _ _)
            · -- 22
              intro vs a W K ha hC hD hU hK
              have r160 : a.tmps[160]? = some (vs 18) := by rw [ha]; exact fillA_get0 (j := 18) (by kernel_rfl) (by rw [hsz]; decide)
              have q18 : vs 18 = .bool true := hD 18 (by simp [waits, Region.binds])
              rw [q18] at r160
              have r163 : a.tmps[163]? = some (vs 21) := by rw [ha]; exact fillA_get0 (j := 21) (by kernel_rfl) (by rw [hsz]; decide)
              have q21 : vs 21 = .pointer (some ⟨g12, 0, none⟩) := hD 21 (by simp [waits, Region.binds])
              rw [q21] at r163
              clear ha hU hD
              rw [if_pos (by simp [Region.wanted, yielded, r160])]
              obtain ⟨k0, k1, k2, k3, k4, k5⟩ := kl.out W hC
              go_simp
              exact hK _ hC (Below.refl _ _)
            · -- 23
              intro vs a W K ha hC hD hU hK
              have r160 : a.tmps[160]? = some (vs 18) := by rw [ha]; exact fillA_get0 (j := 18) (by kernel_rfl) (by rw [hsz]; decide)
              have q18 : vs 18 = .bool true := hD 18 (by simp [waits, Region.binds])
              rw [q18] at r160
              have r162 : a.tmps[162]? = some (vs 20) := by rw [ha]; exact fillA_get0 (j := 20) (by kernel_rfl) (by rw [hsz]; decide)
              have q20 : vs 20 = .int .i64 e1 := hD 20 (by simp [waits, Region.binds])
              rw [q20] at r162
              have r164 : a.tmps[164]? = some (vs 22) := by rw [ha]; exact fillA_get0 (j := 22) (by kernel_rfl) (by rw [hsz]; decide)
              have q22 : vs 22 = .int .i64 a1 := hD 22 (by simp [waits, Region.binds])
              rw [q22] at r164
              clear ha hU hD
              rw [if_pos (by simp [Region.wanted, yielded, r160])]
              go_simp
              exact hK _ hC (Below.refl _ _)
            · -- 24
              intro vs a W K ha hC hD hU hK
              have r160 : a.tmps[160]? = some (vs 18) := by rw [ha]; exact fillA_get0 (j := 18) (by kernel_rfl) (by rw [hsz]; decide)
              have q18 : vs 18 = .bool true := hD 18 (by simp [waits, Region.binds])
              rw [q18] at r160
              have r165 : a.tmps[165]? = some (vs 23) := by rw [ha]; exact fillA_get0 (j := 23) (by kernel_rfl) (by rw [hsz]; decide)
              have q23 : vs 23 = .bool true := hD 23 (by simp [waits, Region.binds])
              rw [q23] at r165
              clear ha hU hD
              rw [if_pos (by rfl)]
              go_simp
              exact hK _ hC (Below.refl _ _)
            · -- 25
              intro vs a W K ha hC hD hU hK
              have r166 : a.tmps[166]? = some (vs 24) := by rw [ha]; exact fillA_get0 (j := 24) (by kernel_rfl) (by rw [hsz]; decide)
              have q24 : vs 24 = .bool true := hD 24 (by simp [waits, Region.binds])
              rw [q24] at r166
              clear ha hU hD
              rw [if_pos (by rfl)]
              go_simp
              exact hK _ hC (Below.refl _ _)
            · -- 26
              intro vs a W K ha hC hD hU hK
              have r167 : a.tmps[167]? = some (vs 25) := by rw [ha]; exact fillA_get0 (j := 25) (by kernel_rfl) (by rw [hsz]; decide)
              have q25 : vs 25 = .bool true := hD 25 (by simp [waits, Region.binds])
              rw [q25] at r167
              have r14 : a.tmps[14]? = some (.pointer (some ⟨g14, 0, none⟩)) := by rw [ha, fillA_base0 (by kernel_rfl)]; exact b14
              clear ha hU hD
              rw [if_pos (by simp [Region.wanted, yielded, r167])]
              go_simp
              exact hK _ hC (Below.refl _ _)
            · -- 27
              intro vs a W K ha hC hD hU hK
              have r167 : a.tmps[167]? = some (vs 25) := by rw [ha]; exact fillA_get0 (j := 25) (by kernel_rfl) (by rw [hsz]; decide)
              have q25 : vs 25 = .bool true := hD 25 (by simp [waits, Region.binds])
              rw [q25] at r167
              have r168 : a.tmps[168]? = some (vs 26) := by rw [ha]; exact fillA_get0 (j := 26) (by kernel_rfl) (by rw [hsz]; decide)
              have q26 : vs 26 = .pointer (some ⟨g14, 1, none⟩) := hD 26 (by simp [waits, Region.binds])
              rw [q26] at r168
              clear ha hU hD
              rw [if_pos (by simp [Region.wanted, yielded, r167])]
              obtain ⟨k0, k1, k2, k3, k4, k5⟩ := kl.out W hC
              go_simp
              exact hK _ hC (Below.refl _ _)
            · -- 28
              intro vs a W K ha hC hD hU hK
              have r167 : a.tmps[167]? = some (vs 25) := by rw [ha]; exact fillA_get0 (j := 25) (by kernel_rfl) (by rw [hsz]; decide)
              have q25 : vs 25 = .bool true := hD 25 (by simp [waits, Region.binds])
              rw [q25] at r167
              have r12 : a.tmps[12]? = some (.pointer (some ⟨g12, 0, none⟩)) := by rw [ha, fillA_base0 (by kernel_rfl)]; exact b12
              clear ha hU hD
              rw [if_pos (by simp [Region.wanted, yielded, r167])]
              go_simp
              exact hK _ hC (Below.refl _ _)
            · -- 29
              intro vs a W K ha hC hD hU hK
              have r167 : a.tmps[167]? = some (vs 25) := by rw [ha]; exact fillA_get0 (j := 25) (by kernel_rfl) (by rw [hsz]; decide)
              have q25 : vs 25 = .bool true := hD 25 (by simp [waits, Region.binds])
              rw [q25] at r167
              have r170 : a.tmps[170]? = some (vs 28) := by rw [ha]; exact fillA_get0 (j := 28) (by kernel_rfl) (by rw [hsz]; decide)
              have q28 : vs 28 = .pointer (some ⟨g12, 1, none⟩) := hD 28 (by simp [waits, Region.binds])
              rw [q28] at r170
              clear ha hU hD
              rw [if_pos (by simp [Region.wanted, yielded, r167])]
              obtain ⟨k0, k1, k2, k3, k4, k5⟩ := kl.out W hC
              go_simp
              exact hK _ hC (Below.refl _ _)
            · -- 30
              intro vs a W K ha hC hD hU hK
              have r167 : a.tmps[167]? = some (vs 25) := by rw [ha]; exact fillA_get0 (j := 25) (by kernel_rfl) (by rw [hsz]; decide)
              have q25 : vs 25 = .bool true := hD 25 (by simp [waits, Region.binds])
              rw [q25] at r167
              have r169 : a.tmps[169]? = some (vs 27) := by rw [ha]; exact fillA_get0 (j := 27) (by kernel_rfl) (by rw [hsz]; decide)
              have q27 : vs 27 = .int .i64 e2 := hD 27 (by simp [waits, Region.binds])
              rw [q27] at r169
              have r171 : a.tmps[171]? = some (vs 29) := by rw [ha]; exact fillA_get0 (j := 29) (by kernel_rfl) (by rw [hsz]; decide)
              have q29 : vs 29 = .int .i64 a2 := hD 29 (by simp [waits, Region.binds])
              rw [q29] at r171
              clear ha hU hD
              rw [if_pos (by simp [Region.wanted, yielded, r167])]
              go_simp
              exact hK _ hC (Below.refl _ _)
            · -- 31
              intro vs a W K ha hC hD hU hK
              have r167 : a.tmps[167]? = some (vs 25) := by rw [ha]; exact fillA_get0 (j := 25) (by kernel_rfl) (by rw [hsz]; decide)
              have q25 : vs 25 = .bool true := hD 25 (by simp [waits, Region.binds])
              rw [q25] at r167
              have r172 : a.tmps[172]? = some (vs 30) := by rw [ha]; exact fillA_get0 (j := 30) (by kernel_rfl) (by rw [hsz]; decide)
              have q30 : vs 30 = .bool true := hD 30 (by simp [waits, Region.binds])
              rw [q30] at r172
              clear ha hU hD
              rw [if_pos (by rfl)]
              go_simp
              exact hK _ hC (Below.refl _ _)
            · -- 32
              intro vs a W K ha hC hD hU hK
              have r173 : a.tmps[173]? = some (vs 31) := by rw [ha]; exact fillA_get0 (j := 31) (by kernel_rfl) (by rw [hsz]; decide)
              have q31 : vs 31 = .bool true := hD 31 (by simp [waits, Region.binds])
              rw [q31] at r173
              clear ha hU hD
              rw [if_pos (by rfl)]
              go_simp
              exact hK _ hC (Below.refl _ _)
            · -- 33
              intro vs a W K ha hC hD hU hK
              have r174 : a.tmps[174]? = some (vs 32) := by rw [ha]; exact fillA_get0 (j := 32) (by kernel_rfl) (by rw [hsz]; decide)
              have q32 : vs 32 = .bool true := hD 32 (by simp [waits, Region.binds])
              rw [q32] at r174
              have r16 : a.tmps[16]? = some (.pointer (some ⟨g16, 0, none⟩)) := by rw [ha, fillA_base0 (by kernel_rfl)]; exact b16
              clear ha hU hD
              rw [if_pos (by simp [Region.wanted, yielded, r174])]
              obtain ⟨k0, k1, k2, k3, k4, k5⟩ := kl.out W hC
              go_simp
              exact hK _ hC (Below.refl _ _)
            · -- 34
              intro vs a W K ha hC hD hU hK
              have r174 : a.tmps[174]? = some (vs 32) := by rw [ha]; exact fillA_get0 (j := 32) (by kernel_rfl) (by rw [hsz]; decide)
              have q32 : vs 32 = .bool true := hD 32 (by simp [waits, Region.binds])
              rw [q32] at r174
              have r12 : a.tmps[12]? = some (.pointer (some ⟨g12, 0, none⟩)) := by rw [ha, fillA_base0 (by kernel_rfl)]; exact b12
              clear ha hU hD
              rw [if_pos (by simp [Region.wanted, yielded, r174])]
              go_simp
              exact hK _ hC (Below.refl _ _)
            · -- 35
              intro vs a W K ha hC hD hU hK
              have r174 : a.tmps[174]? = some (vs 32) := by rw [ha]; exact fillA_get0 (j := 32) (by kernel_rfl) (by rw [hsz]; decide)
              have q32 : vs 32 = .bool true := hD 32 (by simp [waits, Region.binds])
              rw [q32] at r174
              have r176 : a.tmps[176]? = some (vs 34) := by rw [ha]; exact fillA_get0 (j := 34) (by kernel_rfl) (by rw [hsz]; decide)
              have q34 : vs 34 = .pointer (some ⟨g12, 0, none⟩) := hD 34 (by simp [waits, Region.binds])
              rw [q34] at r176
              clear ha hU hD
              rw [if_pos (by simp [Region.wanted, yielded, r174])]
              obtain ⟨k0, k1, k2, k3, k4, k5⟩ := kl.out W hC
              go_simp
              exact hK _ hC (Below.refl _ _)
            · -- 36
              intro vs a W K ha hC hD hU hK
              have r174 : a.tmps[174]? = some (vs 32) := by rw [ha]; exact fillA_get0 (j := 32) (by kernel_rfl) (by rw [hsz]; decide)
              have q32 : vs 32 = .bool true := hD 32 (by simp [waits, Region.binds])
              rw [q32] at r174
              have r11 : a.tmps[11]? = some (.int .i64 by4) := by rw [ha, fillA_base0 (by kernel_rfl)]; exact b11
              clear ha hU hD
              rw [if_pos (by simp [Region.wanted, yielded, r174])]
              go_simp
              exact hK _ hC (Below.refl _ _)
            · -- 37
              intro vs a W K ha hC hD hU hK
              have r174 : a.tmps[174]? = some (vs 32) := by rw [ha]; exact fillA_get0 (j := 32) (by kernel_rfl) (by rw [hsz]; decide)
              have q32 : vs 32 = .bool true := hD 32 (by simp [waits, Region.binds])
              rw [q32] at r174
              have r177 : a.tmps[177]? = some (vs 35) := by rw [ha]; exact fillA_get0 (j := 35) (by kernel_rfl) (by rw [hsz]; decide)
              have q35 : vs 35 = .int .i64 a1 := hD 35 (by simp [waits, Region.binds])
              rw [q35] at r177
              have r178 : a.tmps[178]? = some (vs 36) := by rw [ha]; exact fillA_get0 (j := 36) (by kernel_rfl) (by rw [hsz]; decide)
              have q36 : vs 36 = .int .i64 by4 := hD 36 (by simp [waits, Region.binds])
              rw [q36] at r178
              clear ha hU hD
              rw [if_pos (by simp [Region.wanted, yielded, r174])]
              go_simp
              exact hK _ hC (Below.refl _ _)
            · -- 38
              intro vs a W K ha hC hD hU hK
              have r174 : a.tmps[174]? = some (vs 32) := by rw [ha]; exact fillA_get0 (j := 32) (by kernel_rfl) (by rw [hsz]; decide)
              have q32 : vs 32 = .bool true := hD 32 (by simp [waits, Region.binds])
              rw [q32] at r174
              have r12 : a.tmps[12]? = some (.pointer (some ⟨g12, 0, none⟩)) := by rw [ha, fillA_base0 (by kernel_rfl)]; exact b12
              clear ha hU hD
              rw [if_pos (by simp [Region.wanted, yielded, r174])]
              go_simp
              exact hK _ hC (Below.refl _ _)
            · -- 39
              intro vs a W K ha hC hD hU hK
              have r174 : a.tmps[174]? = some (vs 32) := by rw [ha]; exact fillA_get0 (j := 32) (by kernel_rfl) (by rw [hsz]; decide)
              have q32 : vs 32 = .bool true := hD 32 (by simp [waits, Region.binds])
              rw [q32] at r174
              have r180 : a.tmps[180]? = some (vs 38) := by rw [ha]; exact fillA_get0 (j := 38) (by kernel_rfl) (by rw [hsz]; decide)
              have q38 : vs 38 = .pointer (some ⟨g12, 1, none⟩) := hD 38 (by simp [waits, Region.binds])
              rw [q38] at r180
              clear ha hU hD
              rw [if_pos (by simp [Region.wanted, yielded, r174])]
              obtain ⟨k0, k1, k2, k3, k4, k5⟩ := kl.out W hC
              go_simp
              exact hK _ hC (Below.refl _ _)
            · -- 40
              intro vs a W K ha hC hD hU hK
              have r174 : a.tmps[174]? = some (vs 32) := by rw [ha]; exact fillA_get0 (j := 32) (by kernel_rfl) (by rw [hsz]; decide)
              have q32 : vs 32 = .bool true := hD 32 (by simp [waits, Region.binds])
              rw [q32] at r174
              have r11 : a.tmps[11]? = some (.int .i64 by4) := by rw [ha, fillA_base0 (by kernel_rfl)]; exact b11
              clear ha hU hD
              rw [if_pos (by simp [Region.wanted, yielded, r174])]
              go_simp
              exact hK _ hC (Below.refl _ _)
            · -- 41
              intro vs a W K ha hC hD hU hK
              have r174 : a.tmps[174]? = some (vs 32) := by rw [ha]; exact fillA_get0 (j := 32) (by kernel_rfl) (by rw [hsz]; decide)
              have q32 : vs 32 = .bool true := hD 32 (by simp [waits, Region.binds])
              rw [q32] at r174
              have r181 : a.tmps[181]? = some (vs 39) := by rw [ha]; exact fillA_get0 (j := 39) (by kernel_rfl) (by rw [hsz]; decide)
              have q39 : vs 39 = .int .i64 a2 := hD 39 (by simp [waits, Region.binds])
              rw [q39] at r181
              have r182 : a.tmps[182]? = some (vs 40) := by rw [ha]; exact fillA_get0 (j := 40) (by kernel_rfl) (by rw [hsz]; decide)
              have q40 : vs 40 = .int .i64 by4 := hD 40 (by simp [waits, Region.binds])
              rw [q40] at r182
              clear ha hU hD
              rw [if_pos (by simp [Region.wanted, yielded, r174])]
              go_simp
              exact hK _ hC (Below.refl _ _)
            · -- 42
              intro vs a W K ha hC hD hU hK
              have r174 : a.tmps[174]? = some (vs 32) := by rw [ha]; exact fillA_get0 (j := 32) (by kernel_rfl) (by rw [hsz]; decide)
              have q32 : vs 32 = .bool true := hD 32 (by simp [waits, Region.binds])
              rw [q32] at r174
              have r179 : a.tmps[179]? = some (vs 37) := by rw [ha]; exact fillA_get0 (j := 37) (by kernel_rfl) (by rw [hsz]; decide)
              have q37 : vs 37 = .int .i64 (a1 + by4) := hD 37 (by simp [waits, Region.binds])
              rw [q37] at r179
              have r183 : a.tmps[183]? = some (vs 41) := by rw [ha]; exact fillA_get0 (j := 41) (by kernel_rfl) (by rw [hsz]; decide)
              have q41 : vs 41 = .int .i64 (a2 + by4) := hD 41 (by simp [waits, Region.binds])
              rw [q41] at r183
              clear ha hU hD
              rw [if_pos (by simp [Region.wanted, yielded, r174])]
              go_simp
              refine (span8_any (a1 + by4) (a2 + by4) W).mono ?_
              rintro e w' ⟨rfl, hb⟩
              exact hK _ (bl_call hC hb (Nat.le_refl _)) hb
            · -- 43
              intro vs a W K ha hC hD hU hK
              have r174 : a.tmps[174]? = some (vs 32) := by rw [ha]; exact fillA_get0 (j := 32) (by kernel_rfl) (by rw [hsz]; decide)
              have q32 : vs 32 = .bool true := hD 32 (by simp [waits, Region.binds])
              rw [q32] at r174
              have r175 : a.tmps[175]? = some (vs 33) := by rw [ha]; exact fillA_get0 (j := 33) (by kernel_rfl) (by rw [hsz]; decide)
              have q33 : vs 33 = .agg #[.int .i64 (a1 + by4), .int .i64 (a2 + by4)] := hD 33 (by simp [waits, Region.binds])
              rw [q33] at r175
              have r184 : a.tmps[184]? = some (vs 42) := by rw [ha]; exact fillA_get0 (j := 42) (by kernel_rfl) (by rw [hsz]; decide)
              have q42 : vs 42 = .agg #[.int .i64 (a1 + by4), .int .i64 (a2 + by4)] := hD 42 (by simp [waits, Region.binds])
              rw [q42] at r184
              clear ha hU hD
              rw [if_pos (by simp [Region.wanted, yielded, r174])]
              go_simp
              exact hK _ hC (Below.refl _ _)
            · -- 44
              intro vs a W K ha hC hD hU hK
              have r174 : a.tmps[174]? = some (vs 32) := by rw [ha]; exact fillA_get0 (j := 32) (by kernel_rfl) (by rw [hsz]; decide)
              have q32 : vs 32 = .bool true := hD 32 (by simp [waits, Region.binds])
              rw [q32] at r174
              have r185 : a.tmps[185]? = some (vs 43) := by rw [ha]; exact fillA_get0 (j := 43) (by kernel_rfl) (by rw [hsz]; decide)
              have q43 : vs 43 = .bool true := hD 43 (by simp [waits, Region.binds])
              rw [q43] at r185
              clear ha hU hD
              rw [if_pos (by rfl)]
              go_simp
              exact hK _ hC (Below.refl _ _)
            · -- 45
              intro vs a W K ha hC hD hU hK
              have r186 : a.tmps[186]? = some (vs 44) := by rw [ha]; exact fillA_get0 (j := 44) (by kernel_rfl) (by rw [hsz]; decide)
              have q44 : vs 44 = .bool true := hD 44 (by simp [waits, Region.binds])
              rw [q44] at r186
              clear ha hU hD
              rw [if_pos (by rfl)]
              go_simp
              exact hK _ hC (Below.refl _ _)
            · -- 46
              intro vs a W K ha hC hD hU hK
              have r187 : a.tmps[187]? = some (vs 45) := by rw [ha]; exact fillA_get0 (j := 45) (by kernel_rfl) (by rw [hsz]; decide)
              have q45 : vs 45 = .bool true := hD 45 (by simp [waits, Region.binds])
              rw [q45] at r187
              have r18 : a.tmps[18]? = some (.int .i64 w1) := by rw [ha, fillA_base0 (by kernel_rfl)]; exact b18
              clear ha hU hD
              rw [if_pos (by simp [Region.wanted, yielded, r187])]
              go_simp
              exact hK _ hC (Below.refl _ _)
            · -- 47
              intro vs a W K ha hC hD hU hK
              have r187 : a.tmps[187]? = some (vs 45) := by rw [ha]; exact fillA_get0 (j := 45) (by kernel_rfl) (by rw [hsz]; decide)
              have q45 : vs 45 = .bool true := hD 45 (by simp [waits, Region.binds])
              rw [q45] at r187
              have r188 : a.tmps[188]? = some (vs 46) := by rw [ha]; exact fillA_get0 (j := 46) (by kernel_rfl) (by rw [hsz]; decide)
              have q46 : vs 46 = .int .i64 w1 := hD 46 (by simp [waits, Region.binds])
              rw [q46] at r188
              clear ha hU hD
              rw [if_pos (by simp [Region.wanted, yielded, r187])]
              go_simp
              exact hK _ hC (Below.refl _ _)
            · -- 48
              intro vs a W K ha hC hD hU hK
              have r187 : a.tmps[187]? = some (vs 45) := by rw [ha]; exact fillA_get0 (j := 45) (by kernel_rfl) (by rw [hsz]; decide)
              have q45 : vs 45 = .bool true := hD 45 (by simp [waits, Region.binds])
              rw [q45] at r187
              have r189 : a.tmps[189]? = some (vs 47) := by rw [ha]; exact fillA_get0 (j := 47) (by kernel_rfl) (by rw [hsz]; decide)
              have q47 : vs 47 = .bool true := hD 47 (by simp [waits, Region.binds])
              rw [q47] at r189
              clear ha hU hD
              rw [if_pos (by simp [Region.wanted, yielded, r187])]
              go_simp
              exact hK _ hC (Below.refl _ _)
            · -- 49
              intro vs a W K ha hC hD hU hK
              have r190 : a.tmps[190]? = some (vs 48) := by rw [ha]; exact fillA_get0 (j := 48) (by kernel_rfl) (by rw [hsz]; decide)
              have q48 : vs 48 = .bool true := hD 48 (by simp [waits, Region.binds])
              rw [q48] at r190
              clear ha hU hD
              rw [if_neg (by simp [Region.wanted, yielded, r190])]
            · -- 50
              intro vs a W K ha hC hD hU hK
              have r190 : a.tmps[190]? = some (vs 48) := by rw [ha]; exact fillA_get0 (j := 48) (by kernel_rfl) (by rw [hsz]; decide)
              have q48 : vs 48 = .bool true := hD 48 (by simp [waits, Region.binds])
              rw [q48] at r190
              clear ha hU hD
              rw [if_neg (by simp [Region.wanted, yielded, r190])]
            · -- 51
              intro vs a W K ha hC hD hU hK
              have r187 : a.tmps[187]? = some (vs 45) := by rw [ha]; exact fillA_get0 (j := 45) (by kernel_rfl) (by rw [hsz]; decide)
              have q45 : vs 45 = .bool true := hD 45 (by simp [waits, Region.binds])
              rw [q45] at r187
              have r190 : a.tmps[190]? = some (vs 48) := by rw [ha]; exact fillA_get0 (j := 48) (by kernel_rfl) (by rw [hsz]; decide)
              have q48 : vs 48 = .bool true := hD 48 (by simp [waits, Region.binds])
              rw [q48] at r190
              have r192 : a.tmps[192]? = some (vs 50) := by rw [ha]; exact fillA_get0 (j := 50) (by kernel_rfl) (by rw [hsz]; decide)
              have q50 : vs 50 = undef := hD 50 (by simp [waits, Region.binds])
              rw [q50] at r192
              clear ha hU hD
              rw [if_pos (by simp [Region.wanted, yielded, r187])]
              go_simp
              exact hK _ hC (Below.refl _ _)
            · -- 52
              intro vs a W K ha hC hD hU hK
              have r187 : a.tmps[187]? = some (vs 45) := by rw [ha]; exact fillA_get0 (j := 45) (by kernel_rfl) (by rw [hsz]; decide)
              have q45 : vs 45 = .bool true := hD 45 (by simp [waits, Region.binds])
              rw [q45] at r187
              have r193 : a.tmps[193]? = some (vs 51) := by rw [ha]; exact fillA_get0 (j := 51) (by kernel_rfl) (by rw [hsz]; decide)
              have q51 : vs 51 = .bool true := hD 51 (by simp [waits, Region.binds])
              rw [q51] at r193
              clear ha hU hD
              rw [if_pos (by rfl)]
              go_simp
              exact hK _ hC (Below.refl _ _)
            · -- 53
              intro vs a W K ha hC hD hU hK
              have r194 : a.tmps[194]? = some (vs 52) := by rw [ha]; exact fillA_get0 (j := 52) (by kernel_rfl) (by rw [hsz]; decide)
              have q52 : vs 52 = .bool true := hD 52 (by simp [waits, Region.binds])
              rw [q52] at r194
              clear ha hU hD
              rw [if_pos (by rfl)]
              go_simp
              exact hK _ hC (Below.refl _ _)
            · -- 54
              intro vs a W K ha hC hD hU hK
              have r195 : a.tmps[195]? = some (vs 53) := by rw [ha]; exact fillA_get0 (j := 53) (by kernel_rfl) (by rw [hsz]; decide)
              have q53 : vs 53 = .bool true := hD 53 (by simp [waits, Region.binds])
              rw [q53] at r195
              clear ha hU hD
              rw [if_pos (by simp [Region.wanted, yielded, r195])]
              go_simp
              refine (awake_any W).mono ?_
              rintro e w' ⟨rfl, hb⟩
              exact hK _ (bl_call hC hb (Nat.le_refl _)) hb
            · -- 55
              intro vs a W K ha hC hD hU hK
              have r195 : a.tmps[195]? = some (vs 53) := by rw [ha]; exact fillA_get0 (j := 53) (by kernel_rfl) (by rw [hsz]; decide)
              have q53 : vs 53 = .bool true := hD 53 (by simp [waits, Region.binds])
              rw [q53] at r195
              have r196 : a.tmps[196]? = some (vs 54) := by rw [ha]; exact fillA_get0 (j := 54) (by kernel_rfl) (by rw [hsz]; decide)
              have q54 : vs 54 = .bool true := hD 54 (by simp [waits, Region.binds])
              rw [q54] at r196
              clear ha hU hD
              rw [if_pos (by rfl)]
              go_simp
              exact hK _ hC (Below.refl _ _)
            · -- 56
              intro vs a W K ha hC hD hU hK
              have r197 : a.tmps[197]? = some (vs 55) := by rw [ha]; exact fillA_get0 (j := 55) (by kernel_rfl) (by rw [hsz]; decide)
              have q55 : vs 55 = .bool true := hD 55 (by simp [waits, Region.binds])
              rw [q55] at r197
              clear ha hU hD
              rw [if_pos (by rfl)]
              go_simp
              exact hK _ hC (Below.refl _ _)
          case finA =>
            refine Fin1.none (Nat.le_refl _) ?_
            intro vs W a1 hC hE ha
            have e0 : vs 56 = .bool true := hE 56 (by simp)
            have r0 : a1.tmps[6]? = some (vs 56) := by rw [ha]; exact fillA_get0 (j := 56) (by kernel_rfl) (by rw [hsz]; decide)
            have hdf1 : a1.defers = [] := by rw [ha, fillA_defers]; exact hdf
            rw [e0] at r0
            have hBF := bl_call HBF.out hC (Nat.le_refl _)
            clear ha hE hC e0
            go_simp
            go_wp2
            refine bodyPost_ret (results_tmp rfl _ _ _) hdf1 ?_
            exact ⟨by simp [r0], hBF⟩

end Go.Proofs.Ytpbimgafafkjgaa
