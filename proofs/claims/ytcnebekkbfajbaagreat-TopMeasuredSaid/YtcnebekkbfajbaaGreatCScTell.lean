/- A part of the proof that TopMeasured always answers true. -/
import Derived.Test.YtcnebekkbfajbaaGreatCKLaw4
import Derived.Test.YtcnebekkbfajbaaGreatCScSeq
import Derived.Test.YtcnebekkbfajbaaGreatCScTell1
import Derived.Test.YtcnebekkbfajbaaGreatCTCmp
set_option linter.all false
namespace Go.Proofs.YtcnebekkbfajbaaGreat
open Go.RowKit Go.Shelf
theorem bitU4 : ∀ s : Nat, s < 16 → bitU s 4 = bitL s := by decide +kernel
theorem bitL4 : ∀ s : Nat, s < 16 → (bitL s).length ≤ 4 := by decide +kernel
def tellS (c : Case5) (l : List (Nat × Nat)) (k : Nat) : List Int × Nat := (List.range k).foldl (tellStep c l) ([], 5)
theorem tellS_succ (c : Case5) (l : List (Nat × Nat)) (k : Nat) : tellS c l (k + 1) = tellStep c l (tellS c l k) k := by unfold tellS; rw [List.range_succ, List.foldl_append]; rfl
theorem tellS_all {c : Case5} {l : List (Nat × Nat)} (h : c.hts.length = 4) : tellS c l 16 = tellZ c l := by unfold tellZ tellS; rw [h]
theorem tell_long {c : Case5} {l : List (Nat × Nat)} {k : Nat} (h : (tellS c l k).2 < (bitL k).length) : tellS c l (k + 1) = tellS c l k := by rw [tellS_succ, tellStep, if_pos (.inl h)]
theorem tell_same {c : Case5} {l : List (Nat × Nat)} {k : Nat} (h : diffB c l k = false) : tellS c l (k + 1) = tellS c l k := by rw [tellS_succ, tellStep, if_pos (.inr h)]
theorem tell_new {c : Case5} {l : List (Nat × Nat)} {k : Nat} (h1 : ¬ (tellS c l k).2 < (bitL k).length) (h2 : diffB c l k = true) (h3 : (bitL k).length < (tellS c l k).2 ∨ lexC (bitL k) (tellS c l k).1 < 0) : tellS c l (k + 1) = (bitL k, (bitL k).length) := by
 rw [tellS_succ, tellStep, if_neg (fun h => h.elim h1 (fun e => by rw [h2] at e; cases e)), if_pos h3]
theorem tell_old {c : Case5} {l : List (Nat × Nat)} {k : Nat} (h1 : ¬ (tellS c l k).2 < (bitL k).length) (h2 : diffB c l k = true) (h3 : ¬ ((bitL k).length < (tellS c l k).2 ∨ lexC (bitL k) (tellS c l k).1 < 0)) : tellS c l (k + 1) = tellS c l k := by
 rw [tellS_succ, tellStep, if_neg (fun h => h.elim h1 (fun e => by rw [h2] at e; cases e)), if_neg h3]
set_option maxRecDepth 100000 in
set_option maxHeartbeats 4000000 in
theorem stwice_any {c : Case5} {l : List (Nat × Nat)} {A B L : Option Addr} {ca m cb q cl : Nat} {kd ba mo : Int} (hok : Ok5 c) (hl : ∀ z ∈ l, z ∈ scalesN) (hq6 : q ≤ 6) (HD : Hid (diffB c l 15 = false)) (w : World) (g : CaseAt (fun _ => True) w A 4 B m c) (gs : Pls (fun _ => True) w L q l) (h1 : c.kind = kd) (h2 : c.base = ba) (h3 : c.most = mo) :
  Calls Tryz.prog 31 #[.agg #[.int .i64 kd, .int .i64 ba, .int .i64 mo, .slice A 4 ca, .slice B m cb], .slice L q cl] w fun e w' => e = .returned (.tuple #[.slice none 0 0, .int .i64 5]) ∧ Below w.heap.size w w' := by
 have HOK := Lib.hid hok
 have HL := Lib.hid hl
 have HQ : Hid (l.length = q) := gs.len
 have hq6i : (q : Int) ≤ 6 := by omega
 obtain ⟨iI, hiI, hzI0, hzI1, hzI2⟩ := info_parts infoInt5
 have HM : Hid (modelV c A 4 ca B m cb = .agg #[.int .i64 kd, .int .i64 ba, .int .i64 mo, .slice A 4 ca, .slice B m cb, .func (.func (roundF c.kind)) #[] #[]]) := by rw [Hid, modelV, h1, h2, h3]
 obtain ⟨fr, hfr⟩ : ∃ f, roundF c.kind = f := ⟨_, rfl⟩
 rw [hfr] at HM
 obtain ⟨W, hW⟩ : ∃ W, (w.alloc (.cells #[.int .i64 kd, .int .i64 ba, .int .i64 mo, .slice A 4 ca, .slice B m cb] 25)).alloc (.cells #[.slice L q cl] 66) = W := ⟨_, rfl⟩
 have X : Blk W w.heap.size 25 #[.int .i64 kd, .int .i64 ba, .int .i64 mo, .slice A 4 ca, .slice B m cb] := by rw [← hW]; exact (Blk.new _ _ _ rfl).alloc _
 have Y : Blk W (w.heap.size + 1) 66 #[.slice L q cl] := by rw [← hW]; exact Blk.new _ _ _ (by simp)
 have hBW : Below w.heap.size w W := by rw [← hW]; exact bl_alloc (bl_alloc (Below.refl _ _) _ (Nat.le_refl _)) _ (Nat.le_refl _)
 have HG : Hid (∀ V, Below W.heap.size W V → CaseAt (fun _ => True) V A 4 B m c) := fun V hb => (g.bl hBW).bl hb
 have HGS : Hid (∀ V, Below W.heap.size W V → Pls (fun _ => True) V L q l) := fun V hb => (gs.keep PlR.good (Keeps.below hBW)).keep PlR.good (Keeps.below hb)
 have kk : Hid (∀ V, Below W.heap.size W V → V.cell? ⟨w.heap.size, 0, none⟩ = some (.int .i64 kd) ∧ V.cell? ⟨w.heap.size, 1, none⟩ = some (.int .i64 ba) ∧ V.cell? ⟨w.heap.size, 2, none⟩ = some (.int .i64 mo) ∧ V.cell? ⟨w.heap.size, 3, none⟩ = some (.slice A 4 ca) ∧ V.cell? ⟨w.heap.size, 4, none⟩ = some (.slice B m cb) ∧ V.cell? ⟨w.heap.size + 1, 0, none⟩ = some (.slice L q cl)) :=
  fun V hb => ⟨(X.bl hb).cell 0, (X.bl hb).cell 1, (X.bl hb).cell 2, (X.bl hb).cell 3, (X.bl hb).cell 4, (Y.bl hb).cell 0⟩
 clear g gs X Y hok hl hfr
 obtain ⟨x0, x1, x2, x3, x4, y0⟩ := kk.out W (Below.refl _ _)
 go_enter Tryz.func31, Tryz.ntmps31
 go_wp2_with fail
 refine (scheck_any HOK.out W (HG.out W (Below.refl _ _)) h1 h2 h3).mono ?_
 rintro e V0 ⟨rfl, b0⟩
 have HB0 : Hid (Below W.heap.size W V0) := b0
 clear x0 x1 x2 x3 x4 y0 hW b0
 obtain ⟨x0, x1, x2, x3, x4, y0⟩ := kk.out V0 HB0.out
 go_wp2_with fail
 refine (senter_any HOK.out HL.out V0 (HG.out V0 HB0.out) (HGS.out V0 HB0.out) h1 h2 h3).mono ?_
 rintro e V1 ⟨rfl, b1⟩
 rw [HM.out]
 have HB1 : Hid (Below W.heap.size W V1) := bl_call HB0.out b1 (Nat.le_refl _)
 clear b1 x0 x1 x2 x3 x4 y0
 obtain ⟨gM, hgM⟩ : ∃ g, V1.heap.size = g := ⟨_, rfl⟩
 obtain ⟨U1, hU1⟩ : ∃ U, V1.alloc (.cells #[.int .i64 kd, .int .i64 ba, .int .i64 mo, .slice A 4 ca, .slice B m cb, .func (.func fr) #[] #[]] 104) = U := ⟨_, rfl⟩
 have HBU : Hid (Below W.heap.size W U1) := by rw [Hid, ← hU1]; exact bl_alloc HB1.out _ (Nat.le_refl _)
 have MU : Hid (Blk U1 gM 104 #[.int .i64 kd, .int .i64 ba, .int .i64 mo, .slice A 4 ca, .slice B m cb, .func (.func fr) #[] #[]]) := by rw [Hid, ← hU1]; exact Blk.new _ _ _ hgM.symm
 have HT1 : Hid (∀ (set : Nat) V, set < 256 → Below U1.heap.size U1 V → Calls Tryz.prog 69 #[.int .i64 (set : Int), .pointer (some ⟨w.heap.size + 1, 0, none⟩), .pointer (some ⟨gM, 0, none⟩)] V fun e w' => e = .returned (.bool (diffB c l set)) ∧ Below V.heap.size V w') := fun set V hset hb =>
  stell1_any HOK.out HL.out hq6 hset V (HG.out V (bl_call HBU.out hb (Nat.le_refl _))) (HGS.out V (bl_call HBU.out hb (Nat.le_refl _))) HM.out (kk.out V (bl_call HBU.out hb (Nat.le_refl _))).2.2.2.2.2 (MU.out.bl hb)
 obtain ⟨x0, x1, x2, x3, x4, y0⟩ := kk.out U1 HBU.out
 have eg := eg_stell1
 go_wp2_with fail
 clear hU1 hgM
 have h15 := HT1.out 15 U1 (by omega) (Below.refl _ _)
 rw [HD.out] at h15
 refine h15.mono ?_
 rintro e U2 ⟨rfl, b2⟩
 have HB2 : Hid (Below U1.heap.size U1 U2) := b2
 have HBW2 : Hid (Below W.heap.size W U2) := bl_call HBU.out b2 (Nat.le_refl _)
 clear x0 x1 x2 x3 x4 y0 b2 h15
 obtain ⟨x0, x1, x2, x3, x4, y0⟩ := kk.out U2 HBW2.out
 have HBE : Hid (Below w.heap.size w U2) := bl_call hBW HBW2.out (Nat.le_refl _)
 go_wp2_with fail
 go_ret2
 exact ⟨rfl, HBE.out⟩
set_option maxRecDepth 100000 in
set_option maxHeartbeats 4000000 in
theorem stell_any {c : Case5} {l : List (Nat × Nat)} {A B L : Option Addr} {ca m cb q cl : Nat} {kd ba mo : Int} (hok : Ok5 c) (hl : ∀ z ∈ l, z ∈ scalesN) (hq6 : q ≤ 6) (HD : Hid (diffB c l 15 = true)) (w : World) (g : CaseAt (fun _ => True) w A 4 B m c) (gs : Pls (fun _ => True) w L q l) (h1 : c.kind = kd) (h2 : c.base = ba) (h3 : c.most = mo) :
  Calls Tryz.prog 31 #[.agg #[.int .i64 kd, .int .i64 ba, .int .i64 mo, .slice A 4 ca, .slice B m cb], .slice L q cl] w fun e w' => (∃ A' n' c', e = .returned (.tuple #[.slice A' n' c', .int .i64 0]) ∧ Ints (fun _ => True) w' A' n' (tellZ c l).1) ∧ Below w.heap.size w w' := by
 have HN4 : Hid (c.hts.length = 4) := g.hs.len
 have HOK := Lib.hid hok
 have HL := Lib.hid hl
 have HQ : Hid (l.length = q) := gs.len
 have hq6i : (q : Int) ≤ 6 := by omega
 obtain ⟨iI, hiI, hzI0, hzI1, hzI2⟩ := info_parts infoInt5
 have HM : Hid (modelV c A 4 ca B m cb = .agg #[.int .i64 kd, .int .i64 ba, .int .i64 mo, .slice A 4 ca, .slice B m cb, .func (.func (roundF c.kind)) #[] #[]]) := by rw [Hid, modelV, h1, h2, h3]
 obtain ⟨fr, hfr⟩ : ∃ f, roundF c.kind = f := ⟨_, rfl⟩
 rw [hfr] at HM
 obtain ⟨W, hW⟩ : ∃ W, (w.alloc (.cells #[.int .i64 kd, .int .i64 ba, .int .i64 mo, .slice A 4 ca, .slice B m cb] 25)).alloc (.cells #[.slice L q cl] 66) = W := ⟨_, rfl⟩
 have X : Blk W w.heap.size 25 #[.int .i64 kd, .int .i64 ba, .int .i64 mo, .slice A 4 ca, .slice B m cb] := by rw [← hW]; exact (Blk.new _ _ _ rfl).alloc _
 have Y : Blk W (w.heap.size + 1) 66 #[.slice L q cl] := by rw [← hW]; exact Blk.new _ _ _ (by simp)
 have hBW : Below w.heap.size w W := by rw [← hW]; exact bl_alloc (bl_alloc (Below.refl _ _) _ (Nat.le_refl _)) _ (Nat.le_refl _)
 have HG : Hid (∀ V, Below W.heap.size W V → CaseAt (fun _ => True) V A 4 B m c) := fun V hb => (g.bl hBW).bl hb
 have HGS : Hid (∀ V, Below W.heap.size W V → Pls (fun _ => True) V L q l) := fun V hb => (gs.keep PlR.good (Keeps.below hBW)).keep PlR.good (Keeps.below hb)
 have kk : Hid (∀ V, Below W.heap.size W V → V.cell? ⟨w.heap.size, 0, none⟩ = some (.int .i64 kd) ∧ V.cell? ⟨w.heap.size, 1, none⟩ = some (.int .i64 ba) ∧ V.cell? ⟨w.heap.size, 2, none⟩ = some (.int .i64 mo) ∧ V.cell? ⟨w.heap.size, 3, none⟩ = some (.slice A 4 ca) ∧ V.cell? ⟨w.heap.size, 4, none⟩ = some (.slice B m cb) ∧ V.cell? ⟨w.heap.size + 1, 0, none⟩ = some (.slice L q cl)) :=
  fun V hb => ⟨(X.bl hb).cell 0, (X.bl hb).cell 1, (X.bl hb).cell 2, (X.bl hb).cell 3, (X.bl hb).cell 4, (Y.bl hb).cell 0⟩
 clear g gs X Y hok hl hfr
 obtain ⟨x0, x1, x2, x3, x4, y0⟩ := kk.out W (Below.refl _ _)
 go_enter Tryz.func31, Tryz.ntmps31
 go_wp2_with fail
 refine (scheck_any HOK.out W (HG.out W (Below.refl _ _)) h1 h2 h3).mono ?_
 rintro e V0 ⟨rfl, b0⟩
 have HB0 : Hid (Below W.heap.size W V0) := b0
 clear x0 x1 x2 x3 x4 y0 hW b0
 obtain ⟨x0, x1, x2, x3, x4, y0⟩ := kk.out V0 HB0.out
 go_wp2_with fail
 refine (senter_any HOK.out HL.out V0 (HG.out V0 HB0.out) (HGS.out V0 HB0.out) h1 h2 h3).mono ?_
 rintro e V1 ⟨rfl, b1⟩
 rw [HM.out]
 have HB1 : Hid (Below W.heap.size W V1) := bl_call HB0.out b1 (Nat.le_refl _)
 clear b1 x0 x1 x2 x3 x4 y0
 obtain ⟨gM, hgM⟩ : ∃ g, V1.heap.size = g := ⟨_, rfl⟩
 obtain ⟨U1, hU1⟩ : ∃ U, V1.alloc (.cells #[.int .i64 kd, .int .i64 ba, .int .i64 mo, .slice A 4 ca, .slice B m cb, .func (.func fr) #[] #[]] 104) = U := ⟨_, rfl⟩
 have HBU : Hid (Below W.heap.size W U1) := by rw [Hid, ← hU1]; exact bl_alloc HB1.out _ (Nat.le_refl _)
 have MU : Hid (Blk U1 gM 104 #[.int .i64 kd, .int .i64 ba, .int .i64 mo, .slice A 4 ca, .slice B m cb, .func (.func fr) #[] #[]]) := by rw [Hid, ← hU1]; exact Blk.new _ _ _ hgM.symm
 have HT1 : Hid (∀ (set : Nat) V, set < 256 → Below U1.heap.size U1 V → Calls Tryz.prog 69 #[.int .i64 (set : Int), .pointer (some ⟨w.heap.size + 1, 0, none⟩), .pointer (some ⟨gM, 0, none⟩)] V fun e w' => e = .returned (.bool (diffB c l set)) ∧ Below V.heap.size V w') := fun set V hset hb =>
  stell1_any HOK.out HL.out hq6 hset V (HG.out V (bl_call HBU.out hb (Nat.le_refl _))) (HGS.out V (bl_call HBU.out hb (Nat.le_refl _))) HM.out (kk.out V (bl_call HBU.out hb (Nat.le_refl _))).2.2.2.2.2 (MU.out.bl hb)
 obtain ⟨x0, x1, x2, x3, x4, y0⟩ := kk.out U1 HBU.out
 have eg := eg_stell1
 go_wp2_with fail
 clear hU1 hgM
 have h15 := HT1.out 15 U1 (by omega) (Below.refl _ _)
 rw [HD.out] at h15
 refine h15.mono ?_
 rintro e U2 ⟨rfl, b2⟩
 have HB2 : Hid (Below U1.heap.size U1 U2) := b2
 have HBW2 : Hid (Below W.heap.size W U2) := bl_call HBU.out b2 (Nat.le_refl _)
 clear x0 x1 x2 x3 x4 y0 b2 h15
 obtain ⟨x0, x1, x2, x3, x4, y0⟩ := kk.out U2 HBW2.out
 go_wp2_with fail
 clear x0 x1 x2 x3 x4 y0
 go_loopw [4, 8, 54] (fun be ma i wr => ∃ (k n' cap mn : Nat) (An : Option Addr), k ≤ 16 ∧ mn ≤ 5 ∧ i = .int .i64 k ∧ be = .slice An n' cap ∧ ma = .int .i64 (mn : Int) ∧ Hid (Below U2.heap.size U2 wr) ∧ Hid (Ints (fun _ => True) wr An n' (tellS c l k).1) ∧ Hid ((tellS c l k).2 = mn)) (fun _ _ i _ => 16 - (intOf i).toNat)
 case atStart => exact ⟨0, 0, 0, 5, none, by omega, by omega, rfl, rfl, rfl, Below.refl _ _, SliceOf.nil _ _ _ _ _, rfl⟩
 case round =>
  obtain ⟨wo, hwo⟩ : ∃ V, V = wr := ⟨_, rfl⟩
  rw [← hwo] at hrel ⊢
  clear hwo
  obtain ⟨k, n', cap, mn, An, hk, hmn, rfl, rfl, rfl, HBr, HIr, HNr⟩ := hrel
  by_cases hlt : k < 16
  ·have hki : (k : Int) < 16 := by omega
   have hones := ones_any k (by omega) wo
   have hb4 := bitL4 k hlt
   obtain ⟨bl, hbl⟩ : ∃ x, (bitL k).length = x := ⟨_, rfl⟩
   rw [hbl] at hones hb4
   have HBL := Lib.hid hbl
   have HONES := Lib.hid hones
   have wk : IntKind.u64.wrap (k : Int) = (k : Int) := by rw [IntKind.wrap_u64]; omega
   have eg := eg_stell1
   have HBU1 : Hid (Below U1.heap.size U1 wo) := bl_call HB2.out HBr.out (Nat.le_refl _)
   clear hones hbl
   by_cases hlong : mn < bl
   ·have HS : Hid (tellS c l (k + 1) = tellS c l k) := tell_long (by rw [HNr.out, HBL.out]; exact hlong)
    go_wp2_with fail
    refine HONES.out.mono ?_
    rintro e w' ⟨rfl, rfl⟩
    go_wp2_with fail
    go_roundw
    case rel => exact ⟨k + 1, n', cap, mn, An, by omega, hmn, by go_num, rfl, rfl, HBr, by rw [Hid, HS.out]; exact HIr.out, by rw [Hid, HS.out]; exact HNr.out⟩
    case measure => simp [intOf]; omega
   go_wp2_with fail
   refine HONES.out.mono ?_
   rintro e w' ⟨rfl, rfl⟩
   have hcall := HT1.out k wo (by omega) HBU1.out
   cases hdf : diffB c l k with
   | false =>
    have HS : Hid (tellS c l (k + 1) = tellS c l k) := tell_same hdf
    rw [hdf] at hcall
    clear hdf
    go_wp2_with fail
    refine hcall.mono ?_
    rintro e w2 ⟨rfl, b2⟩
    have HBr2 : Hid (Below U2.heap.size U2 w2) := bl_call HBr.out b2 (Nat.le_refl _)
    have HIr2 : Hid (Ints (fun _ => True) w2 An n' (tellS c l k).1) := HIr.out.keep IntR.good (Keeps.below b2)
    clear hcall b2
    go_wp2_with fail
    go_roundw
    case rel => exact ⟨k + 1, n', cap, mn, An, by omega, hmn, by go_num, rfl, rfl, HBr2, by rw [Hid, HS.out]; exact HIr2.out, by rw [Hid, HS.out]; exact HNr.out⟩
    case measure => simp [intOf]; omega
   | true =>
    have HDF := Lib.hid hdf
    rw [hdf] at hcall
    clear hdf
    go_wp2_with fail
    refine hcall.mono ?_
    rintro e w2 ⟨rfl, b2⟩
    have HBr2 : Hid (Below U2.heap.size U2 w2) := bl_call HBr.out b2 (Nat.le_refl _)
    have HIr2 : Hid (Ints (fun _ => True) w2 An n' (tellS c l k).1) := HIr.out.keep IntR.good (Keeps.below b2)
    obtain ⟨x0, x1, x2, x3, x4, y0⟩ := kk.out w2 (bl_call HBW2.out HBr2.out (Nat.le_refl _))
    clear hcall b2
    go_wp2_with fail
    clear x0 x1 x2 x3 x4 y0
    go_loopw [10, 71] (fun al i wr => ∃ (j n3 cap3 : Nat) (A3 : Option Addr), j ≤ 4 ∧ n3 ≤ j ∧ i = .int .i64 j ∧ al = .slice A3 n3 cap3 ∧ Hid (Below w2.heap.size w2 wr) ∧ Hid (OwnL IntR 1 (fun _ => False) wr w2.heap.size 3 (.slice A3 n3 cap3) (bitU k j)) ∧ Hid ((bitU k j).length = n3)) (fun _ i _ => 4 - (intOf i).toNat)
    case atStart => exact ⟨0, 0, 0, none, by omega, Nat.le_refl _, rfl, rfl, Below.refl _ _, OwnL.nil _ _ _ _ _ _, rfl⟩
    case round =>
     obtain ⟨wq, hwq⟩ : ∃ V, V = wr := ⟨_, rfl⟩
     rw [← hwq] at hrel ⊢
     clear hwq
     obtain ⟨j, n3, cap3, A3, hj, hn3, rfl, rfl, HBq, HOq, HLq⟩ := hrel
     by_cases hj4 : j < 4
     ·have hji : (j : Int) < 4 := by omega
      have hbt := bit_test k (by omega) j (by omega)
      cases htb : k.testBit j with
      | false =>
       have HU2 : Hid (bitU k (j + 1) = bitU k j) := by rw [Hid, bitU_succ, htb]; simp
       rw [htb] at hbt
       clear htb
       go_wp2_with fail
       go_roundw
       case rel => exact ⟨j + 1, n3, cap3, A3, by omega, by omega, by go_num, rfl, HBq, by rw [Hid, HU2.out]; exact HOq.out, by rw [Hid, HU2.out]; exact HLq.out⟩
       case measure => simp [intOf]; omega
      | true =>
       have HU2 : Hid (bitU k (j + 1) = bitU k j ++ [(j : Int)]) := by rw [Hid, bitU_succ, htb]; simp
       rw [htb] at hbt
       clear htb
       have hs4 := HBq.out.size
       go_wp2_with (at_builtin; refine wpList_append_n _ rfl (.tmp 79) (.tmp 81) _ rfl IntR.good w2.heap.size 3 iI _ 8 Tryz.underlying22 hiI hzI0 hzI1 hzI2 rfl (by omega) (.slice A3 n3 cap3) (bitU k j) (j : Int) n3 HLq.out rfl (HOq.out.alloc IntR.good _) ⟨_, 0, none⟩ 1 [.int .i64 (j : Int)] rfl rfl (news_new rfl rfl) ?c1 ?c2 ?c3 (fun h => h) ?_)
       case c1 => simp only [maxLen]; omega
       case c2 => omega
       case c3 => simp; omega
       intro A' cap' w5 hown2 hg2 hat2
       have HB5 : Hid (Below w2.heap.size w2 w5) := bl_grown (bl_alloc HBq.out _ (Nat.le_refl _)) (HOq.out.alloc IntR.good _) hg2 (Nat.le_refl _) (Nat.le_refl _)
       have HO5 : Hid (OwnL IntR 1 (fun _ => False) w5 w2.heap.size 3 (.slice (some ⟨A', 0, none⟩) (n3 + 1) cap') (bitU k (j + 1))) := by rw [Hid, HU2.out]; exact hown2
       have HL5 : Hid ((bitU k (j + 1)).length = n3 + 1) := by rw [Hid, HU2.out, List.length_append, HLq.out]; rfl
       clear hown2 hg2 hat2
       go_wp2_with fail
       go_roundw
       case rel => exact ⟨j + 1, n3 + 1, cap', some ⟨A', 0, none⟩, by omega, by omega, by go_num, by simp, HB5, HO5, HL5⟩
       case measure => simp [intOf]; omega
     obtain rfl : j = 4 := by omega
     have HU4 : Hid (bitU k 4 = bitL k) := bitU4 k hlt
     have HIP : Hid (Ints (fun _ => True) wq A3 n3 (bitL k)) := by
      have h := HOq.out.slice (T := fun _ => True) IntR.good rfl (by simp only [maxLen]; omega) (fun _ h => h.elim) (fun _ _ _ => trivial)
      rwa [HU4.out] at h
     obtain rfl : bl = n3 := by have h := HLq.out; rw [HU4.out, HBL.out] at h; exact h
     have HIB : Hid (Ints (fun _ => True) wq An n' (tellS c l k).1) := HIr2.out.keep IntR.good (Keeps.below HBq.out)
     have HBq2 : Hid (Below U2.heap.size U2 wq) := bl_call HBr2.out HBq.out (Nat.le_refl _)
     have HNL : Hid (¬ (tellS c l k).2 < (bitL k).length) := by rw [Hid, HNr.out, HBL.out]; exact hlong
     by_cases hshort : bl < mn
     ·have HS : Hid (tellS c l (k + 1) = (bitL k, (bitL k).length)) := tell_new HNL.out HDF.out (.inl (by rw [HNr.out, HBL.out]; exact hshort))
      go_wp2_with fail
      go_roundw
      case rel => exact ⟨k + 1, bl, cap3, bl, A3, by omega, by omega, by go_num, rfl, rfl, HBq2, by rw [Hid, HS.out]; exact HIP.out, by rw [Hid, HS.out]; exact HBL.out⟩
      case measure => simp [intOf]; omega
     have hcmp := compare_any (c := cap3) (d := cap) wq HIP.out HIB.out
     obtain ⟨lx, hlx⟩ : ∃ x, lexC (bitL k) (tellS c l k).1 = x := ⟨_, rfl⟩
     rw [hlx] at hcmp
     have HLX := Lib.hid hlx
     have HCMP := Lib.hid hcmp
     clear hcmp hlx
     by_cases hneg : lx < 0
     ·have HS : Hid (tellS c l (k + 1) = (bitL k, (bitL k).length)) := tell_new HNL.out HDF.out (.inr (by rw [HLX.out]; exact hneg))
      go_wp2_with fail
      refine HCMP.out.mono ?_
      rintro e w6 ⟨rfl, hw6⟩
      rw [← hw6]
      clear hw6
      go_wp2_with fail
      go_roundw
      case rel => exact ⟨k + 1, bl, cap3, bl, A3, by omega, by omega, by go_num, rfl, rfl, HBq2, by rw [Hid, HS.out]; exact HIP.out, by rw [Hid, HS.out]; exact HBL.out⟩
      case measure => simp [intOf]; omega
     have HS : Hid (tellS c l (k + 1) = tellS c l k) := tell_old HNL.out HDF.out (by rw [HNr.out, HBL.out, HLX.out]; omega)
     go_wp2_with fail
     refine HCMP.out.mono ?_
     rintro e w6 ⟨rfl, hw6⟩
     rw [← hw6]
     clear hw6
     go_wp2_with fail
     go_roundw
     case rel => exact ⟨k + 1, n', cap, mn, An, by omega, hmn, by go_num, rfl, rfl, HBq2, by rw [Hid, HS.out]; exact HIB.out, by rw [Hid, HS.out]; exact HNr.out⟩
     case measure => simp [intOf]; omega
  obtain rfl : k = 16 := by omega
  have HI : Hid (Ints (fun _ => True) wo An n' (tellZ c l).1) := by rw [Hid, ← tellS_all HN4.out]; exact HIr.out
  have HBE : Hid (Below w.heap.size w wo) := bl_call hBW (bl_call HBW2.out HBr.out (Nat.le_refl _)) (Nat.le_refl _)
  go_wp2
  go_ret2
  exact ⟨⟨An, n', cap, rfl, HI.out⟩, HBE.out⟩
open Go.RowKit Go.Shelf
theorem in5_any (x lo hi : Int) (w : World) : Calls Tryz.prog 18 #[.int .i64 x, .int .i64 lo, .int .i64 hi] w fun e w' => e = .returned (.bool (inB x lo hi)) ∧ w' = w := by
 have Hb : Hid (inB x lo hi = (decide (lo ≤ x) && decide (x ≤ hi))) := rfl
 by_cases c1 : lo ≤ x
 ·by_cases c2 : x ≤ hi
  ·go_enter Tryz.func18, Tryz.ntmps18
   go_wp2
   go_ret
   exact ⟨ret_bool (by rw [Hb.out, decide_eq_true c1, decide_eq_true c2]; rfl), rfl⟩
  go_enter Tryz.func18, Tryz.ntmps18
  go_wp2
  go_ret
  exact ⟨ret_bool (by rw [Hb.out, decide_eq_false (show ¬ x ≤ hi by omega)]; simp), rfl⟩
 go_enter Tryz.func18, Tryz.ntmps18
 go_wp2
 go_ret
 exact ⟨ret_bool (by rw [Hb.out, decide_eq_false (show ¬ lo ≤ x by omega)]; rfl), rfl⟩
open Go.RowKit Go.Shelf
theorem ret_of5 {tmps : Array Value} {w : World} {g : Nat} {a b : Int} {T : TypeId} (ht : tmps[4]? = some (.pointer (some ⟨g, 0, none⟩))) (h : Blk w g T #[.int .i64 a, .int .i64 b]) : (results Tryz.f22 tmps).run Tryz.prog w = .ok (.agg #[.int .i64 a, .int .i64 b]) w := by
 have c0 := h.cell 0
 have c1 := h.cell 1
 simp [results, Tryz.results22, asAddr, go_sem, ht, c0, c1]
theorem ret_span5 {tmps : Array Value} {w : World} {g : Nat} {a b : Int} {T : TypeId} (ht : tmps[4]? = some (.pointer (some ⟨g, 0, none⟩))) (h : Blk w g T #[.int .i64 a, .int .i64 b]) : (results Tryz.f67 tmps).run Tryz.prog w = .ok (.agg #[.int .i64 a, .int .i64 b]) w := by
 have c0 := h.cell 0
 have c1 := h.cell 1
 simp [results, Tryz.results67, asAddr, go_sem, ht, c0, c1]
theorem ret_mark5 {tmps : Array Value} {w : World} {g : Nat} {a b d : Int} {T : TypeId} (ht : tmps[6]? = some (.pointer (some ⟨g, 0, none⟩))) (h : Blk w g T #[.int .i64 a, .int .i64 b, .int .i64 d]) : (results Tryz.f29 tmps).run Tryz.prog w = .ok (.agg #[.int .i64 a, .int .i64 b, .int .i64 d]) w := by
 have c0 := h.cell 0
 have c1 := h.cell 1
 have c2 := h.cell 2
 simp [results, Tryz.results29, asAddr, go_sem, ht, c0, c1, c2]
theorem ret_case5 {tmps : Array Value} {w : World} {g : Nat} {a b d : Int} {A B : Option Addr} {n ca m cb : Nat} {T : TypeId} (ht : tmps[2]? = some (.pointer (some ⟨g, 0, none⟩))) (h : Blk w g T #[.int .i64 a, .int .i64 b, .int .i64 d, .slice A n ca, .slice B m cb]) : (results Tryz.f24 tmps).run Tryz.prog w = .ok (.agg #[.int .i64 a, .int .i64 b, .int .i64 d, .slice A n ca, .slice B m cb]) w := by
 have c0 := h.cell 0
 have c1 := h.cell 1
 have c2 := h.cell 2
 have c3 := h.cell 3
 have c4 := h.cell 4
 simp [results, Tryz.results24, asAddr, go_sem, ht, c0, c1, c2, c3, c4]
theorem of5_any (a z : Int) (w : World) :
  Calls Tryz.prog 22 #[.int .i64 a, .int .i64 z] w fun e w' => e = .returned (.agg #[.int .i64 a, .int .i64 z]) ∧ Below w.heap.size w w' := by
 obtain ⟨W, hW⟩ : ∃ W, w.alloc (.cells #[.int .i64 0, .int .i64 0] 42) = W := ⟨_, rfl⟩
 have X : Blk W w.heap.size 42 #[.int .i64 0, .int .i64 0] := by rw [← hW]; exact Blk.new _ _ _ rfl
 have hBW : Below w.heap.size w W := by rw [← hW]; exact bl_alloc (Below.refl _ _) _ (Nat.le_refl _)
 have z0 := X.cell 0
 have z1 := X.cell 1
 have fz0 := X.frozen 0
 have fz1 := X.frozen 1
 have hl := X.lt
 go_enter Tryz.func22, Tryz.ntmps22
 go_wp2_with fail
 exact bodyPost_ret (ret_of5 rfl (X.set2 _ _)) rfl ⟨rfl, bl_set (bl_set hBW (Nat.le_refl _) _) (Nat.le_refl _) _⟩
theorem span5_any (a z : Int) (w : World) :
  Calls Tryz.prog 67 #[.int .i64 a, .int .i64 z] w fun e w' => e = .returned (.agg #[.int .i64 a, .int .i64 z]) ∧ Below w.heap.size w w' := by
 obtain ⟨W, hW⟩ : ∃ W, w.alloc (.cells #[.int .i64 0, .int .i64 0] 27) = W := ⟨_, rfl⟩
 have X : Blk W w.heap.size 27 #[.int .i64 0, .int .i64 0] := by rw [← hW]; exact Blk.new _ _ _ rfl
 have hBW : Below w.heap.size w W := by rw [← hW]; exact bl_alloc (Below.refl _ _) _ (Nat.le_refl _)
 have z0 := X.cell 0
 have z1 := X.cell 1
 have fz0 := X.frozen 0
 have fz1 := X.frozen 1
 have hl := X.lt
 go_enter Tryz.func67, Tryz.ntmps67
 go_wp2_with fail
 exact bodyPost_ret (ret_span5 rfl (X.set2 _ _)) rfl ⟨rfl, bl_set (bl_set hBW (Nat.le_refl _) _) (Nat.le_refl _) _⟩
theorem mark5_any (p a z : Int) (w : World) :
  Calls Tryz.prog 29 #[.int .i64 p, .int .i64 a, .int .i64 z] w fun e w' => e = .returned (.agg #[.int .i64 p, .int .i64 a, .int .i64 z]) ∧ Below w.heap.size w w' := by
 obtain ⟨W, hW⟩ : ∃ W, w.alloc (.cells #[.int .i64 0, .int .i64 0, .int .i64 0] 65) = W := ⟨_, rfl⟩
 have X : Blk W w.heap.size 65 #[.int .i64 0, .int .i64 0, .int .i64 0] := by rw [← hW]; exact Blk.new _ _ _ rfl
 have hBW : Below w.heap.size w W := by rw [← hW]; exact bl_alloc (Below.refl _ _) _ (Nat.le_refl _)
 go_enter Tryz.func29, Tryz.ntmps29
 go_wp2_with fail
 refine (span5_any a z W).mono ?_
 rintro e W1 ⟨rfl, b1⟩
 have X1 := X.bl b1
 have hB1 := bl_call hBW b1 (Nat.le_refl _)
 have z0 := X1.cell 0
 have z1 := X1.cell 1
 have z2 := X1.cell 2
 have fz0 := X1.frozen 0
 have fz1 := X1.frozen 1
 have fz2 := X1.frozen 2
 have hl := X1.lt
 obtain ⟨V, hV⟩ : ∃ V, ((W1.setCell ⟨w.heap.size, 0, none⟩ (.int .i64 p)).setCell ⟨w.heap.size, 1, none⟩ (.int .i64 a)).setCell ⟨w.heap.size, 2, none⟩ (.int .i64 z) = V := ⟨_, rfl⟩
 have XV : Blk V w.heap.size 65 #[.int .i64 p, .int .i64 a, .int .i64 z] := by rw [← hV]; exact ((X1.set_ 0 (.int .i64 p)).set_ 1 (.int .i64 a)).set_ 2 (.int .i64 z)
 have HBV : Hid (Below w.heap.size w V) := by rw [Hid, ← hV]; exact bl_set (bl_set (bl_set hB1 (Nat.le_refl _) _) (Nat.le_refl _) _) (Nat.le_refl _) _
 clear b1 hW X hBW X1 hB1
 go_wp2_with fail
 exact bodyPost_ret (ret_mark5 rfl XV) rfl ⟨rfl, HBV.out⟩
def IsCase5 (v : Value) (w' : World) : Prop := ∃ (A B : Option Addr) (ca cb : Nat), v = .agg #[.int .i64 2, .int .i64 100, .int .i64 50, .slice A 4 ca, .slice B 3 cb] ∧ CaseAt (fun _ => True) w' A 4 B 3 exCase
set_option maxHeartbeats 1000000 in
theorem case5_any (w : World) :
  Calls Tryz.prog 24 #[.int .i64 2] w fun e w' => (∃ v, e = .returned v ∧ IsCase5 v w') ∧ Below w.heap.size w w' := by
 obtain ⟨W, hW⟩ : ∃ W, w.alloc (.cells #[.int .i64 0, .int .i64 0, .int .i64 0, .slice none 0 0, .slice none 0 0] 25) = W := ⟨_, rfl⟩
 have X : Blk W w.heap.size 25 #[.int .i64 0, .int .i64 0, .int .i64 0, .slice none 0 0, .slice none 0 0] := by rw [← hW]; exact Blk.new _ _ _ rfl
 have hBW : Below w.heap.size w W := by rw [← hW]; exact bl_alloc (Below.refl _ _) _ (Nat.le_refl _)
 obtain ⟨W1, hW1⟩ : ∃ V, W.alloc (.cells #[.int .i64 100, .int .i64 110, .int .i64 125, .int .i64 160] 3) = V := ⟨_, rfl⟩
 obtain ⟨W2, hW2⟩ : ∃ V, W1.alloc (.cells #[.int .i64 0, .int .i64 1, .int .i64 1, .int .i64 2, .int .i64 3, .int .i64 2] 72) = V := ⟨_, rfl⟩
 have hB1 : Below W.heap.size W W1 := by rw [← hW1]; exact bl_alloc (Below.refl _ _) _ (Nat.le_refl _)
 have hB2 : Below W1.heap.size W1 W2 := by rw [← hW2]; exact bl_alloc (Below.refl _ _) _ (Nat.le_refl _)
 have hs1 : W1.heap.size = W.heap.size + 1 := by rw [← hW1]; simp
 have hs2 : W2.heap.size = W.heap.size + 2 := by rw [← hW2]; simp [hs1]
 have hI : Blk W2 W.heap.size 3 #[.int .i64 100, .int .i64 110, .int .i64 125, .int .i64 160] := Blk.bl (by rw [← hW1]; exact Blk.new _ _ _ rfl) hB2
 have hR : Blk W2 W1.heap.size 72 #[.int .i64 0, .int .i64 1, .int .i64 1, .int .i64 2, .int .i64 3, .int .i64 2] := by rw [← hW2]; exact Blk.new _ _ _ rfl
 have X2 := (X.bl hB1).bl hB2
 have hwl : w.heap.size < W.heap.size := X.lt
 have hBW2 : Below w.heap.size w W2 := bl_call (bl_call hBW hB1 (Nat.le_refl _)) hB2 (Nat.le_refl _)
 obtain ⟨V, hV⟩ : ∃ V, ((((W2.setCell ⟨w.heap.size, 0, none⟩ (.int .i64 2)).setCell ⟨w.heap.size, 1, none⟩ (.int .i64 100)).setCell ⟨w.heap.size, 2, none⟩ (.int .i64 50)).setCell ⟨w.heap.size, 3, none⟩ (.slice (some ⟨W.heap.size, 0, none⟩) 4 4)).setCell ⟨w.heap.size, 4, none⟩ (.slice (some ⟨W1.heap.size, 0, none⟩) 3 3) = V := ⟨_, rfl⟩
 have XV : Blk V w.heap.size 25 #[.int .i64 2, .int .i64 100, .int .i64 50, .slice (some ⟨W.heap.size, 0, none⟩) 4 4, .slice (some ⟨W1.heap.size, 0, none⟩) 3 3] := by rw [← hV]; exact ((((X2.set_ 0 (.int .i64 2)).set_ 1 (.int .i64 100)).set_ 2 (.int .i64 50)).set_ 3 _).set_ 4 _
 have HIV : Blk V W.heap.size 3 #[.int .i64 100, .int .i64 110, .int .i64 125, .int .i64 160] := by rw [← hV]; exact ((((hI.far (by dsimp only; omega) _).far (by dsimp only; omega) _).far (by dsimp only; omega) _).far (by dsimp only; omega) _).far (by dsimp only; omega) _
 have HRV : Blk V W1.heap.size 72 #[.int .i64 0, .int .i64 1, .int .i64 1, .int .i64 2, .int .i64 3, .int .i64 2] := by rw [← hV]; exact ((((hR.far (by dsimp only; omega) _).far (by dsimp only; omega) _).far (by dsimp only; omega) _).far (by dsimp only; omega) _).far (by dsimp only; omega) _
 have HBV : Hid (Below w.heap.size w V) := by rw [Hid, ← hV]; exact bl_set (bl_set (bl_set (bl_set (bl_set hBW2 (Nat.le_refl _) _) (Nat.le_refl _) _) (Nat.le_refl _) _) (Nat.le_refl _) _) (Nat.le_refl _) _
 have HC : Hid (CaseAt (fun _ => True) V (some ⟨W.heap.size, 0, none⟩) 4 (some ⟨W1.heap.size, 0, none⟩) 3 exCase) := ⟨ints_blk7 (xs := [100, 110, 125, 160]) HIV trivial (by decide), pairs_blk7 (xs := [(0, 1), (1, 2), (3, 2)]) HRV rfl trivial (by decide)⟩
 have z0 := X2.cell 0
 have z1 := X2.cell 1
 have z2 := X2.cell 2
 have z3 := X2.cell 3
 have z4 := X2.cell 4
 have fz0 := X2.frozen 0
 have fz1 := X2.frozen 1
 have fz2 := X2.frozen 2
 have fz3 := X2.frozen 3
 have fz4 := X2.frozen 4
 have hl := X2.lt
 have HXV := Lib.hid XV
 clear hB1 hB2 hI hR X2 X XV HIV HRV hBW hBW2 hs1 hs2
 go_enter Tryz.func24, Tryz.ntmps24
 go_wp2_with fail
 exact bodyPost_ret (ret_case5 rfl HXV.out) rfl ⟨⟨_, rfl, _, _, _, _, rfl, HC.out⟩, HBV.out⟩
open Go.RowKit Go.Shelf
set_option maxHeartbeats 400000 in
theorem same5_any {S T : Foot} {A B : Option Addr} {n c m d : Nat} {xs ys : List (Nat × Nat)} (w : World) (h : Pls S w A n xs) (g : Pls T w B m ys) :
  Calls Tryz.prog 33 #[.slice A n c, .slice B m d] w fun e w' => e = .returned (.bool (decide (xs = ys))) ∧ ∃ q, w' = w.drewN q := by
 have hle := h.le
 have gle := g.le
 by_cases hnm : n = m
 ·obtain rfl : n = m := hnm
  have hb : ((n : Int) != (n : Int)) = false := by simp
  go_enter Tryz.func33, Tryz.ntmps33
  go_wp2
  go_loopw [5] (fun i wr => ∃ k : Nat, k ≤ n ∧ i = .int .i64 k ∧ Hid (xs.take k = ys.take k) ∧ ∃ q, wr = w.drewN q) (fun i _ => n - (intOf i).toNat)
  case atStart => exact ⟨0, Nat.zero_le _, rfl, by simp [Hid], 0, rfl⟩
  case round =>
   obtain ⟨k, hk, rfl, Hn, q, rfl⟩ := hrel
   by_cases hlt : k < n
   ·obtain ⟨b, off, x1, x2, rfl, _, hc0, hc1, Hx⟩ := h.get hlt
    obtain ⟨b', off', y1, y2, rfl, _, hd0, hd1, Hy⟩ := g.get hlt
    by_cases hm : x1 = y1
    ·subst hm
     by_cases hm2 : x2 = y2
     ·subst hm2
      go_wp2
      go_quiet (fail)
      go_wp2
      go_roundw
      case rel => exact ⟨k + 1, by omega, by go_num, by rw [Hid, take_snoc_get Hx.out, take_snoc_get Hy.out, Hn.out], _, rfl⟩
      case measure => simp [intOf]; omega
     have hmb : ¬ (x2 : Int) = (y2 : Int) := by omega
     have HM := Lib.hid hm2
     clear hm2
     go_wp2
     go_quiet (fail)
     go_wp2
     go_ret
     refine ⟨ret_bool ?_, q + nq, by rw [World.drewN_drewN]⟩
     symm; rw [decide_eq_false_iff_not]; rintro rfl
     have h1 := Hx.out; rw [Hy.out] at h1
     exact HM.out (congrArg Prod.snd (Option.some.inj h1)).symm
    have hmb : ¬ (x1 : Int) = (y1 : Int) := by omega
    have HM := Lib.hid hm
    clear hm
    go_wp2
    go_quiet (fail)
    go_wp2
    go_ret
    refine ⟨ret_bool ?_, q + nq, by rw [World.drewN_drewN]⟩
    symm; rw [decide_eq_false_iff_not]; rintro rfl
    have h1 := Hx.out; rw [Hy.out] at h1
    exact HM.out (congrArg Prod.fst (Option.some.inj h1)).symm
   go_wp2
   go_ret
   refine ⟨ret_bool ?_, _, rfl⟩
   symm; rw [decide_eq_true_iff]
   have := Hn.out
   rwa [List.take_of_length_le (by rw [h.len]; omega), List.take_of_length_le (by rw [g.len]; omega)] at this
 have hb : ((n : Int) != (m : Int)) = true := by simp; omega
 have HM := Lib.hid hnm
 clear hnm
 go_enter Tryz.func33, Tryz.ntmps33
 go_wp2
 go_ret
 exact ⟨ret_bool (by symm; rw [decide_eq_false_iff_not]; rintro rfl; exact HM.out (h.len.symm.trans g.len)), 0, rfl⟩
end Go.Proofs.YtcnebekkbfajbaaGreat
