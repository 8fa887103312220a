/- A part of the proof that TopWorn always answers true. -/
import Derived.Maps.RangeWalk
import Derived.DeepKeys4
import Derived.Test.YtdbfincinjoppabGreatDoorCBackPure6
import Derived.Test.YtdbfincinjoppabGreatDoorCMaps2
import Derived.Test.YtdbfincinjoppabGreatDoorCProg21
import Derived.Test.YtdbfincinjoppabGreatDoorCProg6
set_option linter.all false
namespace Go.Proofs.YtdbfincinjoppabGreatDoor
open Go.RowKit Go.Shelf Go.Maps
theorem laidOutP : laidOutB Tryz.prog = true := by kernel_rfl
theorem key2_law : WideMaps.KeyLaw Tryz.prog 163 := deep_law_laid laidOutP (m := 2) (by omega) (of_decide_eq_true (by kernel_rfl)) (by kernel_rfl) (by rw [Tryz.underlying163])
def kv2 (x : Int × Int) : Value := .agg #[.int .i64 x.1, .int .i64 x.2]
theorem kv2_inj (x y : Int × Int) (h : kv2 x = kv2 y) : x = y := by
 simp [kv2] at h
 exact Prod.ext h.1 h.2
theorem key2_type : Tryz.prog.keyType 163 = true := by kernel_rfl
theorem cells2 : Tryz.prog.cellsOf 163 = 2 := by kernel_rfl
theorem cells1 : Tryz.prog.cellsOf 3 = 1 := by kernel_rfl
theorem types_size : ∃ d, Tryz.prog.types.size = d + 1 := ⟨Tryz.prog.types.size - 1, by have : 0 < Tryz.prog.types.size := of_decide_eq_true (by kernel_rfl); omega⟩
theorem key2_ok (x : Int × Int) (h1 : (Lit.int .i64 x.1).wf = true) (h2 : (Lit.int .i64 x.2).wf = true) : ∃ kl, keyOf Tryz.prog 163 (kv2 x) = some kl := by
 obtain ⟨d, hd⟩ := types_size
 rw [← Option.isSome_iff_exists, keyOf, Tryz.underlying163]
 simp only [key2_type, hd, kv2, Value.formed, Tryz.underlying163, cells2, Program.keyLits, Value.cells]
 simp [List.range_succ, cells1, Tryz.underlying3, h1, h2, cells2]
theorem zeroInt (u : World) : (zeroValue 3).run Tryz.prog u = .ok (.int .i64 0) u := by kernel_rfl
abbrev MapI := MapZ Tryz.prog 3 3
abbrev Seen2 := SeenZ Tryz.prog 163 3 kv2
theorem Truths.get {S : Foot} {w : World} {A : Option Addr} {n : Nat} {xs : List (List Int)} {k : Nat} (h : Truths S w A n xs) (hk : k < n) :
  ∃ b off x, A = some ⟨b, off, none⟩ ∧ w.cell? ⟨b, off + k * 5, none⟩ = some (.int .i64 (x.getD 0 0)) ∧ w.cell? ⟨b, off + k * 5 + 1, none⟩ = some (.int .i64 (x.getD 1 0)) ∧ w.cell? ⟨b, off + k * 5 + 2, none⟩ = some (.int .i64 (x.getD 2 0)) ∧
   w.cell? ⟨b, off + k * 5 + 3, none⟩ = some (.int .i64 (x.getD 3 0)) ∧ w.cell? ⟨b, off + k * 5 + 4, none⟩ = some (.int .i64 (x.getD 4 0)) ∧ Hid (xs[k]? = some x) := by
 have hlt : k < xs.length := by rw [h.1]; exact hk
 obtain ⟨b, off, vs, hA, _, _, rfl, hc⟩ := h.2.2 k xs[k] (List.getElem?_eq_getElem hlt)
 exact ⟨b, off, xs[k], hA, by simpa using hc 0 _ rfl, by simpa using hc 1 _ rfl, by simpa using hc 2 _ rfl, by simpa using hc 3 _ rfl, by simpa using hc 4 _ rfl, List.getElem?_eq_getElem hlt⟩
theorem sh_mask (s : Nat) (hs : s < 32) : IntKind.i64.wrap ((2 : Int) ^ s) = 2 ^ s := by
 have : ∀ s, s < 32 → IntKind.i64.wrap ((2 : Int) ^ s) = 2 ^ s := by decide +kernel
 exact this s hs
theorem bits_or64 (m p : Nat) (hm : m < 4294967296) (hp : p < 4294967296) : bits BinOp.or .i64 (m : Int) (p : Int) = ((m ||| p : Nat) : Int) := by
 have hl : m ||| p < 4294967296 := Nat.or_lt_two_pow (n := 32) hm hp
 have h1 : (BitVec.ofInt 64 (m : Int)).toNat = m := by simp only [BitVec.toNat_ofInt]; omega
 have h2 : (BitVec.ofInt 64 (p : Int)).toNat = p := by simp only [BitVec.toNat_ofInt]; omega
 show IntKind.i64.wrap ((BitVec.ofInt 64 (m : Int) ||| BitVec.ofInt 64 (p : Int)).toNat : Int) = _
 rw [BitVec.toNat_or, h1, h2, IntKind.wrap_i64]
 omega
theorem or_mask (m s : Nat) (hm : m < 4294967296) (hs : s < 32) : bits BinOp.or .i64 (m : Int) (2 ^ s) = ((m ||| 2 ^ s : Nat) : Int) := by
 rw [show ((2 : Int) ^ s) = ((2 ^ s : Nat) : Int) by push_cast; rfl]
 exact bits_or64 m _ hm (Nat.pow_lt_pow_right (a := 2) (n := 32) (by decide) hs)
theorem or_pos (m s : Nat) (hm : m < 4294967296) (hs : s < 32) : m ||| 2 ^ s ≠ 0 ∧ m ||| 2 ^ s ≤ 9223372036854775807 := by
 have h1 : 2 ^ s ≤ m ||| 2 ^ s := Nat.right_le_or
 have h2 : 0 < 2 ^ s := Nat.two_pow_pos s
 have h3 : m ||| 2 ^ s < 4294967296 := Nat.or_lt_two_pow (n := 32) hm (Nat.pow_lt_pow_right (a := 2) (n := 32) (by decide) hs)
 exact ⟨by omega, by omega⟩
theorem most_step1 {left : Lit → Bool} {mf : Int → Nat} {P : Int → Int} {z x : Int} (h : ∀ y, left (.int .i64 y) = false → mf y ≠ 0 → P y ≤ z) :
  Hid (∀ y, (left (.int .i64 y) && !(Lit.int .i64 y).sameKey (.int .i64 x)) = false → mf y ≠ 0 → P y ≤ max z (P x)) := fun y hy hn => by
 cases hl : left (.int .i64 y)
 ·exact Int.le_trans (h y hl hn) (Int.le_max_left _ _)
 rw [hl, Bool.true_and] at hy
 have hs : (Lit.int .i64 y).sameKey (.int .i64 x) = true := by
  cases h2 : (Lit.int .i64 y).sameKey (.int .i64 x)
  ·rw [h2] at hy; cases hy
  rfl
 have := WideAt.sameKey_eq hs
 injection this with _ this
 rw [this]; exact Int.le_max_right _ _
theorem most_step2 {mf : Int → Nat} {P : Int → Int} {z x : Int} (hx : mf x ≠ 0) (h : z = 0 ∨ ∃ y, mf y ≠ 0 ∧ z = P y) : Hid (max z (P x) = 0 ∨ ∃ y, mf y ≠ 0 ∧ max z (P x) = P y) := by
 rcases Int.le_total z (P x) with h1 | h1
 ·exact .inr ⟨x, hx, Int.max_eq_right h1⟩
 have e : max z (P x) = z := Int.max_eq_left h1
 exact h.elim (fun h0 => .inl (e.trans h0)) (fun ⟨y, h1, h2⟩ => .inr ⟨y, h1, e.trans h2⟩)
def metP (c : Claim) (f : Nat) (L : List (List Int)) (x : Int × Int) : Prop := ∃ t ∈ L, len c t f = x.1 ∧ (setN t : Int) = x.2
set_option maxRecDepth 100000 in
set_option maxHeartbeats 8000000 in
theorem left_any {A B C T : Option Addr} {n ca m cb q cc nT cT : Nat} {c : Claim} {S : Foot} {L : List (List Int)} (f : Nat) (w : World) (h : ClaimAt (fun _ => True) w A n B m C q c) (hok : OkC c) (hL : Truths S w T nT L) (hLT : ∀ t ∈ L, t ∈ allT c.causes) (hf : f < c.feats.length) (hLs : nT ≤ 100000) :
  Calls Tryz.prog 61 #[.agg #[.slice A n ca, .slice B m cb, .slice C q cc], .slice T nT cT, .int .i64 f] w fun e w' => e = .returned (.int .i64 (leftR c L f)) ∧ Below w.heap.size w w' := by
 have hfn : f < n := by rw [← h.fs.len]; exact hf
 have hfi : (f : Int) < n := by omega
 have hm5 : m ≤ 5 := by rw [← h.cs.len]; exact hok.nc
 obtain ⟨bf, of, sf, nom, er, rfl, hbf, hcf0, hcf1, hcf2, _, HF⟩ := h.fs.get hfn
 obtain ⟨_, _, he1, he2⟩ := hok.feat HF.out
 have hoff : Hid (offOf c f = er) := by rw [Hid, offOf, getD_of HF.out]
 have Hm := Lib.hid h.cs.len
 have HLn := Lib.hid hL.len
 have HLT := Lib.hid hLT
 have hmm := @run_makeMap Tryz.prog
 clear hLT
 go_enter Tryz.func61, Tryz.ntmps61
 go_wp2
 obtain ⟨W0, hW0⟩ : ∃ W0, ((w.alloc (.cells #[.slice (some ⟨bf, of, none⟩) n ca, .slice B m cb, .slice C q cc] 95)).alloc (.map #[] 0)).alloc (.map #[] 0) = W0 := ⟨_, rfl⟩
 have hB0 : Below w.heap.size w W0 := by rw [← hW0]; exact bl_alloc (bl_alloc (bl_alloc (Below.refl _ _) _ (Nat.le_refl _)) _ (Nat.le_refl _)) _ (Nat.le_refl _)
 have hX0 : Blk W0 w.heap.size 95 #[.slice (some ⟨bf, of, none⟩) n ca, .slice B m cb, .slice C q cc] := by rw [← hW0]; exact ((Blk.new _ _ _ rfl).alloc _).alloc _
 have hM0 : MapI W0 (w.heap.size + 1) 0 (fun _ => 0) := by
  rw [← hW0]
  have h1 := MapZ.new (P := Tryz.prog) (k := 3) (e := 3) (w.alloc (.cells #[.slice (some ⟨bf, of, none⟩) n ca, .slice B m cb, .slice C q cc] 95))
  have h2 := h1.at (w' := ((w.alloc (.cells #[.slice (some ⟨bf, of, none⟩) n ca, .slice B m cb, .slice C q cc] 95)).alloc (.map #[] 0)).alloc (.map #[] 0)) (Below.heap_alloc _ _ _ h1.lt)
  simpa using h2
 have hN0 : Seen2 W0 (w.heap.size + 1 + 1) 0 (fun _ => False) := by
  rw [← hW0]
  have h1 := SeenZ.new (P := Tryz.prog) (k := 163) (e := 3) (key := kv2) ((w.alloc (.cells #[.slice (some ⟨bf, of, none⟩) n ca, .slice B m cb, .slice C q cc] 95)).alloc (.map #[] 0))
  simpa using h1
 have hs0 : w.heap.size + 3 ≤ W0.heap.size := by rw [← hW0]; simp
 rw [hW0]
 clear hW0 hmm
 clear hcf0 hcf1 hcf2
 obtain ⟨b1, hb1⟩ : ∃ b1, w.heap.size + 1 = b1 := ⟨_, rfl⟩
 obtain ⟨b2, hb2⟩ : ∃ b2, w.heap.size + 1 + 1 = b2 := ⟨_, rfl⟩
 rw [hb2, hb1]
 rw [hb2] at hN0
 rw [hb1] at hM0
 have hb1l : w.heap.size < b1 := by omega
 have hb2l : b1 < b2 := by omega
 have hb2s : b2 < W0.heap.size := by omega
 clear hb1 hb2 hs0
 go_loopw [11, 12, 13, 14, 15, 29] (fun _ _ _ _ _ i wr => ∃ k : Nat, k ≤ nT ∧ i = .int .i64 k ∧ Kept (fun j => j = b1 ∨ j = b2) W0 wr ∧ MapI wr b1 (201 * k) (maskN c f (L.take k)) ∧ Seen2 wr b2 k (metP c f (L.take k))) (fun _ _ _ _ _ i _ => nT - (intOf i).toNat)
 case atStart => exact ⟨0, Nat.zero_le _, rfl, Kept.refl _ _, hM0, hN0.mono (fun _ h => h.elim)⟩
 case round =>
  obtain ⟨k, hk, rfl, hK, hM, hN⟩ := hrel
  by_cases hlt : k < nT
  ·have hki : (k : Int) < nT := by omega
   have hBr : Below w.heap.size w wr := hB0.trans (hK.below hB0.size (fun j hj => by omega))
   obtain ⟨bT, oT, t, rfl, ht0, ht1, ht2, ht3, ht4, Ht⟩ := Truths.get (hL.keep TrR.good (Keeps.below hBr)) hlt
   have htm := HLT.out t (List.mem_of_getElem? Ht.out)
   obtain ⟨htl, htT⟩ := allT_ok hok htm
   have hmm : t.length = m := by rw [htl]; exact Hm.out
   have h5 := five_take hmm hm5
   have hsn : setN [t.getD 0 0, t.getD 1 0, t.getD 2 0, t.getD 3 0, t.getD 4 0] = setN t := rfl
   have hlb := len_bd hok htT hf
   have hsl := setN_lt t
   have HTK : Hid (L.take (k + 1) = L.take k ++ [t]) := take_snoc_get Ht.out
   generalize t.getD 0 0 = a0 at h5 hsn ht0
   generalize t.getD 1 0 = a1 at h5 hsn ht1
   generalize t.getD 2 0 = a2 at h5 hsn ht2
   generalize t.getD 3 0 = a3 at h5 hsn ht3
   generalize t.getD 4 0 = a4 at h5 hsn ht4
   have hlen : ∀ W, ClaimAt (fun _ => True) W (some ⟨bf, of, none⟩) n B m C q c → Calls Tryz.prog 56 #[.agg #[.slice (some ⟨bf, of, none⟩) n ca, .slice B m cb, .slice C q cc], .agg #[.int .i64 a0, .int .i64 a1, .int .i64 a2, .int .i64 a3, .int .i64 a4], .int .i64 f] W fun e w' => e = .returned (.int .i64 (len c t f)) ∧ Below W.heap.size W w' := fun W hc => by
    have := blength_any (ca := ca) (cb := cb) (cc := cc) (a0 := a0) (a1 := a1) (a2 := a2) (a3 := a3) (a4 := a4) f W hc hok (by rw [h5]; exact htT) hf
    rw [h5] at this
    exact this
   have HSET : Hid (∀ W, Calls Tryz.prog 38 #[.agg #[.int .i64 a0, .int .i64 a1, .int .i64 a2, .int .i64 a3, .int .i64 a4]] W fun e w' => e = .returned (.int .i64 (setN t)) ∧ Below W.heap.size W w') := fun W => by rw [← hsn]; exact set63_any a0 a1 a2 a3 a4 W
   clear h5 hsn
   have HMET : Hid (∀ x, metP c f (L.take k ++ [t]) x ↔ (metP c f (L.take k) x ∨ (len c t f = x.1 ∧ (setN t : Int) = x.2))) := fun x => by simp [metP, or_and_right, exists_or]
   have HAG : Hid (metP c f (L.take k) (len c t f, (setN t : Int)) → ∀ y, maskN c f (L.take k ++ [t]) y = maskN c f (L.take k) y) := fun ⟨u, hu, h1, h2⟩ y => maskN_again hu h1 (Int.ofNat.inj h2) y
   have HSN : Hid (∀ y, maskN c f (L.take k ++ [t]) y = if len c t f - er ≤ y ∧ y < len c t f - er + ((2 * er + 1).toNat : Nat) then maskN c f (L.take k) y ||| 2 ^ setN t else maskN c f (L.take k) y) := fun y => by
    rw [maskN_snoc, hitB, hoff.out]
    by_cases hy : len c t f - er ≤ y ∧ y ≤ len c t f + er
    ·rw [if_pos (by simp [hy.1, hy.2]), if_pos (by omega)]
    rw [if_neg (by simp; omega), if_neg (by omega)]
   rw [← HTK.out] at HMET HAG HSN
   clear HTK
   generalize hla : len c t f = la at *
   generalize hsx : setN t = sx at *
   clear hla hsx htm htl hmm htT Ht
   go_wp2
   obtain ⟨A1, hA1⟩ : ∃ A1, wr.alloc (.cells #[.int .i64 a0, .int .i64 a1, .int .i64 a2, .int .i64 a3, .int .i64 a4] 98) = A1 := ⟨_, rfl⟩
   have hk1 : Kept (fun j => j = b1 ∨ j = b2) wr A1 := by rw [← hA1]; exact Kept.alloc _ _ _
   have hs1 : wr.heap.size + 1 ≤ A1.heap.size := by rw [← hA1]; simp
   have hTB : Blk A1 wr.heap.size 98 #[.int .i64 a0, .int .i64 a1, .int .i64 a2, .int .i64 a3, .int .i64 a4] := by rw [← hA1]; exact Blk.new _ _ _ rfl
   have hM1 : MapI A1 b1 (201 * k) (maskN c f (L.take k)) := by rw [← hA1]; exact hM.at (Below.heap_alloc _ _ _ hM.lt)
   have hN1 : Seen2 A1 b2 k (metP c f (L.take k)) := by rw [← hA1]; exact hN.at (Below.heap_alloc _ _ _ hN.lt)
   have hBA : Below w.heap.size w A1 := by rw [← hA1]; exact bl_alloc hBr _ (Nat.le_refl _)
   have hXA : Blk A1 w.heap.size 95 #[.slice (some ⟨bf, of, none⟩) n ca, .slice B m cb, .slice C q cc] := by
    rw [← hA1]
    exact Blk.alloc ((hK.block _ hX0.lt (by omega)).trans hX0) _
   rw [hA1]
   clear hA1 hM hN ht0 ht1 ht2 ht3 ht4
   have HLEN := Lib.hid (fun W (hb : Below A1.heap.size A1 W) => hlen W (h.keep (Keeps.below (bl_call hBA hb (Nat.le_refl _)))))
   clear hlen
   have kk : Hid (∀ W, Below A1.heap.size A1 W → W.cell? ⟨w.heap.size, 0, none⟩ = some (.slice (some ⟨bf, of, none⟩) n ca) ∧ W.cell? ⟨w.heap.size, 1, none⟩ = some (.slice B m cb) ∧ W.cell? ⟨w.heap.size, 2, none⟩ = some (.slice C q cc) ∧
    W.cell? ⟨wr.heap.size, 0, none⟩ = some (.int .i64 a0) ∧ W.cell? ⟨wr.heap.size, 1, none⟩ = some (.int .i64 a1) ∧ W.cell? ⟨wr.heap.size, 2, none⟩ = some (.int .i64 a2) ∧ W.cell? ⟨wr.heap.size, 3, none⟩ = some (.int .i64 a3) ∧ W.cell? ⟨wr.heap.size, 4, none⟩ = some (.int .i64 a4)) :=
    fun W hb => ⟨(hXA.bl hb).cell 0, (hXA.bl hb).cell 1, (hXA.bl hb).cell 2, (hTB.bl hb).cell 0, (hTB.bl hb).cell 1, (hTB.bl hb).cell 2, (hTB.bl hb).cell 3, (hTB.bl hb).cell 4⟩
   refine wp_region_list (fun W => Below A1.heap.size A1 W) (fun w w' => Below w.heap.size w w')
    [isV (.agg #[.slice (some ⟨bf, of, none⟩) n ca, .slice B m cb, .slice C q cc]), isV (.agg #[.int .i64 a0, .int .i64 a1, .int .i64 a2, .int .i64 a3, .int .i64 a4]), isV (.int .i64 f), isV (.int .i64 la), isV (.agg #[.int .i64 a0, .int .i64 a1, .int .i64 a2, .int .i64 a3, .int .i64 a4]), isV (.int .i64 sx), isV (.int .i64 la), isV (.int .i64 sx)]
    (by kernel_rfl) (by kernel_rfl) (by kernel_rfl) (by simp) (by simp) (Below.refl _ _).drew ?stab7 ?step7 ?fin7
   case stab7 => exact (StabL.is (StabL.is (StabL.is (StabL.is (StabL.is (StabL.is (StabL.is (StabL.is StabL.nil))))))))
   case step7 =>
    refine StepsL.isA ?_ (StepsL.isA ?_ (StepsL.isA ?_ (StepsL.isA ?_ (StepsL.isA ?_ (StepsL.isA ?_ (StepsL.isA ?_ (StepsL.isA ?_ StepsL.nil)))))))
    all_goals intro vs a W K ha hC hD hU hK
    all_goals try rw [if_pos (by rfl)]
    ·
     have r3 : a.tmps[3]? = some (.pointer (some ⟨w.heap.size, 0, none⟩)) := by rw [ha]; kernel_rfl
     clear ha hU hD
     obtain ⟨k0, k1, k2, k3, k4, k5, k6, k7⟩ := kk.out W hC
     go_simp
     exact hK _ hC (Below.refl _ _)
    ·
     have r11 : a.tmps[11]? = some (.pointer (some ⟨wr.heap.size, 0, none⟩)) := by rw [ha]; kernel_rfl
     clear ha hU hD
     obtain ⟨k0, k1, k2, k3, k4, k5, k6, k7⟩ := kk.out W hC
     go_simp
     exact hK _ hC (Below.refl _ _)
    ·
     have r2 : a.tmps[2]? = some (.int .i64 f) := by rw [ha]; kernel_rfl
     clear ha hU hD
     go_simp
     exact hK _ hC (Below.refl _ _)
    ·
     have r33 : a.tmps[33]? = some (vs 0) := by rw [ha]; kernel_rfl
     have q0 : vs 0 = .agg #[.slice (some ⟨bf, of, none⟩) n ca, .slice B m cb, .slice C q cc] := hD 0 (by simp [waits, Region.binds])
     rw [q0] at r33
     have r34 : a.tmps[34]? = some (vs 1) := by rw [ha]; kernel_rfl
     have q1 : vs 1 = .agg #[.int .i64 a0, .int .i64 a1, .int .i64 a2, .int .i64 a3, .int .i64 a4] := hD 1 (by simp [waits, Region.binds])
     rw [q1] at r34
     have r35 : a.tmps[35]? = some (vs 2) := by rw [ha]; kernel_rfl
     have q2 : vs 2 = .int .i64 f := hD 2 (by simp [waits, Region.binds])
     rw [q2] at r35
     clear ha hU hD
     go_simp
     refine (HLEN.out _ hC).mono ?_
     rintro e w' ⟨rfl, hb⟩
     exact hK _ (bl_call hC hb (Nat.le_refl _)) hb
    ·
     have r11 : a.tmps[11]? = some (.pointer (some ⟨wr.heap.size, 0, none⟩)) := by rw [ha]; kernel_rfl
     clear ha hU hD
     obtain ⟨k0, k1, k2, k3, k4, k5, k6, k7⟩ := kk.out W hC
     go_simp
     exact hK _ hC (Below.refl _ _)
    ·
     have r37 : a.tmps[37]? = some (vs 4) := by rw [ha]; kernel_rfl
     have q4 : vs 4 = .agg #[.int .i64 a0, .int .i64 a1, .int .i64 a2, .int .i64 a3, .int .i64 a4] := hD 4 (by simp [waits, Region.binds])
     rw [q4] at r37
     clear ha hU hD
     go_simp
     refine (HSET.out _).mono ?_
     rintro e w' ⟨rfl, hb⟩
     exact hK _ (bl_call hC hb (Nat.le_refl _)) hb
    ·
     have r36 : a.tmps[36]? = some (vs 3) := by rw [ha]; kernel_rfl
     have q3 : vs 3 = .int .i64 la := hD 3 (by simp [waits, Region.binds])
     rw [q3] at r36
     clear ha hU hD
     go_simp
     exact hK _ hC (Below.refl _ _)
    have r38 : a.tmps[38]? = some (vs 5) := by rw [ha]; kernel_rfl
    have q5 : vs 5 = .int .i64 sx := hD 5 (by simp [waits, Region.binds])
    rw [q5] at r38
    clear ha hU hD
    go_simp
    exact hK _ hC (Below.refl _ _)
   intro vs A2 hC hE hU
   have e6 := hE 6 (by simp)
   have e7 := hE 7 (by simp)
   simp only [envOf, List.getD_cons_succ, List.getD_cons_zero, isV] at e6 e7
   simp only [fillA, Act.put, List.setIfInBounds_toArray, List.set_cons_zero, List.set_cons_succ, Nat.zero_add, Nat.reduceAdd, e6, e7]
   clear e6 e7 hE hU
   simp
   go_simp
   go_wp2
   have hk2 : Kept (fun j => j = b1 ∨ j = b2) wr A2 := hk1.trans (Kept.of_bl hC)
   have hM2 : MapI A2 b1 (201 * k) (maskN c f (L.take k)) := hM1.at (hC.block _ hM1.lt)
   have hN2 : Seen2 A2 b2 k (metP c f (L.take k)) := hN1.at (hC.block _ hN1.lt)
   have hs2 : wr.heap.size + 1 ≤ A2.heap.size := Nat.le_trans hs1 hC.size
   clear hM1 hN1 hC hBA hXA hTB hk1 hs1
   obtain ⟨A3, hA3⟩ : ∃ A3, A2.alloc (.cells #[.int .i64 la, .int .i64 sx] 163) = A3 := ⟨_, rfl⟩
   have hk3 : Kept (fun j => j = b1 ∨ j = b2) wr A3 := by rw [← hA3]; exact hk2.trans (Kept.alloc _ _ _)
   have hs3 : A2.heap.size + 1 ≤ A3.heap.size := by rw [← hA3]; simp
   have hKB : Blk A3 A2.heap.size 163 #[.int .i64 la, .int .i64 sx] := by rw [← hA3]; exact Blk.new _ _ _ rfl
   have hM3 : MapI A3 b1 (201 * k) (maskN c f (L.take k)) := by rw [← hA3]; exact hM2.at (Below.heap_alloc _ _ _ hM2.lt)
   have hN3 : Seen2 A3 b2 k (metP c f (L.take k)) := by rw [← hA3]; exact hN2.at (Below.heap_alloc _ _ _ hN2.lt)
   rw [hA3]
   clear hA3 hM2 hN2 hk2
   have hwr2 : b2 < wr.heap.size := Nat.lt_of_lt_of_le hb2s hK.size
   have hb2A : b2 < A2.heap.size := by omega
   obtain ⟨cn, st, o1, hc0, hcn, hseen, hme, -, hlk, hst⟩ := hN3.count kv2_inj key2_law Tryz.underlying3 Tryz.underlying162 zeroInt (by omega) (la, (sx : Int)) (key2_ok _ (wf_i64 (by dsimp only; omega) (by dsimp only; omega)) (wf_i64 (by dsimp only; omega) (by dsimp only; omega)))
   simp only [kv2] at hme hlk hst
   have HSEEN := Lib.hid hseen
   have HLK := Lib.hid hlk
   have HME := Lib.hid hme
   have HST := Lib.hid hst
   have HSB : Hid (∀ W : World, (Kept (fun j => j = b2) A3 W ∧ (W.heap[b2]? = A3.heap[b2]? ∨ W.heap[b2]? = some o1)) → (Kept (fun j => j = b2) A3 (ChangeMaps.setBlock W b2 o1) ∧ ((ChangeMaps.setBlock W b2 o1).heap[b2]? = A3.heap[b2]? ∨ (ChangeMaps.setBlock W b2 o1).heap[b2]? = some o1)) ∧ (ChangeMaps.setBlock W b2 o1).heap[b2]? = some o1) := fun W hC => by
    have hlt : b2 < W.heap.size := by have := hC.1.size; omega
    have h1 : (ChangeMaps.setBlock W b2 o1).heap[b2]? = some o1 := by simp [ChangeMaps.setBlock, hlt]
    exact ⟨⟨hC.1.trans ⟨rfl, rfl, rfl, by simp [ChangeMaps.setBlock], fun j hj hn => by simp [ChangeMaps.setBlock]; rw [Array.getElem?_setIfInBounds, if_neg (fun e => hn e.symm)]⟩, .inr h1⟩, h1⟩
   have kk2 : Hid (∀ W : World, (Kept (fun j => j = b2) A3 W ∧ (W.heap[b2]? = A3.heap[b2]? ∨ W.heap[b2]? = some o1)) → W.cell? ⟨A2.heap.size, 0, none⟩ = some (.int .i64 la) ∧ W.cell? ⟨A2.heap.size, 1, none⟩ = some (.int .i64 sx)) := fun W hC => by
    have hb : Blk W A2.heap.size 163 #[.int .i64 la, .int .i64 sx] := (hC.1.block _ hKB.lt (by omega)).trans hKB
    exact ⟨hb.cell 0, hb.cell 1⟩
   have hw1 : IntKind.i64.wrap (cn + 1) = cn + 1 := by rw [IntKind.wrap_i64]; omega
   clear hme hlk hst hseen hN3
   refine wp_region_list (fun W => Kept (fun j => j = b2) A3 W ∧ (W.heap[b2]? = A3.heap[b2]? ∨ W.heap[b2]? = some o1)) (fun w w' => w.heap[b2]? = some o1 → w'.heap[b2]? = some o1)
    [isV (.map (some b2)), isV (.agg #[.int .i64 la, .int .i64 sx]), isV (.int .i64 cn), isV (.int .i64 (cn + 1)), fun v W => v = .tuple #[.int .i64 cn, goInt st] ∧ W.heap[b2]? = some o1, isV (goInt st)]
    (by kernel_rfl) (by kernel_rfl) (by kernel_rfl) (by simp) (by simp) ⟨(Kept.refl _ _).trans (Kept.drew _ _), .inl rfl⟩ ?stab9 ?step9 ?fin9
   case stab9 => exact (StabL.is (StabL.is (StabL.is (StabL.is (StabL.cons (fun v W V hC hX h => ⟨h.1, hX h.2⟩) (StabL.is StabL.nil))))))
   case step9 =>
    refine StepsL.isA ?_ (StepsL.isA ?_ (StepsL.isA ?_ (StepsL.isA ?_ (StepsL.consA ?_ (StepsL.isA ?_ StepsL.nil)))))
    all_goals intro vs a W K ha hC hD hU hK
    all_goals try rw [if_pos (by rfl)]
    ·
     have r9 : a.tmps[9]? = some (.map (some b2)) := by rw [ha]; kernel_rfl
     clear ha hU hD
     go_simp
     exact hK _ hC (fun h => h)
    ·
     have r14 : a.tmps[14]? = some (.pointer (some ⟨A2.heap.size, 0, none⟩)) := by rw [ha]; kernel_rfl
     clear ha hU hD
     obtain ⟨k0, k1⟩ := kk2.out W hC
     go_simp
     exact hK _ hC (fun h => h)
    ·
     have r42 : a.tmps[42]? = some (vs 0) := by rw [ha]; kernel_rfl
     have q0 : vs 0 = .map (some b2) := hD 0 (by simp [waits, Region.binds])
     rw [q0] at r42
     have r43 : a.tmps[43]? = some (vs 1) := by rw [ha]; kernel_rfl
     have q1 : vs 1 = .agg #[.int .i64 la, .int .i64 sx] := hD 1 (by simp [waits, Region.binds])
     rw [q1] at r43
     clear ha hU hD
     have hlk := HLK.out W hC.2
     go_simp
     exact hK _ hC (fun h => h)
    ·
     have r44 : a.tmps[44]? = some (vs 2) := by rw [ha]; kernel_rfl
     have q2 : vs 2 = .int .i64 cn := hD 2 (by simp [waits, Region.binds])
     rw [q2] at r44
     clear ha hU hD
     go_simp
     exact hK _ hC (fun h => h)
    ·
     have r42 : a.tmps[42]? = some (vs 0) := by rw [ha]; kernel_rfl
     have q0 : vs 0 = .map (some b2) := hD 0 (by simp [waits, Region.binds])
     rw [q0] at r42
     have r43 : a.tmps[43]? = some (vs 1) := by rw [ha]; kernel_rfl
     have q1 : vs 1 = .agg #[.int .i64 la, .int .i64 sx] := hD 1 (by simp [waits, Region.binds])
     rw [q1] at r43
     clear ha hU hD
     have hme := HME.out W hC.2
     have hC' := HSB.out W hC
     go_simp
     exact hK _ _ hC'.1 (fun _ => hC'.2) ⟨rfl, hC'.2⟩
    have r46 : a.tmps[46]? = some (vs 4) := by rw [ha]; kernel_rfl
    have q4 : (fun v W => v = .tuple #[.int .i64 cn, goInt st] ∧ W.heap[b2]? = some o1) (vs 4) W := hD 4 (by simp [waits, Region.binds])
    obtain ⟨q4, _⟩ := q4
    rw [q4] at r46
    clear ha hU hD
    go_simp
    exact hK _ hC (fun h => h)
   intro vs W hC hE hU
   have e0 := hE 0 (by simp)
   have e3 := hE 3 (by simp)
   have e4 := hE 4 (by simp)
   have e5 := hE 5 (by simp)
   simp only [envOf, List.getD_cons_succ, List.getD_cons_zero, isV] at e0 e3 e4 e5
   simp only [fillA, Act.put, List.setIfInBounds_toArray, List.set_cons_zero, List.set_cons_succ, Nat.zero_add, Nat.reduceAdd, e0, e3, e5]
   have e4' := e4.2
   clear e0 e3 e4 e5 hE hU
   simp [Region.wanted, yielded]
   obtain ⟨W3, hrun, hg3, hN4, hlk4⟩ := HST.out W e4'
   have hlk5 := hlk4 W3 rfl
   simp only [goInt] at hrun
   have hk4 : Kept (fun j => j = b2) A3 W3 := hC.1.trans (Kept.grown hg3 (fun j hj => by injection hj with hj; exact hj.symm))
   have hKB4 : Blk W3 A2.heap.size 163 #[.int .i64 la, .int .i64 sx] := (hk4.block _ hKB.lt (by omega)).trans hKB
   have hq0 := hKB4.cell 0
   have hq1 := hKB4.cell 1
   have hM4 : MapI W3 b1 (201 * k) (maskN c f (L.take k)) := hM3.at (hk4.block _ hM3.lt (by omega))
   have hkw : Kept (fun j => j = b1 ∨ j = b2) W0 W3 := hK.trans ((hk3.trans (hk4.mono fun j _ h => .inr h)).mono fun j _ h => h)
   have HN4 := Lib.hid hN4
   have HM4 := Lib.hid hM4
   have HKW := Lib.hid hkw
   clear hlk4 hg3 hC hM3 hN4 hM4 hkw hk4 e4'
   go_simp
   by_cases hcp : 0 < cn
   ·have HAG2 := Lib.hid (HAG.out (HSEEN.out hcp))
    have hgt : (1 : Int) < cn + 1 := by omega
    clear hcp
    go_wp2
    go_roundw
    case rel => exact ⟨k + 1, by omega, by go_num, HKW.out, (HM4.out.mono (by omega)).congr (fun y => (HAG2.out y).symm), HN4.out.mono (fun y h => (HMET.out y).2 (h.elim (fun h => .inr (by rw [h]; exact ⟨rfl, rfl⟩)) .inl))⟩
    case measure => simp [intOf]; omega
   have hgt : ¬ (1 : Int) < cn + 1 := by omega
   have hwm : IntKind.i64.wrap (la - er) = la - er := by rw [IntKind.wrap_i64]; omega
   have hwp : IntKind.i64.wrap (la + er) = la + er := by rw [IntKind.wrap_i64]; omega
   clear hcp
   go_wp2
   have hms : Hid (∀ y, maskN c f (L.take k) y < 4294967296) := fun y => maskN_lt c f _ y
   obtain ⟨mf, hmf⟩ : ∃ mf : Int → Nat, maskN c f (L.take k) = mf := ⟨_, rfl⟩
   rw [hmf] at HM4 hms
   have HSN2 : Hid (∀ y, maskN c f (L.take (k + 1)) y = if la - er ≤ y ∧ y < la - er + ((2 * er + 1).toNat : Nat) then mf y ||| 2 ^ sx else mf y) := by rw [Hid, ← hmf]; exact HSN.out
   clear HSN hmf HAG
   go_loopw [15] (fun i B1 => ∃ j : Nat, (j : Int) ≤ 2 * er + 1 ∧ i = .int .i64 (la - er + j) ∧ Kept (fun j => j = b1) W3 B1 ∧ MapI B1 b1 (201 * k + j) (fun y => if la - er ≤ y ∧ y < la - er + (j : Nat) then mf y ||| 2 ^ sx else mf y)) (fun i _ => (la + er + 1 - intOf i).toNat)
   case atStart => exact ⟨0, by omega, by simp, Kept.refl _ _, HM4.out.congr (fun y => by rw [if_neg (by omega)])⟩
   case round =>
    obtain ⟨j, hj, rfl, hKi, hMi⟩ := hrel
    by_cases hjl : (j : Int) < 2 * er + 1
    ·have hwx : IntKind.i64.wrap (la - er + j + 1) = la - er + j + 1 := by rw [IntKind.wrap_i64]; omega
     have hxl : la - er + j ≤ la + er := by omega
     obtain ⟨x, hx⟩ : ∃ x : Int, la - er + (j : Int) = x := ⟨_, rfl⟩
     have hx1 : -6000 ≤ x := by omega
     have hx2 : x ≤ 106000 := by omega
     rw [hx] at hwx hxl ⊢
     have HX := Lib.hid hx
     clear hx
     have hmkl := hms.out x
     obtain ⟨mk, hmk⟩ : ∃ mk, mf x = mk := ⟨_, rfl⟩
     rw [hmk] at hmkl
     have HMK := Lib.hid hmk
     clear hmk
     have hor := or_mask mk sx hmkl hsl
     have hsh : IntKind.i64.wrap (2 ^ sx) = 2 ^ sx := sh_mask sx hsl
     have HLK2 : Hid (∀ W : World, Below wr.heap.size wr W → (Instr.lookup 103 (.map (some b1)) (.int .i64 x) false).run Tryz.prog W = .ok (.int .i64 mk) W) := fun W hb => by
      have := (hMi.at (hb.block _ hMi.lt)).look (t := 103) Tryz.underlying3 Tryz.underlying3 Tryz.underlying103 zeroInt (x := x) (wf_i64 (by omega) (by omega))
      rw [if_neg (by have := HX.out; omega), HMK.out] at this
      exact this
     go_wp2
     refine wp_region_list (fun W => Below wr.heap.size wr W) (fun w w' => Below w.heap.size w w')
      [isV (.map (some b1)), isV (.int .i64 x), isV (.int .i64 mk), isV (.int .i64 sx), isV (.int .i64 (2 ^ sx)), isV (.int .i64 ((mk ||| 2 ^ sx : Nat) : Int))]
      (by kernel_rfl) (by kernel_rfl) (by kernel_rfl) (by simp) (by simp) (Below.refl _ _).drew ?stab14 ?step14 ?fin14
     case stab14 => exact (StabL.is (StabL.is (StabL.is (StabL.is (StabL.is (StabL.is StabL.nil))))))
     case step14 =>
      refine StepsL.isA ?_ (StepsL.isA ?_ (StepsL.isA ?_ (StepsL.isA ?_ (StepsL.isA ?_ (StepsL.isA ?_ StepsL.nil)))))
      all_goals intro vs a W K ha hC hD hU hK
      all_goals try rw [if_pos (by rfl)]
      ·
       have r8 : a.tmps[8]? = some (.map (some b1)) := by rw [ha]; kernel_rfl
       clear ha hU hD
       go_simp
       exact hK _ hC (Below.refl _ _)
      ·
       have r15 : a.tmps[15]? = some (.int .i64 x) := by rw [ha]; kernel_rfl
       clear ha hU hD
       go_simp
       exact hK _ hC (Below.refl _ _)
      ·
       have r62 : a.tmps[62]? = some (vs 0) := by rw [ha]; kernel_rfl
       have q0 : vs 0 = .map (some b1) := hD 0 (by simp [waits, Region.binds])
       rw [q0] at r62
       have r63 : a.tmps[63]? = some (vs 1) := by rw [ha]; kernel_rfl
       have q1 : vs 1 = .int .i64 x := hD 1 (by simp [waits, Region.binds])
       rw [q1] at r63
       clear ha hU hD
       have hlk := HLK2.out W hC
       go_simp
       exact hK _ hC (Below.refl _ _)
      ·
       have r13 : a.tmps[13]? = some (.int .i64 sx) := by rw [ha]; kernel_rfl
       clear ha hU hD
       go_simp
       exact hK _ hC (Below.refl _ _)
      ·
       have r65 : a.tmps[65]? = some (vs 3) := by rw [ha]; kernel_rfl
       have q3 : vs 3 = .int .i64 sx := hD 3 (by simp [waits, Region.binds])
       rw [q3] at r65
       clear ha hU hD
       go_simp
       exact hK _ hC (Below.refl _ _)
      have r64 : a.tmps[64]? = some (vs 2) := by rw [ha]; kernel_rfl
      have q2 : vs 2 = .int .i64 mk := hD 2 (by simp [waits, Region.binds])
      rw [q2] at r64
      have r66 : a.tmps[66]? = some (vs 4) := by rw [ha]; kernel_rfl
      have q4 : vs 4 = .int .i64 (2 ^ sx) := hD 4 (by simp [waits, Region.binds])
      rw [q4] at r66
      clear ha hU hD
      go_simp
      exact hK _ hC (Below.refl _ _)
     intro vs W hC hE hU
     have e0 := hE 0 (by simp)
     have e1 := hE 1 (by simp)
     have e5 := hE 5 (by simp)
     simp only [envOf, List.getD_cons_succ, List.getD_cons_zero, isV] at e0 e1 e5
     simp only [fillA, Act.put, List.setIfInBounds_toArray, List.set_cons_zero, List.set_cons_succ, Nat.zero_add, Nat.reduceAdd, e0, e1, e5]
     clear e0 e1 e5 hE hU
     simp [Region.wanted, yielded]
     obtain ⟨hv1, hv2⟩ := or_pos mk sx hmkl hsl
     obtain ⟨W5, hrun5, hM5, hg5⟩ := (hMi.at (hC.block _ hMi.lt)).put (t := 103) Tryz.underlying3 Tryz.underlying3 Tryz.underlying103 (x := x) (wf_i64 (by omega) (by omega)) (by unfold maxLen; omega) (mk ||| 2 ^ sx) hv1 hv2
     have hK5 : Kept (fun j => j = b1) W3 W5 := hKi.trans ((Kept.of_bl hC).trans (Kept.grown hg5 (fun j hj => by injection hj with hj; exact hj.symm)))
     have HM5 := Lib.hid hM5
     have HK5 := Lib.hid hK5
     clear hM5 hg5 hC hK5
     go_simp
     go_wp2
     go_roundw
     case rel =>
      refine ⟨j + 1, by omega, by rw [← HX.out]; exact congrArg _ (by omega), HK5.out, (HM5.out.mono (by omega)).congr (fun y => ?_)⟩
      by_cases hy : y = x
      ·rw [if_pos hy, hy, HMK.out, if_pos (by have := HX.out; omega)]
      rw [if_neg hy]
      have hxo := HX.out
      by_cases hy2 : la - er ≤ y ∧ y < la - er + (j : Nat)
      ·rw [if_pos hy2, if_pos (by omega)]
      rw [if_neg hy2, if_neg (by omega)]
     case measure => simp [intOf]; omega
    have hxl : ¬ la - er + j ≤ la + er := by omega
    go_wp2
    go_roundw
    case rel =>
     refine ⟨k + 1, by omega, by go_num, HKW.out.trans (hKi.mono fun j _ h => .inl h), (hMi.mono (by omega)).congr (fun y => ?_), ?_⟩
     ·rw [HSN2.out, show ((2 * er + 1).toNat : Nat) = j by omega]
     exact (HN4.out.at (hKi.block _ HN4.out.lt (by omega))).mono (fun y h => (HMET.out y).2 (h.elim (fun h => .inr (by rw [h]; exact ⟨rfl, rfl⟩)) .inl))
    case measure => simp [intOf]; omega
  obtain rfl : k = nT := by omega
  rw [List.take_of_length_le (by rw [HLn.out]; exact Nat.le_refl _)] at hM
  have hBr : Below w.heap.size w wr := hB0.trans (hK.below hB0.size (fun j hj => by omega))
  obtain ⟨D, hown, hD⟩ := hM.ex
  have HD := Lib.hid hD
  have hb1w := hM.lt
  have hst : ∀ x : Int, has D (.int .i64 x) = false → maskN c f L x = 0 := fun x hx => by
   have h1 := atKey_of_not_has hx z0
   rw [(HD.out x).1] at h1
   unfold z0 at h1
   injection h1 with h1
   injection h1 with _ h1
   omega
  have HST := Lib.hid hst
  have hoff0 : Hid (0 ≤ offOf c f) := by rw [Hid, hoff.out]; exact he1
  have HML := Lib.hid (fun x => maskN_lt c f L x)
  have HFIN := Lib.hid (fun (z : Int) a b d => left_of (c := c) (L := L) (f := f) (most := z) hoff0.out a b d)
  obtain ⟨mf, hmf⟩ : ∃ mf : Int → Nat, maskN c f L = mf := ⟨_, rfl⟩
  rw [hmf] at HD HST HML HFIN
  clear hM hN hD hst hK h hL hmf hX0 hM0 hN0 hB0 hlt
  go_wp2_with (first
   | (at_range; refine wpList_range_own _ rfl _ 103 rfl 3 3 (int_keyed Tryz.underlying3) Tryz.underlying103 _ b1 _ D rfl hown ?_; intro w0 hrg0 hg0 hs0)
   | go_in)
  go_frame
  have hB1 : Below w.heap.size w w0 := hBr.grown hg0 (Nat.le_trans (Nat.le_refl _) hBr.size) (fun j hj => by cases hj)
  obtain ⟨r, hr⟩ : ∃ r, wr.heap.size = r := ⟨_, rfl⟩
  have hrl : w.heap.size ≤ r := by rw [← hr]; exact hBr.size
  rw [hr] at hrg0 ⊢
  clear hg0 hs0 hr hown hBr
  go_loopw [6, 17] (fun most _ W => ∃ (left : Lit → Bool) (cnt : Nat) (z : Int), most = .int .i64 z ∧ W.ranges Tryz.prog 3 (plainElem Tryz.prog 3) b1 r (201 * k) D left cnt ∧ 0 ≤ z ∧ z ≤ 32 ∧ Hid (∀ x : Int, left (.int .i64 x) = false → mf x ≠ 0 → ((pop 32 (mf x) : Nat) : Int) ≤ z) ∧ Hid (z = 0 ∨ ∃ x, mf x ≠ 0 ∧ z = ((pop 32 (mf x) : Nat) : Int)) ∧ Below w.heap.size w W) (fun _ _ W => W.rangeLeft b1 r)
  case atStart => exact ⟨_, _, 0, rfl, hrg0, by omega, by omega, fun x hx hn => absurd (HST.out x hx) hn, .inl rfl, hB1⟩
  case round =>
   obtain ⟨left, cnt, z, rfl, hrg, hz0, hz1, H1, H2, hB⟩ := hrel
   go_wp2_with (first
    | (at_next; refine wpList_next_ranges_ii _ rfl _ rfl 3 3 .i64 .i64 (int_keyed Tryz.underlying3) Tryz.underlying3 Tryz.underlying3 b1 r _ _ _ _ rfl hrg ?_ ?_)
    | go_in)
   ·intro _ hl0
    have HR : Hid (z = leftR c L f) := HFIN.out z hz0 (fun x hx => H1.out x (hl0 _) hx) H2.out
    go_wp2
    go_ret
    exact ⟨ret_int HR.out, hB⟩
   intro x cv w1 cnt1 hwx hwc hlx hat hrg1 hlt1 hg1 hs1 hen
   have hcv : cv = ((mf x : Nat) : Int) := by
    have h1 := (HD.out x).1
    unfold z0 at h1
    rw [hat] at h1
    injection h1 with h1
    injection h1
   have hmx := HML.out x
   have hmn : Hid (mf x ≠ 0) := (HD.out x).2 (has_true_of_atKey hat)
   have hB2 : Below w.heap.size w w1 := hB.grown hg1 hB.size (fun j hj => by cases hj; exact hrl)
   subst hcv
   have hpl := pop_le 32 (mf x)
   have H1' := most_step1 (P := fun y => ((pop 32 (mf y) : Nat) : Int)) (x := x) H1.out
   have H2' := most_step2 (P := fun y => ((pop 32 (mf y) : Nat) : Int)) hmn.out H2.out
   have HON : Hid (onesI (mf x : Nat) = (pop 32 (mf x) : Nat)) := ones_pop _ hmx
   have hcu : IntKind.u64.wrap ((mf x : Nat) : Int) = (mf x : Nat) := wrapN _ (by omega)
   clear H1 H2 hat
   obtain ⟨p, hp⟩ : ∃ p, pop 32 (mf x) = p := ⟨_, rfl⟩
   rw [hp] at hpl H1' H2' HON
   obtain ⟨mk, hmk⟩ : ∃ mk, mf x = mk := ⟨_, rfl⟩
   rw [hmk] at hmx HON hcu hen ⊢
   clear hp hmk
   have HRG := Lib.hid hrg1
   have HLE : Hid (w1.rangeLeft b1 r < wr.rangeLeft b1 r) := by rw [Hid, hrg1.left_eq, hrg.left_eq]; exact hlt1
   clear hrg1 hrg hlt1 hg1
   go_wp2_with (go_at_call 86; refine (ones_anyB mk _).mono ?_; rintro e w' ⟨rfl, rfl⟩; rw [HON.out])
   have hmax : max z (p : Int) = if z < p then (p : Int) else z := by split <;> omega
   have G1 := H1'
   have G2 := H2'
   rw [hmax] at H1' H2'
   go_roundw
   case rel => first | exact ⟨_, _, _, rfl, HRG.out, by omega, by omega, G1, G2, hB2⟩ | exact ⟨_, _, _, rfl, HRG.out, by split <;> omega, by split <;> omega, H1', H2', hB2⟩
   case measure => exact HLE.out
end Go.Proofs.YtdbfincinjoppabGreatDoor
