/- A part of the proof that TopMeasured always answers true. -/
import Derived.Test.YtcnebekkbfajbaaGreatCKAppL
import Derived.Test.YtcnebekkbfajbaaGreatCScApart
import Derived.Test.YtcnebekkbfajbaaGreatCScP
set_option linter.all false
namespace Go.Proofs.YtcnebekkbfajbaaGreat
open Go.RowKit Go.Shelf
attribute [local go_sem] Oper.semAt_some
open Go.ChangeMaps (setBlock)
theorem bit_test0 : ∀ s : Nat, s < 256 → ∀ k : Nat, k < 8 → (bits BinOp.and IntKind.i64 ((s : Int) / 2 ^ k) 1 == 0) = (s / 2 ^ k % 2 == 0) := by decide +kernel
def mkM (c : Case5) (z : Nat × Nat) (s i : Nat) : List Int := (List.range 8).map fun j => if j < i ∧ s / 2 ^ j % 2 = 0 then 0 else (cut5 c z).getD j 0
def cellsM (c : Case5) (z : Nat × Nat) (s i : Nat) : Array Value := ((mkM c z s i).map (Value.int .i64)).toArray
theorem mkM_len (c : Case5) (z : Nat × Nat) (s i : Nat) : (mkM c z s i).length = 8 := by simp [mkM]
theorem mkM_get (c : Case5) (z : Nat × Nat) (s i : Nat) {j : Nat} (hj : j < 8) : (mkM c z s i)[j]? = some (if j < i ∧ s / 2 ^ j % 2 = 0 then 0 else (cut5 c z).getD j 0) := by
 unfold mkM
 rw [List.getElem?_map, List.getElem?_range hj]; rfl
theorem mkM_all (c : Case5) (z : Nat × Nat) (s : Nat) : mkM c z s 8 = maskZ s (cut8 c z) := by
 unfold mkM maskZ
 refine List.map_congr_left fun j hj => ?_
 have hj8 := List.mem_range.1 hj
 have h8 : (cut8 c z).getD j 0 = (cut5 c z).getD j 0 := by
  unfold cut8
  rw [List.getD_eq_getElem?_getD, List.getElem?_map, List.getElem?_range hj8]; rfl
 rw [h8]
 by_cases h : s / 2 ^ j % 2 = 0
 ·rw [if_pos ⟨hj8, h⟩, if_pos h]
 rw [if_neg (fun e => h e.2), if_neg h]
theorem cellsM_zero (c : Case5) (z : Nat × Nat) (s : Nat) : Value.agg (cellsM c z s 0) = cutV (cut5 c z) := by
 unfold cellsM cutV mkM
 rw [List.map_map]
 congr 2
theorem cellsM_keep {c : Case5} {z : Nat × Nat} {s i : Nat} (h : s / 2 ^ i % 2 ≠ 0) : cellsM c z s (i + 1) = cellsM c z s i := by
 unfold cellsM mkM
 congr 2
 refine List.map_congr_left fun j _ => ?_
 by_cases h1 : j < i ∧ s / 2 ^ j % 2 = 0
 ·rw [if_pos h1, if_pos ⟨by omega, h1.2⟩]
 rw [if_neg h1, if_neg]
 rintro ⟨h2, h3⟩
 by_cases e : j = i
 ·subst e; exact h h3
 exact h1 ⟨by omega, h3⟩
theorem cellsM_set {c : Case5} {z : Nat × Nat} {s i : Nat} (hi : i < 8) (h : s / 2 ^ i % 2 = 0) : (cellsM c z s i).setIfInBounds i (.int .i64 0) = cellsM c z s (i + 1) := by
 apply Array.ext_getElem?
 intro j
 unfold cellsM
 rw [List.setIfInBounds_toArray, List.getElem?_toArray, List.getElem?_toArray, List.getElem?_set, List.getElem?_map, List.getElem?_map, List.length_map, mkM_len]
 by_cases hj : j < 8
 ·rw [mkM_get c z s i hj, mkM_get c z s (i + 1) hj]
  by_cases e : i = j
  ·subst e
   rw [if_pos rfl, if_pos hi, if_pos ⟨by omega, h⟩]; rfl
  rw [if_neg e]
  by_cases h1 : j < i ∧ s / 2 ^ j % 2 = 0
  ·rw [if_pos h1, if_pos ⟨by omega, h1.2⟩]
  rw [if_neg h1, if_neg (fun h2 => h1 ⟨by omega, h2.2⟩)]
 rw [if_neg (by omega)]
 rw [List.getElem?_eq_none (by rw [mkM_len]; omega), List.getElem?_eq_none (by rw [mkM_len]; omega)]
theorem list_eight : ∀ {xs : List Int}, xs.length = 8 → ∃ x0 x1 x2 x3 x4 x5 x6 x7, xs = [x0, x1, x2, x3, x4, x5, x6, x7]
 | [a, b, c, d, e, f, g, h], _ => ⟨a, b, c, d, e, f, g, h, rfl⟩
theorem mask_bd {c : Case5} (hok : Ok5 c) {z : Nat × Nat} (hz : z ∈ scalesN) (s : Nat) : ∀ x ∈ maskZ s (cut8 c z), 0 ≤ x ∧ x ≤ 1000000 := by
 intro x hx
 rw [← mkM_all] at hx
 obtain ⟨j, hj, rfl⟩ := List.mem_map.1 hx
 have h : 0 ≤ (cut5 c z).getD j 0 ∧ (cut5 c z).getD j 0 ≤ 600000 := cuts_bd hok hz j
 split <;> omega
theorem eg_stell1 : Enters Tryz.prog 69 := enters_of Tryz.func69 (by kernel_rfl) rfl
def metL (c : Case5) (l : List (Nat × Nat)) (s k : Nat) : List (List Int) := (l.take k).map fun z => maskZ s (cut8 c z)
theorem metL_succ {c : Case5} {l : List (Nat × Nat)} {s k : Nat} {z : Nat × Nat} (h : l[k]? = some z) : metL c l s (k + 1) = metL c l s k ++ [maskZ s (cut8 c z)] := by
 unfold metL; rw [take_snoc_get h, List.map_append]; rfl
set_option maxRecDepth 100000 in
set_option maxHeartbeats 4000000 in
theorem stell1_any {c : Case5} {l : List (Nat × Nat)} {A B L : Option Addr} {n ca m cb q cl gl gM set : Nat} {kd ba mo : Int} {fr : Nat} (hok : Ok5 c) (hl : ∀ z ∈ l, z ∈ scalesN) (hq6 : q ≤ 6) (hset : set < 256) (w : World) (g : CaseAt (fun _ => True) w A n B m c) (gs : Pls (fun _ => True) w L q l)
  (hM : modelV c A n ca B m cb = .agg #[.int .i64 kd, .int .i64 ba, .int .i64 mo, .slice A n ca, .slice B m cb, .func (.func fr) #[] #[]]) (bL : w.cell? ⟨gl, 0, none⟩ = some (.slice L q cl)) (bM : Blk w gM 104 #[.int .i64 kd, .int .i64 ba, .int .i64 mo, .slice A n ca, .slice B m cb, .func (.func fr) #[] #[]]) :
  Calls Tryz.prog 69 #[.int .i64 (set : Int), .pointer (some ⟨gl, 0, none⟩), .pointer (some ⟨gM, 0, none⟩)] w fun e w' => e = .returned (.bool (diffB c l set)) ∧ Below w.heap.size w w' := by
 have HOK := Lib.hid hok
 have HL := Lib.hid hl
 have HM := Lib.hid hM
 have HQ : Hid (l.length = q) := gs.len
 have HG : Hid (∀ V, Below w.heap.size w V → CaseAt (fun _ => True) V A n B m c) := fun V hb => g.bl hb
 have HGS : Hid (∀ V, Below w.heap.size w V → Pls (fun _ => True) V L q l) := fun V hb => gs.keep PlR.good (Keeps.below hb)
 have HBM := Lib.hid bM
 have HBL := Lib.hid bL
 obtain ⟨W, hW⟩ : ∃ W, w.alloc (.map #[] 0) = W := ⟨_, rfl⟩
 obtain ⟨gm, hgm⟩ : ∃ g, w.heap.size = g := ⟨_, rfl⟩
 have hBW : Below w.heap.size w W := by rw [← hW]; exact bl_alloc (Below.refl _ _) _ (Nat.le_refl _)
 have HMW : Hid (MetAt W gm []) := by rw [Hid, ← hW, ← hgm]; exact MetAt.new w
 have hgw : gm + 1 = W.heap.size := by rw [← hW, ← hgm]; simp
 have y0 : W.cell? ⟨gl, 0, none⟩ = some (.slice L q cl) := getc hBW bL
 have hglw : gl < gm := by rw [← hgm]; exact World.block_lt_of_cell? w _ bL
 have hgMw : gM < gm := by rw [← hgm]; exact bM.lt
 clear g gs hok hl hM bM bL
 have hmm := @run_makeMap Tryz.prog
 go_enter Tryz.func69, Tryz.ntmps69
 go_wp2_with fail
 clear y0 hW hmm
 have hbig : ∀ {V : World}, Kept (fun k => k = gm ∨ W.heap.size ≤ k) W V → Below w.heap.size w V := fun hK => hBW.trans (hK.below (by omega) (fun k h => by omega))
 go_loopw [14] (fun i wr => ∃ k : Nat, k ≤ q ∧ i = .int .i64 k ∧ Hid (Kept (fun j => j = gm ∨ W.heap.size ≤ j) W wr) ∧ Hid (MetAt wr gm (metL c l set k))) (fun i _ => q - (intOf i).toNat)
 case atStart => exact ⟨0, Nat.zero_le _, rfl, Kept.refl _ _, HMW.out⟩
 case round =>
  obtain ⟨wo, hwo⟩ : ∃ V, V = wr := ⟨_, rfl⟩
  rw [← hwo] at hrel ⊢
  clear hwo
  obtain ⟨k, hk, rfl, HKr, HMr⟩ := hrel
  have HBr : Hid (Below w.heap.size w wo) := hbig HKr.out
  by_cases hlt : k < q
  ·have hki : (k : Int) < q := by omega
   have hr := HGS.out wo HBr.out
   obtain ⟨b, off, za, zb, hA, _, q0, q1, Hx⟩ := Pls.get hr hlt
   subst hA
   have HXZ : Hid ((za, zb) ∈ scalesN) := HL.out _ (List.mem_of_getElem? Hx.out)
   obtain ⟨gS, hgS⟩ : ∃ g, wo.heap.size = g := ⟨_, rfl⟩
   obtain ⟨U3, hU3⟩ : ∃ U, wo.alloc (.cells #[.int .i64 (za : Int), .int .i64 (zb : Int)] 42) = U := ⟨_, rfl⟩
   have RU : Blk U3 gS 42 #[.int .i64 (za : Int), .int .i64 (zb : Int)] := by rw [← hU3]; exact Blk.new _ _ _ hgS.symm
   have hB3 : Below wo.heap.size wo U3 := by rw [← hU3]; exact bl_alloc (Below.refl _ _) _ (Nat.le_refl _)
   have HB3 := Lib.hid hB3
   have HBW3 : Hid (Below w.heap.size w U3) := bl_call HBr.out hB3 (by have := HBr.out.size; omega)
   have r0 := RU.cell 0
   have r1 := RU.cell 1
   have M3 := HBM.out.bl HBW3.out
   have m0 := M3.cell 0
   have m1 := M3.cell 1
   have m2 := M3.cell 2
   have m3 := M3.cell 3
   have m4 := M3.cell 4
   have m5 := M3.cell 5
   clear RU hB3 M3 hr
   go_wp2_with fail
   clear m0 m1 m2 m3 m4 m5 r0 r1 q0 q1 hU3
   have hcut := scut_any HOK.out HXZ.out U3 (HG.out U3 HBW3.out) (ca := ca) (cb := cb)
   rw [HM.out] at hcut
   refine hcut.mono ?_
   rintro e V2 ⟨rfl, b2⟩
   obtain ⟨v0, v1, v2, v3, v4, v5, v6, v7, hv⟩ := cutV_8 (cut5 c (za, zb))
   have HC0 : Hid (#[.int .i64 v0, .int .i64 v1, .int .i64 v2, .int .i64 v3, .int .i64 v4, .int .i64 v5, .int .i64 v6, .int .i64 v7] = cellsM c (za, zb) set 0) := by
    have h := (cellsM_zero c (za, zb) set).trans hv
    injection h with h
    exact h.symm
   rw [hv]
   obtain ⟨fb, hfb⟩ : ∃ x, fits5 c ((((za, zb) : Nat × Nat).1 : Int), (((za, zb) : Nat × Nat).2 : Int)) = x := ⟨_, rfl⟩
   rw [hfb]
   have HC2 : Hid (Below U3.heap.size U3 V2) := b2
   clear b2 hcut hv hfb
   obtain ⟨gC, hgC⟩ : ∃ g, V2.heap.size = g := ⟨_, rfl⟩
   obtain ⟨U4, hU4⟩ : ∃ U, V2.alloc (.cells #[.int .i64 v0, .int .i64 v1, .int .i64 v2, .int .i64 v3, .int .i64 v4, .int .i64 v5, .int .i64 v6, .int .i64 v7] 108) = U := ⟨_, rfl⟩
   have HCU : Hid (Blk U4 gC 108 (cellsM c (za, zb) set 0)) := by rw [Hid, ← HC0.out, ← hU4]; exact Blk.new _ _ _ hgC.symm
   have HB4 : Hid (Below wo.heap.size wo U4) := by rw [Hid, ← hU4]; exact bl_alloc (bl_call HB3.out HC2.out (Nat.le_refl _)) _ (Nat.le_refl _)
   have hWr : W.heap.size ≤ wo.heap.size := HKr.out.size
   have hgCr : wo.heap.size ≤ gC := by rw [← hgC]; exact Nat.le_trans HB3.out.size HC2.out.size
   go_wp2_with fail
   clear hU4 hgC
   go_loopw [24] (fun i wq => ∃ j : Nat, j ≤ 8 ∧ i = .int .i64 j ∧ Hid (Kept (fun k => k = gC) U4 wq) ∧ Hid (Blk wq gC 108 (cellsM c (za, zb) set j))) (fun i _ => 8 - (intOf i).toNat)
   case atStart => exact ⟨0, by omega, rfl, Kept.refl _ _, HCU.out⟩
   case round =>
    obtain ⟨wq, hwq⟩ : ∃ V, V = wr := ⟨_, rfl⟩
    rw [← hwq] at hrel ⊢
    clear hwq
    obtain ⟨j, hj, rfl, HKq, HCq⟩ := hrel
    by_cases hj8 : j < 8
    ·have hji : (j : Int) < 8 := by omega
     have hbt := bit_test0 set hset j hj8
     by_cases hz : set / 2 ^ j % 2 = 0
     ·rw [hz] at hbt
      have hbt2 : (bits BinOp.and IntKind.i64 ((set : Int) / 2 ^ j) 1 == 0) = true := hbt
      have HSET : Hid (∀ V, V = wq.setCell ⟨gC, j, none⟩ (.int .i64 0) → Kept (fun k => k = gC) U4 V ∧ Blk V gC 108 (cellsM c (za, zb) set (j + 1))) := by
       rintro V rfl
       refine ⟨HKq.out.trans (Kept.setCell _ _ _ rfl), ?_⟩
       rw [← cellsM_set hj8 hz]
       exact HCq.out.set_ j _
      have hcj : ∃ v, wq.cell? ⟨gC, j, none⟩ = some v := ⟨_, (HCq.out.cell j).trans (by unfold cellsM; rw [List.getElem?_toArray, List.getElem?_map, mkM_get _ _ _ _ hj8]; rfl)⟩
      obtain ⟨vj, hcj⟩ := hcj
      have hfj := HCq.out.frozen j
      have hlj := HCq.out.lt
      obtain ⟨Wq, hWq⟩ : ∃ V, wq.setCell ⟨gC, j, none⟩ (.int .i64 0) = V := ⟨_, rfl⟩
      have HS2 := Lib.hid (HSET.out Wq hWq.symm)
      clear hbt hz HSET
      go_wp2_with fail
      go_roundw
      case rel => exact ⟨j + 1, by omega, by go_num, HS2.out.1, HS2.out.2⟩
      case measure => simp [intOf]; omega
     have hbt2 : (bits BinOp.and IntKind.i64 ((set : Int) / 2 ^ j) 1 == 0) = false := by rw [hbt]; simpa using hz
     have HKP : Hid (Blk wq gC 108 (cellsM c (za, zb) set (j + 1))) := by rw [Hid, cellsM_keep hz]; exact HCq.out
     clear hbt hz
     go_wp2_with fail
     go_roundw
     case rel => exact ⟨j + 1, by omega, by go_num, HKq, HKP⟩
     case measure => simp [intOf]; omega
    obtain rfl : j = 8 := by omega
    have HKW : Hid (Kept (fun j => j = gm ∨ W.heap.size ≤ j) W wq) := (HKr.out.seq (Kept.of_bl HB4.out : Kept (fun k => wo.heap.size ≤ k) wo U4) (fun i hi h => by omega)).seq HKq.out (fun i hi h => by omega)
    have HMq : Hid (MetAt wq gm (metL c l set k)) := by
     have hlm := HMr.out.lt
     have h1 : U4.heap[gm]? = wo.heap[gm]? := HB4.out.block gm (by omega)
     exact (HMr.out.at h1).at (HKq.out.block gm (by have := HB4.out.size; omega) (by omega))
    have hml : (metL c l set k).length ≤ 100 := by unfold metL; rw [List.length_map, List.length_take]; omega
    obtain ⟨x0, x1, x2, x3, x4, x5, x6, x7, hxs⟩ := list_eight (mkM_len c (za, zb) set 8)
    have hma := mkM_all c (za, zb) set
    rw [hxs] at hma
    have HMA := Lib.hid hma
    have hkey : ∃ kl, keyOf Tryz.prog 108 (kvC [x0, x1, x2, x3, x4, x5, x6, x7]) = some kl := kvC_ok (by rw [hma]; exact mask_bd HOK.out HXZ.out set)
    obtain ⟨st, o1, hme, hlk, hst⟩ := HMq.out.count [x0, x1, x2, x3, x4, x5, x6, x7] hml hkey
    have hkv : kvC [x0, x1, x2, x3, x4, x5, x6, x7] = .agg #[.int .i64 x0, .int .i64 x1, .int .i64 x2, .int .i64 x3, .int .i64 x4, .int .i64 x5, .int .i64 x6, .int .i64 x7] := rfl
    rw [hkv] at hme hlk
    obtain ⟨ct, hct⟩ : ∃ x : Nat, (metL c l set k).count [x0, x1, x2, x3, x4, x5, x6, x7] = x := ⟨_, rfl⟩
    have hct1 : ct ≤ 100 := by rw [← hct]; exact Nat.le_trans List.count_le_length hml
    rw [hct] at hme hlk hst
    have HLK := Lib.hid hlk
    have HME := Lib.hid hme
    have HST := Lib.hid hst
    have HCX : Hid (Blk wq gC 108 #[.int .i64 x0, .int .i64 x1, .int .i64 x2, .int .i64 x3, .int .i64 x4, .int .i64 x5, .int .i64 x6, .int .i64 x7]) := by
     have h := HCq.out
     unfold cellsM at h
     rw [hxs] at h
     exact h
    have hgmq : gm < wq.heap.size := HMq.out.lt
    have hgCm : gC ≠ gm := by omega
    have HSB : Hid (∀ V : World, (Kept (fun j => j = gm) wq V ∧ (V.heap[gm]? = wq.heap[gm]? ∨ V.heap[gm]? = some o1)) → (Kept (fun j => j = gm) wq (setBlock V gm o1) ∧ ((setBlock V gm o1).heap[gm]? = wq.heap[gm]? ∨ (setBlock V gm o1).heap[gm]? = some o1)) ∧ (setBlock V gm o1).heap[gm]? = some o1) := fun V hC => by
     have hlt : gm < V.heap.size := by have := hC.1.size; omega
     have h1 : (setBlock V gm o1).heap[gm]? = some o1 := by simp [setBlock, hlt]
     exact ⟨⟨hC.1.trans ⟨rfl, rfl, rfl, by simp [setBlock], fun j hj hn => by simp [setBlock]; rw [Array.getElem?_setIfInBounds, if_neg (fun e => hn e.symm)]⟩, .inr h1⟩, h1⟩
    have kk2 : Hid (∀ V : World, (Kept (fun j => j = gm) wq V ∧ (V.heap[gm]? = wq.heap[gm]? ∨ V.heap[gm]? = some o1)) → V.cell? ⟨gC, 0, none⟩ = some (.int .i64 x0) ∧ V.cell? ⟨gC, 1, none⟩ = some (.int .i64 x1) ∧ V.cell? ⟨gC, 2, none⟩ = some (.int .i64 x2) ∧ V.cell? ⟨gC, 3, none⟩ = some (.int .i64 x3) ∧ V.cell? ⟨gC, 4, none⟩ = some (.int .i64 x4) ∧ V.cell? ⟨gC, 5, none⟩ = some (.int .i64 x5) ∧ V.cell? ⟨gC, 6, none⟩ = some (.int .i64 x6) ∧ V.cell? ⟨gC, 7, none⟩ = some (.int .i64 x7)) := fun V hC => by
     have hb : Blk V gC 108 #[.int .i64 x0, .int .i64 x1, .int .i64 x2, .int .i64 x3, .int .i64 x4, .int .i64 x5, .int .i64 x6, .int .i64 x7] := (hC.1.block _ HCX.out.lt (by omega)).trans HCX.out
     exact ⟨hb.cell 0, hb.cell 1, hb.cell 2, hb.cell 3, hb.cell 4, hb.cell 5, hb.cell 6, hb.cell 7⟩
    have wct : IntKind.i64.wrap ((ct : Int) + 1) = (ct : Int) + 1 := by rw [IntKind.wrap_i64]; omega
    clear hme hlk hst hxs hma hkey hkv hct hml
    go_wp2_with fail
    refine wp_region_list (fun V => Kept (fun j => j = gm) wq V ∧ (V.heap[gm]? = wq.heap[gm]? ∨ V.heap[gm]? = some o1)) (fun w w' => w.heap[gm]? = some o1 → w'.heap[gm]? = some o1)
     [isV (.map (some gm)), isV (.agg #[.int .i64 x0, .int .i64 x1, .int .i64 x2, .int .i64 x3, .int .i64 x4, .int .i64 x5, .int .i64 x6, .int .i64 x7]), isV (.int .i64 ct), isV (.int .i64 ((ct : Int) + 1)), fun v W => v = .tuple #[.int .i64 ct, goInt st] ∧ W.heap[gm]? = some o1, isV (goInt st)]
     (by kernel_rfl) (by kernel_rfl) (by kernel_rfl) (by simp) (by simp) ⟨(Kept.refl _ _).trans (Kept.drew _ _), .inl rfl⟩ ?stab9 ?step9 ?fin9
    case stab9 => exact (StabL.is (StabL.is (StabL.is (StabL.is (StabL.cons (fun v W V hC hX h => ⟨h.1, hX h.2⟩) (StabL.is StabL.nil))))))
    case step9 =>
     refine StepsL.isA ?_ (StepsL.isA ?_ (StepsL.isA ?_ (StepsL.isA ?_ (StepsL.consA ?_ (StepsL.isA ?_ StepsL.nil)))))
     all_goals intro vs a W K ha hC hD hU hK
     all_goals try rw [if_pos (by rfl)]
     ·
      have r5 : a.tmps[5]? = some (.map (some gm)) := by rw [ha]; kernel_rfl
      clear ha hU hD
      go_simp
      exact hK _ hC (fun h => h)
     ·
      have r8 : a.tmps[8]? = some (.pointer (some ⟨gC, 0, none⟩)) := by rw [ha]; kernel_rfl
      clear ha hU hD
      obtain ⟨k0, k1, k2, k3, k4, k5, k6, k7⟩ := kk2.out W hC
      go_simp
      exact hK _ hC (fun h => h)
     ·
      have r35 : a.tmps[35]? = some (vs 0) := by rw [ha]; kernel_rfl
      have q0 : vs 0 = .map (some gm) := hD 0 (by simp [waits, Region.binds])
      rw [q0] at r35
      have r36 : a.tmps[36]? = some (vs 1) := by rw [ha]; kernel_rfl
      have q1 : vs 1 = .agg #[.int .i64 x0, .int .i64 x1, .int .i64 x2, .int .i64 x3, .int .i64 x4, .int .i64 x5, .int .i64 x6, .int .i64 x7] := hD 1 (by simp [waits, Region.binds])
      rw [q1] at r36
      clear ha hU hD
      have hlk := HLK.out W hC.2
      go_simp
      exact hK _ hC (fun h => h)
     ·
      have r37 : a.tmps[37]? = some (vs 2) := by rw [ha]; kernel_rfl
      have q2 : vs 2 = .int .i64 ct := hD 2 (by simp [waits, Region.binds])
      rw [q2] at r37
      clear ha hU hD
      go_simp
      exact hK _ hC (fun h => h)
     ·
      have r35 : a.tmps[35]? = some (vs 0) := by rw [ha]; kernel_rfl
      have q0 : vs 0 = .map (some gm) := hD 0 (by simp [waits, Region.binds])
      rw [q0] at r35
      have r36 : a.tmps[36]? = some (vs 1) := by rw [ha]; kernel_rfl
      have q1 : vs 1 = .agg #[.int .i64 x0, .int .i64 x1, .int .i64 x2, .int .i64 x3, .int .i64 x4, .int .i64 x5, .int .i64 x6, .int .i64 x7] := hD 1 (by simp [waits, Region.binds])
      rw [q1] at r36
      clear ha hU hD
      have hme := HME.out W hC.2
      have hC' := HSB.out W hC
      go_simp
      exact hK _ _ hC'.1 (fun _ => hC'.2) ⟨rfl, hC'.2⟩
     have r39 : a.tmps[39]? = some (vs 4) := by rw [ha]; kernel_rfl
     have q4 : (fun v W => v = .tuple #[.int .i64 ct, goInt st] ∧ W.heap[gm]? = some o1) (vs 4) W := hD 4 (by simp [waits, Region.binds])
     obtain ⟨q4, _⟩ := q4
     rw [q4] at r39
     clear ha hU hD
     go_simp
     exact hK _ hC (fun h => h)
    intro vs V hC hE hU
    have e0 := hE 0 (by simp)
    have e3 := hE 3 (by simp)
    have e4 := hE 4 (by simp)
    have e5 := hE 5 (by simp)
    simp only [envOf, List.getD_cons_succ, List.getD_cons_zero, isV] at e0 e3 e4 e5
    simp only [fillA, Act.put, List.setIfInBounds_toArray, List.set_cons_zero, List.set_cons_succ, Nat.zero_add, Nat.reduceAdd, e0, e3, e5]
    have e4' := e4.2
    clear e0 e3 e4 e5 hE hU
    simp [Region.wanted, yielded]
    obtain ⟨W3, hrun, hg3, hN4⟩ := HST.out V e4'
    simp only [goInt] at hrun
    have hk4 : Kept (fun j => j = gm) wq W3 := hC.1.trans (Kept.grown hg3 (fun j hj => by injection hj with hj; exact hj.symm))
    have HK9 : Hid (Kept (fun j => j = gm ∨ W.heap.size ≤ j) W W3) := HKW.out.seq hk4 (fun i hi h => .inl h)
    have HM9 : Hid (MetAt W3 gm (metL c l set (k + 1))) := by rw [Hid, metL_succ Hx.out, ← HMA.out]; exact hN4
    clear hg3 hC hN4 hk4 e4'
    go_simp
    go_wp2_with fail
    go_roundw
    case rel => exact ⟨k + 1, by omega, by go_num, HK9, HM9⟩
    case measure => simp [intOf]; omega
  obtain rfl : k = q := by omega
  have HE : Hid (distN (metL c l set k) = distN (l.map fun z => maskZ set (cut8 c z))) := by rw [Hid, metL, List.take_of_length_le (by rw [HQ.out]; exact Nat.le_refl _)]
  have hlen := HMr.out.len 3
  rw [HE.out] at hlen
  obtain ⟨dn, hdn⟩ : ∃ x, distN (l.map fun z => maskZ set (cut8 c z)) = x := ⟨_, rfl⟩
  rw [hdn] at hlen
  have HDB : Hid (diffB c l set = (dn == k)) := by rw [Hid, diffB, hdn, HQ.out]
  have y0 := getc HBr.out HBL.out
  have hki : ¬ (k : Int) < k := by omega
  clear hdn
  go_wp2_with fail
  go_ret
  exact ⟨ret_bool (by rw [HDB.out]; first | rfl | (rw [Bool.eq_iff_iff]; simp; done) | (rw [Bool.eq_iff_iff]; simp; omega)), by rw [← hgm]; exact HBr.out⟩
end Go.Proofs.YtcnebekkbfajbaaGreat
