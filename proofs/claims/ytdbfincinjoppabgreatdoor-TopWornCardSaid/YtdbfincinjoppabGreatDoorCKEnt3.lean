/- A part of the proof that TopWorn always answers true. -/
import Derived.Test.YtdbfincinjoppabGreatDoorCKEnt2
set_option linter.all false
namespace Go.Proofs.YtdbfincinjoppabGreatDoor
open Go.RowKit Go.Shelf
attribute [local go_sem] Oper.semAt_some
theorem zeros139 : Tryz.zeroCells90 = shopC 0 0 none 0 0 none 0 0 (fun _ => (0, 0)) (.slice none 0 0) := by kernel_rfl
theorem shopC_new {klo khi : Int} {Ad : Option Addr} {n ca : Nat} {C : Option Addr} {q cc : Nat} : (((Tryz.zeroCells90.setIfInBounds 0 (.int .i64 klo)).setIfInBounds 1 (.int .i64 khi)).setIfInBounds 2 (.slice Ad n ca)).setIfInBounds 3 (.slice C q cc) = shopC klo khi Ad n ca C q cc (fun _ => (0, 0)) (.slice none 0 0) := by
 rw [zeros139]
 apply Array.ext_getElem?
 intro j
 rw [Array.getElem?_setIfInBounds, Array.getElem?_setIfInBounds, Array.getElem?_setIfInBounds, Array.getElem?_setIfInBounds, shopC_get, shopC_get]
 simp only [Array.size_setIfInBounds, shopC_size]
 by_cases h3 : 3 = j
 ·subst h3; rfl
 rw [if_neg h3]
 by_cases h2 : 2 = j
 ·subst h2; rfl
 rw [if_neg h2]
 by_cases h1 : 1 = j
 ·subst h1; rfl
 rw [if_neg h1]
 by_cases h0 : 0 = j
 ·subst h0; rfl
 rw [if_neg h0]
 by_cases hj : j < 69
 ·rw [if_pos hj, if_pos hj]
  have e0 : ¬ j = 0 := fun e => h0 e.symm
  have e1 : ¬ j = 1 := fun e => h1 e.symm
  have e2 : ¬ j = 2 := fun e => h2 e.symm
  have e3 : ¬ j = 3 := fun e => h3 e.symm
  unfold shopCell
  simp only [e0, e1, e2, e3, if_false]
 rw [if_neg hj, if_neg hj]
theorem zero64 (w : World) : (zeroValue 88).run Tryz.prog w = .ok (.agg (cellsS fun _ => (0, 0))) w := (Tryz.zeroValue88 w).trans (by kernel_rfl)
structure SBox (w : World) (gh : Nat) (Ad : Option Addr) (n ca : Nat) (C : Option Addr) (q cc : Nat) (s : Shop) (l : List SeenC) : Prop where
 ex : ∃ (D : Option Addr) (kc : Nat), Blk w gh 90 (shopC s.klo s.khi Ad n ca C q cc (sizeF s l (known7 s l)) (.slice D (known7 s l).length kc)) ∧ Ints (fun _ => True) w D (known7 s l).length (known7 s l) ∧ (known7 s l = [] → D = none ∧ kc = 0) ∧ (known7 s l ≠ [] → ∃ g, D = some ⟨g, 0, none⟩)
 ms : Moulds (fun _ => True) w Ad n s.moulds
def EntOk (w0 : World) (Ad : Option Addr) (n ca : Nat) (C : Option Addr) (q cc : Nat) (s : Shop) (l : List SeenC) (e : Ending) (w' : World) : Prop :=
 Below w0.heap.size w0 w' ∧ ∃ p, e = .returned (.tuple #[.pointer p, .int .i64 (seen7 s l).2]) ∧ ((seen7 s l).2 = 0 → ∃ gh, p = some ⟨gh, 0, none⟩ ∧ SBox w' gh Ad n ca C q cc s l)
def knownK (s : Shop) (l : List SeenC) (i : Nat) : List Int := ((rangeZ s.klo s.khi).take i).filter (knownB s l)
def OutJ (klo khi : Int) (Ad : Option Addr) (n ca : Nat) (C : Option Addr) (q cc : Nat) (s : Shop) (l : List SeenC) (gh B0 i : Nat) (O : Foot) (A : World) : Prop :=
 ∃ v : Value, Blk A gh 90 (shopC klo khi Ad n ca C q cc (sizeF s l (knownK s l i)) v) ∧ OwnL IntR 1 (fun _ => False) A B0 3 v (knownK s l i) ∧ (∀ k, O k ↔ k = gh ∨ v.ownBlock = some k) ∧ v.ownBlock ≠ some gh ∧ (knownK s l i = [] → v = .slice none 0 0)
theorem OutJ.nil {s : Shop} {l : List SeenC} : knownK s l 0 = [] := rfl
theorem OutJ.stay {klo khi : Int} {Ad : Option Addr} {n ca : Nat} {C : Option Addr} {q cc : Nat} {s : Shop} {l : List SeenC} {gh B0 i : Nat} {O : Foot} {A B : World} (h : OutJ klo khi Ad n ca C q cc s l gh B0 i O A) (hK : Kept (fun k => ¬ O k) A B) : OutJ klo khi Ad n ca C q cc s l gh B0 i O B := by
 obtain ⟨v, h1, h2, h3, h4, h5⟩ := h
 exact ⟨v, (hK.block _ h1.lt (fun h => h ((h3 gh).2 (.inl rfl)))).trans h1, h2.keep IntR.good ⟨hK.size, fun k hk hlt => hK.block k hlt (fun h => h ((h3 k).2 (.inr (hk.elim (fun h => h.elim) id))))⟩, h3, h4, h5⟩
theorem infoI7 : (Tryz.prog.info? 3).map (fun i => (i.zero, i.size, i.bytes)) = some (some (.int .i64 0), 1, 8) := by kernel_rfl
theorem ownK_blk {α : Type} {R : Rd α} {m : Nat} {S : Foot} {w : World} {base : Nat} {e : TypeId} {v : Value} {xs : List α} (h : OwnL R m S w base e v xs) {k : Nat} (hk : v.ownBlock = some k) : ∃ cur, Blk w k e cur := by
 obtain ⟨_, cells, ho, _⟩ := h
 rcases ho.2 with ⟨e, _⟩ | ⟨gb, cap, cur, e, _, hgg, _⟩
 ·subst e; simp [Value.ownBlock] at hk
 subst e
 have : gb = k := by simpa [Value.ownBlock] using hk
 subst this
 exact ⟨cur, hgg⟩
def appE (B0 As : Nat) (gh : Nat) (v : Value) (x : Int) (ks : List Int) : Nat → Bool → Value → World → Prop
 | 0, _, u, _ => u = .pointer (some ⟨gh, 0, none⟩)
 | 1, _, u, _ => u = .pointer (some ⟨gh, 0, none⟩)
 | 2, _, u, _ => u = .pointer (some ⟨gh, 0, none⟩)
 | 3, _, u, _ => u = .pointer (some ⟨gh, 68, none⟩)
 | 4, _, u, _ => u = v
 | 5, _, u, _ => u = .int .i64 x
 | 6, p, u, W => p = true ∨ ∃ g, u = .slice (some ⟨g, 0, none⟩) 1 1 ∧ Blk W g 3 #[.int .i64 x]
 | 7, _, u, W => ∃ A c, u = .slice (some ⟨A, 0, none⟩) (ks.length + 1) c ∧ OwnL IntR 1 (fun _ => False) W B0 3 u (ks ++ [x]) ∧ (v.ownBlock = some A ∨ As ≤ A)
 | 8, _, u, _ => u = .pointer (some ⟨gh, 0, none⟩)
 | 9, _, u, _ => u = .pointer (some ⟨gh, 68, none⟩)
 | _, _, _, _ => True
theorem appE_stab (B0 As : Nat) (gh : Nat) (v : Value) (x : Int) (ks : List Int) : ∀ k p u w w', Below w.heap.size w w' → appE B0 As gh v x ks k p u w → appE B0 As gh v x ks k p u w'
 | 6, _, _, _, _, hb, h => h.imp id fun ⟨g, h1, h2⟩ => ⟨g, h1, h2.bl hb⟩
 | 7, _, _, _, _, hb, ⟨A, c, h1, h2, h3⟩ => ⟨A, c, h1, h2.below IntR.good hb, h3⟩
 | 0, _, _, _, _, _, h => h
 | 1, _, _, _, _, _, h => h
 | 2, _, _, _, _, _, h => h
 | 3, _, _, _, _, _, h => h
 | 4, _, _, _, _, _, h => h
 | 5, _, _, _, _, _, h => h
 | 8, _, _, _, _, _, h => h
 | 9, _, _, _, _, _, h => h
 | _ + 10, _, _, _, _, _, _ => trivial
structure AppI (B0 : Nat) (A5 : World) (E : Nat → Bool → Value → World → Prop) (gh : Nat) (D : Array Value) (v : Value) (ks : List Int) (ls : Nat → Bool) (vs : Nat → Value) (w : World) : Prop where
 kp : Kept (fun k => v.ownBlock = some k) A5 w
 blk : Blk w gh 90 D
 own : ls 7 = false → OwnL IntR 1 (fun _ => False) w B0 3 v ks
 all : ∀ i, ls i = true → E i (ls 7) (vs i) w
theorem AppI.step {B0 : Nat} {A5 : World} {E : Nat → Bool → Value → World → Prop} {gh : Nat} {D : Array Value} {sv : Value} {ks : List Int} {ls : Nat → Bool} {vs : Nat → Value} {w w' : World} {j : Nat} {v : Value} (stab : ∀ i p v w w', Below w.heap.size w w' → E i p v w → E i p v w') (hI : AppI B0 A5 E gh D sv ks ls vs w) (hb : Below w.heap.size w w') (hj : j ≠ 7) (hv : E j (ls 7) v w') : AppI B0 A5 E gh D sv ks (updB ls j) (updV vs j v) w' := by
 have h0 : updB ls j 7 = ls 7 := by unfold updB; rw [if_neg (fun e => hj e.symm)]
 refine ⟨hI.kp.trans (Kept.of_bl hb), hI.blk.bl hb, fun h => (hI.own (by rw [← h0]; exact h)).below IntR.good hb, fun i hi => ?_⟩
 rw [h0]
 by_cases hij : i = j
 ·subst hij; simpa [updV] using hv
 have : updB ls j i = ls i := by unfold updB; rw [if_neg hij]
 rw [this] at hi
 rw [show updV vs j v i = vs i by simp [updV, hij]]
 exact stab _ _ _ _ _ hb (hI.all i hi)
set_option maxRecDepth 100000 in
set_option maxHeartbeats 1500000 in
theorem kenter_any {Ad C : Option Addr} {n ca q cc : Nat} {s : Shop} {l : List SeenC} {klo khi : Int} (w : World) (g : Moulds (fun _ => True) w Ad n s.moulds) (gs : SeenCs (fun _ => True) w C q l) (hca : n ≤ ca) (h1 : s.klo = klo) (h2 : s.khi = khi) :
    Calls Tryz.prog 34 #[.agg #[.int .i64 klo, .int .i64 khi, .slice Ad n ca], .slice C q cc] w (EntOk w Ad n ca C q cc s l) := by
  obtain ⟨W, hW⟩ : ∃ W, w.alloc (.cells #[.int .i64 klo, .int .i64 khi, .slice Ad n ca] 26) = W := ⟨_, rfl⟩
  obtain ⟨g2, hg2⟩ : ∃ g, w.heap.size = g := ⟨_, rfl⟩
  have X : Blk W g2 26 #[.int .i64 klo, .int .i64 khi, .slice Ad n ca] := by rw [← hW, ← hg2]; exact Blk.new _ _ _ rfl
  have HBW : Hid (Below w.heap.size w W) := by rw [Hid, ← hW]; exact bl_alloc (Below.refl _ _) _ (Nat.le_refl _)
  have hc := g.keep MouldR.good (Keeps.below HBW.out)
  have hs := gs.keep SeenCR.good (Keeps.below HBW.out)
  have Hn := Lib.hid hc.len
  have hlen := hc.le
  have HX := Lib.hid X
  have x0 := X.cell 0
  have x1 := X.cell 1
  have x2 := X.cell 2
  clear g gs X
  refine (callsIn_wide (n := 1)).1 ?_
  refine callsIn_of_wp_marks Tryz.func34 rfl trivial ?_ rfl
  simp only [Tryz.ntmps34, List.size_toArray, List.length_cons, List.length_nil, Nat.reduceAdd, Nat.reduceSub, Array.replicate_succ, Array.replicate_zero, List.push_toArray, List.append_toArray, List.nil_append, List.cons_append]
  gi_wp2_with fail
  refine wpIn_wide.2 (wp_scope_straight ((wpIn_wide (n := 1)).1 ?_))
  gi_wp2_with fail
  refine ⟨trivial, ?_⟩
  refine (callsIn_wide.2 (kseen_any W hc hs hca h1 h2)).mono ?_
  rintro e W1 ⟨rfl, b1⟩
  clear x0 x1 x2 hW
  by_cases he : (seen7 s l).2 = 0
  · have heb : ((seen7 s l).2 != 0) = false := by rw [he]; rfl
    have HE := Lib.hid he
    obtain ⟨hc0, hl6, hse⟩ := seen7_zero he
    have HOK : Hid (OkS s) := okS_of hc0
    have HSN : Hid (∀ (j : Nat) (y : SeenC), l[j]? = some y → 0 ≤ y.cast ∧ y.cast ≤ 8) := fun j y hy => by
      obtain ⟨⟨p1, p2⟩, ⟨p3, p4⟩, _⟩ := seen7_one hy (hse j (of_getq hy))
      have hx : s.moulds[y.mould.toNat]? = some s.moulds[y.mould.toNat] := List.getElem?_eq_getElem (by omega)
      have hz := (mouldE_zero hx ((okS_of hc0).mould (by omega))).2.2
      rw [getD_of hx] at p4
      omega
    obtain ⟨s1, hs1⟩ : ∃ s1, (seen7 s l).1 = s1 := ⟨_, rfl⟩
    rw [he, hs1]
    clear he hs1 hc0 hse
    have y0 := getc b1 (HX.out.cell 0)
    have y1 := getc b1 (HX.out.cell 1)
    have y2 := getc b1 (HX.out.cell 2)
    gi_wp2_with fail
    rw [shopC_new]
    clear y0 y1 y2
    obtain ⟨gh, hgh⟩ : ∃ g, W1.heap.size = g := ⟨_, rfl⟩
    obtain ⟨V0, hV0⟩ : ∃ V, (W1.alloc (.cells (shopC klo khi Ad n ca C q cc (fun _ => (0, 0)) (.slice none 0 0)) 90)).alloc (.cells #[.pointer (some ⟨gh, 0, none⟩)] 83) = V := ⟨_, rfl⟩
    have b2 : Below W1.heap.size W1 V0 := by rw [← hV0]; exact bl_alloc (bl_alloc (Below.refl _ _) _ (Nat.le_refl _)) _ (Nat.le_refl _)
    have q1 : Blk V0 gh 90 (shopC klo khi Ad n ca C q cc (fun _ => (0, 0)) (.slice none 0 0)) := by rw [← hV0, ← hgh]; exact (Blk.new _ _ _ rfl).alloc _
    have q2 : Blk V0 (gh + 1) 83 #[.pointer (some ⟨gh, 0, none⟩)] := by rw [← hV0, ← hgh]; exact Blk.new _ _ _ (by simp)
    have hs0 : V0.heap.size = gh + 2 := by rw [← hV0, ← hgh]; simp
    rw [hgh, hV0]
    refine wpIn_label ?_
    have bW := bl_call b1 b2 (Nat.le_refl _)
    have x0 := getc bW (HX.out.cell 0)
    have x1 := getc bW (HX.out.cell 1)
    gi_wp2_with fail
    refine ⟨trivial, ?_⟩
    refine (callsIn_wide.2 (knumbers_call klo khi V0)).mono ?_
    rintro e w' ⟨rfl, rfl⟩
    gi_wp2_with fail
    clear x0 x1
    obtain ⟨V1, hV1⟩ : ∃ V, V0.alloc (.cells #[.int .i64 klo, .int .i64 khi] 23) = V := ⟨_, rfl⟩
    have b3 : Below V0.heap.size V0 V1 := by rw [← hV1]; exact bl_alloc (Below.refl _ _) _ (Nat.le_refl _)
    have q3 : Blk V1 (gh + 2) 23 #[.int .i64 klo, .int .i64 khi] := by rw [← hV1]; exact Blk.new _ _ _ hs0.symm
    have hs1 : V1.heap.size = gh + 3 := by rw [← hV1]; simp [hs0]
    rw [hV1]
    have hs1a : V1.heap.size ≤ gh + 3 := by omega
    have hs1b : gh + 3 ≤ V1.heap.size := by omega
    clear hs1
    have p1 := q1.bl b3
    have p2 := q2.bl b3
    clear hV0 hV1 q1 q2 hs0
    have hsz := b3.size
    have hkl := HOK.out.shrink
    rw [h1, h2] at hkl
    have HKL := Lib.hid hkl
    have hnb : 0 ≤ klo ∧ klo ≤ khi + 1 ∧ khi ≤ 100000 := by omega
    have HKK : Hid ((rangeZ klo khi).length = (khi - klo + 1).toNat) := rangeZ_len
    have b13 : Below W.heap.size W V1 := bl_call bW b3 (Nat.le_refl _)
    have hgW : W.heap.size ≤ gh := by rw [← hgh]; exact b1.size
    have hg2W : g2 < W.heap.size := HX.out.lt
    have HP1 := Lib.hid p1
    have hpl := p1.lt
    have HB13 := Lib.hid b13
    have KW : ∀ {A : World} {M : Foot}, Kept M V1 A → (∀ k, M k → gh ≤ k) → Below W.heap.size W A := fun hK hM => HB13.out.trans (hK.below (B := W.heap.size) HB13.out.size (fun k hk => by have := hM k hk; omega))
    clear hkl b13 p1 b2 b3 bW
    refine rangeFunc_outer (m := 1) (gf := 95) (lb := #[.pointer (some ⟨gh + 2, 0, none⟩)]) rfl eg_num (numbers_seq (lo := klo) (hi := khi) (gh + 2) hnb) (fun _ => rfl) (fun k => k = gh)
      (OutJ klo khi Ad n ca C q cc s l gh V1.heap.size) (fun _ _ _ => False) (fun k h => by omega) (fun A hK => ⟨_, (hK.block _ q3.lt (by omega)).trans q3⟩) (fun i O A B h _ hK => h.stay hK) (fun _ _ _ _ h _ _ => h) ?init ?round ?done ?stop
    case init => exact ⟨.slice none 0 0, by rw [OutJ.nil, sizeF_nil]; exact HP1.out, OwnL.nil _ _ _ _ _ _, fun k => by simp [Value.ownBlock], by simp [Value.ownBlock], fun _ => rfl⟩
    case round =>
      intro l' i x O A hx hj hlt hsub hK hnl hlA hWl
      have hi : i < (khi - klo + 1).toNat := by have := of_getq hx; rw [HKK.out] at this; exact this
      have hxe : x = klo + (i : Int) := by rw [rangeZ_get (by omega)] at hx; injection hx with hx; exact hx.symm
      have hxb : 0 ≤ x ∧ x ≤ 100 := by have := HKL.out; omega
      have hxs : x ∈ shrinkL s := by have : x ∈ rangeZ s.klo s.khi := by rw [h1, h2]; exact List.mem_of_getElem? hx
                                     exact this
      have hxg : (rangeZ s.klo s.khi)[i]? = some x := by rw [h1, h2]; exact hx
      obtain ⟨ks, hks⟩ : ∃ ks, knownK s l i = ks := ⟨_, rfl⟩
      have hksm : ∀ k ∈ ks, k ∈ shrinkL s := fun k hk => by rw [← hks] at hk; exact List.mem_of_mem_take (List.mem_filter.1 hk).1
      have HKS := Lib.hid hks
      have HXG := Lib.hid hxg
      clear hx hxe hxg
      rw [fold1]
      simp only [List.setIfInBounds_toArray, List.set_cons_zero, List.set_cons_succ]
      gi_wp2
      refine ⟨Kept.refl _ _, fun A2 hK2 hs2 r2 hr2 => ?_⟩
      have hj2 : OutJ klo khi Ad n ca C q cc s l gh V1.heap.size i O A2 := hj.stay (hK2.mono fun k _ h hO => hnl (h ▸ hO))
      obtain ⟨v, hS, hO, hOi, hOn, hOz⟩ := hj2
      rw [hks] at hS hO hOz
      have hK3 : Kept (fun k => k = gh ∨ V1.heap.size ≤ k) V1 A2 := hK.seq hK2 (fun k _ h => .inr (h ▸ hWl))
      have y2 : Blk A2 (gh + 1) 83 #[.pointer (some ⟨gh, 0, none⟩)] := (hK3.block _ p2.lt (by omega)).trans p2
      have bA2 : Below W.heap.size W A2 := KW hK3 (fun k h => by omega)
      have y0 := y2.cell 0
      have yl := y2.lt
      have HLD : ∀ (j : Nat) (v : Value), (cellsS (sizeF s l ks))[j]? = some v → A2.cell? ⟨gh, 4 + j, none⟩ = some v := fun j v hv => by rw [hS.cell]; exact shopC_in hv
      clear hj hK hK2
      obtain ⟨gw, hgw⟩ : ∃ g, A2.heap.size = g := ⟨_, rfl⟩
      gi_wp2_with (with_reducible show wpListIn _ _ _ _ _ (_ :: _) _ _; first
        | (refine at_load 88 _ rfl ?_; refine wpListIn_load_part (F := Fence.wide.inRound l') (r := some l') rfl rfl 88 _ rfl gh 4 rfl (cellsS (sizeF s l ks)) _ HLD Tryz.underlying88 rfl size64 ?_)
        | (refine at_alloc 88 rfl ?_; refine wpListIn_alloc_agg (F := Fence.wide.inRound l') (r := some l') rfl rfl 88 rfl gw hgw (cellsS fun _ => (0, 0)) zero64 (by rw [cellsS_size]; decide) ?_)
        | (refine at_store 88 _ _ rfl ?_; refine wpListIn_store_new (F := Fence.wide.inRound l') (r := some l') rfl rfl 88 _ _ rfl gw hgw (cellsS (sizeF s l ks)) rfl rfl 88 _ size64 (by rw [cellsS_size, cellsS_size]) (cellsS_one _) ?_; intro A3 HW3 bA3 sA3; have yg := getc (bl_call bA2 bA3 (Nat.le_refl _)) (HX.out.cell 2)))
      have HS2 := Lib.hid hS
      have HO2 := Lib.hid hO
      have HA3 := Lib.hid bA3
      have HA2 := Lib.hid bA2
      have hA3s := bA3.size
      have hghl := hS.lt
      have hkA : Kept (fun k => k = gh ∨ V1.heap.size ≤ k) V1 A3 := hK3.trans (Kept.of_bl bA3)
      have HKA := Lib.hid hkA
      have hhl : gh < gw := by omega
      have hgA : A2.heap.size ≤ gw ∧ gw ≤ A2.heap.size := by omega
      have hA2V := hK3.size
      clear HLD y0 yg hgw hS hO bA3 bA2 hkA hK3 hks
      refine kent_loop (Ad := Ad) (C := C) (n := n) (ca := ca) (q := q) (cc := cc) (gh := gh) (ks := ks) HOK.out Hn.out hca hksm hxb HSN.out ?hI HW3 ⟨r2, (HA3.out.block l' (by omega)).trans hr2⟩ (fun i => (#[.agg #[.int .i64 klo, .int .i64 khi, .slice Ad n ca], .slice C q cc, .pointer (some ⟨g2, 0, none⟩), undef, .pointer none, .int .i64 0, .int .i64 s1, .int .i64 0, .pointer (some ⟨gh + 1, 0, none⟩), .int .i64 x, .pointer (some ⟨gw, 0, none⟩), undef, undef, undef, undef, undef, undef, .tuple #[.int .i64 s1, .int .i64 0], .agg #[.int .i64 klo, .int .i64 khi, .slice Ad n ca], .slice C q cc, .tuple #[.int .i64 s1, .int .i64 0], .int .i64 s1, .int .i64 0, .int .i64 0, .bool false, undef, .agg #[.int .i64 klo, .int .i64 khi, .slice Ad n ca], .slice C q cc, .agg (shopC klo khi Ad n ca C q cc (fun _ => (0, 0)) (.slice none 0 0)), .pointer (some ⟨gh, 0, none⟩), .pointer (some ⟨g2, 0, none⟩), .agg #[.int .i64 klo, .int .i64 khi], .func (.func 95) #[] #[.pointer (some ⟨gh + 2, 0, none⟩)], .int .i64 x, .pointer (some ⟨gh, 0, none⟩), .pointer (some ⟨gh, 0, none⟩), .pointer (some ⟨gh, 4, none⟩), .agg (cellsS (sizeF s l ks)), .pointer (some ⟨g2, 2, none⟩), .slice Ad n ca, .int .i64 n, .int .i64 0, undef, undef, undef, undef, undef, undef, undef, undef, undef, undef, undef, undef, undef, undef, undef, undef, undef, undef, undef, undef, undef, undef, undef, undef, undef, undef, undef, undef, undef, undef, undef, undef, undef, undef, undef, undef, undef, undef, undef, undef, undef, undef, undef, undef, undef, undef, undef, undef, undef, undef, undef, undef, undef, undef, undef, undef, undef, undef, undef, undef, undef, undef, undef, undef, undef] : Array Value).getD i undef) ?hexit ?hskip
      case hI =>
        intro w' hK'
        have hKw : Below W.heap.size W w' := bl_call HA2.out (HA3.out.trans (hK'.below (B := A2.heap.size) hA3s (fun k hk => by omega))) (Nat.le_refl _)
        have e1 : Blk w' gh 90 (shopC klo khi Ad n ca C q cc (sizeF s l ks) v) := (hK'.block _ (HS2.out.bl HA3.out).lt (by omega)).trans (HS2.out.bl HA3.out)
        have e2 : Blk w' (gh + 1) 83 #[.pointer (some ⟨gh, 0, none⟩)] := (hK'.block _ (y2.bl HA3.out).lt (by omega)).trans (y2.bl HA3.out)
        exact ⟨hc.keep MouldR.good (Keeps.below hKw), hs.keep SeenCR.good (Keeps.below hKw), (e1.cell 2).trans shopC_2, (e1.cell 3).trans shopC_3, e2.cell 0⟩
      case hskip =>
        intro u w' hK' hN
        have hN2 : knownB s l x = false := by
          obtain ⟨t, ht, e⟩ := hN
          unfold knownB
          rw [← Bool.not_eq_true, List.all_eq_true]
          intro hh
          have := hh t (List.mem_range.2 (by rw [Hn.out]; exact ht))
          rw [e] at this
          cases this
        have HKN : Hid (knownK s l (i + 1) = ks) := by rw [Hid, knownK, take_snoc_get HXG.out, List.filter_append, List.filter_cons_of_neg (by rw [hN2]; decide), List.filter_nil, List.append_nil]; exact HKS.out
        have k1 : Kept (fun _ => False) A2 w' := ((Kept.of_bl (M := fun _ => False) HA3.out)).seq hK' (fun k hk h => by omega)
        have HJ : Hid (OutJ klo khi Ad n ca C q cc s l gh V1.heap.size (i + 1) O w') := by
          refine ⟨v, ?_, ?_, hOi, hOn, by rw [HKN.out]; exact hOz⟩
          · rw [HKN.out]; exact (k1.block _ HS2.out.lt (fun h => h)).trans HS2.out
          · rw [HKN.out]; exact HO2.out.keep IntR.good (k1.keeps (fun _ _ h => h))
        have HK1 := Lib.hid k1
        clear hK' hN hN2 k1
        gi_wp2_with fail
        exact ⟨HK1.out.any, O, fun k h => .inl h, HJ.out⟩
      case hexit =>
        intro u w' hK' hB5 hT
        have hN2 : knownB s l x = true := by
          unfold knownB
          rw [List.all_eq_true]
          intro t ht
          have := hT t (by rw [← Hn.out]; exact List.mem_range.1 ht)
          simpa using this
        have HKN : Hid (knownK s l (i + 1) = ks ++ [x]) := by rw [Hid, knownK, take_snoc_get HXG.out, List.filter_append, List.filter_cons_of_pos hN2, List.filter_nil]; rw [show ((rangeZ s.klo s.khi).take i).filter (knownB s l) = ks from HKS.out]
        have k1 : Kept (fun _ => False) A2 w' := ((Kept.of_bl (M := fun _ => False) HA3.out)).seq hK' (fun k hk h => by omega)
        have hS5 : Blk w' gh 90 (shopC klo khi Ad n ca C q cc (sizeF s l ks) v) := (k1.block _ HS2.out.lt (fun h => h)).trans HS2.out
        have hy5 : Blk w' (gh + 1) 83 #[.pointer (some ⟨gh, 0, none⟩)] := (k1.block _ y2.lt (fun h => h)).trans y2
        have hO5 : OwnL IntR 1 (fun _ => False) w' V1.heap.size 3 v ks := HO2.out.keep IntR.good (k1.keeps (fun _ _ h => h))
        have hk1s := k1.size
        have y5 := hy5.cell 0
        have yl5 := hy5.lt
        have HLD2 : ∀ (j : Nat) (z : Value), (cellsS (sizeF s l (ks ++ [x])))[j]? = some z → w'.cell? ⟨gw, 0 + j, none⟩ = some z := fun j z hz => by rw [hB5.cell, Nat.zero_add]; exact hz
        have HO5 := Lib.hid hO5
        have HY5 := Lib.hid hy5
        have HK1 := Lib.hid k1
        clear hK' hT hN2 hB5 hO5 hy5 k1
        gi_wp2_with (with_reducible show wpListIn _ _ _ _ _ (_ :: _) _ _; first
          | (refine at_load 88 _ rfl ?_; refine wpListIn_load_part (F := Fence.wide.inRound l') (r := some l') rfl rfl 88 _ rfl gw 0 rfl (cellsS (sizeF s l (ks ++ [x]))) _ HLD2 Tryz.underlying88 rfl size64 ?_)
          | (refine at_store 88 _ _ rfl ?_; refine wpListIn_store_at (F := Fence.wide.inRound l') (r := some l') rfl rfl 88 _ _ rfl gh 4 (cellsS (sizeF s l (ks ++ [x]))) rfl rfl 90 _ _ hS5 (shopC_put _) size64 (by rw [cellsS_size, shopC_size]; decide) (cellsS_one _) ?_; intro A5 HS6 kA5 sA5))
        simp only [Act.put]
        have HS6 := Lib.hid HS6
        have hO6 : OwnL IntR 1 (fun _ => False) A5 V1.heap.size 3 v ks := HO5.out.keep IntR.good (kA5.keeps (fun k hk e => by
          rcases hk with hk | hk
          · exact hk
          · exact hOn (by rw [← e]; exact hk)))
        have HO6 := Lib.hid hO6
        have hy6 : Blk A5 (gh + 1) 83 #[.pointer (some ⟨gh, 0, none⟩)] := (kA5.block _ HY5.out.lt (by omega)).trans HY5.out
        have HON := Lib.hid hOn
        have hno : v.ownBlock ≠ some (gh + 1) := fun e => by
          obtain ⟨_, cells, ho, _⟩ := HO6.out
          rcases ho.2 with ⟨e1, _⟩ | ⟨g9, cap, cur, e1, e2, _⟩
          · rw [e1] at e; simp [Value.ownBlock] at e
          · rw [e1] at e; simp [Value.ownBlock] at e; omega
        have getk8 : ∀ {W : World}, Kept (fun k => v.ownBlock = some k) A5 W → W.cell? ⟨gh + 1, 0, none⟩ = some (.pointer (some ⟨gh, 0, none⟩)) := fun hC => hC.cell (hy6.cell 0) (fun h => hno h)
        have hkl7 : ks.length ≤ 200 := by rw [← HKS.out]; exact Nat.le_trans (List.length_filter_le _ _) (by rw [List.length_take, rangeZ_len, h1, h2]; have := HKL.out; omega)
        obtain ⟨iI, hiI, hzI0, hzI1, hzI2⟩ := info_parts infoI7
        clear hO6 y5 yl5 HLD2 hS5
        have AS := Lib.hid (appE_stab V1.heap.size A5.heap.size gh v x ks)
        refine wpIn_region_invs (F := Fence.wide.inRound l') (r := some l') rfl (fun ls vs ww => AppI V1.heap.size A5 (appE V1.heap.size A5.heap.size gh v x ks) gh (shopC klo khi Ad n ca C q cc (sizeF s l (ks ++ [x])) v) v ks ls vs ww) 10 (by kernel_rfl) (by kernel_rfl) (by kernel_rfl) (by rfl) ⟨Kept.drew _ _, HS6.out.drew, fun _ => HO6.out.keep IntR.good (Keeps.drew _), fun i h => by cases h⟩ ?step (by rfl) (by rfl) ?fin
        case step =>
          refine StepsI.cons ?_ (StepsI.cons ?_ (StepsI.cons ?_ (StepsI.cons ?_ (StepsI.cons ?_ (StepsI.cons ?_ (StepsI.cons ?_ (StepsI.cons ?_ (StepsI.cons ?_ (StepsI.cons ?_ StepsI.nil)))))))))
          all_goals
            refine StepI.of ?_
            intro ls vs W K hI hl hw hU hK
            simp only [fillA, Act.put, List.setIfInBounds_toArray, List.set_cons_zero, List.set_cons_succ, Nat.zero_add, Nat.reduceAdd] at hK ⊢
            simp [waits, Region.binds] at hw
            have hC := hI.kp
          · have k8 := getk8 hC
            go_simp
            exact hK _ _ (hI.step AS.out (Below.refl _ _) (by decide) rfl)
          · have k8 := getk8 hC
            go_simp
            exact hK _ _ (hI.step AS.out (Below.refl _ _) (by decide) rfl)
          · have q1 : vs 1 = _ := hI.all 1 (by simp [hw])
            simp only [q1] at hK ⊢
            go_simp
            exact hK _ _ (hI.step AS.out (Below.refl _ _) (by decide) rfl)
          · have q2 : vs 2 = _ := hI.all 2 (by simp [hw])
            simp only [q2] at hK ⊢
            go_simp
            exact hK _ _ (hI.step AS.out (Below.refl _ _) (by decide) rfl)
          · have q3 : vs 3 = _ := hI.all 3 (by simp [hw])
            simp only [q3] at hK ⊢
            have z68 : W.cell? ⟨gh, 68, none⟩ = some v := (hI.blk.cell 68).trans shopC_68
            go_simp
            exact hK _ _ (hI.step AS.out (Below.refl _ _) (by decide) rfl)
          · go_simp
            exact hK _ _ (hI.step AS.out (Below.refl _ _) (by decide) rfl)
          · have q5 : vs 5 = _ := hI.all 5 (by simp [hw])
            simp only [q5] at hK ⊢
            go_simp
            exact hK _ _ (hI.step AS.out (bl_alloc (Below.refl _ _) _ (Nat.le_refl _)) (by decide) (.inr ⟨_, rfl, Blk.new _ _ _ rfl⟩))
          · have hO3 := hI.own hl
            have q4 : vs 4 = _ := hI.all 4 (by simp [hw])
            obtain ⟨g9, hv9, hB9⟩ := (hI.all 6 (by simp [hw])).resolve_left (by rw [hl]; decide)
            simp only [q4, hv9] at hK ⊢
            rw [if_pos (by rfl)]
            obtain ⟨A4, c4, w9, hrun, hO4, hg4, hat4⟩ := run_append_one W 45 45 IntR.good V1.heap.size 3 iI _ 8 Tryz.underlying45 hiI hzI0 hzI1 hzI2 rfl (by omega) v ks x hO3 ⟨g9, 0, none⟩ 1 [.int .i64 x] rfl (fun j u hu => by
              have hadd : (⟨g9, 0, none⟩ : Addr).add j = ⟨g9, j, none⟩ := by unfold Addr.add; split <;> simp_all
              rw [hadd, hB9.cell]; simpa using hu) (by simp only [maxLen]; omega) (by omega) (by have := hC.size; omega) (fun h => h)
            refine wp_append_of_run rfl rfl rfl hrun ?_
            have hkg : Kept (fun k => v.ownBlock = some k) W w9 := Kept.grown hg4 (fun k h => h)
            refine hK _ _ ⟨hC.trans hkg, (hkg.block _ hI.blk.lt (fun h => HON.out h)).trans hI.blk, (fun h8 => by unfold updB at h8; rw [if_pos rfl] at h8; cases h8), fun i2 hi2 => ?_⟩
            have hb8 : updB ls 7 7 = true := by unfold updB; rw [if_pos rfl]
            rw [hb8]
            match i2, hi2 with
            | 0, hi => exact hI.all 0 hi
            | 1, hi => exact hI.all 1 hi
            | 2, hi => exact hI.all 2 hi
            | 3, hi => exact hI.all 3 hi
            | 4, hi => exact hI.all 4 hi
            | 5, hi => exact hI.all 5 hi
            | 8, hi => exact hI.all 8 hi
            | 9, hi => exact hI.all 9 hi
            | 6, _ => exact .inl rfl
            | 7, _ => exact ⟨A4, c4, rfl, hO4, hat4.imp id (fun e => by have := hC.size; omega)⟩
            | _ + 10, _ => trivial
          · have q0 : vs 0 = _ := hI.all 0 (by simp [hw])
            simp only [q0] at hK ⊢
            go_simp
            exact hK _ _ (hI.step AS.out (Below.refl _ _) (by decide) rfl)
          · have q8 : vs 8 = _ := hI.all 8 (by simp [hw])
            simp only [q8] at hK ⊢
            go_simp
            exact hK _ _ (hI.step AS.out (Below.refl _ _) (by decide) rfl)
        case fin =>
          intro ls vs W hI hl hU
          clear hU
          have hC := hI.kp
          have e9 : vs 9 = .pointer (some ⟨gh, 68, none⟩) := hI.all 9 (hl 9 (by decide))
          have e7 := hI.all 7 (hl 7 (by decide))
          simp only [fillA, Act.put, List.setIfInBounds_toArray, List.set_cons_zero, List.set_cons_succ, Nat.zero_add, Nat.reduceAdd, e9]
          obtain ⟨A7, c7, h7, hO7, hat7⟩ := e7
          rw [h7] at hO7 ⊢
          generalize vs 0 = u0, vs 1 = u1, vs 2 = u2, vs 3 = u3, vs 4 = u4, vs 5 = u5, vs 6 = u6
          generalize vs 8 = u8
          have hD := hI.blk
          clear h7 hI hl AS e9
          have z68 : W.cell? ⟨gh, 68, none⟩ = some v := (hD.cell 68).trans shopC_68
          have fz := hD.frozen 68
          have hlz := hD.lt
          obtain ⟨U1, hU1⟩ : ∃ U, W.setCell ⟨gh, 68, none⟩ (.slice (some ⟨A7, 0, none⟩) (ks.length + 1) c7) = U := ⟨_, rfl⟩
          have D4 : Blk U1 gh 90 (shopC klo khi Ad n ca C q cc (sizeF s l (ks ++ [x])) (.slice (some ⟨A7, 0, none⟩) (ks.length + 1) c7)) := by rw [← hU1, ← shopC_set (v := v)]; exact hD.set_ 68 _
          have hA7 : A7 ≠ gh := fun e => hat7.elim (fun h => HON.out (e ▸ h)) (fun h => by omega)
          have hO8 : OwnL IntR 1 (fun _ => False) U1 V1.heap.size 3 (.slice (some ⟨A7, 0, none⟩) (ks.length + 1) c7) (ks ++ [x]) := by
            rw [← hU1]
            exact hO7.keep IntR.good (Keeps.setCell _ _ _ (fun hh => by
              rcases hh with hh | hh
              · exact hh
              · exact hA7 (by simpa [Value.ownBlock] using hh)))
          have kU : Kept O A2 U1 := by
            rw [← hU1]
            have k5 : Kept (fun k => k = gh) A2 A5 := (HK1.out.mono (fun _ _ h => h.elim)).trans kA5
            exact ((k5.mono (fun k _ h => (hOi k).2 (.inl h))).trans (hC.mono (fun k _ h => (hOi k).2 (.inr h)))).trans (Kept.setCell _ _ _ ((hOi gh).2 (.inl rfl)))
          have hs25 : A2.heap.size ≤ A5.heap.size := by omega
          have HU := Lib.hid (⟨D4, hO8, kU⟩ : _ ∧ _ ∧ _)
          clear D4 hO8 kU hO7 hD
          go_simp
          gi_wp2_with fail
          refine ⟨HU.out.2.2, fun k => k = gh ∨ (Value.slice (some ⟨A7, 0, none⟩) (ks.length + 1) c7).ownBlock = some k, fun k hk => ?_, ⟨_, ?_, ?_, fun k => Iff.rfl, ?_, fun e => ?_⟩⟩
          · rcases hk with hk | hk
            · exact .inl ((hOi k).2 (.inl hk))
            · have e : A7 = k := by simpa [Value.ownBlock] using hk
              subst e
              rcases hat7 with h | h
              · exact .inl ((hOi _).2 (.inr h))
              · refine .inr ⟨by omega, ?_⟩
                obtain ⟨_, cells, ho, _⟩ := HU.out.2.1
                have := (ownK_blk HU.out.2.1 (k := A7) rfl)
                exact this.elim fun cur hc => (Blk.lt hc)
          · rw [HKN.out]; exact HU.out.1
          · rw [HKN.out]; exact HU.out.2.1
          · simpa [Value.ownBlock] using hA7
          · rw [HKN.out] at e; simp at e
    case done =>
      rintro O W' D ⟨v, hS, hO, hOi, hOn, hOz⟩ hOs hK hD hnD hDb
      have hkn : knownK s l (rangeZ klo khi).length = known7 s l := by rw [knownK, ← h1, ← h2, List.take_length]; rfl
      rw [hkn] at hS hO hOz
      have hy : Blk W' (gh + 1) 83 #[.pointer (some ⟨gh, 0, none⟩)] := (hK.block _ p2.lt (by omega)).trans p2
      have y0 := hy.cell 0
      have yl := hy.lt
      have hDg : D ≠ gh := fun e => hnD ((hOi D).2 (.inl e))
      have hDo : v.ownBlock ≠ some D := fun e => hnD ((hOi D).2 (.inr e))
      have hDV : V1.heap.size ≤ D := hD
      clear hkn hy
      gi_wp2_with fail
      clear y0 yl
      simp only [Exit.noGoto]
      refine ⟨by simp, .inl ⟨_, _, rfl, run_takeDeferred hDb, ?_⟩⟩
      have kD : Kept (fun k => k = D) W' (W'.putObj D (.deferred none)) := Kept.putObj _ _ _ rfl
      have hbW : Below W.heap.size W (W'.putObj D (.deferred none)) := KW (hK.trans (kD.mono fun k _ h => .inr (h ▸ hDV))) (fun k h => by omega)
      have hO2 : OwnL IntR 1 (fun _ => False) (W'.putObj D (.deferred none)) V1.heap.size 3 v (known7 s l) := hO.keep IntR.good (kD.keeps (fun k hk e => by
        rcases hk with hk | hk
        · exact hk
        · exact hDo (by rw [← e]; exact hk)))
      have hS2 : Blk (W'.putObj D (.deferred none)) gh 90 (shopC klo khi Ad n ca C q cc (sizeF s l (known7 s l)) v) := (kD.block _ hS.lt (fun e => hDg e.symm)).trans hS
      have hbw : Below w.heap.size w (W'.putObj D (.deferred none)) := HBW.out.trans (hbW.mono HBW.out.size)
      refine ⟨_, results_tmp2 rfl _ _ _, hbw, some ⟨gh, 0, none⟩, by rw [HE.out]; rfl, fun _ => ⟨gh, rfl, ?_, hc.keep MouldR.good (Keeps.below hbW)⟩⟩
      have hkl7 : (known7 s l).length ≤ maxLen := by
        have : (known7 s l).length ≤ (shrinkL s).length := List.length_filter_le _ _
        have h3 : (shrinkL s).length = (khi - klo + 1).toNat := by unfold shrinkL; rw [List.length_map, List.length_range, h1, h2]
        have := HKL.out
        simp only [maxLen]; omega
      obtain ⟨_, cells, ho, _⟩ := id hO2
      rcases ho.2 with ⟨e1, e2⟩ | ⟨g9, cap, cur, e1, _⟩
      · have hnil : known7 s l = [] := List.eq_nil_of_length_eq_zero e2
        refine ⟨none, 0, ?_, ?_, fun _ => ⟨rfl, rfl⟩, fun h => absurd hnil h⟩
        · rw [e2, h1, h2, ← e1]; exact hS2
        · rw [hnil]; exact ⟨rfl, Nat.zero_le _, fun k x hx => by simp at hx⟩
      · refine ⟨some ⟨g9, 0, none⟩, cap, ?_, ?_, fun h => ?_, fun _ => ⟨g9, rfl⟩⟩
        · rw [h1, h2, ← e1]; exact hS2
        · exact hO2.slice IntR.good e1 hkl7 (fun _ h => h.elim) (fun _ _ _ => trivial)
        · rw [hOz h] at e1; injection e1 with e1; cases e1
    case stop => intro cd O W' D h; exact h.elim
  · have heb : ((seen7 s l).2 != 0) = true := by simpa using he
    gi_wp2_with fail
    simp only [Exit.noGoto]
    have hbw : Below w.heap.size w W1 := HBW.out.trans (b1.mono HBW.out.size)
    exact ⟨_, results_tmp2 rfl _ _ _, hbw, none, rfl, fun h => absurd h he⟩
end Go.Proofs.YtdbfincinjoppabGreatDoor
