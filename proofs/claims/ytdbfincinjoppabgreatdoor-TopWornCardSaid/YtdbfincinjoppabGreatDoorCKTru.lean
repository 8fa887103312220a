/- A part of the proof that TopWorn always answers true. -/
import Derived.Test.YtdbfincinjoppabGreatDoorCKSeen
set_option linter.all false
namespace Go.Proofs.YtdbfincinjoppabGreatDoor
open Go.RowKit Go.Shelf
attribute [local go_sem] Oper.semAt_some
theorem app15 (a b c d e : Value) : (#[a] ++ #[b, c, d, e] : Array Value) = #[a, b, c, d, e] := rfl
theorem eg_tru : Enters Tryz.prog 96 := enters_of Tryz.func96 (by kernel_rfl) rfl
def NumV (B : Nat) (lo hi : Int) (v : Value) (W : World) : Prop := ∃ g, B ≤ g ∧ v = .func (.func 95) #[] #[.pointer (some ⟨g, 0, none⟩)] ∧ Blk W g 23 #[.int .i64 lo, .int .i64 hi]
theorem NumV.bl {B : Nat} {lo hi : Int} {v : Value} {W V : World} (h : NumV B lo hi v W) (hb : Below W.heap.size W V) : NumV B lo hi v V := by
 obtain ⟨g, h0, h1, h2⟩ := h
 exact ⟨g, h0, h1, h2.bl hb⟩
structure Look7 (A : World) (gp gm gk gf gh m : Nat) (k : Int) (Ad : Option Addr) (n ca : Nat) (C : Option Addr) (q cc : Nat) (s : Shop) (l : List SeenC) : Prop where
 p : ∃ ty, Blk A gp ty #[.pointer (some ⟨gh, 0, none⟩)]
 m : ∃ ty, Blk A gm ty #[.int .i64 m]
 k : ∃ ty, Blk A gk ty #[.int .i64 k]
 f : ∃ ty, Blk A gf ty #[madeV]
 c2 : A.cell? ⟨gh, 2, none⟩ = some (.slice Ad n ca)
 c3 : A.cell? ⟨gh, 3, none⟩ = some (.slice C q cc)
 ms : Moulds (fun _ => True) A Ad n s.moulds
 ss : SeenCs (fun _ => True) A C q l
def tK (s : Shop) (l : List SeenC) (m : Nat) (k : Int) (n : Nat) : List (Int × Int) := ((List.range n).map (pairC (s.moulds.getD m dMould))).filter fun p => twoOk7 l m k p.1 p.2
theorem tK_yes {s : Shop} {l : List SeenC} {m : Nat} {k : Int} {n : Nat} {x w : Int} (hp : pairC (s.moulds.getD m dMould) n = (x, w)) (h : twoOk7 l m k x w = true) : tK s l m k (n + 1) = tK s l m k n ++ [(x, w)] := by
 unfold tK; rw [List.range_succ, List.map_append, List.filter_append, List.map_cons, List.map_nil, hp]; simp [h]
theorem tK_no {s : Shop} {l : List SeenC} {m : Nat} {k : Int} {n : Nat} {x w : Int} (hp : pairC (s.moulds.getD m dMould) n = (x, w)) (h : twoOk7 l m k x w = false) : tK s l m k (n + 1) = tK s l m k n := by
 unfold tK; rw [List.range_succ, List.map_append, List.filter_append, List.map_cons, List.map_nil, hp]; simp [h]
theorem tK_get {s : Shop} {l : List SeenC} {m : Nat} {k : Int} {n N : Nat} {x w : Int} (hn : n < N) (hp : pairC (s.moulds.getD m dMould) n = (x, w)) (h : twoOk7 l m k x w = true) : (tK s l m k N)[(tK s l m k n).length]? = some (x, w) := by
 obtain ⟨d, rfl⟩ : ∃ d, N = n + 1 + d := ⟨N - (n + 1), by omega⟩
 clear hn
 induction d with
 | zero => rw [Nat.add_zero, tK_yes hp h]; simp
 | succ d ih =>
  rw [show n + 1 + (d + 1) = (n + 1 + d) + 1 by omega]
  obtain ⟨x2, w2, hp2⟩ : ∃ x2 w2, pairC (s.moulds.getD m dMould) (n + 1 + d) = (x2, w2) := ⟨_, _, rfl⟩
  cases h2 : twoOk7 l m k x2 w2
  ·rw [tK_no hp2 h2]; exact ih
  rw [tK_yes hp2 h2, List.getElem?_append_left (of_getq ih)]; exact ih
theorem Moulds.at {S : Foot} {w : World} {b off n k : Nat} {xs : List Mould} {nm : List UInt8} {a z y u c : Int} (h : Moulds S w (some ⟨b, off, none⟩) n xs) (hx : xs[k]? = some ⟨nm, a, z, y, u, c⟩) :
  w.cell? ⟨b, off + k * 6 + 1, none⟩ = some (.int .i64 a) ∧ w.cell? ⟨b, off + k * 6 + 2, none⟩ = some (.int .i64 z) ∧ w.cell? ⟨b, off + k * 6 + 3, none⟩ = some (.int .i64 y) ∧ w.cell? ⟨b, off + k * 6 + 4, none⟩ = some (.int .i64 u) ∧ w.cell? ⟨b, off + k * 6 + 5, none⟩ = some (.int .i64 c) := by
 obtain ⟨b2, off2, vs, hA, _, hb, ⟨s, rfl, hn, hs⟩, hc⟩ := h.2.2 k _ hx
 injection hA with hA
 injection hA with e1 e2
 subst e1; subst e2
 exact ⟨by simpa using hc 1 _ rfl, by simpa using hc 2 _ rfl, by simpa using hc 3 _ rfl, by simpa using hc 4 _ rfl, by simpa using hc 5 _ rfl⟩
theorem two_any {m : Nat} {k x w : Int} (l : List SeenC) : (l.any fun yy => (yy.mould == (m : Int)) && outB yy.lo yy.hi (made7 x w yy.cast k)) = !twoOk7 l m k x w := by
 unfold twoOk7
 induction l with
 | nil => rfl
 | cons y l ih =>
  rw [List.any_cons, List.all_cons, ih, outB_inB]
  cases (y.mould == (m : Int)) <;> cases inB (made7 x w y.cast k) y.lo y.hi <;> simp
theorem app13 (a b c d : Value) : (#[a] ++ #[b, c, d] : Array Value) = #[a, b, c, d] := rfl
theorem ktruths_call (gh m : Nat) (k : Int) (w : World) : Calls Tryz.prog 64 #[.pointer (some ⟨gh, 0, none⟩), .int .i64 m, .int .i64 k, madeV] w fun e w' =>
  e = .returned (.func (.func 96) #[] #[.pointer (some ⟨w.heap.size, 0, none⟩), .pointer (some ⟨w.heap.size + 1, 0, none⟩), .pointer (some ⟨w.heap.size + 1 + 1, 0, none⟩), .pointer (some ⟨w.heap.size + 1 + 1 + 1, 0, none⟩)]) ∧
  w' = (((w.alloc (.cells #[.pointer (some ⟨gh, 0, none⟩)] 83)).alloc (.cells #[.int .i64 m] 3)).alloc (.cells #[.int .i64 k] 3)).alloc (.cells #[madeV] 134) := by
 go_enter Tryz.func64, Tryz.ntmps64
 go_wp2
 go_ret
 exact ⟨rfl, rfl⟩
set_option maxRecDepth 100000 in
set_option maxHeartbeats 8000000 in
theorem truths7_seq {Ad C : Option Addr} {n ca q cc : Nat} {s : Shop} {l : List SeenC} (gp gm gk gf gh m : Nat) (k : Int) (hok : OkS s) (hm : m < s.moulds.length) (hk : 0 ≤ k ∧ k ≤ 100)
  (hseen : ∀ (j : Nat) (y : SeenC), l[j]? = some y → y.mould = (m : Int) → 0 ≤ y.cast ∧ y.cast ≤ 8) :
  SeqL Tryz.prog 96 #[.pointer (some ⟨gp, 0, none⟩), .pointer (some ⟨gm, 0, none⟩), .pointer (some ⟨gk, 0, none⟩), .pointer (some ⟨gf, 0, none⟩)] (fun p : Int × Int => #[.agg #[.int .i64 p.1, .int .i64 p.2, .int .i64 k]]) (twosC s l m k) (fun A => Look7 A gp gm gk gf gh m k Ad n ca C q cc s l) := by
 intro lp O0 J Jx U hO0 hInv hJ hJx hR h0
 have hI0 := hInv U (Kept.refl _ _)
 have Hn := Lib.hid hI0.ms.len
 have hmn : m < n := by have := hI0.ms.len; omega
 obtain ⟨bM, oM, sn, a, z, y, u, c5, rfl, hbb, hc0, hc1, hc2, hc3, hc4, hc5, hs, Hx⟩ := Moulds.get hI0.ms hmn
 obtain ⟨⟨g1, g2, g3, g4⟩, ⟨g5, g6, g7, g8⟩, _⟩ := mouldE_zero Hx.out (hok.mould hm)
 dsimp only at g1 g2 g3 g4 g5 g6 g7 g8
 obtain ⟨wN, hwN⟩ : ∃ wN : Nat, u - y + 1 = wN := ⟨(u - y + 1).toNat, by omega⟩
 obtain ⟨sN, hsN⟩ : ∃ sN : Nat, z - a + 1 = sN := ⟨(z - a + 1).toNat, by omega⟩
 have HPC : Hid (∀ i j : Nat, j < wN → pairC (s.moulds.getD m dMould) (i * wN + j) = (a + (i : Int), y + (j : Int))) := fun i j hj => by
  have hg : wearN (s.moulds.getD m dMould) = wN := by rw [getD_of Hx.out]; unfold wearN; dsimp only; omega
  have e1 : (i * wN + j) / wN = i := by rw [Nat.mul_comm, Nat.mul_add_div (by omega), Nat.div_eq_of_lt hj, Nat.add_zero]
  have e2 : (i * wN + j) % wN = j := by rw [Nat.mul_comm, Nat.mul_add_mod, Nat.mod_eq_of_lt hj]
  unfold pairC
  rw [hg, e1, e2, getD_of Hx.out]
 have HTW : Hid (twosC s l m k = tK s l m k (sN * wN)) := by
  have h1 : wearN (s.moulds.getD m dMould) = wN := by rw [getD_of Hx.out]; unfold wearN; dsimp only; omega
  have h2 : sizeN (s.moulds.getD m dMould) = sN := by rw [getD_of Hx.out]; unfold sizeN; dsimp only; omega
  rw [Hid, twosC, h1, h2, tK]
 have hLz : (rangeZ a z).length = sN := by rw [rangeZ_len]; omega
 have hLy : (rangeZ y u).length = wN := by rw [rangeZ_len]; omega
 have HLZ := Lib.hid hLz
 have HLY := Lib.hid hLy
 have HSE := Lib.hid hseen
 have HR := Lib.hid hR
 have HGB : Hid ((1 ≤ a ∧ a ≤ z ∧ z ≤ 20000) ∧ 0 ≤ y ∧ y ≤ u ∧ u ≤ 20) := ⟨⟨g1, g2, g4⟩, g5, g6, g8⟩
 have HWN := Lib.hid hwN
 have HSN := Lib.hid hsN
 clear hLz hLy hseen hR hwN hsN g1 g2 g3 g4 g5 g6 g7 g8 hs
 obtain ⟨V0, hV0⟩ : ∃ V, U.alloc (.cells #[.func (.yield lp) #[] #[]] 166) = V := ⟨_, rfl⟩
 obtain ⟨gy, hgy⟩ : ∃ g, U.heap.size = g := ⟨_, rfl⟩
 have Y0 : Blk V0 gy 166 #[.func (.yield lp) #[] #[]] := by rw [← hV0, ← hgy]; exact Blk.new _ _ _ rfl
 have b0 : Below U.heap.size U V0 := by rw [← hV0]; exact bl_alloc (Below.refl _ _) _ (Nat.le_refl _)
 have HY0 := Lib.hid Y0
 have hs0 : V0.heap.size = gy + 1 := by rw [← hV0, ← hgy]; simp
 obtain ⟨tp, hp⟩ := hI0.p
 obtain ⟨tm, hmb⟩ := hI0.m
 have hgpl := hp.lt
 have hgml := hmb.lt
 have hgkl := hI0.k.elim fun _ h => h.lt
 have hgfl := hI0.f.elim fun _ h => h.lt
 have kk : Hid (∀ V, Below V0.heap.size V0 V → V.cell? ⟨gp, 0, none⟩ = some (.pointer (some ⟨gh, 0, none⟩)) ∧ V.cell? ⟨gm, 0, none⟩ = some (.int .i64 m) ∧ V.cell? ⟨gh, 2, none⟩ = some (.slice (some ⟨bM, oM, none⟩) n ca) ∧ V.cell? ⟨bM, oM + m * 6 + 1, none⟩ = some (.int .i64 a) ∧ V.cell? ⟨bM, oM + m * 6 + 2, none⟩ = some (.int .i64 z)) :=
  fun V hb => ⟨getc (bl_call b0 hb (Nat.le_refl _)) (hp.cell 0), getc (bl_call b0 hb (Nat.le_refl _)) (hmb.cell 0), getc (bl_call b0 hb (Nat.le_refl _)) hI0.c2, getc (bl_call b0 hb (Nat.le_refl _)) hc1, getc (bl_call b0 hb (Nat.le_refl _)) hc2⟩
 have hsz := HSN.out
 have hmi : (m : Int) < n := by omega
 have hO0y : ∀ k, O0 k → k < gy := fun k hk => by have := hO0 k hk; omega
 clear hI0 hp hmb hc0 hc1 hc2 hc3 hc4 hc5 hbb Y0 hsz
 rw [app15]
 refine (callsIn_wide (n := 1)).1 ?_
 refine callsIn_of_wp_marks Tryz.func96 rfl trivial ?_ rfl
 simp only [Tryz.ntmps96, List.size_toArray, List.length_cons, List.length_nil, Nat.reduceAdd, Nat.reduceSub, Array.replicate_succ, Array.replicate_zero, List.push_toArray, List.append_toArray, List.nil_append, List.cons_append]
 gi_wp2_with fail
 refine wpIn_region_list1 (F := Fence.wide) (r := none) rfl (fun W => Below V0.heap.size V0 W) (fun w w' => Below w.heap.size w w')
  [isV (.pointer (some ⟨gh, 0, none⟩)), isV (.pointer (some ⟨gh, 0, none⟩)), isV (.pointer (some ⟨gh, 0, none⟩)), isV (.pointer (some ⟨gh, 2, none⟩)), isV (.slice (some ⟨bM, oM, none⟩) n ca), isV (.int .i64 m), isV (.pointer (some ⟨bM, oM + m * 6, none⟩)), isV (.pointer (some ⟨bM, oM + m * 6 + 1, none⟩)), isV (.agg #[.int .i64 a, .int .i64 z]), NumV V0.heap.size a z]
  (by kernel_rfl) (by kernel_rfl) (by kernel_rfl) (by simp) (by simp) (Below.refl _ _).drew ?stab ?step ?fin
 case stab => exact (StabL.is (StabL.is (StabL.is (StabL.is (StabL.is (StabL.is (StabL.is (StabL.is (StabL.is (StabL.cons (fun v W V hC hX hq => NumV.bl hq hX) StabL.nil))))))))))
 case step =>
  refine StepsL.is ?_ (StepsL.is ?_ (StepsL.is ?_ (StepsL.is ?_ (StepsL.is ?_ (StepsL.is ?_ (StepsL.is ?_ (StepsL.is ?_ (StepsL.is ?_ (StepsL.cons ?_ StepsL.nil)))))))))
  all_goals
   intro vs W K hC hD hU hK
   simp only [fillA, Act.put, List.setIfInBounds_toArray, List.set_cons_zero, List.set_cons_succ, Nat.zero_add, Nat.reduceAdd] at hK ⊢
   simp [waits, Region.binds] at hD
   try simp only [envOf, List.getD_cons_succ, List.getD_cons_zero, isV] at hD
   try simp only [hD] at hK ⊢
  ·obtain ⟨x0, x1, x2, x3, x4⟩ := kk.out W hC
   go_simp; exact hK _ hC (Below.refl _ _)
  ·go_simp; exact hK _ hC (Below.refl _ _)
  ·go_simp; exact hK _ hC (Below.refl _ _)
  ·go_simp; exact hK _ hC (Below.refl _ _)
  ·obtain ⟨x0, x1, x2, x3, x4⟩ := kk.out W hC
   go_simp; exact hK _ hC (Below.refl _ _)
  ·obtain ⟨x0, x1, x2, x3, x4⟩ := kk.out W hC
   go_simp; exact hK _ hC (Below.refl _ _)
  ·go_simp; exact hK _ hC (Below.refl _ _)
  ·go_simp; exact hK _ hC (Below.refl _ _)
  ·obtain ⟨x0, x1, x2, x3, x4⟩ := kk.out W hC
   go_simp; exact hK _ hC (Below.refl _ _)
  go_simp
  refine (knumbers_call a z W).mono ?_
  rintro e w' ⟨rfl, rfl⟩
  exact hK _ _ (bl_alloc hC _ (Nat.le_refl _)) (bl_alloc (Below.refl _ _) _ (Nat.le_refl _)) ⟨_, hC.size, rfl, Blk.new _ _ _ rfl⟩
 case fin =>
  intro vs V1 hC hE hU
  have e9 := hE 9 (by simp)
  simp only [envOf, List.getD_cons_succ, List.getD_cons_zero] at e9
  obtain ⟨g1, hg1, e9, hB1⟩ := e9
  simp only [fillA, Act.put, List.setIfInBounds_toArray, List.set_cons_zero, List.set_cons_succ, Nat.zero_add, Nat.reduceAdd, e9]
  generalize vs 0 = u0, vs 1 = u1, vs 2 = u2, vs 3 = u3, vs 4 = u4, vs 5 = u5, vs 6 = u6, vs 7 = u7, vs 8 = u8
  clear hE hU e9
  go_simp
  gi_wp2_with fail
  have bW : Below U.heap.size U V1 := bl_call b0 hC (Nat.le_refl _)
  have hUk : Kept (fun _ => False) U V1 := Kept.of_bl bW
  have hUs := bW.size
  have HB1 := Lib.hid hB1
  have hYW : Blk V1 gy 166 #[.func (.yield lp) #[] #[]] := HY0.out.bl hC
  have HYW := Lib.hid hYW
  have hyl := hYW.lt
  have hbig : ∀ {A : World}, Kept (fun k => O0 k ∨ V1.heap.size ≤ k) V1 A → Kept (fun k => O0 k ∨ U.heap.size ≤ k) U A := fun hK => hUk.any.seq hK (fun i hi h => h.imp id (fun h => by omega))
  have hold : ∀ {A : World} {g : Nat} {t : TypeId} {cs : Array Value}, Blk V1 g t cs → gy ≤ g → Kept (fun k => O0 k ∨ V1.heap.size ≤ k) V1 A → Blk A g t cs := fun hB hg hK =>
   (hK.block _ hB.lt (fun h => h.elim (fun h => by have := hO0y _ h; omega) (fun h => by have := hB.lt; omega))).trans hB
  clear hYW hB1 kk
  refine rangeFunc_outer (m := 1) (gf := 95) (lb := #[.pointer (some ⟨g1, 0, none⟩)]) rfl eg_num (numbers_seq (lo := a) (hi := z) g1 (by have := HGB.out; omega)) (fun _ => rfl) O0
   (fun i O A => J (tK s l m k (i * wN)).length O A) (fun cd O A => cd = .ret ∧ Jx O A) (fun k h => by have := hO0y k h; omega)
   (fun A hK => ⟨_, hold HB1.out (by omega) hK⟩) (fun i O A B => hJ _ O A B) (fun cd O A B h h1 h2 => ⟨h.1, hJx O A B h.2 h1 h2⟩)
   ?h0 ?round ?done ?stop
  case h0 =>
   rw [Nat.zero_mul]
   exact hJ 0 _ _ _ h0 hO0 hUk.any
  case round =>
   intro l' i x O A hx hj hlt hsub hK hnl hlA hWl
   have hi : i < sN := by have := of_getq hx; rw [HLZ.out] at this; exact this
   have hxe : x = a + (i : Int) := by rw [rangeZ_get (by have := HSN.out; omega)] at hx; injection hx with hx; exact hx.symm
   have hxb : 1 ≤ x ∧ x ≤ 20000 := by have := HSN.out; have := HGB.out; omega
   have HXE := Lib.hid hxe
   clear hx hxe
   rw [fold1]
   simp only [List.setIfInBounds_toArray, List.set_cons_zero, List.set_cons_succ]
   gi_wp2
   refine ⟨Kept.alloc _ _ _, fun A2 hK2 hs2 hr2 => ?_⟩
   simp only [World.size_alloc] at hs2
   have hs2a : A.heap.size + 1 ≤ A2.heap.size := by omega
   have hs2b : A2.heap.size ≤ A.heap.size + 1 := by omega
   clear hs2
   have kA : Kept (fun k => k = l') A A2 := (Kept.alloc (fun k => k = l') A (.cells #[.int .i64 x] 3)).trans hK2
   have hx2 : Blk A2 A.heap.size 3 #[.int .i64 x] := (hK2.block A.heap.size (by simp) (by omega)).trans (Blk.new _ _ _ rfl)
   have hK3 : Kept (fun k => O0 k ∨ V1.heap.size ≤ k) V1 A2 := hK.seq kA (fun k _ h => .inr (h ▸ hWl))
   have hI2 := hInv A2 (hbig hK3)
   have hj2 : J (tK s l m k (i * wN)).length O A2 := hJ _ _ _ _ hj hlt (kA.mono fun k _ h hO => hnl (h ▸ hO))
   have hlt2 : ∀ k, O k → k < A2.heap.size := fun k h => by have := hlt k h; omega
   obtain ⟨tp2, hp2⟩ := hI2.p
   obtain ⟨tm2, hm2⟩ := hI2.m
   have hat := hI2.ms.at Hx.out
   have hgp2 := hp2.lt
   have hgm2 := hm2.lt
   have kk2 : Hid (∀ V, Below A2.heap.size A2 V → V.cell? ⟨gp, 0, none⟩ = some (.pointer (some ⟨gh, 0, none⟩)) ∧ V.cell? ⟨gm, 0, none⟩ = some (.int .i64 m) ∧ V.cell? ⟨gh, 2, none⟩ = some (.slice (some ⟨bM, oM, none⟩) n ca) ∧ V.cell? ⟨bM, oM + m * 6 + 3, none⟩ = some (.int .i64 y) ∧ V.cell? ⟨bM, oM + m * 6 + 4, none⟩ = some (.int .i64 u)) :=
    fun V hb => ⟨getc hb (hp2.cell 0), getc hb (hm2.cell 0), getc hb hI2.c2, getc hb hat.2.2.1, getc hb hat.2.2.2.1⟩
   have HK3 := Lib.hid hK3
   have HJ2 := Lib.hid hj2
   have HR2 := Lib.hid hr2
   have HX2 := Lib.hid hx2
   clear hK2 kA hK3 hI2 hj2 hr2 hx2 hp2 hm2 hat hj hK
   gi_wp2_with fail
   refine wpIn_region_list1 (F := Fence.wide.inRound l') (r := some l') rfl (fun W => Below A2.heap.size A2 W) (fun w w' => Below w.heap.size w w')
    [isV (.pointer (some ⟨gh, 0, none⟩)), isV (.pointer (some ⟨gh, 0, none⟩)), isV (.pointer (some ⟨gh, 0, none⟩)), isV (.pointer (some ⟨gh, 2, none⟩)), isV (.slice (some ⟨bM, oM, none⟩) n ca), isV (.int .i64 m), isV (.pointer (some ⟨bM, oM + m * 6, none⟩)), isV (.pointer (some ⟨bM, oM + m * 6 + 3, none⟩)), isV (.agg #[.int .i64 y, .int .i64 u]), NumV A2.heap.size y u]
    (by kernel_rfl) (by kernel_rfl) (by kernel_rfl) (by simp) (by simp) (Below.refl _ _).drew ?stab ?step ?fin
   case stab => exact (StabL.is (StabL.is (StabL.is (StabL.is (StabL.is (StabL.is (StabL.is (StabL.is (StabL.is (StabL.cons (fun v W V hC hX hq => NumV.bl hq hX) StabL.nil))))))))))
   case step =>
    refine StepsL.is ?_ (StepsL.is ?_ (StepsL.is ?_ (StepsL.is ?_ (StepsL.is ?_ (StepsL.is ?_ (StepsL.is ?_ (StepsL.is ?_ (StepsL.is ?_ (StepsL.cons ?_ StepsL.nil)))))))))
    all_goals
     intro vs W K hC hD hU hK
     simp only [fillA, Act.put, List.setIfInBounds_toArray, List.set_cons_zero, List.set_cons_succ, Nat.zero_add, Nat.reduceAdd] at hK ⊢
     simp [waits, Region.binds] at hD
     try simp only [envOf, List.getD_cons_succ, List.getD_cons_zero, isV] at hD
     try simp only [hD] at hK ⊢
    ·obtain ⟨x0, x1, x2, x3, x4⟩ := kk2.out W hC
     go_simp; exact hK _ hC (Below.refl _ _)
    ·go_simp; exact hK _ hC (Below.refl _ _)
    ·go_simp; exact hK _ hC (Below.refl _ _)
    ·go_simp; exact hK _ hC (Below.refl _ _)
    ·obtain ⟨x0, x1, x2, x3, x4⟩ := kk2.out W hC
     go_simp; exact hK _ hC (Below.refl _ _)
    ·obtain ⟨x0, x1, x2, x3, x4⟩ := kk2.out W hC
     go_simp; exact hK _ hC (Below.refl _ _)
    ·go_simp; exact hK _ hC (Below.refl _ _)
    ·go_simp; exact hK _ hC (Below.refl _ _)
    ·obtain ⟨x0, x1, x2, x3, x4⟩ := kk2.out W hC
     go_simp; exact hK _ hC (Below.refl _ _)
    go_simp
    refine (knumbers_call y u W).mono ?_
    rintro e w' ⟨rfl, rfl⟩
    exact hK _ _ (bl_alloc hC _ (Nat.le_refl _)) (bl_alloc (Below.refl _ _) _ (Nat.le_refl _)) ⟨_, hC.size, rfl, Blk.new _ _ _ rfl⟩
   case fin =>
    intro vs A3 hC3 hE hU
    have e9 := hE 9 (by simp)
    simp only [envOf, List.getD_cons_succ, List.getD_cons_zero] at e9
    obtain ⟨g2, hg2, e9, hB2⟩ := e9
    simp only [fillA, Act.put, List.setIfInBounds_toArray, List.set_cons_zero, List.set_cons_succ, Nat.zero_add, Nat.reduceAdd, e9]
    generalize vs 0 = u0, vs 1 = u1, vs 2 = u2, vs 3 = u3, vs 4 = u4, vs 5 = u5, vs 6 = u6, vs 7 = u7, vs 8 = u8
    clear hE hU e9
    go_simp
    gi_wp2_with fail
    have hk3 : Kept (fun _ => False) A2 A3 := Kept.of_bl hC3
    have hs3 := hC3.size
    have HB2 := Lib.hid hB2
    have hold3 : ∀ {B : World} {g : Nat} {t : TypeId} {cs : Array Value}, Blk A3 g t cs → ¬ O g → Kept (fun k => O k ∨ A3.heap.size ≤ k) A3 B → Blk B g t cs := fun hB hg hK =>
     (hK.block _ hB.lt (fun h => h.elim hg (fun h => by have := hB.lt; omega))).trans hB
    have hbig3 : ∀ {B : World}, Kept (fun k => O k ∨ A3.heap.size ≤ k) A3 B → Kept O A2 B := by
     intro B hK
     refine (Kept.seq (M := fun k => O k ∨ A3.heap.size ≤ k) hk3.any hK (fun _ _ h => h)).mono ?_
     intro k hk h
     rcases h with h | h
     ·exact h
     omega
    have hNB : ∀ {B : World}, Kept O A2 B → Kept (fun k => O0 k ∨ V1.heap.size ≤ k) V1 B := fun hK => HK3.out.seq hK (fun k _ h => hsub k h)
    clear hB2 kk2
    refine rangeFunc_inner (l0 := l') (m := 1) (gf := 95) (lb := #[.pointer (some ⟨g2, 0, none⟩)]) ?rec rfl eg_num (numbers_seq (lo := y) (hi := u) g2 (by have := HGB.out; omega)) (fun _ => rfl) O
     (fun j O' B => J (tK s l m k (i * wN + j)).length O' B) (fun cd O' B => cd = .ret ∧ Jx O' B) (fun k h => by have := hlt2 k h; omega)
     (fun B hK => ⟨_, hold3 HB2.out (fun h => by have := hlt2 _ h; omega) hK⟩)
     (fun j O' A' B h h1 h2 => hJ _ O' A' B h h1 h2) (fun cd O' A' B h h1 h2 => ⟨h.1, hJx O' A' B h.2 h1 h2⟩)
     (hJ _ _ _ _ HJ2.out hlt2 hk3.any) ?round2 ?done2 ?stop2
    case rec => exact HR2.out.imp fun r0 h => (hk3.block l' (by omega) (fun h => h)).trans h
    case round2 =>
     intro l2 j w O2 B hw hj2 hlt3 hsub3 hK4 hnl3 hlB hWl3
     have hjw : j < wN := by have := of_getq hw; rw [HLY.out] at this; exact this
     have hwe : w = y + (j : Int) := by rw [rangeZ_get (by have := HWN.out; omega)] at hw; injection hw with hw; exact hw.symm
     have hwb : 0 ≤ w ∧ w ≤ 20 := by have := HWN.out; have := HGB.out; omega
     have HPX : Hid (pairC (s.moulds.getD m dMould) (i * wN + j) = (x, w)) := by rw [Hid, HPC.out i j hjw, ← HXE.out, ← hwe]
     have HIX : Hid (i * wN + j < sN * wN) := by
      have h1 : i * wN + j < (i + 1) * wN := by rw [Nat.add_mul, Nat.one_mul]; omega
      exact Nat.lt_of_lt_of_le h1 (Nat.mul_le_mul_right _ hi)
     clear hw hwe
     rw [fold1]
     simp only [List.setIfInBounds_toArray, List.set_cons_zero, List.set_cons_succ]
     gi_wp2
     refine ⟨Kept.refl _ _, fun B2 hK5 hs5 hr5 => ?_⟩
     have hKB2 : Kept O A2 B2 := (hbig3 hK4).seq hK5 (fun k hk h => by omega)
     have hj3 : J (tK s l m k (i * wN + j)).length O2 B2 := hJ _ _ _ _ hj2 hlt3 (hK5.mono fun k _ h hO => hnl3 (h ▸ hO))
     have hI6 := hInv B2 (hbig (hNB hKB2))
     have hx6 : Blk B2 A.heap.size 3 #[.int .i64 x] := (hKB2.block _ HX2.out.lt (fun h => by have := hlt _ h; omega)).trans HX2.out
     obtain ⟨tp6, hp6⟩ := hI6.p
     obtain ⟨tm6, hm6⟩ := hI6.m
     obtain ⟨tk6, hk6⟩ := hI6.k
     obtain ⟨tf6, hf6⟩ := hI6.f
     obtain ⟨B3, hB3⟩ : ∃ V, B2.alloc (.cells #[.int .i64 x, .int .i64 w, .int .i64 k] 137) = V := ⟨_, rfl⟩
     obtain ⟨gt, hgt⟩ : ∃ g, B2.heap.size = g := ⟨_, rfl⟩
     have bB3 : Below B2.heap.size B2 B3 := by rw [← hB3]; exact bl_alloc (Below.refl _ _) _ (Nat.le_refl _)
     have hT3 : Blk B3 gt 137 #[.int .i64 x, .int .i64 w, .int .i64 k] := by rw [← hB3, ← hgt]; exact Blk.new _ _ _ rfl
     have hss : SeenCs (fun _ => True) B3 C q l := hI6.ss.keep SeenCR.good (Keeps.below bB3)
     have HY6 : Hid (Blk B2 gy 166 #[.func (.yield lp) #[] #[]]) := hold HYW.out (Nat.le_refl _) (hNB hKB2)
     have z1 := hx6.cell 0
     have z2 := hk6.cell 0
     have z3 := getc bB3 (hp6.cell 0)
     have z4 := getc bB3 hI6.c3
     have z5 := getc bB3 (hm6.cell 0)
     have z6 := getc bB3 (hf6.cell 0)
     have lq1 := hx6.lt
     have lq2 := hk6.lt
     have HZ5 := Lib.hid z5
     have HZ6 := Lib.hid z6
     have HT3 := Lib.hid hT3
     have HSS := Lib.hid hss
     have HJ3 := Lib.hid hj3
     have HKB2 := Lib.hid hKB2
     have hs5a : B.heap.size ≤ B2.heap.size := by omega
     have hs5b : B2.heap.size ≤ B.heap.size := by omega
     clear hx6 hp6 hm6 hk6 hf6 hI6 hT3 hss hj3 hKB2 hj2 hK5 hK4 hr5 z5 z6 hs5
     gi_wp2_with fail
     clear z1 z2 z3 z4 lq1 lq2
     have hs7 := bB3.size
     refine ⟨trivial, ?_⟩
     refine (CallsIn.inRound l2 (callsIn_wide.2 (khasS_any (fun yy => (yy.mould == (m : Int)) && outB yy.lo yy.hi (made7 x w yy.cast k)) 98 #[.pointer (some ⟨gm, 0, none⟩), .pointer (some ⟨gf, 0, none⟩), .pointer (some ⟨gt, 0, none⟩)] eg_clo _ HSS.out (fun jj e1 e2 e3 e4 V hV hx => by
      rw [app13]
      exact kclo_any hxb hwb (HSE.out jj _ hx.out) hk V (getc hV HZ5.out) (getc hV HZ6.out) (getc hV (HT3.out.cell 0)) (getc hV (HT3.out.cell 1)) (getc hV (HT3.out.cell 2)))))).mono ?_
     rintro e B4 ⟨rfl, hb4⟩
     obtain ⟨pb, hpb⟩ : ∃ pb, (l.any fun yy => (yy.mould == (m : Int)) && outB yy.lo yy.hi (made7 x w yy.cast k)) = pb := ⟨_, rfl⟩
     rw [hpb]
     have h24 : Below B2.heap.size B2 B4 := bl_call bB3 hb4 (Nat.le_refl _)
     have k24 : Kept (fun _ => False) B2 B4 := Kept.of_bl h24
     have hs8 := h24.size
     have HNE : Hid (i * wN + (j + 1) = (i * wN + j) + 1) := rfl
     have hltB : ∀ k, O2 k → k < B2.heap.size := fun k h => by have := hlt3 k h; omega
     cases pb with
     | true =>
      have hno : twoOk7 l m k x w = false := by have := two_any (m := m) (k := k) (x := x) (w := w) l; rw [hpb] at this; simpa using this.symm
      have HN : Hid (tK s l m k (i * wN + (j + 1)) = tK s l m k (i * wN + j)) := by rw [Hid, HNE.out]; exact tK_no HPX.out hno
      have HJ4 : Hid (J (tK s l m k (i * wN + (j + 1))).length O2 B4) := by rw [Hid, HN.out]; exact hJ _ _ _ _ HJ3.out hltB k24.any
      have HK24 := Lib.hid k24
      clear hpb hno k24 hb4
      gi_wp2_with fail
      exact ⟨HK24.out.any, O2, fun k h => .inl h, HJ4.out⟩
     | false =>
      have hyes : twoOk7 l m k x w = true := by have := two_any (m := m) (k := k) (x := x) (w := w) l; rw [hpb] at this; simpa using this.symm
      have HYS : Hid (tK s l m k (i * wN + (j + 1)) = tK s l m k (i * wN + j) ++ [(x, w)]) := by rw [Hid, HNE.out]; exact tK_yes HPX.out hyes
      have hKA4 : Kept O A2 B4 := HKB2.out.trans k24.any
      obtain ⟨fn, tmps, assign, body, hy, hRd⟩ := HR.out _ (x, w) O2 B4 (by rw [HTW.out]; exact tK_get HIX.out HPX.out hyes) (hJ _ _ _ _ HJ3.out hltB k24.any) (fun k h => by have := hltB k h; omega) (fun k h => (hsub3 k h).elim (fun h => (hsub k h).imp id (fun h => by omega)) (fun h => .inr (by omega))) (hbig (hNB hKA4)) 0
      have HRD := Lib.hid hRd
      have HK24 := Lib.hid k24
      have z1 := (HY6.out.bl h24).cell 0
      have z2 := (HT3.out.bl hb4).cell 0
      have z3 := (HT3.out.bl hb4).cell 1
      have z4 := (HT3.out.bl hb4).cell 2
      clear hRd hpb hyes k24 hb4 hKA4
      gi_wp2_with fail
      refine RoundIn.mono (F := Fence.wide.inRound l2) HRD.out ?_
      clear HRD z1 z2 z3 z4
      rintro e B5 ⟨O3, hO3, hKB5, hcase⟩
      have HK5 : Hid (Kept O2 B2 B5) := HK24.out.any.trans hKB5
      have HO3 : Hid (∀ k, O3 k → O2 k ∨ (B.heap.size ≤ k ∧ k < B5.heap.size)) := fun k h => (hO3 k h).imp id (fun h => ⟨by omega, h.2⟩)
      clear hO3 hKB5
      rcases hcase with ⟨rfl, hj'⟩ | ⟨rfl, hx'⟩
      ·have HJ4 : Hid (J (tK s l m k (i * wN + (j + 1))).length O3 B5) := by rw [Hid, HYS.out]; simpa using hj'
       clear hj'
       gi_wp2
       exact ⟨HK5.out, O3, HO3.out, HJ4.out⟩
      gi_wp2
      exact ⟨HK5.out, O3, HO3.out, rfl, hx'⟩
    case done2 =>
     rintro O2 B hj3 hO2 hK4
     rw [HLY.out] at hj3
     gi_wp2
     exact ⟨hbig3 hK4, O2, fun k h => (hO2 k h).imp id (fun h => ⟨by omega, h.2⟩), by rw [Nat.add_mul, Nat.one_mul]; exact hj3⟩
    rintro cd O2 B ⟨rfl, hx⟩ hO2 hK4
    gi_wp2
    exact ⟨hbig3 hK4, O2, fun k h => (hO2 k h).imp id (fun h => ⟨by omega, h.2⟩), rfl, hx⟩
  case done =>
   rintro O W' D hj hO hK hD hnD hDb
   rw [HLZ.out, ← HTW.out] at hj
   gi_wp2
   refine ⟨by simp, .inl ⟨_, _, rfl, run_takeDeferred hDb, ?_⟩⟩
   refine ⟨_, results_none rfl _ _ _, ⟨_, rfl⟩, (hbig (hK.mono fun k _ h => h)).trans (Kept.putObj _ _ _ (.inr (by omega))), O, fun k h => (hO k h).imp id (fun h => ⟨by omega, by simpa using h.2⟩), .inl (hJ _ _ _ _ hj (fun k h => (hO k h).elim (fun h => by have := hO0 k h; have := hK.size; omega) (fun h => h.2)) (Kept.putObj _ _ _ hnD))⟩
  rintro cd O W' D ⟨rfl, hx⟩ hO hK hD hnD hDb
  gi_wp2
  refine ⟨by simp, .inl ⟨_, _, rfl, run_takeDeferred hDb, ?_⟩⟩
  refine ⟨_, results_none rfl _ _ _, ⟨_, rfl⟩, (hbig (hK.mono fun k _ h => h)).trans (Kept.putObj _ _ _ (.inr (by omega))), O, fun k h => (hO k h).imp id (fun h => ⟨by omega, by simpa using h.2⟩), .inr (hJx _ _ _ hx (fun k h => (hO k h).elim (fun h => by have := hO0 k h; have := hK.size; omega) (fun h => h.2)) (Kept.putObj _ _ _ hnD))⟩
end Go.Proofs.YtdbfincinjoppabGreatDoor
