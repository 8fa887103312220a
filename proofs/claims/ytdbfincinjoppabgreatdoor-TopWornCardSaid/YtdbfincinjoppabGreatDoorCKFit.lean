/- A part of the proof that TopWorn always answers true. -/
import Derived.Test.YtdbfincinjoppabGreatDoorCCard0
import Derived.Test.YtdbfincinjoppabGreatDoorCKEnt3
import Derived.Test.YtdbfincinjoppabGreatDoorCMaps2
set_option linter.all false
namespace Go.Proofs.YtdbfincinjoppabGreatDoor
open Go.RowKit Go.Shelf
theorem SBox.bl {w w' : World} {gh : Nat} {Ad : Option Addr} {n ca : Nat} {C : Option Addr} {q cc : Nat} {s : Shop} {l : List SeenC} (h : SBox w gh Ad n ca C q cc s l) (hb : Below w.heap.size w w') : SBox w' gh Ad n ca C q cc s l := by
 obtain ⟨⟨D, kc, h1, h2, h3, h4⟩, h5⟩ := h
 exact ⟨⟨D, kc, h1.bl hb, h2.keep IntR.good (Keeps.below hb), h3, h4⟩, h5.keep MouldR.good (Keeps.below hb)⟩
theorem eqnil_t (w : World) : (Go.binOp BinOp.eql 45 (.slice none 0 0) (.slice none 0 0)).run Tryz.prog w = .ok (.bool true) w := by
 unfold Go.binOp
 simp only [Sem.run_bind]
 unfold Op.equal
 rw [show Op.maxDepth = 9999 + 1 from rfl, Op.equalIn]
 simp only [Sem.run_bind, run_underlying Tryz.underlying45, Result.andThen_ok]
 go_simp
theorem eqnil_f (g n c : Nat) (w : World) : (Go.binOp BinOp.eql 45 (.slice (some ⟨g, 0, none⟩) n c) (.slice none 0 0)).run Tryz.prog w = .ok (.bool false) w := by
 unfold Go.binOp
 simp only [Sem.run_bind]
 unfold Op.equal
 rw [show Op.maxDepth = 9999 + 1 from rfl, Op.equalIn]
 simp only [Sem.run_bind, run_underlying Tryz.underlying45, Result.andThen_ok]
 go_simp
theorem blkK_ne {w : World} {g1 g2 : Nat} {t1 t2 : TypeId} {c1 c2 : Array Value} (h1 : Blk w g1 t1 c1) (h2 : Blk w g2 t2 c2) (h : t1 ≠ t2) : g1 ≠ g2 := fun e => by
 subst e
 unfold Blk at h1 h2
 rw [h1] at h2
 injection h2 with h2
 injection h2 with _ h2 _
 exact h h2
theorem sizesR_bad {s : Shop} {l : List SeenC} {m c : Int} (e : (seen7 s l).2 ≠ 0) : sizesR s l m c = ((0, 0), (seen7 s l).2) := by rw [sizesR, if_pos e]
theorem sizesR_n {s : Shop} {l : List SeenC} {m c : Int} (e : (seen7 s l).2 = 0) : sizesR s l m c = if (!there7 s m c) = true then ((0, 0), 4) else if known7 s l = [] then ((0, 0), 9) else (size7 s l m.toNat c, 0) := by rw [sizesR, if_neg (by simp [e])]
theorem there_in {s : Shop} {m c : Int} (h : there7 s m c = true) : ∃ (j i : Nat), m = j ∧ c = i ∧ j < s.moulds.length ∧ i < castsN s j := by
 unfold there7 at h
 simp only [Bool.and_eq_true, inB, decide_eq_true_eq] at h
 refine ⟨m.toNat, c.toNat, by omega, by omega, by omega, ?_⟩
 unfold castsN
 omega
theorem sizeF_at {s : Shop} {l : List SeenC} {j i : Nat} (hj : j < s.moulds.length) (hi : i < castsN s j) (h8 : i < 8) : sizeF s l (known7 s l) (j * 8 + i) = size7 s l j i := by
 have e1 : (j * 8 + i) / 8 = j := by omega
 have e2 : (j * 8 + i) % 8 = i := by omega
 unfold sizeF
 rw [e1, e2, if_pos ⟨hj, hi⟩]; rfl
set_option maxRecDepth 100000 in
set_option maxHeartbeats 2000000 in
theorem ksizes_any {Ad C : Option Addr} {n ca q cc : Nat} {s : Shop} {l : List SeenC} {klo khi : Int} (m c : Int) (w : World) (g : Moulds (fun _ => True) w Ad n s.moulds) (gs : SeenCs (fun _ => True) w C q l) (hca : n ≤ ca) (h1 : s.klo = klo) (h2 : s.khi = khi) :
  Calls Tryz.prog 7 #[.agg #[.int .i64 klo, .int .i64 khi, .slice Ad n ca], .slice C q cc, .agg #[.int .i64 m, .int .i64 c]] w fun e w' =>
   e = .returned (.tuple #[.agg #[.int .i64 (sizesR s l m c).1.1, .int .i64 (sizesR s l m c).1.2], .int .i64 (sizesR s l m c).2]) ∧ Below w.heap.size w w' := by
 obtain ⟨W, hW⟩ : ∃ W, ((w.alloc (.cells #[.int .i64 klo, .int .i64 khi, .slice Ad n ca] 26)).alloc (.cells #[.int .i64 m, .int .i64 c] 37)).alloc (.cells #[.int .i64 0, .int .i64 0] 23) = W := ⟨_, rfl⟩
 have X : Blk W w.heap.size 26 #[.int .i64 klo, .int .i64 khi, .slice Ad n ca] := by rw [← hW]; exact ((Blk.new _ _ _ rfl).alloc _).alloc _
 have X5 : Blk W (w.heap.size + 1) 37 #[.int .i64 m, .int .i64 c] := by rw [← hW]; exact (Blk.new _ _ _ (by simp)).alloc _
 have X6 : Blk W (w.heap.size + 1 + 1) 23 #[.int .i64 0, .int .i64 0] := by rw [← hW]; exact Blk.new _ _ _ (by simp)
 have hBW : Below w.heap.size w W := by rw [← hW]; exact bl_alloc (bl_alloc (bl_alloc (Below.refl _ _) _ (Nat.le_refl _)) _ (Nat.le_refl _)) _ (Nat.le_refl _)
 have hc := g.keep MouldR.good (Keeps.below hBW)
 have hs := gs.keep SeenCR.good (Keeps.below hBW)
 have hWs : w.heap.size ≤ W.heap.size := hBW.size
 have hW6 : w.heap.size + 1 + 1 < W.heap.size := X6.lt
 have HW := Lib.hid hW
 clear hW g gs
 go_enter Tryz.func7, Tryz.ntmps7
 go_wp2_with fail
 rw [HW.out]
 refine (kenter_any W hc hs hca h1 h2).mono ?_
 rintro e W1 ⟨b1, p, rfl, hbx⟩
 have B1 : Below w.heap.size w W1 := hBW.trans (b1.mono hWs)
 have X1 := X.bl b1
 have Y5 := X5.bl b1
 have Y1 := X6.bl b1
 clear X X5 X6
 by_cases he : (seen7 s l).2 = 0
 ·obtain ⟨gh, rfl, hbox⟩ := hbx he
  have HOK : Hid (OkS s) := okS_of (seen7_zero he).1
  have HR := Lib.hid (sizesR_n (m := m) (c := c) he)
  rw [he]
  clear he hbx
  have x0 := X1.cell 0
  have x1 := X1.cell 1
  have x2 := X1.cell 2
  have z0 := Y5.cell 0
  have z1 := Y5.cell 1
  go_wp2_with fail
  refine (knone_any HOK.out m c W1 hbox.ms).mono ?_
  rintro e W2 ⟨rfl, b2⟩
  have B2 : Below w.heap.size w W2 := bl_call B1 b2 (Nat.le_refl _)
  have Y2 := Y1.bl b2
  have Y52 := Y5.bl b2
  have hbox2 := hbox.bl b2
  clear x0 x1 x2 z0 z1 X1 Y1 Y5 hbox b2
  have y0 := Y2.cell 0
  have y1 := Y2.cell 1
  have fy0 := Y2.frozen 0
  have fy1 := Y2.frozen 1
  have hyl := Y2.lt
  cases ht : there7 s m c
  ·have HR2 : Hid (sizesR s l m c = ((0, 0), 4)) := by rw [Hid, HR.out, ht]; rfl
   go_wp2_with fail
   exact bodyPost_ret (ret_span rfl rfl rfl (Y2.set2 _ _).c0 (Y2.set2 _ _).c1) rfl ⟨by rw [HR2.out], bl_set (bl_set B2 (by dsimp only; omega) _) (by dsimp only; omega) _⟩
  obtain ⟨⟨D, kc, hB, hI, hz, hnz⟩, _⟩ := hbox2
  have s68 : W2.cell? ⟨gh, 68, none⟩ = some (.slice D (known7 s l).length kc) := (hB.cell 68).trans shopC_68
  have hghl := hB.lt
  by_cases hk : known7 s l = []
  ·have HR2 : Hid (sizesR s l m c = ((0, 0), 9)) := by rw [Hid, HR.out, ht, if_neg (by decide), if_pos hk]
   obtain ⟨rfl, rfl⟩ := hz hk
   rw [hk] at s68
   have heq := eqnil_t
   clear hz hnz hk hI hB
   go_wp2_with fail
   exact bodyPost_ret (ret_span rfl rfl rfl (Y2.set2 _ _).c0 (Y2.set2 _ _).c1) rfl ⟨by rw [HR2.out], bl_set (bl_set B2 (by dsimp only; omega) _) (by dsimp only; omega) _⟩
  obtain ⟨gk, rfl⟩ := hnz hk
  obtain ⟨j, i, rfl, rfl, hj, hi⟩ := there_in ht
  have hcb := castsN_bd HOK.out hj
  have hj4 : j < 4 := by have := HOK.out.nm; omega
  obtain ⟨v1, v2, hv⟩ : ∃ v1 v2, size7 s l j i = (v1, v2) := ⟨_, _, rfl⟩
  have HR2 : Hid (sizesR s l (j : Int) (i : Int) = ((v1, v2), 0)) := by rw [Hid, HR.out, ht, if_neg (by decide), if_neg hk, Int.toNat_natCast, hv]
  have hg6a : gh ≠ w.heap.size + 1 + 1 := blkK_ne hB Y2 (by decide)
  have heq := fun V => eqnil_f gk (known7 s l).length kc V
  have u0 := hB.cell (4 + (j * 8 + i) * 2)
  have u1 := hB.cell (4 + ((j * 8 + i) * 2 + 1))
  rw [shopC_in (cellsS_lo _ (by omega)), sizeF_at hj hi (by omega), hv] at u0
  rw [shopC_in (cellsS_hi _ (by omega)), sizeF_at hj hi (by omega), hv] at u1
  rw [show 4 + (j * 8 + i) * 2 = 4 + j * 16 + i * 2 by omega] at u0
  rw [show 4 + ((j * 8 + i) * 2 + 1) = 4 + j * 16 + i * 2 + 1 by omega] at u1
  dsimp only at u0 u1
  have hji : (j : Int) < 4 := by omega
  have hii : (i : Int) < 8 := by omega
  clear hz hnz hk hI hv HR hB hcb
  go_wp2_with fail
  have hg6 : gh ≠ w.heap.size + 1 + 1 := hg6a
  clear y0 y1 fy0 fy1 hyl s68
  refine wp_region_list (fun W => Kept (fun k => k = w.heap.size + 1 + 1) W2 W ∧ ∃ c0 c1 : Value, Blk W (w.heap.size + 1 + 1) 23 #[c0, c1]) (fun a b => Blk a (w.heap.size + 1 + 1) 23 #[.int .i64 v1, .int .i64 v2] → Blk b (w.heap.size + 1 + 1) 23 #[.int .i64 v1, .int .i64 v2])
   [isV (.pointer (some ⟨gh, 0, none⟩)), isV (.pointer (some ⟨w.heap.size + 1, 0, none⟩)), isV (.int .i64 j), isV (.pointer (some ⟨w.heap.size + 1, 1, none⟩)), isV (.int .i64 i), isV (.pointer (some ⟨gh, 0, none⟩)), isV (.pointer (some ⟨gh, 4, none⟩)), isV (.pointer (some ⟨gh, 4 + j * 16, none⟩)), isV (.pointer (some ⟨gh, 4 + j * 16 + i * 2, none⟩)), isV (.agg #[.int .i64 v1, .int .i64 v2]), fun _ W => Blk W (w.heap.size + 1 + 1) 23 #[.int .i64 v1, .int .i64 v2], isV (.int .i64 0)]
   (by kernel_rfl) (by kernel_rfl) (by kernel_rfl) (by simp) (by simp) ⟨Kept.drew _ _, _, _, Y2.drew⟩ ?stab ?step ?fin
  case stab => exact (StabL.is (StabL.is (StabL.is (StabL.is (StabL.is (StabL.is (StabL.is (StabL.is (StabL.is (StabL.is (StabL.cons (fun v W V hC hX hq => hX hq) (StabL.is StabL.nil))))))))))))
  case step =>
   refine StepsL.is ?_ (StepsL.is ?_ (StepsL.is ?_ (StepsL.is ?_ (StepsL.is ?_ (StepsL.is ?_ (StepsL.is ?_ (StepsL.is ?_ (StepsL.is ?_ (StepsL.is ?_ (StepsL.cons ?_ (StepsL.is ?_ StepsL.nil)))))))))))
   all_goals
    intro vs W K hC hD hU hK
    simp only [fillA, Act.put, List.setIfInBounds_toArray, List.set_cons_zero, List.set_cons_succ, Nat.zero_add, Nat.reduceAdd] at hK ⊢
    simp [waits, Region.binds] at hD
    try simp only [envOf, List.getD_cons_succ, List.getD_cons_zero, isV] at hD
    try simp only [hD] at hK ⊢
   ·go_simp; first | exact hK _ hC (fun h => h) | exact hK _ hC trivial | exact hK _ hC (fun _ => by first | exact hD | exact hD.1 | exact hD.2)
   ·go_simp; first | exact hK _ hC (fun h => h) | exact hK _ hC trivial | exact hK _ hC (fun _ => by first | exact hD | exact hD.1 | exact hD.2)
   ·have k5 : W.cell? ⟨w.heap.size + 1, 0, none⟩ = some (.int .i64 j) := hC.1.cell (show W2.cell? ⟨w.heap.size + 1, 0, none⟩ = some (.int .i64 j) from Y52.cell 0) (by dsimp only; omega)
    go_simp; first | exact hK _ hC (fun h => h) | exact hK _ hC trivial | exact hK _ hC (fun _ => by first | exact hD | exact hD.1 | exact hD.2)
   ·go_simp; first | exact hK _ hC (fun h => h) | exact hK _ hC trivial | exact hK _ hC (fun _ => by first | exact hD | exact hD.1 | exact hD.2)
   ·have k5 : W.cell? ⟨w.heap.size + 1, 1, none⟩ = some (.int .i64 i) := hC.1.cell (show W2.cell? ⟨w.heap.size + 1, 1, none⟩ = some (.int .i64 i) from Y52.cell 1) (by dsimp only; omega)
    go_simp; first | exact hK _ hC (fun h => h) | exact hK _ hC trivial | exact hK _ hC (fun _ => by first | exact hD | exact hD.1 | exact hD.2)
   ·go_simp; first | exact hK _ hC (fun h => h) | exact hK _ hC trivial | exact hK _ hC (fun _ => by first | exact hD | exact hD.1 | exact hD.2)
   ·go_simp; first | exact hK _ hC (fun h => h) | exact hK _ hC trivial | exact hK _ hC (fun _ => by first | exact hD | exact hD.1 | exact hD.2)
   ·go_simp; first | exact hK _ hC (fun h => h) | exact hK _ hC trivial | exact hK _ hC (fun _ => by first | exact hD | exact hD.1 | exact hD.2)
   ·go_simp; first | exact hK _ hC (fun h => h) | exact hK _ hC trivial | exact hK _ hC (fun _ => by first | exact hD | exact hD.1 | exact hD.2)
   ·have k6 := hC.1.cell u0 (fun e => by dsimp only at e; exact hg6 e)
    have k7 := hC.1.cell u1 (fun e => by dsimp only at e; exact hg6 e)
    go_simp; first | exact hK _ hC (fun h => h) | exact hK _ hC trivial | exact hK _ hC (fun _ => by first | exact hD | exact hD.1 | exact hD.2)
   ·obtain ⟨c0, c1, hb⟩ := hC.2
    have k0 := hb.cell 0
    have k1 := hb.cell 1
    have f0 := hb.frozen 0
    have f1 := hb.frozen 1
    have hl6 := hb.lt
    go_simp
    exact hK undef _ ⟨(hC.1.trans (Kept.setCell _ _ _ rfl)).trans (Kept.setCell _ _ _ rfl), _, _, hb.set2 _ _⟩ (fun _ => hb.set2 _ _) (hb.set2 _ _)
   go_simp; first | exact hK _ hC (fun h => h) | exact hK _ hC trivial | exact hK _ hC (fun _ => by first | exact hD | exact hD.1 | exact hD.2)
  intro vs W hC hE hU
  have e10 := hE 10 (by simp)
  have e11 := hE 11 (by simp)
  simp only [envOf, List.getD_cons_succ, List.getD_cons_zero, isV] at e10 e11
  have hCC := hC.1
  have H10 : Hid (Blk W (w.heap.size + 1 + 1) 23 #[.int .i64 v1, .int .i64 v2]) := e10
  simp only [fillA, Act.put, List.setIfInBounds_toArray, List.set_cons_zero, List.set_cons_succ, Nat.zero_add, Nat.reduceAdd, e11]
  clear e10 e11 hE hU hC
  generalize vs 0 = u0, vs 1 = u1, vs 2 = u2, vs 3 = u3, vs 4 = u4, vs 5 = u5, vs 6 = u6, vs 7 = u7, vs 8 = u8, vs 9 = u9
  go_simp
  go_wp2_with fail
  exact bodyPost_ret (ret_span rfl rfl rfl H10.out.c0 H10.out.c1) rfl ⟨by rw [HR2.out], B2.trans (hCC.below (B := w.heap.size) (by have := B2.size; omega) (fun k hk => by omega))⟩
 have HR := Lib.hid (sizesR_bad (m := m) (c := c) he)
 have heb : ((seen7 s l).2 != 0) = true := by simpa using he
 have y0 := Y1.cell 0
 have y1 := Y1.cell 1
 have fy0 := Y1.frozen 0
 have fy1 := Y1.frozen 1
 have hyl := Y1.lt
 clear he hbx
 go_wp2_with fail
 exact bodyPost_ret (ret_span rfl rfl rfl (Y1.set2 _ _).c0 (Y1.set2 _ _).c1) rfl ⟨by rw [HR.out], bl_set (bl_set B1 (by dsimp only; omega) _) (by dsimp only; omega) _⟩
theorem shrinksR_bad {s : Shop} {l : List SeenC} (e : (seen7 s l).2 ≠ 0) : shrinksR s l = ([], (seen7 s l).2) := by rw [shrinksR, if_pos e]
theorem shrinksR_no {s : Shop} {l : List SeenC} (e : (seen7 s l).2 = 0) (h : known7 s l = []) : shrinksR s l = ([], 9) := by rw [shrinksR, if_neg (by simp [e]), if_pos h]
theorem shrinksR_n {s : Shop} {l : List SeenC} (e : (seen7 s l).2 = 0) (h : known7 s l ≠ []) : shrinksR s l = (known7 s l, 0) := by rw [shrinksR, if_neg (by simp [e]), if_neg h]
set_option maxRecDepth 100000 in
set_option maxHeartbeats 2000000 in
theorem kshrinks_any {Ad C : Option Addr} {n ca q cc : Nat} {s : Shop} {l : List SeenC} {klo khi : Int} (w : World) (g : Moulds (fun _ => True) w Ad n s.moulds) (gs : SeenCs (fun _ => True) w C q l) (hca : n ≤ ca) (h1 : s.klo = klo) (h2 : s.khi = khi) :
  Calls Tryz.prog 19 #[.agg #[.int .i64 klo, .int .i64 khi, .slice Ad n ca], .slice C q cc] w fun e w' =>
   (∃ D m kc, e = .returned (.tuple #[.slice D m kc, .int .i64 (shrinksR s l).2]) ∧ Ints (fun _ => True) w' D m (shrinksR s l).1) ∧ Below w.heap.size w w' := by
 obtain ⟨W, hW⟩ : ∃ W, w.alloc (.cells #[.int .i64 klo, .int .i64 khi, .slice Ad n ca] 26) = W := ⟨_, rfl⟩
 have hBW : Below w.heap.size w W := by rw [← hW]; exact bl_alloc (Below.refl _ _) _ (Nat.le_refl _)
 have hc := g.keep MouldR.good (Keeps.below hBW)
 have hs := gs.keep SeenCR.good (Keeps.below hBW)
 have hWs : w.heap.size ≤ W.heap.size := hBW.size
 have HW := Lib.hid hW
 have hnil : ∀ V : World, Ints (fun _ => True) V none 0 [] := fun V => ⟨rfl, Nat.zero_le _, fun k x hx => by simp at hx⟩
 have HNIL := Lib.hid hnil
 clear hW g gs hnil
 go_enter Tryz.func19, Tryz.ntmps19
 go_wp2_with fail
 rw [HW.out]
 refine (kenter_any W hc hs hca h1 h2).mono ?_
 rintro e W1 ⟨b1, p, rfl, hbx⟩
 have B1 : Below w.heap.size w W1 := hBW.trans (b1.mono hWs)
 by_cases he : (seen7 s l).2 = 0
 ·obtain ⟨gh, rfl, hbox⟩ := hbx he
  obtain ⟨⟨D, kc, hB, hI, hz, hnz⟩, _⟩ := hbox
  have s68 : W1.cell? ⟨gh, 68, none⟩ = some (.slice D (known7 s l).length kc) := (hB.cell 68).trans shopC_68
  have hghl := hB.lt
  have HE := Lib.hid he
  rw [he]
  clear he hbx hB
  by_cases hk : known7 s l = []
  ·have HR := Lib.hid (shrinksR_no HE.out hk)
   obtain ⟨rfl, rfl⟩ := hz hk
   rw [hk] at s68
   have heq := eqnil_t
   clear hz hnz hk hI
   go_wp2_with fail
   go_ret2
   exact ⟨⟨none, 0, 0, by rw [HR.out]; rfl, by rw [HR.out]; exact HNIL.out _⟩, B1⟩
  have HR := Lib.hid (shrinksR_n HE.out hk)
  obtain ⟨gk, rfl⟩ := hnz hk
  have HI := Lib.hid hI
  obtain ⟨kn, hkn⟩ : ∃ kn, (known7 s l).length = kn := ⟨_, rfl⟩
  rw [hkn] at s68
  have HKN := Lib.hid hkn
  have heq := fun V => eqnil_f gk kn kc V
  clear hz hnz hk hI hkn
  go_wp2_with fail
  go_ret2
  exact ⟨⟨some ⟨gk, 0, none⟩, kn, kc, by rw [HR.out]; rfl, by rw [HR.out, ← HKN.out]; exact HI.out⟩, B1⟩
 have HR := Lib.hid (shrinksR_bad he)
 have heb : ((seen7 s l).2 != 0) = true := by simpa using he
 clear he hbx
 go_wp2_with fail
 go_ret2
 exact ⟨⟨none, 0, 0, by rw [HR.out]; rfl, by rw [HR.out]; exact HNIL.out _⟩, B1⟩
open Go.RowKit Go.Shelf
def fitB (s : Shop) (l : List SeenC) (a z : Int) (p : Nat × Nat) : Bool := !(outB a z (size7 s l p.1 p.2).1 || outB a z (size7 s l p.1 p.2).2)
def fitU (s : Shop) (l : List SeenC) (a z : Int) (m j : Nat) : List (Nat × Nat) := ((((List.range m).flatMap fun m => (List.range (castsN s m)).map fun c => (m, c))) ++ (List.range j).map fun c => (m, c)).filter (fitB s l a z)
theorem fitU_zero (s : Shop) (l : List SeenC) (a z : Int) : fitU s l a z 0 0 = [] := rfl
theorem fitU_yes {s : Shop} {l : List SeenC} {a z : Int} {m j : Nat} (h : fitB s l a z (m, j) = true) : fitU s l a z m (j + 1) = fitU s l a z m j ++ [(m, j)] := by
 unfold fitU; rw [List.range_succ, List.map_append, ← List.append_assoc, List.filter_append, List.map_cons, List.map_nil, List.filter_cons_of_pos h, List.filter_nil]
theorem fitU_no {s : Shop} {l : List SeenC} {a z : Int} {m j : Nat} (h : fitB s l a z (m, j) = false) : fitU s l a z m (j + 1) = fitU s l a z m j := by
 unfold fitU; rw [List.range_succ, List.map_append, ← List.append_assoc, List.filter_append, List.map_cons, List.map_nil, List.filter_cons_of_neg (by rw [h]; decide), List.filter_nil, List.append_nil]
theorem fitU_next (s : Shop) (l : List SeenC) (a z : Int) (m : Nat) : fitU s l a z m (castsN s m) = fitU s l a z (m + 1) 0 := by
 unfold fitU; rw [List.range_succ (n := m), List.flatMap_append, List.flatMap_singleton, List.range_zero, List.map_nil, List.append_nil]
theorem fitU_len {s : Shop} {l : List SeenC} {a z : Int} (hk : OkS s) : ∀ m j, m < s.moulds.length → j ≤ castsN s m → (fitU s l a z m j).length ≤ m * 8 + j := by
 intro m j hm hj
 unfold fitU
 refine Nat.le_trans (List.length_filter_le _ _) ?_
 rw [List.length_append, List.length_map, List.length_range]
 have key : ∀ k, k ≤ m → ((List.range k).flatMap fun m => (List.range (castsN s m)).map fun c => (m, c)).length ≤ k * 8 := by
  intro k
  induction k with
  | zero => intro _; simp
  | succ k ih =>
   intro hk2
   rw [List.range_succ, List.flatMap_append, List.length_append, List.flatMap_singleton, List.length_map, List.length_range]
   have := ih (by omega)
   have := (castsN_bd hk (m := k) (by omega)).2.1
   omega
 have := key m (Nat.le_refl _)
 omega
theorem madeL_ne {s : Shop} {l : List SeenC} {m c : Nat} (hk : known7 s l ≠ []) (hm : m < s.moulds.length) : madeK s l (known7 s l) m c ≠ [] := by
 obtain ⟨k, hk1⟩ := List.exists_mem_of_ne_nil _ hk
 obtain ⟨p, hp⟩ := List.exists_mem_of_ne_nil _ (known7_two (known7_mem hk1).2 hm)
 refine List.ne_nil_of_mem (a := made7 p.1 p.2 c k) ?_
 unfold madeK
 exact List.mem_flatMap.2 ⟨k, hk1, List.mem_map.2 ⟨p, hp, rfl⟩⟩
theorem size7_bd {s : Shop} {l : List SeenC} {m c : Nat} (hok : OkS s) (hk : known7 s l ≠ []) (hm : m < s.moulds.length) (hc : c ≤ 8) : 1 ≤ (size7 s l m c).1 ∧ (size7 s l m c).1 ≤ (size7 s l m c).2 ∧ (size7 s l m c).2 ≤ 20160 := by
 have hne := madeL_ne (c := c) hk hm
 obtain ⟨g1, g2, g3⟩ := endsOfK_bd hne
 have hp := madeK_pos (l := l) (ks := known7 s l) hok hm hc (fun k hk => (known7_mem hk).1)
 have h1 := hp _ g2
 have h2 := hp _ g3
 have h3 := (g1 _ g2).2
 exact ⟨h1.1, h3, h2.2⟩
theorem fitU_all {s : Shop} {l : List SeenC} {a z : Int} (hok : OkS s) (hk : known7 s l ≠ []) : fitU s l a z s.moulds.length 0 = fit7 s l a z := by
 unfold fitU fit7 placesL
 rw [List.range_zero, List.map_nil, List.append_nil]
 refine List.filter_congr fun p hp => ?_
 obtain ⟨m, hm, hp⟩ := List.mem_flatMap.1 hp
 obtain ⟨c, hc, rfl⟩ := List.mem_map.1 hp
 have hm := List.mem_range.1 hm
 have hc := List.mem_range.1 hc
 have hcb := (castsN_bd hok hm).2.1
 have hb := size7_bd (c := c) hok hk hm (by omega)
 unfold fitB
 dsimp only
 unfold outB
 generalize (size7 s l m c).1 = x at *
 generalize (size7 s l m c).2 = y at *
 rw [Bool.eq_iff_iff]
 simp
 omega
theorem infoPl7 : (Tryz.prog.info? 37).map (fun i => (i.zero, i.size, i.bytes)) = some (some (.agg #[.int .i64 0, .int .i64 0]), 2, 16) := by kernel_rfl
theorem blk_news2 {w : World} {g : Nat} {t : TypeId} {x y : Value} (h : Blk w g t #[x, y]) {j : Nat} {v : Value} (hv : [x, y][j]? = some v) : w.cell? ((⟨g, 0, none⟩ : Addr).add j) = some v := by
 rw [add_at, h.cell, Nat.zero_add]
 simpa using hv
def PlsE (B : Nat) (xs : List (Nat × Nat)) (e : Ending) (w' : World) : Prop := ∃ A c, e = .returned (.slice A xs.length c) ∧ Pls (fun k => B ≤ k) w' A xs.length xs
set_option maxRecDepth 100000 in
set_option maxHeartbeats 4000000 in
theorem kfits_any {Ad C : Option Addr} {n ca q cc gh : Nat} {s : Shop} {l : List SeenC} (hok : OkS s) (hk : known7 s l ≠ []) (a z : Int) (w : World) (g : SBox w gh Ad n ca C q cc s l) :
  Calls Tryz.prog 48 #[.pointer (some ⟨gh, 0, none⟩), .agg #[.int .i64 a, .int .i64 z]] w fun e w' => PlsE w.heap.size (fit7 s l a z) e w' ∧ Below w.heap.size w w' := by
 obtain ⟨iP, hiP, hzP0, hzP1, hzP2⟩ := info_parts infoPl7
 obtain ⟨W, hW⟩ : ∃ W, w.alloc (.cells #[.int .i64 a, .int .i64 z] 23) = W := ⟨_, rfl⟩
 obtain ⟨g3, hg3⟩ : ∃ g, w.heap.size = g := ⟨_, rfl⟩
 have X : Blk W g3 23 #[.int .i64 a, .int .i64 z] := by rw [← hW, ← hg3]; exact Blk.new _ _ _ rfl
 have hBW : Below w.heap.size w W := by rw [← hW]; exact bl_alloc (Below.refl _ _) _ (Nat.le_refl _)
 have hWs : w.heap.size ≤ W.heap.size := hBW.size
 have gW := g.bl hBW
 have HG := Lib.hid gW
 have HX := Lib.hid X
 have HBW := Lib.hid hBW
 have Hn := Lib.hid gW.ms.len
 have hle := gW.ms.le
 have hn4 : n ≤ 4 := by have := hok.nm; have := gW.ms.len; omega
 have y2 : W.cell? ⟨gh, 2, none⟩ = some (.slice Ad n ca) := by obtain ⟨⟨D, kc, hB, _⟩, _⟩ := gW; exact (hB.cell 2).trans shopC_2
 have yl : gh < W.heap.size := World.block_lt_of_cell? _ _ y2
 have hsz3 : g3 ≤ w.heap.size ∧ w.heap.size ≤ g3 := by omega
 clear g gW X hBW
 go_enter Tryz.func48, Tryz.ntmps48
 go_wp2_with fail
 clear hW y2 hg3
 go_loopw [4, 5, 6, 7, 8, 15, 22] (fun lv _ _ _ _ i' _ wr => ∃ (m c ln : Nat) (An : Option Addr), i' = .int .i64 m ∧ m ≤ n ∧ lv = .slice An ln c ∧ Hid ((fitU s l a z m 0).length = ln) ∧ Hid (OwnL PlR 2 (fun _ => False) wr W.heap.size 37 (.slice An ln c) (fitU s l a z m 0)) ∧ Hid (Below W.heap.size W wr)) (fun _ _ _ _ _ i' _ _ => n - (intOf i').toNat)
 case atStart => exact ⟨0, 0, 0, none, rfl, Nat.zero_le _, rfl, rfl, by rw [fitU_zero]; exact OwnL.nil _ _ _ _ _ _, Below.refl _ _⟩
 case round =>
  obtain ⟨m, c, ln, An, rfl, hm, rfl, HL, HO, HB⟩ := hrel
  by_cases hlt : m < n
  ·have hmi : (m : Int) < n := by omega
   have hmS : m < s.moulds.length := by rw [Hn.out]; exact hlt
   obtain ⟨b, off, sn, a1, z1, y1, u1, c5, rfl, hb0, hd0, hd1, hd2, hd3, hd4, hd5, hs, Hx⟩ := Moulds.get (HG.out.ms.keep MouldR.good (Keeps.below HB.out)) hlt
   have hcs : (castsN s m : Int) = c5 := by have := (castsN_bd hok hmS).2.2; rw [this, getD_of Hx.out]
   have hcb : castsN s m ≤ 8 := (castsN_bd hok hmS).2.1
   have HCS := Lib.hid hcs
   obtain ⟨V, hV⟩ : ∃ V, wr.alloc (.cells #[.string sn, .int .i64 a1, .int .i64 z1, .int .i64 y1, .int .i64 u1, .int .i64 c5] 33) = V := ⟨_, rfl⟩
   have bV : Below wr.heap.size wr V := by rw [← hV]; exact bl_alloc (Below.refl _ _) _ (Nat.le_refl _)
   have HBV : Hid (Below W.heap.size W V) := bl_call HB.out bV (Nat.le_refl _)
   have HOV : Hid (OwnL PlR 2 (fun _ => False) V W.heap.size 37 (.slice An ln c) (fitU s l a z m 0)) := HO.out.below PlR.good bV
   have hM : Blk V wr.heap.size 33 #[.string sn, .int .i64 a1, .int .i64 z1, .int .i64 y1, .int .i64 u1, .int .i64 c5] := by rw [← hV]; exact Blk.new _ _ _ rfl
   have m5 := hM.cell 5
   have ml := hM.lt
   have hm4 : (m : Int) < 4 := by omega
   clear bV hM HB HO hcs
   go_wp2_with fail
   clear hV m5 ml hd0 hd1 hd2 hd3 hd4 hd5 hb0
   go_loopw [4, 7, 8, 22] (fun lv _ _ i' wr => ∃ (j c ln : Nat) (An : Option Addr), i' = .int .i64 j ∧ j ≤ castsN s m ∧ lv = .slice An ln c ∧ Hid ((fitU s l a z m j).length = ln) ∧ Hid (OwnL PlR 2 (fun _ => False) wr W.heap.size 37 (.slice An ln c) (fitU s l a z m j)) ∧ Hid (Below W.heap.size W wr)) (fun _ _ _ i' _ => castsN s m - (intOf i').toNat)
   case atStart => exact ⟨0, c, ln, An, rfl, Nat.zero_le _, rfl, HL, HOV, HBV⟩
   case round =>
    clear HOV HBV HL
    obtain ⟨j, c, ln, An, rfl, hj, rfl, HL, HO, HB⟩ := hrel
    by_cases hlt2 : j < castsN s m
    ·have hji : (j : Int) < c5 := by have := HCS.out; omega
     have hj8 : (j : Int) < 8 := by omega
     obtain ⟨v1, v2, hv⟩ : ∃ v1 v2, size7 s l m j = (v1, v2) := ⟨_, _, rfl⟩
     obtain ⟨⟨D, kc, hB, _⟩, _⟩ := HG.out.bl HB.out
     have u0 := hB.cell (4 + (m * 8 + j) * 2)
     have u1 := hB.cell (4 + ((m * 8 + j) * 2 + 1))
     rw [shopC_in (cellsS_lo _ (by omega)), sizeF_at hmS hlt2 (by omega), hv] at u0
     rw [shopC_in (cellsS_hi _ (by omega)), sizeF_at hmS hlt2 (by omega), hv] at u1
     rw [show 4 + (m * 8 + j) * 2 = 4 + m * 16 + j * 2 by omega] at u0
     rw [show 4 + ((m * 8 + j) * 2 + 1) = 4 + m * 16 + j * 2 + 1 by omega] at u1
     dsimp only at u0 u1
     have ghl := hB.lt
     obtain ⟨ob, hob⟩ : ∃ ob, (outB a z v1 || outB a z v2) = ob := ⟨_, rfl⟩
     have HF : Hid (fitB s l a z (m, j) = !ob) := by rw [Hid, fitB]; dsimp only; rw [hv, hob]
     obtain ⟨V, hV⟩ : ∃ V, wr.alloc (.cells #[.int .i64 v1, .int .i64 v2] 23) = V := ⟨_, rfl⟩
     obtain ⟨gz, hgz⟩ : ∃ g, wr.heap.size = g := ⟨_, rfl⟩
     have bV : Below wr.heap.size wr V := by rw [← hV]; exact bl_alloc (Below.refl _ _) _ (Nat.le_refl _)
     have HBV : Hid (Below W.heap.size W V) := bl_call HB.out bV (Nat.le_refl _)
     have HOV : Hid (OwnL PlR 2 (fun _ => False) V W.heap.size 37 (.slice An ln c) (fitU s l a z m j)) := HO.out.below PlR.good bV
     have hZ : Blk V gz 23 #[.int .i64 v1, .int .i64 v2] := by rw [← hV, ← hgz]; exact Blk.new _ _ _ rfl
     have k0 := hZ.cell 0
     have k1 := hZ.cell 1
     have kl := hZ.lt
     have x0 := (HX.out.bl HBV.out).cell 0
     have x1 := (HX.out.bl HBV.out).cell 1
     have xl := (HX.out.bl HBV.out).lt
     have hln : (fitU s l a z m j).length ≤ 32 := by have := fitU_len (l := l) (a := a) (z := z) hok m j hmS (by omega); omega
     have HLN := Lib.hid hln
     clear hB bV hZ hv HB HO hln
     go_wp2_with fail
     clear hV hgz u0 u1 k0 k1 x0 x1
     refine (kout2 _ (by exact newc rfl rfl) (by exact newc rfl rfl) hob).mono ?_
     rintro e V2 ⟨rfl, b2⟩
     have b12 : Below V.heap.size V V2 := bl_call (bl_alloc (Below.refl _ _) _ (Nat.le_refl _)) b2 (Nat.le_refl _)
     have HB2 : Hid (Below W.heap.size W V2) := bl_call HBV.out b12 (Nat.le_refl _)
     have HO2 : Hid (OwnL PlR 2 (fun _ => False) V2 W.heap.size 37 (.slice An ln c) (fitU s l a z m j)) := HOV.out.below PlR.good b12
     clear b2 b12 HBV HOV hob kl
     cases ob with
     | true =>
      have HN : Hid (fitU s l a z m (j + 1) = fitU s l a z m j) := fitU_no HF.out
      go_wp2_with fail
      go_roundw
      case rel => exact ⟨j + 1, c, ln, An, by go_num, by omega, rfl, by rw [HN.out]; exact HL, by rw [HN.out]; exact HO2, HB2⟩
      case measure => simp [intOf]; omega
     | false =>
      have HN : Hid (fitU s l a z m (j + 1) = fitU s l a z m j ++ [(m, j)]) := fitU_yes HF.out
      have hl32 : ln ≤ 32 := by rw [← HL.out]; exact HLN.out
      go_wp2_with (at_builtin; refine wpList_append_n _ rfl (.tmp 44) (.tmp 48) _ rfl PlR.good W.heap.size 37 iP _ 16 Tryz.underlying69 hiP hzP0 hzP1 hzP2 rfl (by omega) (.slice An ln c) (fitU s l a z m j) (m, j) ln HL.out rfl (HO2.out.alloc PlR.good _) ⟨_, 0, none⟩ 1 [.int .i64 (m : Int), .int .i64 (j : Int)] rfl rfl (fun j v hv => blk_news2 (Blk.new _ _ _ rfl) hv) ?c1 ?c2 ?c3 (fun h => h) ?_)
      case c1 => simp only [maxLen]; omega
      case c2 => omega
      case c3 => have := HB2.out.size; simp; omega
      intro A' cap' w3 hown2 hg2 hat2
      have hB3 : Below W.heap.size W w3 := bl_grown (bl_alloc HB2.out _ (Nat.le_refl _)) (HO2.out.alloc PlR.good _) hg2 (Nat.le_refl _) (Nat.le_refl _)
      have HO3 : Hid (OwnL PlR 2 (fun _ => False) w3 W.heap.size 37 (.slice (some ⟨A', 0, none⟩) (ln + 1) cap') (fitU s l a z m (j + 1))) := by rw [Hid, HN.out]; exact hown2
      have HL3 : Hid ((fitU s l a z m (j + 1)).length = ln + 1) := by rw [Hid, HN.out, List.length_append, HL.out]; rfl
      have HB3 := Lib.hid hB3
      clear hown2 hg2 hat2 hB3
      go_wp2_with fail
      go_roundw
      case rel => exact ⟨j + 1, cap', ln + 1, some ⟨A', 0, none⟩, by go_num, by omega, by simp, HL3, HO3, HB3⟩
      case measure => simp [intOf]; omega
    obtain rfl : j = castsN s m := by omega
    have hji : ¬ ((castsN s m : Nat) : Int) < c5 := by have := HCS.out; omega
    go_wp2_with fail
    go_roundw
    case rel => exact ⟨m + 1, c, ln, An, by go_num, by omega, rfl, by rw [← fitU_next]; exact HL, by rw [← fitU_next]; exact HO, HB⟩
    case measure => simp [intOf]; omega
  obtain rfl : m = n := by omega
  have hmi : ¬ ((m : Int)) < m := by omega
  have hfl : fitU s l a z m 0 = fit7 s l a z := by rw [← Hn.out]; exact fitU_all hok hk
  rw [hfl] at HL HO
  clear hfl
  go_wp2_with fail
  go_ret
  have hl32 : ln ≤ 40 := by
   rw [← HL.out]
   exact Nat.le_trans (List.length_filter_le _ _) (Nat.le_trans (places_len hok) (by decide))
  have hp : Pls (fun k => w.heap.size ≤ k) wr An ln (fit7 s l a z) := HO.out.slice PlR.good rfl (by simp only [maxLen]; omega) (fun _ h => h.elim) (fun k h1 _ => by omega)
  have hL := HL.out
  subst hL
  exact ⟨⟨An, c, rfl, hp⟩, bl_call HBW.out HB.out (Nat.le_refl _)⟩
abbrev Pl := Nat × Nat
def ofL (f : List (Pl × Int)) (a : Pl) : Option Int := (f.find? fun p => decide (p.1 = a)).map (·.2)
def seekL (o : List (List Pl)) (ok : Pl → Bool) : Nat → List Pl → Nat → List (Pl × Int) → List Pl → Bool × List (Pl × Int) × List Pl
 | 0, _, _, f, met => (false, f, met)
 | _ + 1, [], _, f, met => (false, f, met)
 | n + 1, a :: rest, i, f, met =>
  if !ok a || met.contains a then seekL o ok n rest i f met else
  match ofL f a with
  | none => (true, (a, (i : Int)) :: f, a :: met)
  | some k =>
   if k < 0 then seekL o ok n rest i f (a :: met) else
   if (seekL o ok n (o.getD k.toNat []) k.toNat f (a :: met)).1 then (true, (a, (i : Int)) :: (seekL o ok n (o.getD k.toNat []) k.toNat f (a :: met)).2.1, (seekL o ok n (o.getD k.toNat []) k.toNat f (a :: met)).2.2)
   else seekL o ok n rest i (seekL o ok n (o.getD k.toNat []) k.toNat f (a :: met)).2.1 (seekL o ok n (o.getD k.toNat []) k.toNat f (a :: met)).2.2
def seekF : Nat := 2000
def giveK (o : List (List Pl)) (ok : Pl → Bool) (is : Nat → Bool) (fixed : List Pl) (k : Nat) : Nat × List (Pl × Int) :=
 (List.range k).foldl (fun s i => if is i then (if (seekL o ok seekF (o.getD i []) i s.2 []).1 then (s.1 + 1, (seekL o ok seekF (o.getD i []) i s.2 []).2.1) else (s.1, (seekL o ok seekF (o.getD i []) i s.2 []).2.1)) else s) (0, fixed.map fun a => (a, (-1 : Int)))
def giveR (o : List (List Pl)) (ok : Pl → Bool) (is : Nat → Bool) (fixed : List Pl) : Nat := (giveK o ok is fixed o.length).1
def setsL (n : Nat) : List (List Int) := (List.range (n + 1)).flatMap fun k => lexL k (numbersL n)
def hasN (l : List Int) (i : Nat) : Bool := decide ((i : Int) ∈ l)
def planK (o : List (List Pl)) (set : List Int) (k : Nat) : List Pl :=
 (List.range k).foldl (fun plan i =>
  match (o.getD i []).find? fun a => hasN set a.1 && !plan.contains a && decide (giveR o (fun p => hasN set p.1) (fun j => decide (i < j)) (plan ++ [a]) = o.length - i - 1) with
  | some a => plan ++ [a]
  | none => plan) []
def orderE (s : Shop) (l : List SeenC) (p : List (Int × Int)) : Int :=
 if (seen7 s l).2 ≠ 0 then (seen7 s l).2 else
 if ¬ (1 ≤ p.length ∧ p.length ≤ 6) then 3 else
 match firstErr (fun k => rangeE ⟨(p.getD k (0, 0)).1, (p.getD k (0, 0)).2⟩ 0 20000) p.length with
 | some (_, e) => e
 | none => if known7 s l = [] then 9 else 0
def allL (s : Shop) (l : List SeenC) (p : List (Int × Int)) : List (List Pl) := p.map fun x => fit7 s l x.1 x.2
def planR (s : Shop) (l : List SeenC) (p : List (Int × Int)) : List Pl × List Int × Int :=
 if orderE s l p ≠ 0 then ([], [], orderE s l p) else
 match (setsL s.moulds.length).find? fun set => !decide (giveR (allL s l p) (fun a => hasN set a.1) (fun _ => true) [] < p.length) with
 | some set => (planK (allL s l p) set p.length, set, 0)
 | none => ([], [], 8)
def lacksR (s : Shop) (l : List SeenC) (p : List (Int × Int)) : List Int × Int :=
 if orderE s l p ≠ 0 then ([], orderE s l p) else
 match (setsL p.length).find? fun set => decide (giveR (allL s l p) (fun _ => true) (fun i => hasN set i) [] < set.length) with
 | some set => (set, 0)
 | none => ([], 4)
def someK (o : List (List Pl)) (k : Nat) : List Int :=
 (List.range k).foldl (fun set i => if giveR o (fun _ => true) (fun j => hasN set j || decide (j = i)) [] = set.length + 1 then set ++ [(i : Int)] else set) []
def someR (s : Shop) (l : List SeenC) (p : List (Int × Int)) : List Int × Int :=
 if orderE s l p ≠ 0 then ([], orderE s l p) else (someK (allL s l p) p.length, 0)
def lackB (all : List (List Pl)) (pieces : List Int) : Bool := decide ((pieces.foldl (fun some i => (all.getD i.toNat []).foldl (fun some a => if a ∈ some then some else some ++ [a]) some) ([] : List Pl)).length < pieces.length)
def fewestL (all : List (List Pl)) : Option (List Int) := ((List.range all.length).flatMap fun k => lexL (k + 1) (numbersL all.length)).find? (lackB all)
end Go.Proofs.YtdbfincinjoppabGreatDoor
