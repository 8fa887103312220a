/- A part of the proof that TopMoulds always answers true. -/
import Derived.Test.YtkpbchnggdnmaaaGreatCKEnt3
set_option linter.all false
namespace Go.Proofs.YtkpbchnggdnmaaaGreat
open Go.RowKit Go.Shelf
theorem SBox.bl {w w' : World} {gh : Nat} {Ad : Option Addr} {n ca : Nat} {C : Option Addr} {q cc : Nat} {s : Shop} {l : List SeenC} (h : SBox w gh Ad n ca C q cc s l) (hb : Below w.heap.size w w') : SBox w' gh Ad n ca C q cc s l := by
 obtain ⟨⟨D, kc, h1, h2, h3, h4⟩, h5⟩ := h
 exact ⟨⟨D, kc, h1.bl hb, h2.keep IntR.good (Keeps.below hb), h3, h4⟩, h5.keep MouldR.good (Keeps.below hb)⟩
theorem eqnil_t (w : World) : (Go.binOp BinOp.eql 27 (.slice none 0 0) (.slice none 0 0)).run Tryz.prog w = .ok (.bool true) w := by
 unfold Go.binOp
 simp only [Sem.run_bind]
 unfold Op.equal
 rw [show Op.maxDepth = 9999 + 1 from rfl, Op.equalIn]
 simp only [Sem.run_bind, run_underlying Tryz.underlying27, Result.andThen_ok]
 go_simp
theorem eqnil_f (g n c : Nat) (w : World) : (Go.binOp BinOp.eql 27 (.slice (some ⟨g, 0, none⟩) n c) (.slice none 0 0)).run Tryz.prog w = .ok (.bool false) w := by
 unfold Go.binOp
 simp only [Sem.run_bind]
 unfold Op.equal
 rw [show Op.maxDepth = 9999 + 1 from rfl, Op.equalIn]
 simp only [Sem.run_bind, run_underlying Tryz.underlying27, Result.andThen_ok]
 go_simp
theorem blkK_ne {w : World} {g1 g2 : Nat} {t1 t2 : TypeId} {c1 c2 : Array Value} (h1 : Blk w g1 t1 c1) (h2 : Blk w g2 t2 c2) (h : t1 ≠ t2) : g1 ≠ g2 := fun e => by
 subst e
 unfold Blk at h1 h2
 rw [h1] at h2
 injection h2 with h2
 injection h2 with _ h2 _
 exact h h2
theorem sizesR_bad {s : Shop} {l : List SeenC} {m c : Int} (e : (seen7 s l).2 ≠ 0) : sizesR s l m c = ((0, 0), (seen7 s l).2) := by rw [sizesR, if_pos e]
theorem sizesR_n {s : Shop} {l : List SeenC} {m c : Int} (e : (seen7 s l).2 = 0) : sizesR s l m c = if (!there7 s m c) = true then ((0, 0), 4) else if known7 s l = [] then ((0, 0), 9) else (size7 s l m.toNat c, 0) := by rw [sizesR, if_neg (by simp [e])]
theorem there_in {s : Shop} {m c : Int} (h : there7 s m c = true) : ∃ (j i : Nat), m = j ∧ c = i ∧ j < s.moulds.length ∧ i < castsN s j := by
 unfold there7 at h
 simp only [Bool.and_eq_true, inB, decide_eq_true_eq] at h
 refine ⟨m.toNat, c.toNat, by omega, by omega, by omega, ?_⟩
 unfold castsN
 omega
theorem sizeF_at {s : Shop} {l : List SeenC} {j i : Nat} (hj : j < s.moulds.length) (hi : i < castsN s j) (h8 : i < 8) : sizeF s l (known7 s l) (j * 8 + i) = size7 s l j i := by
 have e1 : (j * 8 + i) / 8 = j := by omega
 have e2 : (j * 8 + i) % 8 = i := by omega
 unfold sizeF
 rw [e1, e2, if_pos ⟨hj, hi⟩]; rfl
set_option maxRecDepth 100000 in
set_option maxHeartbeats 2000000 in
theorem ksizes_any {Ad C : Option Addr} {n ca q cc : Nat} {s : Shop} {l : List SeenC} {klo khi : Int} (m c : Int) (w : World) (g : Moulds (fun _ => True) w Ad n s.moulds) (gs : SeenCs (fun _ => True) w C q l) (hca : n ≤ ca) (h1 : s.klo = klo) (h2 : s.khi = khi) :
  Calls Tryz.prog 20 #[.agg #[.int .i64 klo, .int .i64 khi, .slice Ad n ca], .slice C q cc, .agg #[.int .i64 m, .int .i64 c]] w fun e w' =>
   e = .returned (.tuple #[.agg #[.int .i64 (sizesR s l m c).1.1, .int .i64 (sizesR s l m c).1.2], .int .i64 (sizesR s l m c).2]) ∧ Below w.heap.size w w' := by
 obtain ⟨W, hW⟩ : ∃ W, ((w.alloc (.cells #[.int .i64 klo, .int .i64 khi, .slice Ad n ca] 26)).alloc (.cells #[.int .i64 m, .int .i64 c] 50)).alloc (.cells #[.int .i64 0, .int .i64 0] 23) = W := ⟨_, rfl⟩
 have X : Blk W w.heap.size 26 #[.int .i64 klo, .int .i64 khi, .slice Ad n ca] := by rw [← hW]; exact ((Blk.new _ _ _ rfl).alloc _).alloc _
 have X5 : Blk W (w.heap.size + 1) 50 #[.int .i64 m, .int .i64 c] := by rw [← hW]; exact (Blk.new _ _ _ (by simp)).alloc _
 have X6 : Blk W (w.heap.size + 1 + 1) 23 #[.int .i64 0, .int .i64 0] := by rw [← hW]; exact Blk.new _ _ _ (by simp)
 have hBW : Below w.heap.size w W := by rw [← hW]; exact bl_alloc (bl_alloc (bl_alloc (Below.refl _ _) _ (Nat.le_refl _)) _ (Nat.le_refl _)) _ (Nat.le_refl _)
 have hc := g.keep MouldR.good (Keeps.below hBW)
 have hs := gs.keep SeenCR.good (Keeps.below hBW)
 have hWs : w.heap.size ≤ W.heap.size := hBW.size
 have hW6 : w.heap.size + 1 + 1 < W.heap.size := X6.lt
 have HW := Lib.hid hW
 clear hW g gs
 go_enter Tryz.func20, Tryz.ntmps20
 go_wp2_with fail
 rw [HW.out]
 refine (kenter_any W hc hs hca h1 h2).mono ?_
 rintro e W1 ⟨b1, p, rfl, hbx⟩
 have B1 : Below w.heap.size w W1 := hBW.trans (b1.mono hWs)
 have X1 := X.bl b1
 have Y5 := X5.bl b1
 have Y1 := X6.bl b1
 clear X X5 X6
 by_cases he : (seen7 s l).2 = 0
 ·obtain ⟨gh, rfl, hbox⟩ := hbx he
  have HOK : Hid (OkS s) := okS_of (seen7_zero he).1
  have HR := Lib.hid (sizesR_n (m := m) (c := c) he)
  rw [he]
  clear he hbx
  have x0 := X1.cell 0
  have x1 := X1.cell 1
  have x2 := X1.cell 2
  have z0 := Y5.cell 0
  have z1 := Y5.cell 1
  go_wp2_with fail
  refine (knone_any HOK.out m c W1 hbox.ms).mono ?_
  rintro e W2 ⟨rfl, b2⟩
  have B2 : Below w.heap.size w W2 := bl_call B1 b2 (Nat.le_refl _)
  have Y2 := Y1.bl b2
  have Y52 := Y5.bl b2
  have hbox2 := hbox.bl b2
  clear x0 x1 x2 z0 z1 X1 Y1 Y5 hbox b2
  have y0 := Y2.cell 0
  have y1 := Y2.cell 1
  have fy0 := Y2.frozen 0
  have fy1 := Y2.frozen 1
  have hyl := Y2.lt
  cases ht : there7 s m c
  ·have HR2 : Hid (sizesR s l m c = ((0, 0), 4)) := by rw [Hid, HR.out, ht]; rfl
   go_wp2_with fail
   exact bodyPost_ret (ret_span rfl rfl rfl (Y2.set2 _ _).c0 (Y2.set2 _ _).c1) rfl ⟨by rw [HR2.out], bl_set (bl_set B2 (by dsimp only; omega) _) (by dsimp only; omega) _⟩
  obtain ⟨⟨D, kc, hB, hI, hz, hnz⟩, _⟩ := hbox2
  have s68 : W2.cell? ⟨gh, 68, none⟩ = some (.slice D (known7 s l).length kc) := (hB.cell 68).trans shopC_68
  have hghl := hB.lt
  by_cases hk : known7 s l = []
  ·have HR2 : Hid (sizesR s l m c = ((0, 0), 9)) := by rw [Hid, HR.out, ht, if_neg (by decide), if_pos hk]
   obtain ⟨rfl, rfl⟩ := hz hk
   rw [hk] at s68
   have heq := eqnil_t
   clear hz hnz hk hI hB
   go_wp2_with fail
   exact bodyPost_ret (ret_span rfl rfl rfl (Y2.set2 _ _).c0 (Y2.set2 _ _).c1) rfl ⟨by rw [HR2.out], bl_set (bl_set B2 (by dsimp only; omega) _) (by dsimp only; omega) _⟩
  obtain ⟨gk, rfl⟩ := hnz hk
  obtain ⟨j, i, rfl, rfl, hj, hi⟩ := there_in ht
  have hcb := castsN_bd HOK.out hj
  have hj4 : j < 4 := by have := HOK.out.nm; omega
  obtain ⟨v1, v2, hv⟩ : ∃ v1 v2, size7 s l j i = (v1, v2) := ⟨_, _, rfl⟩
  have HR2 : Hid (sizesR s l (j : Int) (i : Int) = ((v1, v2), 0)) := by rw [Hid, HR.out, ht, if_neg (by decide), if_neg hk, Int.toNat_natCast, hv]
  have hg6a : gh ≠ w.heap.size + 1 + 1 := blkK_ne hB Y2 (by decide)
  have heq := fun V => eqnil_f gk (known7 s l).length kc V
  have u0 := hB.cell (4 + (j * 8 + i) * 2)
  have u1 := hB.cell (4 + ((j * 8 + i) * 2 + 1))
  rw [shopC_in (cellsS_lo _ (by omega)), sizeF_at hj hi (by omega), hv] at u0
  rw [shopC_in (cellsS_hi _ (by omega)), sizeF_at hj hi (by omega), hv] at u1
  rw [show 4 + (j * 8 + i) * 2 = 4 + j * 16 + i * 2 by omega] at u0
  rw [show 4 + ((j * 8 + i) * 2 + 1) = 4 + j * 16 + i * 2 + 1 by omega] at u1
  dsimp only at u0 u1
  have hji : (j : Int) < 4 := by omega
  have hii : (i : Int) < 8 := by omega
  clear hz hnz hk hI hv HR hB hcb
  go_wp2_with fail
  have hg6 : gh ≠ w.heap.size + 1 + 1 := hg6a
  clear y0 y1 fy0 fy1 hyl s68
  refine wp_region_list (fun W => Kept (fun k => k = w.heap.size + 1 + 1) W2 W ∧ ∃ c0 c1 : Value, Blk W (w.heap.size + 1 + 1) 23 #[c0, c1]) (fun a b => Blk a (w.heap.size + 1 + 1) 23 #[.int .i64 v1, .int .i64 v2] → Blk b (w.heap.size + 1 + 1) 23 #[.int .i64 v1, .int .i64 v2])
   [isV (.pointer (some ⟨gh, 0, none⟩)), isV (.pointer (some ⟨w.heap.size + 1, 0, none⟩)), isV (.int .i64 j), isV (.pointer (some ⟨w.heap.size + 1, 1, none⟩)), isV (.int .i64 i), isV (.pointer (some ⟨gh, 0, none⟩)), isV (.pointer (some ⟨gh, 4, none⟩)), isV (.pointer (some ⟨gh, 4 + j * 16, none⟩)), isV (.pointer (some ⟨gh, 4 + j * 16 + i * 2, none⟩)), isV (.agg #[.int .i64 v1, .int .i64 v2]), fun _ W => Blk W (w.heap.size + 1 + 1) 23 #[.int .i64 v1, .int .i64 v2], isV (.int .i64 0)]
   (by kernel_rfl) (by kernel_rfl) (by kernel_rfl) (by simp) (by simp) ⟨Kept.drew _ _, _, _, Y2.drew⟩ ?stab ?step ?fin
  case stab => exact (StabL.is (StabL.is (StabL.is (StabL.is (StabL.is (StabL.is (StabL.is (StabL.is (StabL.is (StabL.is (StabL.cons (fun v W V hC hX hq => hX hq) (StabL.is StabL.nil))))))))))))
  case step =>
   refine StepsL.is ?_ (StepsL.is ?_ (StepsL.is ?_ (StepsL.is ?_ (StepsL.is ?_ (StepsL.is ?_ (StepsL.is ?_ (StepsL.is ?_ (StepsL.is ?_ (StepsL.is ?_ (StepsL.cons ?_ (StepsL.is ?_ StepsL.nil)))))))))))
   all_goals
    intro vs W K hC hD hU hK
    simp only [fillA, Act.put, List.setIfInBounds_toArray, List.set_cons_zero, List.set_cons_succ, Nat.zero_add, Nat.reduceAdd] at hK ⊢
    simp [waits, Region.binds] at hD
    try simp only [envOf, List.getD_cons_succ, List.getD_cons_zero, isV] at hD
    try simp only [hD] at hK ⊢
   ·go_simp; first | exact hK _ hC (fun h => h) | exact hK _ hC trivial | exact hK _ hC (fun _ => by first | exact hD | exact hD.1 | exact hD.2)
   ·go_simp; first | exact hK _ hC (fun h => h) | exact hK _ hC trivial | exact hK _ hC (fun _ => by first | exact hD | exact hD.1 | exact hD.2)
   ·have k5 : W.cell? ⟨w.heap.size + 1, 0, none⟩ = some (.int .i64 j) := hC.1.cell (show W2.cell? ⟨w.heap.size + 1, 0, none⟩ = some (.int .i64 j) from Y52.cell 0) (by dsimp only; omega)
    go_simp; first | exact hK _ hC (fun h => h) | exact hK _ hC trivial | exact hK _ hC (fun _ => by first | exact hD | exact hD.1 | exact hD.2)
   ·go_simp; first | exact hK _ hC (fun h => h) | exact hK _ hC trivial | exact hK _ hC (fun _ => by first | exact hD | exact hD.1 | exact hD.2)
   ·have k5 : W.cell? ⟨w.heap.size + 1, 1, none⟩ = some (.int .i64 i) := hC.1.cell (show W2.cell? ⟨w.heap.size + 1, 1, none⟩ = some (.int .i64 i) from Y52.cell 1) (by dsimp only; omega)
    go_simp; first | exact hK _ hC (fun h => h) | exact hK _ hC trivial | exact hK _ hC (fun _ => by first | exact hD | exact hD.1 | exact hD.2)
   ·go_simp; first | exact hK _ hC (fun h => h) | exact hK _ hC trivial | exact hK _ hC (fun _ => by first | exact hD | exact hD.1 | exact hD.2)
   ·go_simp; first | exact hK _ hC (fun h => h) | exact hK _ hC trivial | exact hK _ hC (fun _ => by first | exact hD | exact hD.1 | exact hD.2)
   ·go_simp; first | exact hK _ hC (fun h => h) | exact hK _ hC trivial | exact hK _ hC (fun _ => by first | exact hD | exact hD.1 | exact hD.2)
   ·go_simp; first | exact hK _ hC (fun h => h) | exact hK _ hC trivial | exact hK _ hC (fun _ => by first | exact hD | exact hD.1 | exact hD.2)
   ·have k6 := hC.1.cell u0 (fun e => by dsimp only at e; exact hg6 e)
    have k7 := hC.1.cell u1 (fun e => by dsimp only at e; exact hg6 e)
    go_simp; first | exact hK _ hC (fun h => h) | exact hK _ hC trivial | exact hK _ hC (fun _ => by first | exact hD | exact hD.1 | exact hD.2)
   ·obtain ⟨c0, c1, hb⟩ := hC.2
    have k0 := hb.cell 0
    have k1 := hb.cell 1
    have f0 := hb.frozen 0
    have f1 := hb.frozen 1
    have hl6 := hb.lt
    go_simp
    exact hK undef _ ⟨(hC.1.trans (Kept.setCell _ _ _ rfl)).trans (Kept.setCell _ _ _ rfl), _, _, hb.set2 _ _⟩ (fun _ => hb.set2 _ _) (hb.set2 _ _)
   go_simp; first | exact hK _ hC (fun h => h) | exact hK _ hC trivial | exact hK _ hC (fun _ => by first | exact hD | exact hD.1 | exact hD.2)
  intro vs W hC hE hU
  have e10 := hE 10 (by simp)
  have e11 := hE 11 (by simp)
  simp only [envOf, List.getD_cons_succ, List.getD_cons_zero, isV] at e10 e11
  have hCC := hC.1
  have H10 : Hid (Blk W (w.heap.size + 1 + 1) 23 #[.int .i64 v1, .int .i64 v2]) := e10
  simp only [fillA, Act.put, List.setIfInBounds_toArray, List.set_cons_zero, List.set_cons_succ, Nat.zero_add, Nat.reduceAdd, e11]
  clear e10 e11 hE hU hC
  generalize vs 0 = u0, vs 1 = u1, vs 2 = u2, vs 3 = u3, vs 4 = u4, vs 5 = u5, vs 6 = u6, vs 7 = u7, vs 8 = u8, vs 9 = u9
  go_simp
  go_wp2_with fail
  exact bodyPost_ret (ret_span rfl rfl rfl H10.out.c0 H10.out.c1) rfl ⟨by rw [HR2.out], B2.trans (hCC.below (B := w.heap.size) (by have := B2.size; omega) (fun k hk => by omega))⟩
 have HR := Lib.hid (sizesR_bad (m := m) (c := c) he)
 have heb : ((seen7 s l).2 != 0) = true := by simpa using he
 have y0 := Y1.cell 0
 have y1 := Y1.cell 1
 have fy0 := Y1.frozen 0
 have fy1 := Y1.frozen 1
 have hyl := Y1.lt
 clear he hbx
 go_wp2_with fail
 exact bodyPost_ret (ret_span rfl rfl rfl (Y1.set2 _ _).c0 (Y1.set2 _ _).c1) rfl ⟨by rw [HR.out], bl_set (bl_set B1 (by dsimp only; omega) _) (by dsimp only; omega) _⟩
theorem shrinksR_bad {s : Shop} {l : List SeenC} (e : (seen7 s l).2 ≠ 0) : shrinksR s l = ([], (seen7 s l).2) := by rw [shrinksR, if_pos e]
theorem shrinksR_no {s : Shop} {l : List SeenC} (e : (seen7 s l).2 = 0) (h : known7 s l = []) : shrinksR s l = ([], 9) := by rw [shrinksR, if_neg (by simp [e]), if_pos h]
theorem shrinksR_n {s : Shop} {l : List SeenC} (e : (seen7 s l).2 = 0) (h : known7 s l ≠ []) : shrinksR s l = (known7 s l, 0) := by rw [shrinksR, if_neg (by simp [e]), if_neg h]
set_option maxRecDepth 100000 in
set_option maxHeartbeats 2000000 in
theorem kshrinks_any {Ad C : Option Addr} {n ca q cc : Nat} {s : Shop} {l : List SeenC} {klo khi : Int} (w : World) (g : Moulds (fun _ => True) w Ad n s.moulds) (gs : SeenCs (fun _ => True) w C q l) (hca : n ≤ ca) (h1 : s.klo = klo) (h2 : s.khi = khi) :
  Calls Tryz.prog 23 #[.agg #[.int .i64 klo, .int .i64 khi, .slice Ad n ca], .slice C q cc] w fun e w' =>
   (∃ D m kc, e = .returned (.tuple #[.slice D m kc, .int .i64 (shrinksR s l).2]) ∧ Ints (fun _ => True) w' D m (shrinksR s l).1) ∧ Below w.heap.size w w' := by
 obtain ⟨W, hW⟩ : ∃ W, w.alloc (.cells #[.int .i64 klo, .int .i64 khi, .slice Ad n ca] 26) = W := ⟨_, rfl⟩
 have hBW : Below w.heap.size w W := by rw [← hW]; exact bl_alloc (Below.refl _ _) _ (Nat.le_refl _)
 have hc := g.keep MouldR.good (Keeps.below hBW)
 have hs := gs.keep SeenCR.good (Keeps.below hBW)
 have hWs : w.heap.size ≤ W.heap.size := hBW.size
 have HW := Lib.hid hW
 have hnil : ∀ V : World, Ints (fun _ => True) V none 0 [] := fun V => ⟨rfl, Nat.zero_le _, fun k x hx => by simp at hx⟩
 have HNIL := Lib.hid hnil
 clear hW g gs hnil
 go_enter Tryz.func23, Tryz.ntmps23
 go_wp2_with fail
 rw [HW.out]
 refine (kenter_any W hc hs hca h1 h2).mono ?_
 rintro e W1 ⟨b1, p, rfl, hbx⟩
 have B1 : Below w.heap.size w W1 := hBW.trans (b1.mono hWs)
 by_cases he : (seen7 s l).2 = 0
 ·obtain ⟨gh, rfl, hbox⟩ := hbx he
  obtain ⟨⟨D, kc, hB, hI, hz, hnz⟩, _⟩ := hbox
  have s68 : W1.cell? ⟨gh, 68, none⟩ = some (.slice D (known7 s l).length kc) := (hB.cell 68).trans shopC_68
  have hghl := hB.lt
  have HE := Lib.hid he
  rw [he]
  clear he hbx hB
  by_cases hk : known7 s l = []
  ·have HR := Lib.hid (shrinksR_no HE.out hk)
   obtain ⟨rfl, rfl⟩ := hz hk
   rw [hk] at s68
   have heq := eqnil_t
   clear hz hnz hk hI
   go_wp2_with fail
   go_ret2
   exact ⟨⟨none, 0, 0, by rw [HR.out]; rfl, by rw [HR.out]; exact HNIL.out _⟩, B1⟩
  have HR := Lib.hid (shrinksR_n HE.out hk)
  obtain ⟨gk, rfl⟩ := hnz hk
  have HI := Lib.hid hI
  obtain ⟨kn, hkn⟩ : ∃ kn, (known7 s l).length = kn := ⟨_, rfl⟩
  rw [hkn] at s68
  have HKN := Lib.hid hkn
  have heq := fun V => eqnil_f gk kn kc V
  clear hz hnz hk hI hkn
  go_wp2_with fail
  go_ret2
  exact ⟨⟨some ⟨gk, 0, none⟩, kn, kc, by rw [HR.out]; rfl, by rw [HR.out, ← HKN.out]; exact HI.out⟩, B1⟩
 have HR := Lib.hid (shrinksR_bad he)
 have heb : ((seen7 s l).2 != 0) = true := by simpa using he
 clear he hbx
 go_wp2_with fail
 go_ret2
 exact ⟨⟨none, 0, 0, by rw [HR.out]; rfl, by rw [HR.out]; exact HNIL.out _⟩, B1⟩
end Go.Proofs.YtkpbchnggdnmaaaGreat
