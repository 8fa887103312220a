/- A part of the proof that TopMoulds always answers true. -/
import Derived.Test.YtkpbchnggdnmaaaGreatCKFit
import Derived.Test.YtkpbchnggdnmaaaGreatCKPlan
import Derived.Test.YtkpbchnggdnmaaaGreatCOrLate
import Derived.Test.YtkpbchnggdnmaaaGreatCOrReg
set_option linter.all false
namespace Go.Proofs.YtkpbchnggdnmaaaGreat
open Go.RowKit
def piecesI (s : Shop) (nd : List Nat) (i : Nat) : List (Int × Int) := ((List.range i).flatMap fun k => (List.range (nd.getD k 0)).map fun n => ((k, n) : Pl)).map fun a => allZ s a.1
theorem piecesI_succ (s : Shop) (nd : List Nat) (i : Nat) : piecesI s nd (i + 1) = piecesI s nd i ++ List.replicate (nd.getD i 0) (allZ s i) := by
 unfold piecesI
 rw [List.range_succ, List.flatMap_append, List.map_append]
 congr 1
 rw [List.flatMap_cons, List.flatMap_nil, List.append_nil, List.map_map]
 apply List.ext_getElem?
 intro k
 rw [List.getElem?_map, List.getElem?_replicate]
 by_cases h : k < nd.getD i 0
 ·rw [List.getElem?_range h, if_pos h]; rfl
 rw [List.getElem?_eq_none (by simpa using h), if_neg h]; rfl
theorem piecesI_len (s : Shop) (nd : List Nat) (i : Nat) : (piecesI s nd (i + 1)).length = (piecesI s nd i).length + nd.getD i 0 := by
 rw [piecesI_succ, List.length_append, List.length_replicate]
theorem piecesI_bd {s : Shop} {nd : List Nat} : ∀ i, (∀ k, k < i → nd.getD k 0 ≤ 8) → (piecesI s nd i).length ≤ 8 * i
 | 0, _ => by simp [piecesI]
 | i + 1, h => by
  rw [piecesI_len]
  have h1 := piecesI_bd (s := s) (nd := nd) i (fun k hk => h k (by omega))
  have h2 := h i (by omega)
  omega
def partsI (nd : List Nat) (i : Nat) : Nat := ((List.range i).filter fun k => decide (0 < nd.getD k 0)).length
theorem partsI_succ (nd : List Nat) (i : Nat) : partsI nd (i + 1) = partsI nd i + if 0 < nd.getD i 0 then 1 else 0 := by
 unfold partsI
 rw [List.range_succ, List.filter_append, List.length_append]
 by_cases h : 0 < nd.getD i 0
 ·rw [if_pos h, List.filter_cons_of_pos (by exact decide_eq_true h)]; rfl
 rw [if_neg h, List.filter_cons_of_neg (by rw [decide_eq_false h]; exact Bool.false_ne_true)]; rfl
theorem partsI_le (nd : List Nat) : ∀ i, partsI nd i ≤ i
 | 0 => Nat.le_refl _
 | i + 1 => by
  rw [partsI_succ]
  have := partsI_le nd i
  split <;> omega
theorem partsI_all (nd : List Nat) : (mouldsQ nd).length = partsI nd nd.length := by unfold mouldsQ partsI; rw [List.length_map]
def needN (s : Shop11) (l : List Ord11) : List Nat := (neededR s l).map Int.toNat
theorem needed_len {s : Shop11} {l : List Ord11} (h : s.parts.length ≤ 3) : (neededR s l).length = s.parts.length := by
 unfold neededR castP
 rw [List.length_take, List.length_map, List.length_range]; omega
theorem needN_get {s : Shop11} (hok : Ok11 s) {l : List Ord11} (hl : ∀ o ∈ l, OrdOk s o) (h9 : l.length ≤ 9) {k : Nat} (hk : k < s.parts.length) : (neededR s l)[k]? = some (((needN s l).getD k 0 : Nat) : Int) ∧ (needN s l).getD k 0 ≤ 460 := by
 have h3 := hok.np
 have hlt : k < (neededR s l).length := by rw [needed_len h3.2]; exact hk
 have hx : (neededR s l)[k]? = some ((castP s (dueK l (s.hours.length - 1))).getD k 0) := by
  unfold neededR
  rw [List.getElem?_take, if_pos hk]
  unfold castP
  rw [List.getD_eq_getElem?_getD, List.getElem?_map, List.getElem?_range (by omega)]; rfl
 have hb := cast_bd hok hl h9 (s.hours.length - 1) k
 obtain ⟨x, hx2⟩ : ∃ x, (castP s (dueK l (s.hours.length - 1))).getD k 0 = x := ⟨_, rfl⟩
 rw [hx2] at hx hb
 have hn : (needN s l).getD k 0 = x.toNat := by
  unfold needN
  rw [List.getD_eq_getElem?_getD, List.getElem?_map, hx]; rfl
 rw [hn, hx]
 exact ⟨by rw [Int.toNat_of_nonneg hb.1], by omega⟩
theorem needN_len {s : Shop11} (hok : Ok11 s) (l : List Ord11) : (needN s l).length = s.parts.length := by unfold needN; rw [List.length_map, needed_len hok.np.2]
theorem there11_of {s : Shop} {m c : Nat} (hk : OkS s) (hm : m < s.moulds.length) (hc : c < castsN s m) : there7 s (m : Int) (c : Int) = true := by
 have hcs := castsN_bd hk hm
 unfold there7
 simp only [inB, Bool.and_eq_true, decide_eq_true_eq, Int.toNat_natCast]
 omega
theorem takeO {α : Type} {R : Rd α} {m : Nat} {S : Foot} {w : World} {A : Option Addr} {n : Nat} {xs : List α} (h : SliceOf R m S w A n xs) {k : Nat} (hk : k ≤ n) : SliceOf R m S w A k (xs.take k) :=
 ⟨by rw [List.length_take, h.1]; omega, Nat.le_trans hk h.2.1, fun j x hx => h.2.2 j x (by
  rw [List.getElem?_take] at hx
  split at hx
  ·exact hx
  cases hx)⟩
theorem not_take {α : Type} {xs : List α} (h : xs.Nodup) {k : Nat} {x : α} (hx : xs[k]? = some x) : x ∉ xs.take k := by
 intro hm
 obtain ⟨j, hj⟩ := List.mem_iff_getElem?.1 hm
 rw [List.getElem?_take] at hj
 split at hj
 ·rename_i hlt
  have := (List.getElem?_inj (of_getq' hj) h).1 (hj.trans hx.symm)
  omega
 cases hj
open Go.RowKit
theorem wpIn_region_invt {F : Fence} {r : Option Nat} (hF : F = { Fence.wide with round := r }) {n id : Nat} {P : Program} {ops : Array Oper} {Q : Exit → Act → World → Prop} {a0 : Act} {w0 : World} (I : (Nat → Bool) → (Nat → Value) → World → Prop) (m : Nat)
  (hP : P.follows .mixedOrders = true) (hd : noDefB ops = true) (hgood : goodB ops m = true) (hm : m ≤ ops.size) (hI : I (fun _ => false) (slot0 ops a0) { w0 with drawn := w0.drawn + 1 })
  (step : StepsI P ops I Q a0 (ops.toList.take m) 0)
  (fin : ∀ (ls : Nat → Bool) (vs : Nat → Value) (w : World), I ls vs w → (∀ i, i < m → ls i = true) → (∀ i, m ≤ i → vs i = slot0 ops a0 i) → wpListIn F n P ops Q (ops.toList.drop m) (fillA ops.toList 0 vs a0) w) : (Code.region id ops true).wpIn F n P Q a0 w0 := by
 refine wpIn_region_inv hF I m hP hd hgood hm hI (fun j o' hj ho' => ?_) (fun ls vs w hI hl hU => ?_)
 ·have := step.get (j := j) (o := o') (by rw [List.getElem?_take, if_pos hj]; simpa using ho')
  rwa [Nat.zero_add] at this
 have h := fin ls vs w hI hl hU
 have e := wpOpsIn_eq_wpListIn (F := F) (n := n) (P := P) (ops := ops) (Q := Q) (ops.toList.drop m) m (fun j => by rw [List.getElem?_drop]; simp)
 rw [← e] at h
 rwa [show (ops.toList.drop m).length = ops.size - m by simp] at h
def InvS (W0 : World) (t : TypeId) (cs : List Value) (VAL : Nat → Value) (ja : Nat) (ls : Nat → Bool) (vs : Nat → Value) (w : World) : Prop :=
 Below W0.heap.size W0 w ∧ (∀ i, ls i = true → i ≠ ja → vs i = VAL i) ∧ (ls ja = true → ∃ q, vs ja = .slice (some ⟨q, 0, none⟩) 1 1 ∧ W0.heap.size ≤ q ∧ Blk w q t cs.toArray)
section
variable {W0 : World} {t : TypeId} {cs : List Value} {VAL : Nat → Value} {ja j : Nat} {ls : Nat → Bool} {vs : Nat → Value} {w w' : World} {v : Value}
theorem InvS.zero : InvS W0 t cs VAL ja (fun _ => false) vs { W0 with drawn := W0.drawn + 1 } := ⟨(Below.refl _ _).drew, (fun i h => by cases h), fun h => by cases h⟩
theorem InvS.val (hI : InvS W0 t cs VAL ja ls vs w) (h : ls j = true) (h1 : j ≠ ja) : vs j = VAL j := hI.2.1 j h h1
theorem InvS.step (hI : InvS W0 t cs VAL ja ls vs w) (hb : Below w.heap.size w w') (h1 : j ≠ ja) (hv : v = VAL j) : InvS W0 t cs VAL ja (updB ls j) (updV vs j v) w' := by
 refine ⟨bl_call hI.1 hb (Nat.le_refl _), fun i hi hn => ?_, fun hi => ?_⟩
 ·by_cases e : i = j
  ·subst e; simpa [updV] using hv
  have : updB ls j i = ls i := by unfold updB; rw [if_neg e]
  rw [this] at hi
  rw [show updV vs j v i = vs i by simp [updV, e]]
  exact hI.2.1 i hi hn
 have e : ja ≠ j := fun e => h1 e.symm
 have : updB ls j ja = ls ja := by unfold updB; rw [if_neg e]
 rw [this] at hi
 rw [show updV vs j v ja = vs ja by simp [updV, e]]
 obtain ⟨q, h2, h3, h4⟩ := hI.2.2 hi
 exact ⟨q, h2, h3, h4.bl hb⟩
theorem InvS.laid (hI : InvS W0 t cs VAL ja ls vs w) : InvS W0 t cs VAL ja (updB ls ja) (updV vs ja (.slice (some ⟨w.heap.size, 0, none⟩) 1 1)) (w.alloc (.cells cs.toArray t)) := by
 refine ⟨bl_alloc hI.1 _ (Nat.le_refl _), fun i hi hn => ?_, fun _ => ⟨w.heap.size, by simp [updV], hI.1.size, Blk.new _ _ _ rfl⟩⟩
 have : updB ls ja i = ls i := by unfold updB; rw [if_neg hn]
 rw [this] at hi
 rw [show updV vs ja _ i = vs i by simp [updV, hn]]
 exact hI.2.1 i hi hn
end
theorem Blk.news {w : World} {g : Nat} {t : TypeId} {cs : List Value} (h : Blk w g t cs.toArray) : ∀ j u, cs[j]? = some u → w.cell? ((⟨g, 0, none⟩ : Addr).add j) = some u := fun j u hu => by
 have := h.cell j
 have e : (⟨g, 0, none⟩ : Addr).add j = ⟨g, j, none⟩ := by
  unfold Addr.add
  split <;> simp_all
 rw [e, this]; simpa using hu
theorem wp_worldT {c : Code} {P : Program} {Q : Exit → Act → World → Prop} {a : Act} {w : World} (h : ∀ W, W = w → c.wp P Q a W) : c.wp P Q a w := h w rfl
open Go.RowKit Go.Shelf
attribute [local go_sem] Oper.semAt_some
theorem ret_all {tmps : Array Value} {g : Nat} {a z : Int} {w : World} {b : Value} (h : Blk w g 23 #[.int .i64 a, .int .i64 z]) (hp : tmps.getD 4 undef = .pointer (some ⟨g, 0, none⟩)) (hu : tmps.getD 5 undef = b) :
  (results Tryz.f10 tmps).run Tryz.prog w = .ok (.tuple #[.agg #[.int .i64 a, .int .i64 z], b]) w := by
 have c0 := h.cell 0
 have c1 := h.cell 1
 rw [results_cell_tmp Tryz.results10, hp, hu]
 simp [go_sem, c0, c1]
set_option maxRecDepth 100000 in
set_option maxHeartbeats 4000000 in
theorem oall_any {s : Shop} {A : Option Addr} {n ca m : Nat} {klo khi : Int} (he : (check7 s).2.2 = 0) (hca : n ≤ ca) (hm : m < n) (w : World) (g : Moulds (fun _ => True) w A n s.moulds) (h1 : s.klo = klo) (h2 : s.khi = khi) :
  Calls Tryz.prog 10 #[.agg #[.int .i64 klo, .int .i64 khi, .slice A n ca], .int .i64 (m : Int)] w fun e w' => e = .returned (.tuple #[.agg #[.int .i64 (allZ s m).1, .int .i64 (allZ s m).2], .bool true]) ∧ Below w.heap.size w w' := by
 have hk := okS_of he
 have hml : m < s.moulds.length := by rw [g.len]; exact hm
 have hcb := castsN_bd hk hml
 have hs0 : (seen7 s []).2 = 0 := by rw [seen_ok he (by simp) (fun y hy => by cases hy) (k := 0) (tw := [])]
 have hne := known_nil hk
 obtain ⟨c1, hc1⟩ : ∃ q : Nat, (castsN s m : Int) - 1 = q := ⟨castsN s m - 1, by omega⟩
 obtain ⟨a1, ha1⟩ : ∃ x, (size7 s [] m ((0 : Nat) : Int)).1 = x := ⟨_, rfl⟩
 obtain ⟨z1, hz1⟩ : ∃ x, (size7 s [] m ((0 : Nat) : Int)).2 = x := ⟨_, rfl⟩
 obtain ⟨a2, ha2⟩ : ∃ x, (size7 s [] m (c1 : Int)).1 = x := ⟨_, rfl⟩
 obtain ⟨z2, hz2⟩ : ∃ x, (size7 s [] m (c1 : Int)).2 = x := ⟨_, rfl⟩
 have HALL : Hid (allZ s m = (a1, z2)) := by
  rw [Hid, allZ, hc1, hz2]
  exact congrArg (fun x => (x, z2)) ha1
 have HS1 : Hid (sizesR s [] (m : Int) ((0 : Nat) : Int) = ((a1, z1), 0)) := by rw [Hid, sizesR_in hs0 hk hml (by omega) hne, ← ha1, ← hz1]
 have HS2 : Hid (sizesR s [] (m : Int) (c1 : Int) = ((a2, z2), 0)) := by rw [Hid, sizesR_in hs0 hk hml (by omega) hne, ← ha2, ← hz2]
 obtain ⟨b, off, sn, p1, p2, p3, p4, cs, rfl, hbb, q0, q1, q2, q3, q4, q5, hsn, Hy⟩ := Moulds.get g hm
 have hcs : (castsN s m : Int) = cs := by rw [hcb.2.2, getD_of Hy.out]
 have wc : IntKind.i64.wrap (cs - 1) = (c1 : Int) := by rw [← hc1, ← hcs, IntKind.wrap_i64]; omega
 obtain ⟨g2, hg2⟩ : ∃ q, w.heap.size = q := ⟨_, rfl⟩
 obtain ⟨g4, hg4⟩ : ∃ q, g2 + 1 = q := ⟨_, rfl⟩
 obtain ⟨W, hW⟩ : ∃ W, (w.alloc (.cells #[.int .i64 klo, .int .i64 khi, .slice (some ⟨b, off, none⟩) n ca] 26)).alloc (.cells #[.int .i64 0, .int .i64 0] 23) = W := ⟨_, rfl⟩
 have X : Blk W g2 26 #[.int .i64 klo, .int .i64 khi, .slice (some ⟨b, off, none⟩) n ca] := by rw [← hW]; exact (Blk.new _ _ _ hg2.symm).alloc _
 have Y : Blk W g4 23 #[.int .i64 0, .int .i64 0] := by rw [← hW]; exact Blk.new _ _ _ (by simp [hg2, hg4])
 have hBW : Below w.heap.size w W := by rw [← hW]; exact bl_alloc (bl_alloc (Below.refl _ _) _ (Nat.le_refl _)) _ (Nat.le_refl _)
 have HG : Hid (∀ V, Below W.heap.size W V → Moulds (fun _ => True) V (some ⟨b, off, none⟩) n s.moulds) := fun V hb => (g.keep MouldR.good (Keeps.below hBW)).keep MouldR.good (Keeps.below hb)
 have kx : Hid (∀ V, Below W.heap.size W V → V.cell? ⟨g2, 0, none⟩ = some (.int .i64 klo) ∧ V.cell? ⟨g2, 1, none⟩ = some (.int .i64 khi) ∧ V.cell? ⟨g2, 2, none⟩ = some (.slice (some ⟨b, off, none⟩) n ca) ∧ V.cell? ⟨b, off + m * 6 + 5, none⟩ = some (.int .i64 cs)) := fun V hb => ⟨(X.bl hb).cell 0, (X.bl hb).cell 1, (X.bl hb).cell 2, getc (bl_call hBW hb (Nat.le_refl _)) q5⟩
 have hw4 : w.heap.size ≤ g4 := by omega
 have hmi : (m : Int) < n := by omega
 have hgle := g.le
 have X4 := Lib.hid Y
 have HBW := Lib.hid hBW
 obtain ⟨x0, x1, x2, xc⟩ := kx.out W (Below.refl _ _)
 clear ha1 hz1 ha2 hz2 hc1 hcb hcs q0 q1 q2 q3 q4 q5 X Y hBW g hs0 hne
 refine (callsIn_wide (n := 1)).1 ?_
 refine callsIn_of_wp Tryz.func10 rfl trivial ?_ rfl
 simp only [Tryz.ntmps10, List.size_toArray, List.length_cons, List.length_nil, Nat.reduceAdd, Nat.reduceSub, Array.replicate_succ, Array.replicate_zero, List.push_toArray, List.append_toArray, List.nil_append, List.cons_append]
 gi_wp2_with fail
 refine ⟨trivial, ?_⟩
 have hsz := ksizes_any (ca := ca) (cc := 0) (m : Int) ((0 : Nat) : Int) W (HG.out W (Below.refl _ _)) (SliceOf.nil _ _ _ _ _ : SeenCs (fun _ => True) W none 0 []) hca h1 h2
 rw [HS1.out] at hsz
 clear x0 x1 x2 xc hW
 refine (callsIn_wide.2 hsz).mono ?_
 rintro e V1 ⟨rfl, b1⟩
 obtain ⟨g6, hg6⟩ : ∃ q, V1.heap.size = q := ⟨_, rfl⟩
 obtain ⟨V2, hV2⟩ : ∃ V, V1.alloc (.cells #[.int .i64 a1, .int .i64 z1] 23) = V := ⟨_, rfl⟩
 have X6 : Hid (Blk V2 g6 23 #[.int .i64 a1, .int .i64 z1]) := by rw [Hid, ← hV2]; exact Blk.new _ _ _ hg6.symm
 have H02 : Hid (Below W.heap.size W V2) := by rw [Hid, ← hV2]; exact bl_alloc b1 _ (Nat.le_refl _)
 have HB2 : Hid (Below w.heap.size w V2) := bl_call HBW.out H02.out (Nat.le_refl _)
 have kk : Hid (∀ V, Below V2.heap.size V2 V → V.cell? ⟨g2, 0, none⟩ = some (.int .i64 klo) ∧ V.cell? ⟨g2, 1, none⟩ = some (.int .i64 khi) ∧ V.cell? ⟨g2, 2, none⟩ = some (.slice (some ⟨b, off, none⟩) n ca) ∧ V.cell? ⟨b, off + m * 6 + 5, none⟩ = some (.int .i64 cs)) := fun V hb => kx.out V (bl_call H02.out hb (Nat.le_refl _))
 have HC2 : Hid (∀ V, Below V2.heap.size V2 V → Calls Tryz.prog 20 #[.agg #[.int .i64 klo, .int .i64 khi, .slice (some ⟨b, off, none⟩) n ca], .slice none 0 0, .agg #[.int .i64 (m : Int), .int .i64 (c1 : Int)]] V fun e w' => e = .returned (.tuple #[.agg #[.int .i64 a2, .int .i64 z2], .int .i64 0]) ∧ Below V.heap.size V w') := fun V hb => by
  have h := ksizes_any (ca := ca) (cc := 0) (m : Int) (c1 : Int) V (HG.out V (bl_call H02.out hb (Nat.le_refl _))) (SliceOf.nil _ _ _ _ _ : SeenCs (fun _ => True) V none 0 []) hca h1 h2
  rw [HS2.out] at h
  exact h
 clear b1 hsz
 gi_wp2_with fail
 clear hV2 hg6
 refine wpIn_region_inva (F := Fence.wide) (r := none) rfl (InvN V2 23 #[.int .i64 0, .int .i64 0] #[.int .i64 a2, .int .i64 z2] (fun i => [.agg #[.int .i64 klo, .int .i64 khi, .slice (some ⟨b, off, none⟩) n ca], .int .i64 (m : Int), .pointer (some ⟨g2, 2, none⟩), .slice (some ⟨b, off, none⟩) n ca, .int .i64 (m : Int), .pointer (some ⟨b, off + m * 6, none⟩), .pointer (some ⟨b, off + m * 6 + 5, none⟩), .int .i64 cs, .int .i64 (c1 : Int), .agg #[.int .i64 (m : Int), .int .i64 (c1 : Int)], .tuple #[.agg #[.int .i64 a2, .int .i64 z2], .int .i64 0], .tuple #[.agg #[.int .i64 a2, .int .i64 z2], .int .i64 0], .agg #[.int .i64 a2, .int .i64 z2], .int .i64 0, undef, undef, .int .i64 0].getD i undef) 14 15) (by kernel_rfl) (by kernel_rfl) (by kernel_rfl) InvN.zero ?step ?fin
 case step =>
  refine StepsI.cons ?_ (StepsI.cons ?_ (StepsI.cons ?_ (StepsI.cons ?_ (StepsI.cons ?_ (StepsI.cons ?_ (StepsI.cons ?_ (StepsI.cons ?_ (StepsI.cons ?_ (StepsI.cons ?_ (StepsI.cons ?_ (StepsI.cons ?_ (StepsI.cons ?_ (StepsI.cons ?_ (StepsI.cons ?_ (StepsI.cons ?_ (StepsI.cons ?_ StepsI.nil))))))))))))))))
  all_goals
   refine StepI.of ?_
   intro ls vs W9 K hI hl hw hU hK
   simp only [fillA, Act.put, List.setIfInBounds_toArray, List.set_cons_zero, List.set_cons_succ, Nat.zero_add, Nat.reduceAdd] at hK ⊢
   have hC := hI.1
  ·
   obtain ⟨k0, k1, k2, kc⟩ := kk.out W9 hC
   go_simp
   exact hK _ _ (hI.step (Below.refl _ _) (by decide) (by decide) rfl)
  ·
   go_simp
   exact hK _ _ (hI.step (Below.refl _ _) (by decide) (by decide) rfl)
  ·
   go_simp
   exact hK _ _ (hI.step (Below.refl _ _) (by decide) (by decide) rfl)
  ·
   have q2 : vs 2 = .pointer (some ⟨g2, 2, none⟩) := hI.val (hw 2 (by simp [waits, Region.binds])) (by decide) (by decide)
   simp only [q2] at hK ⊢
   obtain ⟨k0, k1, k2, kc⟩ := kk.out W9 hC
   go_simp
   exact hK _ _ (hI.step (Below.refl _ _) (by decide) (by decide) rfl)
  ·
   go_simp
   exact hK _ _ (hI.step (Below.refl _ _) (by decide) (by decide) rfl)
  ·
   have q3 : vs 3 = .slice (some ⟨b, off, none⟩) n ca := hI.val (hw 3 (by simp [waits, Region.binds])) (by decide) (by decide)
   have q4 : vs 4 = .int .i64 (m : Int) := hI.val (hw 4 (by simp [waits, Region.binds])) (by decide) (by decide)
   simp only [q3, q4] at hK ⊢
   go_simp
   exact hK _ _ (hI.step (Below.refl _ _) (by decide) (by decide) rfl)
  ·
   have q5 : vs 5 = .pointer (some ⟨b, off + m * 6, none⟩) := hI.val (hw 5 (by simp [waits, Region.binds])) (by decide) (by decide)
   simp only [q5] at hK ⊢
   go_simp
   exact hK _ _ (hI.step (Below.refl _ _) (by decide) (by decide) rfl)
  ·
   have q6 : vs 6 = .pointer (some ⟨b, off + m * 6 + 5, none⟩) := hI.val (hw 6 (by simp [waits, Region.binds])) (by decide) (by decide)
   simp only [q6] at hK ⊢
   obtain ⟨k0, k1, k2, kc⟩ := kk.out W9 hC
   go_simp
   exact hK _ _ (hI.step (Below.refl _ _) (by decide) (by decide) rfl)
  ·
   have q7 : vs 7 = .int .i64 cs := hI.val (hw 7 (by simp [waits, Region.binds])) (by decide) (by decide)
   simp only [q7] at hK ⊢
   go_simp
   exact hK _ _ (hI.step (Below.refl _ _) (by decide) (by decide) rfl)
  ·
   have q1 : vs 1 = .int .i64 (m : Int) := hI.val (hw 1 (by simp [waits, Region.binds])) (by decide) (by decide)
   have q8 : vs 8 = .int .i64 (c1 : Int) := hI.val (hw 8 (by simp [waits, Region.binds])) (by decide) (by decide)
   simp only [q1, q8] at hK ⊢
   go_simp
   exact hK _ _ (hI.step (Below.refl _ _) (by decide) (by decide) rfl)
  ·
   have q0 : vs 0 = .agg #[.int .i64 klo, .int .i64 khi, .slice (some ⟨b, off, none⟩) n ca] := hI.val (hw 0 (by simp [waits, Region.binds])) (by decide) (by decide)
   have q9 : vs 9 = .agg #[.int .i64 (m : Int), .int .i64 (c1 : Int)] := hI.val (hw 9 (by simp [waits, Region.binds])) (by decide) (by decide)
   simp only [q0, q9] at hK ⊢
   go_simp
   refine (HC2.out W9 hC).mono ?_
   rintro e w2 ⟨rfl, hb2⟩
   exact hK _ _ (hI.step hb2 (by decide) (by decide) rfl)
  ·
   have q10 : vs 10 = .tuple #[.agg #[.int .i64 a2, .int .i64 z2], .int .i64 0] := hI.val (hw 10 (by simp [waits, Region.binds])) (by decide) (by decide)
   simp only [q10] at hK ⊢
   go_simp
   exact hK _ _ (hI.step (Below.refl _ _) (by decide) (by decide) rfl)
  ·
   have q11 : vs 11 = .tuple #[.agg #[.int .i64 a2, .int .i64 z2], .int .i64 0] := hI.val (hw 11 (by simp [waits, Region.binds])) (by decide) (by decide)
   simp only [q11] at hK ⊢
   go_simp
   exact hK _ _ (hI.step (Below.refl _ _) (by decide) (by decide) rfl)
  ·
   have q11 : vs 11 = .tuple #[.agg #[.int .i64 a2, .int .i64 z2], .int .i64 0] := hI.val (hw 11 (by simp [waits, Region.binds])) (by decide) (by decide)
   simp only [q11] at hK ⊢
   go_simp
   exact hK _ _ (hI.step (Below.refl _ _) (by decide) (by decide) rfl)
  ·
   have hs := (hU 15 _ rfl (by simp [waits, Region.binds])).1
   go_simp
   exact hK _ _ (hI.laid (by decide) hs)
  ·
   have q12 : vs 12 = .agg #[.int .i64 a2, .int .i64 z2] := hI.val (hw 12 (by simp [waits, Region.binds])) (by decide) (by decide)
   obtain ⟨q, q14, hq, hb⟩ := hI.blk (hw 14 (by simp [waits, Region.binds]))
   have h15 : ls 15 = false := hl
   rw [h15] at hb
   have hb : Blk W9 q 23 #[.int .i64 0, .int .i64 0] := hb
   simp only [q12, q14] at hK ⊢
   have z0 := hb.cell 0
   have z1 := hb.cell 1
   have fz0 := hb.frozen 0
   have fz1 := hb.frozen 1
   have hlq := hb.lt
   obtain ⟨VF, hVF⟩ : ∃ V, (W9.setCell ⟨q, 0, none⟩ (.int .i64 a2)).setCell ⟨q, 1, none⟩ (.int .i64 z2) = V := ⟨_, rfl⟩
   have BF : Below V2.heap.size V2 VF := by rw [← hVF]; exact bl_set (bl_set hC hq _) hq _
   have XF : Blk VF q 23 #[.int .i64 a2, .int .i64 z2] := by rw [← hVF]; exact (hb.set_ 0 _).set_ 1 _
   go_simp
   exact hK undef _ (hI.store (by decide) (hw 14 (by simp [waits, Region.binds])) BF q14 hq XF)
  have q13 : vs 13 = .int .i64 0 := hI.val (hw 13 (by simp [waits, Region.binds])) (by decide) (by decide)
  simp only [q13] at hK ⊢
  go_simp
  exact hK _ _ (hI.step (Below.refl _ _) (by decide) (by decide) rfl)
 intro ls vs W9 hI hl
 have q16 : vs 16 = .int .i64 0 := hI.val (hl 16 (by decide)) (by decide) (by decide)
 obtain ⟨q, q14, hq, hb⟩ := hI.blk (hl 14 (by decide))
 rw [hl 15 (by decide)] at hb
 have hb : Blk W9 q 23 #[.int .i64 a2, .int .i64 z2] := hb
 have hC := hI.1
 simp only [fillA, Act.put, List.setIfInBounds_toArray, List.set_cons_zero, List.set_cons_succ, Nat.zero_add, Nat.reduceAdd, q14, q16]
 obtain ⟨u0, hu0⟩ : ∃ v0, vs 0 = v0 := ⟨_, rfl⟩
 obtain ⟨u1, hu1⟩ : ∃ v0, vs 1 = v0 := ⟨_, rfl⟩
 obtain ⟨u2, hu2⟩ : ∃ v0, vs 2 = v0 := ⟨_, rfl⟩
 obtain ⟨u3, hu3⟩ : ∃ v0, vs 3 = v0 := ⟨_, rfl⟩
 obtain ⟨u4, hu4⟩ : ∃ v0, vs 4 = v0 := ⟨_, rfl⟩
 obtain ⟨u5, hu5⟩ : ∃ v0, vs 5 = v0 := ⟨_, rfl⟩
 obtain ⟨u6, hu6⟩ : ∃ v0, vs 6 = v0 := ⟨_, rfl⟩
 obtain ⟨u7, hu7⟩ : ∃ v0, vs 7 = v0 := ⟨_, rfl⟩
 obtain ⟨u8, hu8⟩ : ∃ v0, vs 8 = v0 := ⟨_, rfl⟩
 obtain ⟨u9, hu9⟩ : ∃ v0, vs 9 = v0 := ⟨_, rfl⟩
 obtain ⟨u10, hu10⟩ : ∃ v0, vs 10 = v0 := ⟨_, rfl⟩
 obtain ⟨u11, hu11⟩ : ∃ v0, vs 11 = v0 := ⟨_, rfl⟩
 obtain ⟨u12, hu12⟩ : ∃ v0, vs 12 = v0 := ⟨_, rfl⟩
 obtain ⟨u13, hu13⟩ : ∃ v0, vs 13 = v0 := ⟨_, rfl⟩
 rw [hu0, hu1, hu2, hu3, hu4, hu5, hu6, hu7, hu8, hu9, hu10, hu11, hu12, hu13]
 clear hu0 hu1 hu2 hu3 hu4 hu5 hu6 hu7 hu8 hu9 hu10 hu11 hu12 hu13 hI hl q14 q16
 have b0 := hb.cell 0
 have b1 := hb.cell 1
 have B6 := X6.out.bl hC
 have s0 := B6.cell 0
 have s1 := B6.cell 1
 have B4 := (X4.out.bl H02.out).bl hC
 have t0 := B4.cell 0
 have t1 := B4.cell 1
 have ft0 := B4.frozen 0
 have ft1 := B4.frozen 1
 have lt4 := B4.lt
 obtain ⟨VF, hVF⟩ : ∃ V, (W9.setCell ⟨g4, 0, none⟩ (.int .i64 a1)).setCell ⟨g4, 1, none⟩ (.int .i64 z2) = V := ⟨_, rfl⟩
 have XF : Blk VF g4 23 #[.int .i64 a1, .int .i64 z2] := by rw [← hVF]; exact (B4.set_ 0 _).set_ 1 _
 have BF : Below w.heap.size w VF := by rw [← hVF]; exact bl_set (bl_set (bl_call HB2.out hC (Nat.le_refl _)) hw4 _) hw4 _
 have HXF := Lib.hid XF
 have HBF := Lib.hid BF
 clear hb B6 B4 XF BF hC
 gi_wp2_with fail
 refine bodyPost_ret (ret_all HXF.out rfl rfl) rfl ?_
 exact ⟨by rw [HALL.out]; rfl, by rw [← hg2]; exact HBF.out⟩
end Go.Proofs.YtkpbchnggdnmaaaGreat
