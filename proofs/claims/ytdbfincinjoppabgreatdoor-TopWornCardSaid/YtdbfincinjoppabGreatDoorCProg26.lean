/- A part of the proof that TopWorn always answers true. -/
import Derived.Maps.OwnIn
import Derived.Sort.MapsRangeIn
import Derived.Test.YtdbfincinjoppabGreatDoorCProg24
set_option linter.all false
namespace Go.Proofs.YtdbfincinjoppabGreatDoor
open Go.RowKit Go.Shelf Go.Maps
attribute [local go_sem] Oper.semAt_some
theorem wpListIn_append_t {F : Fence} {n0 : Nat} {P : Program} {ops : Array Oper} {rest : List Oper} {o : Oper} {a : Act} {Q : Exit → Act → World → Prop} (w : World) (hgd : o.guard = none) (s x : Operand) (t : TypeId)
  (ho : o.op = .call { callee := .builtin .append, args := #[s, x], argTypes := #[t, t] })
  {α : Type} {R : Rd α} {m : Nat} (T : Foot) (g : R.Good m) (base : Nat) (e : TypeId) (i : TypeInfo) (z : Value) (bytes : Nat) (ht : P.underlying t = some (.slice e)) (hi : P.info? e = some i) (hz : i.zero = some z)
  (hsize : i.size = m) (hby : i.bytes = bytes) (hzs : z.cells.size = m) (hsz : 0 < m)
  (v : Value) (xs : List α) (y : α) (n : Nat) (hn : xs.length = n) (hs : a.eval s = v) (hown : OwnT T R m w base e v xs)
  (ad : Addr) (c : Nat) (news : List Value) (hx : a.eval x = .slice (some ad) 1 c) (hR : R (fun k => T k ∧ v.ownBlock ≠ some k) w y news) (hnews : ∀ j u, news[j]? = some u → w.cell? (ad.add j) = some u)
  (h63 : n + 1 ≤ maxLen) (hbytes : (n + 1) * bytes ≤ 140737488355328) (hbase : base ≤ w.heap.size)
  (h : ∀ A' cap' w', OwnT T R m w' base e (.slice (some ⟨A', 0, none⟩) (n + 1) cap') (xs ++ [y]) → w.grownBy w' v.ownBlock → (v.ownBlock = some A' ∨ A' = w.heap.size) → wpListIn F n0 P ops Q rest (a.put o.dst (.slice (some ⟨A', 0, none⟩) (n + 1) cap')) w') : wpListIn F n0 P ops Q (o :: rest) a w := by
 obtain ⟨h0, cells, hrow, hcells⟩ := hown
 have hb : OwnL R m (fun k => (T k ∧ v.ownBlock ≠ some k) ∧ k < w.heap.size) w base e v xs := ⟨fun k hk h => h0 k hk h.1, cells, hrow, fun k x hx => by
  obtain ⟨vs, hR, hc⟩ := hcells k x hx
  exact ⟨vs, g.bound hR, hc⟩⟩
 refine wpListIn_append_n w hgd s x t ho g base e i z bytes ht hi hz hsize hby hzs hsz v xs y n hn hs hb ad c news hx (g.bound hR) hnews h63 hbytes hbase (fun h => absurd h.2 (Nat.lt_irrefl _)) ?_
 intro A' cap' w' ho' hg' hat'
 refine h A' cap' w' ?_ hg' hat'
 obtain ⟨h1, cells', hrow', hcells'⟩ := ho'
 refine ⟨fun k hk hc => hc.2 hk, cells', hrow', fun k x hx => ?_⟩
 obtain ⟨vs, hR', hc⟩ := hcells' k x hx
 refine ⟨vs, g.mono hR' fun j hj => ⟨hj.1.1, fun hA => ?_⟩, hc⟩
 have hA' : A' = j := by simpa [Value.ownBlock] using hA
 subst hA'
 rcases hat' with e | e
 ·exact hj.1.2 e
 have := hj.2; omega
theorem Kept.grown1 {r : Nat} {A B : World} (h : Kept (fun k => k = r) A B) : A.grownBy B (some r) := ⟨h.os, h.tape, h.output, h.size, fun i hi hne => h.block i hi (fun e => hne (by rw [e]))⟩
theorem Below.grown0 {A B : World} (h : Below A.heap.size A B) : A.grownBy B none := ⟨h.os, h.tape, h.output, h.size, fun i hi _ => h.block i hi⟩
abbrev KeysI := KeysZ Tryz.prog 3 3
theorem wf_wrap (x : Int) : (Lit.int .i64 (IntKind.i64.wrap x)).wf = true := by rw [IntKind.wrap_i64]; exact wf_i64 (by omega) (by omega)
def setsP (L : List (List Int)) (x : Int) : Prop := ∃ t ∈ L, (setN t : Int) = x
theorem setsP_snoc {L : List (List Int)} {t : List Int} (x : Int) : setsP (L ++ [t]) x ↔ (x = (setN t : Int) ∨ setsP L x) := by
 simp [setsP, or_and_right, exists_or]
 constructor
 ·rintro (h | h)
  ·exact .inr h
  exact .inl h.symm
 rintro (h | h)
 ·exact .inr h.symm
 exact .inl h
theorem sort_own {W : World} {base k cap : Nat} {Ad : Option Addr} {vs : List Nat} (hO : OwnT (fun j => base ≤ j) (SlR IntR 1) 1 W base 45 (.slice Ad k cap) (vs.map listN)) (hk : vs.length = k) (h32 : ∀ v ∈ vs, v < 32) (hnd : vs.Nodup) (h12 : k ≤ 12) :
  Calls Tryz.prog 43 #[.slice Ad k cap, .func (.func 44) #[] #[]] W fun e w' => e = .returned (.tuple #[]) ∧
   ∃ Y : List Nat, (Y.Pairwise fun a b => rankN a < rankN b) ∧ (∀ v, v ∈ Y ↔ v ∈ vs) ∧ Rows (fun j => base ≤ j) w' Ad k (Y.map listN) ∧ Kept (fun j => base ≤ j) W w' := by
 obtain ⟨h0, cells, hrow, hcells⟩ := hO
 rcases hrow.2 with ⟨hv, hn⟩ | ⟨g, cap', cur, hv, hb, hg, hnc, _, hsz, htk⟩
 ·rw [List.length_map] at hn
  injection hv with e1 e2 e3
  subst e1 e2 e3
  have hv0 : vs = [] := List.eq_nil_of_length_eq_zero hn
  subst hv0
  refine (sort_nil W).mono ?_
  rintro e w' ⟨he, rfl⟩
  exact ⟨he, [], List.Pairwise.nil, fun v => Iff.rfl, SliceOf.nil _ _ _ _ _, Kept.refl _ _⟩
 injection hv with e1 e2 e3
 subst e1 e3
 simp only [List.length_map] at htk hnc e2
 have hgl : g < W.heap.size := (Array.getElem?_eq_some_iff.1 hg).1
 have hB : Blk W g 45 cur := hg
 have hcon := sort_rows (S := fun j => base ≤ j ∧ (Value.slice (some ⟨g, 0, none⟩) k cap).ownBlock ≠ some j) (w := W) (blk := g) (cap := cap) (xs := vs) (fun h => h.2 rfl) hgl (fun i v hi => by
   obtain ⟨us, ⟨A', n', c', rfl, hI⟩, hc⟩ := hcells i (listN v) (by rw [List.getElem?_map, hi]; rfl)
   have hcell := hc 0 _ rfl
   rw [← htk, List.getElem?_take, if_pos (by have := of_getq' hi; omega)] at hcell
   refine ⟨h32 v (List.mem_of_getElem? hi), A', n', c', ?_, hI⟩
   rw [hB.cell i]
   simpa using hcell) (fun i _ => hB.frozen i) (by omega) hnd
 rw [hk] at hcon
 refine hcon.mono ?_
 rintro e w' ⟨he, Y, h1, h2, h3, h4⟩
 exact ⟨he, Y, h1, h2, h3.mono (SlR.good IntR.good) (fun j hj => hj.elim (fun h => h.1) (fun h => by rw [h]; exact hb)), h4.mono fun j _ hj => by rw [hj]; exact hb⟩
def okB (y x : Nat) : Bool := decide (y = x) || decide (y - (y &&& x) ≠ 0)
def Inn (L : List (List Int)) (x : Nat) (left : Lit → Bool) (lb : Bool) : Prop := lb = true ↔ ∀ y : Nat, y < 32 → setsP L y → left (.int .i64 y) = false → okB y x = true
theorem same_lit {x y : Int} (h : (Lit.int .i64 y).sameKey (.int .i64 x) = true) : y = x := by
 have := WideAt.sameKey_eq h
 injection this
theorem same_self (x : Int) : (Lit.int .i64 x).sameKey (.int .i64 x) = true := WideAt.sameKey_self (keyLit x)
theorem inn_step {L : List (List Int)} {x sy : Nat} {left : Lit → Bool} {lb : Bool} (h : Inn L x left lb) (hsy : sy < 32) (hs : setsP L sy) : Hid (Inn L x (fun z => left z && !z.sameKey (.int .i64 sy)) (lb && okB sy x)) := by
 unfold Hid Inn at *
 rw [Bool.and_eq_true, h]
 constructor
 ·rintro ⟨h1, h2⟩ y hy hys hl
  cases hl2 : left (.int .i64 y)
  ·exact h1 y hy hys hl2
  simp only [hl2, Bool.true_and, Bool.not_eq_false'] at hl
  have := same_lit hl
  have : y = sy := by omega
  rw [this]; exact h2
 intro h1
 refine ⟨fun y hy hys hl => h1 y hy hys (by simp [hl]), h1 sy hsy hs (by simp [same_self])⟩
theorem inn_done {c : Claim} {x : Nat} {left : Lit → Bool} {lb : Bool} (h : Inn (agreeL c) x left lb) (hl : ∀ kl, left kl = false) (hx : setsP (agreeL c) x) : leastB c x = lb := by
 apply Bool.eq_iff_iff.2
 unfold Inn at h
 rw [leastB, Bool.and_eq_true, List.any_eq_true, List.all_eq_true]
 refine Iff.trans ?_ h.symm
 constructor
 ·rintro ⟨_, h2⟩ y hy ⟨t, ht, he⟩ _
  have := h2 t ht
  have he : setN t = y := by omega
  rw [he] at this
  exact this
 intro h1
 obtain ⟨t, ht, he⟩ := hx
 exact ⟨⟨t, ht, by simp; omega⟩, fun u hu => h1 (setN u) (setN_lt u) ⟨u, hu, rfl⟩ (hl _)⟩
def VsOk (c : Claim) (left : Lit → Bool) (vs : List Nat) : Prop := vs.Nodup ∧ (∀ v ∈ vs, v < 32 ∧ leastB c v = true ∧ left (.int .i64 v) = false) ∧ ∀ v : Nat, v < 32 → leastB c v = true → left (.int .i64 v) = false → v ∈ vs
theorem VsOk.len {c : Claim} {left : Lit → Bool} {vs : List Nat} (h : VsOk c left vs) : vs.length ≤ 10 :=
 anti_len h.1 (fun v hv => (h.2.1 v hv).1) (fun a ha b hb hne => least_anti (h.2.1 a ha).2.1 (h.2.1 b hb).2.1 hne)
theorem VsOk.yes {c : Claim} {left : Lit → Bool} {vs : List Nat} {x : Nat} (h : VsOk c left vs) (hx : x < 32) (hl : leastB c x = true) (hleft : left (.int .i64 x) = true) : Hid (VsOk c (fun z => left z && !z.sameKey (.int .i64 x)) (vs ++ [x])) := by
 obtain ⟨h1, h2, h3⟩ := h
 refine ⟨?_, fun v hv => ?_, fun v hv hvl hvf => ?_⟩
 ·refine List.nodup_append.2 ⟨h1, by simp, fun a ha b hb e => ?_⟩
  rw [List.mem_singleton] at hb
  have := (h2 a ha).2.2
  rw [e, hb, hleft] at this
  cases this
 ·rcases List.mem_append.1 hv with hv | hv
  ·obtain ⟨g1, g2, g3⟩ := h2 v hv
   exact ⟨g1, g2, by simp [g3]⟩
  rw [List.mem_singleton] at hv
  subst hv
  exact ⟨hx, hl, by simp [same_self]⟩
 cases hl2 : left (.int .i64 v)
 ·exact List.mem_append_left _ (h3 v hv hvl hl2)
 simp only [hl2, Bool.true_and, Bool.not_eq_false'] at hvf
 have := same_lit hvf
 have : v = x := by omega
 rw [this]; exact List.mem_append_right _ (List.mem_singleton.2 rfl)
theorem VsOk.no {c : Claim} {left : Lit → Bool} {vs : List Nat} {x : Nat} (h : VsOk c left vs) (hl : leastB c x = false) : Hid (VsOk c (fun z => left z && !z.sameKey (.int .i64 x)) vs) := by
 obtain ⟨h1, h2, h3⟩ := h
 refine ⟨h1, fun v hv => ?_, fun v hv hvl hvf => ?_⟩
 ·obtain ⟨g1, g2, g3⟩ := h2 v hv
  exact ⟨g1, g2, by simp [g3]⟩
 cases hl2 : left (.int .i64 v)
 ·exact h3 v hv hvl hl2
 simp only [hl2, Bool.true_and, Bool.not_eq_false'] at hvf
 have := same_lit hvf
 have : v = x := by omega
 rw [this, hl] at hvl; cases hvl
theorem VsOk.start {c : Claim} {left : Lit → Bool} (hl : ∀ v : Nat, v < 32 → leastB c v = true → left (.int .i64 v) = true) : Hid (VsOk c left []) :=
 ⟨List.Pairwise.nil, (fun v h => by cases h), fun v hv hvl hvf => by rw [hl v hv hvl] at hvf; cases hvf⟩
theorem least_sets {c : Claim} {v : Nat} (h : leastB c v = true) : setsP (agreeL c) v := by
 unfold leastB at h
 simp only [Bool.and_eq_true, List.any_eq_true, decide_eq_true_eq] at h
 obtain ⟨t, ht, rfl⟩ := h.1
 exact ⟨t, ht, rfl⟩
set_option maxRecDepth 100000 in
set_option maxHeartbeats 8000000 in
theorem bsets_any {A B C : Option Addr} {n ca m cb q cc : Nat} {c : Claim} (w : World) (htab : TabOk w) (h : ClaimAt (fun _ => True) w A n B m C q c) (hca : n ≤ ca) (hcb : m ≤ cb) :
  Calls Tryz.prog 11 #[.agg #[.slice A n ca, .slice B m cb, .slice C q cc]] w fun e w' => ∃ A1 n1 c1, e = .returned (.tuple #[.slice A1 n1 c1, .int .i64 (setsR c).2]) ∧ Rows (fun k => w.heap.size ≤ k) w' A1 n1 (setsR c).1 ∧ Below w.heap.size w w' := by
 by_cases he : err c = 0
 ·have hok := okC_of he
  have Herr : Hid (errI c 0 1 = 0) := by rw [Hid, errI, if_neg (by simp [he]), if_pos (by rfl)]
  have HR : Hid (setsR c = (setsLB c, 0)) := by rw [Hid, setsR, if_neg (by simp [he])]
  have Hm := Lib.hid h.cs.len
  have hm5 : m ≤ 5 := by rw [← Hm.out]; exact hok.nc
  have hmm := @run_makeMap Tryz.prog
  clear he
  refine (callsIn_wide (n := 1)).1 ?_
  refine callsIn_of_wp_marks Tryz.func11 rfl trivial ?_ rfl
  simp only [Tryz.ntmps11, List.size_toArray, List.length_cons, List.length_nil, Nat.reduceAdd, Nat.reduceSub, Array.replicate_succ, Array.replicate_zero, List.push_toArray, List.append_toArray, List.nil_append, List.cons_append]
  gi_wp2_with fail
  refine ⟨trivial, ?_⟩
  refine (callsIn_wide.2 (check61_any 0 1 _ (h.keep (Keeps.alloc _ _)) hca hcb (by decide) (by decide))).mono ?_
  rintro e w1 ⟨rfl, hb1⟩
  rw [Herr.out]
  have hcb1 : Blk w1 w.heap.size 44 #[.slice A n ca, .slice B m cb, .slice C q cc] := (Blk.new _ _ _ rfl).bl hb1
  have hBw1 : Below w.heap.size w w1 := bl_call (bl_alloc (Below.refl _ _) _ (Nat.le_refl _)) hb1 (Nat.le_refl _)
  have hc1 := h.keep (Keeps.below hBw1)
  have hb0 := hcb1.cell 0
  have hb1' := hcb1.cell 1
  have hb2 := hcb1.cell 2
  have hbl := hcb1.lt
  have hbl2 : w.heap.size < w1.heap.size + 1 := by omega
  clear hb1 h
  gi_wp2_with (first | (refine ⟨trivial, ?_⟩; gi_at_call 37; refine (callsIn_wide.2 (btruths_any _)).mono ?_; rintro e w' ⟨rfl, rfl⟩) | (gi_at_call 37; refine (callsIn_wide.2 (btruths_any _)).mono ?_; rintro e w' ⟨rfl, rfl⟩))
  obtain ⟨W2, hW2⟩ : ∃ W2, ((w1.alloc (.map #[] 0)).alloc (.cells #[.map (some w1.heap.size)] 103)).alloc (.cells #[.slice A n ca, .slice B m cb, .slice C q cc] 95) = W2 := ⟨_, rfl⟩
  have hk2 : Below w1.heap.size w1 W2 := by rw [← hW2]; exact bl_alloc (bl_alloc (bl_alloc (Below.refl _ _) _ (Nat.le_refl _)) _ (Nat.le_refl _)) _ (Nat.le_refl _)
  have hs2 : W2.heap.size = w1.heap.size + 1 + 1 + 1 := by rw [← hW2]; simp
  have hgm : KeysI W2 w1.heap.size 0 (setsP ((agreeL c).take 0)) := by
   rw [← hW2]
   have h1 := KeysZ.new (P := Tryz.prog) (k := 3) (e := 3) w1
   have h2 := h1.at (w' := (w1.alloc (.map #[] 0)).alloc (.cells #[.map (some w1.heap.size)] 103)) (Below.heap_alloc _ _ _ h1.lt)
   have h3 := h2.at (w' := ((w1.alloc (.map #[] 0)).alloc (.cells #[.map (some w1.heap.size)] 103)).alloc (.cells #[.slice A n ca, .slice B m cb, .slice C q cc] 95)) (Below.heap_alloc _ _ _ h2.lt)
   exact h3.congr (fun x => by simp [setsP])
  have hgb : Blk W2 (w1.heap.size + 1) 103 #[.map (some w1.heap.size)] := by rw [← hW2]; exact (Blk.new _ _ _ (by simp)).alloc _
  have hgx : Blk W2 (w1.heap.size + 1 + 1) 95 #[.slice A n ca, .slice B m cb, .slice C q cc] := by rw [← hW2]; exact Blk.new _ _ _ (by simp)
  rw [hW2]
  clear hW2 hb0 hb1' hb2 hmm
  have hc2 := hc1.keep (Keeps.below hk2)
  have ht2 := (htab.bl hBw1).bl hk2
  have hs2a : w1.heap.size + 3 ≤ W2.heap.size := by omega
  have hs2b : W2.heap.size ≤ w1.heap.size + 3 := by omega
  clear hs2
  have hagl : (agreeL c).length ≤ 32768 := Nat.le_trans (List.length_filter_le _ _) (allT_len hok).1
  obtain ⟨OM, hOM⟩ : ∃ OM : Foot, OM = fun k => k = w1.heap.size := ⟨_, rfl⟩
  have hOa : OM w1.heap.size := by rw [hOM]
  have hOx : ∀ k, OM k → k = w1.heap.size := by rw [hOM]; exact fun k h => h
  have hold : ∀ {A' : World} {g : Nat} {t : TypeId} {cs : Array Value}, Blk W2 g t cs → ¬ OM g → Kept (fun k => OM k ∨ W2.heap.size ≤ k) W2 A' → Blk A' g t cs := fun hB hg hK =>
   (hK.block _ hB.lt (fun h => h.elim hg (fun h => by have := hB.lt; omega))).trans hB
  have hNb : ¬ OM (w1.heap.size + 1) := fun h => by have := hOx _ h; omega
  have hNx : ¬ OM (w1.heap.size + 1 + 1) := fun h => by have := hOx _ h; omega
  have hbig : ∀ {A' : World}, Kept (fun k => OM k ∨ W2.heap.size ≤ k) W2 A' → Below w1.heap.size w1 A' := fun hK => hk2.trans (hK.below (B := w1.heap.size) (by omega) (fun k h => h.elim (fun h => by have := hOx k h; omega) (fun h => by omega)))
  refine rangeFunc_outer (m := 1) (gf := 69) (lb := #[.pointer (some ⟨w1.heap.size + 1 + 1, 0, none⟩)]) rfl eg_truths (truths_seq (A0 := A) (B0 := B) (C0 := C) (n := n) (ca := ca) (mm := m) (cb := cb) (q := q) (cc := cc) hok (w1.heap.size + 1 + 1)) (fun _ => rfl) OM
   (fun i O A => O = OM ∧ i ≤ 32768 ∧ KeysI A w1.heap.size i (setsP ((agreeL c).take i))) (fun _ _ _ => False) (fun k h => by have := hOx k h; omega)
   (fun A' hK => ⟨hold hgx hNx hK, hc1.keep (Keeps.below (hbig hK))⟩) ?stay (fun _ _ _ _ h _ _ => h) ⟨rfl, Nat.zero_le _, hgm⟩ ?round ?done (fun _ _ _ _ h _ _ _ _ _ => h.elim)
  case stay =>
   rintro i O A' B' ⟨rfl, hi, h1⟩ hlt hK
   exact ⟨rfl, hi, h1.at (hK.block _ h1.lt (fun h => h hOa))⟩
  case round =>
   rintro l i x O A1 hx ⟨rfl, hi, h1⟩ hlt hsub hK hnl hlA hWl
   have hil : i < 32768 := Nat.lt_of_lt_of_le (of_getq hx) hagl
   have hgb1 := hold hgb hNb hK
   have htv : tv x = .agg #[.int .i64 (x.getD 0 0), .int .i64 (x.getD 1 0), .int .i64 (x.getD 2 0), .int .i64 (x.getD 3 0), .int .i64 (x.getD 4 0)] := rfl
   have hsn : setN x = setN [x.getD 0 0, x.getD 1 0, x.getD 2 0, x.getD 3 0, x.getD 4 0] := rfl
   generalize x.getD 0 0 = a0 at htv hsn
   generalize x.getD 1 0 = a1 at htv hsn
   generalize x.getD 2 0 = a2 at htv hsn
   generalize x.getD 3 0 = a3 at htv hsn
   generalize x.getD 4 0 = a4 at htv hsn
   have HTK : Hid ((agreeL c).take (i + 1) = (agreeL c).take i ++ [x]) := take_snoc_get hx
   have hxl := setN_lt x
   have HSS := Lib.hid (fun y => setsP_snoc (L := (agreeL c).take i) (t := x) y)
   generalize setN x = sx at hsn hxl HSS
   have HSET : Hid (∀ W, Calls Tryz.prog 38 #[.agg #[.int .i64 a0, .int .i64 a1, .int .i64 a2, .int .i64 a3, .int .i64 a4]] W fun e w' => e = .returned (.int .i64 sx) ∧ Below W.heap.size W w') := fun W => by rw [hsn]; exact set63_any a0 a1 a2 a3 a4 W
   have HTV := Lib.hid htv
   have HK := Lib.hid hK
   have H1 := Lib.hid h1
   clear htv hsn hK h1 hx
   rw [fold1, HTV.out]
   simp only [List.setIfInBounds_toArray, List.set_cons_zero, List.set_cons_succ]
   gi_wp2
   refine ⟨Kept.alloc _ _ _, fun A2 hK2 hs2' _ => ?_⟩
   have hs3 : A1.heap.size + 1 ≤ A2.heap.size := by have := hK2.size; simpa using this
   clear hs2'
   have kA : Kept (fun k => k = l) A1 A2 := (Kept.alloc (fun k => k = l) A1 (.cells #[.int .i64 a0, .int .i64 a1, .int .i64 a2, .int .i64 a3, .int .i64 a4] 98)).trans hK2
   have hT2 : Blk A2 A1.heap.size 98 #[.int .i64 a0, .int .i64 a1, .int .i64 a2, .int .i64 a3, .int .i64 a4] := (hK2.block A1.heap.size (by simp) (by omega)).trans (Blk.new _ _ _ rfl)
   have hB2 : Blk A2 (w1.heap.size + 1) 103 #[.map (some w1.heap.size)] := (kA.block _ hgb1.lt (by omega)).trans hgb1
   have hM2 : KeysI A2 w1.heap.size i (setsP ((agreeL c).take i)) := H1.out.at (kA.block _ H1.out.lt (by omega))
   have HML : Hid (w1.heap.size < A2.heap.size) := hM2.lt
   obtain ⟨cv, hlook⟩ := hM2.look (t := 103) Tryz.underlying3 Tryz.underlying3 Tryz.underlying103 zeroInt (x := (sx : Int)) (wf_i64 (by omega) (by omega))
   have HLK := Lib.hid hlook
   have kk : Hid (∀ W, Below A2.heap.size A2 W → W.cell? ⟨w1.heap.size + 1, 0, none⟩ = some (.map (some w1.heap.size)) ∧ W.cell? ⟨A1.heap.size, 0, none⟩ = some (.int .i64 a0) ∧ W.cell? ⟨A1.heap.size, 1, none⟩ = some (.int .i64 a1) ∧ W.cell? ⟨A1.heap.size, 2, none⟩ = some (.int .i64 a2) ∧ W.cell? ⟨A1.heap.size, 3, none⟩ = some (.int .i64 a3) ∧ W.cell? ⟨A1.heap.size, 4, none⟩ = some (.int .i64 a4)) :=
    fun W hb => ⟨(hB2.bl hb).cell 0, (hT2.bl hb).cell 0, (hT2.bl hb).cell 1, (hT2.bl hb).cell 2, (hT2.bl hb).cell 3, (hT2.bl hb).cell 4⟩
   clear hlook
   gi_wp2
   refine wpIn_region_list1 (F := Fence.wide.inRound l) (r := some l) rfl (fun W => Below A2.heap.size A2 W) (fun w w' => Below w.heap.size w w')
    [isV (.map (some w1.heap.size)), isV (.agg #[.int .i64 a0, .int .i64 a1, .int .i64 a2, .int .i64 a3, .int .i64 a4]), isV (.int .i64 sx), isV (.int .i64 cv), isV (.int .i64 (IntKind.i64.wrap (cv + 1)))]
    (by kernel_rfl) (by kernel_rfl) (by kernel_rfl) (by simp) (by simp) (Below.refl _ _).drew ?stab7 ?step7 ?fin7
   case stab7 => exact (StabL.is (StabL.is (StabL.is (StabL.is (StabL.is StabL.nil)))))
   case step7 =>
    refine StepsL.isA ?_ (StepsL.isA ?_ (StepsL.isA ?_ (StepsL.isA ?_ (StepsL.isA ?_ StepsL.nil))))
    all_goals intro vs a W K ha hC hD hU hK
    all_goals try rw [if_pos (by rfl)]
    ·
     have r4 : a.tmps[4]? = some (.pointer (some ⟨w1.heap.size + 1, 0, none⟩)) := by rw [ha]; kernel_rfl
     clear ha hU hD
     obtain ⟨k0, k1, k2, k3, k4, k5⟩ := kk.out W hC
     go_simp
     exact hK _ hC (Below.refl _ _)
    ·
     have r5 : a.tmps[5]? = some (.pointer (some ⟨A1.heap.size, 0, none⟩)) := by rw [ha]; kernel_rfl
     clear ha hU hD
     obtain ⟨k0, k1, k2, k3, k4, k5⟩ := kk.out W hC
     go_simp
     exact hK _ hC (Below.refl _ _)
    ·
     have r20 : a.tmps[20]? = some (vs 1) := by rw [ha]; kernel_rfl
     have q1 : vs 1 = .agg #[.int .i64 a0, .int .i64 a1, .int .i64 a2, .int .i64 a3, .int .i64 a4] := hD 1 (by simp [waits, Region.binds])
     rw [q1] at r20
     clear ha hU hD
     go_simp
     refine (HSET.out _).mono ?_
     rintro e w' ⟨rfl, hb⟩
     exact hK _ (bl_call hC hb (Nat.le_refl _)) hb
    ·
     have r19 : a.tmps[19]? = some (vs 0) := by rw [ha]; kernel_rfl
     have q0 : vs 0 = .map (some w1.heap.size) := hD 0 (by simp [waits, Region.binds])
     rw [q0] at r19
     have r21 : a.tmps[21]? = some (vs 2) := by rw [ha]; kernel_rfl
     have q2 : vs 2 = .int .i64 sx := hD 2 (by simp [waits, Region.binds])
     rw [q2] at r21
     clear ha hU hD
     have hlk := HLK.out W (hC.block _ HML.out)
     go_simp
     exact hK _ hC (Below.refl _ _)
    have r22 : a.tmps[22]? = some (vs 3) := by rw [ha]; kernel_rfl
    have q3 : vs 3 = .int .i64 cv := hD 3 (by simp [waits, Region.binds])
    rw [q3] at r22
    clear ha hU hD
    go_simp
    exact hK _ hC (Below.refl _ _)
   intro vs W hC hE hU
   have e0 := hE 0 (by simp)
   have e2 := hE 2 (by simp)
   have e4 := hE 4 (by simp)
   simp only [envOf, List.getD_cons_succ, List.getD_cons_zero, isV] at e0 e2 e4
   simp only [fillA, Act.put, List.setIfInBounds_toArray, List.set_cons_zero, List.set_cons_succ, Nat.zero_add, Nat.reduceAdd, e0, e2, e4]
   clear e0 e2 e4 hE hU
   simp [Region.wanted, yielded]
   obtain ⟨W5, hrun5, hM5, hg5⟩ := (hM2.at (hC.block _ HML.out)).put (t := 103) Tryz.underlying3 Tryz.underlying3 Tryz.underlying103 (x := (sx : Int)) (wf_i64 (by omega) (by omega)) (by unfold maxLen; omega) (IntKind.i64.wrap (cv + 1)) (wf_wrap _)
   have hke : Kept O A2 W5 := ((Kept.of_bl hC).trans (Kept.grown hg5 (fun j hj => by injection hj with hj; rw [← hj]; exact hOa)))
   have HFIN : Hid (KeysI W5 w1.heap.size (i + 1) (setsP ((agreeL c).take (i + 1)))) := by rw [Hid, HTK.out]; exact hM5.congr (fun y => (HSS.out y).symm)
   clear hM5 hg5
   go_simp
   exact ⟨hke, O, fun k h => .inl h, rfl, by omega, HFIN.out⟩
  rintro O W' D ⟨rfl, _, h1⟩ hO hK hD hnD hDb
  rw [List.take_length] at h1
  have hBW' : Below w.heap.size w W' := hBw1.trans ((hbig hK).mono (by have := hBw1.size; omega))
  have hgbW := hold hgb hNb hK
  have htW := htab.bl hBW'
  have h1w := htab.lt
  have hw1W : w1.heap.size + 3 ≤ W'.heap.size := Nat.le_trans hs2a hK.size
  have hDl : D < W'.heap.size := (Array.getElem?_eq_some_iff.1 hDb).1
  have hwl1 : w.heap.size ≤ w1.heap.size := hBw1.size
  obtain ⟨Dm, hown, hDm⟩ := h1.ex
  have HDM := Lib.hid hDm
  have hbm : w1.heap.size < W'.heap.size := by omega
  clear h1 hDm hK hold hbig hgb hgm hgx hc1 hc2 hcb1
  simp only [Exit.inBlock, Exit.then]
  have hbx := hgbW.cell 0
  gi_wp2_with (first
   | (gi_at_range; refine wpListIn_range_own _ rfl _ 103 rfl 3 3 (int_keyed Tryz.underlying3) Tryz.underlying103 _ w1.heap.size _ Dm rfl hown ?_; intro w0 hrg0 hg0 hs0)
   | gi_in)
  go_frame
  obtain ⟨bm, hbmE⟩ : ∃ bm, w1.heap.size = bm := ⟨_, rfl⟩
  obtain ⟨r, hrE⟩ : ∃ r, W'.heap.size = r := ⟨_, rfl⟩
  have hKw0 : Kept (fun _ => False) W' w0 := ⟨hg0.os, hg0.tape, hg0.output, hg0.size, fun i hi _ => hg0.block i hi (by simp)⟩
  have hgb0 : Blk w0 (bm + 1) 103 #[.map (some bm)] := by rw [← hbmE]; exact (hKw0.block _ hgbW.lt (fun h => h)).trans hgbW
  have hD0 : w0.heap[D]? = some (.deferred (some [])) := (hKw0.block _ hDl (fun h => h)).trans hDb
  have hB0 : Below w.heap.size w w0 := hBW'.trans (hKw0.below (by have := hBW'.size; omega) (fun k h => h.elim))
  have ht0 := htab.bl hB0
  have hs0a : r + 1 ≤ w0.heap.size := by rw [← hrE]; omega
  rw [hbmE] at hrg0 hbm hw1W hwl1
  rw [hrE] at hrg0 hbm hDl hw1W
  rw [hbmE, hrE]
  have hDr : D < r := hDl
  have hbr : bm < r := hbm
  have hbr1 : bm + 1 < r := by omega
  have hwb : w.heap.size ≤ bm := hwl1
  have hDw : w.heap.size ≤ D := by omega
  obtain ⟨nn, hnn⟩ : ∃ nn, (agreeL c).length = nn := ⟨_, rfl⟩
  rw [hnn] at hrg0
  clear hg0 hs0 hrE hbmE hKw0 hgbW hDb hown hbx htW hBW' htab ht2 hbm hDl hw1W hwl1 hnn
  have hst0 : Hid (VsOk c (has Dm) []) := VsOk.start (fun v hv hl => (HDM.out v).2 (least_sets hl))
  gi_loopw [2, 6, 7, 8] (fun s _ _ _ W => ∃ (left : Lit → Bool) (cnt : Nat) (Ad : Option Addr) (k cap : Nat) (vs : List Nat), s = .slice Ad k cap ∧ Hid (vs.length = k) ∧ W.ranges Tryz.prog 3 (plainElem Tryz.prog 3) bm r nn Dm left cnt ∧
   OwnT (fun j => w0.heap.size ≤ j) (SlR IntR 1) 1 W w0.heap.size 45 (.slice Ad k cap) (vs.map listN) ∧ Kept (fun j => j = r) w0 W ∧ Hid (VsOk c left vs)) (fun _ _ _ _ W => W.rangeLeft bm r)
  case atStart => exact ⟨_, _, none, 0, 0, [], rfl, rfl, hrg0, OwnT.nil _ _ _ _ _ _, Kept.refl _ _, hst0⟩
  obtain ⟨left, cnt, Ad, k, cap, vs, rfl, Hk, hrg, hO, hKr, HV⟩ := hrel
  have hk10 : k ≤ 10 := by rw [← Hk.out]; exact HV.out.len
  gi_wp2_with (first
   | (gi_at_next; refine wpListIn_next_ranges_ii _ rfl _ rfl 3 3 .i64 .i64 (int_keyed Tryz.underlying3) Tryz.underlying3 Tryz.underlying3 bm r _ _ _ _ rfl hrg ?_ ?_)
   | gi_in)
  ·intro _ hl0
   have hYs : ∀ Y : List Nat, (Y.Pairwise fun a b => rankN a < rankN b) → (∀ v, v ∈ Y ↔ v ∈ vs) → setsLB c = Y.map listN := fun Y h1 h2 => sorted_least hok h1 (fun v => by
    rw [h2 v]
    exact ⟨fun hv => ⟨(HV.out.2.1 v hv).1, (HV.out.2.1 v hv).2.1⟩, fun hv => HV.out.2.2 v hv.1 hv.2 (hl0 _)⟩)
   have HYS := Lib.hid hYs
   have HS := Lib.hid (sort_own hO Hk.out (fun v hv => (HV.out.2.1 v hv).1) HV.out.1 (by omega))
   clear hYs hl0 hO
   gi_wp2_with (first
    | (refine ⟨trivial, ?_⟩; gi_at_call 43; refine (callsIn_wide.2 HS.out).mono ?_; rintro e w' ⟨rfl, Y, hY1, hY2, hRows, hKs⟩)
    | (gi_at_call 43; refine (callsIn_wide.2 HS.out).mono ?_; rintro e w' ⟨rfl, Y, hY1, hY2, hRows, hKs⟩))
   have hDb' : w'.heap[D]? = some (.deferred (some [])) := (hKs.block _ (Nat.lt_of_lt_of_le (by omega) hKr.size) (by omega)).trans ((hKr.block _ (by omega) (by omega)).trans hD0)
   have hBf : Below w.heap.size w w' := (hB0.trans (hKr.below hB0.size (fun j hj => by omega))).trans (hKs.below (Nat.le_trans hB0.size hKr.size) (fun j hj => by omega))
   have hY := HYS.out Y hY1 hY2
   refine ⟨by simp, .inl ⟨_, _, rfl, run_takeDeferred hDb', ?_⟩⟩
   refine ⟨_, results_tmp2 rfl _ _ _, Ad, k, cap, by rw [HR.out]; rfl, ?_, bl_put hBf hDw _⟩
   rw [HR.out]
   dsimp only
   rw [hY]
   exact (hRows.put (SlR.good IntR.good) (by omega) _).mono (SlR.good IntR.good) (fun j hj => by omega)
  intro x cv w2 cnt1 hwx hwc hlx hat hrg1 hlt1 hg1 hs1 hen
  obtain ⟨sx, hsx, hsp⟩ : ∃ sx : Nat, x = sx ∧ setsP (agreeL c) x ∧ sx < 32 := by
   have h1 := (HDM.out x).1 (has_true_of_atKey hat)
   obtain ⟨t, ht, he⟩ := h1
   exact ⟨setN t, he.symm, ⟨t, ht, he⟩, setN_lt t⟩
  subst hsx
  obtain ⟨hsp, hsx32⟩ := hsp
  have hK2 : Kept (fun j => j = r) wr w2 := Kept.grown hg1 (fun j hj => by injection hj with hj; exact hj.symm)
  have hK02 := hKr.trans hK2
  have hgb2 : Blk w2 (bm + 1) 103 #[.map (some bm)] := (hK02.block _ hgb0.lt (by omega)).trans hgb0
  have hbx := hgb2.cell 0
  have hrl : r < w2.heap.size := Nat.lt_of_lt_of_le (by omega) hK02.size
  have HSP := Lib.hid hsp
  have HLX := Lib.hid hlx
  have HRG1 := Lib.hid hrg1
  have HLE : Hid (cnt1 < cnt) := hlt1
  clear hat hwx hwc hsp hlx hlt1 hg1 hs1
  gi_wp2_with (first
   | (gi_at_range; refine wpListIn_range_own _ rfl _ 103 rfl 3 3 (int_keyed Tryz.underlying3) Tryz.underlying103 _ bm _ Dm rfl hrg1.owns ?_; intro w3 hrg3 hg3 hs3)
   | gi_in)
  go_frame
  obtain ⟨r2, hr2⟩ : ∃ r2, w2.heap.size = r2 := ⟨_, rfl⟩
  have hK3 : Kept (fun _ => False) w2 w3 := ⟨hg3.os, hg3.tape, hg3.output, hg3.size, fun i hi _ => hg3.block i hi (by simp)⟩
  have hr23 : r2 < w3.heap.size := by rw [← hr2]; omega
  have hw2r : wr.heap.size ≤ r2 := by rw [← hr2]; exact hK2.size
  rw [hr2] at hrg3 ⊢
  have hgb3 : Blk w3 (bm + 1) 103 #[.map (some bm)] := (hK3.block _ hgb2.lt (fun h => h)).trans hgb2
  have HG3 : Hid (w2.grownBy w3 none) := hg3
  have hrr2 : r < r2 := by rw [← hr2]; exact hrl
  clear hrg1 hg3 hs3 hr2 hbx hgb2 hrl
  have hinn0 : Hid (Inn (agreeL c) sx (has Dm) true) := ⟨fun _ y _ hy hl => (by rw [(HDM.out y).2 hy] at hl; cases hl), fun _ => rfl⟩
  gi_loopw [7, 8] (fun l _ W => ∃ (left2 : Lit → Bool) (cnt2 : Nat) (lb : Bool), l = .bool lb ∧ W.ranges Tryz.prog 3 (plainElem Tryz.prog 3) bm r2 nn Dm left2 cnt2 ∧ Kept (fun j => j = r2) w3 W ∧ Hid (Inn (agreeL c) sx left2 lb)) (fun _ _ W => W.rangeLeft bm r2)
  case atStart => exact ⟨_, _, true, rfl, hrg3, Kept.refl _ _, hinn0⟩
  clear hrg3 hinn0
  obtain ⟨left2, cnt2, lb, rfl, hrgI, hKI, HI⟩ := hrel
  gi_wp2_with (first
   | (gi_at_next; refine wpListIn_next_ranges_ii _ rfl _ rfl 3 3 .i64 .i64 (int_keyed Tryz.underlying3) Tryz.underlying3 Tryz.underlying3 bm r2 _ _ _ _ rfl hrgI ?_ ?_)
   | gi_in)
  ·intro _ hl0
   have hlb := inn_done HI.out hl0 HSP.out
   have hKall := (hK2.trans (hK3.mono fun _ _ h => h.elim)).seq hKI (fun i hi h => absurd h (by omega))
   have hK0f := hKr.trans hKall
   have HRGf := Lib.hid (((HRG1.out.kept HG3.out (by simp) (by simp)).kept hKI.grown1 (by simp; omega) (by simp; omega)))
   have hLEf : Hid (wr.rangeLeft bm r < cnt) := by rw [Hid, HRGf.out.left_eq]; exact HLE.out
   have hO' := OwnL.keep (SlR.good IntR.good) hO ⟨hKall.size, fun j hj hlt => hKall.block j hlt (fun e => by
    have hjb : w0.heap.size ≤ j := hj.elim (fun h => h.1) (fun h => (OwnL.block hO j h).1)
    omega)⟩
   have HO' := Lib.hid hO'
   have HLFT := Lib.hid hrg.left_eq
   clear hl0 hKI hKall hK2 hrgI hO hO' hrg hK3 hgb3
   cases lb
   ·have hV := HV.out.no hlb
    gi_wp2
    go_roundw
    case rel => exact ⟨_, cnt1, Ad, k, cap, vs, rfl, Hk, HRGf.out, HO'.out, hK0f, hV⟩
    case measure => rw [HLFT.out]; exact hLEf.out
   have hV := HV.out.yes hsx32 hlb HLX.out
   have htI : TabOk wr := ht0.below (hK0f.below (B := r) (by omega) (fun j hj => by omega)) (by omega)
   have HL := Lib.hid (list64_any sx wr htI hsx32)
   obtain ⟨i0, hi0, hz0, hz1, hz2⟩ := info_parts infoInts
   clear htI
   gi_wp2_with (first
    | (refine ⟨trivial, ?_⟩; gi_at_call 39; refine (callsIn_wide.2 HL.out).mono ?_; rintro e wl ⟨A', n', c', rfl, hI, hbI⟩)
    | (gi_at_call 39; refine (callsIn_wide.2 HL.out).mono ?_; rintro e wl ⟨A', n', c', rfl, hI, hbI⟩)
    | (gi_at_builtin; refine wpListIn_append_t _ rfl (.tmp 49) (.tmp 52) _ rfl (fun j => w0.heap.size ≤ j) (SlR.good IntR.good) w0.heap.size 45 i0 _ 24 Tryz.underlying54 hi0 hz0 hz1 hz2 rfl (by omega) _ (vs.map listN) (listN sx) k (by simp [Hk.out]) rfl (OwnT.below (SlR.good IntR.good) HO'.out (bl_alloc hbI _ (Nat.le_refl _))) ⟨_, 0, none⟩ 1 [.slice A' n' c'] rfl ⟨A', n', c', rfl, (hI.mono IntR.good (fun j hj => ⟨Nat.le_trans hK0f.size hj, fun e => absurd (OwnL.block HO'.out j e).2 (Nat.not_lt.2 hj)⟩)).keep IntR.good (Keeps.alloc _ _)⟩ (news_new rfl rfl) ?c1 ?c2 ?c3 ?_))
   case c1 => simp only [maxLen]; omega
   case c2 => omega
   case c3 => have h1 := hK0f.size; have h2 := hbI.size; simp; omega
   intro Af capf wf hOf hgf hatf
   have hbI' : Below wr.heap.size wr (wl.alloc (.cells #[.slice A' n' c'] 45)) := bl_alloc hbI _ (Nat.le_refl _)
   have hob : ∀ j, (Value.slice Ad k cap).ownBlock = some j → w0.heap.size ≤ j := fun j h => (OwnL.block HO'.out j h).1
   have HRG6 := Lib.hid ((HRGf.out.kept (Below.grown0 hbI') (by simp) (by simp)).kept hgf (fun e => by have := hob bm e.symm; omega) (fun e => by have := hob r e.symm; omega))
   have hK6 : Kept (fun j => j = r) w0 wf := (hK0f.trans (Kept.of_bl hbI')).seq (Kept.grown (M := fun j => (Value.slice Ad k cap).ownBlock = some j) hgf (fun _ h => h)) (fun i hi e => by have := hob i e; omega)
   have hxs : vs.map listN ++ [listN sx] = (vs ++ [sx]).map listN := by simp
   have Hk6 : Hid ((vs ++ [sx]).length = k + 1) := by rw [Hid, List.length_append, Hk.out]; rfl
   have hO6 : OwnT (fun j => w0.heap.size ≤ j) (SlR IntR 1) 1 wf w0.heap.size 45 (.slice (some ⟨Af, 0, none⟩) (k + 1) capf) ((vs ++ [sx]).map listN) := by rw [← hxs]; exact hOf
   have HO6 := Lib.hid hO6
   have HLE6 : Hid (wf.rangeLeft bm r < cnt) := by rw [Hid, HRG6.out.left_eq]; exact HLE.out
   clear hOf hgf hatf hbI' hbI hI hxs hO6
   gi_wp2
   go_roundw
   case rel => exact ⟨_, cnt1, _, k + 1, capf, _, rfl, Hk6, HRG6.out, HO6.out, hK6, hV⟩
   case measure => rw [HLFT.out]; exact HLE6.out
  intro y cy w5 cnt5 hwy hwcy hly hat5 hrg5 hlt5 hg5 hs5 hen5
  obtain ⟨sy, hsy, hsyp⟩ : ∃ sy : Nat, y = sy ∧ setsP (agreeL c) y ∧ sy < 32 := by
   have h1 := (HDM.out y).1 (has_true_of_atKey hat5)
   obtain ⟨t, ht, he⟩ := h1
   exact ⟨setN t, he.symm, ⟨t, ht, he⟩, setN_lt t⟩
  subst hsy
  obtain ⟨hsyp, hsy32⟩ := hsyp
  have HI2 := inn_step HI.out hsy32 hsyp
  have hKI5 : Kept (fun j => j = r2) w3 w5 := hKI.trans (Kept.grown hg5 (fun j hj => by injection hj with hj; exact hj.symm))
  have HRG5 := Lib.hid hrg5
  have HLT5 : Hid (w5.rangeLeft bm r2 < wr.rangeLeft bm r2) := by rw [Hid, hrg5.left_eq, hrgI.left_eq]; exact hlt5
  have hand := bits_andNot32 sy hsy32 sx hsx32
  clear hat5 hwy hwcy hsyp hly hrg5 hg5 hs5 hlt5 hrgI
  cases lb
  ·gi_wp2
   go_roundw
   case rel => exact ⟨_, _, _, rfl, HRG5.out, hKI5, HI2⟩
   case measure => exact HLT5.out
  by_cases hyx : sy = sx
  ·have hok1 : okB sy sx = true := by simp [okB, hyx]
   rw [hok1] at HI2
   have hb1 : ((sy : Int) == (sx : Int)) = true := by simp [hyx]
   clear hyx hok1
   gi_wp2
   go_roundw
   case rel => exact ⟨_, _, _, rfl, HRG5.out, hKI5, HI2⟩
   case measure => exact HLT5.out
  have hb1 : ((sy : Int) == (sx : Int)) = false := by simp; omega
  obtain ⟨dv, hdv⟩ : ∃ dv, sy - (sy &&& sx) = dv := ⟨_, rfl⟩
  have hok1 : okB sy sx = decide (dv ≠ 0) := by simp [okB, hyx, hdv]
  rw [hok1] at HI2
  rw [hdv] at hand
  clear hyx hok1 hdv
  by_cases hd0 : dv = 0
  ·subst hd0
   gi_wp2
   go_roundw
   case rel => exact ⟨_, _, _, rfl, HRG5.out, hKI5, HI2⟩
   case measure => exact HLT5.out
  have hb2 : ((dv : Int) != 0) = true := by simp; omega
  rw [decide_eq_true hd0] at HI2
  clear hd0
  gi_wp2
  go_roundw
  case rel => exact ⟨_, _, _, rfl, HRG5.out, hKI5, HI2⟩
  case measure => exact HLT5.out
 have HR : Hid (setsR c = ([], err c)) := by rw [Hid, setsR, if_pos he]
 have Herr : Hid (errI c 0 1 = err c) := by rw [Hid, errI, if_pos he]
 have hbe : (err c != 0) = true := by simpa using he
 clear he
 generalize err c = ec at HR Herr hbe
 go_enter Tryz.func11, Tryz.ntmps11
 go_wp2_with fail
 refine (check61_any 0 1 _ (h.keep (Keeps.alloc _ _)) hca hcb (by decide) (by decide)).mono ?_
 rintro e w1 ⟨rfl, hb1⟩
 rw [Herr.out]
 have hBw1 : Below w.heap.size w w1 := bl_call (bl_alloc (Below.refl _ _) _ (Nat.le_refl _)) hb1 (Nat.le_refl _)
 go_wp2
 go_ret2
 exact ⟨none, 0, 0, by rw [HR.out]; rfl, by rw [HR.out]; exact SliceOf.nil _ _ _ _ _, hBw1⟩
end Go.Proofs.YtdbfincinjoppabGreatDoor
