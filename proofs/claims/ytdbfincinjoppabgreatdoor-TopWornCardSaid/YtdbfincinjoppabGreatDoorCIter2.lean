/- A part of the proof that TopWorn always answers true. -/
import Derived.Test.YtdbfincinjoppabGreatDoorCIter
import Derived.Test.YtdbfincinjoppabGreatDoorCProg9
set_option linter.all false
namespace Go.Proofs.YtdbfincinjoppabGreatDoor
open Go.RowKit
theorem fold1 (p : Tmp) (v : Value) (t : Array Value) : ((#[p] : Array Tmp).zip #[v]).foldl (fun t (p, v) => t.setIfInBounds p v) t = t.setIfInBounds p v := by simp
def RoundOf (F : Fence) (n m : Nat) (P : Program) (ps : Array Tmp) (assign body : Code) (tmps : Array Value) (O0 : Foot) (W0 : World) (J : Nat → Foot → World → Prop) (Jx : Code → Foot → World → Prop) {α : Type} (enc : α → Array Value) (L : List α) : Prop :=
 ∀ (l : Nat) (i : Nat) (x : α) (O : Foot) (A : World), L[i]? = some x → J i O A → (∀ k, O k → k < A.heap.size) → (∀ k, O k → O0 k ∨ W0.heap.size ≤ k) → Kept (fun k => O0 k ∨ W0.heap.size ≤ k) W0 A → ¬ O l → l < A.heap.size → W0.heap.size ≤ l →
  assign.wpIn (F.inRound l) m P (Exit.then (fun a1 A1 => Kept (fun _ => False) A A1 ∧ ∀ A2, Kept (fun k => k = l) A1 A2 → A2.heap.size = A1.heap.size → (∃ r2, A2.heap[l]? = some (.loop r2)) → body.wpIn (F.inRound l) m P (roundEnd l A A2 O (J (i + 1)) Jx) a1 A2) (fun _ _ _ => False))
   { tmps := (ps.zip (enc x)).foldl (fun t (p, v) => t.setIfInBounds p v) tmps, defers := [] } A
theorem rangeFunc_outer {α : Type} {n m : Nat} {P : Program} {g : Operand} {ps : Array Tmp} {assign body : Code} {Q : Exit → Act → World → Prop} {a : Act} {w : World}
    {gf : Nat} {lb : Array Value} (hg : a.eval g = .func (.func gf) #[] lb) (eg : ∀ args w, (callFunc gf args).run P w = .ok (.enter gf args) w)
    {enc : α → Array Value} {L : List α} {Inv : World → Prop} (hseq : SeqL P gf lb enc L Inv) (hps : ∀ x, (enc x).size = ps.size)
    (O0 : Foot) (J : Nat → Foot → World → Prop) (Jx : Code → Foot → World → Prop)
    (hO0 : ∀ k, O0 k → k < w.heap.size)
    (hInv : ∀ A, Kept (fun k => O0 k ∨ w.heap.size ≤ k) w A → Inv A)
    (hJ : ∀ i O A B, J i O A → (∀ k, O k → k < A.heap.size) → Kept (fun k => ¬ O k) A B → J i O B)
    (hJx : ∀ c O A B, Jx c O A → (∀ k, O k → k < A.heap.size) → Kept (fun k => ¬ O k) A B → Jx c O B)
    (h0 : J 0 O0 w)
    (hround : RoundOf Fence.wide n m P ps assign body a.tmps O0 w J Jx enc L)
    (hdone : ∀ O W D, J L.length O W → (∀ k, O k → O0 k ∨ (w.heap.size ≤ k ∧ k < W.heap.size)) → Kept (fun k => O0 k ∨ w.heap.size ≤ k) w W → w.heap.size ≤ D → ¬ O D → W.heap[D]? = some (.deferred (some [])) → Q .normal { a with defers := { target := .collected D, args := #[] } :: a.defers } W)
    (hstop : ∀ c O W D, Jx c O W → (∀ k, O k → O0 k ∨ (w.heap.size ≤ k ∧ k < W.heap.size)) → Kept (fun k => O0 k ∨ w.heap.size ≤ k) w W → w.heap.size ≤ D → ¬ O D → W.heap[D]? = some (.deferred (some [])) → c.wpIn Fence.wide n P Q { a with defers := { target := .collected D, args := #[] } :: a.defers } W) :
    (Code.rangeFunc g ps assign body).wpIn Fence.wide n P Q a w := by
  have hk : Kept (fun _ => False) w (w.alloc (.deferred (some []))) := Kept.alloc _ _ _
  have hs : (w.alloc (.deferred (some []))).heap.size = w.heap.size + 1 := by simp
  have hD : (w.alloc (.deferred (some []))).heap[w.heap.size]? = some (.deferred (some [])) := World.alloc_heap_new w _
  have hbig : ∀ {A : World}, Kept (fun k => O0 k ∨ (w.alloc (.deferred (some []))).heap.size ≤ k) (w.alloc (.deferred (some []))) A → Kept (fun k => O0 k ∨ w.heap.size ≤ k) w A := fun hK =>
    hk.any.seq hK (fun i hi h => h.imp id (fun h => by omega))
  have hDd : ∀ (O : Foot) (W : World), (∀ k, O k → O0 k ∨ ((w.alloc (.deferred (some []))).heap.size ≤ k ∧ k < W.heap.size)) → Kept (fun k => O0 k ∨ (w.alloc (.deferred (some []))).heap.size ≤ k) (w.alloc (.deferred (some []))) W → ¬ O w.heap.size ∧ W.heap[w.heap.size]? = some (.deferred (some [])) := fun O W hO hK =>
    ⟨fun h => (hO _ h).elim (fun h => by have := hO0 _ h; omega) (fun h => by omega),
     (hK.block w.heap.size (by omega) (fun h => h.elim (fun h => by have := hO0 _ h; omega) (fun h => by omega))).trans hD⟩
  refine rangeFunc_core (r := none) rfl (w.alloc (.deferred (some []))) [{ target := .collected w.heap.size, args := #[] }] w.heap.size (m := m) ?_ hg eg hseq hps O0 J Jx
    (fun k h => by have := hO0 k h; omega) (fun A hK => hInv A (hbig hK)) hJ hJx (hJ _ _ _ _ h0 hO0 hk.any) ?_ ?_ ?_
  · intro fn
    rw [hs]
    exact run_enterLoop_outer _ _ _ _ _
  · intro l i x O A hx hj hlt hsub hK hnl hlA hWl
    exact hround l i x O A hx hj hlt (fun k h => (hsub k h).imp id (fun h => by omega)) (hbig hK) hnl hlA (by omega)
  · intro O W hj hO hK
    obtain ⟨h1, h2⟩ := hDd O W hO hK
    exact hdone O W _ hj (fun k h => (hO k h).imp id (fun h => ⟨by omega, h.2⟩)) (hbig hK) (Nat.le_refl _) h1 h2
  · intro c O W hj hO hK
    obtain ⟨h1, h2⟩ := hDd O W hO hK
    exact hstop c O W _ hj (fun k h => (hO k h).imp id (fun h => ⟨by omega, h.2⟩)) (hbig hK) (Nat.le_refl _) h1 h2
theorem rangeFunc_inner {α : Type} {l0 n m : Nat} {P : Program} {g : Operand} {ps : Array Tmp} {assign body : Code} {Q : Exit → Act → World → Prop} {a : Act} {w : World}
  (hr : ∃ r0, w.heap[l0]? = some (.loop r0))
  {gf : Nat} {lb : Array Value} (hg : a.eval g = .func (.func gf) #[] lb) (eg : ∀ args w, (callFunc gf args).run P w = .ok (.enter gf args) w)
  {enc : α → Array Value} {L : List α} {Inv : World → Prop} (hseq : SeqL P gf lb enc L Inv) (hps : ∀ x, (enc x).size = ps.size)
  (O0 : Foot) (J : Nat → Foot → World → Prop) (Jx : Code → Foot → World → Prop)
  (hO0 : ∀ k, O0 k → k < w.heap.size)
  (hInv : ∀ A, Kept (fun k => O0 k ∨ w.heap.size ≤ k) w A → Inv A)
  (hJ : ∀ i O A B, J i O A → (∀ k, O k → k < A.heap.size) → Kept (fun k => ¬ O k) A B → J i O B)
  (hJx : ∀ c O A B, Jx c O A → (∀ k, O k → k < A.heap.size) → Kept (fun k => ¬ O k) A B → Jx c O B)
  (h0 : J 0 O0 w)
  (hround : RoundOf (Fence.wide.inRound l0) n m P ps assign body a.tmps O0 w J Jx enc L)
  (hdone : ∀ O W, J L.length O W → (∀ k, O k → O0 k ∨ (w.heap.size ≤ k ∧ k < W.heap.size)) → Kept (fun k => O0 k ∨ w.heap.size ≤ k) w W → Q .normal a W)
  (hstop : ∀ c O W, Jx c O W → (∀ k, O k → O0 k ∨ (w.heap.size ≤ k ∧ k < W.heap.size)) → Kept (fun k => O0 k ∨ w.heap.size ≤ k) w W → c.wpIn (Fence.wide.inRound l0) n P Q a W) :
  (Code.rangeFunc g ps assign body).wpIn (Fence.wide.inRound l0) n P Q a w := by
 obtain ⟨r0, hr⟩ := hr
 refine rangeFunc_core (F := Fence.wide.inRound l0) (r := some l0) rfl w [] r0.defers (m := m) ?_ hg eg hseq hps O0 J Jx hO0 hInv hJ hJx h0 hround (fun O W hj hO hK => ?_) (fun c O W hj hO hK => ?_)
 ·intro fn
  exact run_enterLoop_inner hr _ _ _ _ _
 ·exact hdone O W hj hO hK
 exact hstop c O W hj hO hK
open Go.RowKit Go.Shelf
attribute [local go_sem] Oper.semAt_some
theorem eg_truths : Enters Tryz.prog 69 := enters_of Tryz.func69 (by kernel_rfl) rfl
def agreeB (c : Claim) (t : List Int) : Bool := (untrueL c t).isEmpty
def agreeK (c : Claim) (i : Nat) : List (List Int) := ((allT c.causes).take i).filter (agreeB c)
theorem agreeK_all (c : Claim) : agreeK c (allT c.causes).length = agreeL c := by unfold agreeK; rw [List.take_length]; rfl
theorem agreeK_yes {c : Claim} {i : Nat} {t : List Int} (h : (allT c.causes)[i]? = some t) (hu : untrueL c t = []) : agreeK c (i + 1) = agreeK c i ++ [t] := by
 unfold agreeK; rw [take_snoc_get h, List.filter_append]; simp [agreeB, hu]
theorem agreeK_no {c : Claim} {i : Nat} {t : List Int} (h : (allT c.causes)[i]? = some t) (hu : untrueL c t ≠ []) : agreeK c (i + 1) = agreeK c i := by
 unfold agreeK; rw [take_snoc_get h, List.filter_append]; simp [agreeB, hu]
theorem agreeK_get {c : Claim} {i : Nat} {t : List Int} (h : (allT c.causes)[i]? = some t) (hu : untrueL c t = []) : (agreeL c)[(agreeK c i).length]? = some t := by
 have : agreeL c = agreeK c i ++ t :: ((allT c.causes).drop (i + 1)).filter (agreeB c) := by
  have h1 : agreeL c = (((allT c.causes).take i) ++ (allT c.causes).drop i).filter (agreeB c) := by rw [List.take_append_drop]; rfl
  rw [h1, List.filter_append, drop_cons h, List.filter_cons, if_pos (by simp [agreeB, hu])]; rfl
 rw [this, List.getElem?_append_right (Nat.le_refl _)]
 simp
set_option maxRecDepth 100000 in
set_option maxHeartbeats 4000000 in
theorem truths_seq {A0 B0 C0 : Option Addr} {n ca mm cb q cc : Nat} {c : Claim} (hok : OkC c) (gc : Nat) :
  SeqL Tryz.prog 69 #[.pointer (some ⟨gc, 0, none⟩)] (fun t => #[tv t]) (agreeL c) (fun A => BoxAt A gc A0 n ca B0 mm cb C0 q cc c) := by
 intro l O0 J Jx W hO0 hInv hJ hJx hR h0
 have hI0 := hInv W (Kept.refl _ _)
 have hgc := hI0.box.lt
 have hb0 := hI0.box.cell 0
 have hb1 := hI0.box.cell 1
 have hb2 := hI0.box.cell 2
 have HI0 := Lib.hid hI0
 clear hI0
 rw [app11]
 refine (callsIn_wide (n := 1)).1 ?_
 refine callsIn_of_wp_marks Tryz.func69 rfl trivial ?_ rfl
 simp only [Tryz.ntmps69, List.size_toArray, List.length_cons, List.length_nil, Nat.reduceAdd, Nat.reduceSub, Array.replicate_succ, Array.replicate_zero, List.push_toArray, List.append_toArray, List.nil_append, List.cons_append]
 gi_wp2_with fail
 refine wpIn_wide.2 (wp_scope_straight ((wpIn_wide (n := 1)).1 ?_))
 have hl1 := oldc (o := .cells #[.func (.yield l) #[] #[]] 139) hb0
 have hl2 := oldc (o := .cells #[.func (.yield l) #[] #[]] 139) hb1
 have hl3 := oldc (o := .cells #[.func (.yield l) #[] #[]] 139) hb2
 clear hb0 hb1 hb2
 gi_wp2_with fail
 refine wpIn_label ?_
 gi_wp2_with (first | (refine ⟨trivial, ?_⟩; gi_at_call 57; refine (callsIn_wide.2 (ball_any _)).mono ?_; rintro e w' ⟨rfl, rfl⟩) | (gi_at_call 57; refine (callsIn_wide.2 (ball_any _)).mono ?_; rintro e w' ⟨rfl, rfl⟩))
 obtain ⟨W1, hW1⟩ : ∃ W1, (W.alloc (.cells #[.func (.yield l) #[] #[]] 139)).alloc (.cells #[.slice A0 n ca, .slice B0 mm cb, .slice C0 q cc] 95) = W1 := ⟨_, rfl⟩
 have hk1 : Kept (fun _ => False) W W1 := by rw [← hW1]; exact (Kept.alloc _ _ _).trans (Kept.alloc _ _ _)
 have hs1 : W1.heap.size = W.heap.size + 1 + 1 := by rw [← hW1]; simp
 have hy1 : Blk W1 W.heap.size 139 #[.func (.yield l) #[] #[]] := by rw [← hW1]; exact (Blk.new _ _ _ rfl).alloc _
 have hc1 : Blk W1 (W.heap.size + 1) 95 #[.slice A0 n ca, .slice B0 mm cb, .slice C0 q cc] := by rw [← hW1]; exact Blk.new _ _ _ (by simp)
 rw [hW1]
 clear hl1 hl2 hl3 hW1
 have hbig : ∀ {A : World}, Kept (fun k => O0 k ∨ W1.heap.size ≤ k) W1 A → Kept (fun k => O0 k ∨ W.heap.size ≤ k) W A := fun hK => hk1.any.seq hK (fun i hi h => h.imp id (fun h => by omega))
 have hold : ∀ {A : World} {g : Nat} {t : TypeId} {cs : Array Value}, Blk W1 g t cs → W.heap.size ≤ g → Kept (fun k => O0 k ∨ W1.heap.size ≤ k) W1 A → Blk A g t cs := fun hB hg hK =>
  (hK.block _ hB.lt (fun h => h.elim (fun h => by have := hO0 _ h; omega) (fun h => by have := hB.lt; omega))).trans hB
 refine rangeFunc_outer (m := 1) (gf := 87) (lb := #[.pointer (some ⟨W.heap.size + 1, 0, none⟩)]) rfl eg_all (all_seq (A0 := A0) (B0 := B0) (C0 := C0) (n := n) (ca := ca) (mm := mm) (cb := cb) (q := q) (cc := cc) hok (W.heap.size + 1)) (fun _ => rfl) O0
  (fun i O A => J (agreeK c i).length O A) (fun cd O A => cd = .ret ∧ Jx O A) (fun k h => by have := hO0 k h; omega)
  (fun A hK => ⟨hold hc1 (by omega) hK, (hInv A (hbig hK)).at_⟩) (fun i O A B => hJ _ O A B) (fun cd O A B h h1 h2 => ⟨h.1, hJx O A B h.2 h1 h2⟩)
  (hJ _ _ _ _ h0 hO0 hk1.any) ?round ?done ?stop
 case round =>
  intro l' i x O A hx hj hlt hsub hK hnl hlA hWl
  obtain ⟨hxl, hxT⟩ := allT_ok hok (List.mem_of_getElem? hx)
  have hbox := hInv A (hbig hK)
  have hmm : x.length = mm := by rw [hxl]; exact hbox.at_.cs.len
  have hm5 : mm ≤ 5 := by rw [← hmm, hxl]; exact hok.nc
  have h5 := five_take hmm hm5
  have htv : tv x = .agg #[.int .i64 (x.getD 0 0), .int .i64 (x.getD 1 0), .int .i64 (x.getD 2 0), .int .i64 (x.getD 3 0), .int .i64 (x.getD 4 0)] := rfl
  generalize x.getD 0 0 = a0 at htv h5
  generalize x.getD 1 0 = a1 at htv h5
  generalize x.getD 2 0 = a2 at htv h5
  generalize x.getD 3 0 = a3 at htv h5
  generalize x.getD 4 0 = a4 at htv h5
  have HTV := Lib.hid htv
  have H5 := Lib.hid h5
  have HX := Lib.hid hx
  have HJI := Lib.hid hj
  have Hmm := Lib.hid hmm
  have HK := Lib.hid hK
  have hyA := (hold hy1 (Nat.le_refl _) hK).cell 0
  have hlsz := hyA
  clear h5 htv hx hj hmm hxl hbox hK hlsz hyA
  rw [fold1, HTV.out]
  simp only [List.setIfInBounds_toArray, List.set_cons_zero, List.set_cons_succ]
  gi_wp2
  refine ⟨Kept.alloc _ _ _, fun A2 hK2 hs2 hr2 => ?_⟩
  simp only [World.size_alloc] at hs2
  have hs2a : A.heap.size + 1 ≤ A2.heap.size := by omega
  have hs2b : A2.heap.size ≤ A.heap.size + 1 := by omega
  clear hs2
  have kA : Kept (fun k => k = l') A A2 := (Kept.alloc (fun k => k = l') A (.cells #[.int .i64 a0, .int .i64 a1, .int .i64 a2, .int .i64 a3, .int .i64 a4] 98)).trans hK2
  have ht2 : Blk A2 A.heap.size 98 #[.int .i64 a0, .int .i64 a1, .int .i64 a2, .int .i64 a3, .int .i64 a4] := (hK2.block A.heap.size (by simp) (by omega)).trans (Blk.new _ _ _ rfl)
  have hK3 : Kept (fun k => O0 k ∨ W1.heap.size ≤ k) W1 A2 := HK.out.seq kA (fun k _ h => .inr (h ▸ hWl))
  have hB2 := hInv A2 (hbig hK3)
  have hj2 : J (agreeK c i).length O A2 := hJ _ _ _ _ HJI.out hlt (kA.mono fun k _ h hO => hnl (h ▸ hO))
  have hb0 := hB2.box.cell 0
  have hb1 := hB2.box.cell 1
  have hb2 := hB2.box.cell 2
  have ht0 := ht2.cell 0
  have ht1 := ht2.cell 1
  have ht3 := ht2.cell 2
  have ht4 := ht2.cell 3
  have ht5 := ht2.cell 4
  have HB2 := Lib.hid hB2
  have HK3 := Lib.hid hK3
  have HJ2 := Lib.hid hj2
  have HR2 := Lib.hid hr2
  have HKA := Lib.hid kA
  have HT2 := Lib.hid ht2
  clear hK2 kA hK3 hB2 hj2 hr2 ht2
  gi_wp2_with (first | (refine ⟨trivial, ?_⟩; gi_at_call 59; refine (CallsIn.inRound l' (callsIn_wide.2 (buntrue_any _))).mono ?_; rintro e w' ⟨rfl, rfl⟩) | (gi_at_call 59; refine (CallsIn.inRound l' (callsIn_wide.2 (buntrue_any _))).mono ?_; rintro e w' ⟨rfl, rfl⟩))
  obtain ⟨A3, hA3⟩ : ∃ A3, (A2.alloc (.cells #[.slice A0 n ca, .slice B0 mm cb, .slice C0 q cc] 95)).alloc (.cells #[.int .i64 a0, .int .i64 a1, .int .i64 a2, .int .i64 a3, .int .i64 a4] 98) = A3 := ⟨_, rfl⟩
  have hk3 : Kept (fun _ => False) A2 A3 := by rw [← hA3]; exact (Kept.alloc _ _ _).trans (Kept.alloc _ _ _)
  have hs3 : A3.heap.size = A2.heap.size + 1 + 1 := by rw [← hA3]; simp
  have hc3 : Blk A3 A2.heap.size 95 #[.slice A0 n ca, .slice B0 mm cb, .slice C0 q cc] := by rw [← hA3]; exact (Blk.new _ _ _ rfl).alloc _
  have hu3 : Blk A3 (A2.heap.size + 1) 98 #[.int .i64 a0, .int .i64 a1, .int .i64 a2, .int .i64 a3, .int .i64 a4] := by rw [← hA3]; exact Blk.new _ _ _ (by simp)
  rw [hA3]
  clear hb0 hb1 hb2 ht0 ht1 ht3 ht4 ht5 hA3
  have hlt2 : ∀ k, O k → k < A2.heap.size := fun k h => by have := hlt k h; omega
  have hold3 : ∀ {B : World} {g : Nat} {t : TypeId} {cs : Array Value}, Blk A3 g t cs → ¬ O g → Kept (fun k => O k ∨ A3.heap.size ≤ k) A3 B → Blk B g t cs := fun hB hg hK =>
   (hK.block _ hB.lt (fun h => h.elim hg (fun h => by have := hB.lt; omega))).trans hB
  have hbig3 : ∀ {B : World}, Kept (fun k => O k ∨ A3.heap.size ≤ k) A3 B → Kept O A2 B := by
   intro B hK
   refine (Kept.seq (M := fun k => O k ∨ A3.heap.size ≤ k) hk3.any hK (fun _ _ h => h)).mono ?_
   intro k hk h
   rcases h with h | h
   ·exact h
   omega
  have hNB : ∀ {B : World}, Kept O A2 B → Kept (fun k => O0 k ∨ W1.heap.size ≤ k) W1 B := fun hK => HK3.out.seq hK (fun k _ h => hsub k h)
  refine rangeFunc_inner (l0 := l') (m := 1) (gf := 90) (lb := #[.pointer (some ⟨A2.heap.size, 0, none⟩), .pointer (some ⟨A2.heap.size + 1, 0, none⟩)]) ?rec rfl eg_untrue
   (untrue_seq (A0 := A0) (B0 := B0) (C0 := C0) (n := n) (ca := ca) (mm := mm) (cb := cb) (q := q) (cc := cc) hok A2.heap.size (A2.heap.size + 1) a0 a1 a2 a3 a4 (by rw [H5.out]; exact hxT)) (fun _ => rfl) O
   (fun j O' B => j = 0 ∧ J (agreeK c i).length O' B) (fun cd O' B => cd = .exit 1 ∧ untrueL c x ≠ [] ∧ J (agreeK c i).length O' B) (fun k h => by have := hlt2 k h; omega)
   (fun B hK => ⟨⟨hold3 hc3 (fun h => by have := hlt2 _ h; omega) hK, (hInv B (hbig (hNB (hbig3 hK)))).at_⟩, hold3 hu3 (fun h => by have := hlt2 _ h; omega) hK⟩)
   (fun j O' A' B h h1 h2 => ⟨h.1, hJ _ O' A' B h.2 h1 h2⟩) (fun cd O' A' B h h1 h2 => ⟨h.1, h.2.1, hJ _ O' A' B h.2.2 h1 h2⟩)
   ⟨rfl, hJ _ _ _ _ HJ2.out hlt2 hk3.any⟩ ?round2 ?done2 ?stop2
  case rec => exact HR2.out.imp fun r0 h => (hk3.block l' (by omega) (fun h => h)).trans h
  case round2 =>
   intro l2 j y O2 B hy hj2 hlt3 hsub3 hK3 hnl3 hlB hWl3
   obtain ⟨rfl, hj3⟩ := hj2
   have hne : untrueL c x ≠ [] := by rw [H5.out] at hy; intro h; rw [h] at hy; simp at hy
   rw [fold1]
   simp only [List.setIfInBounds_toArray, List.set_cons_zero, List.set_cons_succ]
   gi_wp2
   refine ⟨Kept.refl _ _, fun B2 hK4 hs4 _ => ?_⟩
   gi_wp2
   exact ⟨Kept.refl _ _, O2, fun k h => .inl h, rfl, hne, hJ _ _ _ _ hj3 hlt3 (hK4.mono fun k _ h hO => hnl3 (h ▸ hO))⟩
  case done2 =>
   rintro O2 B ⟨hl0, hj3⟩ hO2 hK4
   rw [H5.out] at hl0
   have hun : untrueL c x = [] := List.eq_nil_of_length_eq_zero hl0
   have HUN := Lib.hid hun
   have hKB : Kept O A2 B := hbig3 hK4
   have hyB : Blk B W.heap.size 139 #[.func (.yield l) #[] #[]] := hold hy1 (Nat.le_refl _) (hNB hKB)
   have htB : Blk B A.heap.size 98 #[.int .i64 a0, .int .i64 a1, .int .i64 a2, .int .i64 a3, .int .i64 a4] := (hKB.block _ HT2.out.lt (fun h => by have := hlt _ h; omega)).trans HT2.out
   have hO2' : ∀ k, O2 k → O k ∨ (A.heap.size ≤ k ∧ k < B.heap.size) := fun k h => (hO2 k h).imp id (fun h => ⟨by omega, h.2⟩)
   obtain ⟨fn, tmps, assign, body, hy, hRd⟩ := hR _ x O2 B (agreeK_get HX.out hun) hj3 (fun k h => (hO2' k h).elim (fun h => by have := hlt2 k h; have := hKB.size; omega) (fun h => h.2)) (fun k h => (hO2' k h).elim (fun h => (hsub k h).imp id (fun h => by omega)) (fun h => .inr (by omega))) (hbig (hNB hKB)) 0
   rw [HTV.out] at hy
   have HRD := Lib.hid hRd
   have HKB := Lib.hid hKB
   have HO2 := Lib.hid hO2'
   have HO2c := Lib.hid hO2
   have hy0 := hyB.cell 0
   have ht0 := htB.cell 0
   have ht1 := htB.cell 1
   have ht3 := htB.cell 2
   have ht4 := htB.cell 3
   have ht5 := htB.cell 4
   clear hRd hKB hyB htB hO2' hun hO2 hK4 hl0 hj3
   gi_wp2_with fail
   refine RoundIn.mono (F := Fence.wide.inRound l') HRD.out ?_
   clear HRD
   rintro e B3 ⟨O3, hO3, hKB3, hcase⟩
   have HK4 : Hid (Kept O A2 B3) := by
    refine Kept.seq HKB.out hKB3 (fun k hk h => ?_)
    rcases HO2c.out k h with h2 | h2
    ·exact h2
    omega
   have HO4 : Hid (∀ k, O3 k → O k ∨ (A.heap.size ≤ k ∧ k < B3.heap.size)) := fun k h => (hO3 k h).elim (fun h => (HO2.out k h).imp id (fun h => ⟨h.1, by have := hKB3.size; omega⟩)) (fun h => .inr ⟨by have := HKB.out.size; omega, h.2⟩)
   clear hO3 hKB3
   rcases hcase with ⟨rfl, hj'⟩ | ⟨rfl, hx'⟩
   ·have HJ4 : Hid (J (agreeK c (i + 1)).length O3 B3) := by rw [Hid, agreeK_yes HX.out HUN.out]; simpa using hj'
    clear hj'
    gi_wp2
    exact ⟨HK4.out, O3, HO4.out, HJ4.out⟩
   gi_wp2
   exact ⟨HK4.out, O3, HO4.out, rfl, hx'⟩
  rintro cd O2 B ⟨rfl, hne, hj3⟩ hO2 hK4
  gi_wp2
  exact ⟨hbig3 hK4, O2, fun k h => (hO2 k h).imp id (fun h => ⟨by omega, h.2⟩), by rw [agreeK_no HX.out hne]; exact hj3⟩
 case done =>
  rintro O W' D hj hO hK hD hnD hDb
  rw [agreeK_all] at hj
  gi_wp2
  refine ⟨by simp, .inl ⟨_, _, rfl, run_takeDeferred hDb, ?_⟩⟩
  refine ⟨_, results_none rfl _ _ _, ⟨_, rfl⟩, (hbig (hK.mono fun k _ h => h)).trans (Kept.putObj _ _ _ (.inr (by omega))), O, fun k h => (hO k h).imp id (fun h => ⟨by omega, by simpa using h.2⟩), .inl (hJ _ _ _ _ hj (fun k h => (hO k h).elim (fun h => by have := hO0 k h; have := hK.size; omega) (fun h => h.2)) (Kept.putObj _ _ _ hnD))⟩
 rintro cd O W' D ⟨rfl, hx⟩ hO hK hD hnD hDb
 gi_wp2
 refine ⟨by simp, .inl ⟨_, _, rfl, run_takeDeferred hDb, ?_⟩⟩
 refine ⟨_, results_none rfl _ _ _, ⟨_, rfl⟩, (hbig (hK.mono fun k _ h => h)).trans (Kept.putObj _ _ _ (.inr (by omega))), O, fun k h => (hO k h).imp id (fun h => ⟨by omega, by simpa using h.2⟩), .inr (hJx _ _ _ hx (fun k h => (hO k h).elim (fun h => by have := hO0 k h; have := hK.size; omega) (fun h => h.2)) (Kept.putObj _ _ _ hnD))⟩
end Go.Proofs.YtdbfincinjoppabGreatDoor
