/- A part of the proof that TopLaid always answers true. -/
import Derived.OwnWalkIn
import Derived.RangeFuncKeeps
import Derived.TacticsInMore
import Derived.LoopNIn
import Derived.LoopIn
import Derived.Laws.EntriesVeiled
import Derived.Test.YtdbfincinjoppaaGreatCBase2
import Derived.Test.YtdbfincinjoppaaGreatCRegion
import Derived.Test.YtdbfincinjoppaaGreatCTCheck
set_option linter.all false
namespace Go.Proofs.YtdbfincinjoppaaGreat
open Go.RowKit Go.Shelf
theorem seenE_back {nt : Nat} {l : List Seen} {k : Nat} {a z y u : Int} (h : l[k]? = some ⟨a, z, y, u⟩) : seenE nt l k = if outB 0 ((nt : Int) - 1) a then 4 else if outB 0 40 z || (outB 0 40000 y || outB 0 40000 u) then 7 else if y > u then 2 else 0 := by
 unfold seenE
 rw [getD_of h]
 simp only [outB_inB, Bool.or_assoc]
section
variable {h : Hall} {l : List Seen}
theorem seen8_bad (e : err8 h ≠ 0) : seen8 h l = (0, err8 h) := by rw [seen8, if_pos e]
theorem seen8_long (e : err8 h = 0) (g : 6 < l.length) : seen8 h l = (0, 3) := by rw [seen8, if_neg (by simp [e]), if_pos g]
theorem seen8_n (e : err8 h = 0) (g : ¬ 6 < l.length) : seen8 h l = match firstErr (seenE h.tiles.length l) l.length with
 | some (k, e) => ((k : Int), e)
 | none => (0, 0) := by rw [seen8, if_neg (by simp [e]), if_neg g]; rfl
end
set_option maxHeartbeats 1500000 in
set_option maxRecDepth 100000 in
theorem tseen_any {A B C : Option Addr} {n ca m cb q cc : Nat} {h : Hall} {l : List Seen} {alo ahi most : Int} (w : World) (g : HallAt (fun _ => True) w A n B m h) (gs : Seens (fun _ => True) w C q l) (hca : n ≤ ca) (h1 : h.alo = alo) (h2 : h.ahi = ahi) (h3 : h.most = most) :
  Calls Tryz.prog 72 #[.agg #[.int .i64 alo, .int .i64 ahi, .int .i64 most, .slice A n ca, .slice B m cb], .slice C q cc] w fun e w' => e = .returned (.tuple #[.int .i64 (seen8 h l).1, .int .i64 (seen8 h l).2]) ∧ Below w.heap.size w w' := by
 have hle := g.ts.le
 have hlq := gs.le
 have Hn := Lib.hid g.ts.len
 have Hq := Lib.hid gs.len
 obtain ⟨W, hW⟩ : ∃ W, w.alloc (.cells #[.int .i64 alo, .int .i64 ahi, .int .i64 most, .slice A n ca, .slice B m cb] 30) = W := ⟨_, rfl⟩
 have X : Blk W w.heap.size 30 #[.int .i64 alo, .int .i64 ahi, .int .i64 most, .slice A n ca, .slice B m cb] := by rw [← hW]; exact Blk.new _ _ _ rfl
 have hc : HallAt (fun _ => True) W A n B m h := by rw [← hW]; exact g.keep (Keeps.alloc _ _)
 have hs : Seens (fun _ => True) W C q l := by rw [← hW]; exact gs.keep SeenR.good (Keeps.alloc _ _)
 have hBW : Below w.heap.size w W := by rw [← hW]; exact bl_alloc (Below.refl _ _) _ (Nat.le_refl _)
 have hWs : w.heap.size ≤ W.heap.size := hBW.size
 have HW := Lib.hid hW
 have HWs : Hid (w.heap.size + 1 = W.heap.size) := by rw [Hid, ← hW]; simp
 have x0 : W.cell? ⟨w.heap.size, 0, none⟩ = some (.int .i64 alo) := X.cell 0
 have x1 : W.cell? ⟨w.heap.size, 1, none⟩ = some (.int .i64 ahi) := X.cell 1
 have x2 : W.cell? ⟨w.heap.size, 2, none⟩ = some (.int .i64 most) := X.cell 2
 have x3 : W.cell? ⟨w.heap.size, 3, none⟩ = some (.slice A n ca) := X.cell 3
 have x4 : W.cell? ⟨w.heap.size, 4, none⟩ = some (.slice B m cb) := X.cell 4
 clear hW g gs X
 go_enter Tryz.func72, Tryz.ntmps72
 go_wp2_with fail
 rw [HW.out]
 refine (tcheck_any W hc hca h1 h2 h3).mono ?_
 rintro e W1 ⟨rfl, b1⟩
 have hc1 := hc.keep (Keeps.below b1)
 have hs1 := hs.keep SeenR.good (Keeps.below b1)
 by_cases he : (check8 h).2.2 = 0
 ·have heb : ((check8 h).2.2 != 0) = false := by rw [he]; rfl
  have he' : err8 h = 0 := he
  by_cases h6 : 6 < q
  ·have HC : Hid (seen8 h l = (0, 3)) := seen8_long he' (by rw [Hq.out]; exact h6)
   have h6i : (q : Int) > 6 := by omega
   clear he he'
   go_wp2
   go_ret2
   exact ⟨by rw [HC.out]; rfl, hBW.trans (b1.mono hWs)⟩
  have C : Hid (seen8 h l = _) := seen8_n he' (by rw [Hq.out]; exact h6)
  have h6i : ¬ (q : Int) > 6 := by omega
  clear he he'
  go_wp2
  clear h6i
  go_loopw [6, 7, 22] (fun _ _ i wr => ∃ k : Nat, k ≤ q ∧ i = .int .i64 k ∧ Below W.heap.size W wr ∧ Hid (∀ j, j < k → seenE n l j = 0)) (fun _ _ i _ => q - (intOf i).toNat)
  case atStart => exact ⟨0, Nat.zero_le _, rfl, b1, fun j h => by omega⟩
  case round =>
   clear b1 hc1 hs1
   obtain ⟨k, hk, rfl, hB, Hz⟩ := hrel
   have hsr := hs.keep SeenR.good (Keeps.below hB)
   by_cases hlt : k < q
   ·obtain ⟨b, off, a, z, y, u, rfl, hbb, hc0, hc1, hc2, hc3, Hx⟩ := Seens.get hsr hlt
    have HE : Hid (seenE n l k = _) := seenE_back Hx.out
    have HL : Hid (∀ e, e ≠ 0 → seenE n l k = e → seen8 h l = ((k : Int), e)) := fun e he hh => by rw [C.out, Hn.out, firstErr_some (by rw [Hq.out]; exact hlt) Hz.out (by rw [hh]; exact he), hh]
    have hki : (k : Int) < q := by omega
    have y3 := getc hB x3
    have hl0 : w.heap.size < wr.heap.size := by have := hB.size; have := HWs.out; omega
    have hwn : IntKind.i64.wrap ((n : Int) - 1) = (n : Int) - 1 := by rw [IntKind.wrap_i64]; omega
    cases ho1 : outB 0 ((n : Int) - 1) a
    ·go_wp2_with fail
     refine (out1_any _ (by exact newc rfl (by simp)) ho1).mono ?_
     rintro e w1 ⟨rfl, hb1⟩
     have hF : Blk w1 wr.heap.size 145 #[.int .i64 a, .int .i64 z, .int .i64 y, .int .i64 u] := ((Blk.new _ _ _ rfl).alloc _).bl hb1
     have hB1 : Below W.heap.size W w1 := bl_call (bl_alloc (bl_alloc hB _ (Nat.le_refl _)) _ (Nat.le_refl _)) hb1 (Nat.le_refl _)
     have f1 := hF.cell 1
     clear hb1 hc0 hc1 hc2 hc3 hbb hsr hB y3 hwn
     cases ho2 : outB 0 40 z
     ·go_wp2_with fail
      refine (out1_any _ (by exact newc rfl rfl) ho2).mono ?_
      rintro e w2 ⟨rfl, hb2⟩
      have hb2' : Below w1.heap.size w1 w2 := bl_call (bl_alloc (Below.refl _ _) _ (Nat.le_refl _)) hb2 (Nat.le_refl _)
      have hB2 : Below W.heap.size W w2 := bl_call hB1 hb2' (Nat.le_refl _)
      have hF2 := hF.bl hb2'
      have f2 := hF2.cell 2
      have f3 := hF2.cell 3
      clear hb2 hb2' f1 hF hB1
      cases ho3 : (outB 0 40000 y || outB 0 40000 u)
      ·have HE2 : Hid (seenE n l k = if y > u then 2 else 0) := by rw [Hid, HE.out, ho1, ho2, ho3]; rfl
       clear ho1 ho2
       go_wp2_with fail
       refine (out2_any _ (by exact newc rfl rfl) (by exact newc rfl rfl) ho3).mono ?_
       rintro e w3 ⟨rfl, hb3⟩
       have hb3' : Below w2.heap.size w2 w3 := bl_call (bl_alloc (Below.refl _ _) _ (Nat.le_refl _)) hb3 (Nat.le_refl _)
       have hB3 : Below W.heap.size W w3 := bl_call hB2 hb3' (Nat.le_refl _)
       have hF3 := hF2.bl hb3'
       have f4 := hF3.cell 2
       have f5 := hF3.cell 3
       clear hb3 hb3' f2 f3 ho3 hF2 hB2
       by_cases hgt : y > u
       ·have HC := Lib.hid (HL.out 2 (by decide) (by rw [HE2.out, if_pos hgt]))
        go_wp2
        go_ret2
        exact ⟨by rw [HC.out]; rfl, hBW.trans (hB3.mono hWs)⟩
       have hzz : Hid (seenE n l k = 0) := by rw [Hid, HE2.out, if_neg hgt]
       go_wp2
       go_roundw
       case rel => exact ⟨k + 1, by omega, by go_num, hB3, upto_succ Hz.out hzz.out⟩
       case measure => simp [intOf]; omega
      have HC := Lib.hid (HL.out 7 (by decide) (by rw [HE.out, ho1, ho2, ho3]; rfl))
      clear ho1 ho2
      go_wp2_with fail
      refine (out2_any _ (by exact newc rfl rfl) (by exact newc rfl rfl) ho3).mono ?_
      rintro e w3 ⟨rfl, hb3⟩
      have hB3 : Below W.heap.size W w3 := bl_call (bl_alloc hB2 _ (Nat.le_refl _)) hb3 (Nat.le_refl _)
      clear ho3 hb3 f2 f3
      go_wp2
      go_ret2
      exact ⟨by rw [HC.out]; rfl, hBW.trans (hB3.mono hWs)⟩
     have HC := Lib.hid (HL.out 7 (by decide) (by rw [HE.out, ho1, ho2]; rfl))
     clear ho1
     go_wp2_with fail
     refine (out1_any _ (by exact newc rfl rfl) ho2).mono ?_
     rintro e w2 ⟨rfl, hb2⟩
     have hB2 : Below W.heap.size W w2 := bl_call (bl_alloc hB1 _ (Nat.le_refl _)) hb2 (Nat.le_refl _)
     clear ho2 hb2 f1
     go_wp2
     go_ret2
     exact ⟨by rw [HC.out]; rfl, hBW.trans (hB2.mono hWs)⟩
    have HC := Lib.hid (HL.out 4 (by decide) (by rw [HE.out, ho1]; rfl))
    go_wp2_with fail
    refine (out1_any _ (by exact newc rfl (by simp)) ho1).mono ?_
    rintro e w1 ⟨rfl, hb1⟩
    have hB1 : Below W.heap.size W w1 := bl_call (bl_alloc (bl_alloc hB _ (Nat.le_refl _)) _ (Nat.le_refl _)) hb1 (Nat.le_refl _)
    clear ho1 hb1 hc0 hc1 hc2 hc3 hbb hsr y3
    go_wp2
    go_ret2
    exact ⟨by rw [HC.out]; rfl, hBW.trans (hB1.mono hWs)⟩
   obtain rfl : k = q := by omega
   have HC : Hid (seen8 h l = (0, 0)) := by rw [Hid, C.out, firstErr_none (by rw [Hq.out, Hn.out]; exact Hz.out)]
   go_wp2
   go_ret2
   exact ⟨by rw [HC.out]; rfl, hBW.trans (hB.mono hWs)⟩
 have HC : Hid (seen8 h l = (0, (check8 h).2.2)) := seen8_bad he
 have heb : ((check8 h).2.2 != 0) = true := by simpa using he
 clear he
 go_wp2
 go_ret2
 exact ⟨by rw [HC.out]; rfl, hBW.trans (b1.mono hWs)⟩
open Go.RowKit
theorem fold1 (p : Tmp) (v : Value) (t : Array Value) : ((#[p] : Array Tmp).zip #[v]).foldl (fun t (p, v) => t.setIfInBounds p v) t = t.setIfInBounds p v := by simp
def RoundOf (F : Fence) (n m : Nat) (P : Program) (ps : Array Tmp) (assign body : Code) (tmps : Array Value) (O0 : Foot) (W0 : World) (J : Nat → Foot → World → Prop) (Jx : Code → Foot → World → Prop) {α : Type} (enc : α → Array Value) (L : List α) : Prop :=
 ∀ (l : Nat) (i : Nat) (x : α) (O : Foot) (A : World), L[i]? = some x → J i O A → (∀ k, O k → k < A.heap.size) → (∀ k, O k → O0 k ∨ W0.heap.size ≤ k) → Kept (fun k => O0 k ∨ W0.heap.size ≤ k) W0 A → ¬ O l → l < A.heap.size → W0.heap.size ≤ l →
  assign.wpIn (F.inRound l) m P (Exit.then (fun a1 A1 => Kept (fun _ => False) A A1 ∧ ∀ A2, Kept (fun k => k = l) A1 A2 → A2.heap.size = A1.heap.size → (∃ r2, A2.heap[l]? = some (.loop r2)) → body.wpIn (F.inRound l) m P (roundEnd l A A2 O (J (i + 1)) Jx) a1 A2) (fun _ _ _ => False))
   { tmps := (ps.zip (enc x)).foldl (fun t (p, v) => t.setIfInBounds p v) tmps, defers := [] } A
theorem rangeFunc_outer {α : Type} {n m : Nat} {P : Program} {g : Operand} {ps : Array Tmp} {assign body : Code} {Q : Exit → Act → World → Prop} {a : Act} {w : World}
    {gf : Nat} {lb : Array Value} (hg : a.eval g = .func (.func gf) #[] lb) (eg : ∀ args w, (callFunc gf args).run P w = .ok (.enter gf args) w)
    {enc : α → Array Value} {L : List α} {Inv : World → Prop} (hseq : SeqL P gf lb enc L Inv) (hps : ∀ x, (enc x).size = ps.size)
    (O0 : Foot) (J : Nat → Foot → World → Prop) (Jx : Code → Foot → World → Prop)
    (hO0 : ∀ k, O0 k → k < w.heap.size)
    (hInv : ∀ A, Kept (fun k => O0 k ∨ w.heap.size ≤ k) w A → Inv A)
    (hJ : ∀ i O A B, J i O A → (∀ k, O k → k < A.heap.size) → Kept (fun k => ¬ O k) A B → J i O B)
    (hJx : ∀ c O A B, Jx c O A → (∀ k, O k → k < A.heap.size) → Kept (fun k => ¬ O k) A B → Jx c O B)
    (h0 : J 0 O0 w)
    (hround : RoundOf Fence.wide n m P ps assign body a.tmps O0 w J Jx enc L)
    (hdone : ∀ O W D, J L.length O W → (∀ k, O k → O0 k ∨ (w.heap.size ≤ k ∧ k < W.heap.size)) → Kept (fun k => O0 k ∨ w.heap.size ≤ k) w W → w.heap.size ≤ D → ¬ O D → W.heap[D]? = some (.deferred (some [])) → Q .normal { a with defers := { target := .collected D, args := #[] } :: a.defers } W)
    (hstop : ∀ c O W D, Jx c O W → (∀ k, O k → O0 k ∨ (w.heap.size ≤ k ∧ k < W.heap.size)) → Kept (fun k => O0 k ∨ w.heap.size ≤ k) w W → w.heap.size ≤ D → ¬ O D → W.heap[D]? = some (.deferred (some [])) → c.wpIn Fence.wide n P Q { a with defers := { target := .collected D, args := #[] } :: a.defers } W) :
    (Code.rangeFunc g ps assign body).wpIn Fence.wide n P Q a w := by
  have hk : Kept (fun _ => False) w (w.alloc (.deferred (some []))) := Kept.alloc _ _ _
  have hs : (w.alloc (.deferred (some []))).heap.size = w.heap.size + 1 := by simp
  have hD : (w.alloc (.deferred (some []))).heap[w.heap.size]? = some (.deferred (some [])) := World.alloc_heap_new w _
  have hbig : ∀ {A : World}, Kept (fun k => O0 k ∨ (w.alloc (.deferred (some []))).heap.size ≤ k) (w.alloc (.deferred (some []))) A → Kept (fun k => O0 k ∨ w.heap.size ≤ k) w A := fun hK =>
    hk.any.seq hK (fun i hi h => h.imp id (fun h => by omega))
  have hDd : ∀ (O : Foot) (W : World), (∀ k, O k → O0 k ∨ ((w.alloc (.deferred (some []))).heap.size ≤ k ∧ k < W.heap.size)) → Kept (fun k => O0 k ∨ (w.alloc (.deferred (some []))).heap.size ≤ k) (w.alloc (.deferred (some []))) W → ¬ O w.heap.size ∧ W.heap[w.heap.size]? = some (.deferred (some [])) := fun O W hO hK =>
    ⟨fun h => (hO _ h).elim (fun h => by have := hO0 _ h; omega) (fun h => by omega),
     (hK.block w.heap.size (by omega) (fun h => h.elim (fun h => by have := hO0 _ h; omega) (fun h => by omega))).trans hD⟩
  refine rangeFunc_core (r := none) rfl (w.alloc (.deferred (some []))) [{ target := .collected w.heap.size, args := #[] }] w.heap.size (m := m) ?_ hg eg hseq hps O0 J Jx
    (fun k h => by have := hO0 k h; omega) (fun A hK => hInv A (hbig hK)) hJ hJx (hJ _ _ _ _ h0 hO0 hk.any) ?_ ?_ ?_
  · intro fn
    rw [hs]
    exact run_enterLoop_outer _ _ _ _ _
  · intro l i x O A hx hj hlt hsub hK hnl hlA hWl
    exact hround l i x O A hx hj hlt (fun k h => (hsub k h).imp id (fun h => by omega)) (hbig hK) hnl hlA (by omega)
  · intro O W hj hO hK
    obtain ⟨h1, h2⟩ := hDd O W hO hK
    exact hdone O W _ hj (fun k h => (hO k h).imp id (fun h => ⟨by omega, h.2⟩)) (hbig hK) (Nat.le_refl _) h1 h2
  · intro c O W hj hO hK
    obtain ⟨h1, h2⟩ := hDd O W hO hK
    exact hstop c O W _ hj (fun k h => (hO k h).imp id (fun h => ⟨by omega, h.2⟩)) (hbig hK) (Nat.le_refl _) h1 h2
theorem rangeFunc_inner {α : Type} {l0 n m : Nat} {P : Program} {g : Operand} {ps : Array Tmp} {assign body : Code} {Q : Exit → Act → World → Prop} {a : Act} {w : World}
  (hr : ∃ r0, w.heap[l0]? = some (.loop r0))
  {gf : Nat} {lb : Array Value} (hg : a.eval g = .func (.func gf) #[] lb) (eg : ∀ args w, (callFunc gf args).run P w = .ok (.enter gf args) w)
  {enc : α → Array Value} {L : List α} {Inv : World → Prop} (hseq : SeqL P gf lb enc L Inv) (hps : ∀ x, (enc x).size = ps.size)
  (O0 : Foot) (J : Nat → Foot → World → Prop) (Jx : Code → Foot → World → Prop)
  (hO0 : ∀ k, O0 k → k < w.heap.size)
  (hInv : ∀ A, Kept (fun k => O0 k ∨ w.heap.size ≤ k) w A → Inv A)
  (hJ : ∀ i O A B, J i O A → (∀ k, O k → k < A.heap.size) → Kept (fun k => ¬ O k) A B → J i O B)
  (hJx : ∀ c O A B, Jx c O A → (∀ k, O k → k < A.heap.size) → Kept (fun k => ¬ O k) A B → Jx c O B)
  (h0 : J 0 O0 w)
  (hround : RoundOf (Fence.wide.inRound l0) n m P ps assign body a.tmps O0 w J Jx enc L)
  (hdone : ∀ O W, J L.length O W → (∀ k, O k → O0 k ∨ (w.heap.size ≤ k ∧ k < W.heap.size)) → Kept (fun k => O0 k ∨ w.heap.size ≤ k) w W → Q .normal a W)
  (hstop : ∀ c O W, Jx c O W → (∀ k, O k → O0 k ∨ (w.heap.size ≤ k ∧ k < W.heap.size)) → Kept (fun k => O0 k ∨ w.heap.size ≤ k) w W → c.wpIn (Fence.wide.inRound l0) n P Q a W) :
  (Code.rangeFunc g ps assign body).wpIn (Fence.wide.inRound l0) n P Q a w := by
 obtain ⟨r0, hr⟩ := hr
 refine rangeFunc_core (F := Fence.wide.inRound l0) (r := some l0) rfl w [] r0.defers (m := m) ?_ hg eg hseq hps O0 J Jx hO0 hInv hJ hJx h0 hround (fun O W hj hO hK => ?_) (fun c O W hj hO hK => ?_)
 ·intro fn
  exact run_enterLoop_inner hr _ _ _ _ _
 ·exact hdone O W hj hO hK
 exact hstop c O W hj hO hK
open Go.RowKit
open Go.RowKit Go.Shelf
attribute [local go_sem] Oper.semAt_some
theorem eg_truths : Enters Tryz.prog 107 := enters_of Tryz.func107 (by kernel_rfl) rfl
structure Look (A : World) (gp gt gh : Nat) (t : Nat) (T : Option Addr) (n ct : Nat) (R : Option Addr) (m : Nat) (L : Option Addr) (q cl : Nat) (h : Hall) (l : List Seen) : Prop where
 p : ∃ ty, Blk A gp ty #[.pointer (some ⟨gh, 0, none⟩)]
 k : ∃ ty, Blk A gt ty #[.int .i64 t]
 c3 : A.cell? ⟨gh, 3, none⟩ = some (.slice T n ct)
 c5 : A.cell? ⟨gh, 5, none⟩ = some (.slice L q cl)
 hs : HallAt (fun _ => True) A T n R m h
 ss : Seens (fun _ => True) A L q l
theorem Look.lt {A : World} {gp gt gh : Nat} {t : Nat} {T : Option Addr} {n ct : Nat} {R : Option Addr} {m : Nat} {L : Option Addr} {q cl : Nat} {h : Hall} {l : List Seen} (g : Look A gp gt gh t T n ct R m L q cl h l) : gp < A.heap.size ∧ gt < A.heap.size ∧ gh < A.heap.size :=
 ⟨g.p.elim fun _ h => h.lt, g.k.elim fun _ h => h.lt, World.block_lt_of_cell? _ _ g.c3⟩
def twoUpto (l : List Seen) (t : Nat) (w s : Int) (k : Nat) : Bool := (l.take k).all fun y => !(y.tile == (t : Int)) || inB (w + s * y.air) y.lo y.hi
theorem twoUpto_snoc {l : List Seen} {t : Nat} {w s : Int} {k : Nat} {y : Seen} (h : l[k]? = some y) : twoUpto l t w s (k + 1) = (twoUpto l t w s k && (!(y.tile == (t : Int)) || inB (w + s * y.air) y.lo y.hi)) := by
 unfold twoUpto; rw [take_snoc_get h, List.all_append]; simp
theorem twoUpto_no {l : List Seen} {t : Nat} {w s : Int} {k : Nat} {y : Seen} (h : l[k]? = some y) (hn : (!(y.tile == (t : Int)) || inB (w + s * y.air) y.lo y.hi) = false) : twoOk l t w s = false := by
 unfold twoOk
 rw [← Bool.not_eq_true, List.all_eq_true]
 intro ha
 rw [ha y (List.mem_of_getElem? h)] at hn
 cases hn
theorem twosK_yes {l : List Seen} {t : Nat} {x : Tile} {k : Nat} (h : twoOk l t (pairN x k).1 (pairN x k).2 = true) : twosK l t x (k + 1) = twosK l t x k ++ [pairN x k] := by
 unfold twosK; rw [List.range_succ, List.map_append, List.filter_append]; simp [h]
theorem twosK_no {l : List Seen} {t : Nat} {x : Tile} {k : Nat} (h : twoOk l t (pairN x k).1 (pairN x k).2 = false) : twosK l t x (k + 1) = twosK l t x k := by
 unfold twosK; rw [List.range_succ, List.map_append, List.filter_append]; simp [h]
theorem twosK_get {l : List Seen} {t : Nat} {x : Tile} {k N : Nat} (hk : k < N) (h : twoOk l t (pairN x k).1 (pairN x k).2 = true) : (twosK l t x N)[(twosK l t x k).length]? = some (pairN x k) := by
 obtain ⟨d, rfl⟩ : ∃ d, N = k + 1 + d := ⟨N - (k + 1), by omega⟩
 clear hk
 induction d with
 | zero => rw [Nat.add_zero, twosK_yes h]; simp
 | succ d ih =>
  rw [show k + 1 + (d + 1) = (k + 1 + d) + 1 by omega]
  cases h2 : twoOk l t (pairN x (k + 1 + d)).1 (pairN x (k + 1 + d)).2
  ·rw [twosK_no h2]; exact ih
  rw [twosK_yes h2, List.getElem?_append_left (of_getq ih)]; exact ih
theorem tileE_zero {l : List Tile} {k : Nat} {x : Tile} (h : l[k]? = some x) (he : tileE l k = 0) : 1 ≤ x.wlo ∧ x.wlo ≤ x.whi ∧ x.whi ≤ x.wlo + 10 ∧ x.whi ≤ 20000 ∧ 0 ≤ x.slo ∧ x.slo ≤ x.shi ∧ x.shi ≤ x.slo + 3 ∧ x.shi ≤ 20 := by
 unfold tileE at he
 rw [getD_of h] at he
 dsimp only at he
 split at he
 ·rename_i h1; exact absurd he h1
 unfold tileN at he
 split at he
 ·cases he
 split at he
 ·cases he
 rename_i h2 h3
 simp [inB] at h2 h3
 omega
set_option maxRecDepth 100000 in
set_option maxHeartbeats 4000000 in
theorem truths_seq {T : Option Addr} {n ct : Nat} {R : Option Addr} {m : Nat} {L : Option Addr} {q cl : Nat} {h : Hall} {l : List Seen} (gp gt gh t : Nat) (ht : t < h.tiles.length) (hz : tileE h.tiles t = 0) (hq6 : l.length ≤ 6)
  (hseen : ∀ (k : Nat) (y : Seen), l[k]? = some y → 0 ≤ y.air ∧ y.air ≤ 40) :
  SeqL Tryz.prog 107 #[.pointer (some ⟨gp, 0, none⟩), .pointer (some ⟨gt, 0, none⟩)] (fun p : Int × Int => #[.int .i64 p.1, .int .i64 p.2]) (twosL h l t) (fun A => Look A gp gt gh t T n ct R m L q cl h l) := by
 intro lp O0 J Jx W hO0 hInv hJ hJx hR h0
 have hI0 := hInv W (Kept.refl _ _)
 obtain ⟨hgp, hgt, hgh⟩ := hI0.lt
 obtain ⟨tp, hp⟩ := hI0.p
 obtain ⟨tt, hk⟩ := hI0.k
 have hp0 := hp.cell 0
 have hk0 := hk.cell 0
 have h3 := hI0.c3
 have htn : t < n := by have := hI0.hs.ts.len; omega
 obtain ⟨bT, oT, s, a, z, y, u, rfl, hbb, hc0, hc1, hc2, hc3, hc4, hs, Hx⟩ := Tiles.get hI0.hs.ts htn
 obtain ⟨g1, g2, g3, g4, g5, g6, g7, g8⟩ := tileE_zero Hx.out hz
 dsimp only at g1 g2 g3 g4 g5 g6 g7 g8
 have hti : (t : Int) < n := by omega
 have Hq := Lib.hid hI0.ss.len
 have hI0' := hI0
 clear hI0 hp hk
 rw [app12]
 refine (callsIn_wide (n := 1)).1 ?_
 refine callsIn_of_wp Tryz.func107 rfl trivial ?_ rfl
 simp only [Tryz.ntmps107, List.size_toArray, List.length_cons, List.length_nil, Nat.reduceAdd, Nat.reduceSub, Array.replicate_succ, Array.replicate_zero, List.push_toArray, List.append_toArray, List.nil_append, List.cons_append]
 gi_wp2_with fail
 have HI := Lib.hid hI0'
 have kk : Hid (∀ W', Below W.heap.size W W' → W'.cell? ⟨gp, 0, none⟩ = some (.pointer (some ⟨gh, 0, none⟩)) ∧ W'.cell? ⟨gt, 0, none⟩ = some (.int .i64 t) ∧ W'.cell? ⟨gh, 3, none⟩ = some (.slice (some ⟨bT, oT, none⟩) n ct) ∧ W'.cell? ⟨bT, oT + t * 5, none⟩ = some (.string s) ∧ W'.cell? ⟨bT, oT + t * 5 + 1, none⟩ = some (.int .i64 a) ∧ W'.cell? ⟨bT, oT + t * 5 + 2, none⟩ = some (.int .i64 z) ∧ W'.cell? ⟨bT, oT + t * 5 + 3, none⟩ = some (.int .i64 y) ∧ W'.cell? ⟨bT, oT + t * 5 + 4, none⟩ = some (.int .i64 u) ∧ Below W.heap.size W W') :=
  fun W' hb => ⟨getc hb hp0, getc hb hk0, getc hb h3, getc hb hc0, getc hb hc1, getc hb hc2, getc hb hc3, getc hb hc4, hb⟩
 refine wpIn_wide.2 (wp_scope_straight ?_)
 go_wp2_with fail
 go_region_held3 (fun W' => W'.cell? ⟨gp, 0, none⟩ = some (.pointer (some ⟨gh, 0, none⟩)) ∧ W'.cell? ⟨gt, 0, none⟩ = some (.int .i64 t) ∧ W'.cell? ⟨gh, 3, none⟩ = some (.slice (some ⟨bT, oT, none⟩) n ct) ∧ W'.cell? ⟨bT, oT + t * 5, none⟩ = some (.string s) ∧ W'.cell? ⟨bT, oT + t * 5 + 1, none⟩ = some (.int .i64 a) ∧ W'.cell? ⟨bT, oT + t * 5 + 2, none⟩ = some (.int .i64 z) ∧ W'.cell? ⟨bT, oT + t * 5 + 3, none⟩ = some (.int .i64 y) ∧ W'.cell? ⟨bT, oT + t * 5 + 4, none⟩ = some (.int .i64 u) ∧ Below W.heap.size W W')
  (first | exact kk.out _ (Below.refl _ _).drew | exact kk.out _ (Below.refl _ _) | exact kk.out _ (bl_alloc (Below.refl _ _).drew _ (Nat.le_refl _)))
  (fail)
 rename_i hHeld
 clear hHeld kk
 obtain ⟨W1, hW1⟩ : ∃ W1, (W.alloc (.cells #[.string s, .int .i64 a, .int .i64 z, .int .i64 y, .int .i64 u] 55)).drew = W1 := ⟨_, rfl⟩
 have hk1 : Kept (fun _ => False) W W1 := by rw [← hW1]; exact (Kept.alloc _ _ _).trans (Kept.drew _ _)
 have hs1 : W1.heap.size = W.heap.size + 1 := by rw [← hW1]; simp
 have X1 : Blk W1 W.heap.size 55 #[.string s, .int .i64 a, .int .i64 z, .int .i64 y, .int .i64 u] := by rw [← hW1]; exact (Blk.new _ _ _ rfl).drew
 rw [hW1]
 clear hc0 hc1 hc2 hc3 hc4 hp0 hk0 h3 hW1 hI0'
 have hbig : ∀ {A : World}, Kept (fun k => O0 k ∨ W1.heap.size ≤ k) W1 A → Kept (fun k => O0 k ∨ W.heap.size ≤ k) W A := fun hK => hk1.any.seq hK (fun i hi h => h.imp id (fun h => by omega))
 have hold : ∀ {A : World} {g : Nat} {t : TypeId} {cs : Array Value}, Blk W1 g t cs → W.heap.size ≤ g → Kept (fun k => O0 k ∨ W1.heap.size ≤ k) W1 A → Blk A g t cs := fun hB hg hK =>
  (hK.block _ hB.lt (fun h => h.elim (fun h => by have := hO0 _ h; omega) (fun h => by have := hB.lt; omega))).trans hB
 obtain ⟨wn, hwn⟩ : ∃ wn : Nat, z - a + 1 = wn := ⟨(z - a + 1).toNat, by omega⟩
 obtain ⟨sn, hsn⟩ : ∃ sn : Nat, u - y + 1 = sn := ⟨(u - y + 1).toNat, by omega⟩
 have hwn11 : wn ≤ 11 := by omega
 have hsn4 : 1 ≤ sn ∧ sn ≤ 4 := by omega
 have hN44 : wn * sn ≤ 44 := Nat.mul_le_mul hwn11 hsn4.2
 obtain ⟨N, hN⟩ : ∃ N : Nat, wn * sn = N := ⟨_, rfl⟩
 rw [hN] at hN44
 have hw1 : IntKind.i64.wrap (z - a) = z - a := by rw [IntKind.wrap_i64]; omega
 have hw2 : IntKind.i64.wrap (z - a + 1) = (wn : Int) := by rw [IntKind.wrap_i64]; omega
 have hw3 : IntKind.i64.wrap (u - y) = u - y := by rw [IntKind.wrap_i64]; omega
 have hw4 : IntKind.i64.wrap (u - y + 1) = (sn : Int) := by rw [IntKind.wrap_i64]; omega
 have hw5 : IntKind.i64.wrap ((wn : Int) * (sn : Int)) = (N : Int) := by
  have : ((wn : Int) * (sn : Int)) = (N : Int) := by rw [← hN]; simp
  rw [this, IntKind.wrap_i64]; omega
 obtain ⟨x, hx⟩ : ∃ x : Tile, x = ⟨s.data.toList, a, z, y, u⟩ := ⟨_, rfl⟩
 have HTW : Hid (twosL h l t = twosK l t x N) := by
  have hg : h.tiles.getD t dTile = x := by rw [getD_of Hx.out, hx]
  have h1 : wideN x = wn := by rw [hx]; unfold wideN; dsimp only; omega
  have h2 : swellN x = sn := by rw [hx]; unfold swellN; dsimp only; omega
  rw [Hid, twosL, hg, h1, h2, hN]
 have HPN : Hid (∀ k : Nat, pairN x k = (a + (k / sn : Nat), y + (k % sn : Nat))) := fun k => by
  have h2 : swellN x = sn := by rw [hx]; unfold swellN; dsimp only; omega
  unfold pairN; rw [h2, hx]
 have HR := Lib.hid hR
 have HJ1 : Hid (J 0 O0 W1) := hJ _ _ _ _ h0 hO0 hk1.any
 have hsnz : ¬ (sn : Int) = 0 := by omega
 have hsnb : ((sn : Int) == 0) = false := by simp; omega
 clear hwn hsn hN hx hR h0
 go_wp2_with fail
 refine (wpIn_wide (n := 1)).1 ?_
 refine wpIn_label ?_
 have y1 := X1.cell 1
 have y2 := X1.cell 2
 have y3 := X1.cell 3
 have y4 := X1.cell 4
 go_wp2_with fail
 refine (wpIn_wide (n := 1)).1 ?_
 clear y1 y2 y3 y4
 gi_loopw [5, 6, 7, 8, 10, 36] (fun _ _ _ _ _ i' wr => ∃ (k : Nat) (O1 : Foot), i' = .int .i64 k ∧ k ≤ N ∧ Hid (Kept (fun k => O0 k ∨ W1.heap.size ≤ k) W1 wr) ∧ Hid (∀ k, O1 k → O0 k ∨ (W1.heap.size ≤ k ∧ k < wr.heap.size)) ∧ Hid (J (twosK l t x k).length O1 wr)) (fun _ _ _ _ _ i' _ => N - (intOf i').toNat)
 case atStart => exact ⟨0, O0, rfl, Nat.zero_le _, Kept.refl _ _, fun k hk => .inl hk, HJ1.out⟩
 case round =>
  obtain ⟨k, O1, rfl, hk, HK, HO, HJ⟩ := hrel
  by_cases hlt : k < N
  ·have hki : (k : Int) < N := by omega
   have Xr := hold X1 (Nat.le_refl _) HK.out
   have y1 := Xr.cell 1
   have y2 := Xr.cell 2
   have y3 := Xr.cell 3
   have y4 := Xr.cell 4
   have XR := Lib.hid Xr
   have htd : Int.tdiv (k : Int) (sn : Int) = ((k / sn : Nat) : Int) := rfl
   have htm : Int.tmod (k : Int) (sn : Int) = ((k % sn : Nat) : Int) := rfl
   have hpn := HPN.out k
   obtain ⟨kd, hkd⟩ : ∃ kd : Nat, k / sn = kd := ⟨_, rfl⟩
   obtain ⟨km, hkm⟩ : ∃ km : Nat, k % sn = km := ⟨_, rfl⟩
   have hkdb : kd ≤ 44 := by rw [← hkd]; exact Nat.le_trans (Nat.div_le_self _ _) (by omega)
   have hkmb : km < sn := by rw [← hkm]; exact Nat.mod_lt _ (by omega)
   rw [hkd] at htd hpn
   rw [hkm] at htm hpn
   clear hkd hkm
   have hv1 : IntKind.i64.wrap (kd : Int) = (kd : Int) := by rw [IntKind.wrap_i64]; omega
   have hv2 : IntKind.i64.wrap (km : Int) = (km : Int) := by rw [IntKind.wrap_i64]; omega
   obtain ⟨wd, hwd⟩ : ∃ wd : Int, a + (kd : Int) = wd := ⟨_, rfl⟩
   obtain ⟨sw, hsw⟩ : ∃ sw : Int, y + (km : Int) = sw := ⟨_, rfl⟩
   have hv3 : IntKind.i64.wrap (a + (kd : Int)) = wd := by rw [hwd, IntKind.wrap_i64]; omega
   have hv4 : IntKind.i64.wrap (y + (km : Int)) = sw := by rw [hsw, IntKind.wrap_i64]; omega
   have hwdb : 0 ≤ wd ∧ wd ≤ 20100 := by omega
   have hswb : 0 ≤ sw ∧ sw ≤ 30 := by omega
   rw [hwd, hsw] at hpn
   have HP := Lib.hid hpn
   clear hwd hsw hpn
   gi_wp2_with fail
   refine wpIn_wide.2 ?_
   go_quiet (fail)
   clear y1 y2 y3 y4 htd htm hv1 hv2 hv3 hv4
   obtain ⟨w5, hw5⟩ : ∃ w5, wr.drewN nq = w5 := ⟨_, rfl⟩
   have hk5 : Kept (fun _ => False) wr w5 := by rw [← hw5]; exact Kept.drewN _ _ _
   rw [hw5]
   clear hw5
   have hK5 : Kept (fun k => O0 k ∨ W1.heap.size ≤ k) W1 w5 := HK.out.trans hk5.any
   have hO1lt : ∀ j, O1 j → j < wr.heap.size := fun j hj => (HO.out j hj).elim (fun h => by have := hO0 j h; have := HK.out.size; omega) (fun h => h.2)
   have HJ5 : Hid (J (twosK l t x k).length O1 w5) := hJ _ _ _ _ HJ.out hO1lt hk5.any
   have HO5 : Hid (∀ j, O1 j → O0 j ∨ (W1.heap.size ≤ j ∧ j < w5.heap.size)) := fun j hj => (HO.out j hj).imp id (fun h => ⟨h.1, by have := hk5.size; omega⟩)
   have HK5 := Lib.hid hK5
   have hI5 := hInv w5 (hbig hK5)
   obtain ⟨gp5, gt5, gh5⟩ := hI5.lt
   obtain ⟨tp5, hp5⟩ := hI5.p
   obtain ⟨tt5, hk5'⟩ := hI5.k
   have p0 := hp5.cell 0
   have k0 := hk5'.cell 0
   have c5 := hI5.c5
   have hle5 := hI5.ss.le
   have HI5 := Lib.hid hI5
   clear hI5 hp5 hk5' hk5 hK5 hO1lt HJ HO HK XR
   gi_wp2_with fail
   refine wpIn_wide.2 ?_
   go_loopw [10, 66] (fun _ j' wr2 => ∃ j : Nat, j' = .int .i64 j ∧ j ≤ q ∧ Hid (Below w5.heap.size w5 wr2) ∧ Hid (twoUpto l t wd sw j = true)) (fun _ j' _ => q - (intOf j').toNat)
   case atStart => exact ⟨0, rfl, Nat.zero_le _, Below.refl _ _, rfl⟩
   case round =>
    clear p0 k0 c5
    obtain ⟨j, rfl, hj, HB, HU⟩ := hrel
    by_cases hlt2 : j < q
    ·have hji : (j : Int) < q := by omega
     have hsr := HI5.out.ss.keep SeenR.good (Keeps.below HB.out)
     obtain ⟨bL, oL, e1, e2, e3, e4, rfl, hbL, hd0, hd1, hd2, hd3, Hy⟩ := Seens.get hsr hlt2
     obtain ⟨ha1, ha2⟩ := hseen j _ Hy.out
     dsimp only at ha1 ha2
     obtain ⟨tt6, hk6⟩ := HI5.out.k
     have k6 := (hk6.bl HB.out).cell 0
     have hgt6 := (hk6.bl HB.out).lt
     clear hk6 hsr
     have hm1 : 0 ≤ sw * e2 := Int.mul_nonneg hswb.1 ha1
     have hm2 : sw * e2 ≤ 30 * 40 := Int.mul_le_mul hswb.2 ha2 ha1 (by decide)
     have hx1 : IntKind.i64.wrap (sw * e2) = sw * e2 := by rw [IntKind.wrap_i64]; omega
     have hx2 : IntKind.i64.wrap (wd + sw * e2) = wd + sw * e2 := by rw [IntKind.wrap_i64]; omega
     have HS : Hid (twoUpto l t wd sw (j + 1) = (twoUpto l t wd sw j && (!(e1 == (t : Int)) || inB (wd + sw * e2) e3 e4))) := twoUpto_snoc Hy.out
     by_cases het : e1 = (t : Int)
     ·have heb : (e1 == (t : Int)) = true := by simpa using het
      clear het
      cases ho : outB e3 e4 (wd + sw * e2)
      ·go_wp2_with fail
       refine (out1_any _ (by exact newc rfl (by simp)) ho).mono ?_
       rintro e w6 ⟨rfl, hb6⟩
       have hB6 : Below w5.heap.size w5 w6 := bl_call (bl_alloc (bl_alloc HB.out _ (Nat.le_refl _)) _ (Nat.le_refl _)) hb6 (Nat.le_refl _)
       have HU2 : Hid (twoUpto l t wd sw (j + 1) = true) := by rw [outB_inB] at ho; rw [Hid, HS.out, HU.out, heb]; simpa using ho
       clear ho hb6 hd0 hd1 hd2 hd3 k6
       go_wp2
       go_roundw
       case rel => exact ⟨j + 1, by go_num, by omega, hB6, HU2⟩
       case measure => simp [intOf]; omega
      go_wp2_with fail
      refine (out1_any _ (by exact newc rfl (by simp)) ho).mono ?_
      rintro e w6 ⟨rfl, hb6⟩
      have hB6 : Below w5.heap.size w5 w6 := bl_call (bl_alloc (bl_alloc HB.out _ (Nat.le_refl _)) _ (Nat.le_refl _)) hb6 (Nat.le_refl _)
      have hno : twoOk l t wd sw = false := twoUpto_no Hy.out (by rw [outB_inB] at ho; dsimp only; rw [heb]; simpa using ho)
      have HN : Hid (twosK l t x (k + 1) = twosK l t x k) := twosK_no (by rw [HP.out]; exact hno)
      have hK6 : Kept (fun _ => False) w5 w6 := Kept.of_bl hB6
      have HK6 : Hid (Kept (fun k => O0 k ∨ W1.heap.size ≤ k) W1 w6) := HK5.out.trans hK6.any
      have HO6 : Hid (∀ j, O1 j → O0 j ∨ (W1.heap.size ≤ j ∧ j < w6.heap.size)) := fun j hj => (HO5.out j hj).imp id (fun h => ⟨h.1, by have := hK6.size; omega⟩)
      have HJ6 : Hid (J (twosK l t x (k + 1)).length O1 w6) := by rw [Hid, HN.out]; exact hJ _ _ _ _ HJ5.out (fun j hj => (HO5.out j hj).elim (fun h => by have := hO0 j h; have := HK5.out.size; omega) (fun h => h.2)) hK6.any
      clear ho hb6 hd0 hd1 hd2 hd3 k6 hno hK6 hB6
      go_wp2
      gi_wp2
      exact ⟨⟨k + 1, O1, by go_num, by omega, HK6, HO6, HJ6⟩, by simp [intOf]; omega⟩
     have heb : (e1 == (t : Int)) = false := by simpa using het
     clear het
     have HU2 : Hid (twoUpto l t wd sw (j + 1) = true) := by rw [Hid, HS.out, HU.out, heb]; simp
     have hB6 : Below w5.heap.size w5 (wr.alloc (.cells #[.int .i64 e1, .int .i64 e2, .int .i64 e3, .int .i64 e4] 145)) := bl_alloc HB.out _ (Nat.le_refl _)
     go_wp2
     go_roundw
     case rel => exact ⟨j + 1, by go_num, by omega, hB6, HU2⟩
     case measure => simp [intOf]; omega
    obtain rfl : j = q := by omega
    have hyes : twoOk l t wd sw = true := by
     have := HU.out
     unfold twoUpto at this
     rw [List.take_of_length_le (by rw [Hq.out]; exact Nat.le_refl _)] at this
     exact this
    have hyes2 : twoOk l t (pairN x k).1 (pairN x k).2 = true := by rw [HP.out]; exact hyes
    have hKw : Kept (fun _ => False) w5 wr := Kept.of_bl HB.out
    have hO1lt : ∀ j, O1 j → j < w5.heap.size := fun j hj => (HO5.out j hj).elim (fun h => by have := hO0 j h; have := HK5.out.size; omega) (fun h => h.2)
    have hKW : Kept (fun k => O0 k ∨ W1.heap.size ≤ k) W1 wr := HK5.out.trans hKw.any
    obtain ⟨fn, tmps, assign, body, hy, hRd⟩ := HR.out _ (wd, sw) O1 wr (by rw [HTW.out, ← HP.out]; exact twosK_get hlt hyes2) (hJ _ _ _ _ HJ5.out hO1lt hKw.any) (fun j hj => by have := hO1lt j hj; have := hKw.size; omega) (fun j hj => (HO5.out j hj).imp id (fun h => by omega)) (hbig hKW) 0
    have HRD := Lib.hid hRd
    have HKW := Lib.hid hKW
    have HYS : Hid (twosK l t x (k + 1) = twosK l t x k ++ [(wd, sw)]) := by rw [Hid, ← HP.out]; exact twosK_yes hyes2
    have HOw : Hid (∀ j, O1 j → O0 j ∨ (W1.heap.size ≤ j ∧ j < wr.heap.size)) := fun j hj => (HO5.out j hj).imp id (fun h => ⟨h.1, by have := hKw.size; omega⟩)
    clear hRd hKW hKw hO1lt hyes hyes2
    go_wp2_with fail
    gi_wp2_with fail
    refine HRD.out.mono ?_
    clear HRD
    rintro e B ⟨O2, hO2, hKB, hcase⟩
    have HKB : Hid (Kept (fun k => O0 k ∨ W1.heap.size ≤ k) W1 B) := HKW.out.trans (hKB.mono fun j _ h => (HOw.out j h).imp id (fun h => h.1))
    have HOB : Hid (∀ j, O2 j → O0 j ∨ (W1.heap.size ≤ j ∧ j < B.heap.size)) := fun j hj => (hO2 j hj).elim (fun h => (HOw.out j h).imp id (fun h => ⟨h.1, by have := hKB.size; omega⟩)) (fun h => .inr ⟨by have := HKW.out.size; omega, h.2⟩)
    clear hO2 hKB
    rcases hcase with ⟨rfl, hj'⟩ | ⟨rfl, hx'⟩
    ·have HJB : Hid (J (twosK l t x (k + 1)).length O2 B) := by rw [Hid, HYS.out]; simpa using hj'
     clear hj'
     gi_wp2
     exact ⟨⟨k + 1, O2, by go_num, by omega, HKB, HOB, HJB⟩, by simp [intOf]; omega⟩
    gi_wp2
    simp only [Exit.noGoto]
    go_at_K
    refine bodyPost_ret (results_none rfl _ _ _) rfl ?_
    exact ⟨⟨_, rfl⟩, hbig HKB.out, O2, fun k h => (HOB.out k h).imp id (fun h => ⟨by omega, h.2⟩), .inr hx'⟩
  obtain rfl : k = N := by omega
  gi_wp2
  simp only [Exit.noGoto]
  go_at_K
  go_end0
  refine ⟨⟨_, rfl⟩, hbig HK.out, O1, fun k h => (HO.out k h).imp id (fun h => ⟨by omega, h.2⟩), .inl ?_⟩
  rw [HTW.out]
  exact HJ.out
end Go.Proofs.YtdbfincinjoppaaGreat
