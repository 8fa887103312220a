/- Walks: the reference's Best. -/
import Derived.Test.YtpbimgafafkjgaaCTFits
import Derived.Test.YtpbimgafafkjgaaCTMusts
import Derived.Test.YtpbimgafafkjgaaCTRefsK
import Derived.Test.YtpbimgafafkjgaaCTRefsO
import Derived.Test.YtpbimgafafkjgaaCTRegs
set_option linter.unusedVariables false
set_option linter.unusedSimpArgs false
set_option linter.all false
namespace Go.Proofs.Ytpbimgafafkjgaa
open Go.RowKit

/-- one more list of a row -/
def bestStep (h : Hall) (l : List Seen) (row k : Nat) (left : List Int) (before : Int) (out : Option (List (List Int) × Int)) (x : List Int) : Option (List (List Int) × Int) :=
  if wrong8 h.most (gap8 h l row x) ≠ 0 then out else
  match bestR h l k (leftL left x) (max before (gap8 h l row x).2) with
  | none => out
  | some r => betterL out (headL x r)
theorem best_succ (h : Hall) (l : List Seen) (k : Nat) (left : List Int) (before : Int) : bestR h l (k + 1) left before = (lexL (rowP h (h.rows.length - (k + 1))) left).foldl (bestStep h l (h.rows.length - (k + 1)) k left before) none := rfl
theorem foldl_next {α β : Type} {f : β → α → β} {b : β} {xs : List α} {j : Nat} {x : α} (h : xs[j]? = some x) : (xs.take (j + 1)).foldl f b = f ((xs.take j).foldl f b) x := by
  rw [take_snoc_get h, List.foldl_append]; rfl
theorem best_bad {h : Hall} {l : List Seen} {row k : Nat} {left x : List Int} {before : Int} {out : Option (List (List Int) × Int)} (e : wrong8 h.most (gap8 h l row x) ≠ 0) : bestStep h l row k left before out x = out := by
  unfold bestStep; rw [if_pos e]
theorem best_none {h : Hall} {l : List Seen} {row k : Nat} {left x : List Int} {before : Int} {out : Option (List (List Int) × Int)} (e : wrong8 h.most (gap8 h l row x) = 0) (e2 : bestR h l k (leftL left x) (max before (gap8 h l row x).2) = none) : bestStep h l row k left before out x = out := by
  unfold bestStep; rw [if_neg (by rw [e]; decide), e2]
theorem best_some {h : Hall} {l : List Seen} {row k : Nat} {left x : List Int} {before : Int} {out : Option (List (List Int) × Int)} {r : List (List Int) × Int} (e : wrong8 h.most (gap8 h l row x) = 0) (e2 : bestR h l k (leftL left x) (max before (gap8 h l row x).2) = some r) : bestStep h l row k left before out x = betterL out (headL x r) := by
  unfold bestStep; rw [if_neg (by rw [e]; decide), e2]
theorem rows_bound {h : Hall} {l : List Seen} : ∀ (k : Nat) (left : List Int) (before : Int) (r : List (List Int) × Int), bestR h l k left before = some r → r.1.length = k := by
  intro k
  induction k with
  | zero => intro left before r e; simp [bestR] at e; subst e; rfl
  | succ k ih =>
    intro left before r e
    rw [best_succ] at e
    have key : ∀ (L : List (List Int)) (a : Option (List (List Int) × Int)), (∀ r, a = some r → r.1.length = k + 1) → ∀ r, L.foldl (bestStep h l (h.rows.length - (k + 1)) k left before) a = some r → r.1.length = k + 1 := by
      intro L
      induction L with
      | nil => intro a ha r e; exact ha r e
      | cons x L ihL =>
        intro a ha r e
        refine ihL _ ?_ r e
        intro r' e'
        unfold bestStep at e'
        split at e'
        · exact ha r' e'
        · split at e'
          · exact ha r' e'
          · rename_i r2 e2
            have h2 := ih _ _ _ e2
            unfold betterL at e'
            split at e'
            · cases e'; simp [headL, h2]
            · split at e'
              · cases e'; simp [headL, h2]
              · exact ha r' e'
    exact key _ none (fun r e => by cases e) r e

/-- a laying, as the reference returns it -/
def BestV (w0 : Nat) (o : Option (List (List Int) × Int)) (v : Value) (W : World) : Prop :=
  match o with
  | none => v = .agg #[.bool false, .slice none 0 0, .int .i64 0]
  | some r => ∃ (A : Option Addr) (c : Nat), v = .agg #[.bool true, .slice A r.1.length c, .int .i64 r.2] ∧ Rows (fun k => w0 ≤ k) W A r.1.length r.1
theorem BestV.bl {w0 : Nat} {o : Option (List (List Int) × Int)} {v : Value} {W V : World} (h : BestV w0 o v W) (hb : Below W.heap.size W V) : BestV w0 o v V := by
  unfold BestV at h ⊢
  split
  · exact h
  · obtain ⟨A, c, h1, h2⟩ := h
    exact ⟨A, c, h1, h2.keep (SlR.good IntR.good) (Keeps.below hb)⟩
/-- the same in a block -/
def BestB (g : Nat) (o : Option (List (List Int) × Int)) (W : World) : Prop :=
  match o with
  | none => Blk W g 124 #[.bool false, .slice none 0 0, .int .i64 0]
  | some r => ∃ (A : Option Addr) (c : Nat), Blk W g 124 #[.bool true, .slice A r.1.length c, .int .i64 r.2] ∧ Rows (fun k => g < k) W A r.1.length r.1
theorem BestB.bl {g : Nat} {o : Option (List (List Int) × Int)} {W V : World} (h : BestB g o W) (hb : Below W.heap.size W V) : BestB g o V := by
  unfold BestB at h ⊢
  split
  · exact h.bl hb
  · obtain ⟨A, c, h1, h2⟩ := h
    exact ⟨A, c, h1.bl hb, h2.keep (SlR.good IntR.good) (Keeps.below hb)⟩
theorem BestV.low {w0 w1 : Nat} {o : Option (List (List Int) × Int)} {v : Value} {W : World} (h : BestV w1 o v W) (hw : w0 ≤ w1) : BestV w0 o v W := by
  unfold BestV at h ⊢
  split
  · exact h
  · obtain ⟨A, c, h1, h2⟩ := h
    exact ⟨A, c, h1, h2.mono (SlR.good IntR.good) (fun k hk => Nat.le_trans hw hk)⟩
theorem left_mem {of s : List Int} {i : Int} (h : i ∈ leftL of s) : i ∈ of := (List.mem_filter.1 h).1
theorem left_le (of s : List Int) : (leftL of s).length ≤ of.length := List.length_filter_le _ _
/-- a list of one list, from a block on; the list itself lies behind g -/
def IsOne (B g : Nat) (x : List Int) (v : Value) (W : World) : Prop := ∃ gb, v = .slice (some ⟨gb, 0, none⟩) 1 1 ∧ OwnL (SlR IntR 1) 1 (fun k => g < k ∧ k < B) W B 39 (.slice (some ⟨gb, 0, none⟩) 1 1) [x]
theorem IsOne.bl {B g : Nat} {x : List Int} {v : Value} {W V : World} (h : IsOne B g x v W) (hb : Below W.heap.size W V) : IsOne B g x v V := by
  obtain ⟨gb, h1, h2⟩ := h
  exact ⟨gb, h1, h2.below (SlR.good IntR.good) hb⟩
theorem IsOne.new {B g : Nat} {x : List Int} {W : World} {A : Option Addr} {n c : Nat} (hB : B ≤ W.heap.size) (hI : Ints (fun k => g < k ∧ k < B) W A n x) : IsOne B g x (.slice (some ⟨W.heap.size, 0, none⟩) 1 1) (W.alloc (.cells #[.slice A n c] 39)) :=
  ⟨_, rfl, OwnL.lit1s (SlR.good IntR.good) W B _ x _ hB ⟨A, n, c, rfl, hI⟩ (fun h => by have := h.2; omega)⟩
def IsHead (B g : Nat) (x : List Int) (r : List (List Int) × Int) (v : Value) (W : World) : Prop := ∃ (A : Option Addr) (c : Nat), v = .slice A (1 + r.1.length) c ∧ OwnL (SlR IntR 1) 1 (fun k => g < k ∧ k < B) W B 39 (.slice A (1 + r.1.length) c) ([x] ++ r.1)
theorem IsHead.bl {B g : Nat} {x : List Int} {r : List (List Int) × Int} {v : Value} {W V : World} (h : IsHead B g x r v W) (hb : Below W.heap.size W V) : IsHead B g x r v V := by
  obtain ⟨A, c, h1, h2⟩ := h
  exact ⟨A, c, h1, h2.below (SlR.good IntR.good) hb⟩
def IsLaidV (B g : Nat) (x : List Int) (r : List (List Int) × Int) (v : Value) (W : World) : Prop := ∃ (A : Option Addr) (c : Nat), v = .agg #[.bool true, .slice A (1 + r.1.length) c, .int .i64 r.2] ∧ OwnL (SlR IntR 1) 1 (fun k => g < k ∧ k < B) W B 39 (.slice A (1 + r.1.length) c) ([x] ++ r.1)
theorem IsLaidV.bl {B g : Nat} {x : List Int} {r : List (List Int) × Int} {v : Value} {W V : World} (h : IsLaidV B g x r v W) (hb : Below W.heap.size W V) : IsLaidV B g x r v V := by
  obtain ⟨A, c, h1, h2⟩ := h
  exact ⟨A, c, h1, h2.below (SlR.good IntR.good) hb⟩
theorem BestB.open_ {g : Nat} {o : Option (List (List Int) × Int)} {W : World} (h : BestB g o W) (x : List Int) (r : List (List Int) × Int) : ∃ (ob : Bool) (ov : Value) (oz : Int), Blk W g 124 #[.bool ob, ov, .int .i64 oz] ∧ (ob = false → betterL o (headL x r) = some (headL x r)) ∧ (ob = true → r.2 < oz → betterL o (headL x r) = some (headL x r)) ∧ (ob = true → ¬ r.2 < oz → betterL o (headL x r) = o) := by
  unfold BestB at h
  cases o with
  | none => exact ⟨false, _, _, h, fun _ => rfl, (fun e => by cases e), (fun e => by cases e)⟩
  | some y =>
    obtain ⟨A, c, h1, _⟩ := h
    refine ⟨true, _, _, h1, (fun e => by cases e), fun _ e => ?_, fun _ e => ?_⟩
    · unfold betterL; exact if_pos e
    · unfold betterL; exact if_neg e
def NewLd (B : Nat) (v : Value) (W : World) : Prop := ∃ g, v = .pointer (some ⟨g, 0, none⟩) ∧ Blk W g 124 #[.bool false, .slice none 0 0, .int .i64 0] ∧ B ≤ g
def IsNewV (B : Nat) (xs : List Int) (v : Value) (W : World) : Prop := ∃ (A : Option Addr) (c : Nat), v = .slice A xs.length c ∧ Ints (fun k => B ≤ k) W A xs.length xs ∧ xs.length ≤ c
/-- a laying, as it is returned, away from a block -/
def BestY (B g : Nat) (o : Option (List (List Int) × Int)) (x : Value) (w : World) : Prop :=
  match o with
  | none => True
  | some r => ∃ (A : Option Addr) (c : Nat), x = .agg #[.bool true, .slice A r.1.length c, .int .i64 r.2] ∧ Rows (fun k => B ≤ k ∧ k ≠ g) w A r.1.length r.1
def BestX (B : Nat) (o : Option (List (List Int) × Int)) (x y : Value) (w : World) : Prop := ∀ g : Nat, y = .pointer (some ⟨g, 0, none⟩) → BestY B g o x w
theorem BestX_stab (B : Nat) (o : Option (List (List Int) × Int)) : ∀ x y w w', Below w.heap.size w w' → BestX B o x y w → BestX B o x y w' := by
  intro x y w w' hb h g e
  have := h g e
  cases o with
  | none => trivial
  | some r =>
    obtain ⟨A, c, h1, h2⟩ := this
    exact ⟨A, c, h1, h2.keep (SlR.good IntR.good) (Keeps.below hb)⟩
theorem BestY.of_far {B B2 g : Nat} {o : Option (List (List Int) × Int)} {v : Value} {w : World} (h : BestV B2 o v w) (hB : B ≤ B2) (hg : ∀ k, B2 ≤ k → k ≠ g) : BestY B g o v w := by
  cases o with
  | none => trivial
  | some r =>
    obtain ⟨A, c, h1, h2⟩ := h
    exact ⟨A, c, h1, h2.mono (SlR.good IntR.good) (fun k hk => ⟨Nat.le_trans hB hk, hg k hk⟩)⟩
theorem BestY.of_new {B g : Nat} {o : Option (List (List Int) × Int)} {v : Value} {w : World} {ob : Obj} (h : BestV B o v w) (hg : w.heap.size ≤ g) : BestY B g o v (w.alloc ob) := by
  cases o with
  | none => trivial
  | some r =>
    obtain ⟨A, c, h1, h2⟩ := h
    exact ⟨A, c, h1, ((h2.bound (SlR.good IntR.good)).mono (SlR.good IntR.good) (fun k hk => ⟨hk.1, by have := hk.2; omega⟩)).keep (SlR.good IntR.good) (Keeps.alloc _ _)⟩
def bsE (B : Nat) (hv lv : Value) (row : Nat) (rr : Int) (lf al : Value) (j bA oA : Nat) (xv : Value) (lx : List Int) (before : Int) (g9 : Nat) (p1 : Int) (o : Option (List (List Int) × Int)) : Nat → Bool → Value → World → Prop
  | 0, _, v, _ => v = hv
  | 1, _, v, _ => v = lv
  | 2, _, v, _ => v = .int .i64 row
  | 3, _, v, _ => v = .int .i64 rr
  | 4, _, v, _ => v = lf
  | 5, _, v, _ => v = al
  | 6, _, v, _ => v = .int .i64 j
  | 7, _, v, _ => v = .pointer (some ⟨bA, oA + j, none⟩)
  | 8, _, v, _ => v = xv
  | 9, _, v, W => IsNewV B lx v W
  | 10, _, v, _ => v = .int .i64 before
  | 11, _, v, _ => v = .pointer (some ⟨g9, 1, none⟩)
  | 12, _, v, _ => v = .int .i64 p1
  | 13, _, v, _ => v = .int .i64 (max before p1)
  | 14, _, v, W => BestV B o v W
  | 15, _, v, W => NewLd B v W
  | _, _, _, _ => True
theorem bsE_stab (B : Nat) (hv lv : Value) (row : Nat) (rr : Int) (lf al : Value) (j bA oA : Nat) (xv : Value) (lx : List Int) (before : Int) (g9 : Nat) (p1 : Int) (o : Option (List (List Int) × Int)) : ∀ i b v w w', Below w.heap.size w w' → bsE B hv lv row rr lf al j bA oA xv lx before g9 p1 o i b v w → bsE B hv lv row rr lf al j bA oA xv lx before g9 p1 o i b v w'
  | 0, _, _, _, _, _, h => h
  | 1, _, _, _, _, _, h => h
  | 2, _, _, _, _, _, h => h
  | 3, _, _, _, _, _, h => h
  | 4, _, _, _, _, _, h => h
  | 5, _, _, _, _, _, h => h
  | 6, _, _, _, _, _, h => h
  | 7, _, _, _, _, _, h => h
  | 8, _, _, _, _, _, h => h
  | 9, _, _, _, _, hb, h => by obtain ⟨A1, c1, h1, h2, h3⟩ := h; exact ⟨A1, c1, h1, h2.keep IntR.good (Keeps.below hb), h3⟩
  | 10, _, _, _, _, _, h => h
  | 11, _, _, _, _, _, h => h
  | 12, _, _, _, _, _, h => h
  | 13, _, _, _, _, _, h => h
  | 14, _, _, _, _, hb, h => BestV.bl h hb
  | 15, _, _, _, _, hb, h => by obtain ⟨g, h1, h2, h3⟩ := h; exact ⟨g, h1, h2.bl hb, h3⟩
  | _ + 16, _, _, _, _, _, _ => trivial
theorem ret_laid {fn : Func} {p : Tmp} (h : fn.results = #[.cell p 124]) {tmps : Array Value} {g : Nat} {v0 v1 v2 : Value} {w : World} (hp : tmps.getD p undef = .pointer (some ⟨g, 0, none⟩)) (hB : Blk w g 124 #[v0, v1, v2]) : (results fn tmps).run Try.prog w = .ok (.agg #[v0, v1, v2]) w := by
  have hp' : tmps[p]?.getD undef = .pointer (some ⟨g, 0, none⟩) := by simpa using hp
  have h0 : w.cell? ⟨g, 0, none⟩ = some v0 := hB.cell 0
  have h1 : w.cell? ⟨g, 1, none⟩ = some v1 := hB.cell 1
  have h2 : w.cell? ⟨g, 2, none⟩ = some v2 := hB.cell 2
  simp [results, h, hp', asAddr, go_sem, h0, h1, h2]
theorem Blk.set3 {w : World} {g : Nat} {t : TypeId} {a b c : Value} (h : Blk w g t #[a, b, c]) (x y z : Value) : Blk (((w.setCell ⟨g, 0, none⟩ x).setCell ⟨g, 1, none⟩ y).setCell ⟨g, 2, none⟩ z) g t #[x, y, z] := ((h.set_ 0 x).set_ 1 y).set_ 2 z

set_option maxRecDepth 100000 in
set_option maxHeartbeats 16000000 in
theorem rbest_any {A B C : Option Addr} {n ca m cb q cc : Nat} {h : Hall} {l : List Seen} {alo ahi most : Int} (h1 : h.alo = alo) (h2 : h.ahi = ahi) (h3 : h.most = most) (hk : OkH h) (hq6 : l.length ≤ 6) (hsn : ∀ (k : Nat) (y : Seen), l[k]? = some y → 0 ≤ y.air ∧ y.air ≤ 40) (hag : agree8 h l = true) :
    ∀ (k row : Nat) (hrow : row + k = m) {S : Foot} {T : Option Addr} {nl cl : Nat} {left : List Int} (before : Int) (w : World) (g : HallAt (fun _ => True) w A n B m h) (gs : Seens (fun _ => True) w C q l) (ht : Ints S w T nl left) (hl8 : nl ≤ 8) (hcl : nl ≤ cl) (hT : ∀ i ∈ left, 0 ≤ i ∧ i < n),
    Calls Try.prog 71 #[.agg #[.int .i64 alo, .int .i64 ahi, .int .i64 most, .slice A n ca, .slice B m cb], .slice C q cc, .int .i64 row, .slice T nl cl, .int .i64 before] w fun e w' => (∃ v, e = .returned v ∧ BestV w.heap.size (bestR h l k left before) v w') ∧ Below w.heap.size w w' := by
  obtain ⟨i1, hi1, hy0, hy1, hy2⟩ := info_parts infoS24
  intro k
  induction k with
  | zero =>
    intro row hrow S T nl cl left before w g gs ht hl8 hcl hT
    obtain ⟨W, hW⟩ : ∃ W, (w.alloc (.cells #[.int .i64 alo, .int .i64 ahi, .int .i64 most, .slice A n ca, .slice B m cb] 27)).alloc (.cells #[.bool false, .slice none 0 0, .int .i64 0] 124) = W := ⟨_, rfl⟩
    have X : Blk W w.heap.size 27 #[.int .i64 alo, .int .i64 ahi, .int .i64 most, .slice A n ca, .slice B m cb] := by rw [← hW]; exact (Blk.new _ _ _ rfl).alloc _
    have X8 : Blk W (w.heap.size + 1) 124 #[.bool false, .slice none 0 0, .int .i64 0] := by rw [← hW]; exact Blk.new _ _ _ (by simp)
    have hBW : Below w.heap.size w W := by rw [← hW]; exact bl_alloc (bl_alloc (Below.refl _ _) _ (Nat.le_refl _)) _ (Nat.le_refl _)
    have x4 : W.cell? ⟨w.heap.size, 4, none⟩ = some (.slice B m cb) := X.cell 4
    have z0 : W.cell? ⟨w.heap.size + 1, 0, none⟩ = some (.bool false) := X8.cell 0
    have z1 : W.cell? ⟨w.heap.size + 1, 1, none⟩ = some (.slice none 0 0) := X8.cell 1
    have z2 : W.cell? ⟨w.heap.size + 1, 2, none⟩ = some (.int .i64 0) := X8.cell 2
    have f0 := X8.frozen 0
    have f1 := X8.frozen 1
    have f2 := X8.frozen 2
    have hl := X8.lt
    have hrm : ((row : Int) == (m : Int)) = true := by simp; omega
    go_enter Try.func71, Try.ntmps71
    go_wp2_with fail
    refine bodyPost_ret (ret_laid rfl rfl (X8.set3 _ _ _)) rfl ⟨⟨_, rfl, ?_⟩, bl_set (bl_set (bl_set hBW (by dsimp only; omega) _) (by dsimp only; omega) _) (by dsimp only; omega) _⟩
    exact ⟨none, 0, rfl, SliceOf.nil _ _ _ _ _⟩
  | succ k ih =>
    intro row hrow S T nl cl left before w g gs ht hl8 hcl hT
    have IH : Hid _ := @ih
    clear ih
    have Hm := Lib.hid g.rs.len
    have Hn := Lib.hid g.ts.len
    have Hnl := Lib.hid ht.len
    have hmr : h.rows.length - (k + 1) = row := by rw [Hm.out]; omega
    obtain ⟨b, off, fr, sw, pl, rfl, hbb, r0, r1, r2, Hx⟩ := RowTs.get g.rs (k := row) (by omega)
    have hre := hk.row (k := row) (by rw [Hm.out]; omega)
    obtain ⟨f1, f2, f3, f4, f5, f6⟩ := rowE_zero Hx.out hre
    have hnt := hk.nt
    rw [Hn.out] at hnt f6
    have HP : Hid (rowP h row = pl.toNat) := by rw [Hid, rowP, getD_of Hx.out]
    obtain ⟨pn, rfl⟩ := Int.eq_ofNat_of_zero_le (show 0 ≤ pl by omega)
    have HR : Hid (bestR h l (k + 1) left before = (lexL pn left).foldl (bestStep h l row k left before) none) := by
      rw [Hid, best_succ, hmr, HP.out]; rfl
    have HALL : Hid (∀ x ∈ lexL pn left, x.length = pn ∧ ∀ i ∈ x, 0 ≤ i ∧ i < n) := fun x hx => by
      obtain ⟨h1, h2⟩ := lex_sub pn left x hx
      exact ⟨h2, fun i hi => hT i (h1.subset hi)⟩
    obtain ⟨W, hW⟩ : ∃ W, ((w.alloc (.cells #[.int .i64 alo, .int .i64 ahi, .int .i64 most, .slice A n ca, .slice (some ⟨b, off, none⟩) m cb] 27)).alloc (.cells #[.bool false, .slice none 0 0, .int .i64 0] 124)).alloc (.cells #[.bool false, .slice none 0 0, .int .i64 0] 124) = W := ⟨_, rfl⟩
    obtain ⟨g0, hg0⟩ : ∃ g0, w.heap.size = g0 := ⟨_, rfl⟩
    have X : Blk W g0 27 #[.int .i64 alo, .int .i64 ahi, .int .i64 most, .slice A n ca, .slice (some ⟨b, off, none⟩) m cb] := by rw [← hW, ← hg0]; exact ((Blk.new _ _ _ rfl).alloc _).alloc _
    have X8 : Blk W (g0 + 1) 124 #[.bool false, .slice none 0 0, .int .i64 0] := by rw [← hW, ← hg0]; exact (Blk.new _ _ _ (by simp)).alloc _
    have X9 : Blk W (g0 + 1 + 1) 124 #[.bool false, .slice none 0 0, .int .i64 0] := by rw [← hW, ← hg0]; exact Blk.new _ _ _ (by simp)
    have hBW : Below w.heap.size w W := by rw [← hW]; exact bl_alloc (bl_alloc (bl_alloc (Below.refl _ _) _ (Nat.le_refl _)) _ (Nat.le_refl _)) _ (Nat.le_refl _)
    have hrm : ((row : Int) == (m : Int)) = false := by simp; omega
    have hri : (row : Int) < m := by omega
    have hrm8 := g.rs.le
    have y2 := getc hBW r2
    have x3 : W.cell? ⟨g0, 4, none⟩ = some (.slice (some ⟨b, off, none⟩) m cb) := X.cell 4
    have HG := Lib.hid g
    have HGS := Lib.hid gs
    have HTT := Lib.hid ht
    have HK := Lib.hid hk
    have HAG := Lib.hid hag
    have HSN := Lib.hid hsn
    have HT := Lib.hid hT
    have X' : Blk ((w.alloc (.cells #[.int .i64 alo, .int .i64 ahi, .int .i64 most, .slice A n ca, .slice (some ⟨b, off, none⟩) m cb] 27)).alloc (.cells #[.bool false, .slice none 0 0, .int .i64 0] 124)) g0 27 #[.int .i64 alo, .int .i64 ahi, .int .i64 most, .slice A n ca, .slice (some ⟨b, off, none⟩) m cb] := by rw [← hg0]; exact (Blk.new _ _ _ rfl).alloc _
    have x4 := X'.cell 4
    clear g gs ht hk hag hsn hT r0 r1 r2 X' hbb hre
    go_enter Try.func71, Try.ntmps71
    go_wp2_with fail
    refine (lists_any pn W (SliceOf.nil _ _ (fun _ => False) _ _) (HTT.out.keep IntR.good (Keeps.below hBW)) hl8 hcl (by omega)).mono ?_
    rintro e W4 ⟨⟨AL, cL, rfl, hL⟩, b4⟩
    rw [show listsB [] pn left = lexL pn left by simp [listsB]] at hL ⊢
    have HL8 : Hid ((lexL pn left).length ≤ 256) := Nat.le_trans (lexL_len left pn) (Nat.pow_le_pow_right (by decide) (by rw [Hnl.out]; exact hl8) : 2 ^ left.length ≤ 2 ^ 8)
    obtain ⟨L, hLL⟩ : ∃ L, lexL pn left = L := ⟨_, rfl⟩
    rw [hLL] at hL HL8 HALL HR ⊢
    obtain ⟨qL, hqL⟩ : ∃ qL, L.length = qL := ⟨_, rfl⟩
    rw [hqL] at hL HL8 ⊢
    have HQL := Lib.hid hqL
    have hq256 : qL ≤ 256 := HL8.out
    have RX := X.bl b4
    have R8 := X8.bl b4
    have R9 := X9.bl b4
    have HBL : Hid (Below w.heap.size w W4) := bl_call hBW b4 (Nat.le_refl _)
    have hgW : g0 + 1 + 1 < W.heap.size := X9.lt
    have hW4 : W.heap.size ≤ W4.heap.size := b4.size
    have HL := Lib.hid (hL.mono (SlR.good IntR.good) (T := fun k => W.heap.size ≤ k) (fun k h => by rcases h with h | h; exact h.elim; exact h))
    have HR9 : Hid (BestB (g0 + 1 + 1) none W4) := R9
    clear hW X X8 X9 b4 hL hLL hqL HL8 x3 x4 y2 R9
    obtain ⟨rr, hrr⟩ : ∃ rr : Int, (row : Int) + 1 = rr := ⟨_, rfl⟩
    have hwr : IntKind.i64.wrap rr = rr := by rw [IntKind.wrap_i64]; omega
    have HIR : Hid (∀ (x : List Int) (p1 : Int) (V : World), Below w.heap.size w V → ∀ {S : Foot} {A9 : Option Addr} {c9 : Nat}, Ints S V A9 (leftL left x).length (leftL left x) → (leftL left x).length ≤ c9 → Calls Try.prog 71 #[.agg #[.int .i64 alo, .int .i64 ahi, .int .i64 most, .slice A n ca, .slice (some ⟨b, off, none⟩) m cb], .slice C q cc, .int .i64 rr, .slice A9 (leftL left x).length c9, .int .i64 (max before p1)] V fun e w' => (∃ v, e = .returned v ∧ BestV V.heap.size (bestR h l k (leftL left x) (max before p1)) v w') ∧ Below V.heap.size V w') := fun x p1 V hb S A9 c9 hI hc => by
      have := IH.out (row + 1) (by omega) (max before p1) V (HG.out.keep (Keeps.below hb)) (HGS.out.keep SeenR.good (Keeps.below hb)) hI (Nat.le_trans (left_le _ _) (by rw [Hnl.out]; exact hl8)) hc (fun i hi => HT.out i (left_mem hi))
      rw [show (((row + 1 : Nat)) : Int) = rr by omega] at this
      exact this
    go_wp2_with fail
    go_loopw [13] (fun i wr => ∃ (j : Nat) (o : Option (List (List Int) × Int)), i = .int .i64 j ∧ j ≤ qL ∧ Hid ((L.take j).foldl (bestStep h l row k left before) none = o) ∧ Hid (Kept (fun x => x = g0 + 1 + 1) W4 wr) ∧ Hid (BestB (g0 + 1 + 1) o wr)) (fun i _ => qL - (intOf i).toNat)
    case atStart => exact ⟨0, none, rfl, Nat.zero_le _, rfl, Kept.refl _ _, HR9⟩
    case round =>
      obtain ⟨j, o, rfl, hj, HF, HKp, HB⟩ := hrel
      have hBl : Below w.heap.size w wr := HBL.out.trans (HKp.out.below (B := w.heap.size) HBL.out.size (fun x hx => by omega))
      have hRX : Blk wr g0 27 #[.int .i64 alo, .int .i64 ahi, .int .i64 most, .slice A n ca, .slice (some ⟨b, off, none⟩) m cb] := (HKp.out.block _ RX.lt (by omega)).trans RX
      by_cases hlt : j < qL
      · have hji : (j : Int) < qL := by omega
        obtain ⟨bA, oA, x, Ax, nx, cx, rfl, hcell, hX, HxL⟩ := Rows.get (HL.out.keep (SlR.good IntR.good) (HKp.out.keeps (fun k hk e => by have e1 : k = g0 + 1 + 1 := e; have e2 : W.heap.size ≤ k := hk; omega))) hlt
        obtain ⟨hxl, hxm⟩ := HALL.out x (List.mem_of_getElem? HxL.out)
        have hnx : nx = pn := by rw [← hX.len]; exact hxl
        subst hnx
        obtain ⟨p0, p1, hpp⟩ : ∃ p0 p1, gap8 h l row x = (p0, p1) := ⟨_, _, rfl⟩
        have HPP := Lib.hid hpp
        have HXM := Lib.hid hxm
        have HX := Lib.hid hX
        have HAL : Hid (∀ V, Below wr.heap.size wr V → Calls Try.prog 62 #[.agg #[.int .i64 alo, .int .i64 ahi, .int .i64 most, .slice A n ca, .slice (some ⟨b, off, none⟩) m cb], .slice C q cc, .int .i64 row, .slice Ax nx cx] V fun e w' => e = .returned (.agg #[.int .i64 p0, .int .i64 p1]) ∧ Below V.heap.size V w') := fun V hb => by
          have hB2 := bl_call hBl hb (Nat.le_refl _)
          have := rall_any (ca := ca) (cb := cb) (cc := cc) (c := cx) V (HG.out.keep (Keeps.below hB2)) (HGS.out.keep SeenR.good (Keeps.below hB2)) h1 h2 (v3 := .int .i64 most) rfl HK.out hq6 HSN.out HAG.out (show row < m by omega) (HX.out.keep IntR.good (Keeps.below hb)) (show nx ≤ 8 by omega) HXM.out
          rw [HPP.out] at this
          exact this
        obtain ⟨O, hO⟩ : ∃ O, bestR h l k (leftL left x) (max before p1) = O := ⟨_, rfl⟩
        have HO : Hid (bestR h l k (leftL left x) (max before (gap8 h l row x).2) = O) := by rw [Hid, HPP.out]; exact hO
        obtain ⟨LX, hLX⟩ : ∃ LX, leftL left x = LX := ⟨_, rfl⟩
        have HIH : Hid (∀ (V : World), Below wr.heap.size wr V → ∀ {S : Foot} {A9 : Option Addr} {c9 : Nat}, Ints S V A9 LX.length LX → LX.length ≤ c9 → Calls Try.prog 71 #[.agg #[.int .i64 alo, .int .i64 ahi, .int .i64 most, .slice A n ca, .slice (some ⟨b, off, none⟩) m cb], .slice C q cc, .int .i64 rr, .slice A9 LX.length c9, .int .i64 (max before p1)] V fun e w' => (∃ v, e = .returned v ∧ BestV V.heap.size O v w') ∧ Below V.heap.size V w') := by
          rw [← hO, ← hLX]
          exact fun V hb => HIR.out x p1 V (bl_call hBl hb (Nat.le_refl _))
        have HLF : Hid (∀ (V : World), Below wr.heap.size wr V → Calls Try.prog 76 #[.slice T nl cl, .slice Ax nx cx] V fun e w' => IsNew V.heap.size LX e w' ∧ Below V.heap.size V w') := by
          rw [← hLX]
          exact fun V hb => left_any V (HTT.out.keep IntR.good (Keeps.below (bl_call hBl hb (Nat.le_refl _)))) (HX.out.keep IntR.good (Keeps.below hb)) hl8
        clear hO hLX
        have HRX := Lib.hid hRX
        have HCE := Lib.hid hcell
        have HBl := Lib.hid hBl
        clear hpp hxm hX hxl hRX hcell hBl
        go_wp2_with fail
        refine wp_region_list (fun W => Below wr.heap.size wr W) (fun w w' => Below w.heap.size w w')
          [isV (.agg #[.int .i64 alo, .int .i64 ahi, .int .i64 most, .slice A n ca, .slice (some ⟨b, off, none⟩) m cb]), isV (.slice C q cc), isV (.int .i64 row), isV (.slice (some ⟨bA, oA, none⟩) qL cL), isV (.int .i64 j), isV (.pointer (some ⟨bA, oA + j, none⟩)), isV (.slice Ax nx cx), isV (.agg #[.int .i64 p0, .int .i64 p1]), NewSp wr.heap.size 23]
          (by kernel_rfl) (by kernel_rfl) (by kernel_rfl) (by simp) (by simp) (Below.refl _ _).drew ?stab ?step ?fin
        case stab => exact (StabL.is (StabL.is (StabL.is (StabL.is (StabL.is (StabL.is (StabL.is (StabL.is (StabL.cons (fun v W V hC hX ⟨g, h1, h2, h3⟩ => ⟨g, h1, h2.bl hX, h3⟩) StabL.nil)))))))))
        case step =>
          refine StepsL.is ?_ (StepsL.is ?_ (StepsL.is ?_ (StepsL.is ?_ (StepsL.is ?_ (StepsL.is ?_ (StepsL.is ?_ (StepsL.is ?_ (StepsL.cons ?_ StepsL.nil))))))))
          all_goals
            intro vs W K hC hD hU hK
            simp only [fillA, Act.put, List.setIfInBounds_toArray, List.set_cons_zero, List.set_cons_succ, Nat.zero_add, Nat.reduceAdd] at hK ⊢
            simp [waits, Region.binds] at hD
            try simp only [envOf, List.getD_cons_succ, List.getD_cons_zero, isV] at hD
            try simp only [hD] at hK ⊢
          · have hR := HRX.out.bl hC
            have k0 := hR.cell 0
            have k1 := hR.cell 1
            have k2 := hR.cell 2
            have k3 := hR.cell 3
            have k4 := hR.cell 4
            go_simp; exact hK _ hC (Below.refl _ _)
          · go_simp; exact hK _ hC (Below.refl _ _)
          · go_simp; exact hK _ hC (Below.refl _ _)
          · go_simp; exact hK _ hC (Below.refl _ _)
          · go_simp; exact hK _ hC (Below.refl _ _)
          · go_simp; exact hK _ hC (Below.refl _ _)
          · have k0 := getc hC HCE.out
            go_simp; exact hK _ hC (Below.refl _ _)
          · go_simp
            refine (HAL.out W hC).mono ?_
            rintro e w' ⟨rfl, hb⟩
            exact hK _ (bl_call hC hb (Nat.le_refl _)) hb
          · go_simp
            exact hK _ _ (bl_alloc hC _ (Nat.le_refl _)) (bl_alloc (Below.refl _ _) _ (Nat.le_refl _)) ⟨_, rfl, Blk.new _ _ _ rfl, hC.size⟩
        case fin =>
          intro vs W hC hE hU
          have e4 := hE 7 (by simp)
          have e5 := hE 8 (by simp)
          simp only [envOf, List.getD_cons_succ, List.getD_cons_zero, isV] at e4 e5
          simp only [fillA, Act.put, List.setIfInBounds_toArray, List.set_cons_zero, List.set_cons_succ, Nat.zero_add, Nat.reduceAdd, e4]
          simp [Region.wanted, yielded]
          obtain ⟨g9, h9, hB9, hg9⟩ := e5
          rw [h9]
          have z0 := hB9.cell 0
          have z1 := hB9.cell 1
          have fz0 := hB9.frozen 0
          have fz1 := hB9.frozen 1
          have hl9 := hB9.lt
          have hgr : g0 + 1 + 1 < wr.heap.size := Nat.lt_of_lt_of_le hgW (Nat.le_trans hW4 HKp.out.size)
          obtain ⟨u0, hu0⟩ : ∃ v0, vs 0 = v0 := ⟨_, rfl⟩
          obtain ⟨u1, hu1⟩ : ∃ v0, vs 1 = v0 := ⟨_, rfl⟩
          obtain ⟨u2, hu2⟩ : ∃ v0, vs 2 = v0 := ⟨_, rfl⟩
          obtain ⟨u3, hu3⟩ : ∃ v0, vs 3 = v0 := ⟨_, rfl⟩
          obtain ⟨u4, hu4⟩ : ∃ v0, vs 4 = v0 := ⟨_, rfl⟩
          obtain ⟨u5, hu5⟩ : ∃ v0, vs 5 = v0 := ⟨_, rfl⟩
          obtain ⟨u6, hu6⟩ : ∃ v0, vs 6 = v0 := ⟨_, rfl⟩
          rw [hu0, hu1, hu2, hu3, hu4, hu5, hu6]
          clear hu0 hu1 hu2 hu3 hu4 hu5 hu6
          clear e4 h9 hE hU
          go_simp
          obtain ⟨Wv, hWv⟩ : ∃ Wv, (W.setCell ⟨g9, 0, none⟩ (.int .i64 p0)).setCell ⟨g9, 1, none⟩ (.int .i64 p1) = Wv := ⟨_, rfl⟩
          rw [hWv]
          have HV9 : Hid (Blk Wv g9 23 #[.int .i64 p0, .int .i64 p1]) := by rw [Hid, ← hWv]; exact hB9.set2 _ _
          have HBV : Hid (Below wr.heap.size wr Wv) := by rw [Hid, ← hWv]; exact bl_set (bl_set hC (by dsimp only; omega) _) (by dsimp only; omega) _
          clear hWv hB9 z0 z1 fz0 fz1 hl9
          have hR := HRX.out.bl HBV.out
          have k0 := hR.cell 0
          have k1 := hR.cell 1
          have k2 := hR.cell 2
          have k3 := hR.cell 3
          have k4 := hR.cell 4
          have z0 := HV9.out.cell 0
          have z1 := HV9.out.cell 1
          go_wp2_with fail
          refine (wrong_any most p0 p1 Wv rfl rfl rfl rfl).mono ?_
          rintro e V1 ⟨rfl, c1⟩
          obtain ⟨E, hE⟩ : ∃ E, wrong8 most (p0, p1) = E := ⟨_, rfl⟩
          rw [hE]
          have HEE : Hid (wrong8 h.most (gap8 h l row x) = E) := by rw [Hid, HPP.out, h3, hE]
          have HNX := Lib.hid (foldl_next (f := bestStep h l row k left before) (b := none) HxL.out)
          have HV1 : Hid (Below wr.heap.size wr V1) := bl_call HBV.out c1 (Nat.le_refl _)
          have HB9 : Hid (Blk V1 g9 23 #[.int .i64 p0, .int .i64 p1]) := HV9.out.bl c1
          clear hE c1 k0 k1 k2 k3 k4 z0 z1 hR hC
          by_cases hw0 : E = 0
          · have hwb : (E != 0) = false := by rw [hw0]; simp
            have HW0 : Hid (wrong8 h.most (gap8 h l row x) = 0) := by rw [Hid, HEE.out, hw0]
            clear hw0
            go_wp2_with fail
            have AS := Lib.hid (bsE_stab V1.heap.size (.agg #[.int .i64 alo, .int .i64 ahi, .int .i64 most, .slice A n ca, .slice (some ⟨b, off, none⟩) m cb]) (.slice C q cc) row rr (.slice T nl cl) (.slice (some ⟨bA, oA, none⟩) qL cL) j bA oA (.slice Ax nx cx) LX before g9 p1 O)
            have DS := Lib.hid (BestX_stab V1.heap.size O)
            refine wp_region_invs (fun ls vs w => InvE V1.heap.size V1 (bsE V1.heap.size (.agg #[.int .i64 alo, .int .i64 ahi, .int .i64 most, .slice A n ca, .slice (some ⟨b, off, none⟩) m cb]) (.slice C q cc) row rr (.slice T nl cl) (.slice (some ⟨bA, oA, none⟩) qL cL) j bA oA (.slice Ax nx cx) LX before g9 p1 O) 99 ls vs w ∧ PairI 14 15 (BestX V1.heap.size O) ls vs w) 16 (by kernel_rfl) (by kernel_rfl) (by kernel_rfl) (by rfl) ⟨⟨(Below.refl _ _).drew, fun i h => by cases h⟩, PairI.none⟩ ?step (by rfl) (by rfl) ?fin
            case step =>
              refine StepsI.cons ?_ (StepsI.cons ?_ (StepsI.cons ?_ (StepsI.cons ?_ (StepsI.cons ?_ (StepsI.cons ?_ (StepsI.cons ?_ (StepsI.cons ?_ (StepsI.cons ?_ (StepsI.cons ?_ (StepsI.cons ?_ (StepsI.cons ?_ (StepsI.cons ?_ (StepsI.cons ?_ (StepsI.cons ?_ (StepsI.cons ?_ StepsI.nil)))))))))))))))
              all_goals
                refine StepI.of ?_
                intro ls vs W K hI hl hw hU hK
                simp only [fillA, Act.put, List.setIfInBounds_toArray, List.set_cons_zero, List.set_cons_succ, Nat.zero_add, Nat.reduceAdd] at hK ⊢
                simp [waits, Region.binds] at hw
                have hC := hI.1.1
              · have hR := HRX.out.bl (bl_call HV1.out hC (Nat.le_refl _))
                have k0 := hR.cell 0
                have k1 := hR.cell 1
                have k2 := hR.cell 2
                have k3 := hR.cell 3
                have k4 := hR.cell 4
                go_simp
                exact hK _ _ ⟨hI.1.step AS.out (Below.refl _ _) hC.size (by decide) rfl, hI.2.step DS.out (Below.refl _ _) (by decide) (by decide)⟩
              · go_simp
                exact hK _ _ ⟨hI.1.step AS.out (Below.refl _ _) hC.size (by decide) rfl, hI.2.step DS.out (Below.refl _ _) (by decide) (by decide)⟩
              · go_simp
                exact hK _ _ ⟨hI.1.step AS.out (Below.refl _ _) hC.size (by decide) rfl, hI.2.step DS.out (Below.refl _ _) (by decide) (by decide)⟩
              · have q2 : vs 2 = _ := hI.1.2 2 (by simp [hw])
                simp only [q2] at hK ⊢
                go_simp
                exact hK _ _ ⟨hI.1.step AS.out (Below.refl _ _) hC.size (by decide) rfl, hI.2.step DS.out (Below.refl _ _) (by decide) (by decide)⟩
              · go_simp
                exact hK _ _ ⟨hI.1.step AS.out (Below.refl _ _) hC.size (by decide) rfl, hI.2.step DS.out (Below.refl _ _) (by decide) (by decide)⟩
              · go_simp
                exact hK _ _ ⟨hI.1.step AS.out (Below.refl _ _) hC.size (by decide) rfl, hI.2.step DS.out (Below.refl _ _) (by decide) (by decide)⟩
              · go_simp
                exact hK _ _ ⟨hI.1.step AS.out (Below.refl _ _) hC.size (by decide) rfl, hI.2.step DS.out (Below.refl _ _) (by decide) (by decide)⟩
              · have q5 : vs 5 = _ := hI.1.2 5 (by simp [hw])
                have q6 : vs 6 = _ := hI.1.2 6 (by simp [hw])
                simp only [q5, q6] at hK ⊢
                go_simp
                exact hK _ _ ⟨hI.1.step AS.out (Below.refl _ _) hC.size (by decide) rfl, hI.2.step DS.out (Below.refl _ _) (by decide) (by decide)⟩
              · have q7 : vs 7 = _ := hI.1.2 7 (by simp [hw])
                simp only [q7] at hK ⊢
                have k0 := getc (bl_call HV1.out hC (Nat.le_refl _)) HCE.out
                go_simp
                exact hK _ _ ⟨hI.1.step AS.out (Below.refl _ _) hC.size (by decide) rfl, hI.2.step DS.out (Below.refl _ _) (by decide) (by decide)⟩
              · have q4 : vs 4 = _ := hI.1.2 4 (by simp [hw])
                have q8 : vs 8 = _ := hI.1.2 8 (by simp [hw])
                simp only [q4, q8] at hK ⊢
                go_simp
                have hB3 := bl_call HV1.out hC (Nat.le_refl _)
                refine (HLF.out W hB3).mono ?_
                rintro e w' ⟨⟨A', c', rfl, hI', hc⟩, hb⟩
                exact hK _ _ ⟨hI.1.step AS.out hb hC.size (by decide) ⟨A', c', rfl, hI'.mono IntR.good (fun k h => Nat.le_trans hC.size h), hc⟩, hI.2.step DS.out hb (by decide) (by decide)⟩
              · go_simp
                exact hK _ _ ⟨hI.1.step AS.out (Below.refl _ _) hC.size (by decide) rfl, hI.2.step DS.out (Below.refl _ _) (by decide) (by decide)⟩
              · go_simp
                exact hK _ _ ⟨hI.1.step AS.out (Below.refl _ _) hC.size (by decide) rfl, hI.2.step DS.out (Below.refl _ _) (by decide) (by decide)⟩
              · have q11 : vs 11 = _ := hI.1.2 11 (by simp [hw])
                simp only [q11] at hK ⊢
                have k0 := (HB9.out.bl hC).c1
                go_simp
                exact hK _ _ ⟨hI.1.step AS.out (Below.refl _ _) hC.size (by decide) rfl, hI.2.step DS.out (Below.refl _ _) (by decide) (by decide)⟩
              · have q10 : vs 10 = _ := hI.1.2 10 (by simp [hw])
                have q12 : vs 12 = _ := hI.1.2 12 (by simp [hw])
                simp only [q10, q12] at hK ⊢
                have hmx := max_if before p1
                go_simp
                exact hK _ _ ⟨hI.1.step AS.out (Below.refl _ _) hC.size (by decide) rfl, hI.2.step DS.out (Below.refl _ _) (by decide) (by decide)⟩
              · have q0 : vs 0 = _ := hI.1.2 0 (by simp [hw])
                have q1 : vs 1 = _ := hI.1.2 1 (by simp [hw])
                have q3 : vs 3 = _ := hI.1.2 3 (by simp [hw])
                have q13 : vs 13 = _ := hI.1.2 13 (by simp [hw])
                obtain ⟨A9, c9, q9, hI9, hc9⟩ := hI.1.2 9 (by simp [hw])
                simp only [q0, q1, q3, q9, q13] at hK ⊢
                go_simp
                refine (HIH.out W (bl_call HV1.out hC (Nat.le_refl _)) hI9 hc9).mono ?_
                rintro e w' ⟨⟨v, rfl, hv⟩, hb⟩
                refine hK _ _ ⟨hI.1.step AS.out hb hC.size (by decide) (hv.low hC.size), PairI.left (by decide) fun h15 g e => ?_⟩
                obtain ⟨g', e', hB', _⟩ := hI.1.2 15 h15
                rw [e'] at e
                have e2 : g' = g := by injection e with e; injection e with e; injection e
                subst e2
                exact BestY.of_far hv hC.size (fun k hk hkg => by have q1 := hB'.lt; have q2 : W.heap.size ≤ k := hk; have q3 : k = g' := hkg; omega)
              · go_simp
                refine hK _ _ ⟨hI.1.step AS.out (bl_alloc (Below.refl _ _) _ (Nat.le_refl _)) hC.size (by decide) ⟨_, rfl, Blk.new _ _ _ rfl, hC.size⟩, PairI.right (by decide) fun h14 g e => ?_⟩
                have e2 : W.heap.size = g := by injection e with e; injection e with e; injection e
                have hv : BestV V1.heap.size O (vs 14) W := hI.1.2 14 h14
                exact BestY.of_new hv (Nat.le_of_eq e2)
            case fin =>
              intro ls vs W hI hl hU
              clear hU
              have hC := hI.1.1
              have e14 : BestV V1.heap.size O (vs 14) W := hI.1.2 14 (hl 14 (by decide))
              have e15 : NewLd V1.heap.size (vs 15) W := hI.1.2 15 (hl 15 (by decide))
              have eD : BestX V1.heap.size O (vs 14) (vs 15) W := hI.2 (hl 14 (by decide)) (hl 15 (by decide))
              simp only [fillA, Act.put, List.setIfInBounds_toArray, List.set_cons_zero, List.set_cons_succ, Nat.zero_add, Nat.reduceAdd]
              obtain ⟨g15, h15, hB15, hg15⟩ := e15
              replace eD : BestY V1.heap.size g15 O (vs 14) W := eD g15 h15
              rw [h15]
              obtain ⟨u0, hu0⟩ : ∃ v0, vs 0 = v0 := ⟨_, rfl⟩
              obtain ⟨u1, hu1⟩ : ∃ v0, vs 1 = v0 := ⟨_, rfl⟩
              obtain ⟨u2, hu2⟩ : ∃ v0, vs 2 = v0 := ⟨_, rfl⟩
              obtain ⟨u3, hu3⟩ : ∃ v0, vs 3 = v0 := ⟨_, rfl⟩
              obtain ⟨u4, hu4⟩ : ∃ v0, vs 4 = v0 := ⟨_, rfl⟩
              obtain ⟨u5, hu5⟩ : ∃ v0, vs 5 = v0 := ⟨_, rfl⟩
              obtain ⟨u6, hu6⟩ : ∃ v0, vs 6 = v0 := ⟨_, rfl⟩
              obtain ⟨u7, hu7⟩ : ∃ v0, vs 7 = v0 := ⟨_, rfl⟩
              obtain ⟨u8, hu8⟩ : ∃ v0, vs 8 = v0 := ⟨_, rfl⟩
              obtain ⟨u9, hu9⟩ : ∃ v0, vs 9 = v0 := ⟨_, rfl⟩
              obtain ⟨u10, hu10⟩ : ∃ v0, vs 10 = v0 := ⟨_, rfl⟩
              obtain ⟨u11, hu11⟩ : ∃ v0, vs 11 = v0 := ⟨_, rfl⟩
              obtain ⟨u12, hu12⟩ : ∃ v0, vs 12 = v0 := ⟨_, rfl⟩
              obtain ⟨u13, hu13⟩ : ∃ v0, vs 13 = v0 := ⟨_, rfl⟩
              rw [hu0, hu1, hu2, hu3, hu4, hu5, hu6, hu7, hu8, hu9, hu10, hu11, hu12, hu13]
              clear hu0 hu1 hu2 hu3 hu4 hu5 hu6 hu7 hu8 hu9 hu10 hu11 hu12 hu13
              clear h15 hI hl AS DS
              obtain ⟨u14, hu14⟩ : ∃ v0, vs 14 = v0 := ⟨_, rfl⟩
              rw [hu14] at e14 eD ⊢
              clear hu14
              have z0 := hB15.cell 0
              have z1 := hB15.cell 1
              have z2 := hB15.cell 2
              have fz0 := hB15.frozen 0
              have fz1 := hB15.frozen 1
              have fz2 := hB15.frozen 2
              have hl15 := hB15.lt
              have hgV : wr.heap.size ≤ V1.heap.size := HV1.out.size
              have HWr : Hid (Below wr.heap.size wr W) := bl_call HV1.out hC (Nat.le_refl _)
              cases O with
              | none =>
                have e14 : u14 = .agg #[.bool false, .slice none 0 0, .int .i64 0] := e14
                rw [e14]
                clear e14
                go_simp
                obtain ⟨Ws, hWs⟩ : ∃ Ws, (((W.setCell ⟨g15, 0, none⟩ (.bool false)).setCell ⟨g15, 1, none⟩ (.slice none 0 0)).setCell ⟨g15, 2, none⟩ (.int .i64 0)) = Ws := ⟨_, rfl⟩
                rw [hWs]
                have hB2 : Blk Ws g15 124 #[.bool false, .slice none 0 0, .int .i64 0] := by rw [← hWs]; exact hB15.set3 _ _ _
                have HWs : Hid (Below wr.heap.size wr Ws) := by rw [Hid, ← hWs]; exact bl_set (bl_set (bl_set HWr.out (by dsimp only; omega) _) (by dsimp only; omega) _) (by dsimp only; omega) _
                clear hWs hB15 z0 z1 z2 fz0 fz1 fz2 hl15
                have z0 := hB2.cell 0
                go_wp2_with fail
                go_roundw
                case rel => exact ⟨j + 1, o, by go_num, by omega, by rw [Hid, HNX.out, HF.out, best_none HW0.out HO.out], HKp.out.trans (Kept.of_bl HWs.out), HB.out.bl HWs.out⟩
                case measure => simp [intOf]; omega
              | some r =>
                obtain ⟨A', c', e14, hRr⟩ := eD
                rw [e14]
                clear e14
                go_simp
                obtain ⟨V2, hWs⟩ : ∃ Ws, (((W.setCell ⟨g15, 0, none⟩ (.bool true)).setCell ⟨g15, 1, none⟩ (.slice A' r.1.length c')).setCell ⟨g15, 2, none⟩ (.int .i64 r.2)) = Ws := ⟨_, rfl⟩
                rw [hWs]
                have HB15 : Hid (Blk V2 g15 124 #[.bool true, .slice A' r.1.length c', .int .i64 r.2]) := by rw [Hid, ← hWs]; exact hB15.set3 _ _ _
                have HVs : Hid (Below wr.heap.size wr V2) := by rw [Hid, ← hWs]; exact bl_set (bl_set (bl_set HWr.out (by dsimp only; omega) _) (by dsimp only; omega) _) (by dsimp only; omega) _
                have HRr : Hid (Rows (fun k => g0 + 1 + 1 < k ∧ k < V2.heap.size) V2 A' r.1.length r.1) := by
                  have := ((((hRr.keep (SlR.good IntR.good) (Keeps.setCell W ⟨g15, 0, none⟩ (.bool true) (fun h => h.2 rfl))).keep (SlR.good IntR.good) (Keeps.setCell _ ⟨g15, 1, none⟩ (.slice A' r.1.length c') (fun h => h.2 rfl))).keep (SlR.good IntR.good) (Keeps.setCell _ ⟨g15, 2, none⟩ (.int .i64 r.2) (fun h => h.2 rfl))))
                  rw [hWs] at this
                  exact (this.bound (SlR.good IntR.good)).mono (SlR.good IntR.good) (fun k hk => ⟨by have := hk.1.1; omega, hk.2⟩)
                have HX2 : Hid (Ints (fun k => g0 + 1 + 1 < k ∧ k < V2.heap.size) V2 Ax nx x) := ((HX.out.keep IntR.good (Keeps.below HVs.out)).bound IntR.good).mono IntR.good (fun k hk => ⟨by have e1 : W4.heap.size ≤ W4.heap.size := Nat.le_refl _; have e2 : _ ≤ k := hk.1; omega, hk.2⟩)
                have hr8 : r.1.length ≤ 8 := by have := rows_bound _ _ _ _ HO.out; have := HK.out.nr; have := Hm.out; omega
                obtain ⟨ob, ov, oz, hOB, hc1, hc2, hc3⟩ := (HB.out.bl HVs.out).open_ x r
                have HOB := Lib.hid hOB
                have HC1 := Lib.hid hc1
                have HC2 := Lib.hid hc2
                have HC3 := Lib.hid hc3
                clear hWs hB15 z0 z1 z2 fz0 fz1 fz2 hl15 hRr hc1 hc2 hc3
                have z0 := HB15.out.cell 0
                have z2 := HB15.out.cell 2
                have y0 := hOB.cell 0
                have y2 := hOB.cell 2
                clear hOB
                cases ob with
                | false =>
                  have HNB : Hid (bestStep h l row k left before o x = some (headL x r)) := by rw [Hid, best_some HW0.out HO.out]; exact HC1.out rfl
                  go_wp2_with fail
                  refine wp_region_list (fun W => Below V2.heap.size V2 W) (fun w w' => Below w.heap.size w w')
                    [isV (.slice (some ⟨bA, oA, none⟩) qL cL), isV (.int .i64 j), isV (.pointer (some ⟨bA, oA + j, none⟩)), isV (.slice Ax nx cx), IsOne V2.heap.size (g0 + 1 + 1) x, isV (.pointer (some ⟨g15, 1, none⟩)), isV ((.slice A' r.1.length c')), IsHead V2.heap.size (g0 + 1 + 1) x r, isV (.pointer (some ⟨g15, 2, none⟩)), isV (.int .i64 r.2), IsLaidV V2.heap.size (g0 + 1 + 1) x r]
                    (by kernel_rfl) (by kernel_rfl) (by kernel_rfl) (by simp) (by simp) (Below.refl _ _).drew ?stab ?step ?fin
                  case stab => exact (StabL.is (StabL.is (StabL.is (StabL.is (StabL.cons (fun v W V hC hX hq => IsOne.bl hq hX) (StabL.is (StabL.is (StabL.cons (fun v W V hC hX hq => IsHead.bl hq hX) (StabL.is (StabL.is (StabL.cons (fun v W V hC hX hq => IsLaidV.bl hq hX) StabL.nil)))))))))))
                  case step =>
                    refine StepsL.is ?_ (StepsL.is ?_ (StepsL.is ?_ (StepsL.is ?_ (StepsL.cons ?_ (StepsL.is ?_ (StepsL.is ?_ (StepsL.cons ?_ (StepsL.is ?_ (StepsL.is ?_ (StepsL.cons ?_ StepsL.nil))))))))))
                    all_goals
                      intro vs W K hC hD hU hK
                      simp only [fillA, Act.put, List.setIfInBounds_toArray, List.set_cons_zero, List.set_cons_succ, Nat.zero_add, Nat.reduceAdd] at hK ⊢
                      simp [waits, Region.binds] at hD
                      try simp only [envOf, List.getD_cons_succ, List.getD_cons_zero, isV] at hD
                      try simp only [hD] at hK ⊢
                    · go_simp; exact hK _ hC (Below.refl _ _)
                    · go_simp; exact hK _ hC (Below.refl _ _)
                    · go_simp; exact hK _ hC (Below.refl _ _)
                    · have k0 := getc (bl_call HVs.out hC (Nat.le_refl _)) HCE.out
                      go_simp; exact hK _ hC (Below.refl _ _)
                    · go_simp
                      exact hK _ _ (bl_alloc hC _ (Nat.le_refl _)) (bl_alloc (Below.refl _ _) _ (Nat.le_refl _)) (IsOne.new hC.size (HX2.out.keep IntR.good (Keeps.below hC)))
                    · go_simp; exact hK _ hC (Below.refl _ _)
                    · have k0 := (HB15.out.bl hC).cell 1
                      go_simp; exact hK _ hC (Below.refl _ _)
                    · obtain ⟨⟨gb, q4, hO4⟩, q6⟩ := hD
                      simp only [q4, q6] at hK ⊢
                      rw [if_pos (by rfl)]
                      obtain ⟨A2, cap2, w', hrun, hO2, hb⟩ := run_append_full W 45 45 (SlR.good IntR.good) V2.heap.size 39 i1 _ 24 Try.underlying45 hi1 hy0 hy1 hy2 rfl gb 1 [x] rfl hO4 A' r.1.length c' r.1 (HRr.out.keep (SlR.good IntR.good) (Keeps.below hC)) (fun y vs h => (SlR.good IntR.good).mono h fun k hk => hk.1) (by simp only [maxLen]; omega) (by omega) hC.size (fun h => by have e1 := h.2; have e2 := hC.size; omega)
                      refine wp_append_of_run rfl rfl rfl hrun ?_
                      exact hK _ _ (bl_call hC hb (Nat.le_refl _)) hb ⟨A2, cap2, rfl, hO2⟩
                    · go_simp; exact hK _ hC (Below.refl _ _)
                    · have k0 := (HB15.out.bl hC).cell 2
                      go_simp; exact hK _ hC (Below.refl _ _)
                    · obtain ⟨⟨A2, cap2, q7, hO7⟩, q9⟩ := hD
                      simp only [q7, q9] at hK ⊢
                      go_simp
                      exact hK _ _ hC (Below.refl _ _) ⟨A2, cap2, rfl, hO7⟩
                  case fin =>
                    intro vs W hC hE hU
                    have e10 := hE 10 (by simp)
                    simp only [envOf, List.getD_cons_succ, List.getD_cons_zero] at e10
                    simp only [fillA, Act.put, List.setIfInBounds_toArray, List.set_cons_zero, List.set_cons_succ, Nat.zero_add, Nat.reduceAdd]
                    simp [Region.wanted, yielded]
                    obtain ⟨A2, cap2, h10, hO10⟩ := e10
                    rw [h10]
                    obtain ⟨u0, hu0⟩ : ∃ v0, vs 0 = v0 := ⟨_, rfl⟩
                    obtain ⟨u1, hu1⟩ : ∃ v0, vs 1 = v0 := ⟨_, rfl⟩
                    obtain ⟨u2, hu2⟩ : ∃ v0, vs 2 = v0 := ⟨_, rfl⟩
                    obtain ⟨u3, hu3⟩ : ∃ v0, vs 3 = v0 := ⟨_, rfl⟩
                    obtain ⟨u4, hu4⟩ : ∃ v0, vs 4 = v0 := ⟨_, rfl⟩
                    obtain ⟨u5, hu5⟩ : ∃ v0, vs 5 = v0 := ⟨_, rfl⟩
                    obtain ⟨u6, hu6⟩ : ∃ v0, vs 6 = v0 := ⟨_, rfl⟩
                    obtain ⟨u7, hu7⟩ : ∃ v0, vs 7 = v0 := ⟨_, rfl⟩
                    obtain ⟨u8, hu8⟩ : ∃ v0, vs 8 = v0 := ⟨_, rfl⟩
                    obtain ⟨u9, hu9⟩ : ∃ v0, vs 9 = v0 := ⟨_, rfl⟩
                    rw [hu0, hu1, hu2, hu3, hu4, hu5, hu6, hu7, hu8, hu9]
                    clear hu0 hu1 hu2 hu3 hu4 hu5 hu6 hu7 hu8 hu9
                    clear h10 hE hU
                    have hOB := HOB.out.bl hC
                    have y0 := hOB.cell 0
                    have y1 := hOB.cell 1
                    have y2 := hOB.cell 2
                    have fy0 := hOB.frozen 0
                    have fy1 := hOB.frozen 1
                    have fy2 := hOB.frozen 2
                    have hly := hOB.lt
                    have HOB2 := Lib.hid hOB
                    clear hOB
                    have HWr2 : Hid (Below wr.heap.size wr W) := bl_call HVs.out hC (Nat.le_refl _)
                    go_simp
                    obtain ⟨V3, hV3⟩ : ∃ V3, (((W.setCell ⟨g0 + 1 + 1, 0, none⟩ (.bool true)).setCell ⟨g0 + 1 + 1, 1, none⟩ (.slice A2 (1 + r.1.length) cap2)).setCell ⟨g0 + 1 + 1, 2, none⟩ (.int .i64 r.2)) = V3 := ⟨_, rfl⟩
                    rw [hV3]
                    have HK3 : Hid (Kept (fun x => x = g0 + 1 + 1) W4 V3) := by rw [Hid, ← hV3]; exact (((HKp.out.trans (Kept.of_bl HWr2.out)).trans (Kept.setCell _ _ _ (by exact rfl))).trans (Kept.setCell _ _ _ (by exact rfl))).trans (Kept.setCell _ _ _ (by exact rfl))
                    have HB3 : Hid (BestB (g0 + 1 + 1) (some (headL x r)) V3) := by
                      refine ⟨A2, cap2, ?_, ?_⟩
                      · rw [← hV3, show (headL x r).1.length = 1 + r.1.length by simp [headL]; omega]; exact HOB2.out.set3 _ _ _
                      · rw [show (headL x r).1.length = 1 + r.1.length by simp [headL]; omega, ← hV3]
                        have hgV2 : g0 + 1 + 1 < V2.heap.size := Nat.lt_of_lt_of_le hgr HVs.out.size
                        have hR0 : Rows (fun k => g0 + 1 + 1 < k) W A2 (1 + r.1.length) (headL x r).1 := hO10.slice (SlR.good IntR.good) rfl (by simp only [maxLen]; omega) (fun k h => h.1) (fun k h1 h2 => by omega)
                        exact ((hR0.keep (SlR.good IntR.good) (Keeps.setCell W ⟨g0 + 1 + 1, 0, none⟩ (.bool true) (fun h => Nat.lt_irrefl _ h))).keep (SlR.good IntR.good) (Keeps.setCell _ ⟨g0 + 1 + 1, 1, none⟩ (.slice A2 (1 + r.1.length) cap2) (fun h => Nat.lt_irrefl _ h))).keep (SlR.good IntR.good) (Keeps.setCell _ ⟨g0 + 1 + 1, 2, none⟩ (.int .i64 r.2) (fun h => Nat.lt_irrefl _ h))
                    clear hV3 y0 y1 y2 fy0 fy1 fy2 hly hO10
                    go_wp2
                    go_roundw
                    case rel => exact ⟨j + 1, some (headL x r), by go_num, by omega, by rw [Hid, HNX.out, HF.out, HNB.out], HK3, HB3⟩
                    case measure => simp [intOf]; omega
                | true =>
                  by_cases hlz : r.2 < oz
                  · have HNB : Hid (bestStep h l row k left before o x = some (headL x r)) := by rw [Hid, best_some HW0.out HO.out]; exact HC2.out rfl hlz
                    go_wp2_with fail
                    refine wp_region_list (fun W => Below V2.heap.size V2 W) (fun w w' => Below w.heap.size w w')
                      [isV (.slice (some ⟨bA, oA, none⟩) qL cL), isV (.int .i64 j), isV (.pointer (some ⟨bA, oA + j, none⟩)), isV (.slice Ax nx cx), IsOne V2.heap.size (g0 + 1 + 1) x, isV (.pointer (some ⟨g15, 1, none⟩)), isV ((.slice A' r.1.length c')), IsHead V2.heap.size (g0 + 1 + 1) x r, isV (.pointer (some ⟨g15, 2, none⟩)), isV (.int .i64 r.2), IsLaidV V2.heap.size (g0 + 1 + 1) x r]
                      (by kernel_rfl) (by kernel_rfl) (by kernel_rfl) (by simp) (by simp) (Below.refl _ _).drew ?stab ?step ?fin
                    case stab => exact (StabL.is (StabL.is (StabL.is (StabL.is (StabL.cons (fun v W V hC hX hq => IsOne.bl hq hX) (StabL.is (StabL.is (StabL.cons (fun v W V hC hX hq => IsHead.bl hq hX) (StabL.is (StabL.is (StabL.cons (fun v W V hC hX hq => IsLaidV.bl hq hX) StabL.nil)))))))))))
                    case step =>
                      refine StepsL.is ?_ (StepsL.is ?_ (StepsL.is ?_ (StepsL.is ?_ (StepsL.cons ?_ (StepsL.is ?_ (StepsL.is ?_ (StepsL.cons ?_ (StepsL.is ?_ (StepsL.is ?_ (StepsL.cons ?_ StepsL.nil))))))))))
                      all_goals
                        intro vs W K hC hD hU hK
                        simp only [fillA, Act.put, List.setIfInBounds_toArray, List.set_cons_zero, List.set_cons_succ, Nat.zero_add, Nat.reduceAdd] at hK ⊢
                        simp [waits, Region.binds] at hD
                        try simp only [envOf, List.getD_cons_succ, List.getD_cons_zero, isV] at hD
                        try simp only [hD] at hK ⊢
                      · go_simp; exact hK _ hC (Below.refl _ _)
                      · go_simp; exact hK _ hC (Below.refl _ _)
                      · go_simp; exact hK _ hC (Below.refl _ _)
                      · have k0 := getc (bl_call HVs.out hC (Nat.le_refl _)) HCE.out
                        go_simp; exact hK _ hC (Below.refl _ _)
                      · go_simp
                        exact hK _ _ (bl_alloc hC _ (Nat.le_refl _)) (bl_alloc (Below.refl _ _) _ (Nat.le_refl _)) (IsOne.new hC.size (HX2.out.keep IntR.good (Keeps.below hC)))
                      · go_simp; exact hK _ hC (Below.refl _ _)
                      · have k0 := (HB15.out.bl hC).cell 1
                        go_simp; exact hK _ hC (Below.refl _ _)
                      · obtain ⟨⟨gb, q4, hO4⟩, q6⟩ := hD
                        simp only [q4, q6] at hK ⊢
                        rw [if_pos (by rfl)]
                        obtain ⟨A2, cap2, w', hrun, hO2, hb⟩ := run_append_full W 45 45 (SlR.good IntR.good) V2.heap.size 39 i1 _ 24 Try.underlying45 hi1 hy0 hy1 hy2 rfl gb 1 [x] rfl hO4 A' r.1.length c' r.1 (HRr.out.keep (SlR.good IntR.good) (Keeps.below hC)) (fun y vs h => (SlR.good IntR.good).mono h fun k hk => hk.1) (by simp only [maxLen]; omega) (by omega) hC.size (fun h => by have e1 := h.2; have e2 := hC.size; omega)
                        refine wp_append_of_run rfl rfl rfl hrun ?_
                        exact hK _ _ (bl_call hC hb (Nat.le_refl _)) hb ⟨A2, cap2, rfl, hO2⟩
                      · go_simp; exact hK _ hC (Below.refl _ _)
                      · have k0 := (HB15.out.bl hC).cell 2
                        go_simp; exact hK _ hC (Below.refl _ _)
                      · obtain ⟨⟨A2, cap2, q7, hO7⟩, q9⟩ := hD
                        simp only [q7, q9] at hK ⊢
                        go_simp
                        exact hK _ _ hC (Below.refl _ _) ⟨A2, cap2, rfl, hO7⟩
                    case fin =>
                      intro vs W hC hE hU
                      have e10 := hE 10 (by simp)
                      simp only [envOf, List.getD_cons_succ, List.getD_cons_zero] at e10
                      simp only [fillA, Act.put, List.setIfInBounds_toArray, List.set_cons_zero, List.set_cons_succ, Nat.zero_add, Nat.reduceAdd]
                      simp [Region.wanted, yielded]
                      obtain ⟨A2, cap2, h10, hO10⟩ := e10
                      rw [h10]
                      obtain ⟨u0, hu0⟩ : ∃ v0, vs 0 = v0 := ⟨_, rfl⟩
                      obtain ⟨u1, hu1⟩ : ∃ v0, vs 1 = v0 := ⟨_, rfl⟩
                      obtain ⟨u2, hu2⟩ : ∃ v0, vs 2 = v0 := ⟨_, rfl⟩
                      obtain ⟨u3, hu3⟩ : ∃ v0, vs 3 = v0 := ⟨_, rfl⟩
                      obtain ⟨u4, hu4⟩ : ∃ v0, vs 4 = v0 := ⟨_, rfl⟩
                      obtain ⟨u5, hu5⟩ : ∃ v0, vs 5 = v0 := ⟨_, rfl⟩
                      obtain ⟨u6, hu6⟩ : ∃ v0, vs 6 = v0 := ⟨_, rfl⟩
                      obtain ⟨u7, hu7⟩ : ∃ v0, vs 7 = v0 := ⟨_, rfl⟩
                      obtain ⟨u8, hu8⟩ : ∃ v0, vs 8 = v0 := ⟨_, rfl⟩
                      obtain ⟨u9, hu9⟩ : ∃ v0, vs 9 = v0 := ⟨_, rfl⟩
                      rw [hu0, hu1, hu2, hu3, hu4, hu5, hu6, hu7, hu8, hu9]
                      clear hu0 hu1 hu2 hu3 hu4 hu5 hu6 hu7 hu8 hu9
                      clear h10 hE hU
                      have hOB := HOB.out.bl hC
                      have y0 := hOB.cell 0
                      have y1 := hOB.cell 1
                      have y2 := hOB.cell 2
                      have fy0 := hOB.frozen 0
                      have fy1 := hOB.frozen 1
                      have fy2 := hOB.frozen 2
                      have hly := hOB.lt
                      have HOB2 := Lib.hid hOB
                      clear hOB
                      have HWr2 : Hid (Below wr.heap.size wr W) := bl_call HVs.out hC (Nat.le_refl _)
                      go_simp
                      obtain ⟨V3, hV3⟩ : ∃ V3, (((W.setCell ⟨g0 + 1 + 1, 0, none⟩ (.bool true)).setCell ⟨g0 + 1 + 1, 1, none⟩ (.slice A2 (1 + r.1.length) cap2)).setCell ⟨g0 + 1 + 1, 2, none⟩ (.int .i64 r.2)) = V3 := ⟨_, rfl⟩
                      rw [hV3]
                      have HK3 : Hid (Kept (fun x => x = g0 + 1 + 1) W4 V3) := by rw [Hid, ← hV3]; exact (((HKp.out.trans (Kept.of_bl HWr2.out)).trans (Kept.setCell _ _ _ (by exact rfl))).trans (Kept.setCell _ _ _ (by exact rfl))).trans (Kept.setCell _ _ _ (by exact rfl))
                      have HB3 : Hid (BestB (g0 + 1 + 1) (some (headL x r)) V3) := by
                        refine ⟨A2, cap2, ?_, ?_⟩
                        · rw [← hV3, show (headL x r).1.length = 1 + r.1.length by simp [headL]; omega]; exact HOB2.out.set3 _ _ _
                        · rw [show (headL x r).1.length = 1 + r.1.length by simp [headL]; omega, ← hV3]
                          have hgV2 : g0 + 1 + 1 < V2.heap.size := Nat.lt_of_lt_of_le hgr HVs.out.size
                          have hR0 : Rows (fun k => g0 + 1 + 1 < k) W A2 (1 + r.1.length) (headL x r).1 := hO10.slice (SlR.good IntR.good) rfl (by simp only [maxLen]; omega) (fun k h => h.1) (fun k h1 h2 => by omega)
                          exact ((hR0.keep (SlR.good IntR.good) (Keeps.setCell W ⟨g0 + 1 + 1, 0, none⟩ (.bool true) (fun h => Nat.lt_irrefl _ h))).keep (SlR.good IntR.good) (Keeps.setCell _ ⟨g0 + 1 + 1, 1, none⟩ (.slice A2 (1 + r.1.length) cap2) (fun h => Nat.lt_irrefl _ h))).keep (SlR.good IntR.good) (Keeps.setCell _ ⟨g0 + 1 + 1, 2, none⟩ (.int .i64 r.2) (fun h => Nat.lt_irrefl _ h))
                      clear hV3 y0 y1 y2 fy0 fy1 fy2 hly hO10
                      go_wp2
                      go_roundw
                      case rel => exact ⟨j + 1, some (headL x r), by go_num, by omega, by rw [Hid, HNX.out, HF.out, HNB.out], HK3, HB3⟩
                      case measure => simp [intOf]; omega
                  · have HNB : Hid (bestStep h l row k left before o x = o) := by rw [Hid, best_some HW0.out HO.out]; exact HC3.out rfl hlz
                    go_wp2_with fail
                    go_roundw
                    case rel => exact ⟨j + 1, o, by go_num, by omega, by rw [Hid, HNX.out, HF.out, HNB.out], HKp.out.trans (Kept.of_bl HVs.out), HB.out.bl HVs.out⟩
                    case measure => simp [intOf]; omega
          · have hwb : (E != 0) = true := by simpa using hw0
            have HBD : Hid (wrong8 h.most (gap8 h l row x) ≠ 0) := by rw [Hid, HEE.out]; exact hw0
            clear hw0
            go_wp2_with fail
            go_roundw
            case rel => exact ⟨j + 1, o, by go_num, by omega, by rw [Hid, HNX.out, HF.out, best_bad HBD.out], HKp.out.trans (Kept.of_bl HV1.out), HB.out.bl HV1.out⟩
            case measure => simp [intOf]; omega
      · obtain rfl : j = qL := by omega
        have HE : Hid (bestR h l (k + 1) left before = o) := by rw [Hid, HR.out, ← HF.out, List.take_of_length_le (by rw [HQL.out]; exact Nat.le_refl _)]
        have hR8 : Blk wr (g0 + 1) 124 #[.bool false, .slice none 0 0, .int .i64 0] := (HKp.out.block _ R8.lt (by omega)).trans R8
        have z0 := hR8.cell 0
        have z1 := hR8.cell 1
        have z2 := hR8.cell 2
        have fz0 := hR8.frozen 0
        have fz1 := hR8.frozen 1
        have fz2 := hR8.frozen 2
        have hl8' := hR8.lt
        have HR8 := Lib.hid hR8
        have HBl := Lib.hid hBl
        clear hR8 hRX hBl R8
        cases o with
        | none =>
          have hOB : Blk wr (g0 + 1 + 1) 124 #[.bool false, .slice none 0 0, .int .i64 0] := HB.out
          have y0 := hOB.cell 0
          have y1 := hOB.cell 1
          have y2 := hOB.cell 2
          go_wp2_with fail
          refine bodyPost_ret (ret_laid rfl rfl (HR8.out.set3 _ _ _)) rfl ⟨⟨_, rfl, ?_⟩, bl_set (bl_set (bl_set HBl.out (by dsimp only; omega) _) (by dsimp only; omega) _) (by dsimp only; omega) _⟩
          rw [HE.out]; rfl
        | some r =>
          obtain ⟨A', c', hOB, hRr⟩ := HB.out
          have HRr := Lib.hid hRr
          clear hRr
          have y0 := hOB.cell 0
          have y1 := hOB.cell 1
          have y2 := hOB.cell 2
          go_wp2_with fail
          refine bodyPost_ret (ret_laid rfl rfl (HR8.out.set3 _ _ _)) rfl ⟨⟨_, rfl, ?_⟩, bl_set (bl_set (bl_set HBl.out (by dsimp only; omega) _) (by dsimp only; omega) _) (by dsimp only; omega) _⟩
          rw [HE.out]
          refine ⟨A', c', rfl, ?_⟩
          exact (((HRr.out.keep (SlR.good IntR.good) (Keeps.setCell _ ⟨g0 + 1, 0, none⟩ (.bool true) (fun h => by have h1 : g0 + 1 + 1 < g0 + 1 := h; omega))).keep (SlR.good IntR.good) (Keeps.setCell _ ⟨g0 + 1, 1, none⟩ (.slice A' r.1.length c') (fun h => by have h1 : g0 + 1 + 1 < g0 + 1 := h; omega))).keep (SlR.good IntR.good) (Keeps.setCell _ ⟨g0 + 1, 2, none⟩ (.int .i64 r.2) (fun h => by have h1 : g0 + 1 + 1 < g0 + 1 := h; omega))).mono (SlR.good IntR.good) (fun k hk => by have h1 : g0 + 1 + 1 < k := hk; omega)

end Go.Proofs.Ytpbimgafafkjgaa

namespace Go.Proofs.Ytpbimgafafkjgaa
open Go.RowKit

theorem hallE_parts {h : Hall} {l : List Seen} (e : hallE h l = 0) : (seen8 h l).2 = 0 ∧ agree8 h l = true := by
  unfold hallE at e
  split at e
  · rename_i h1; exact absurd e h1
  · rename_i h1
    split at e
    · cases e
    · rename_i h2
      exact ⟨Classical.byContradiction h1, by simpa using h2⟩
theorem numbers_mem {n : Nat} {i : Int} (h : i ∈ numbersL n) : 0 ≤ i ∧ i < n := by
  unfold numbersL at h
  obtain ⟨k, hk, rfl⟩ := List.mem_map.1 h
  have := List.mem_range.1 hk
  omega
theorem rbest0 {A B C : Option Addr} {n ca m cb q cc : Nat} {h : Hall} {l : List Seen} {alo ahi most : Int} (w : World) (g : HallAt (fun _ => True) w A n B m h) (gs : Seens (fun _ => True) w C q l) (h1 : h.alo = alo) (h2 : h.ahi = ahi) (h3 : h.most = most) (e0 : hallE h l = 0) {S : Foot} {A9 : Option Addr} {c9 : Nat} {LX : List Int} (hI : Ints S w A9 LX.length LX) (hc : LX.length ≤ c9) (h8 : LX.length ≤ 8) (hm : ∀ i ∈ LX, 0 ≤ i ∧ i < n) :
    Calls Try.prog 71 #[.agg #[.int .i64 alo, .int .i64 ahi, .int .i64 most, .slice A n ca, .slice B m cb], .slice C q cc, .int .i64 0, .slice A9 LX.length c9, .int .i64 0] w fun e w' => (∃ v, e = .returned v ∧ BestV w.heap.size (bestR h l h.rows.length LX 0) v w') ∧ Below w.heap.size w w' := by
  obtain ⟨e1, e2⟩ := hallE_parts e0
  obtain ⟨h6, h7, h8'⟩ := seen_air e1
  have hr : h.rows.length = m := g.rs.len
  have := rbest_any (ca := ca) (cb := cb) (cc := cc) h1 h2 h3 h6 h7 h8' e2 m 0 (by omega) 0 w g gs hI h8 hc hm
  rw [hr]
  exact this

/-- what the operations of a region of Lay promise -/
def laE (B : Nat) (hv lv pv tv : Value) (n : Int) (xs : List Int) (o : Option (List (List Int) × Int)) : Nat → Bool → Value → World → Prop
  | 0, _, v, _ => v = hv
  | 1, _, v, _ => v = lv
  | 2, _, v, _ => v = pv
  | 3, _, v, _ => v = tv
  | 4, _, v, _ => v = .int .i64 n
  | 5, _, v, W => IsNewV B xs v W
  | 6, _, v, W => BestV B o v W
  | 7, _, v, W => NewLd B v W
  | _, _, _, _ => True
theorem laE_stab (B : Nat) (hv lv pv tv : Value) (n : Int) (xs : List Int) (o : Option (List (List Int) × Int)) : ∀ i b v w w', Below w.heap.size w w' → laE B hv lv pv tv n xs o i b v w → laE B hv lv pv tv n xs o i b v w'
  | 0, _, _, _, _, _, h => h
  | 1, _, _, _, _, _, h => h
  | 2, _, _, _, _, _, h => h
  | 3, _, _, _, _, _, h => h
  | 4, _, _, _, _, _, h => h
  | 5, _, _, _, _, hb, h => by obtain ⟨A1, c1, h1, h2, h3⟩ := h; exact ⟨A1, c1, h1, h2.keep IntR.good (Keeps.below hb), h3⟩
  | 6, _, _, _, _, hb, h => BestV.bl h hb
  | 7, _, _, _, _, hb, h => by obtain ⟨g, h1, h2, h3⟩ := h; exact ⟨g, h1, h2.bl hb, h3⟩
  | _ + 8, _, _, _, _, _, _ => trivial

set_option maxRecDepth 100000 in
set_option maxHeartbeats 4000000 in
theorem rlay_any {A B C : Option Addr} {n ca m cb q cc : Nat} {h : Hall} {l : List Seen} {alo ahi most : Int} (w : World) (g : HallAt (fun _ => True) w A n B m h) (gs : Seens (fun _ => True) w C q l) (h1 : h.alo = alo) (h2 : h.ahi = ahi) (h3 : h.most = most) :
    Calls Try.prog 29 #[.agg #[.int .i64 alo, .int .i64 ahi, .int .i64 most, .slice A n ca, .slice B m cb], .slice C q cc] w (LayOk w (layR h l)) := by
  have Hn := Lib.hid g.ts.len
  obtain ⟨W, hW⟩ : ∃ W, w.alloc (.cells #[.int .i64 alo, .int .i64 ahi, .int .i64 most, .slice A n ca, .slice B m cb] 27) = W := ⟨_, rfl⟩
  have X : Blk W w.heap.size 27 #[.int .i64 alo, .int .i64 ahi, .int .i64 most, .slice A n ca, .slice B m cb] := by rw [← hW]; exact Blk.new _ _ _ rfl
  have hBW : Below w.heap.size w W := by rw [← hW]; exact bl_alloc (Below.refl _ _) _ (Nat.le_refl _)
  have HG := Lib.hid g
  have HGS := Lib.hid gs
  have hc := HG.out.keep (Keeps.below hBW)
  have hs := HGS.out.keep SeenR.good (Keeps.below hBW)
  have x0 := X.cell 0
  have x1 := X.cell 1
  have x2 := X.cell 2
  have x3 := X.cell 3
  have x4 := X.cell 4
  obtain ⟨E, hE⟩ : ∃ E, hallE h l = E := ⟨_, rfl⟩
  have hcall := rhall_any (ca := ca) (cb := cb) (cc := cc) W hc hs h1 h2 h3
  rw [hE] at hcall
  clear g gs hc hs
  go_enter Try.func29, Try.ntmps29
  go_wp2_with fail
  refine hcall.mono ?_
  rintro e W1 ⟨rfl, b1⟩
  clear hcall hW x0 x1 x2 x3 x4
  have HX := Lib.hid (X.bl b1)
  have HB1 := Lib.hid (bl_call hBW b1 (Nat.le_refl _))
  clear X b1 hBW
  by_cases h0 : E = 0
  · have hb0 : (E != 0) = false := by rw [h0]; simp
    have HE0 : Hid (hallE h l = 0) := by rw [Hid, hE, h0]
    clear hE h0
    obtain ⟨e1, e2⟩ := hallE_parts HE0.out
    obtain ⟨h6, _, _⟩ := seen_air e1
    have hn8 : n ≤ 8 := by rw [← Hn.out]; exact h6.nt.2
    clear e1 e2 h6
    obtain ⟨O, hO⟩ : ∃ O, bestR h l h.rows.length (numbersL n) 0 = O := ⟨_, rfl⟩
    have HRn : Hid (O = none → layR h l = ([], 0, 8)) := fun e => by
      rw [layR, if_neg (by rw [HE0.out]; decide), Hn.out, hO, e]
    have HRs : Hid (∀ r, O = some r → layR h l = (r.1, r.2, 0)) := fun r e => by
      rw [layR, if_neg (by rw [HE0.out]; decide), Hn.out, hO, e]
    obtain ⟨LX, hLX⟩ : ∃ LX, numbersL n = LX := ⟨_, rfl⟩
    have HBE : Hid (∀ (V : World), Below W1.heap.size W1 V → ∀ {A9 : Option Addr} {c9 : Nat} {S : Foot}, Ints S V A9 LX.length LX → LX.length ≤ c9 → Calls Try.prog 71 #[.agg #[.int .i64 alo, .int .i64 ahi, .int .i64 most, .slice A n ca, .slice B m cb], .slice C q cc, .int .i64 0, .slice A9 LX.length c9, .int .i64 0] V fun e w' => (∃ v, e = .returned v ∧ BestV V.heap.size O v w') ∧ Below V.heap.size V w') := by
      intro V hb A9 c9 S hI hc
      have hB := bl_call HB1.out hb (Nat.le_refl _)
      have := rbest0 (ca := ca) (cb := cb) (cc := cc) V (HG.out.keep (Keeps.below hB)) (HGS.out.keep SeenR.good (Keeps.below hB)) h1 h2 h3 HE0.out hI hc (by rw [← hLX, numbers_len]; exact hn8) (fun i hi => numbers_mem (by rw [hLX]; exact hi))
      rw [← hLX, hO] at this
      rw [← hLX]
      exact this
    have HNU : Hid (∀ (V : World), Calls Try.prog 72 #[.int .i64 n] V fun e w' => IsNew V.heap.size LX e w' ∧ Below V.heap.size V w') := by
      intro V
      rw [← hLX]
      exact numbers_any n V hn8
    clear hO hLX
    go_wp2_with fail
    have AS := Lib.hid (laE_stab W1.heap.size (.agg #[.int .i64 alo, .int .i64 ahi, .int .i64 most, .slice A n ca, .slice B m cb]) (.slice C q cc) (.pointer (some ⟨w.heap.size, 3, none⟩)) (.slice A n ca) n LX O)
    have DS := Lib.hid (BestX_stab W1.heap.size O)
    refine wp_region_invs (fun ls vs ww => InvE W1.heap.size W1 (laE W1.heap.size (.agg #[.int .i64 alo, .int .i64 ahi, .int .i64 most, .slice A n ca, .slice B m cb]) (.slice C q cc) (.pointer (some ⟨w.heap.size, 3, none⟩)) (.slice A n ca) n LX O) 99 ls vs ww ∧ PairI 6 7 (BestX W1.heap.size O) ls vs ww) 8 (by kernel_rfl) (by kernel_rfl) (by kernel_rfl) (by rfl) ⟨⟨(Below.refl _ _).drew, fun i h => by cases h⟩, PairI.none⟩ ?step (by rfl) (by rfl) ?fin
    case step =>
      refine StepsI.cons ?_ (StepsI.cons ?_ (StepsI.cons ?_ (StepsI.cons ?_ (StepsI.cons ?_ (StepsI.cons ?_ (StepsI.cons ?_ (StepsI.cons ?_ StepsI.nil)))))))
      all_goals
        refine StepI.of ?_
        intro ls vs W K hI hl hw hU hK
        simp only [fillA, Act.put, List.setIfInBounds_toArray, List.set_cons_zero, List.set_cons_succ, Nat.zero_add, Nat.reduceAdd] at hK ⊢
        simp [waits, Region.binds] at hw
        have hC := hI.1.1
      · have hR := HX.out.bl hC
        have k0 := hR.cell 0
        have k1 := hR.cell 1
        have k2 := hR.cell 2
        have k3 := hR.cell 3
        have k4 := hR.cell 4
        go_simp
        exact hK _ _ ⟨hI.1.step AS.out (Below.refl _ _) hC.size (by decide) rfl, hI.2.step DS.out (Below.refl _ _) (by decide) (by decide)⟩
      · go_simp
        exact hK _ _ ⟨hI.1.step AS.out (Below.refl _ _) hC.size (by decide) rfl, hI.2.step DS.out (Below.refl _ _) (by decide) (by decide)⟩
      · go_simp
        exact hK _ _ ⟨hI.1.step AS.out (Below.refl _ _) hC.size (by decide) rfl, hI.2.step DS.out (Below.refl _ _) (by decide) (by decide)⟩
      · have q2 : vs 2 = _ := hI.1.2 2 (by simp [hw])
        simp only [q2] at hK ⊢
        have k0 := (HX.out.bl hC).cell 3
        go_simp
        exact hK _ _ ⟨hI.1.step AS.out (Below.refl _ _) hC.size (by decide) rfl, hI.2.step DS.out (Below.refl _ _) (by decide) (by decide)⟩
      · have q3 : vs 3 = _ := hI.1.2 3 (by simp [hw])
        simp only [q3] at hK ⊢
        go_simp
        exact hK _ _ ⟨hI.1.step AS.out (Below.refl _ _) hC.size (by decide) rfl, hI.2.step DS.out (Below.refl _ _) (by decide) (by decide)⟩
      · have q4 : vs 4 = _ := hI.1.2 4 (by simp [hw])
        simp only [q4] at hK ⊢
        go_simp
        refine (HNU.out W).mono ?_
        rintro e w' ⟨⟨A', c', rfl, hI', hc⟩, hb⟩
        exact hK _ _ ⟨hI.1.step AS.out hb hC.size (by decide) ⟨A', c', rfl, hI'.mono IntR.good (fun k h => Nat.le_trans hC.size h), hc⟩, hI.2.step DS.out hb (by decide) (by decide)⟩
      · have q0 : vs 0 = _ := hI.1.2 0 (by simp [hw])
        have q1 : vs 1 = _ := hI.1.2 1 (by simp [hw])
        obtain ⟨A9, c9, q9, hI9, hc9⟩ := hI.1.2 5 (by simp [hw])
        simp only [q0, q1, q9] at hK ⊢
        go_simp
        refine (HBE.out W hC hI9 hc9).mono ?_
        rintro e w' ⟨⟨v, rfl, hv⟩, hb⟩
        refine hK _ _ ⟨hI.1.step AS.out hb hC.size (by decide) (hv.low hC.size), PairI.left (by decide) fun h15 g e => ?_⟩
        obtain ⟨g', e', hB', _⟩ := hI.1.2 7 h15
        rw [e'] at e
        have e2 : g' = g := by injection e with e; injection e with e; injection e
        subst e2
        exact BestY.of_far hv hC.size (fun k hk hkg => by have q1 := hB'.lt; have q2 : W.heap.size ≤ k := hk; have q3 : k = g' := hkg; omega)
      · go_simp
        refine hK _ _ ⟨hI.1.step AS.out (bl_alloc (Below.refl _ _) _ (Nat.le_refl _)) hC.size (by decide) ⟨_, rfl, Blk.new _ _ _ rfl, hC.size⟩, PairI.right (by decide) fun h14 g e => ?_⟩
        have e2 : W.heap.size = g := by injection e with e; injection e with e; injection e
        have hv : BestV W1.heap.size O (vs 6) W := hI.1.2 6 h14
        exact BestY.of_new hv (Nat.le_of_eq e2)
    case fin =>
      intro ls vs W hI hl hU
      clear hU
      have hC := hI.1.1
      have e14 : BestV W1.heap.size O (vs 6) W := hI.1.2 6 (hl 6 (by decide))
      have e15 : NewLd W1.heap.size (vs 7) W := hI.1.2 7 (hl 7 (by decide))
      have eD : BestX W1.heap.size O (vs 6) (vs 7) W := hI.2 (hl 6 (by decide)) (hl 7 (by decide))
      simp only [fillA, Act.put, List.setIfInBounds_toArray, List.set_cons_zero, List.set_cons_succ, Nat.zero_add, Nat.reduceAdd]
      obtain ⟨g15, h15, hB15, hg15⟩ := e15
      replace eD : BestY W1.heap.size g15 O (vs 6) W := eD g15 h15
      rw [h15]
      obtain ⟨u0, hu0⟩ : ∃ v0, vs 0 = v0 := ⟨_, rfl⟩
      obtain ⟨u1, hu1⟩ : ∃ v0, vs 1 = v0 := ⟨_, rfl⟩
      obtain ⟨u2, hu2⟩ : ∃ v0, vs 2 = v0 := ⟨_, rfl⟩
      obtain ⟨u3, hu3⟩ : ∃ v0, vs 3 = v0 := ⟨_, rfl⟩
      obtain ⟨u4, hu4⟩ : ∃ v0, vs 4 = v0 := ⟨_, rfl⟩
      obtain ⟨u5, hu5⟩ : ∃ v0, vs 5 = v0 := ⟨_, rfl⟩
      rw [hu0, hu1, hu2, hu3, hu4, hu5]
      clear hu0 hu1 hu2 hu3 hu4 hu5
      clear h15 hI hl AS DS
      obtain ⟨u14, hu14⟩ : ∃ v0, vs 6 = v0 := ⟨_, rfl⟩
      rw [hu14] at e14 eD ⊢
      clear hu14
      have z0 := hB15.cell 0
      have z1 := hB15.cell 1
      have z2 := hB15.cell 2
      have fz0 := hB15.frozen 0
      have fz1 := hB15.frozen 1
      have fz2 := hB15.frozen 2
      have hl15 := hB15.lt
      have HWr : Hid (Below w.heap.size w W) := bl_call HB1.out hC (Nat.le_refl _)
      have hgw : w.heap.size ≤ W1.heap.size := HB1.out.size
      cases O with
      | none =>
        have HR0 : Hid (layR h l = ([], 0, 8)) := HRn.out rfl
        have e14 : u14 = .agg #[.bool false, .slice none 0 0, .int .i64 0] := e14
        rw [e14]
        clear e14
        go_simp
        obtain ⟨Ws, hWs⟩ : ∃ Ws, (((W.setCell ⟨g15, 0, none⟩ (.bool false)).setCell ⟨g15, 1, none⟩ (.slice none 0 0)).setCell ⟨g15, 2, none⟩ (.int .i64 0)) = Ws := ⟨_, rfl⟩
        rw [hWs]
        have hB2 : Blk Ws g15 124 #[.bool false, .slice none 0 0, .int .i64 0] := by rw [← hWs]; exact hB15.set3 _ _ _
        have HWs : Hid (Below w.heap.size w Ws) := by rw [Hid, ← hWs]; exact bl_set (bl_set (bl_set HWr.out (by dsimp only; omega) _) (by dsimp only; omega) _) (by dsimp only; omega) _
        clear hWs hB15 z0 z1 z2 fz0 fz1 fz2 hl15
        have z0 := hB2.cell 0
        go_wp2_with fail
        go_ret3
        exact ⟨HWs.out, none, 0, 0, by rw [HR0.out]; rfl, by rw [HR0.out]; exact SliceOf.nil _ _ _ _ _⟩
      | some r =>
        obtain ⟨A', c', e14, hRr⟩ := eD
        have HR0 : Hid (layR h l = (r.1, r.2, 0)) := HRs.out r rfl
        rw [e14]
        clear e14
        go_simp
        obtain ⟨V2, hWs⟩ : ∃ Ws, (((W.setCell ⟨g15, 0, none⟩ (.bool true)).setCell ⟨g15, 1, none⟩ (.slice A' r.1.length c')).setCell ⟨g15, 2, none⟩ (.int .i64 r.2)) = Ws := ⟨_, rfl⟩
        rw [hWs]
        have hB2 : Blk V2 g15 124 #[.bool true, .slice A' r.1.length c', .int .i64 r.2] := by rw [← hWs]; exact hB15.set3 _ _ _
        have HVs : Hid (Below w.heap.size w V2) := by rw [Hid, ← hWs]; exact bl_set (bl_set (bl_set HWr.out (by dsimp only; omega) _) (by dsimp only; omega) _) (by dsimp only; omega) _
        have HRr : Hid (Rows (fun _ => True) V2 A' r.1.length r.1) := by
          have := ((((hRr.keep (SlR.good IntR.good) (Keeps.setCell W ⟨g15, 0, none⟩ (.bool true) (fun h => h.2 rfl))).keep (SlR.good IntR.good) (Keeps.setCell _ ⟨g15, 1, none⟩ (.slice A' r.1.length c') (fun h => h.2 rfl))).keep (SlR.good IntR.good) (Keeps.setCell _ ⟨g15, 2, none⟩ (.int .i64 r.2) (fun h => h.2 rfl))))
          rw [hWs] at this
          exact this.mono (SlR.good IntR.good) (fun _ _ => trivial)
        clear hWs hB15 z0 z1 z2 fz0 fz1 fz2 hl15 hRr
        have z0 := hB2.cell 0
        have z1 := hB2.cell 1
        have z2 := hB2.cell 2
        go_wp2_with fail
        go_quiet (fail)
        go_wp2
        go_ret3
        exact ⟨bl_drewN HVs.out _, A', _, c', by rw [HR0.out]; rfl, by rw [HR0.out]; exact HRr.out.keep (SlR.good IntR.good) (Keeps.drewN _ _)⟩
  · have hb0 : (E != 0) = true := by simpa using h0
    have HR : Hid (layR h l = ([], 0, E)) := by rw [Hid, layR, if_pos (by rw [hE]; exact h0), hE]
    clear hE h0
    go_wp2_with fail
    go_ret3
    exact ⟨HB1.out, none, 0, 0, by rw [HR.out]; rfl, by rw [HR.out]; exact SliceOf.nil _ _ _ _ _⟩

def IsIntOne (t : Int) (v : Value) (W : World) : Prop := ∃ g : Nat, v = .slice (some ⟨g, 0, none⟩) 1 1 ∧ Blk W g 3 #[.int .i64 t]
theorem Blk.c0one {w : World} {g : Nat} {t : TypeId} {a : Value} (h : Blk w g t #[a]) : w.cell? ⟨g, 0, none⟩ = some a := h.cell 0

set_option maxRecDepth 100000 in
set_option maxHeartbeats 4000000 in
theorem rwithout_any {A B C : Option Addr} {n ca m cb q cc : Nat} {h : Hall} {l : List Seen} {alo ahi most : Int} (t : Int) (w : World) (g : HallAt (fun _ => True) w A n B m h) (gs : Seens (fun _ => True) w C q l) (h1 : h.alo = alo) (h2 : h.ahi = ahi) (h3 : h.most = most) (e0 : hallE h l = 0) :
    Calls Try.prog 48 #[.agg #[.int .i64 alo, .int .i64 ahi, .int .i64 most, .slice A n ca, .slice B m cb], .slice C q cc, .int .i64 t] w fun e w' => e = .returned (.bool (withoutR h l t)) ∧ Below w.heap.size w w' := by
  have Hn := Lib.hid g.ts.len
  obtain ⟨W1, hW⟩ : ∃ W, w.alloc (.cells #[.int .i64 alo, .int .i64 ahi, .int .i64 most, .slice A n ca, .slice B m cb] 27) = W := ⟨_, rfl⟩
  have X : Blk W1 w.heap.size 27 #[.int .i64 alo, .int .i64 ahi, .int .i64 most, .slice A n ca, .slice B m cb] := by rw [← hW]; exact Blk.new _ _ _ rfl
  have HB1 : Hid (Below w.heap.size w W1) := by rw [Hid, ← hW]; exact bl_alloc (Below.refl _ _) _ (Nat.le_refl _)
  have HX := Lib.hid X
  have HG := Lib.hid g
  have HGS := Lib.hid gs
  obtain ⟨e1, e2⟩ := hallE_parts e0
  obtain ⟨h6, _, _⟩ := seen_air e1
  have hn8 : n ≤ 8 := by rw [← Hn.out]; exact h6.nt.2
  have HE0 := Lib.hid e0
  clear e1 e2 h6 e0 g gs X
  obtain ⟨LX, hLX⟩ : ∃ LX, numbersL n = LX := ⟨_, rfl⟩
  obtain ⟨LT, hLT⟩ : ∃ LT, leftL LX [t] = LT := ⟨_, rfl⟩
  obtain ⟨O, hO⟩ : ∃ O, bestR h l h.rows.length LT 0 = O := ⟨_, rfl⟩
  have HR : Hid (withoutR h l t = O.isSome) := by rw [Hid, withoutR, Hn.out, hLX, hLT, hO]
  have HBE : Hid (∀ (V : World), Below W1.heap.size W1 V → ∀ {A9 : Option Addr} {c9 : Nat} {S : Foot}, Ints S V A9 LT.length LT → LT.length ≤ c9 → Calls Try.prog 71 #[.agg #[.int .i64 alo, .int .i64 ahi, .int .i64 most, .slice A n ca, .slice B m cb], .slice C q cc, .int .i64 0, .slice A9 LT.length c9, .int .i64 0] V fun e w' => (∃ v, e = .returned v ∧ BestV V.heap.size O v w') ∧ Below V.heap.size V w') := by
    intro V hb A9 c9 S hI hc
    have hB := bl_call HB1.out hb (Nat.le_refl _)
    have := rbest0 (ca := ca) (cb := cb) (cc := cc) V (HG.out.keep (Keeps.below hB)) (HGS.out.keep SeenR.good (Keeps.below hB)) h1 h2 h3 HE0.out hI hc (by rw [← hLT]; exact Nat.le_trans (left_le _ _) (by rw [← hLX, numbers_len]; exact hn8)) (fun i hi => numbers_mem (by rw [hLX]; exact left_mem (s := [t]) (by rw [hLT]; exact hi)))
    rw [hO] at this
    exact this
  have HNU : Hid (∀ (V : World), Calls Try.prog 72 #[.int .i64 n] V fun e w' => IsNew V.heap.size LX e w' ∧ Below V.heap.size V w') := by
    intro V
    rw [← hLX]
    exact numbers_any n V hn8
  have HLF : Hid (∀ (V : World) {S T : Foot} {A1 B1 : Option Addr} {c1 d1 : Nat}, Ints S V A1 LX.length LX → Ints T V B1 1 [t] → Calls Try.prog 76 #[.slice A1 LX.length c1, .slice B1 1 d1] V fun e w' => IsNew V.heap.size LT e w' ∧ Below V.heap.size V w') := by
    intro V S T A1 B1 c1 d1 hA hB
    rw [← hLT]
    exact left_any V hA hB (by rw [← hLX, numbers_len]; exact hn8)
  clear hO hLX hLT
  go_enter Try.func48, Try.ntmps48
  go_wp2_with fail
  clear hW
  refine wp_region_list (fun W => Below W1.heap.size W1 W) (fun w w' => Below w.heap.size w w')
    [isV (.agg #[.int .i64 alo, .int .i64 ahi, .int .i64 most, .slice A n ca, .slice B m cb]), isV (.slice C q cc), isV (.pointer (some ⟨w.heap.size, 3, none⟩)), isV (.slice A n ca), isV (.int .i64 n), IsNewV W1.heap.size LX, isV (.int .i64 t), IsIntOne t, IsNewV W1.heap.size LT, BestV W1.heap.size O, isV (.bool O.isSome)]
    (by kernel_rfl) (by kernel_rfl) (by kernel_rfl) (by simp) (by simp) (Below.refl _ _).drew ?stab ?step ?fin
  case stab => exact (StabL.is (StabL.is (StabL.is (StabL.is (StabL.is (StabL.cons (fun v W V hC hX ⟨A1, c1, h1, h2, h3⟩ => ⟨A1, c1, h1, h2.keep IntR.good (Keeps.below hX), h3⟩) (StabL.is (StabL.cons (fun v W V hC hX ⟨g, h1, h2⟩ => ⟨g, h1, h2.bl hX⟩) (StabL.cons (fun v W V hC hX ⟨A1, c1, h1, h2, h3⟩ => ⟨A1, c1, h1, h2.keep IntR.good (Keeps.below hX), h3⟩) (StabL.cons (fun v W V hC hX hq => BestV.bl hq hX) (StabL.is StabL.nil)))))))))))
  case step =>
    refine StepsL.is ?_ (StepsL.is ?_ (StepsL.is ?_ (StepsL.is ?_ (StepsL.is ?_ (StepsL.cons ?_ (StepsL.is ?_ (StepsL.cons ?_ (StepsL.cons ?_ (StepsL.cons ?_ (StepsL.is ?_ StepsL.nil))))))))))
    all_goals
      intro vs W K hC hD hU hK
      simp only [fillA, Act.put, List.setIfInBounds_toArray, List.set_cons_zero, List.set_cons_succ, Nat.zero_add, Nat.reduceAdd] at hK ⊢
      simp [waits, Region.binds] at hD
      try simp only [envOf, List.getD_cons_succ, List.getD_cons_zero, isV] at hD
      try simp only [hD] at hK ⊢
    · have hR := HX.out.bl hC
      have k0 := hR.cell 0
      have k1 := hR.cell 1
      have k2 := hR.cell 2
      have k3 := hR.cell 3
      have k4 := hR.cell 4
      go_simp; exact hK _ hC (Below.refl _ _)
    · go_simp; exact hK _ hC (Below.refl _ _)
    · go_simp; exact hK _ hC (Below.refl _ _)
    · have k0 := (HX.out.bl hC).cell 3
      go_simp; exact hK _ hC (Below.refl _ _)
    · go_simp; exact hK _ hC (Below.refl _ _)
    · go_simp
      refine (HNU.out W).mono ?_
      rintro e w' ⟨⟨A', c', rfl, hI', hc⟩, hb⟩
      exact hK _ _ (bl_call hC hb (Nat.le_refl _)) hb ⟨A', c', rfl, hI'.mono IntR.good (fun k h => Nat.le_trans hC.size h), hc⟩
    · go_simp; exact hK _ hC (Below.refl _ _)
    · go_simp
      exact hK _ _ (bl_alloc hC _ (Nat.le_refl _)) (bl_alloc (Below.refl _ _) _ (Nat.le_refl _)) ⟨_, rfl, Blk.new _ _ _ rfl⟩
    · obtain ⟨⟨A9, c9, q9, hI9, hc9⟩, ⟨g8, q8, hB8⟩, _⟩ := hD
      simp only [q9, q8] at hK ⊢
      go_simp
      refine (HLF.out W hI9 (Ints.one hB8.c0one)).mono ?_
      rintro e w' ⟨⟨A', c', rfl, hI', hc⟩, hb⟩
      exact hK _ _ (bl_call hC hb (Nat.le_refl _)) hb ⟨A', c', rfl, hI'.mono IntR.good (fun k h => Nat.le_trans hC.size h), hc⟩
    · obtain ⟨q0, q1, ⟨A9, c9, q9, hI9, hc9⟩⟩ := hD
      simp only [q0, q1, q9] at hK ⊢
      go_simp
      refine (HBE.out W hC hI9 hc9).mono ?_
      rintro e w' ⟨⟨v, rfl, hv⟩, hb⟩
      exact hK _ _ (bl_call hC hb (Nat.le_refl _)) hb (hv.low hC.size)
    · obtain ⟨qv, q9⟩ : ∃ qv, vs 9 = qv := ⟨_, rfl⟩
      rw [q9] at hD
      simp only [q9] at hK ⊢
      cases O with
      | none =>
        have hD : qv = .agg #[.bool false, .slice none 0 0, .int .i64 0] := hD
        rw [hD] at hK ⊢
        go_simp; exact hK _ hC (Below.refl _ _)
      | some r =>
        obtain ⟨A', c', hD, _⟩ := hD
        rw [hD] at hK ⊢
        go_simp; exact hK _ hC (Below.refl _ _)
  case fin =>
    intro vs W hC hE hU
    clear hU
    have e10 : vs 10 = .bool O.isSome := hE 10 (by simp)
    simp only [fillA, Act.put, List.setIfInBounds_toArray, List.set_cons_zero, List.set_cons_succ, Nat.zero_add, Nat.reduceAdd, e10]
    simp [Region.wanted, yielded]
    obtain ⟨u0, hu0⟩ : ∃ v0, vs 0 = v0 := ⟨_, rfl⟩
    obtain ⟨u1, hu1⟩ : ∃ v0, vs 1 = v0 := ⟨_, rfl⟩
    obtain ⟨u2, hu2⟩ : ∃ v0, vs 2 = v0 := ⟨_, rfl⟩
    obtain ⟨u3, hu3⟩ : ∃ v0, vs 3 = v0 := ⟨_, rfl⟩
    obtain ⟨u4, hu4⟩ : ∃ v0, vs 4 = v0 := ⟨_, rfl⟩
    obtain ⟨u5, hu5⟩ : ∃ v0, vs 5 = v0 := ⟨_, rfl⟩
    obtain ⟨u6, hu6⟩ : ∃ v0, vs 6 = v0 := ⟨_, rfl⟩
    obtain ⟨u7, hu7⟩ : ∃ v0, vs 7 = v0 := ⟨_, rfl⟩
    obtain ⟨u8, hu8⟩ : ∃ v0, vs 8 = v0 := ⟨_, rfl⟩
    obtain ⟨u9, hu9⟩ : ∃ v0, vs 9 = v0 := ⟨_, rfl⟩
    rw [hu0, hu1, hu2, hu3, hu4, hu5, hu6, hu7, hu8, hu9]
    clear hu0 hu1 hu2 hu3 hu4 hu5 hu6 hu7 hu8 hu9
    clear hE e10
    have hBF := bl_call HB1.out hC (Nat.le_refl _)
    go_simp
    go_wp2
    go_ret
    exact ⟨ret_bool HR.out.symm, hBF⟩

end Go.Proofs.Ytpbimgafafkjgaa

namespace Go.Proofs.Ytpbimgafafkjgaa
open Go.RowKit

def mustK (h : Hall) (l : List Seen) (k : Nat) : List Int := (numbersL k).filter fun t => !withoutR h l t
theorem mustK_len (h : Hall) (l : List Seen) (k : Nat) : (mustK h l k).length ≤ k := by
  unfold mustK
  have := List.length_filter_le (fun t => !withoutR h l t) (numbersL k)
  rwa [numbers_len] at this
theorem mustK_succ (h : Hall) (l : List Seen) (k : Nat) : mustK h l (k + 1) = mustK h l k ++ (if withoutR h l (k : Int) = true then [] else [(k : Int)]) := by
  unfold mustK
  rw [numbers_succ, List.filter_append]
  cases hh : withoutR h l (k : Int) <;> simp [hh]

set_option maxRecDepth 100000 in
set_option maxHeartbeats 4000000 in
theorem rmust_any {A B C : Option Addr} {n ca m cb q cc : Nat} {h : Hall} {l : List Seen} {alo ahi most : Int} (w : World) (g : HallAt (fun _ => True) w A n B m h) (gs : Seens (fun _ => True) w C q l) (h1 : h.alo = alo) (h2 : h.ahi = ahi) (h3 : h.most = most) :
    Calls Try.prog 32 #[.agg #[.int .i64 alo, .int .i64 ahi, .int .i64 most, .slice A n ca, .slice B m cb], .slice C q cc] w (MustOk w (must8 h l)) := by
  obtain ⟨i0, hi0, hz0, hz1, hz2⟩ := info_parts infoI8
  have Hn := Lib.hid g.ts.len
  obtain ⟨W, hW⟩ : ∃ W, w.alloc (.cells #[.int .i64 alo, .int .i64 ahi, .int .i64 most, .slice A n ca, .slice B m cb] 27) = W := ⟨_, rfl⟩
  have X : Blk W w.heap.size 27 #[.int .i64 alo, .int .i64 ahi, .int .i64 most, .slice A n ca, .slice B m cb] := by rw [← hW]; exact Blk.new _ _ _ rfl
  have hBW : Below w.heap.size w W := by rw [← hW]; exact bl_alloc (Below.refl _ _) _ (Nat.le_refl _)
  have HG := Lib.hid g
  have HGS := Lib.hid gs
  have hc := HG.out.keep (Keeps.below hBW)
  have hs := HGS.out.keep SeenR.good (Keeps.below hBW)
  have x0 := X.cell 0
  have x1 := X.cell 1
  have x2 := X.cell 2
  have x3 := X.cell 3
  have x4 := X.cell 4
  obtain ⟨E, hE⟩ : ∃ E, hallE h l = E := ⟨_, rfl⟩
  have hcall := rhall_any (ca := ca) (cb := cb) (cc := cc) W hc hs h1 h2 h3
  rw [hE] at hcall
  clear g gs hc hs
  go_enter Try.func32, Try.ntmps32
  go_wp2_with fail
  refine hcall.mono ?_
  rintro e W1 ⟨rfl, b1⟩
  clear hcall hW x0 x1 x2 x3 x4
  have HX := Lib.hid (X.bl b1)
  have HB1 := Lib.hid (bl_call hBW b1 (Nat.le_refl _))
  clear X b1 hBW
  by_cases h0 : E = 0
  · subst h0
    have HE0 : Hid (hallE h l = 0) := hE
    clear hE
    obtain ⟨e1, e2⟩ := hallE_parts HE0.out
    obtain ⟨h6, _, _⟩ := seen_air e1
    have hn8 : n ≤ 8 := by rw [← Hn.out]; exact h6.nt.2
    clear e1 e2 h6
    obtain ⟨O, hO⟩ : ∃ O, bestR h l h.rows.length (numbersL n) 0 = O := ⟨_, rfl⟩
    have HRn : Hid (O.isSome = false → must8 h l = ([], 8)) := fun e => by
      rw [must8, if_neg (by rw [HE0.out]; decide), Hn.out, hO, if_pos (by cases O; rfl; cases e)]
    have HRs : Hid (O.isSome = true → must8 h l = (mustK h l n, 0)) := fun e => by
      rw [must8, if_neg (by rw [HE0.out]; decide), Hn.out, hO, if_neg (by cases O; cases e; exact fun h => by cases h)]; rfl
    obtain ⟨LX, hLX⟩ : ∃ LX, numbersL n = LX := ⟨_, rfl⟩
    have HBE : Hid (∀ (V : World), Below W1.heap.size W1 V → ∀ {A9 : Option Addr} {c9 : Nat} {S : Foot}, Ints S V A9 LX.length LX → LX.length ≤ c9 → Calls Try.prog 71 #[.agg #[.int .i64 alo, .int .i64 ahi, .int .i64 most, .slice A n ca, .slice B m cb], .slice C q cc, .int .i64 0, .slice A9 LX.length c9, .int .i64 0] V fun e w' => (∃ v, e = .returned v ∧ BestV V.heap.size O v w') ∧ Below V.heap.size V w') := by
      intro V hb A9 c9 S hI hc
      have hB := bl_call HB1.out hb (Nat.le_refl _)
      have := rbest0 (ca := ca) (cb := cb) (cc := cc) V (HG.out.keep (Keeps.below hB)) (HGS.out.keep SeenR.good (Keeps.below hB)) h1 h2 h3 HE0.out hI hc (by rw [← hLX, numbers_len]; exact hn8) (fun i hi => numbers_mem (by rw [hLX]; exact hi))
      rw [← hLX, hO] at this
      rw [← hLX]
      exact this
    have HNU : Hid (∀ (V : World), Calls Try.prog 72 #[.int .i64 n] V fun e w' => IsNew V.heap.size LX e w' ∧ Below V.heap.size V w') := by
      intro V
      rw [← hLX]
      exact numbers_any n V hn8
    have HWT : Hid (∀ (t : Int) (V : World), Below w.heap.size w V → Calls Try.prog 48 #[.agg #[.int .i64 alo, .int .i64 ahi, .int .i64 most, .slice A n ca, .slice B m cb], .slice C q cc, .int .i64 t] V fun e w' => e = .returned (.bool (withoutR h l t)) ∧ Below V.heap.size V w') := fun t V hb =>
      rwithout_any t V (HG.out.keep (Keeps.below hb)) (HGS.out.keep SeenR.good (Keeps.below hb)) h1 h2 h3 HE0.out
    obtain ⟨ib, hib⟩ : ∃ ib, O.isSome = ib := ⟨_, rfl⟩
    rw [hib] at HRn HRs
    have HIB := Lib.hid hib
    clear hO hLX hib
    go_wp2_with fail
    refine wp_region_list (fun W => Below W1.heap.size W1 W) (fun w w' => Below w.heap.size w w')
      [isV (.int .i64 0), isV (.bool true), isV (.bool true), isV (.agg #[.int .i64 alo, .int .i64 ahi, .int .i64 most, .slice A n ca, .slice B m cb]), isV (.slice C q cc), isV (.pointer (some ⟨w.heap.size, 3, none⟩)), isV (.slice A n ca), isV (.int .i64 n), IsNewV W1.heap.size LX, BestV W1.heap.size O, isV (.bool ib), isV (.bool (!ib))]
      (by kernel_rfl) (by kernel_rfl) (by kernel_rfl) (by simp) (by simp) (Below.refl _ _).drew ?stab ?step ?fin
    case stab => exact (StabL.is (StabL.is (StabL.is (StabL.is (StabL.is (StabL.is (StabL.is (StabL.is (StabL.cons (fun v W V hC hX ⟨A1, c1, h1, h2, h3⟩ => ⟨A1, c1, h1, h2.keep IntR.good (Keeps.below hX), h3⟩) (StabL.cons (fun v W V hC hX hq => BestV.bl hq hX) (StabL.is (StabL.is StabL.nil))))))))))))
    case step =>
      refine StepsL.is ?_ (StepsL.is ?_ (StepsL.is ?_ (StepsL.is ?_ (StepsL.is ?_ (StepsL.is ?_ (StepsL.is ?_ (StepsL.is ?_ (StepsL.cons ?_ (StepsL.cons ?_ (StepsL.is ?_ (StepsL.is ?_ StepsL.nil)))))))))))
      all_goals
        intro vs W K hC hD hU hK
        simp only [fillA, Act.put, List.setIfInBounds_toArray, List.set_cons_zero, List.set_cons_succ, Nat.zero_add, Nat.reduceAdd] at hK ⊢
        simp [waits, Region.binds] at hD
        try simp only [envOf, List.getD_cons_succ, List.getD_cons_zero, isV] at hD
        try simp only [hD] at hK ⊢
      · go_simp; exact hK _ hC (Below.refl _ _)
      · go_simp; exact hK _ hC (Below.refl _ _)
      · go_simp; exact hK _ hC (Below.refl _ _)
      · rw [if_pos (by rfl)]
        have hR := HX.out.bl hC
        have k0 := hR.cell 0
        have k1 := hR.cell 1
        have k2 := hR.cell 2
        have k3 := hR.cell 3
        have k4 := hR.cell 4
        go_simp; exact hK _ hC (Below.refl _ _)
      · rw [if_pos (by rfl)]
        go_simp; exact hK _ hC (Below.refl _ _)
      · rw [if_pos (by rfl)]
        go_simp; exact hK _ hC (Below.refl _ _)
      · rw [if_pos (by rfl)]
        have k0 := (HX.out.bl hC).cell 3
        go_simp; exact hK _ hC (Below.refl _ _)
      · rw [if_pos (by rfl)]
        go_simp; exact hK _ hC (Below.refl _ _)
      · rw [if_pos (by rfl)]
        go_simp
        refine (HNU.out W).mono ?_
        rintro e w' ⟨⟨A', c', rfl, hI', hc⟩, hb⟩
        exact hK _ _ (bl_call hC hb (Nat.le_refl _)) hb ⟨A', c', rfl, hI'.mono IntR.good (fun k h => Nat.le_trans hC.size h), hc⟩
      · obtain ⟨q3, q4, ⟨A9, c9, q8, hI9, hc9⟩, q2⟩ := hD
        simp only [q3, q4, q8] at hK ⊢
        rw [if_pos (by rfl)]
        go_simp
        refine (HBE.out W hC hI9 hc9).mono ?_
        rintro e w' ⟨⟨v, rfl, hv⟩, hb⟩
        exact hK _ _ (bl_call hC hb (Nat.le_refl _)) hb (hv.low hC.size)
      · obtain ⟨hb9, q2⟩ := hD
        obtain ⟨qv, q9⟩ : ∃ qv, vs 9 = qv := ⟨_, rfl⟩
        rw [q9] at hb9
        simp only [q9] at hK ⊢
        rw [if_pos (by rfl)]
        cases O with
        | none =>
          have hD : qv = .agg #[.bool false, .slice none 0 0, .int .i64 0] := hb9
          have hib : ib = false := HIB.out.symm
          subst hib
          rw [hD] at hK ⊢
          go_simp; exact hK _ hC (Below.refl _ _)
        | some r =>
          obtain ⟨A', c', hD, _⟩ := hb9
          have hib : ib = true := HIB.out.symm
          subst hib
          rw [hD] at hK ⊢
          go_simp; exact hK _ hC (Below.refl _ _)
      · rw [if_pos (by rfl)]
        cases ib <;> (go_simp; exact hK _ hC (Below.refl _ _))
    case fin =>
      intro vs W hC hE hU
      clear hU
      have e11 : vs 11 = .bool (!ib) := hE 11 (by simp)
      have e2 : vs 2 = .bool true := hE 2 (by simp)
      simp only [fillA, Act.put, List.setIfInBounds_toArray, List.set_cons_zero, List.set_cons_succ, Nat.zero_add, Nat.reduceAdd, e11, e2]
      simp [Region.wanted, yielded]
      obtain ⟨u0, hu0⟩ : ∃ v0, vs 0 = v0 := ⟨_, rfl⟩
      obtain ⟨u1, hu1⟩ : ∃ v0, vs 1 = v0 := ⟨_, rfl⟩
      obtain ⟨u3, hu3⟩ : ∃ v0, vs 3 = v0 := ⟨_, rfl⟩
      obtain ⟨u4, hu4⟩ : ∃ v0, vs 4 = v0 := ⟨_, rfl⟩
      obtain ⟨u5, hu5⟩ : ∃ v0, vs 5 = v0 := ⟨_, rfl⟩
      obtain ⟨u6, hu6⟩ : ∃ v0, vs 6 = v0 := ⟨_, rfl⟩
      obtain ⟨u7, hu7⟩ : ∃ v0, vs 7 = v0 := ⟨_, rfl⟩
      obtain ⟨u8, hu8⟩ : ∃ v0, vs 8 = v0 := ⟨_, rfl⟩
      obtain ⟨u9, hu9⟩ : ∃ v0, vs 9 = v0 := ⟨_, rfl⟩
      obtain ⟨u10, hu10⟩ : ∃ v0, vs 10 = v0 := ⟨_, rfl⟩
      rw [hu0, hu1, hu3, hu4, hu5, hu6, hu7, hu8, hu9, hu10]
      clear hu0 hu1 hu3 hu4 hu5 hu6 hu7 hu8 hu9 hu10
      clear hE e11 e2
      have HWr : Hid (Below w.heap.size w W) := bl_call HB1.out hC (Nat.le_refl _)
      have HRX := Lib.hid (HX.out.bl hC)
      clear HX hC HBE HNU
      cases ib with
      | false =>
        have HR0 : Hid (must8 h l = ([], 8)) := HRn.out rfl
        clear HRn HRs HIB
        go_simp
        go_wp2_with fail
        go_ret2
        exact ⟨HWr.out, none, 0, 0, by rw [HR0.out]; rfl, by rw [HR0.out]; exact SliceOf.nil _ _ _ _ _⟩
      | true =>
        have HR0 : Hid (must8 h l = (mustK h l n, 0)) := HRs.out rfl
        clear HRn HRs HIB
        go_simp
        go_wp2_with fail
        go_loopw [7, 8] (fun o i wr => ∃ (k len cap : Nat) (An : Option Addr), k ≤ n ∧ i = .int .i64 k ∧ o = .slice An len cap ∧ len ≤ k ∧ Below W.heap.size W wr ∧ OwnL IntR 1 (fun _ => False) wr W.heap.size 3 (.slice An len cap) (mustK h l k) ∧ Hid ((mustK h l k).length = len)) (fun _ i _ => n - (intOf i).toNat)
        case atStart => exact ⟨0, 0, 0, none, Nat.zero_le _, rfl, rfl, Nat.le_refl _, Below.refl _ _, OwnL.nil _ _ _ _ _ _, rfl⟩
        case round =>
          obtain ⟨k, len, cap, An, hk, rfl, rfl, hlen, hB, hO, Hlen⟩ := hrel
          have hR := HRX.out.bl hB
          have x0 := hR.cell 0
          have x1 := hR.cell 1
          have x2 := hR.cell 2
          have x3 := hR.cell 3
          have x4 := hR.cell 4
          by_cases hlt : k < n
          · have hki : (k : Int) < n := by omega
            obtain ⟨wt, hwt⟩ : ∃ wt, withoutR h l (k : Int) = wt := ⟨_, rfl⟩
            have hcall := HWT.out k wr (bl_call HWr.out hB (Nat.le_refl _))
            rw [hwt] at hcall
            have HS := Lib.hid (mustK_succ h l k)
            rw [hwt] at HS
            clear hwt hR
            go_wp2_with fail
            refine hcall.mono ?_
            rintro e w' ⟨rfl, hb⟩
            have hB2 := bl_call hB hb (Nat.le_refl _)
            have hO2 := hO.below IntR.good hb
            clear x0 x1 x2 x3 x4 hcall hb hB hO
            cases wt with
            | true =>
              have HS2 : Hid (mustK h l (k + 1) = mustK h l k) := by rw [Hid, HS.out]; simp
              go_wp2_with fail
              go_roundw
              case rel => exact ⟨k + 1, len, cap, An, by omega, by go_num, rfl, by omega, hB2, by rw [HS2.out]; exact hO2, by rw [Hid, HS2.out]; exact Hlen.out⟩
              case measure => simp [intOf]; omega
            | false =>
              have HS2 : Hid (mustK h l (k + 1) = mustK h l k ++ [(k : Int)]) := by rw [Hid, HS.out]; simp
              go_wp2_with (at_builtin; refine wpList_append_n _ rfl (.tmp 40) (.tmp 42) _ rfl IntR.good W.heap.size 3 i0 _ 8 Try.underlying39 hi0 hz0 hz1 hz2 rfl (by omega) _ (mustK h l k) (k : Int) len Hlen.out rfl (hO2.alloc IntR.good _) ⟨_, 0, none⟩ 1 [.int .i64 k] rfl rfl (news_new rfl rfl) ?c1 ?c2 ?c3 (fun h => h) ?_)
              case c1 => simp only [maxLen]; omega
              case c2 => omega
              case c3 => have := hB2.size; simp; omega
              intro A' cap' w2 hown2 hg2 hat2
              have hB3 : Below W.heap.size W w2 := bl_grown (bl_alloc hB2 _ (Nat.le_refl _)) (hO2.alloc IntR.good _) hg2 (Nat.le_refl _) (Nat.le_refl _)
              clear hg2 hat2 hO2 hB2
              go_wp2
              go_roundw
              case rel => exact ⟨k + 1, len + 1, cap', _, by omega, by go_num, rfl, by omega, hB3, by rw [HS2.out]; exact hown2, by rw [Hid, HS2.out, List.length_append, Hlen.out]; rfl⟩
              case measure => simp [intOf]; omega
          · obtain rfl : k = n := by omega
            go_wp2_with fail
            go_ret2
            refine ⟨bl_call HWr.out hB (Nat.le_refl _), An, len, cap, by rw [HR0.out]; rfl, ?_⟩
            rw [HR0.out]
            exact hO.slice IntR.good rfl (by simp only [maxLen]; omega) (fun _ h => h.elim) (fun _ _ _ => trivial)
  · have hb0 : (E == 0) = false := by simpa using h0
    have hb1 : (E != 0) = true := by simpa using h0
    have HR : Hid (must8 h l = ([], E)) := by rw [Hid, must8, if_pos (by rw [hE]; exact h0), hE]
    clear hE h0
    go_wp2_with fail
    go_quiet (fail)
    go_wp2
    go_ret2
    exact ⟨bl_drewN HB1.out _, none, 0, 0, by rw [HR.out]; rfl, by rw [HR.out]; exact SliceOf.nil _ _ _ _ _⟩

end Go.Proofs.Ytpbimgafafkjgaa
