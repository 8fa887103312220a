/- A part of the proof that TopWorn always answers true. -/
import Derived.OwnWalkIn
import Derived.Test.YtdbfincinjoppabGreatDoorCBackPure
import Derived.Test.YtdbfincinjoppabGreatDoorCIter2
import Derived.Test.YtdbfincinjoppabGreatDoorCMaps2
import Derived.Test.YtdbfincinjoppabGreatDoorCProg14
import Derived.Test.YtdbfincinjoppabGreatDoorCRegion
set_option linter.all false
namespace Go.Proofs.YtdbfincinjoppabGreatDoor
open Go.RowKit
theorem wpListIn_append_n {F : Fence} {n0 : Nat} {P : Program} {ops : Array Oper} {rest : List Oper} {o : Oper} {a : Act} {Q : Exit → Act → World → Prop} (w : World) (hgd : o.guard = none) (s x : Operand) (t : TypeId)
  (ho : o.op = .call { callee := .builtin .append, args := #[s, x], argTypes := #[t, t] })
  {α : Type} {R : Rd α} {m : Nat} (g : R.Good m) {S : Foot} (base : Nat) (e : TypeId) (i : TypeInfo) (z : Value) (bytes : Nat) (ht : P.underlying t = some (.slice e)) (hi : P.info? e = some i) (hz : i.zero = some z)
  (hsize : i.size = m) (hby : i.bytes = bytes) (hzs : z.cells.size = m) (hsz : 0 < m)
  (v : Value) (xs : List α) (y : α) (n : Nat) (hn : xs.length = n) (hs : a.eval s = v) (hown : OwnL R m S w base e v xs)
  (ad : Addr) (c : Nat) (news : List Value) (hx : a.eval x = .slice (some ad) 1 c) (hR : R S w y news) (hnews : ∀ j u, news[j]? = some u → w.cell? (ad.add j) = some u)
  (h63 : n + 1 ≤ maxLen) (hbytes : (n + 1) * bytes ≤ 140737488355328) (hbase : base ≤ w.heap.size) (hS : ¬ S w.heap.size)
  (h : ∀ A' cap' w', OwnL R m S w' base e (.slice (some ⟨A', 0, none⟩) (n + 1) cap') (xs ++ [y]) → w.grownBy w' v.ownBlock → (v.ownBlock = some A' ∨ A' = w.heap.size) → wpListIn F n0 P ops Q rest (a.put o.dst (.slice (some ⟨A', 0, none⟩) (n + 1) cap')) w') : wpListIn F n0 P ops Q (o :: rest) a w := by
 subst hn
 refine wpListIn_plain hgd fun K hK' => ?_
 obtain ⟨A', cap', w', hrun, h2, h3, h4⟩ := run_append_one (P := P) w t o.type g base e i z bytes ht hi hz hsize hby hzs hsz v xs y hown ad c news hR hnews h63 hbytes hbase hS
 unfold Oper.wpIn
 refine ⟨?_, ?_⟩
 ·simp [Oper.about, ho, resolve, Target.leads, Sem.run_pure]
 rw [Oper.semAt_plain F _ _ (by rw [ho]; intro c hc'; cases hc')]
 simp [execOp, ho, resolve, invoke, builtin, hs, hx, hrun, Result.andThen]
 exact hK' _ _ (h A' cap' w' h2 h3 h4)
def TrR : Rd (List Int) := fun _ _ x vs => vs = [.int .i64 (x.getD 0 0), .int .i64 (x.getD 1 0), .int .i64 (x.getD 2 0), .int .i64 (x.getD 3 0), .int .i64 (x.getD 4 0)]
theorem TrR.good : TrR.Good 5 where
 len := by rintro S w x vs rfl; rfl
 one := by rintro S w x vs rfl v hv; simp at hv; rcases hv with rfl | rfl | rfl | rfl | rfl <;> rfl
 keep := by rintro S w w' x vs rfl hk; rfl
 mono := by rintro S T w x vs rfl hk; rfl
 bound := by rintro S w x vs rfl; rfl
abbrev Truths := SliceOf TrR 5
structure ColSt {α : Type} (R : Rd α) (m : Nat) (W : World) (gs : Nat) (T : TypeId) (base : Nat) (e : TypeId) (xs : List α) (O : Foot) : Prop where
 st : ∃ (A : Option Addr) (cap : Nat), Blk W gs T #[.slice A xs.length cap] ∧ OwnL R m (fun _ => False) W base e (.slice A xs.length cap) xs ∧ (∀ k, O k ↔ k = gs ∨ (Value.slice A xs.length cap).ownBlock = some k) ∧ (Value.slice A xs.length cap).ownBlock ≠ some gs
theorem ColSt.stay {α : Type} {R : Rd α} {m : Nat} (g : R.Good m) {A B : World} {gs : Nat} {T : TypeId} {base : Nat} {e : TypeId} {xs : List α} {O : Foot} (h : ColSt R m A gs T base e xs O) (hK : Kept (fun k => ¬ O k) A B) : ColSt R m B gs T base e xs O := by
 obtain ⟨Ad, cap, h1, h2, h3, h4⟩ := h.st
 exact ⟨Ad, cap, (hK.block _ h1.lt (fun h => h ((h3 gs).2 (.inl rfl)))).trans h1, h2.keep g ⟨hK.size, fun k hk hlt => hK.block k hlt (fun h => h ((h3 k).2 (.inr (hk.elim (fun h => h.elim) id))))⟩, h3, h4⟩
open Go.RowKit Go.Shelf
attribute [local go_sem] Oper.semAt_some
set_option maxRecDepth 100000 in
set_option maxHeartbeats 4000000 in
theorem appendSeqI_any {gf : Nat} {lb : Array Value} (eg : ∀ args w, (callFunc gf args).run Tryz.prog w = .ok (.enter gf args) w) {L : List Int} {Inv : World → Prop} (hseq : SeqL Tryz.prog gf lb (fun i : Int => #[.int .i64 i]) L Inv) (w : World)
  (hInv : ∀ A, Below w.heap.size w A → Inv A) (hL : L.length ≤ 100000) :
  Calls Tryz.prog 89 #[.slice none 0 0, .func (.func gf) #[] lb] w fun e w' => ∃ A' n' c', e = .returned (.slice A' n' c') ∧ Ints (fun k => w.heap.size ≤ k) w' A' n' L ∧ Below w.heap.size w w' := by
 obtain ⟨i0, hi0, hz0, hz1, hz2⟩ := info_parts infoInt
 refine (callsIn_wide (n := 1)).1 ?_
 refine callsIn_of_wp_marks Tryz.func89 rfl trivial ?_ rfl
 simp only [Tryz.ntmps89, List.size_toArray, List.length_cons, List.length_nil, Nat.reduceAdd, Nat.reduceSub, Array.replicate_succ, Array.replicate_zero, List.push_toArray, List.append_toArray, List.nil_append, List.cons_append]
 gi_wp2
 obtain ⟨W2, hW2⟩ : ∃ W2, w.alloc (.cells #[.slice none 0 0] 45) = W2 := ⟨_, rfl⟩
 have hk2 : Below w.heap.size w W2 := by rw [← hW2]; exact bl_alloc (Below.refl _ _) _ (Nat.le_refl _)
 have hs2 : W2.heap.size = w.heap.size + 1 := by rw [← hW2]; simp
 have hg2 : Blk W2 w.heap.size 45 #[.slice none 0 0] := by rw [← hW2]; exact Blk.new _ _ _ rfl
 rw [hW2]
 clear hW2
 have hbl : ∀ {A : World}, Kept (fun k => (fun k => k = w.heap.size) k ∨ W2.heap.size ≤ k) W2 A → Below w.heap.size w A := fun hK => hk2.trans (hK.below (by omega) (fun k h => h.elim (fun h => by dsimp only at h; omega) (fun h => by omega)))
 refine rangeFunc_outer (m := 1) (gf := gf) (lb := lb) rfl eg hseq (fun _ => rfl) (fun k => k = w.heap.size)
  (fun i O A => ColSt IntR 1 A w.heap.size 45 w.heap.size 3 (L.take i) O) (fun _ _ _ => False) (fun k h => by omega) (fun A hK => hInv A (hbl hK)) (fun i O A B h _ hK => h.stay IntR.good hK) (fun _ _ _ _ h _ _ => h)
  ⟨none, 0, hg2, OwnL.nil _ _ _ _ _ _, fun k => by simp [Value.ownBlock], by simp [Value.ownBlock]⟩ ?round ?done (fun _ _ _ _ h _ _ _ _ _ => h.elim)
 case round =>
  intro l i x O A1 hx hj hlt hsub hK hnl hlA hWl
  have hil : i < L.length := of_getq hx
  have hti : (L.take i).length = i := by rw [List.length_take]; omega
  have HT := Lib.hid hti
  have HX := Lib.hid hx
  have HJ := Lib.hid hj
  have HK := Lib.hid hK
  clear hti hx hj hK
  rw [fold1]
  simp only [List.setIfInBounds_toArray, List.set_cons_zero, List.set_cons_succ]
  gi_wp2
  refine ⟨Kept.refl _ _, fun A2 hK2 hs2' => ?_⟩
  intros
  have hs2a : A1.heap.size ≤ A2.heap.size := by omega
  have hs2b : A2.heap.size ≤ A1.heap.size := by omega
  clear hs2'
  have hj2 := HJ.out.stay (B := A2) IntR.good (hK2.mono fun k _ h hO => hnl (h ▸ hO))
  obtain ⟨Ad, cap, hB, hO, hOO, hne⟩ := hj2.st
  rw [HT.out] at hB hO hOO hne
  have hc := hB.cell 0
  have hgl := hB.lt
  have hOO' := Lib.hid hOO
  have hne' := Lib.hid hne
  clear hj2 hOO hne
  gi_wp2_with (gi_at_builtin; refine wpListIn_append_n _ rfl (.tmp 8) (.tmp 10) _ rfl IntR.good w.heap.size 3 i0 _ 8 Tryz.underlying45 hi0 hz0 hz1 hz2 rfl (by omega) _ (L.take i) x i HT.out rfl (hO.alloc IntR.good _) ⟨_, 0, none⟩ 1 [.int .i64 x] rfl rfl (news_new rfl rfl) ?c1 ?c2 ?c3 (fun h => h) ?_)
  case c1 => simp only [maxLen]; omega
  case c2 => omega
  case c3 => have := HK.out.size; simp; omega
  intro A3 cap3 w3 hO3 hg3 hat3
  have hBg : Blk w3 w.heap.size 45 #[.slice Ad i cap] := (hB.alloc _).grown hg3 (Ne.symm hne'.out)
  have hgc := hBg.cell 0
  have hgf := hBg.frozen 0
  have hgl3 := hBg.lt
  have hA3l : A3 < w3.heap.size := (OwnL.block hO3 A3 rfl).2
  have hne3 : A3 ≠ w.heap.size := fun e => hat3.elim (fun h => hne'.out (by rw [h, e])) (fun h => by first | omega | (simp at h; omega))
  have hs3 : A2.heap.size + 1 ≤ w3.heap.size := by have := hg3.size; simpa using this
  have hke : Kept O A2 (w3.setCell ⟨w.heap.size, 0, none⟩ (.slice (some ⟨A3, 0, none⟩) (i + 1) cap3)) :=
   ((Kept.alloc _ _ _).trans (Kept.grown hg3 (fun k hk => (hOO'.out k).2 (.inr hk)))).trans (Kept.setCell _ _ _ ((hOO'.out _).2 (.inl rfl)))
  have hfin : ColSt IntR 1 (w3.setCell ⟨w.heap.size, 0, none⟩ (.slice (some ⟨A3, 0, none⟩) (i + 1) cap3)) w.heap.size 45 w.heap.size 3 (L.take (i + 1)) (fun k => k = w.heap.size ∨ A3 = k) := by
   rw [take_snoc_get HX.out]
   refine ⟨some ⟨A3, 0, none⟩, cap3, ?_, ?_, fun k => by simp [Value.ownBlock], by simp [Value.ownBlock]; exact hne3⟩
   ·rw [List.length_append, HT.out]; exact hBg.set_ 0 _
   rw [List.length_append, HT.out]
   exact hO3.keep IntR.good (Keeps.setCell _ _ _ (fun h => h.elim (fun h => h) (fun h => hne3 (by simpa [Value.ownBlock] using h))))
  have HKE := Lib.hid hke
  have HFIN := Lib.hid hfin
  clear hke hfin hO3 hg3 hO hB hc
  gi_wp2
  refine ⟨HKE.out, _, ?_, HFIN.out⟩
  intro k hk
  rcases hk with rfl | rfl
  ·exact .inl ((hOO'.out _).2 (.inl rfl))
  rcases hat3 with h | h
  ·exact .inl ((hOO'.out _).2 (.inr h))
  refine .inr ⟨by first | omega | (simp at h; omega), by simpa [World.setCell] using hA3l⟩
 rintro O W' D hj hO hK hD hnD hDb
 rw [List.take_length] at hj
 have hBW : Below w.heap.size w W' := hbl hK
 obtain ⟨Ad, cap, hB, hOw, hOO, _⟩ := hj.st
 have hc := hB.cell 0
 have hOp : OwnL IntR 1 (fun _ => False) (W'.putObj D (.deferred none)) w.heap.size 3 (.slice Ad L.length cap) L :=
  hOw.keep IntR.good ⟨by simp, fun k hk _ => World.putObj_heap_other (fun e => hk.elim (fun h => h) (fun h => hnD ((hOO D).2 (.inr (e ▸ h)))))⟩
 have HOp := Lib.hid hOp
 clear hOw hOp hOO
 gi_wp2
 refine ⟨by simp, .inl ⟨_, _, rfl, run_takeDeferred hDb, ?_⟩⟩
 have hS := HOp.out.slice (T := fun k => w.heap.size ≤ k) IntR.good rfl (by simp only [maxLen]; omega) (fun _ h => h.elim) (fun _ h _ => h)
 exact ⟨_, results_tmp rfl _ _ _, _, _, ⟨_, rfl⟩, hS, bl_put hBW (by omega) _⟩
theorem collectI_any {gf : Nat} {lb : Array Value} (eg : ∀ args w, (callFunc gf args).run Tryz.prog w = .ok (.enter gf args) w) {L : List Int} {Inv : World → Prop} (hseq : SeqL Tryz.prog gf lb (fun i : Int => #[.int .i64 i]) L Inv) (w : World)
  (hInv : ∀ A, Below w.heap.size w A → Inv A) (hL : L.length ≤ 100000) :
  Calls Tryz.prog 58 #[.func (.func gf) #[] lb] w fun e w' => ∃ A' n' c', e = .returned (.slice A' n' c') ∧ Ints (fun k => w.heap.size ≤ k) w' A' n' L ∧ Below w.heap.size w w' := by
 have HC := Lib.hid (appendSeqI_any eg hseq w hInv hL)
 clear hseq hInv eg
 go_enter Tryz.func58, Tryz.ntmps58
 go_wp2_with (go_at_call 89; refine HC.out.mono ?_; rintro e w' ⟨A', n', c', rfl, hI, hb⟩)
 go_ret
 exact ⟨_, _, _, rfl, hI, hb⟩
open Go.RowKit Go.Shelf
def cmpI (x y : Int) : Int := if x < y then -1 else if y < x then 1 else 0
def lexC : List Int → List Int → Int
 | [], [] => 0
 | [], _ :: _ => -1
 | _ :: _, [] => 1
 | x :: xs, y :: ys => if cmpI x y = 0 then lexC xs ys else cmpI x y
theorem cmpI_zero {x y : Int} : cmpI x y = 0 ↔ x = y := by unfold cmpI; split <;> (try split) <;> omega
theorem cmpI_neg {x y : Int} : cmpI x y < 0 ↔ x < y := by unfold cmpI; split <;> (try split) <;> omega
theorem lexC_refl : ∀ xs : List Int, lexC xs xs = 0 := by
 intro xs
 induction xs with
 | nil => rfl
 | cons x xs ih => rw [lexC, if_pos (cmpI_zero.2 rfl), ih]
theorem lexC_neg {x y : Int} {xs ys : List Int} : lexC (x :: xs) (y :: ys) < 0 ↔ x < y ∨ (x = y ∧ lexC xs ys < 0) := by
 rw [lexC]
 by_cases h : x = y
 ·rw [if_pos (cmpI_zero.2 h)]; subst h; simp
 rw [if_neg (fun e => h (cmpI_zero.1 e)), cmpI_neg]; simp [h]
theorem lexC_trans : ∀ xs ys zs : List Int, lexC xs ys < 0 → lexC ys zs < 0 → lexC xs zs < 0 := by
 intro xs
 induction xs with
 | nil =>
  intro ys zs h1 h2
  cases zs with
  | nil => cases ys with
   | nil => exact h1
   | cons y ys => simp [lexC] at h2
  | cons z zs => simp [lexC]
 | cons x xs ih =>
  intro ys zs h1 h2
  cases ys with
  | nil => simp [lexC] at h1
  | cons y ys =>
   cases zs with
   | nil => simp [lexC] at h2
   | cons z zs =>
    rw [lexC_neg] at h1 h2 ⊢
    rcases h1 with h1 | ⟨h1, h1'⟩ <;> rcases h2 with h2 | ⟨h2, h2'⟩
    ·exact .inl (by omega)
    ·exact .inl (by omega)
    ·exact .inl (by omega)
    exact .inr ⟨by omega, ih _ _ h1' h2'⟩
theorem lexC_tri : ∀ xs ys : List Int, ¬ lexC xs ys < 0 → ¬ lexC ys xs < 0 → xs = ys := by
 intro xs
 induction xs with
 | nil =>
  intro ys h1 _
  cases ys with
  | nil => rfl
  | cons y ys => simp [lexC] at h1
 | cons x xs ih =>
  intro ys h1 h2
  cases ys with
  | nil => simp [lexC] at h2
  | cons y ys =>
   rw [lexC_neg] at h1 h2
   have e : x = y := by omega
   subst e
   rw [ih ys (fun h => h1 (.inr ⟨rfl, h⟩)) (fun h => h2 (.inr ⟨rfl, h⟩))]
open Go.RowKit Go.Shelf
theorem nan_int (x : Int) (w : World) : Calls Tryz.prog 134 #[.int .i64 x] w fun e w' => e = .returned (.bool false) ∧ w = w' := by
 go_enter Tryz.func134, Tryz.ntmps134
 go_wp2
 go_ret
 exact ⟨rfl, rfl⟩
set_option maxHeartbeats 400000 in
theorem cmp_int (x y : Int) (w : World) : Calls Tryz.prog 119 #[.int .i64 x, .int .i64 y] w fun e w' => e = .returned (.int .i64 (cmpI x y)) ∧ w = w' := by
 by_cases h : x < y
 ·have HR : Hid (cmpI x y = -1) := by rw [Hid, cmpI, if_pos h]
  go_enter Tryz.func119, Tryz.ntmps119
  go_wp2_with (go_at_call 134; refine (nan_int _ _).mono ?_; rintro e w' ⟨rfl, rfl⟩)
  go_ret
  exact ⟨by rw [HR.out]; rfl, rfl⟩
 by_cases h2 : y < x
 ·have HR : Hid (cmpI x y = 1) := by rw [Hid, cmpI, if_neg h, if_pos h2]
  go_enter Tryz.func119, Tryz.ntmps119
  go_wp2_with (go_at_call 134; refine (nan_int _ _).mono ?_; rintro e w' ⟨rfl, rfl⟩)
  go_ret
  exact ⟨by rw [HR.out]; rfl, rfl⟩
 have HR : Hid (cmpI x y = 0) := by rw [Hid, cmpI, if_neg h, if_neg h2]
 go_enter Tryz.func119, Tryz.ntmps119
 go_wp2_with (go_at_call 134; refine (nan_int _ _).mono ?_; rintro e w' ⟨rfl, rfl⟩)
 go_ret
 exact ⟨by rw [HR.out]; rfl, rfl⟩
set_option maxHeartbeats 1000000 in
theorem compare_any {S T : Foot} {A B : Option Addr} {n c m d : Nat} {xs ys : List Int} (w : World) (h : Ints S w A n xs) (g : Ints T w B m ys) :
  Calls Tryz.prog 74 #[.slice A n c, .slice B m d] w fun e w' => e = .returned (.int .i64 (lexC xs ys)) ∧ w = w' := by
 have hle := h.le
 have gle := g.le
 have Hn := Lib.hid h.len
 have Hm := Lib.hid g.len
 go_enter Tryz.func74, Tryz.ntmps74
 go_wp2
 go_loop [11] (fun i => ∃ k : Nat, k ≤ n ∧ k ≤ m ∧ i = .int .i64 k ∧ Hid (lexC xs ys = lexC (xs.drop k) (ys.drop k))) (fun i => n - (intOf i).toNat)
 case atStart => exact ⟨0, Nat.zero_le _, Nat.zero_le _, rfl, rfl⟩
 case round =>
  obtain ⟨k, hk, hkm, rfl, Hl⟩ := hrel
  by_cases hlt : k < n
  ·obtain ⟨b, off, x, rfl, hcell, Hx⟩ := h.get hlt
   have hdx := drop_cons Hx.out
   have hki : (k : Int) < n := by omega
   by_cases hmt : k < m
   ·have hmi : (k : Int) < m := by omega
    obtain ⟨b', off', y, rfl, hcell', Hy⟩ := g.get hmt
    have hdy := drop_cons Hy.out
    have Hstep : Hid (lexC xs ys = if cmpI x y = 0 then lexC (xs.drop (k + 1)) (ys.drop (k + 1)) else cmpI x y) := by rw [Hid, Hl.out, hdx, hdy, lexC]
    clear hdx hdy
    generalize hz : cmpI x y = z at *
    have Hz := Lib.hid hz
    clear hz
    by_cases h0 : z = 0
    ·subst h0
     go_wp2_with (go_at_call 119; refine (cmp_int _ _ _).mono ?_; rintro e w' ⟨rfl, rfl⟩; rw [Hz.out])
     go_round
     case rel => exact ⟨k + 1, by omega, by omega, by go_num, by rw [Hid, Hstep.out]; simp⟩
     case measure => simp [intOf]; omega
    have h0b : (z != 0) = true := by simpa using h0
    have HR : Hid (lexC xs ys = z) := by rw [Hid, Hstep.out, if_neg h0]
    clear h0
    go_wp2_with (go_at_call 119; refine (cmp_int _ _ _).mono ?_; rintro e w' ⟨rfl, rfl⟩; rw [Hz.out])
    go_ret
    exact ⟨by rw [HR.out]; rfl, rfl⟩
   obtain rfl : k = m := by omega
   have HR : Hid (lexC xs ys = 1) := by have hdy : ys.drop k = [] := List.drop_of_length_le (by rw [Hm.out]; exact Nat.le_refl _); rw [Hid, Hl.out, hdx, hdy, lexC]
   clear hdx
   go_wp2
   go_ret
   exact ⟨by rw [HR.out]; rfl, rfl⟩
  obtain rfl : k = n := by omega
  have hd0 : xs.drop k = [] := List.drop_of_length_le (by rw [Hn.out]; exact Nat.le_refl _)
  by_cases hmt : k < m
  ·have HR : Hid (lexC xs ys = -1) := by
    obtain ⟨y, hy⟩ : ∃ y, ys[k]? = some y := ⟨_, List.getElem?_eq_getElem (by rw [Hm.out]; exact hmt)⟩
    rw [Hid, Hl.out, hd0, drop_cons hy, lexC]
   clear hd0
   go_wp2
   go_ret
   exact ⟨by rw [HR.out]; rfl, rfl⟩
  have HR : Hid (lexC xs ys = 0) := by have hdy : ys.drop k = [] := List.drop_of_length_le (by rw [Hm.out]; omega); rw [Hid, Hl.out, hd0, hdy, lexC]
  clear hd0
  go_wp2
  go_ret
  exact ⟨by rw [HR.out]; rfl, rfl⟩
open Go.RowKit
def orderL (xs ys : List Int) : Int := if xs.length = ys.length then lexC xs ys else (xs.length : Int) - ys.length
theorem order_any {S T : Foot} {A B : Option Addr} {n c m d : Nat} {xs ys : List Int} (w : World) (h : Ints S w A n xs) (g : Ints T w B m ys) :
  Calls Tryz.prog 44 #[.slice A n c, .slice B m d] w fun e w' => e = .returned (.int .i64 (orderL xs ys)) ∧ w = w' := by
 have hle := h.le
 have gle := g.le
 by_cases hnm : n = m
 ·have HR : Hid (orderL xs ys = lexC xs ys) := by rw [Hid, orderL, if_pos (by rw [h.len, g.len, hnm])]
  subst hnm
  go_enter Tryz.func44, Tryz.ntmps44
  go_wp2_with (go_at_call 74; refine (compare_any _ h g).mono ?_; rintro e w' ⟨rfl, rfl⟩)
  go_ret
  exact ⟨by rw [HR.out]; rfl, rfl⟩
 have HR : Hid (orderL xs ys = (n : Int) - m) := by rw [Hid, orderL, if_neg (by rw [h.len, g.len]; exact hnm), h.len, g.len]
 have hb : ((n : Int) != (m : Int)) = true := by simp; omega
 have hw : IntKind.i64.wrap ((n : Int) - m) = (n : Int) - m := by rw [IntKind.wrap_i64]; omega
 go_enter Tryz.func44, Tryz.ntmps44
 go_wp2
 go_ret
 exact ⟨by rw [HR.out]; rfl, rfl⟩
end Go.Proofs.YtdbfincinjoppabGreatDoor
