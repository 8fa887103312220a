/- A part of the proof that TopWorn always answers true. -/
import Derived.Maps.RangeWalk
import Derived.DeepKeys4
import Derived.Test.YtdbfincinjoppabGreatDoorCKFit
import Derived.Test.YtdbfincinjoppabGreatDoorCKOpen
import Derived.Test.YtdbfincinjoppabGreatDoorCMaps2
set_option linter.all false
namespace Go.Proofs.YtdbfincinjoppabGreatDoor
open Go.RowKit Go.Shelf Go.Maps
open Go.WideMaps (KeyLaw)
open Go.ChangeMaps (setBlock)
structure MapG (P : Program) (k e : TypeId) {α : Type} (key : α → Value) (w : World) (b n : Nat) (F : α → Option Int) : Prop where
 ex : ∃ D : DataW Unit, w.ownsMap P k (plainElem P e) b n D ∧ ∀ (x : α) (kl : Lit), keyOf P k (key x) = some kl → ∀ zd : DataW Unit, D.atKey kl zd = match F x with
  | some c => .lit (.int .i64 c)
  | none => zd
section
variable {P : Program} {t k e : TypeId} {w : World} {b n : Nat} {α : Type} {key : α → Value} {F : α → Option Int}
theorem MapG.new (w : World) : MapG P k e key (w.alloc (.map #[] 0)) w.heap.size 0 (fun _ => none) := ⟨_, World.ownsMap_made _ _ _ _, fun _ _ _ _ => rfl⟩
theorem MapG.at {w' : World} (h : MapG P k e key w b n F) (hb : w'.heap[b]? = w.heap[b]?) : MapG P k e key w' b n F := by
 obtain ⟨D, h1, h2⟩ := h.ex
 exact ⟨D, ownsMap_at h1 hb, h2⟩
theorem MapG.lt (h : MapG P k e key w b n F) : b < w.heap.size := by obtain ⟨D, h1, _⟩ := h.ex; exact h1.lt
theorem MapG.congr {F' : α → Option Int} (h : MapG P k e key w b n F) (hg : ∀ x, F x = F' x) : MapG P k e key w b n F' := by rw [← show F = F' from funext hg]; exact h
theorem MapG.look (h : MapG P k e key w b n F) (K : KeyLaw P k) (he : P.underlying e = some (.int .i64)) (ht : P.underlying t = some (.map k e)) (hz : ∀ u : World, (zeroValue e).run P u = .ok (.int .i64 0) u) (x : α) (hkey : ∃ kl, keyOf P k (key x) = some kl) (c : Bool) :
  (Instr.lookup t (.map (some b)) (key x) c).run P w = .ok (if c then .tuple #[.int .i64 ((F x).getD 0), .bool (F x).isSome] else .int .i64 ((F x).getD 0)) w := by
 obtain ⟨D, h1, h2⟩ := h.ex
 obtain ⟨kl, hkl⟩ := hkey
 have KK := Keyed.of_law K
 have h3 := h2 x kl hkl
 obtain ⟨es, clock, hb, F1, hs, rfl⟩ := id h1
 rcases Maps.fit_look (w := w) c KK ht (hz w) hb F1 hkl with ⟨hrun, _, hat⟩ | ⟨e0, y, _, _, hrun, hRv, hat, _⟩
 ·cases hF : F x with
  | none => rw [hrun]; rfl
  | some d =>
   have h4 := h3 (.lit (.int .i64 (d + 1)))
   rw [hat, hF] at h4
   injection h4 with h4
   injection h4 with _ h4
   omega
 obtain ⟨a, hv, hy, _⟩ := plainElem_int_inv he hRv
 cases hF : F x with
 | none =>
  have h4 := h3 (.lit (.int .i64 (a + 1)))
  rw [hat, hF, hy] at h4
  injection h4 with h4
  injection h4 with _ h4
  omega
 | some d =>
  have h4 := h3 (.lit (.int .i64 0))
  rw [hat, hF, hy] at h4
  injection h4 with h4
  injection h4 with _ h4
  rw [hrun, hv, h4]; rfl
theorem MapG.put [DecidableEq α] (hinj : ∀ x y, key x = key y → x = y) (h : MapG P k e key w b n F) (K : KeyLaw P k) (he : P.underlying e = some (.int .i64)) (ht : P.underlying t = some (.map k e)) (hn : n < 4611686018427387904) (x : α) (hkey : ∃ kl, keyOf P k (key x) = some kl) (a : Int) (ha : (Lit.int .i64 a).wf = true) :
  ∃ w', (Instr.mapUpdate t (.map (some b)) (key x) (.int .i64 a)).run P w = .ok () w' ∧ MapG P k e key w' b (n + 1) (fun y => if x = y then some a else F y) ∧ w.grownBy w' (some b) := by
 obtain ⟨D, h1, h2⟩ := h.ex
 obtain ⟨kl, hkl⟩ := hkey
 have KK := Keyed.of_law K
 obtain ⟨w', hrun, h3, h4⟩ := h1.update KK ht (Nat.lt_of_lt_of_le hn (by unfold maxLen; omega)) hkl (plainElem_int (a := a) he ha)
 refine ⟨w', hrun, ⟨_, h3, fun y kl' hkl' zd => ?_⟩, h4⟩
 by_cases hy : kl' = kl
 ·subst hy
  have hxy : x = y := hinj _ _ (K.inj hkl hkl')
  rw [if_pos hxy]
  exact atKey_put_same h1.isMap (KK.key hkl) _ _
 have hxy : ¬ x = y := fun e => by
  subst e
  rw [hkl] at hkl'
  injection hkl' with hkl'
  exact hy hkl'.symm
 rw [if_neg hxy, atKey_put_other hy]
 exact h2 y kl' hkl' zd
theorem MapG.count [DecidableEq α] (hinj : ∀ x y, key x = key y → x = y) (h : MapG P k e key w b n F) (K : KeyLaw P k) (he : P.underlying e = some (.int .i64)) (ht : P.underlying t = some (.map k e)) (hz : ∀ u : World, (zeroValue e).run P u = .ok (.int .i64 0) u)
  (hn : n < 4611686018427387904) (x : α) (hkey : ∃ kl, keyOf P k (key x) = some kl) {c : Int} (hc : (F x).getD 0 = c) (hwf : (Lit.int .i64 (c + 1)).wf = true) :
  ∃ (st : Nat) (o1 : Obj),
   (∀ w2 : World, (w2.heap[b]? = w.heap[b]? ∨ w2.heap[b]? = some o1) → (Instr.mapEntry t (.map (some b)) (key x)).run P w2 = .ok (.tuple #[.int .i64 c, goInt st]) (setBlock w2 b o1)) ∧
   (∀ w2 : World, (w2.heap[b]? = w.heap[b]? ∨ w2.heap[b]? = some o1) → (Instr.lookup t (.map (some b)) (key x) false).run P w2 = .ok (.int .i64 c) w2) ∧
   (∀ w2 : World, w2.heap[b]? = some o1 → ∃ w3, (Instr.entryStore t (.map (some b)) (goInt st) (.int .i64 (c + 1))).run P w2 = .ok () w3 ∧ w2.grownBy w3 (some b) ∧ MapG P k e key w3 b (n + 1) (fun y => if x = y then some (c + 1) else F y)) := by
 obtain ⟨D, h1, h2⟩ := h.ex
 obtain ⟨kl, hkl⟩ := hkey
 obtain ⟨c', st, es1, clock1, e1, _, e3, e4, e5⟩ := entry_own K ht he hz h1 (Nat.lt_of_lt_of_le hn (by unfold maxLen; omega)) hkl
 have hcc : c' = c := by
  have h3 := h2 x kl hkl (.lit (.int .i64 0))
  rw [e1] at h3
  rw [← hc]
  cases hF : F x with
  | none => rw [hF] at h3; injection h3 with h3; injection h3
  | some d => rw [hF] at h3; injection h3 with h3; injection h3
 subst hcc
 refine ⟨st, .map es1 clock1, e3, e4, fun w2 hw2 => ?_⟩
 obtain ⟨w3, r1, r2, r3⟩ := e5 w2 (c' + 1) hw2 hwf
 have KK := Keyed.of_law K
 refine ⟨w3, r1, r3, ⟨_, r2, fun y kl' hkl' zd => ?_⟩⟩
 by_cases hy : kl' = kl
 ·subst hy
  have hxy : x = y := hinj _ _ (K.inj hkl hkl')
  rw [if_pos hxy]
  exact atKey_put_same h1.isMap (KK.key hkl) _ _
 have hxy : ¬ x = y := fun e => by
  subst e
  rw [hkl] at hkl'
  injection hkl' with hkl'
  exact hy hkl'.symm
 rw [if_neg hxy, atKey_put_other hy]
 exact h2 y kl' hkl' zd
end
theorem laidOutP7 : laidOutB Tryz.prog = true := by kernel_rfl
theorem keyP_law : WideMaps.KeyLaw Tryz.prog 37 := deep_law_laid laidOutP7 (m := 2) (by omega) (of_decide_eq_true (by kernel_rfl)) (by kernel_rfl) (by rw [Tryz.underlying37])
def kvP (x : Nat × Nat) : Value := .agg #[.int .i64 (x.1 : Int), .int .i64 (x.2 : Int)]
theorem kvP_inj (x y : Nat × Nat) (h : kvP x = kvP y) : x = y := by
 simp [kvP] at h
 exact Prod.ext (by omega) (by omega)
theorem keyP_type : Tryz.prog.keyType 37 = true := by kernel_rfl
theorem cellsP2 : Tryz.prog.cellsOf 37 = 2 := by kernel_rfl
theorem cellsP1 : Tryz.prog.cellsOf 3 = 1 := by kernel_rfl
theorem types_size7 : ∃ d, Tryz.prog.types.size = d + 1 := ⟨Tryz.prog.types.size - 1, by have : 0 < Tryz.prog.types.size := of_decide_eq_true (by kernel_rfl); omega⟩
theorem pair_key {P : Program} {k i : TypeId} {f1 f2 : Field} (hu : P.underlying k = some (.struct #[f1, f2])) (hi : P.underlying i = some (.int .i64)) (hk : P.keyType k = true) (hc : P.cellsOf k = 2) (hci : P.cellsOf i = 1) (hd : ∃ d, P.types.size = d + 1)
  (t1 : f1.type = i) (t2 : f2.type = i) (o1 : f1.offset = 0) (o2 : f2.offset = 1) (m1 : f1.name ≠ "_") (m2 : f2.name ≠ "_") {a b : Int} (g1 : (Lit.int .i64 a).wf = true) (g2 : (Lit.int .i64 b).wf = true) :
  ∃ kl, keyOf P k (.agg #[.int .i64 a, .int .i64 b]) = some kl := by
 obtain ⟨d, hd⟩ := hd
 rw [← Option.isSome_iff_exists, keyOf, hu]
 simp only [hk, hd, Value.formed, hu, hc, Program.keyLits, Value.cells]
 simp [t1, t2, o1, o2, m1, m2, hci, hi, g1, g2, hc]
theorem keyP_ok (x : Nat × Nat) (h1 : x.1 < 1000) (h2 : x.2 < 1000) : ∃ kl, keyOf Tryz.prog 37 (kvP x) = some kl :=
 pair_key Tryz.underlying37 Tryz.underlying3 keyP_type cellsP2 cellsP1 types_size7 rfl rfl rfl rfl (by decide) (by decide) (wf_i64 (by omega) (by omega)) (wf_i64 (by omega) (by omega))
theorem zeroInt7 (u : World) : (zeroValue 3).run Tryz.prog u = .ok (.int .i64 0) u := by kernel_rfl
abbrev MapP := MapG Tryz.prog 37 3 kvP
theorem ofL_cons (f : List (Pl × Int)) (a b : Pl) (k : Int) : ofL ((a, k) :: f) b = if a = b then some k else ofL f b := by
 unfold ofL
 rw [List.find?_cons]
 by_cases h : a = b
 ·rw [if_pos h]; simp [h]
 rw [if_neg h]; simp [h]
structure Given (o : List (List Pl)) (ok : Pl → Bool) (f : List (Pl × Int)) : Prop where
 inj : ∀ a b (j : Nat), ofL f a = some (j : Int) → ofL f b = some (j : Int) → a = b
 good : ∀ a (j : Nat), ofL f a = some (j : Int) → a ∈ o.getD j [] ∧ ok a = true
structure More (o : List (List Pl)) (ok : Pl → Bool) (i : Nat) (met : List Pl) (f f' : List (Pl × Int)) : Prop where
 inj : ∀ a b (j : Nat), ofL f' a = some (j : Int) → ofL f' b = some (j : Int) → a = b ∨ (j = i ∧ (ofL f a = some (i : Int) ∨ ofL f b = some (i : Int)))
 good : ∀ a (j : Nat), ofL f' a = some (j : Int) → a ∈ o.getD j [] ∧ ok a = true
 same : ∀ a ∈ met, ofL f' a = ofL f a
 new : ∃ a, a ∉ met ∧ ofL f' a = some (i : Int)
 keep : ∀ (j : Nat), (∃ a, ofL f a = some (j : Int)) → ∃ a, ofL f' a = some (j : Int)
 only : ∀ a (j : Nat), ofL f' a = some (j : Int) → j = i ∨ ∃ b, ofL f b = some (j : Int)
 fixed : ∀ a (k : Int), k < 0 → (ofL f' a = some k ↔ ofL f a = some k)
structure Stuck (o : List (List Pl)) (ok : Pl → Bool) (cs : List Pl) (met met' : List Pl) (f : List (Pl × Int)) : Prop where
 all : ∀ a ∈ cs, ok a = true → a ∈ met'
 held : ∀ a ∈ met', a ∉ met → ∃ k, ofL f a = some k ∧ (0 ≤ k → ∀ c ∈ o.getD k.toNat [], ok c = true → c ∈ met')
theorem ofL_nonneg {f : List (Pl × Int)} {a : Pl} {k : Int} (h : ofL f a = some k) (hk : ¬ k < 0) : ofL f a = some ((k.toNat : Nat) : Int) := by
 rw [h, Int.toNat_of_nonneg (by omega)]
theorem nodup_le {α : Type} [DecidableEq α] : ∀ (l m : List α), l.Nodup → (∀ a ∈ l, a ∈ m) → l.length ≤ m.length
 | [], _, _, _ => Nat.zero_le _
 | a :: l, m, hn, hm => by
  obtain ⟨h1, h2⟩ := List.nodup_cons.1 hn
  have ham := hm a List.mem_cons_self
  have := nodup_le l (m.erase a) h2 (fun b hb => (List.mem_erase_of_ne (fun e : b = a => h1 (by rw [← e]; exact hb))).2 (hm b (List.mem_cons_of_mem _ hb)))
  rw [List.length_erase_of_mem ham] at this
  have := List.length_pos_of_mem ham
  rw [List.length_cons]
  omega
theorem seek_spec (o : List (List Pl)) (ok : Pl → Bool) (univ : List Pl) (L : Nat) (hu : ∀ j, (o.getD j []).length ≤ L ∧ ∀ a ∈ o.getD j [], a ∈ univ) : ∀ (n : Nat) (cs : List Pl) (i : Nat) (f : List (Pl × Int)) (met : List Pl),
  cs.length + (univ.length - met.length) * (L + 1) ≤ n → met.Nodup → (∀ a ∈ met, a ∈ univ) → (∀ a ∈ cs, a ∈ o.getD i []) → Given o ok f → (∀ a, ofL f a = some (i : Int) → a ∈ met) →
  (seekL o ok n cs i f met).2.2.Nodup ∧ (∀ a ∈ (seekL o ok n cs i f met).2.2, a ∈ univ) ∧ (∀ a ∈ met, a ∈ (seekL o ok n cs i f met).2.2) ∧
  ((seekL o ok n cs i f met).1 = true → More o ok i met f (seekL o ok n cs i f met).2.1) ∧
  ((seekL o ok n cs i f met).1 = false → (seekL o ok n cs i f met).2.1 = f ∧ Stuck o ok cs met (seekL o ok n cs i f met).2.2 f) := by
 intro n
 induction n with
 | zero =>
  intro cs i f met hn hnd hmu hcs hG hi
  have : cs = [] := List.eq_nil_of_length_eq_zero (by omega)
  subst this
  rw [seekL]
  exact ⟨hnd, hmu, fun a h => h, (fun h => by cases h), (fun _ => ⟨rfl, ⟨(fun a h => by cases h), fun a h h2 => absurd h h2⟩⟩)⟩
 | succ n ih =>
  intro cs i f met hn hnd hmu hcs hG hi
  cases cs with
  | nil =>
   rw [seekL]
   exact ⟨hnd, hmu, fun a h => h, (fun h => by cases h), (fun _ => ⟨rfl, ⟨(fun a h => by cases h), fun a h h2 => absurd h h2⟩⟩)⟩
  | cons a rest =>
   rw [List.length_cons] at hn
   have hrest : ∀ b ∈ rest, b ∈ o.getD i [] := fun b hb => hcs b (List.mem_cons_of_mem _ hb)
   rw [seekL]
   by_cases hskip : (!ok a || met.contains a) = true
   ·rw [if_pos hskip]
    obtain ⟨r1, r2, r3, r4, r5⟩ := ih rest i f met (by omega) hnd hmu hrest hG hi
    refine ⟨r1, r2, r3, r4, fun hb => ?_⟩
    obtain ⟨w1, w2⟩ := r5 hb
    refine ⟨w1, ⟨fun b hb' hok => ?_, w2.held⟩⟩
    rcases List.mem_cons.1 hb' with rfl | hb'
    ·have : b ∈ met := by simpa [hok] using hskip
     exact r3 b this
    exact w2.all b hb' hok
   rw [if_neg hskip]
   have hoka : ok a = true := by
    cases h : ok a
    ·rw [h] at hskip; simp at hskip
    rfl
   have ham : a ∉ met := fun h => by simp [h] at hskip
   have hao : a ∈ o.getD i [] := hcs a List.mem_cons_self
   have hau : a ∈ univ := (hu i).2 a hao
   have hnd2 : (a :: met).Nodup := List.nodup_cons.2 ⟨ham, hnd⟩
   have hmu2 : ∀ b ∈ a :: met, b ∈ univ := fun b hb => by
    rcases List.mem_cons.1 hb with rfl | hb
    ·exact hau
    exact hmu b hb
   have hlen : (a :: met).length ≤ univ.length := nodup_le _ _ hnd2 hmu2
   rw [List.length_cons] at hlen
   have hmul : (univ.length - met.length) * (L + 1) = (univ.length - (met.length + 1)) * (L + 1) + (L + 1) := by
    rw [show univ.length - met.length = (univ.length - (met.length + 1)) + 1 by omega, Nat.succ_mul]
   cases hof : ofL f a with
   | none =>
    refine ⟨hnd2, hmu2, fun b hb => List.mem_cons_of_mem _ hb, fun _ => ?_, fun h => by cases h⟩
    refine ⟨fun b c j hb hc => ?_, fun b j hb => ?_, fun b hb => ?_, ⟨a, ham, by rw [ofL_cons, if_pos rfl]⟩, fun j hj => ?_, fun b j hb => ?_, fun b k hk => ?_⟩
    ·rw [ofL_cons] at hb hc
     split at hb
     ·rename_i e1
      injection hb with hb
      have hji : j = i := by omega
      split at hc
      ·rename_i e2; exact .inl (e1.symm.trans e2)
      exact .inr ⟨hji, .inr (by rw [← hji]; exact hc)⟩
     split at hc
     ·injection hc with hc
      have hji : j = i := by omega
      exact .inr ⟨hji, .inl (by rw [← hji]; exact hb)⟩
     exact .inl (hG.inj b c j hb hc)
    ·rw [ofL_cons] at hb
     split at hb
     ·rename_i e1
      injection hb with hb
      have hji : j = i := by omega
      subst hji; subst e1
      exact ⟨hao, hoka⟩
     exact hG.good b j hb
    ·rw [ofL_cons, if_neg (fun e : a = b => ham (by rw [e]; exact hb))]
    ·obtain ⟨b, hb⟩ := hj
     refine ⟨b, ?_⟩
     rw [ofL_cons, if_neg (fun e => by subst e; rw [hof] at hb; cases hb)]
     exact hb
    ·rw [ofL_cons] at hb
     split at hb
     ·injection hb with hb; exact .inl (by omega)
     exact .inr ⟨b, hb⟩
    ·rw [ofL_cons]
     split
     ·rename_i e1
      subst e1
      rw [hof]
      constructor
      ·intro h; injection h with h; omega
      intro h; cases h
     ·exact Iff.rfl
   | some k =>
    dsimp only
    by_cases hk : k < 0
    ·rw [if_pos hk]
     obtain ⟨r1, r2, r3, r4, r5⟩ := ih rest i f (a :: met) (by rw [List.length_cons]; omega) hnd2 hmu2 hrest hG (fun b hb => List.mem_cons_of_mem _ (hi b hb))
     refine ⟨r1, r2, fun b hb => r3 b (List.mem_cons_of_mem _ hb), fun hb => ?_, fun hb => ?_⟩
     ·have w := r4 hb
      exact ⟨w.inj, w.good, fun b hb => w.same b (List.mem_cons_of_mem _ hb), by obtain ⟨b, h1, h2⟩ := w.new; exact ⟨b, fun h => h1 (List.mem_cons_of_mem _ h), h2⟩, w.keep, w.only, w.fixed⟩
     obtain ⟨w1, w2⟩ := r5 hb
     refine ⟨w1, ⟨fun b hb' hok => ?_, fun b hb' hbm => ?_⟩⟩
     ·rcases List.mem_cons.1 hb' with rfl | hb'
      ·exact r3 b List.mem_cons_self
      exact w2.all b hb' hok
     by_cases hba : b = a
     ·subst hba; exact ⟨k, hof, fun h => by omega⟩
     exact w2.held b hb' (fun h => by rcases List.mem_cons.1 h with h | h; exact hba h; exact hbm h)
    rw [if_neg hk]
    have hofn := ofL_nonneg hof hk
    have hkL := (hu k.toNat).1
    obtain ⟨s1, s2, s3, s4, s5⟩ := ih (o.getD k.toNat []) k.toNat f (a :: met) (by rw [List.length_cons]; omega) hnd2 hmu2 (fun b hb => hb) hG (fun b hb => by rw [hG.inj b a k.toNat hb hofn]; exact List.mem_cons_self)
    generalize hS : seekL o ok n (o.getD k.toNat []) k.toNat f (a :: met) = S at s1 s2 s3 s4 s5
    obtain ⟨b0, f1, m1⟩ := S
    dsimp only at s1 s2 s3 s4 s5 ⊢
    cases b0 with
    | true =>
     rw [if_pos rfl]
     have w := s4 rfl
     have hik : i ≠ k.toNat := fun e => ham (hi a (by rw [e]; exact hofn))
     have hsa : ofL f1 a = some ((k.toNat : Nat) : Int) := by rw [w.same a List.mem_cons_self]; exact hofn
     refine ⟨s1, s2, fun b hb => s3 b (List.mem_cons_of_mem _ hb), fun _ => ?_, fun h => by cases h⟩
     have own : ∀ b, ofL f1 b = some (i : Int) → ofL f b = some (i : Int) := fun b hb => by
      rcases w.only b i hb with h | ⟨c, hc⟩
      ·exact absurd h hik
      have hcm := hi c hc
      have hc1 : ofL f1 c = some (i : Int) := by rw [w.same c (List.mem_cons_of_mem _ hcm)]; exact hc
      rcases w.inj b c i hb hc1 with h | ⟨h, _⟩
      ·rw [h]; exact hc
      exact absurd h hik
     refine ⟨fun b c j hb hc => ?_, fun b j hb => ?_, fun b hb => ?_, ⟨a, ham, by rw [ofL_cons, if_pos rfl]⟩, fun j hj => ?_, fun b j hb => ?_, fun b k' hk' => ?_⟩
     ·rw [ofL_cons] at hb hc
      split at hb
      ·rename_i e1
       injection hb with hb
       have hji : j = i := by omega
       subst hji
       split at hc
       ·rename_i e2; exact .inl (e1.symm.trans e2)
       exact .inr ⟨rfl, .inr (own c hc)⟩
      rename_i e1
      split at hc
      ·injection hc with hc
       have hji : j = i := by omega
       subst hji
       exact .inr ⟨rfl, .inl (own b hb)⟩
      rename_i e2
      rcases w.inj b c j hb hc with h | ⟨h, h2 | h2⟩
      ·exact .inl h
      ·exact absurd (hG.inj a b k.toNat hofn h2) e1
      exact absurd (hG.inj a c k.toNat hofn h2) e2
     ·rw [ofL_cons] at hb
      split at hb
      ·rename_i e1
       injection hb with hb
       have hji : j = i := by omega
       subst hji; subst e1
       exact ⟨hao, hoka⟩
      exact w.good b j hb
     ·rw [ofL_cons, if_neg (fun e : a = b => ham (by rw [e]; exact hb))]
      exact w.same b (List.mem_cons_of_mem _ hb)
     ·obtain ⟨b, hb⟩ := w.keep j hj
      by_cases hba : a = b
      ·subst hba
       rw [hsa] at hb
       injection hb with hb
       obtain ⟨c, hc1, hc2⟩ := w.new
       refine ⟨c, ?_⟩
       rw [ofL_cons, if_neg (fun e : a = c => hc1 (by rw [← e]; exact List.mem_cons_self)), hc2, hb]
      exact ⟨b, by rw [ofL_cons, if_neg hba]; exact hb⟩
     ·rw [ofL_cons] at hb
      split at hb
      ·injection hb with hb; exact .inl (by omega)
      rcases w.only b j hb with h | h
      ·exact .inr ⟨a, by rw [h]; exact hofn⟩
      exact .inr h
     ·rw [ofL_cons]
      split
      ·rename_i e1
       subst e1
       rw [hof]
       constructor
       ·intro h; injection h with h; omega
       intro h; injection h with h; omega
      ·exact w.fixed b k' hk'
    | false =>
     rw [if_neg (by decide)]
     obtain ⟨hf1, hst⟩ := s5 rfl
     subst hf1
     have hm1 : met.length + 1 ≤ m1.length := by
      have := nodup_le _ _ hnd2 s3
      rw [List.length_cons] at this
      exact this
     obtain ⟨r1, r2, r3, r4, r5⟩ := ih rest i f1 m1 (by
      have : (univ.length - m1.length) * (L + 1) ≤ (univ.length - (met.length + 1)) * (L + 1) := Nat.mul_le_mul_right _ (by omega)
      omega) s1 s2 hrest hG (fun b hb => s3 b (List.mem_cons_of_mem _ (hi b hb)))
     refine ⟨r1, r2, fun b hb => r3 b (s3 b (List.mem_cons_of_mem _ hb)), fun hb => ?_, fun hb => ?_⟩
     ·have w := r4 hb
      exact ⟨w.inj, w.good, fun b hb => w.same b (s3 b (List.mem_cons_of_mem _ hb)), by obtain ⟨b, h1, h2⟩ := w.new; exact ⟨b, fun h => h1 (s3 b (List.mem_cons_of_mem _ h)), h2⟩, w.keep, w.only, w.fixed⟩
     obtain ⟨w1, w2⟩ := r5 hb
     refine ⟨w1, ⟨fun b hb' hok => ?_, fun b hb' hbm => ?_⟩⟩
     ·rcases List.mem_cons.1 hb' with rfl | hb'
      ·exact r3 b (s3 b List.mem_cons_self)
      exact w2.all b hb' hok
     by_cases hb1 : b ∈ m1
     ·by_cases hba : b = a
      ·subst hba
       exact ⟨k, hof, fun _ c hc hok => r3 c (hst.all c hc hok)⟩
      obtain ⟨k', hk1, hk2⟩ := hst.held b hb1 (fun h => by rcases List.mem_cons.1 h with h | h; exact hba h; exact hbm h)
      exact ⟨k', hk1, fun h c hc hok => r3 c (hk2 h c hc hok)⟩
     exact w2.held b hb' hb1
end Go.Proofs.YtdbfincinjoppabGreatDoor
