/- Layer 7, plain: what Plan, Lacks and Some of the program return, and the document's. Nothing of a program stands here. -/
import Derived.Test.YtpdldmichpmgmaaGreatCCastPure
import Derived.Test.YtpdldmichpmgmaaGreatCTilePure2
set_option linter.unusedVariables false
set_option linter.unusedSimpArgs false
set_option linter.all false
namespace Go.Proofs.YtpdldmichpmgmaaGreat

/-- a cast: its mould and its number -/
abbrev Pl := Nat × Nat
/-- which piece a cast is given to; less than 0: to none, for good -/
def ofL (f : List (Pl × Int)) (a : Pl) : Option Int := (f.find? fun p => decide (p.1 = a)).map (·.2)
/-- a piece that seeks a cast among some; casts that were met are not asked twice. Then: is there one, to which pieces casts are given, and casts that were met -/
def seekL (o : List (List Pl)) (ok : Pl → Bool) : Nat → List Pl → Nat → List (Pl × Int) → List Pl → Bool × List (Pl × Int) × List Pl
  | 0, _, _, f, met => (false, f, met)
  | _ + 1, [], _, f, met => (false, f, met)
  | n + 1, a :: rest, i, f, met =>
    if !ok a || met.contains a then seekL o ok n rest i f met else
    match ofL f a with
    | none => (true, (a, (i : Int)) :: f, a :: met)
    | some k =>
      if k < 0 then seekL o ok n rest i f (a :: met) else
      if (seekL o ok n (o.getD k.toNat []) k.toNat f (a :: met)).1 then (true, (a, (i : Int)) :: (seekL o ok n (o.getD k.toNat []) k.toNat f (a :: met)).2.1, (seekL o ok n (o.getD k.toNat []) k.toNat f (a :: met)).2.2)
      else seekL o ok n rest i (seekL o ok n (o.getD k.toNat []) k.toNat f (a :: met)).2.1 (seekL o ok n (o.getD k.toNat []) k.toNat f (a :: met)).2.2
/-- enough steps for orders of a shop -/
def seekF : Nat := 2000
/-- piece by piece: how many have a cast, and the casts given -/
def giveK (o : List (List Pl)) (ok : Pl → Bool) (is : Nat → Bool) (fixed : List Pl) (k : Nat) : Nat × List (Pl × Int) :=
  (List.range k).foldl (fun s i => if is i then (if (seekL o ok seekF (o.getD i []) i s.2 []).1 then (s.1 + 1, (seekL o ok seekF (o.getD i []) i s.2 []).2.1) else (s.1, (seekL o ok seekF (o.getD i []) i s.2 []).2.1)) else s) (0, fixed.map fun a => (a, (-1 : Int)))
def giveR (o : List (List Pl)) (ok : Pl → Bool) (is : Nat → Bool) (fixed : List Pl) : Nat := (giveK o ok is fixed o.length).1
/-- all ascending lists of numbers below one, the shorter ones first, then in order -/
def setsL (n : Nat) : List (List Int) := (List.range (n + 1)).flatMap fun k => lexL k (numbersL n)
def hasN (l : List Int) (i : Nat) : Bool := decide ((i : Int) ∈ l)
/-- a plan of casts of some moulds, piece by piece -/
def planK (o : List (List Pl)) (set : List Int) (k : Nat) : List Pl :=
  (List.range k).foldl (fun plan i =>
    match (o.getD i []).find? fun a => hasN set a.1 && !plan.contains a && decide (giveR o (fun p => hasN set p.1) (fun j => decide (i < j)) (plan ++ [a]) = o.length - i - 1) with
    | some a => plan ++ [a]
    | none => plan) []
def orderE (s : Shop) (l : List SeenC) (p : List (Int × Int)) : Int :=
  if (seen7 s l).2 ≠ 0 then (seen7 s l).2 else
  if ¬ (1 ≤ p.length ∧ p.length ≤ 6) then 3 else
  match firstErr (fun k => rangeE ⟨(p.getD k (0, 0)).1, (p.getD k (0, 0)).2⟩ 0 20000) p.length with
  | some (_, e) => e
  | none => if known7 s l = [] then 9 else 0
def allL (s : Shop) (l : List SeenC) (p : List (Int × Int)) : List (List Pl) := p.map fun x => fit7 s l x.1 x.2
def planR (s : Shop) (l : List SeenC) (p : List (Int × Int)) : List Pl × List Int × Int :=
  if orderE s l p ≠ 0 then ([], [], orderE s l p) else
  match (setsL s.moulds.length).find? fun set => !decide (giveR (allL s l p) (fun a => hasN set a.1) (fun _ => true) [] < p.length) with
  | some set => (planK (allL s l p) set p.length, set, 0)
  | none => ([], [], 8)
def lacksR (s : Shop) (l : List SeenC) (p : List (Int × Int)) : List Int × Int :=
  if orderE s l p ≠ 0 then ([], orderE s l p) else
  match (setsL p.length).find? fun set => decide (giveR (allL s l p) (fun _ => true) (fun i => hasN set i) [] < set.length) with
  | some set => (set, 0)
  | none => ([], 4)
def someK (o : List (List Pl)) (k : Nat) : List Int :=
  (List.range k).foldl (fun set i => if giveR o (fun _ => true) (fun j => hasN set j || decide (j = i)) [] = set.length + 1 then set ++ [(i : Int)] else set) []
def someR (s : Shop) (l : List SeenC) (p : List (Int × Int)) : List Int × Int :=
  if orderE s l p ≠ 0 then ([], orderE s l p) else (someK (allL s l p) p.length, 0)

/-- do some pieces lack casts, by the casts that fit each one -/
def lackB (all : List (List Pl)) (pieces : List Int) : Bool := decide ((pieces.foldl (fun some i => (all.getD i.toNat []).foldl (fun some a => if a ∈ some then some else some ++ [a]) some) ([] : List Pl)).length < pieces.length)
/-- the fewest pieces that lack casts -/
def fewestL (all : List (List Pl)) : Option (List Int) := ((List.range all.length).flatMap fun k => lexL (k + 1) (numbersL all.length)).find? (lackB all)

end Go.Proofs.YtpdldmichpmgmaaGreat

namespace Go.Proofs.YtpdldmichpmgmaaGreat

theorem ofL_cons (f : List (Pl × Int)) (a b : Pl) (k : Int) : ofL ((a, k) :: f) b = if a = b then some k else ofL f b := by
  unfold ofL
  rw [List.find?_cons]
  by_cases h : a = b
  · rw [if_pos h]; simp [h]
  · rw [if_neg h]; simp [h]
/-- casts are given to pieces that can have them, to each piece one -/
structure Given (o : List (List Pl)) (ok : Pl → Bool) (f : List (Pl × Int)) : Prop where
  inj : ∀ a b (j : Nat), ofL f a = some (j : Int) → ofL f b = some (j : Int) → a = b
  good : ∀ a (j : Nat), ofL f a = some (j : Int) → a ∈ o.getD j [] ∧ ok a = true
/-- what one more piece with a cast changes -/
structure More (o : List (List Pl)) (ok : Pl → Bool) (i : Nat) (met : List Pl) (f f' : List (Pl × Int)) : Prop where
  inj : ∀ a b (j : Nat), ofL f' a = some (j : Int) → ofL f' b = some (j : Int) → a = b ∨ (j = i ∧ (ofL f a = some (i : Int) ∨ ofL f b = some (i : Int)))
  good : ∀ a (j : Nat), ofL f' a = some (j : Int) → a ∈ o.getD j [] ∧ ok a = true
  same : ∀ a ∈ met, ofL f' a = ofL f a
  new : ∃ a, a ∉ met ∧ ofL f' a = some (i : Int)
  keep : ∀ (j : Nat), (∃ a, ofL f a = some (j : Int)) → ∃ a, ofL f' a = some (j : Int)
  only : ∀ a (j : Nat), ofL f' a = some (j : Int) → j = i ∨ ∃ b, ofL f b = some (j : Int)
  fixed : ∀ a (k : Int), k < 0 → (ofL f' a = some k ↔ ofL f a = some k)
/-- what is true where a piece has none -/
structure Stuck (o : List (List Pl)) (ok : Pl → Bool) (cs : List Pl) (met met' : List Pl) (f : List (Pl × Int)) : Prop where
  all : ∀ a ∈ cs, ok a = true → a ∈ met'
  held : ∀ a ∈ met', a ∉ met → ∃ k, ofL f a = some k ∧ (0 ≤ k → ∀ c ∈ o.getD k.toNat [], ok c = true → c ∈ met')
theorem ofL_nonneg {f : List (Pl × Int)} {a : Pl} {k : Int} (h : ofL f a = some k) (hk : ¬ k < 0) : ofL f a = some ((k.toNat : Nat) : Int) := by
  rw [h, Int.toNat_of_nonneg (by omega)]
theorem nodup_le {α : Type} [DecidableEq α] : ∀ (l m : List α), l.Nodup → (∀ a ∈ l, a ∈ m) → l.length ≤ m.length
  | [], _, _, _ => Nat.zero_le _
  | a :: l, m, hn, hm => by
    obtain ⟨h1, h2⟩ := List.nodup_cons.1 hn
    have ham := hm a List.mem_cons_self
    have := nodup_le l (m.erase a) h2 (fun b hb => (List.mem_erase_of_ne (fun e : b = a => h1 (by rw [← e]; exact hb))).2 (hm b (List.mem_cons_of_mem _ hb)))
    rw [List.length_erase_of_mem ham] at this
    have := List.length_pos_of_mem ham
    rw [List.length_cons]
    omega
theorem seek_spec (o : List (List Pl)) (ok : Pl → Bool) (univ : List Pl) (L : Nat) (hu : ∀ j, (o.getD j []).length ≤ L ∧ ∀ a ∈ o.getD j [], a ∈ univ) : ∀ (n : Nat) (cs : List Pl) (i : Nat) (f : List (Pl × Int)) (met : List Pl),
    cs.length + (univ.length - met.length) * (L + 1) ≤ n → met.Nodup → (∀ a ∈ met, a ∈ univ) → (∀ a ∈ cs, a ∈ o.getD i []) → Given o ok f → (∀ a, ofL f a = some (i : Int) → a ∈ met) →
    (seekL o ok n cs i f met).2.2.Nodup ∧ (∀ a ∈ (seekL o ok n cs i f met).2.2, a ∈ univ) ∧ (∀ a ∈ met, a ∈ (seekL o ok n cs i f met).2.2) ∧
    ((seekL o ok n cs i f met).1 = true → More o ok i met f (seekL o ok n cs i f met).2.1) ∧
    ((seekL o ok n cs i f met).1 = false → (seekL o ok n cs i f met).2.1 = f ∧ Stuck o ok cs met (seekL o ok n cs i f met).2.2 f) := by
  intro n
  induction n with
  | zero =>
    intro cs i f met hn hnd hmu hcs hG hi
    have : cs = [] := List.eq_nil_of_length_eq_zero (by omega)
    subst this
    rw [seekL]
    exact ⟨hnd, hmu, fun a h => h, (fun h => by cases h), (fun _ => ⟨rfl, ⟨(fun a h => by cases h), fun a h h2 => absurd h h2⟩⟩)⟩
  | succ n ih =>
    intro cs i f met hn hnd hmu hcs hG hi
    cases cs with
    | nil =>
      rw [seekL]
      exact ⟨hnd, hmu, fun a h => h, (fun h => by cases h), (fun _ => ⟨rfl, ⟨(fun a h => by cases h), fun a h h2 => absurd h h2⟩⟩)⟩
    | cons a rest =>
      rw [List.length_cons] at hn
      have hrest : ∀ b ∈ rest, b ∈ o.getD i [] := fun b hb => hcs b (List.mem_cons_of_mem _ hb)
      rw [seekL]
      by_cases hskip : (!ok a || met.contains a) = true
      · rw [if_pos hskip]
        obtain ⟨r1, r2, r3, r4, r5⟩ := ih rest i f met (by omega) hnd hmu hrest hG hi
        refine ⟨r1, r2, r3, r4, fun hb => ?_⟩
        obtain ⟨w1, w2⟩ := r5 hb
        refine ⟨w1, ⟨fun b hb' hok => ?_, w2.held⟩⟩
        rcases List.mem_cons.1 hb' with rfl | hb'
        · have : b ∈ met := by simpa [hok] using hskip
          exact r3 b this
        · exact w2.all b hb' hok
      · rw [if_neg hskip]
        have hoka : ok a = true := by
          cases h : ok a
          · rw [h] at hskip; simp at hskip
          · rfl
        have ham : a ∉ met := fun h => by simp [h] at hskip
        have hao : a ∈ o.getD i [] := hcs a List.mem_cons_self
        have hau : a ∈ univ := (hu i).2 a hao
        have hnd2 : (a :: met).Nodup := List.nodup_cons.2 ⟨ham, hnd⟩
        have hmu2 : ∀ b ∈ a :: met, b ∈ univ := fun b hb => by
          rcases List.mem_cons.1 hb with rfl | hb
          · exact hau
          · exact hmu b hb
        have hlen : (a :: met).length ≤ univ.length := nodup_le _ _ hnd2 hmu2
        rw [List.length_cons] at hlen
        have hmul : (univ.length - met.length) * (L + 1) = (univ.length - (met.length + 1)) * (L + 1) + (L + 1) := by
          rw [show univ.length - met.length = (univ.length - (met.length + 1)) + 1 by omega, Nat.succ_mul]
        cases hof : ofL f a with
        | none =>
          refine ⟨hnd2, hmu2, fun b hb => List.mem_cons_of_mem _ hb, fun _ => ?_, fun h => by cases h⟩
          refine ⟨fun b c j hb hc => ?_, fun b j hb => ?_, fun b hb => ?_, ⟨a, ham, by rw [ofL_cons, if_pos rfl]⟩, fun j hj => ?_, fun b j hb => ?_, fun b k hk => ?_⟩
          · rw [ofL_cons] at hb hc
            split at hb
            · rename_i e1
              injection hb with hb
              have hji : j = i := by omega
              split at hc
              · rename_i e2; exact .inl (e1.symm.trans e2)
              · exact .inr ⟨hji, .inr (by rw [← hji]; exact hc)⟩
            · split at hc
              · injection hc with hc
                have hji : j = i := by omega
                exact .inr ⟨hji, .inl (by rw [← hji]; exact hb)⟩
              · exact .inl (hG.inj b c j hb hc)
          · rw [ofL_cons] at hb
            split at hb
            · rename_i e1
              injection hb with hb
              have hji : j = i := by omega
              subst hji; subst e1
              exact ⟨hao, hoka⟩
            · exact hG.good b j hb
          · rw [ofL_cons, if_neg (fun e : a = b => ham (by rw [e]; exact hb))]
          · obtain ⟨b, hb⟩ := hj
            refine ⟨b, ?_⟩
            rw [ofL_cons, if_neg (fun e => by subst e; rw [hof] at hb; cases hb)]
            exact hb
          · rw [ofL_cons] at hb
            split at hb
            · injection hb with hb; exact .inl (by omega)
            · exact .inr ⟨b, hb⟩
          · rw [ofL_cons]
            split
            · rename_i e1
              subst e1
              rw [hof]
              constructor
              · intro h; injection h with h; omega
              · intro h; cases h
            · exact Iff.rfl
        | some k =>
          dsimp only
          by_cases hk : k < 0
          · rw [if_pos hk]
            obtain ⟨r1, r2, r3, r4, r5⟩ := ih rest i f (a :: met) (by rw [List.length_cons]; omega) hnd2 hmu2 hrest hG (fun b hb => List.mem_cons_of_mem _ (hi b hb))
            refine ⟨r1, r2, fun b hb => r3 b (List.mem_cons_of_mem _ hb), fun hb => ?_, fun hb => ?_⟩
            · have w := r4 hb
              exact ⟨w.inj, w.good, fun b hb => w.same b (List.mem_cons_of_mem _ hb), by obtain ⟨b, h1, h2⟩ := w.new; exact ⟨b, fun h => h1 (List.mem_cons_of_mem _ h), h2⟩, w.keep, w.only, w.fixed⟩
            · obtain ⟨w1, w2⟩ := r5 hb
              refine ⟨w1, ⟨fun b hb' hok => ?_, fun b hb' hbm => ?_⟩⟩
              · rcases List.mem_cons.1 hb' with rfl | hb'
                · exact r3 b List.mem_cons_self
                · exact w2.all b hb' hok
              · by_cases hba : b = a
                · subst hba; exact ⟨k, hof, fun h => by omega⟩
                · exact w2.held b hb' (fun h => by rcases List.mem_cons.1 h with h | h; exact hba h; exact hbm h)
          · rw [if_neg hk]
            have hofn := ofL_nonneg hof hk
            have hkL := (hu k.toNat).1
            obtain ⟨s1, s2, s3, s4, s5⟩ := ih (o.getD k.toNat []) k.toNat f (a :: met) (by rw [List.length_cons]; omega) hnd2 hmu2 (fun b hb => hb) hG (fun b hb => by rw [hG.inj b a k.toNat hb hofn]; exact List.mem_cons_self)
            generalize hS : seekL o ok n (o.getD k.toNat []) k.toNat f (a :: met) = S at s1 s2 s3 s4 s5
            obtain ⟨b0, f1, m1⟩ := S
            dsimp only at s1 s2 s3 s4 s5 ⊢
            cases b0 with
            | true =>
              rw [if_pos rfl]
              have w := s4 rfl
              have hik : i ≠ k.toNat := fun e => ham (hi a (by rw [e]; exact hofn))
              have hsa : ofL f1 a = some ((k.toNat : Nat) : Int) := by rw [w.same a List.mem_cons_self]; exact hofn
              refine ⟨s1, s2, fun b hb => s3 b (List.mem_cons_of_mem _ hb), fun _ => ?_, fun h => by cases h⟩
              have own : ∀ b, ofL f1 b = some (i : Int) → ofL f b = some (i : Int) := fun b hb => by
                rcases w.only b i hb with h | ⟨c, hc⟩
                · exact absurd h hik
                · have hcm := hi c hc
                  have hc1 : ofL f1 c = some (i : Int) := by rw [w.same c (List.mem_cons_of_mem _ hcm)]; exact hc
                  rcases w.inj b c i hb hc1 with h | ⟨h, _⟩
                  · rw [h]; exact hc
                  · exact absurd h hik
              refine ⟨fun b c j hb hc => ?_, fun b j hb => ?_, fun b hb => ?_, ⟨a, ham, by rw [ofL_cons, if_pos rfl]⟩, fun j hj => ?_, fun b j hb => ?_, fun b k' hk' => ?_⟩
              · rw [ofL_cons] at hb hc
                split at hb
                · rename_i e1
                  injection hb with hb
                  have hji : j = i := by omega
                  subst hji
                  split at hc
                  · rename_i e2; exact .inl (e1.symm.trans e2)
                  · exact .inr ⟨rfl, .inr (own c hc)⟩
                · rename_i e1
                  split at hc
                  · injection hc with hc
                    have hji : j = i := by omega
                    subst hji
                    exact .inr ⟨rfl, .inl (own b hb)⟩
                  · rename_i e2
                    rcases w.inj b c j hb hc with h | ⟨h, h2 | h2⟩
                    · exact .inl h
                    · exact absurd (hG.inj a b k.toNat hofn h2) e1
                    · exact absurd (hG.inj a c k.toNat hofn h2) e2
              · rw [ofL_cons] at hb
                split at hb
                · rename_i e1
                  injection hb with hb
                  have hji : j = i := by omega
                  subst hji; subst e1
                  exact ⟨hao, hoka⟩
                · exact w.good b j hb
              · rw [ofL_cons, if_neg (fun e : a = b => ham (by rw [e]; exact hb))]
                exact w.same b (List.mem_cons_of_mem _ hb)
              · obtain ⟨b, hb⟩ := w.keep j hj
                by_cases hba : a = b
                · subst hba
                  rw [hsa] at hb
                  injection hb with hb
                  obtain ⟨c, hc1, hc2⟩ := w.new
                  refine ⟨c, ?_⟩
                  rw [ofL_cons, if_neg (fun e : a = c => hc1 (by rw [← e]; exact List.mem_cons_self)), hc2, hb]
                · exact ⟨b, by rw [ofL_cons, if_neg hba]; exact hb⟩
              · rw [ofL_cons] at hb
                split at hb
                · injection hb with hb; exact .inl (by omega)
                · rcases w.only b j hb with h | h
                  · exact .inr ⟨a, by rw [h]; exact hofn⟩
                  · exact .inr h
              · rw [ofL_cons]
                split
                · rename_i e1
                  subst e1
                  rw [hof]
                  constructor
                  · intro h; injection h with h; omega
                  · intro h; injection h with h; omega
                · exact w.fixed b k' hk'
            | false =>
              rw [if_neg (by decide)]
              obtain ⟨hf1, hst⟩ := s5 rfl
              subst hf1
              have hm1 : met.length + 1 ≤ m1.length := by
                have := nodup_le _ _ hnd2 s3
                rw [List.length_cons] at this
                exact this
              obtain ⟨r1, r2, r3, r4, r5⟩ := ih rest i f1 m1 (by
                have : (univ.length - m1.length) * (L + 1) ≤ (univ.length - (met.length + 1)) * (L + 1) := Nat.mul_le_mul_right _ (by omega)
                omega) s1 s2 hrest hG (fun b hb => s3 b (List.mem_cons_of_mem _ (hi b hb)))
              refine ⟨r1, r2, fun b hb => r3 b (s3 b (List.mem_cons_of_mem _ hb)), fun hb => ?_, fun hb => ?_⟩
              · have w := r4 hb
                exact ⟨w.inj, w.good, fun b hb => w.same b (s3 b (List.mem_cons_of_mem _ hb)), by obtain ⟨b, h1, h2⟩ := w.new; exact ⟨b, fun h => h1 (s3 b (List.mem_cons_of_mem _ h)), h2⟩, w.keep, w.only, w.fixed⟩
              · obtain ⟨w1, w2⟩ := r5 hb
                refine ⟨w1, ⟨fun b hb' hok => ?_, fun b hb' hbm => ?_⟩⟩
                · rcases List.mem_cons.1 hb' with rfl | hb'
                  · exact r3 b (s3 b List.mem_cons_self)
                  · exact w2.all b hb' hok
                · by_cases hb1 : b ∈ m1
                  · by_cases hba : b = a
                    · subst hba
                      exact ⟨k, hof, fun _ c hc hok => r3 c (hst.all c hc hok)⟩
                    · obtain ⟨k', hk1, hk2⟩ := hst.held b hb1 (fun h => by rcases List.mem_cons.1 h with h | h; exact hba h; exact hbm h)
                      exact ⟨k', hk1, fun h c hc hok => r3 c (hk2 h c hc hok)⟩
                  · exact w2.held b hb' hb1

end Go.Proofs.YtpdldmichpmgmaaGreat

namespace Go.Proofs.YtpdldmichpmgmaaGreat

def countK (is : Nat → Bool) (k : Nat) : Nat := ((List.range k).filter is).length
theorem countK_succ (is : Nat → Bool) (k : Nat) : countK is (k + 1) = countK is k + (if is k then 1 else 0) := by
  unfold countK
  rw [List.range_succ, List.filter_append, List.length_append]
  by_cases h : is k = true
  · rw [if_pos h]; simp [h]
  · rw [if_neg h]; simp [h]
theorem giveK_succ (o : List (List Pl)) (ok : Pl → Bool) (is : Nat → Bool) (fixed : List Pl) (k : Nat) : giveK o ok is fixed (k + 1) = if is k then (if (seekL o ok seekF (o.getD k []) k (giveK o ok is fixed k).2 []).1 then ((giveK o ok is fixed k).1 + 1, (seekL o ok seekF (o.getD k []) k (giveK o ok is fixed k).2 []).2.1) else ((giveK o ok is fixed k).1, (seekL o ok seekF (o.getD k []) k (giveK o ok is fixed k).2 []).2.1)) else giveK o ok is fixed k := by
  unfold giveK; rw [List.range_succ, List.foldl_append]; rfl
theorem ofL_fixed (fixed : List Pl) (a : Pl) : ofL (fixed.map fun a => (a, (-1 : Int))) a = if a ∈ fixed then some (-1) else none := by
  induction fixed with
  | nil => rfl
  | cons b l ih =>
    rw [List.map_cons, ofL_cons, ih]
    by_cases h : b = a
    · rw [if_pos h, if_pos (by rw [h]; exact List.mem_cons_self)]
    · rw [if_neg h]
      by_cases h2 : a ∈ l
      · rw [if_pos h2, if_pos (List.mem_cons_of_mem _ h2)]
      · rw [if_neg h2, if_neg (fun hh => by rcases List.mem_cons.1 hh with e | e; exact h e.symm; exact h2 e)]
/-- all pieces so far have a cast -/
structure AllHave (o : List (List Pl)) (ok : Pl → Bool) (is : Nat → Bool) (fixed : List Pl) (k : Nat) (s : Nat × List (Pl × Int)) : Prop where
  many : s.1 = countK is k
  given : Given o ok s.2
  owns : ∀ j : Nat, (∃ a, ofL s.2 a = some (j : Int)) ↔ j < k ∧ is j = true
  neg : ∀ a (z : Int), z < 0 → ofL s.2 a = some z → a ∈ fixed
  held : ∀ a ∈ fixed, ofL s.2 a = some (-1)
/-- some pieces lack casts: there are fewer casts than pieces -/
def LackP (o : List (List Pl)) (ok : Pl → Bool) (is : Nat → Bool) (fixed : List Pl) (n : Nat) : Prop :=
  ∃ (S : List Nat) (D : List Pl), S.Nodup ∧ (∀ j ∈ S, j < n ∧ is j = true) ∧ (∀ j ∈ S, ∀ c ∈ o.getD j [], ok c = true → c ∉ fixed → c ∈ D) ∧ D.length < S.length
theorem give_le (o : List (List Pl)) (ok : Pl → Bool) (is : Nat → Bool) (fixed : List Pl) (k : Nat) : (giveK o ok is fixed k).1 ≤ countK is k := by
  induction k with
  | zero => exact Nat.le_refl _
  | succ k ih =>
    rw [giveK_succ, countK_succ]
    by_cases h : is k = true
    · rw [if_pos h, if_pos h]
      split
      · dsimp only; omega
      · dsimp only; omega
    · rw [if_neg h, if_neg h]; omega
theorem give_step {o : List (List Pl)} {ok : Pl → Bool} {is : Nat → Bool} {fixed : List Pl} {univ : List Pl} {L : Nat} (hu : ∀ j, (o.getD j []).length ≤ L ∧ ∀ a ∈ o.getD j [], a ∈ univ) (hF : L + univ.length * (L + 1) ≤ seekF) : ∀ k, AllHave o ok is fixed k (giveK o ok is fixed k) ∨ ((giveK o ok is fixed k).1 < countK is k ∧ LackP o ok is fixed k) := by
  intro k
  induction k with
  | zero =>
    refine .inl ⟨rfl, ⟨fun a b j ha => ?_, fun a j ha => ?_⟩, fun j => ⟨fun ⟨a, ha⟩ => ?_, fun h => by omega⟩, fun a z _ ha => ?_, fun a ha => ?_⟩
    · have : ofL (fixed.map fun a => (a, (-1 : Int))) a = some (j : Int) := ha
      rw [ofL_fixed] at this
      split at this
      · injection this with this; omega
      · cases this
    · have : ofL (fixed.map fun a => (a, (-1 : Int))) a = some (j : Int) := ha
      rw [ofL_fixed] at this
      split at this
      · injection this with this; omega
      · cases this
    · have : ofL (fixed.map fun a => (a, (-1 : Int))) a = some (j : Int) := ha
      rw [ofL_fixed] at this
      split at this
      · injection this with this; omega
      · cases this
    · have : ofL (fixed.map fun a => (a, (-1 : Int))) a = some z := ha
      rw [ofL_fixed] at this
      split at this
      · assumption
      · cases this
    · show ofL (fixed.map fun a => (a, (-1 : Int))) a = some (-1)
      rw [ofL_fixed, if_pos ha]
  | succ k ih =>
    rw [giveK_succ, countK_succ]
    by_cases hk : is k = true
    · rw [if_pos hk, if_pos hk]
      rcases ih with h | ⟨h1, S, D, h2, h3, h4, h5⟩
      · obtain ⟨p1, p2, p3, p4, p5⟩ := seek_spec o ok univ L hu seekF (o.getD k []) k (giveK o ok is fixed k).2 [] (by
          have := (hu k).1
          rw [List.length_nil, Nat.sub_zero]
          omega) List.nodup_nil (fun a ha => by cases ha) (fun a ha => ha) h.given (fun a ha => by
            have := (h.owns k).1 ⟨a, ha⟩
            omega)
        generalize seekL o ok seekF (o.getD k []) k (giveK o ok is fixed k).2 [] = R at p1 p2 p3 p4 p5
        obtain ⟨b, f', M⟩ := R
        dsimp only at p1 p2 p3 p4 p5 ⊢
        have hno : ∀ a, ofL (giveK o ok is fixed k).2 a ≠ some (k : Int) := fun a ha => by
          have := (h.owns k).1 ⟨a, ha⟩
          omega
        cases b with
        | true =>
          rw [if_pos rfl]
          have w := p4 rfl
          refine .inl ⟨by rw [h.many, countK_succ, if_pos hk], ⟨fun a c j ha hc => ?_, w.good⟩, fun j => ⟨fun ⟨a, ha⟩ => ?_, fun hj => ?_⟩, fun a z hz ha => h.neg a z hz ((w.fixed a z hz).1 ha), fun a ha => (w.fixed a (-1) (by omega)).2 (h.held a ha)⟩
          · rcases w.inj a c j ha hc with e | ⟨_, e | e⟩
            · exact e
            · exact absurd e (hno a)
            · exact absurd e (hno c)
          · rcases w.only a j ha with e | e
            · rw [e]; exact ⟨by omega, hk⟩
            · have := (h.owns j).1 e
              exact ⟨by omega, this.2⟩
          · by_cases hjk : j = k
            · rw [hjk]; obtain ⟨a, _, ha⟩ := w.new; exact ⟨a, ha⟩
            · exact w.keep j ((h.owns j).2 ⟨by omega, hj.2⟩)
        | false =>
          rw [if_neg (by decide)]
          obtain ⟨q1, q2⟩ := p5 rfl
          subst q1
          refine .inr ⟨by rw [h.many]; omega, ?_⟩
          have hheld : ∀ a ∈ M, ∃ z, ofL (giveK o ok is fixed k).2 a = some z ∧ (0 ≤ z → ∀ c ∈ o.getD z.toNat [], ok c = true → c ∈ M) := fun a ha => q2.held a ha (fun hh => by cases hh)
          let own : Pl → Nat := fun a => ((ofL (giveK o ok is fixed k).2 a).getD 0).toNat
          let D := M.filter fun a => decide (0 ≤ (ofL (giveK o ok is fixed k).2 a).getD 0)
          have hD : ∀ a ∈ D, a ∈ M ∧ ofL (giveK o ok is fixed k).2 a = some ((own a : Nat) : Int) := fun a ha => by
            obtain ⟨d1, d2⟩ := List.mem_filter.1 ha
            obtain ⟨z, hz, _⟩ := hheld a d1
            refine ⟨d1, ?_⟩
            show _ = some ((((ofL (giveK o ok is fixed k).2 a).getD 0).toNat : Nat) : Int)
            rw [hz] at d2 ⊢
            simp only [Option.getD_some, decide_eq_true_eq] at d2 ⊢
            rw [Int.toNat_of_nonneg d2]
          have hin : ∀ c ∈ M, c ∉ fixed → c ∈ D := fun c hc hcf => by
            obtain ⟨z, hz, _⟩ := hheld c hc
            refine List.mem_filter.2 ⟨hc, ?_⟩
            rw [hz]
            simp only [Option.getD_some, decide_eq_true_eq]
            by_cases h0 : z < 0
            · exact absurd (h.neg c z h0 hz) hcf
            · omega
          refine ⟨k :: D.map own, D, List.nodup_cons.2 ⟨fun hm => ?_, ?_⟩, fun j hj => ?_, fun j hj c hc hok hcf => ?_, by rw [List.length_cons, List.length_map]; omega⟩
          · obtain ⟨a, ha, e⟩ := List.mem_map.1 hm
            have := (hD a ha).2
            rw [e] at this
            exact hno a this
          · have hDn : D.Nodup := p1.filter _
            have key : ∀ E : List Pl, E.Nodup → (∀ a ∈ E, a ∈ D) → (E.map own).Nodup := by
              intro E
              induction E with
              | nil => intro _ _; exact List.nodup_nil
              | cons a E ihE =>
                intro hn hs
                obtain ⟨n1, n2⟩ := List.nodup_cons.1 hn
                rw [List.map_cons, List.nodup_cons]
                refine ⟨fun hm => ?_, ihE n2 fun b hb => hs b (List.mem_cons_of_mem _ hb)⟩
                obtain ⟨b, hb, e⟩ := List.mem_map.1 hm
                have ha2 := (hD a (hs a List.mem_cons_self)).2
                have hb2 := (hD b (hs b (List.mem_cons_of_mem _ hb))).2
                rw [e] at hb2
                have := h.given.inj a b _ ha2 hb2
                rw [this] at n1
                exact n1 hb
            exact key D hDn fun a ha => ha
          · rcases List.mem_cons.1 hj with e | hj
            · rw [e]; exact ⟨by omega, hk⟩
            · obtain ⟨a, ha, e⟩ := List.mem_map.1 hj
              have := (h.owns j).1 ⟨a, by rw [← e]; exact (hD a ha).2⟩
              exact ⟨by omega, this.2⟩
          · rcases List.mem_cons.1 hj with e | hj
            · rw [e] at hc
              exact hin c (q2.all c hc hok) hcf
            · obtain ⟨a, ha, e⟩ := List.mem_map.1 hj
              obtain ⟨d1, d2⟩ := hD a ha
              obtain ⟨z, hz, hz2⟩ := hheld a d1
              rw [d2] at hz
              injection hz with hz
              refine hin c (hz2 (by omega) c ?_ hok) hcf
              rw [← hz, Int.toNat_natCast, e]
              exact hc
      · refine .inr ⟨?_, S, D, h2, fun j hj => ⟨by have := (h3 j hj).1; omega, (h3 j hj).2⟩, h4, h5⟩
        split
        · dsimp only; omega
        · dsimp only; omega
    · rw [if_neg hk, if_neg hk, Nat.add_zero]
      rcases ih with h | ⟨h1, S, D, h2, h3, h4, h5⟩
      · refine .inl ⟨by rw [h.many, countK_succ, if_neg hk, Nat.add_zero], h.given, fun j => ?_, h.neg, h.held⟩
        rw [h.owns j]
        constructor
        · intro hh; exact ⟨by omega, hh.2⟩
        · intro hh
          refine ⟨?_, hh.2⟩
          rcases Nat.lt_or_eq_of_le (Nat.le_of_lt_succ hh.1) with h1 | h1
          · exact h1
          · rw [h1] at hh; exact absurd hh.2 hk
      · exact .inr ⟨h1, S, D, h2, fun j hj => ⟨by have := (h3 j hj).1; omega, (h3 j hj).2⟩, h4, h5⟩
/-- all pieces have a cast just if none lack -/
theorem give_iff {o : List (List Pl)} {ok : Pl → Bool} {is : Nat → Bool} {fixed : List Pl} {univ : List Pl} {L : Nat} (hu : ∀ j, (o.getD j []).length ≤ L ∧ ∀ a ∈ o.getD j [], a ∈ univ) (hF : L + univ.length * (L + 1) ≤ seekF) : giveR o ok is fixed = countK is o.length ↔ ¬ LackP o ok is fixed o.length := by
  unfold giveR
  rcases give_step (ok := ok) (is := is) (fixed := fixed) hu hF o.length with h | ⟨h1, h2⟩
  · refine ⟨fun _ ⟨S, D, h2, h3, h4, h5⟩ => ?_, fun _ => h.many⟩
    have hex : ∀ j : Nat, ∃ a : Pl, j ∈ S → ofL (giveK o ok is fixed o.length).2 a = some (j : Int) := fun j => by
      by_cases hj : j ∈ S
      · obtain ⟨a, ha⟩ := (h.owns j).2 (h3 j hj)
        exact ⟨a, fun _ => ha⟩
      · exact ⟨(0, 0), fun h => absurd h hj⟩
    obtain ⟨F, hF'⟩ := Classical.axiomOfChoice hex
    have hn : (S.map F).Nodup := by
      have key : ∀ E : List Nat, E.Nodup → (∀ j ∈ E, j ∈ S) → (E.map F).Nodup := by
        intro E
        induction E with
        | nil => intro _ _; exact List.nodup_nil
        | cons a E ihE =>
          intro hn hs
          obtain ⟨n1, n2⟩ := List.nodup_cons.1 hn
          rw [List.map_cons, List.nodup_cons]
          refine ⟨fun hm => ?_, ihE n2 fun b hb => hs b (List.mem_cons_of_mem _ hb)⟩
          obtain ⟨b, hb, e⟩ := List.mem_map.1 hm
          have ha2 := hF' a (hs a List.mem_cons_self)
          have hb2 := hF' b (hs b (List.mem_cons_of_mem _ hb))
          rw [e, ha2] at hb2
          injection hb2 with hb2
          have : a = b := by omega
          rw [this] at n1
          exact n1 hb
      exact key S h2 fun j hj => hj
    have := nodup_le (S.map F) D hn (fun a ha => by
      obtain ⟨j, hj, e⟩ := List.mem_map.1 ha
      have hf := hF' j hj
      obtain ⟨g1, g2⟩ := h.given.good _ j hf
      rw [← e]
      refine h4 j hj _ g1 g2 fun hfx => ?_
      have := h.held _ hfx
      rw [hf] at this
      injection this with this
      omega)
    rw [List.length_map] at this
    omega
  · exact ⟨fun h3 => absurd h3 (by omega), fun h3 => absurd h2 h3⟩

end Go.Proofs.YtpdldmichpmgmaaGreat

namespace Go.Proofs.YtpdldmichpmgmaaGreat

/-- all casts of some pieces, each once -/
def unionL (all : List (List Pl)) (pieces : List Int) : List Pl := pieces.foldl (fun some i => (all.getD i.toNat []).foldl (fun some a => if a ∈ some then some else some ++ [a]) some) ([] : List Pl)
theorem lackB_def (all : List (List Pl)) (pieces : List Int) : lackB all pieces = decide ((unionL all pieces).length < pieces.length) := rfl
theorem add_spec (l : List Pl) : ∀ s : List Pl, s.Nodup → (l.foldl (fun some a => if a ∈ some then some else some ++ [a]) s).Nodup ∧ ∀ a, a ∈ l.foldl (fun some a => if a ∈ some then some else some ++ [a]) s ↔ a ∈ s ∨ a ∈ l := by
  induction l with
  | nil => intro s hs; exact ⟨hs, fun a => by simp⟩
  | cons b l ih =>
    intro s hs
    rw [List.foldl_cons]
    by_cases hb : b ∈ s
    · rw [if_pos hb]
      obtain ⟨h1, h2⟩ := ih s hs
      refine ⟨h1, fun a => ?_⟩
      rw [h2, List.mem_cons]
      constructor
      · rintro (h | h)
        · exact .inl h
        · exact .inr (.inr h)
      · rintro (h | h | h)
        · exact .inl h
        · exact .inl (by rw [h]; exact hb)
        · exact .inr h
    · rw [if_neg hb]
      have hn : (s ++ [b]).Nodup := by
        rw [List.nodup_append]
        refine ⟨hs, by simp, fun x hx y hy e => ?_⟩
        rw [List.mem_singleton] at hy
        rw [e, hy] at hx
        exact hb hx
      obtain ⟨h1, h2⟩ := ih _ hn
      refine ⟨h1, fun a => ?_⟩
      rw [h2, List.mem_append, List.mem_singleton, List.mem_cons, or_assoc]
theorem union_spec (all : List (List Pl)) (pieces : List Int) : (unionL all pieces).Nodup ∧ ∀ a, a ∈ unionL all pieces ↔ ∃ i ∈ pieces, a ∈ all.getD i.toNat [] := by
  have key : ∀ (p : List Int) (s : List Pl), s.Nodup → (p.foldl (fun some i => (all.getD i.toNat []).foldl (fun some a => if a ∈ some then some else some ++ [a]) some) s).Nodup ∧ ∀ a, a ∈ p.foldl (fun some i => (all.getD i.toNat []).foldl (fun some a => if a ∈ some then some else some ++ [a]) some) s ↔ a ∈ s ∨ ∃ i ∈ p, a ∈ all.getD i.toNat [] := by
    intro p
    induction p with
    | nil => intro s hs; exact ⟨hs, fun a => by simp⟩
    | cons i p ih =>
      intro s hs
      rw [List.foldl_cons]
      obtain ⟨g1, g2⟩ := add_spec (all.getD i.toNat []) s hs
      obtain ⟨h1, h2⟩ := ih _ g1
      refine ⟨h1, fun a => ?_⟩
      rw [h2, g2, or_assoc]
      constructor
      · rintro (h | h | ⟨j, hj, h⟩)
        · exact .inl h
        · exact .inr ⟨i, List.mem_cons_self, h⟩
        · exact .inr ⟨j, List.mem_cons_of_mem _ hj, h⟩
      · rintro (h | ⟨j, hj, h⟩)
        · exact .inl h
        · rcases List.mem_cons.1 hj with e | hj
          · exact .inr (.inl (by rw [← e]; exact h))
          · exact .inr (.inr ⟨j, hj, h⟩)
  obtain ⟨h1, h2⟩ := key pieces [] List.nodup_nil
  exact ⟨h1, fun a => by rw [unionL, h2]; simp⟩

theorem nodup_cast {S : List Nat} (h : S.Nodup) : (S.map fun j : Nat => (j : Int)).Nodup := by
  unfold List.Nodup
  rw [List.pairwise_map]
  exact h.imp fun hne e => hne (by omega)
/-- a list of pieces: ascending, below a number -/
def IsSet (n : Nat) (set : List Int) : Prop := set.Pairwise (· < ·) ∧ ∀ i ∈ set, 0 ≤ i ∧ i < n
theorem lex_set {n k : Nat} {set : List Int} (h : set ∈ lexL k (numbersL n)) : IsSet n set ∧ set.length = k := by
  obtain ⟨h1, h2⟩ := lex_sub _ _ _ h
  refine ⟨⟨?_, fun i hi => ?_⟩, h2⟩
  · have : (numbersL n).Pairwise (· < ·) := by
      unfold numbersL
      rw [List.pairwise_map]
      exact List.pairwise_lt_range.imp fun h => by omega
    exact this.sublist h1
  · have h3 := h1.subset hi
    unfold numbersL at h3
    obtain ⟨j, hj, rfl⟩ := List.mem_map.1 h3
    have := List.mem_range.1 hj
    omega
theorem set_nodup {n : Nat} {set : List Int} (h : IsSet n set) : set.Nodup := h.1.imp fun h e => by omega
theorem countC_set {n : Nat} {set : List Int} (h : IsSet n set) : countK (fun i => hasN set i) n = set.length := by
  unfold countK
  have h1 : ((List.range n).filter fun i => hasN set i).length ≤ set.length := by
    have := nodup_le (((List.range n).filter fun i => hasN set i).map (fun i : Nat => (i : Int))) set (nodup_cast (List.nodup_range.filter _)) (fun a ha => by
      obtain ⟨i, hi, rfl⟩ := List.mem_map.1 ha
      have := (List.mem_filter.1 hi).2
      simpa [hasN] using this)
    rwa [List.length_map] at this
  have h2 : set.length ≤ ((List.range n).filter fun i => hasN set i).length := by
    have := nodup_le set (((List.range n).filter fun i => hasN set i).map (fun i : Nat => (i : Int))) (set_nodup h) (fun a ha => by
      obtain ⟨a1, a2⟩ := h.2 a ha
      refine List.mem_map.2 ⟨a.toNat, List.mem_filter.2 ⟨List.mem_range.2 (by omega), ?_⟩, by omega⟩
      unfold hasN
      rw [Int.toNat_of_nonneg a1]
      simpa using ha)
    rwa [List.length_map] at this
  omega
/-- pieces that lack casts, in the document's way -/
theorem lack_of {all : List (List Pl)} {set : List Int} (h : IsSet all.length set) (hl : lackB all set = true) : LackP all (fun _ => true) (fun i => hasN set i) [] all.length := by
  obtain ⟨u1, u2⟩ := union_spec all set
  rw [lackB_def] at hl
  refine ⟨set.map Int.toNat, unionL all set, ?_, fun j hj => ?_, fun j hj c hc _ _ => ?_, by rw [List.length_map]; simpa using hl⟩
  · have key : ∀ E : List Int, E.Nodup → (∀ i ∈ E, 0 ≤ i) → (E.map Int.toNat).Nodup := by
      intro E
      induction E with
      | nil => intro _ _; exact List.nodup_nil
      | cons a E ih =>
        intro hn h0
        obtain ⟨n1, n2⟩ := List.nodup_cons.1 hn
        rw [List.map_cons, List.nodup_cons]
        refine ⟨fun hm => ?_, ih n2 fun b hb => h0 b (List.mem_cons_of_mem _ hb)⟩
        obtain ⟨b, hb, e⟩ := List.mem_map.1 hm
        have e1 := h0 a List.mem_cons_self
        have e2 := h0 b (List.mem_cons_of_mem _ hb)
        have : b = a := by omega
        rw [this] at hb
        exact n1 hb
    exact key set (set_nodup h) fun i hi => (h.2 i hi).1
  · obtain ⟨i, hi, e⟩ := List.mem_map.1 hj
    obtain ⟨i1, i2⟩ := h.2 i hi
    refine ⟨by omega, ?_⟩
    show decide (((j : Nat) : Int) ∈ set) = true
    rw [show ((j : Nat) : Int) = i by omega]
    simpa using hi
  · obtain ⟨i, hi, e⟩ := List.mem_map.1 hj
    exact (u2 c).2 ⟨i, hi, by rw [e]; exact hc⟩
/-- and back: some of them lack casts in the document's way -/
theorem lack_to {all : List (List Pl)} {set : List Int} (h : IsSet all.length set) (hl : LackP all (fun _ => true) (fun i => hasN set i) [] all.length) : ∃ T : List Int, T.Sublist set ∧ lackB all T = true := by
  obtain ⟨S, D, s1, s2, s3, s4⟩ := hl
  refine ⟨set.filter fun i => decide (i.toNat ∈ S), List.filter_sublist, ?_⟩
  obtain ⟨u1, u2⟩ := union_spec all (set.filter fun i => decide (i.toNat ∈ S))
  have h1 := nodup_le (unionL all (set.filter fun i => decide (i.toNat ∈ S))) D u1 (fun a ha => by
    obtain ⟨i, hi, ha⟩ := (u2 a).1 ha
    have hiS : i.toNat ∈ S := by simpa using (List.mem_filter.1 hi).2
    exact s3 _ hiS a ha rfl (fun hh => by cases hh))
  have h2 := nodup_le (S.map fun j : Nat => (j : Int)) (set.filter fun i => decide (i.toNat ∈ S)) (nodup_cast s1) (fun a ha => by
    obtain ⟨j, hj, rfl⟩ := List.mem_map.1 ha
    have := (s2 j hj).2
    refine List.mem_filter.2 ⟨by simpa [hasN] using this, by simpa using hj⟩)
  rw [List.length_map] at h2
  rw [lackB_def]
  simp only [decide_eq_true_eq]
  omega

end Go.Proofs.YtpdldmichpmgmaaGreat

namespace Go.Proofs.YtpdldmichpmgmaaGreat

theorem lex_of_sub {x of : List Int} (h : x.Sublist of) : x ∈ lexL x.length of := by
  induction h with
  | slnil => simp [lexL]
  | @cons x of a h ih =>
    cases x with
    | nil => simp [lexL]
    | cons y x => rw [List.length_cons, lexL]; exact List.mem_append_right _ ih
  | @cons_cons x of a h ih =>
    rw [List.length_cons, lexL]
    exact List.mem_append_left _ (List.mem_map_of_mem ih)
theorem sets_mem {n : Nat} {x : List Int} : x ∈ setsL n ↔ x.Sublist (numbersL n) := by
  unfold setsL
  rw [List.mem_flatMap]
  constructor
  · rintro ⟨k, _, hx⟩
    exact (lex_sub _ _ _ hx).1
  · intro h
    refine ⟨x.length, List.mem_range.2 ?_, lex_of_sub h⟩
    have := h.length_le
    unfold numbersL at this
    rw [List.length_map, List.length_range] at this
    omega
theorem sets_set {n : Nat} {x : List Int} (h : x ∈ setsL n) : IsSet n x := (lex_set (lex_of_sub (sets_mem.1 h))).1
theorem sets_order (n : Nat) : (setsL n).Pairwise fun a b => a.length ≤ b.length := by
  unfold setsL
  rw [List.pairwise_flatMap]
  refine ⟨fun k _ => ?_, ?_⟩
  · have key : ∀ E : List (List Int), (∀ a ∈ E, a.length = k) → E.Pairwise fun a b => a.length ≤ b.length := by
      intro E
      induction E with
      | nil => intro _; exact List.Pairwise.nil
      | cons x E ih =>
        intro h
        refine List.Pairwise.cons (fun y hy => ?_) (ih fun a ha => h a (List.mem_cons_of_mem _ ha))
        rw [h x List.mem_cons_self, h y (List.mem_cons_of_mem _ hy)]
        exact Nat.le_refl _
    exact key _ fun a ha => (lex_sub _ _ _ ha).2
  · refine List.pairwise_lt_range.imp fun hlt => ?_
    intro a ha b hb
    rw [(lex_sub _ _ _ ha).2, (lex_sub _ _ _ hb).2]
    omega
theorem sets_first (n : Nat) : setsL n = [] :: (List.range n).flatMap fun k => lexL (k + 1) (numbersL n) := by
  unfold setsL
  rw [List.range_succ_eq_map, List.flatMap_cons, List.flatMap_map]
  have : lexL 0 (numbersL n) = [[]] := by cases numbersL n <;> rfl
  rw [this]
  rfl
/-- the first set with too few casts is the first one that lacks casts -/
theorem lacks_find {all : List (List Pl)} {univ : List Pl} {L : Nat} (hu : ∀ j, (all.getD j []).length ≤ L ∧ ∀ a ∈ all.getD j [], a ∈ univ) (hF : L + univ.length * (L + 1) ≤ seekF) :
    (setsL all.length).find? (fun set => decide (giveR all (fun _ => true) (fun i => hasN set i) [] < set.length)) = fewestL all := by
  have h1 : ∀ x ∈ setsL all.length, (giveR all (fun _ => true) (fun i => hasN x i) [] < x.length ↔ LackP all (fun _ => true) (fun i => hasN x i) [] all.length) := fun x hx => by
    have hs := sets_set hx
    have hc := countC_set hs
    have hle := give_le all (fun _ => true) (fun i => hasN x i) [] all.length
    have hi := give_iff (ok := fun _ => true) (is := fun i => hasN x i) (fixed := []) hu hF
    have hle2 : giveR all (fun _ => true) (fun i => hasN x i) [] ≤ x.length := by rw [← hc]; exact hle
    rw [hc] at hi
    constructor
    · intro h2
      exact Classical.byContradiction fun h3 => by have := hi.2 h3; omega
    · intro h2
      have : ¬ giveR all (fun _ => true) (fun i => hasN x i) [] = x.length := fun e => hi.1 e h2
      omega
  have h2 : ∀ x ∈ setsL all.length, lackB all x = true → giveR all (fun _ => true) (fun i => hasN x i) [] < x.length := fun x hx hl => (h1 x hx).2 (lack_of (sets_set hx) hl)
  have hall : (setsL all.length).find? (lackB all) = fewestL all := by
    rw [sets_first, List.find?_cons]
    have : lackB all [] = false := by rw [lackB_def]; rfl
    rw [this]
    rfl
  rw [← hall]
  cases hf : (setsL all.length).find? (fun set => decide (giveR all (fun _ => true) (fun i => hasN set i) [] < set.length)) with
  | none =>
    symm
    rw [List.find?_eq_none] at hf ⊢
    intro x hx hl
    exact hf x hx (by simpa using h2 x hx hl)
  | some X =>
    rw [List.find?_eq_some_iff_append] at hf
    obtain ⟨p1, as, bs, p2, p3⟩ := hf
    have hX : X ∈ setsL all.length := by rw [p2]; simp
    have hlt : giveR all (fun _ => true) (fun i => hasN X i) [] < X.length := by simpa using p1
    symm
    rw [List.find?_eq_some_iff_append]
    refine ⟨?_, as, bs, p2, fun a ha => ?_⟩
    · obtain ⟨T, t1, t2⟩ := lack_to (sets_set hX) ((h1 X hX).1 hlt)
      have hT : T ∈ setsL all.length := sets_mem.2 (t1.trans (sets_mem.1 hX))
      rcases Nat.lt_or_eq_of_le t1.length_le with h4 | h4
      · exfalso
        have hord := sets_order all.length
        rw [p2] at hord hT
        rcases List.mem_append.1 hT with h5 | h5
        · have := p3 T h5
          have h6 := h2 T (by rw [p2]; exact List.mem_append_left _ h5) t2
          simp at this
          omega
        · rcases List.mem_cons.1 h5 with h5 | h5
          · rw [h5] at h4; omega
          · have := (List.pairwise_cons.1 (List.pairwise_append.1 hord).2.1).1 T h5
            omega
      · rw [t1.eq_of_length h4] at t2
        exact t2
    · have := p3 a ha
      cases hl : lackB all a with
      | false => rfl
      | true =>
        have h6 := h2 a (by rw [p2]; exact List.mem_append_left _ ha) hl
        simp at this
        omega

end Go.Proofs.YtpdldmichpmgmaaGreat
