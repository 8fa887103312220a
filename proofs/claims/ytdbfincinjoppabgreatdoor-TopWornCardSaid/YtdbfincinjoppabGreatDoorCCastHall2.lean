/- A part of the proof that TopWorn always answers true. -/
import Derived.Test.YtdbfincinjoppabGreatDoorCKMap
import Derived.Test.YtdbfincinjoppabGreatDoorCKSeek
set_option linter.all false
namespace Go.Proofs.YtdbfincinjoppabGreatDoor
def countK (is : Nat → Bool) (k : Nat) : Nat := ((List.range k).filter is).length
theorem countK_succ (is : Nat → Bool) (k : Nat) : countK is (k + 1) = countK is k + (if is k then 1 else 0) := by
 unfold countK
 rw [List.range_succ, List.filter_append, List.length_append]
 by_cases h : is k = true
 ·rw [if_pos h]; simp [h]
 rw [if_neg h]; simp [h]
theorem giveK_succ (o : List (List Pl)) (ok : Pl → Bool) (is : Nat → Bool) (fixed : List Pl) (k : Nat) : giveK o ok is fixed (k + 1) = if is k then (if (seekL o ok seekF (o.getD k []) k (giveK o ok is fixed k).2 []).1 then ((giveK o ok is fixed k).1 + 1, (seekL o ok seekF (o.getD k []) k (giveK o ok is fixed k).2 []).2.1) else ((giveK o ok is fixed k).1, (seekL o ok seekF (o.getD k []) k (giveK o ok is fixed k).2 []).2.1)) else giveK o ok is fixed k := by
 unfold giveK; rw [List.range_succ, List.foldl_append]; rfl
theorem ofL_fixed (fixed : List Pl) (a : Pl) : ofL (fixed.map fun a => (a, (-1 : Int))) a = if a ∈ fixed then some (-1) else none := by
 induction fixed with
 | nil => rfl
 | cons b l ih =>
  rw [List.map_cons, ofL_cons, ih]
  by_cases h : b = a
  ·rw [if_pos h, if_pos (by rw [h]; exact List.mem_cons_self)]
  rw [if_neg h]
  by_cases h2 : a ∈ l
  ·rw [if_pos h2, if_pos (List.mem_cons_of_mem _ h2)]
  rw [if_neg h2, if_neg (fun hh => by rcases List.mem_cons.1 hh with e | e; exact h e.symm; exact h2 e)]
structure AllHave (o : List (List Pl)) (ok : Pl → Bool) (is : Nat → Bool) (fixed : List Pl) (k : Nat) (s : Nat × List (Pl × Int)) : Prop where
 many : s.1 = countK is k
 given : Given o ok s.2
 owns : ∀ j : Nat, (∃ a, ofL s.2 a = some (j : Int)) ↔ j < k ∧ is j = true
 neg : ∀ a (z : Int), z < 0 → ofL s.2 a = some z → a ∈ fixed
 held : ∀ a ∈ fixed, ofL s.2 a = some (-1)
def LackP (o : List (List Pl)) (ok : Pl → Bool) (is : Nat → Bool) (fixed : List Pl) (n : Nat) : Prop :=
 ∃ (S : List Nat) (D : List Pl), S.Nodup ∧ (∀ j ∈ S, j < n ∧ is j = true) ∧ (∀ j ∈ S, ∀ c ∈ o.getD j [], ok c = true → c ∉ fixed → c ∈ D) ∧ D.length < S.length
theorem give_le (o : List (List Pl)) (ok : Pl → Bool) (is : Nat → Bool) (fixed : List Pl) (k : Nat) : (giveK o ok is fixed k).1 ≤ countK is k := by
 induction k with
 | zero => exact Nat.le_refl _
 | succ k ih =>
  rw [giveK_succ, countK_succ]
  by_cases h : is k = true
  ·rw [if_pos h, if_pos h]
   split
   ·dsimp only; omega
   dsimp only; omega
  rw [if_neg h, if_neg h]; omega
theorem give_step {o : List (List Pl)} {ok : Pl → Bool} {is : Nat → Bool} {fixed : List Pl} {univ : List Pl} {L : Nat} (hu : ∀ j, (o.getD j []).length ≤ L ∧ ∀ a ∈ o.getD j [], a ∈ univ) (hF : L + univ.length * (L + 1) ≤ seekF) : ∀ k, AllHave o ok is fixed k (giveK o ok is fixed k) ∨ ((giveK o ok is fixed k).1 < countK is k ∧ LackP o ok is fixed k) := by
 intro k
 induction k with
 | zero =>
  refine .inl ⟨rfl, ⟨fun a b j ha => ?_, fun a j ha => ?_⟩, fun j => ⟨fun ⟨a, ha⟩ => ?_, fun h => by omega⟩, fun a z _ ha => ?_, fun a ha => ?_⟩
  ·have : ofL (fixed.map fun a => (a, (-1 : Int))) a = some (j : Int) := ha
   rw [ofL_fixed] at this
   split at this
   ·injection this with this; omega
   cases this
  ·have : ofL (fixed.map fun a => (a, (-1 : Int))) a = some (j : Int) := ha
   rw [ofL_fixed] at this
   split at this
   ·injection this with this; omega
   cases this
  ·have : ofL (fixed.map fun a => (a, (-1 : Int))) a = some (j : Int) := ha
   rw [ofL_fixed] at this
   split at this
   ·injection this with this; omega
   cases this
  ·have : ofL (fixed.map fun a => (a, (-1 : Int))) a = some z := ha
   rw [ofL_fixed] at this
   split at this
   ·assumption
   cases this
  ·show ofL (fixed.map fun a => (a, (-1 : Int))) a = some (-1)
   rw [ofL_fixed, if_pos ha]
 | succ k ih =>
  rw [giveK_succ, countK_succ]
  by_cases hk : is k = true
  ·rw [if_pos hk, if_pos hk]
   rcases ih with h | ⟨h1, S, D, h2, h3, h4, h5⟩
   ·obtain ⟨p1, p2, p3, p4, p5⟩ := seek_spec o ok univ L hu seekF (o.getD k []) k (giveK o ok is fixed k).2 [] (by
     have := (hu k).1
     rw [List.length_nil, Nat.sub_zero]
     omega) List.nodup_nil (fun a ha => by cases ha) (fun a ha => ha) h.given (fun a ha => by
      have := (h.owns k).1 ⟨a, ha⟩
      omega)
    generalize seekL o ok seekF (o.getD k []) k (giveK o ok is fixed k).2 [] = R at p1 p2 p3 p4 p5
    obtain ⟨b, f', M⟩ := R
    dsimp only at p1 p2 p3 p4 p5 ⊢
    have hno : ∀ a, ofL (giveK o ok is fixed k).2 a ≠ some (k : Int) := fun a ha => by
     have := (h.owns k).1 ⟨a, ha⟩
     omega
    cases b with
    | true =>
     rw [if_pos rfl]
     have w := p4 rfl
     refine .inl ⟨by rw [h.many, countK_succ, if_pos hk], ⟨fun a c j ha hc => ?_, w.good⟩, fun j => ⟨fun ⟨a, ha⟩ => ?_, fun hj => ?_⟩, fun a z hz ha => h.neg a z hz ((w.fixed a z hz).1 ha), fun a ha => (w.fixed a (-1) (by omega)).2 (h.held a ha)⟩
     ·rcases w.inj a c j ha hc with e | ⟨_, e | e⟩
      ·exact e
      ·exact absurd e (hno a)
      exact absurd e (hno c)
     ·rcases w.only a j ha with e | e
      ·rw [e]; exact ⟨by omega, hk⟩
      have := (h.owns j).1 e
      exact ⟨by omega, this.2⟩
     ·by_cases hjk : j = k
      ·rw [hjk]; obtain ⟨a, _, ha⟩ := w.new; exact ⟨a, ha⟩
      ·exact w.keep j ((h.owns j).2 ⟨by omega, hj.2⟩)
    | false =>
     rw [if_neg (by decide)]
     obtain ⟨q1, q2⟩ := p5 rfl
     subst q1
     refine .inr ⟨by rw [h.many]; omega, ?_⟩
     have hheld : ∀ a ∈ M, ∃ z, ofL (giveK o ok is fixed k).2 a = some z ∧ (0 ≤ z → ∀ c ∈ o.getD z.toNat [], ok c = true → c ∈ M) := fun a ha => q2.held a ha (fun hh => by cases hh)
     let own : Pl → Nat := fun a => ((ofL (giveK o ok is fixed k).2 a).getD 0).toNat
     let D := M.filter fun a => decide (0 ≤ (ofL (giveK o ok is fixed k).2 a).getD 0)
     have hD : ∀ a ∈ D, a ∈ M ∧ ofL (giveK o ok is fixed k).2 a = some ((own a : Nat) : Int) := fun a ha => by
      obtain ⟨d1, d2⟩ := List.mem_filter.1 ha
      obtain ⟨z, hz, _⟩ := hheld a d1
      refine ⟨d1, ?_⟩
      show _ = some ((((ofL (giveK o ok is fixed k).2 a).getD 0).toNat : Nat) : Int)
      rw [hz] at d2 ⊢
      simp only [Option.getD_some, decide_eq_true_eq] at d2 ⊢
      rw [Int.toNat_of_nonneg d2]
     have hin : ∀ c ∈ M, c ∉ fixed → c ∈ D := fun c hc hcf => by
      obtain ⟨z, hz, _⟩ := hheld c hc
      refine List.mem_filter.2 ⟨hc, ?_⟩
      rw [hz]
      simp only [Option.getD_some, decide_eq_true_eq]
      by_cases h0 : z < 0
      ·exact absurd (h.neg c z h0 hz) hcf
      omega
     refine ⟨k :: D.map own, D, List.nodup_cons.2 ⟨fun hm => ?_, ?_⟩, fun j hj => ?_, fun j hj c hc hok hcf => ?_, by rw [List.length_cons, List.length_map]; omega⟩
     ·obtain ⟨a, ha, e⟩ := List.mem_map.1 hm
      have := (hD a ha).2
      rw [e] at this
      exact hno a this
     ·have hDn : D.Nodup := p1.filter _
      have key : ∀ E : List Pl, E.Nodup → (∀ a ∈ E, a ∈ D) → (E.map own).Nodup := by
       intro E
       induction E with
       | nil => intro _ _; exact List.nodup_nil
       | cons a E ihE =>
        intro hn hs
        obtain ⟨n1, n2⟩ := List.nodup_cons.1 hn
        rw [List.map_cons, List.nodup_cons]
        refine ⟨fun hm => ?_, ihE n2 fun b hb => hs b (List.mem_cons_of_mem _ hb)⟩
        obtain ⟨b, hb, e⟩ := List.mem_map.1 hm
        have ha2 := (hD a (hs a List.mem_cons_self)).2
        have hb2 := (hD b (hs b (List.mem_cons_of_mem _ hb))).2
        rw [e] at hb2
        have := h.given.inj a b _ ha2 hb2
        rw [this] at n1
        exact n1 hb
      exact key D hDn fun a ha => ha
     ·rcases List.mem_cons.1 hj with e | hj
      ·rw [e]; exact ⟨by omega, hk⟩
      obtain ⟨a, ha, e⟩ := List.mem_map.1 hj
      have := (h.owns j).1 ⟨a, by rw [← e]; exact (hD a ha).2⟩
      exact ⟨by omega, this.2⟩
     rcases List.mem_cons.1 hj with e | hj
     ·rw [e] at hc
      exact hin c (q2.all c hc hok) hcf
     obtain ⟨a, ha, e⟩ := List.mem_map.1 hj
     obtain ⟨d1, d2⟩ := hD a ha
     obtain ⟨z, hz, hz2⟩ := hheld a d1
     rw [d2] at hz
     injection hz with hz
     refine hin c (hz2 (by omega) c ?_ hok) hcf
     rw [← hz, Int.toNat_natCast, e]
     exact hc
   refine .inr ⟨?_, S, D, h2, fun j hj => ⟨by have := (h3 j hj).1; omega, (h3 j hj).2⟩, h4, h5⟩
   split
   ·dsimp only; omega
   dsimp only; omega
  rw [if_neg hk, if_neg hk, Nat.add_zero]
  rcases ih with h | ⟨h1, S, D, h2, h3, h4, h5⟩
  ·refine .inl ⟨by rw [h.many, countK_succ, if_neg hk, Nat.add_zero], h.given, fun j => ?_, h.neg, h.held⟩
   rw [h.owns j]
   constructor
   ·intro hh; exact ⟨by omega, hh.2⟩
   intro hh
   refine ⟨?_, hh.2⟩
   rcases Nat.lt_or_eq_of_le (Nat.le_of_lt_succ hh.1) with h1 | h1
   ·exact h1
   rw [h1] at hh; exact absurd hh.2 hk
  exact .inr ⟨h1, S, D, h2, fun j hj => ⟨by have := (h3 j hj).1; omega, (h3 j hj).2⟩, h4, h5⟩
theorem give_iff {o : List (List Pl)} {ok : Pl → Bool} {is : Nat → Bool} {fixed : List Pl} {univ : List Pl} {L : Nat} (hu : ∀ j, (o.getD j []).length ≤ L ∧ ∀ a ∈ o.getD j [], a ∈ univ) (hF : L + univ.length * (L + 1) ≤ seekF) : giveR o ok is fixed = countK is o.length ↔ ¬ LackP o ok is fixed o.length := by
 unfold giveR
 rcases give_step (ok := ok) (is := is) (fixed := fixed) hu hF o.length with h | ⟨h1, h2⟩
 ·refine ⟨fun _ ⟨S, D, h2, h3, h4, h5⟩ => ?_, fun _ => h.many⟩
  have hex : ∀ j : Nat, ∃ a : Pl, j ∈ S → ofL (giveK o ok is fixed o.length).2 a = some (j : Int) := fun j => by
   by_cases hj : j ∈ S
   ·obtain ⟨a, ha⟩ := (h.owns j).2 (h3 j hj)
    exact ⟨a, fun _ => ha⟩
   exact ⟨(0, 0), fun h => absurd h hj⟩
  obtain ⟨F, hF'⟩ := Classical.axiomOfChoice hex
  have hn : (S.map F).Nodup := by
   have key : ∀ E : List Nat, E.Nodup → (∀ j ∈ E, j ∈ S) → (E.map F).Nodup := by
    intro E
    induction E with
    | nil => intro _ _; exact List.nodup_nil
    | cons a E ihE =>
     intro hn hs
     obtain ⟨n1, n2⟩ := List.nodup_cons.1 hn
     rw [List.map_cons, List.nodup_cons]
     refine ⟨fun hm => ?_, ihE n2 fun b hb => hs b (List.mem_cons_of_mem _ hb)⟩
     obtain ⟨b, hb, e⟩ := List.mem_map.1 hm
     have ha2 := hF' a (hs a List.mem_cons_self)
     have hb2 := hF' b (hs b (List.mem_cons_of_mem _ hb))
     rw [e, ha2] at hb2
     injection hb2 with hb2
     have : a = b := by omega
     rw [this] at n1
     exact n1 hb
   exact key S h2 fun j hj => hj
  have := nodup_le (S.map F) D hn (fun a ha => by
   obtain ⟨j, hj, e⟩ := List.mem_map.1 ha
   have hf := hF' j hj
   obtain ⟨g1, g2⟩ := h.given.good _ j hf
   rw [← e]
   refine h4 j hj _ g1 g2 fun hfx => ?_
   have := h.held _ hfx
   rw [hf] at this
   injection this with this
   omega)
  rw [List.length_map] at this
  omega
 exact ⟨fun h3 => absurd h3 (by omega), fun h3 => absurd h2 h3⟩
open Go.RowKit Go.Shelf
def fixF (l : List Pl) (a : Pl) : Option Int := if a ∈ l then some (-1) else none
theorem fixF_ofL (l : List Pl) (a : Pl) : ofL (l.map fun a => (a, (-1 : Int))) a = fixF l a := by
 induction l with
 | nil => rfl
 | cons b l ih =>
  rw [List.map_cons, ofL_cons, ih]
  unfold fixF
  by_cases h : b = a
  ·rw [if_pos h, if_pos (by rw [h]; exact List.mem_cons_self)]
  rw [if_neg h]
  by_cases h2 : a ∈ l
  ·rw [if_pos h2, if_pos (List.mem_cons_of_mem _ h2)]
  rw [if_neg h2, if_neg (fun h3 => by rcases List.mem_cons.1 h3 with h3 | h3; exact h h3.symm; exact h2 h3)]
theorem fixF_fok {fixed : List Pl} {N : Nat} (a : Pl) (j : Int) (h : ofL (fixed.map fun a => (a, (-1 : Int))) a = some j) : j < (N : Int) ∧ -1 ≤ j := by
 rw [fixF_ofL, fixF] at h
 split at h
 ·injection h with h; omega
 cases h
theorem fixF_snoc (l : List Pl) (b y : Pl) : (if b = y then some (-1) else fixF l y) = fixF (l ++ [b]) y := by
 unfold fixF
 by_cases h : b = y
 ·rw [if_pos h, if_pos (by simp [h])]
 rw [if_neg h]
 by_cases h2 : y ∈ l
 ·rw [if_pos h2, if_pos (by simp [h2])]
 rw [if_neg h2, if_neg (by simp [h2]; exact fun e => h e.symm)]
structure GiveI (o : List (List Pl)) (ok : Pl → Bool) (is : Nat → Bool) (fixed : List Pl) (gm : Nat) (univ : List Pl) (w : World) (k n1 : Nat) (wr : World) : Prop where
 kept : Kept (fun j => j = gm) w wr
 m : MapP wr gm n1 (ofL (giveK o ok is fixed k).2)
 fok : ∀ a j, ofL (giveK o ok is fixed k).2 a = some j → j < (o.length : Int) ∧ -1 ≤ j
 le : n1 ≤ 1000 + k * univ.length
 cnt : (giveK o ok is fixed k).1 ≤ k
section
variable {o : List (List Pl)} {ok : Pl → Bool} {is : Nat → Bool} {univ fixed : List Pl} {L n c q cf : Nat} {A F : Option Addr} {pc mo : Int}
set_option maxRecDepth 100000 in
set_option maxHeartbeats 4000000 in
theorem kgive_any (hu : ∀ j, (o.getD j []).length ≤ L ∧ ∀ a ∈ o.getD j [], a ∈ univ) (hpl : ∀ a ∈ univ, a.1 < 4 ∧ a.2 < 8) (hfx : ∀ a ∈ fixed, a.1 < 4 ∧ a.2 < 8) (hfl : fixed.length ≤ 1000) (hU : univ.length ≤ 1000) (hL : L ≤ 1000) (hN : o.length ≤ 6)
  (hF : ∀ i, (o.getD i []).length + univ.length * (L + 1) ≤ seekF)
  (hok : ∀ a ∈ univ, bits BinOp.and .i64 (mo / 2 ^ a.1) 1 = if ok a then 1 else 0) (his : ∀ i, i < o.length → bits BinOp.and .i64 (pc / 2 ^ i) 1 = if is i then 1 else 0)
  (w : World) (g : Ords (fun _ => True) w A n o) (gf : Pls (fun _ => True) w F q fixed) :
  Calls Tryz.prog 51 #[.slice A n c, .int .i64 pc, .int .i64 mo, .slice F q cf] w fun e w' => e = .returned (.int .i64 (giveR o ok is fixed : Nat)) ∧ Below w.heap.size w w' := by
 have HG := Lib.hid g
 have HF0 := Lib.hid (gf.bound PlR.good)
 have HG0 := Lib.hid (g.bound OrdR.good)
 have hql := gf.len
 have hq : q ≤ 1000 := by omega
 have HU := Lib.hid hu
 have HPL := Lib.hid hpl
 have HFX := Lib.hid hfx
 have HOK := Lib.hid hok
 have HIS := Lib.hid his
 have HFU := Lib.hid hF
 have HQL := Lib.hid hql
 have HNL := Lib.hid g.len
 have hn6 : n ≤ 6 := by have := g.len; omega
 clear g gf hu hpl hfx hok his hF hql
 have hmm := @run_makeMap Tryz.prog
 go_enter Tryz.func51, Tryz.ntmps51
 go_wp2_with fail
 obtain ⟨W0, hW0⟩ : ∃ W0, (((w.alloc (.cells #[.slice A n c] 113)).alloc (.cells #[.int .i64 mo] 3)).alloc (.map #[] 0)).alloc (.cells #[.map (some (w.heap.size + 1 + 1))] 151) = W0 := ⟨_, rfl⟩
 have hB0 : Below w.heap.size w W0 := by rw [← hW0]; exact bl_alloc (bl_alloc (bl_alloc (bl_alloc (Below.refl _ _) _ (Nat.le_refl _)) _ (Nat.le_refl _)) _ (Nat.le_refl _)) _ (Nat.le_refl _)
 have hO0 : Blk W0 w.heap.size 113 #[.slice A n c] := by rw [← hW0]; exact (((Blk.new _ _ _ rfl).alloc _).alloc _).alloc _
 have hMo0 : Blk W0 (w.heap.size + 1) 3 #[.int .i64 mo] := by rw [← hW0]; exact ((Blk.new _ _ _ (by simp)).alloc _).alloc _
 have hOf0 : Blk W0 (w.heap.size + 1 + 1 + 1) 151 #[.map (some (w.heap.size + 1 + 1))] := by rw [← hW0]; exact Blk.new _ _ _ (by simp)
 have hM0 : MapP W0 (w.heap.size + 1 + 1) 0 (fun _ => none) := by
  rw [← hW0]
  have h1 := MapG.new (P := Tryz.prog) (k := 37) (e := 3) (key := kvP) ((w.alloc (.cells #[.slice A n c] 113)).alloc (.cells #[.int .i64 mo] 3))
  have h2 := h1.at (w' := (((w.alloc (.cells #[.slice A n c] 113)).alloc (.cells #[.int .i64 mo] 3)).alloc (.map #[] 0)).alloc (.cells #[.map (some (w.heap.size + 1 + 1))] 151)) (Below.heap_alloc _ _ _ h1.lt)
  simpa using h2
 have hs0 : w.heap.size + 4 ≤ W0.heap.size := by rw [← hW0]; simp
 obtain ⟨go, hgo⟩ : ∃ b1, w.heap.size = b1 := ⟨_, rfl⟩
 obtain ⟨gmo, hgmo⟩ : ∃ b1, go + 1 = b1 := ⟨_, rfl⟩
 obtain ⟨gm, hgm⟩ : ∃ b1, gmo + 1 = b1 := ⟨_, rfl⟩
 obtain ⟨gof, hgof⟩ : ∃ b1, gm + 1 = b1 := ⟨_, rfl⟩
 rw [hW0]
 rw [hgo, hgmo, hgm, hgof]
 rw [hgo, hgmo, hgm] at hM0
 rw [hgo, hgmo, hgm, hgof] at hOf0
 rw [hgo, hgmo] at hMo0
 rw [hgo] at hO0
 have h1 : go < gmo ∧ gmo < gm ∧ gm < gof ∧ gof < W0.heap.size ∧ w.heap.size ≤ go ∧ go ≤ w.heap.size := by omega
 clear hW0 hgo hgmo hgm hgof hmm
 have HF : Hid (Pls (fun k => k < go) W0 F q fixed) := (HF0.out.keep PlR.good (Keeps.below hB0)).mono PlR.good (fun k h => by have := h.2; omega)
 have HGO : Hid (Ords (fun k => k < go) W0 A n o) := (HG0.out.keep OrdR.good (Keeps.below hB0)).mono OrdR.good (fun k h => by have := h.2; omega)
 have HO0 := Lib.hid hO0
 have HMO0 := Lib.hid hMo0
 have HOF0 := Lib.hid hOf0
 have HM0 := Lib.hid hM0
 clear hO0 hMo0 hOf0 hM0 HF0 HG0
 go_loopw [11, 17] (fun _ i' wr => ∃ p : Nat, i' = .int .i64 p ∧ p ≤ q ∧ Hid (Kept (fun j => j = gm) W0 wr) ∧ Hid (MapP wr gm p (fixF (fixed.take p)))) (fun _ i' _ => q - (intOf i').toNat)
 case atStart => exact ⟨0, rfl, Nat.zero_le _, Kept.refl _ _, by rw [Hid, List.take_zero]; exact HM0.out.congr (fun y => by unfold fixF; rw [if_neg (by simp)])⟩
 case round =>
  obtain ⟨p, rfl, hp, HK, HM⟩ := hrel
  by_cases hlt : p < q
  ·have hpi : (p : Int) < q := by omega
   obtain ⟨b2, off2, am, ac, rfl, hb2, hd0, hd1, Hat⟩ := Pls.get (HF.out.keep PlR.good (HK.out.keeps fun j hj hm => by omega)) hlt
   have hTS : Hid (fixed.take (p + 1) = fixed.take p ++ [(am, ac)]) := take_snoc_get Hat.out
   obtain ⟨ham, hac⟩ := HFX.out _ (List.mem_of_getElem? Hat.out)
   dsimp only at ham hac
   obtain ⟨V, hV⟩ : ∃ V, wr.alloc (.cells #[.int .i64 (am : Int), .int .i64 (ac : Int)] 37) = V := ⟨_, rfl⟩
   obtain ⟨g9, hg9⟩ : ∃ g, wr.heap.size = g := ⟨_, rfl⟩
   have hbV : Below wr.heap.size wr V := by rw [← hV]; exact bl_alloc (Below.refl _ _) _ (Nat.le_refl _)
   have KV : Hid (Kept (fun j => j = gm) W0 V) := HK.out.trans (Kept.of_bl hbV)
   have hM9 : Blk V g9 37 #[.int .i64 (am : Int), .int .i64 (ac : Int)] := by rw [← hV, ← hg9]; exact Blk.new _ _ _ rfl
   have k0 := hM9.cell 0
   have k1 := hM9.cell 1
   have kl := hM9.lt
   have hOf := (KV.out.block _ HOF0.out.lt (by omega)).trans HOF0.out
   have of0 := Blk.cell hOf 0
   have ofl := Blk.lt hOf
   obtain ⟨W3, hput, hN5, hg5⟩ := (HM.out.at (hbV.block _ HM.out.lt)).put kvP_inj keyP_law Tryz.underlying3 Tryz.underlying151 (by omega) (am, ac) (keyP_ok (am, ac) (by dsimp only; omega) (by dsimp only; omega)) (-1) (wf_i64 (by omega) (by omega))
   simp only [kvP] at hput
   have HG5 := Lib.hid hg5
   have HN5 := Lib.hid hN5
   clear hN5 hg5 hbV hM9 hOf
   go_wp2_with fail
   go_roundw
   case rel => exact ⟨p + 1, by go_num, by omega, KV.out.trans (Kept.grown HG5.out (fun j hj => by injection hj with hj; exact hj.symm)), by rw [Hid, hTS.out]; exact HN5.out.congr (fun y => fixF_snoc _ _ _)⟩
   case measure => simp [intOf]; omega
  obtain rfl : p = q := by omega
  have hpi : ¬ (p : Int) < p := by omega
  have hTA : fixed.take p = fixed := List.take_of_length_le (by have := HQL.out; omega)
  rw [hTA] at HM
  clear hTA
  have hsw := HK.out.size
  obtain ⟨W5, hW5⟩ : ∃ W5, wr.alloc (.cells #[.func (.func 83) #[] #[.pointer (some ⟨go, 0, none⟩), .pointer (some ⟨gmo, 0, none⟩), .pointer (some ⟨gof, 0, none⟩), .pointer (some ⟨wr.heap.size, 0, none⟩)]] 152) = W5 := ⟨_, rfl⟩
  have hb5 : Below wr.heap.size wr W5 := by rw [← hW5]; exact bl_alloc (Below.refl _ _) _ (Nat.le_refl _)
  have K5 : Hid (Kept (fun j => j = gm) W0 W5) := HK.out.trans (Kept.of_bl hb5)
  have M5 : Hid (MapP W5 gm p (fixF fixed)) := HM.out.at (hb5.block _ HM.out.lt)
  have hSk : Blk W5 wr.heap.size 152 #[.func (.func 83) #[] #[.pointer (some ⟨go, 0, none⟩), .pointer (some ⟨gmo, 0, none⟩), .pointer (some ⟨gof, 0, none⟩), .pointer (some ⟨wr.heap.size, 0, none⟩)]] := by rw [← hW5]; exact Blk.new _ _ _ rfl
  have hO5 : Blk W5 go 113 #[.slice A n c] := (K5.out.block _ HO0.out.lt (by omega)).trans HO0.out
  have o5 : W5.cell? ⟨go, 0, none⟩ = some (.slice A n c) := hO5.cell 0
  have hs5 : wr.heap.size < W5.heap.size := hSk.lt
  have HSK := Lib.hid hSk
  clear hSk hb5 hO5
  go_wp2_with fail
  obtain ⟨gsk, hgsk⟩ : ∃ b1, wr.heap.size = b1 := ⟨_, rfl⟩
  rw [hgsk]
  have hsk1 : gof < gsk ∧ gsk < W5.heap.size := by omega
  have HB5 : Hid (GBox W5 go gmo gof gsk gm o mo (fun k => k < go) A n c) := by
   rw [hgsk] at HSK
   exact ⟨(K5.out.block _ HO0.out.lt (by omega)).trans HO0.out, HGO.out.keep OrdR.good (K5.out.keeps fun j hj hm => by omega), (K5.out.block _ HMO0.out.lt (by omega)).trans HMO0.out, (K5.out.block _ HOF0.out.lt (by omega)).trans HOF0.out, HSK.out⟩
  clear hW5 HSK hgsk HK HM hs5 hsw
  go_loopw [8, 13, 27] (fun many _ i' wr => ∃ k n1 : Nat, i' = .int .i64 k ∧ k ≤ n ∧ many = .int .i64 ((giveK o ok is fixed k).1 : Nat) ∧ Hid (GiveI o ok is fixed gm univ W5 k n1 wr)) (fun _ _ i' _ => n - (intOf i').toNat)
  case atStart => exact ⟨0, p, rfl, Nat.zero_le _, rfl, ⟨Kept.refl _ _, M5.out.congr (fun y => (fixF_ofL _ _).symm), fixF_fok, by omega, Nat.le_refl _⟩⟩
  case round =>
   obtain ⟨k, n1, rfl, hk, rfl, HI⟩ := hrel
   obtain ⟨mn, hmn⟩ : ∃ mn, (giveK o ok is fixed k).1 = mn := ⟨_, rfl⟩
   have hmn6 : mn ≤ 6 := by rw [← hmn]; exact Nat.le_trans HI.out.cnt (by omega)
   rw [hmn]
   have HMN := Lib.hid hmn
   clear hmn
   by_cases hlt2 : k < n
   ·have hki : (k : Int) < n := by omega
    have hk64 : (k : Int) < 64 := by omega
    have hko : k < o.length := by rw [HNL.out]; exact hlt2
    have hbit := HIS.out k hko
    have HST := Lib.hid (giveK_succ o ok is fixed k)
    cases hi : is k with
    | false =>
     rw [hi, if_neg (by decide)] at hbit
     have HN : Hid (giveK o ok is fixed (k + 1) = giveK o ok is fixed k) := by rw [Hid, HST.out, hi, if_neg (by decide)]
     clear hi
     go_wp2_with fail
     go_roundw
     case rel => exact ⟨k + 1, n1, by go_num, by omega, by rw [HN.out, HMN.out], ⟨HI.out.kept, by rw [HN.out]; exact HI.out.m, by rw [HN.out]; exact HI.out.fok, by have := HI.out.le; rw [Nat.succ_mul]; omega, by rw [HN.out]; have := HI.out.cnt; omega⟩⟩
     case measure => simp [intOf]; omega
    | true =>
     rw [hi, if_pos rfl] at hbit
     have HI2 := Lib.hid hi
     clear hi
     have hBr : GBox wr go gmo gof gsk gm o mo (fun k => k < go) A n c := HB5.out.kept HI.out.kept (fun j hj => by subst hj; exact ⟨by omega, by omega, by omega, by omega, fun h => by omega⟩)
     have sk0 := hBr.sk.cell 0
     have skl := hBr.sk.lt
     have HBR := Lib.hid hBr
     have hmm := @run_makeMap Tryz.prog
     clear hBr
     go_wp2_with fail
     clear hmm
     obtain ⟨V, hV⟩ : ∃ V, wr.alloc (.map #[] 0) = V := ⟨_, rfl⟩
     obtain ⟨gmet, hgmet⟩ : ∃ g, wr.heap.size = g := ⟨_, rfl⟩
     have hbV : Below wr.heap.size wr V := by rw [← hV]; exact bl_alloc (Below.refl _ _) _ (Nat.le_refl _)
     have hw5 := HI.out.kept.size
     have hgv : gmet < V.heap.size := by rw [← hV, ← hgmet]; simp
     have hgm2 : W5.heap.size ≤ gmet := by omega
     have HBV : Hid (GBox V go gmo gof gsk gm o mo (fun k => k < go) A n c) := HBR.out.kept (M := fun _ => False) (Kept.of_bl hbV) (fun j hj => hj.elim)
     have hMM : MapP V gmet 0 (metF []) := by
      rw [← hV, ← hgmet]
      exact (MapG.new (P := Tryz.prog) (k := 37) (e := 3) (key := kvP) wr).congr (fun y => by unfold metF; rw [if_neg (by simp)])
     have HSS : SeekS gm gmet univ o.length V n1 (giveK o ok is fixed k).2 [] := ⟨HI.out.m.at (hbV.block _ HI.out.m.lt), hMM, List.nodup_nil, (fun y hy => by cases hy), HI.out.fok⟩
     rw [hV, hgmet]
     have hku : n1 + univ.length ≤ 1000000 := by
      have := HI.out.le
      have h2 : k * univ.length ≤ 6 * 1000 := Nat.mul_le_mul (by omega) hU
      omega
     refine (seek_any (L := L) HU.out HPL.out hU hL hN HOK.out ⟨by omega, by omega, by omega, by omega, by omega⟩ ⟨by omega, by omega, by omega, by omega, by omega⟩ (by omega) (univ.length + 1) seekF k _ [] n1 V (by simp) HBV.out HSS hko (by simpa using HFU.out k) (by simpa using hku)).mono ?_
     obtain ⟨R, hR⟩ : ∃ R, seekL o ok seekF (o.getD k []) k (giveK o ok is fixed k).2 [] = R := ⟨_, rfl⟩
     rw [hR]
     have HR := Lib.hid hR
     obtain ⟨rb, fr, mr⟩ := R
     rintro e W4 ⟨he, hk5, n1', l1, l2, hS4⟩
     dsimp only at he l1 l2 hS4
     subst he
     have HKW : Hid (Kept (fun j => j = gm) W5 W4) := by
      refine (HI.out.kept.trans (Kept.of_bl hbV)).seq hk5 (fun j hj hm => ?_)
      rcases hm with hm | hm
      ·exact hm
      omega
     have hn1' : n1' ≤ n1 + univ.length := by
      have := nodup_le mr univ hS4.nd hS4.sub
      simp at l1
      omega
     have HN1 := Lib.hid hn1'
     have HS4 := Lib.hid hS4
     clear hV hgmet hbV hMM HSS hR hk5 l1 l2 hS4 sk0 skl hn1' HBR
     cases rb with
     | false =>
      have HN : Hid (giveK o ok is fixed (k + 1) = (mn, fr)) := by rw [Hid, HST.out, HI2.out, if_pos rfl, HR.out, HMN.out]; rfl
      go_wp2_with fail
      go_roundw
      case rel => exact ⟨k + 1, n1', by go_num, by omega, by rw [HN.out], ⟨HKW.out, by rw [HN.out]; exact HS4.out.m1, by rw [HN.out]; exact HS4.out.fok, by have := HI.out.le; have := HN1.out; rw [Nat.succ_mul]; omega, by rw [HN.out]; have := HI.out.cnt; rw [HMN.out] at this; dsimp only; omega⟩⟩
      case measure => simp [intOf]; omega
     | true =>
      have HN : Hid (giveK o ok is fixed (k + 1) = (mn + 1, fr)) := by rw [Hid, HST.out, HI2.out, if_pos rfl, HR.out, HMN.out]; rfl
      have hwm : IntKind.i64.wrap ((mn : Int) + 1) = mn + 1 := by rw [IntKind.wrap_i64]; omega
      go_wp2_with fail
      go_roundw
      case rel => exact ⟨k + 1, n1', by go_num, by omega, by rw [HN.out]; simp, ⟨HKW.out, by rw [HN.out]; exact HS4.out.m1, by rw [HN.out]; exact HS4.out.fok, by have := HI.out.le; have := HN1.out; rw [Nat.succ_mul]; omega, by rw [HN.out]; have := HI.out.cnt; rw [HMN.out] at this; dsimp only; omega⟩⟩
      case measure => simp [intOf]; omega
   obtain rfl : k = n := by omega
   have hki : ¬ (k : Int) < k := by omega
   go_wp2_with fail
   go_ret
   have hEnd : giveR o ok is fixed = mn := by rw [giveR, HNL.out, HMN.out]
   rw [hEnd]
   refine ⟨rfl, ?_⟩
   exact hB0.trans ((K5.out.trans HI.out.kept).below hB0.size (fun j hj => by omega))
end
end Go.Proofs.YtdbfincinjoppabGreatDoor
