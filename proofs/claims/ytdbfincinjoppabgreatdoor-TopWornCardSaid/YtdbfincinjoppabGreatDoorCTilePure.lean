/- A part of the proof that TopWorn always answers true. -/
import Derived.Maps.OwnSet
import Derived.Maps.RangeWalk
import Derived.WideKeyEntry
import Derived.Test.YtdbfincinjoppabGreatDoorCRegion
import Derived.Test.YtdbfincinjoppabGreatDoorCRegion2
set_option linter.all false
namespace Go.Proofs.YtdbfincinjoppabGreatDoor
def firstErr (f : Nat → Int) : Nat → Option (Nat × Int)
 | 0 => none
 | n + 1 => match firstErr f n with
  | some r => some r
  | none => if f n = 0 then none else some (n, f n)
theorem firstErr_none {f : Nat → Int} {n : Nat} (h : ∀ k, k < n → f k = 0) : firstErr f n = none := by
 induction n with
 | zero => rfl
 | succ n ih => simp [firstErr, ih (fun k hk => h k (by omega)), h n (by omega)]
theorem firstErr_some {f : Nat → Int} {n k : Nat} (hk : k < n) (h : ∀ j, j < k → f j = 0) (he : f k ≠ 0) : firstErr f n = some (k, f k) := by
 induction n with
 | zero => omega
 | succ n ih =>
  by_cases hkn : k = n
  ·subst hkn
   simp [firstErr, firstErr_none h, he]
  simp [firstErr, ih (by omega)]
theorem firstErr_cases (f : Nat → Int) (n : Nat) : (firstErr f n = none ∧ ∀ k, k < n → f k = 0) ∨ ∃ k, k < n ∧ firstErr f n = some (k, f k) ∧ f k ≠ 0 ∧ ∀ j, j < k → f j = 0 := by
 induction n with
 | zero => exact .inl ⟨rfl, fun k h => by omega⟩
 | succ n ih =>
  rcases ih with ⟨h, ha⟩ | ⟨k, hk, h, he, hj⟩
  ·by_cases he : f n = 0
   ·exact .inl ⟨by simp [firstErr, h, he], fun k hk => by rcases Nat.lt_or_eq_of_le (Nat.le_of_lt_succ hk) with h1 | h1; exact ha k h1; rw [h1]; exact he⟩
   exact .inr ⟨n, by omega, by simp [firstErr, h, he], he, ha⟩
  exact .inr ⟨k, by omega, by simp [firstErr, h], he, hj⟩
theorem upto_succ {f : Nat → Int} {k : Nat} (h : ∀ j, j < k → f j = 0) (hk : f k = 0) : ∀ j, j < k + 1 → f j = 0 := by
 intro j hj
 rcases Nat.lt_or_eq_of_le (Nat.le_of_lt_succ hj) with h1 | h1
 ·exact h j h1
 rw [h1]; exact hk
theorem getD_of {α : Type} {l : List α} {k : Nat} {x d : α} (h : l[k]? = some x) : l.getD k d = x := by rw [List.getD_eq_getElem?_getD, h]; rfl
def ends (lo hi : Int) : List Int → Int × Int
 | [] => (lo, hi)
 | x :: l => ends (min lo x) (max hi x) l
def endsOf : List Int → Int × Int
 | [] => (0, 0)
 | x :: l => ends x x l
theorem ends_snoc (l : List Int) (x : Int) : ∀ lo hi, ends lo hi (l ++ [x]) = (min (ends lo hi l).1 x, max (ends lo hi l).2 x) := by
 induction l with
 | nil => intro lo hi; rfl
 | cons y l ih => intro lo hi; exact ih _ _
theorem endsOf_snoc {l : List Int} (h : l ≠ []) (x : Int) : endsOf (l ++ [x]) = (min (endsOf l).1 x, max (endsOf l).2 x) := by
 cases l with
 | nil => exact absurd rfl h
 | cons y l => exact ends_snoc l x y y
theorem endsOf_one (x : Int) : endsOf [x] = (x, x) := rfl
open Go.RowKit Go.Maps Go.ChangeShapes Go.WideShapes Go.MapKept
open Go.WideMaps (KeyLaw)
open Go.ChangeMaps (setBlock heap_setBlock_same heap_setBlock_other)
theorem ownsMap_at {P : Program} {k : TypeId} {R : Value → Option (DataW Unit × List MemPlace)} {w w' : World} {b n : Nat} {D : DataW Unit} (h : w.ownsMap P k R b n D) (hb : w'.heap[b]? = w.heap[b]?) : w'.ownsMap P k R b n D := by
 obtain ⟨es, clock, h1, F, h2, h3⟩ := h
 exact ⟨es, clock, hb.trans h1, F, h2, h3⟩
theorem entry_own {P : Program} {w : World} {t k e : TypeId} {q : IntKind} {b n : Nat} {D : DataW Unit} (K : KeyLaw P k) (ht : P.underlying t = some (.map k e)) (he : P.underlying e = some (.int q))
  (hz : ∀ u : World, (zeroValue e).run P u = .ok (.int q 0) u) (h : w.ownsMap P k (plainElem P e) b n D) (hn : n < maxLen) {key : Value} {kl : Lit} (hkey : keyOf P k key = some kl) :
  ∃ (c : Int) (st : Nat) (es1 : Array MapEntry) (clock1 : Nat), D.atKey kl (.lit (.int q 0)) = .lit (.int q c) ∧ (Lit.int q c).wf = true ∧
   (∀ w2 : World, (w2.heap[b]? = w.heap[b]? ∨ w2.heap[b]? = some (.map es1 clock1)) → (Instr.mapEntry t (.map (some b)) key).run P w2 = .ok (.tuple #[.int q c, goInt st]) (setBlock w2 b (.map es1 clock1))) ∧
   (∀ w2 : World, (w2.heap[b]? = w.heap[b]? ∨ w2.heap[b]? = some (.map es1 clock1)) → (Instr.lookup t (.map (some b)) key false).run P w2 = .ok (.int q c) w2) ∧
   (∀ (w2 : World) (a : Int), w2.heap[b]? = some (.map es1 clock1) → (Lit.int q a).wf = true → ∃ w3, (Instr.entryStore t (.map (some b)) (goInt st) (.int q a)).run P w2 = .ok () w3 ∧
    w3.ownsMap P k (plainElem P e) b (n + 1) (D.put kl (.lit (.int q a))) ∧ w2.grownBy w3 (some b)) := by
 have KK := Keyed.of_law K
 have hw0 : (Lit.int q 0).wf = true := by cases q <;> decide
 have hstore : ∀ (es1 : Array MapEntry) (clock1 st : Nat), (∀ (w2 : World) (val : Value), w2.heap[b]? = some (.map es1 clock1) → ∃ es' clock', (Instr.entryStore t (.map (some b)) (goInt st) val).run P w2 = .ok () (setBlock w2 b (.map es' clock')) ∧
    (Instr.mapUpdate t (.map (some b)) key val).run P w = .ok () (setBlock w b (.map es' clock'))) → (∀ (w2 : World) (a : Int), w2.heap[b]? = some (.map es1 clock1) → (Lit.int q a).wf = true → ∃ w3, (Instr.entryStore t (.map (some b)) (goInt st) (.int q a)).run P w2 = .ok () w3 ∧
    w3.ownsMap P k (plainElem P e) b (n + 1) (D.put kl (.lit (.int q a))) ∧ w2.grownBy w3 (some b)) := by
  intro es1 clock1 st h3 w2 a hw2 ha
  obtain ⟨es', clock', r1, r2⟩ := h3 w2 (.int q a) hw2
  obtain ⟨w', r3, h4, _⟩ := h.update KK ht hn hkey (plainElem_int he ha)
  rw [r2] at r3
  injection r3 with r3 r4
  subst r4
  have hblt := h.lt
  obtain ⟨es0, clock0, hb0, _⟩ := h
  refine ⟨_, r1, ownsMap_at h4 ?_, ⟨rfl, rfl, rfl, by simp [setBlock], fun i _ hi => heap_setBlock_other hw2 _ (fun e => hi (by rw [e]))⟩⟩
  rw [heap_setBlock_same hw2, heap_setBlock_same hb0]
 obtain ⟨es, clock, hb, F, hs, rfl⟩ := id h
 have hlook : ∀ (es1 : Array MapEntry) (clock1 : Nat) (c : Int), WideElems.Fit P k (plainElem (H := Unit) P e) es1 clock1 → (DataW.map ((es1.toList.map (WideElems.rg P k (plainElem (H := Unit) P e))).foldr DataW.insert [])).atKey kl (.lit (.int q 0)) = .lit (.int q c) →
   ∀ w2 : World, w2.heap[b]? = some (.map es1 clock1) → (Instr.lookup t (.map (some b)) key false).run P w2 = .ok (.int q c) w2 := by
  intro es1 clock1 c F1 hat w2 hw2
  rcases Maps.fit_look (w := w2) false KK ht (hz w2) hw2 F1 hkey with ⟨hrun, _, hat'⟩ | ⟨e0, y, _, _, hrun, hRv, hat', _⟩
  ·rw [hat'] at hat
   injection hat with hat
   injection hat with _ hat
   rw [hrun, ← hat]; rfl
  obtain ⟨a, hv, hy, _⟩ := plainElem_int_inv he hRv
  rw [hat', hy] at hat
  injection hat with hat
  injection hat with _ hat
  rw [hrun, hv, ← hat]; rfl
 obtain ⟨s1, s2, _⟩ := F.stamped
 rcases K.find w hkey es.toList F.keys with ⟨h1, h2⟩ | ⟨j, e0, h1, h2, h3⟩
 ·have hat0 : (DataW.map ((es.toList.map (WideElems.rg P k (plainElem (H := Unit) P e))).foldr DataW.insert [])).atKey kl (.lit (.int q 0)) = .lit (.int q 0) := by
   rcases Maps.fit_look false KK ht (hz w) hb F hkey with ⟨_, _, hat'⟩ | ⟨e0, y, hm, hk', _⟩
   ·exact hat' _
   exact absurd hk' (h2 e0 hm)
  have hupd : (Instr.mapUpdate t (.map (some b)) key (.int q 0)).run P w = .ok () (setBlock w b (.map (es.push ⟨key, .int q 0, clock⟩) (clock + 1))) := by
   simp [Instr.mapUpdate, run_underlying ht, MapKept.run_getObj_map hb, K.check w false hkey, h1, MapKept.run_setObj_map _ hb, Result.andThen, setBlock]
  obtain ⟨es1, clock1, r1, F1, hput, _⟩ := Maps.fit_store (R' := plainElem (H := Unit) P e) KK ht hb F (Nat.lt_of_le_of_lt hs hn) (fun _ _ _ _ hz => hz) hkey (plainElem_int he hw0)
  rw [hupd] at r1
  injection r1 with _ r1
  have r2 := congrArg (fun W : World => W.heap[b]?) r1
  simp only [heap_setBlock_same hb, Option.some.injEq, Obj.map.injEq] at r2
  obtain ⟨rfl, rfl⟩ := r2
  refine ⟨0, clock, es.push ⟨key, .int q 0, clock⟩, clock + 1, hat0, hw0, fun w2 hw2 => ?_, fun w2 hw2 => ?_, hstore _ _ _ fun w2 val hw2 => ⟨es.push ⟨key, val, clock⟩, clock + 1, ?_, ?_⟩⟩
  ·rcases hw2 with hw2 | hw2
   case inr =>
    have hk1 : ∀ x ∈ (es.push ⟨key, .int q 0, clock⟩).toList, ∃ l, keyOf P k x.key = some l := fun x hx => by
     simp only [Array.toList_push, List.mem_append, List.mem_singleton] at hx
     rcases hx with hx | rfl
     ·exact F.keys x hx
     exact ⟨_, hkey⟩
    rcases K.find w2 hkey _ hk1 with ⟨_, g2⟩ | ⟨j, e', g1, g2, g3⟩
    ·exact absurd rfl (g2 ⟨key, .int q 0, clock⟩ (by simp))
    have hj : j = es.size ∧ e' = ⟨key, .int q 0, clock⟩ := by
     rw [Array.toList_push, List.getElem?_append] at g2
     split at g2
     ·exact absurd g3 (h2 e' (List.mem_of_getElem? g2))
     rename_i hlt
     simp at hlt
     have h0 : j - es.size = 0 := by
      refine Classical.byContradiction fun hne => ?_
      obtain ⟨d, hd⟩ : ∃ d, j - es.size = d + 1 := ⟨j - es.size - 1, by omega⟩
      simp [hd] at g2
     simp [h0] at g2
     exact ⟨by omega, g2.symm⟩
    obtain ⟨rfl, rfl⟩ := hj
    have hmod : (es.push ⟨key, .int q 0, clock⟩).modify es.size (fun e => { e with key := key }) = es.push ⟨key, .int q 0, clock⟩ := by
     apply Array.ext'
     rw [Array.toList_modify, Array.toList_push, ← Array.length_toList, WideElems.modify_last]
    rw [Array.toList_push] at g1
    simp [Instr.mapEntry, run_underlying ht, MapKept.run_getObj_map hw2, K.check w2 false hkey, g1, K.stays w2 hkey, hmod, MapKept.run_setObj_map _ hw2, Result.andThen, setBlock]
   have hb2 := hw2.trans hb
   rcases K.find w2 hkey es.toList F.keys with ⟨h1', _⟩ | ⟨j, e0, _, h2', h3'⟩
   ·simp [Instr.mapEntry, run_underlying ht, MapKept.run_getObj_map hb2, K.check w2 false hkey, h1', hz, MapKept.run_setObj_map _ hb2, Result.andThen, setBlock]
   exact absurd h3' (h2 e0 (List.mem_of_getElem? h2'))
  ·rcases hw2 with hw2 | hw2
   ·exact hlook es clock 0 F hat0 w2 (hw2.trans hb)
   refine hlook _ _ 0 F1 ?_ w2 hw2
   rw [hput]
   have := Maps.atKey_put_same (D := DataW.map ((es.toList.map (WideElems.rg P k (plainElem (H := Unit) P e))).foldr DataW.insert [])) ⟨_, rfl⟩ (KK.key hkey) (.lit (.int q 0)) (.lit (.int q 0))
   rw [DataW.put_eq] at this
   exact this
  ·have hidx : (es.push ⟨key, .int q 0, clock⟩).findIdx? (fun e => ((e.born : Nat) : Int) == ((clock : Nat) : Int)) = some es.size := by
    rw [WideElems.findIdx_arr]
    exact WideElems.findIdx_born (l := (es.push ⟨key, .int q 0, clock⟩).toList) (j := es.size) (e0 := ⟨key, .int q 0, clock⟩) (by
     simp only [Array.toList_push, List.map_append, List.map_cons, List.map_nil]
     refine List.nodup_append.2 ⟨s2, by simp, fun a ha c hc e1 => ?_⟩
     simp only [List.mem_singleton] at hc
     obtain ⟨x, hx, rfl⟩ := List.mem_map.1 ha
     have := s1 x hx
     omega) (by simp)
   have hmod : (es.push ⟨key, .int q 0, clock⟩).modify es.size (fun e => { e with val := val }) = es.push ⟨key, val, clock⟩ := by
    apply Array.ext'
    rw [Array.toList_modify, Array.toList_push, Array.toList_push, ← Array.length_toList, WideElems.modify_last]
   simp [Instr.entryStore, MapKept.run_getObj_map hw2, asInt, asIntOf, goInt, hidx, hmod, MapKept.run_setObj_map _ hw2, Result.andThen, setBlock]
  simp [Instr.mapUpdate, run_underlying ht, MapKept.run_getObj_map hb, K.check w false hkey, h1, MapKept.run_setObj_map _ hb, Result.andThen, setBlock]
 obtain ⟨c, hrun, hat, hwf⟩ := h.lookup_int KK ht he (hz w) hkey
 have hv0 : e0.val = .int q c := by
  have hb' : w.heap[b]? = some (.map es clock) := hb
  have : (Instr.lookup t (.map (some b)) key false).run P w = .ok e0.val w := by
   simp [Instr.lookup, run_underlying ht, MapKept.run_getObj_map hb, K.check w _ hkey, h1, Result.andThen]
  rw [hrun] at this
  injection this with this _
  exact this.symm
 refine ⟨c, e0.born, es, clock, hat, hwf, fun w2 hw2 => ?_, fun w2 hw2 => ?_, hstore _ _ _ ?_⟩
 ·have hb2 : w2.heap[b]? = some (.map es clock) := hw2.elim (fun h => h.trans hb) id
  have hsame : es.modify j (fun e => { e with key := key }) = es := by
   apply Array.ext'
   rw [Array.toList_modify, ChangeMaps.modify_eq_set _ _ _ _ h2]
   have : ({ e0 with key := key } : MapEntry) = e0 := by rw [← h3]
   rw [this]
   exact WideElems.set_self _ _ _ h2
  have hj : es[j]? = some e0 := by simpa using h2
  have h1' : (Instr.findKey k key es.toList).run P w2 = .ok (some (j, e0.val)) w2 := by
   rcases K.find w2 hkey es.toList F.keys with ⟨_, g2⟩ | ⟨j', e', g1, g2, g3⟩
   ·exact absurd h3 (g2 e0 (List.mem_of_getElem? h2))
   have hjj : j' = j := by
    refine Classical.byContradiction fun hne => ?_
    exact absurd g3 (by rw [← h3]; exact WideElems.other_key F h2 g2 hne)
   subst hjj
   rw [h2] at g2; cases g2
   exact g1
  simp [Instr.mapEntry, run_underlying ht, MapKept.run_getObj_map hb2, K.check w2 false hkey, h1', hj, h3, K.stays w2 hkey, hsame, MapKept.run_setObj_map _ hb2, Result.andThen, setBlock, hv0]
 ·exact hlook es clock c F hat w2 (hw2.elim (fun h => h.trans hb) id)
 intro w2 val hw2
 have hj : es[j]? = some e0 := by simpa using h2
 refine ⟨es.modify j (fun e' => { e' with key := key, val := val }), clock, ?_, ?_⟩
 ·have hidx : es.findIdx? (fun e => ((e.born : Nat) : Int) == ((e0.born : Nat) : Int)) = some j := by
   rw [WideElems.findIdx_arr]
   exact WideElems.findIdx_born s2 h2
  have hmod : es.modify j (fun e => { e with val := val }) = es.modify j (fun e' => { e' with key := key, val := val }) := by
   apply Array.ext'
   rw [Array.toList_modify, Array.toList_modify, ChangeMaps.modify_eq_set _ _ _ _ h2, ChangeMaps.modify_eq_set _ _ _ _ h2, ← h3]
  simp [Instr.entryStore, MapKept.run_getObj_map hw2, asInt, asIntOf, goInt, hidx, hmod, MapKept.run_setObj_map _ hw2, Result.andThen, setBlock]
 simp [Instr.mapUpdate, run_underlying ht, MapKept.run_getObj_map hb, K.check w false hkey, h1, hj, h3, K.stays w hkey, MapKept.run_setObj_map _ hb, Result.andThen, setBlock]
end Go.Proofs.YtdbfincinjoppabGreatDoor
