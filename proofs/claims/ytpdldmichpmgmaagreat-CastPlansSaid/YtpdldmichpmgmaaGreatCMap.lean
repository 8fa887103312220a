/- Maps of numbers: an entry that is made, read, and written by its stamp. Nothing of a program stands here. -/
import Derived.Maps.OwnSet
import Derived.Maps.RangeWalk
import Derived.WideKeyEntry
import Derived.Test.YtpdldmichpmgmaaGreatCRange
set_option linter.unusedVariables false
set_option linter.unusedSimpArgs false
set_option linter.all false
namespace Go.Proofs.YtpdldmichpmgmaaGreat
open Go.RowKit Go.Maps Go.ChangeShapes Go.WideShapes Go.MapKept
open Go.WideMaps (KeyLaw)
open Go.ChangeMaps (setBlock heap_setBlock_same heap_setBlock_other)

theorem ownsMap_at {P : Program} {k : TypeId} {R : Value → Option (DataW Unit × List MemPlace)} {w w' : World} {b n : Nat} {D : DataW Unit} (h : w.ownsMap P k R b n D) (hb : w'.heap[b]? = w.heap[b]?) : w'.ownsMap P k R b n D := by
  obtain ⟨es, clock, h1, F, h2, h3⟩ := h
  exact ⟨es, clock, hb.trans h1, F, h2, h3⟩

theorem entry_own {P : Program} {w : World} {t k e : TypeId} {q : IntKind} {b n : Nat} {D : DataW Unit} (K : KeyLaw P k) (ht : P.underlying t = some (.map k e)) (he : P.underlying e = some (.int q))
    (hz : ∀ u : World, (zeroValue e).run P u = .ok (.int q 0) u) (h : w.ownsMap P k (plainElem P e) b n D) (hn : n < maxLen) {key : Value} {kl : Lit} (hkey : keyOf P k key = some kl) :
    ∃ (c : Int) (st : Nat) (es1 : Array MapEntry) (clock1 : Nat), D.atKey kl (.lit (.int q 0)) = .lit (.int q c) ∧ (Lit.int q c).wf = true ∧
      (∀ w2 : World, (w2.heap[b]? = w.heap[b]? ∨ w2.heap[b]? = some (.map es1 clock1)) → (Instr.mapEntry t (.map (some b)) key).run P w2 = .ok (.tuple #[.int q c, goInt st]) (setBlock w2 b (.map es1 clock1))) ∧
      (∀ w2 : World, (w2.heap[b]? = w.heap[b]? ∨ w2.heap[b]? = some (.map es1 clock1)) → (Instr.lookup t (.map (some b)) key false).run P w2 = .ok (.int q c) w2) ∧
      (∀ (w2 : World) (a : Int), w2.heap[b]? = some (.map es1 clock1) → (Lit.int q a).wf = true → ∃ w3, (Instr.entryStore t (.map (some b)) (goInt st) (.int q a)).run P w2 = .ok () w3 ∧
        w3.ownsMap P k (plainElem P e) b (n + 1) (D.put kl (.lit (.int q a))) ∧ w2.grownBy w3 (some b)) := by
  have KK := Keyed.of_law K
  have hw0 : (Lit.int q 0).wf = true := by cases q <;> decide
  have hstore : ∀ (es1 : Array MapEntry) (clock1 st : Nat), (∀ (w2 : World) (val : Value), w2.heap[b]? = some (.map es1 clock1) → ∃ es' clock', (Instr.entryStore t (.map (some b)) (goInt st) val).run P w2 = .ok () (setBlock w2 b (.map es' clock')) ∧
        (Instr.mapUpdate t (.map (some b)) key val).run P w = .ok () (setBlock w b (.map es' clock'))) → (∀ (w2 : World) (a : Int), w2.heap[b]? = some (.map es1 clock1) → (Lit.int q a).wf = true → ∃ w3, (Instr.entryStore t (.map (some b)) (goInt st) (.int q a)).run P w2 = .ok () w3 ∧
        w3.ownsMap P k (plainElem P e) b (n + 1) (D.put kl (.lit (.int q a))) ∧ w2.grownBy w3 (some b)) := by
    intro es1 clock1 st h3 w2 a hw2 ha
    obtain ⟨es', clock', r1, r2⟩ := h3 w2 (.int q a) hw2
    obtain ⟨w', r3, h4, _⟩ := h.update KK ht hn hkey (plainElem_int he ha)
    rw [r2] at r3
    injection r3 with r3 r4
    subst r4
    have hblt := h.lt
    obtain ⟨es0, clock0, hb0, _⟩ := h
    refine ⟨_, r1, ownsMap_at h4 ?_, ⟨rfl, rfl, rfl, by simp [setBlock], fun i _ hi => heap_setBlock_other hw2 _ (fun e => hi (by rw [e]))⟩⟩
    rw [heap_setBlock_same hw2, heap_setBlock_same hb0]
  obtain ⟨es, clock, hb, F, hs, rfl⟩ := id h
  have hlook : ∀ (es1 : Array MapEntry) (clock1 : Nat) (c : Int), WideElems.Fit P k (plainElem (H := Unit) P e) es1 clock1 → (DataW.map ((es1.toList.map (WideElems.rg P k (plainElem (H := Unit) P e))).foldr DataW.insert [])).atKey kl (.lit (.int q 0)) = .lit (.int q c) →
      ∀ w2 : World, w2.heap[b]? = some (.map es1 clock1) → (Instr.lookup t (.map (some b)) key false).run P w2 = .ok (.int q c) w2 := by
    intro es1 clock1 c F1 hat w2 hw2
    rcases Maps.fit_look (w := w2) false KK ht (hz w2) hw2 F1 hkey with ⟨hrun, _, hat'⟩ | ⟨e0, y, _, _, hrun, hRv, hat', _⟩
    · rw [hat'] at hat
      injection hat with hat
      injection hat with _ hat
      rw [hrun, ← hat]; rfl
    · obtain ⟨a, hv, hy, _⟩ := plainElem_int_inv he hRv
      rw [hat', hy] at hat
      injection hat with hat
      injection hat with _ hat
      rw [hrun, hv, ← hat]; rfl
  obtain ⟨s1, s2, _⟩ := F.stamped
  rcases K.find w hkey es.toList F.keys with ⟨h1, h2⟩ | ⟨j, e0, h1, h2, h3⟩
  · have hat0 : (DataW.map ((es.toList.map (WideElems.rg P k (plainElem (H := Unit) P e))).foldr DataW.insert [])).atKey kl (.lit (.int q 0)) = .lit (.int q 0) := by
      rcases Maps.fit_look false KK ht (hz w) hb F hkey with ⟨_, _, hat'⟩ | ⟨e0, y, hm, hk', _⟩
      · exact hat' _
      · exact absurd hk' (h2 e0 hm)
    have hupd : (Instr.mapUpdate t (.map (some b)) key (.int q 0)).run P w = .ok () (setBlock w b (.map (es.push ⟨key, .int q 0, clock⟩) (clock + 1))) := by
      simp [Instr.mapUpdate, run_underlying ht, MapKept.run_getObj_map hb, K.check w false hkey, h1, MapKept.run_setObj_map _ hb, Result.andThen, setBlock]
    obtain ⟨es1, clock1, r1, F1, hput, _⟩ := Maps.fit_store (R' := plainElem (H := Unit) P e) KK ht hb F (Nat.lt_of_le_of_lt hs hn) (fun _ _ _ _ hz => hz) hkey (plainElem_int he hw0)
    rw [hupd] at r1
    injection r1 with _ r1
    have r2 := congrArg (fun W : World => W.heap[b]?) r1
    simp only [heap_setBlock_same hb, Option.some.injEq, Obj.map.injEq] at r2
    obtain ⟨rfl, rfl⟩ := r2
    refine ⟨0, clock, es.push ⟨key, .int q 0, clock⟩, clock + 1, hat0, hw0, fun w2 hw2 => ?_, fun w2 hw2 => ?_, hstore _ _ _ fun w2 val hw2 => ⟨es.push ⟨key, val, clock⟩, clock + 1, ?_, ?_⟩⟩
    · rcases hw2 with hw2 | hw2
      case inr =>
        have hk1 : ∀ x ∈ (es.push ⟨key, .int q 0, clock⟩).toList, ∃ l, keyOf P k x.key = some l := fun x hx => by
          simp only [Array.toList_push, List.mem_append, List.mem_singleton] at hx
          rcases hx with hx | rfl
          · exact F.keys x hx
          · exact ⟨_, hkey⟩
        rcases K.find w2 hkey _ hk1 with ⟨_, g2⟩ | ⟨j, e', g1, g2, g3⟩
        · exact absurd rfl (g2 ⟨key, .int q 0, clock⟩ (by simp))
        · have hj : j = es.size ∧ e' = ⟨key, .int q 0, clock⟩ := by
            rw [Array.toList_push, List.getElem?_append] at g2
            split at g2
            · exact absurd g3 (h2 e' (List.mem_of_getElem? g2))
            · rename_i hlt
              simp at hlt
              have h0 : j - es.size = 0 := by
                refine Classical.byContradiction fun hne => ?_
                obtain ⟨d, hd⟩ : ∃ d, j - es.size = d + 1 := ⟨j - es.size - 1, by omega⟩
                simp [hd] at g2
              simp [h0] at g2
              exact ⟨by omega, g2.symm⟩
          obtain ⟨rfl, rfl⟩ := hj
          have hmod : (es.push ⟨key, .int q 0, clock⟩).modify es.size (fun e => { e with key := key }) = es.push ⟨key, .int q 0, clock⟩ := by
            apply Array.ext'
            rw [Array.toList_modify, Array.toList_push, ← Array.length_toList, WideElems.modify_last]
          rw [Array.toList_push] at g1
          simp [Instr.mapEntry, run_underlying ht, MapKept.run_getObj_map hw2, K.check w2 false hkey, g1, K.stays w2 hkey, hmod, MapKept.run_setObj_map _ hw2, Result.andThen, setBlock]
      have hb2 := hw2.trans hb
      rcases K.find w2 hkey es.toList F.keys with ⟨h1', _⟩ | ⟨j, e0, _, h2', h3'⟩
      · simp [Instr.mapEntry, run_underlying ht, MapKept.run_getObj_map hb2, K.check w2 false hkey, h1', hz, MapKept.run_setObj_map _ hb2, Result.andThen, setBlock]
      · exact absurd h3' (h2 e0 (List.mem_of_getElem? h2'))
    · rcases hw2 with hw2 | hw2
      · exact hlook es clock 0 F hat0 w2 (hw2.trans hb)
      · refine hlook _ _ 0 F1 ?_ w2 hw2
        rw [hput]
        have := Maps.atKey_put_same (D := DataW.map ((es.toList.map (WideElems.rg P k (plainElem (H := Unit) P e))).foldr DataW.insert [])) ⟨_, rfl⟩ (KK.key hkey) (.lit (.int q 0)) (.lit (.int q 0))
        rw [DataW.put_eq] at this
        exact this
    · have hidx : (es.push ⟨key, .int q 0, clock⟩).findIdx? (fun e => ((e.born : Nat) : Int) == ((clock : Nat) : Int)) = some es.size := by
        rw [WideElems.findIdx_arr]
        exact WideElems.findIdx_born (l := (es.push ⟨key, .int q 0, clock⟩).toList) (j := es.size) (e0 := ⟨key, .int q 0, clock⟩) (by
          simp only [Array.toList_push, List.map_append, List.map_cons, List.map_nil]
          refine List.nodup_append.2 ⟨s2, by simp, fun a ha c hc e1 => ?_⟩
          simp only [List.mem_singleton] at hc
          obtain ⟨x, hx, rfl⟩ := List.mem_map.1 ha
          have := s1 x hx
          omega) (by simp)
      have hmod : (es.push ⟨key, .int q 0, clock⟩).modify es.size (fun e => { e with val := val }) = es.push ⟨key, val, clock⟩ := by
        apply Array.ext'
        rw [Array.toList_modify, Array.toList_push, Array.toList_push, ← Array.length_toList, WideElems.modify_last]
      simp [Instr.entryStore, MapKept.run_getObj_map hw2, asInt, asIntOf, goInt, hidx, hmod, MapKept.run_setObj_map _ hw2, Result.andThen, setBlock]
    · simp [Instr.mapUpdate, run_underlying ht, MapKept.run_getObj_map hb, K.check w false hkey, h1, MapKept.run_setObj_map _ hb, Result.andThen, setBlock]
  · obtain ⟨c, hrun, hat, hwf⟩ := h.lookup_int KK ht he (hz w) hkey
    have hv0 : e0.val = .int q c := by
      have hb' : w.heap[b]? = some (.map es clock) := hb
      have : (Instr.lookup t (.map (some b)) key false).run P w = .ok e0.val w := by
        simp [Instr.lookup, run_underlying ht, MapKept.run_getObj_map hb, K.check w _ hkey, h1, Result.andThen]
      rw [hrun] at this
      injection this with this _
      exact this.symm
    refine ⟨c, e0.born, es, clock, hat, hwf, fun w2 hw2 => ?_, fun w2 hw2 => ?_, hstore _ _ _ ?_⟩
    · have hb2 : w2.heap[b]? = some (.map es clock) := hw2.elim (fun h => h.trans hb) id
      have hsame : es.modify j (fun e => { e with key := key }) = es := by
        apply Array.ext'
        rw [Array.toList_modify, ChangeMaps.modify_eq_set _ _ _ _ h2]
        have : ({ e0 with key := key } : MapEntry) = e0 := by rw [← h3]
        rw [this]
        exact WideElems.set_self _ _ _ h2
      have hj : es[j]? = some e0 := by simpa using h2
      have h1' : (Instr.findKey k key es.toList).run P w2 = .ok (some (j, e0.val)) w2 := by
        rcases K.find w2 hkey es.toList F.keys with ⟨_, g2⟩ | ⟨j', e', g1, g2, g3⟩
        · exact absurd h3 (g2 e0 (List.mem_of_getElem? h2))
        · have hjj : j' = j := by
            refine Classical.byContradiction fun hne => ?_
            exact absurd g3 (by rw [← h3]; exact WideElems.other_key F h2 g2 hne)
          subst hjj
          rw [h2] at g2; cases g2
          exact g1
      simp [Instr.mapEntry, run_underlying ht, MapKept.run_getObj_map hb2, K.check w2 false hkey, h1', hj, h3, K.stays w2 hkey, hsame, MapKept.run_setObj_map _ hb2, Result.andThen, setBlock, hv0]
    · exact hlook es clock c F hat w2 (hw2.elim (fun h => h.trans hb) id)
    · intro w2 val hw2
      have hj : es[j]? = some e0 := by simpa using h2
      refine ⟨es.modify j (fun e' => { e' with key := key, val := val }), clock, ?_, ?_⟩
      · have hidx : es.findIdx? (fun e => ((e.born : Nat) : Int) == ((e0.born : Nat) : Int)) = some j := by
          rw [WideElems.findIdx_arr]
          exact WideElems.findIdx_born s2 h2
        have hmod : es.modify j (fun e => { e with val := val }) = es.modify j (fun e' => { e' with key := key, val := val }) := by
          apply Array.ext'
          rw [Array.toList_modify, Array.toList_modify, ChangeMaps.modify_eq_set _ _ _ _ h2, ChangeMaps.modify_eq_set _ _ _ _ h2, ← h3]
        simp [Instr.entryStore, MapKept.run_getObj_map hw2, asInt, asIntOf, goInt, hidx, hmod, MapKept.run_setObj_map _ hw2, Result.andThen, setBlock]
      · simp [Instr.mapUpdate, run_underlying ht, MapKept.run_getObj_map hb, K.check w false hkey, h1, hj, h3, K.stays w hkey, MapKept.run_setObj_map _ hb, Result.andThen, setBlock]

end Go.Proofs.YtpdldmichpmgmaaGreat

namespace Go.Proofs.YtpdldmichpmgmaaGreat
open Go.RowKit Go.Maps
open Go.WideMaps (KeyLaw)
open Go.ChangeMaps (setBlock)

def z0 : DataW Unit := .lit (.int .i64 0)
def MaskIs (D : DataW Unit) (g : Int → Nat) : Prop := ∀ x : Int, D.atKey (.int .i64 x) z0 = .lit (.int .i64 (g x)) ∧ (has D (.int .i64 x) = true → g x ≠ 0)
theorem keyLit (x : Int) : WideAt.IsKeyLit (.int .i64 x) := by unfold WideAt.IsKeyLit; trivial
theorem wf_i64 {x : Int} (h1 : -9223372036854775808 ≤ x) (h2 : x ≤ 9223372036854775807) : (Lit.int .i64 x).wf = true := WalkArith.wf_i64 ⟨h1, h2⟩

section
variable {P : Program} {t k e : TypeId} {w : World} {b n : Nat}
/-- a map of numbers, none of which is nought -/
structure MapZ (P : Program) (k e : TypeId) (w : World) (b n : Nat) (g : Int → Nat) : Prop where
  ex : ∃ D : DataW Unit, w.ownsMap P k (plainElem P e) b n D ∧ MaskIs D g
theorem MapZ.new (w : World) : MapZ P k e (w.alloc (.map #[] 0)) w.heap.size 0 (fun _ => 0) := ⟨_, World.ownsMap_made _ _ _ _, fun _ => ⟨rfl, fun h => by cases h⟩⟩
theorem MapZ.at {w' : World} {g : Int → Nat} (h : MapZ P k e w b n g) (hb : w'.heap[b]? = w.heap[b]?) : MapZ P k e w' b n g := by
  obtain ⟨D, h1, h2⟩ := h.ex
  exact ⟨D, ownsMap_at h1 hb, h2⟩
theorem MapZ.lt {g : Int → Nat} (h : MapZ P k e w b n g) : b < w.heap.size := by obtain ⟨D, h1, _⟩ := h.ex; exact h1.lt
theorem MapZ.mono {g : Int → Nat} (h : MapZ P k e w b n g) {n' : Nat} (hn : n ≤ n') : MapZ P k e w b n' g := by obtain ⟨D, h1, h2⟩ := h.ex; exact ⟨D, h1.mono hn, h2⟩
theorem MapZ.congr {g g' : Int → Nat} (h : MapZ P k e w b n g) (hg : ∀ x, g x = g' x) : MapZ P k e w b n g' := by rw [← show g = g' from funext hg]; exact h
theorem MapZ.look {g : Int → Nat} (h : MapZ P k e w b n g) (hk : P.underlying k = some (.int .i64)) (he : P.underlying e = some (.int .i64)) (ht : P.underlying t = some (.map k e)) (hz : ∀ u : World, (zeroValue e).run P u = .ok (.int .i64 0) u)
    {x : Int} (hx : (Lit.int .i64 x).wf = true) : (Instr.lookup t (.map (some b)) (.int .i64 x) false).run P w = .ok (.int .i64 (g x)) w := by
  obtain ⟨D, h1, h2⟩ := h.ex
  obtain ⟨c, hrun, hat, _⟩ := h1.lookup_int (int_keyed hk) ht he (hz w) (keyOf_int_mk hk hx)
  have := (h2 x).1
  unfold z0 at this
  rw [hat] at this
  injection this with this
  injection this with _ this
  rw [hrun, this]
theorem MapZ.put {g : Int → Nat} (h : MapZ P k e w b n g) (hk : P.underlying k = some (.int .i64)) (he : P.underlying e = some (.int .i64)) (ht : P.underlying t = some (.map k e))
    {x : Int} (hx : (Lit.int .i64 x).wf = true) (hn : n < maxLen) (v : Nat) (hv : v ≠ 0) (hv2 : v ≤ 9223372036854775807) :
    ∃ w', (Instr.mapUpdate t (.map (some b)) (.int .i64 x) (.int .i64 v)).run P w = .ok () w' ∧ MapZ P k e w' b (n + 1) (fun y => if y = x then v else g y) ∧ w.grownBy w' (some b) := by
  obtain ⟨D, h1, h2⟩ := h.ex
  obtain ⟨w', hrun, h3, h4⟩ := h1.update (int_keyed hk) ht hn (keyOf_int_mk hk hx) (plainElem_int (a := (v : Int)) he (wf_i64 (by omega) (by omega)))
  refine ⟨w', hrun, ⟨_, h3, fun y => ?_⟩, h4⟩
  by_cases hy : y = x
  · subst hy
    simp only [if_true]
    exact ⟨atKey_put_same h1.isMap (keyLit _) _ _, fun _ => hv⟩
  · have hne : Lit.int .i64 y ≠ Lit.int .i64 x := fun e => hy (by injection e)
    simp only [if_neg hy]
    rw [atKey_put_other hne, has_put_other hne]
    exact h2 y

/-- a map of numbers, by its keys -/
structure KeysZ (P : Program) (k e : TypeId) (w : World) (b n : Nat) (S : Int → Prop) : Prop where
  ex : ∃ D : DataW Unit, w.ownsMap P k (plainElem P e) b n D ∧ ∀ x : Int, has D (.int .i64 x) = true ↔ S x
theorem KeysZ.new (w : World) : KeysZ P k e (w.alloc (.map #[] 0)) w.heap.size 0 (fun _ => False) := ⟨_, World.ownsMap_made _ _ _ _, fun _ => ⟨(fun h => by cases h), fun h => h.elim⟩⟩
theorem KeysZ.at {w' : World} {S : Int → Prop} (h : KeysZ P k e w b n S) (hb : w'.heap[b]? = w.heap[b]?) : KeysZ P k e w' b n S := by
  obtain ⟨D, h1, h2⟩ := h.ex
  exact ⟨D, ownsMap_at h1 hb, h2⟩
theorem KeysZ.lt {S : Int → Prop} (h : KeysZ P k e w b n S) : b < w.heap.size := by obtain ⟨D, h1, _⟩ := h.ex; exact h1.lt
theorem KeysZ.congr {S S' : Int → Prop} (h : KeysZ P k e w b n S) (hg : ∀ x, S x ↔ S' x) : KeysZ P k e w b n S' := by rw [← show S = S' from funext fun x => propext (hg x)]; exact h
theorem KeysZ.look {S : Int → Prop} (h : KeysZ P k e w b n S) (hk : P.underlying k = some (.int .i64)) (he : P.underlying e = some (.int .i64)) (ht : P.underlying t = some (.map k e)) (hz : ∀ u : World, (zeroValue e).run P u = .ok (.int .i64 0) u)
    {x : Int} (hx : (Lit.int .i64 x).wf = true) : ∃ c, ∀ w2 : World, w2.heap[b]? = w.heap[b]? → (Instr.lookup t (.map (some b)) (.int .i64 x) false).run P w2 = .ok (.int .i64 c) w2 := by
  obtain ⟨D, h1, h2⟩ := h.ex
  obtain ⟨c, _, hat, _⟩ := h1.lookup_int (int_keyed hk) ht he (hz w) (keyOf_int_mk hk hx)
  refine ⟨c, fun w2 hw2 => ?_⟩
  obtain ⟨c2, hrun, hat2, _⟩ := (ownsMap_at h1 hw2).lookup_int (int_keyed hk) ht he (hz w2) (keyOf_int_mk hk hx)
  rw [hat] at hat2
  injection hat2 with hat2
  injection hat2 with _ hat2
  rw [hrun, hat2]
theorem KeysZ.put {S : Int → Prop} (h : KeysZ P k e w b n S) (hk : P.underlying k = some (.int .i64)) (he : P.underlying e = some (.int .i64)) (ht : P.underlying t = some (.map k e))
    {x : Int} (hx : (Lit.int .i64 x).wf = true) (hn : n < maxLen) (a : Int) (ha : (Lit.int .i64 a).wf = true) :
    ∃ w', (Instr.mapUpdate t (.map (some b)) (.int .i64 x) (.int .i64 a)).run P w = .ok () w' ∧ KeysZ P k e w' b (n + 1) (fun y => y = x ∨ S y) ∧ w.grownBy w' (some b) := by
  obtain ⟨D, h1, h2⟩ := h.ex
  obtain ⟨w', hrun, h3, h4⟩ := h1.update (int_keyed hk) ht hn (keyOf_int_mk hk hx) (plainElem_int (a := a) he ha)
  refine ⟨w', hrun, ⟨_, h3, fun y => ?_⟩, h4⟩
  by_cases hy : y = x
  · subst hy
    rw [has_put_same h1.isMap (keyLit _)]
    simp
  · have hne : Lit.int .i64 y ≠ Lit.int .i64 x := fun e => hy (by injection e)
    rw [has_put_other hne, h2 y]
    exact ⟨.inr, fun h => h.elim (fun h => absurd h hy) id⟩

/-- a map that counts keys: those counted were seen -/
structure SeenZ (P : Program) (k e : TypeId) {α : Type} (key : α → Value) (w : World) (b n : Nat) (S : α → Prop) : Prop where
  ex : ∃ D : DataW Unit, w.ownsMap P k (plainElem P e) b n D ∧ ∀ (x : α) (kl : Lit), keyOf P k (key x) = some kl → ∃ c : Int, D.atKey kl z0 = .lit (.int .i64 c) ∧ 0 ≤ c ∧ c ≤ n ∧ (0 < c → S x)
theorem SeenZ.new {α : Type} {key : α → Value} (w : World) : SeenZ P k e key (w.alloc (.map #[] 0)) w.heap.size 0 (fun _ => False) := ⟨_, World.ownsMap_made _ _ _ _, fun _ _ _ => ⟨0, rfl, by omega, by omega, fun h => by omega⟩⟩
theorem SeenZ.at {α : Type} {key : α → Value} {w' : World} {S : α → Prop} (h : SeenZ P k e key w b n S) (hb : w'.heap[b]? = w.heap[b]?) : SeenZ P k e key w' b n S := by
  obtain ⟨D, h1, h2⟩ := h.ex
  exact ⟨D, ownsMap_at h1 hb, h2⟩
theorem SeenZ.lt {α : Type} {key : α → Value} {S : α → Prop} (h : SeenZ P k e key w b n S) : b < w.heap.size := by obtain ⟨D, h1, _⟩ := h.ex; exact h1.lt
theorem SeenZ.mono {α : Type} {key : α → Value} {S S' : α → Prop} (h : SeenZ P k e key w b n S) (hS : ∀ x, S x → S' x) : SeenZ P k e key w b n S' := by
  obtain ⟨D, h1, h2⟩ := h.ex
  exact ⟨D, h1, fun x kl hk => by obtain ⟨c, g1, g2, g3, g4⟩ := h2 x kl hk; exact ⟨c, g1, g2, g3, fun h => hS x (g4 h)⟩⟩
theorem SeenZ.count {α : Type} {key : α → Value} (hinj : ∀ x y, key x = key y → x = y) {S : α → Prop} (h : SeenZ P k e key w b n S) (K : KeyLaw P k) (he : P.underlying e = some (.int .i64)) (ht : P.underlying t = some (.map k e)) (hz : ∀ u : World, (zeroValue e).run P u = .ok (.int .i64 0) u)
    (hn : n < 4611686018427387904) (x : α) (hkey : ∃ kl, keyOf P k (key x) = some kl) :
    ∃ (c : Int) (st : Nat) (o1 : Obj), 0 ≤ c ∧ c ≤ n ∧ (0 < c → S x) ∧
      (∀ w2 : World, (w2.heap[b]? = w.heap[b]? ∨ w2.heap[b]? = some o1) → (Instr.mapEntry t (.map (some b)) (key x)).run P w2 = .ok (.tuple #[.int .i64 c, goInt st]) (setBlock w2 b o1)) ∧
      (∀ w2 : World, (w2.heap[b]? = w.heap[b]? ∨ w2.heap[b]? = some o1) → w2.heap[b]? ≠ none) ∧
      (∀ w2 : World, (w2.heap[b]? = w.heap[b]? ∨ w2.heap[b]? = some o1) → (Instr.lookup t (.map (some b)) (key x) false).run P w2 = .ok (.int .i64 c) w2) ∧
      (∀ w2 : World, w2.heap[b]? = some o1 → ∃ w3, (Instr.entryStore t (.map (some b)) (goInt st) (.int .i64 (c + 1))).run P w2 = .ok () w3 ∧ w2.grownBy w3 (some b) ∧
        SeenZ P k e key w3 b (n + 1) (fun y => y = x ∨ S y) ∧ ∀ w4 : World, w4.heap[b]? = w3.heap[b]? → (Instr.lookup t (.map (some b)) (key x) false).run P w4 = .ok (.int .i64 (c + 1)) w4) := by
  obtain ⟨D, h1, h2⟩ := h.ex
  obtain ⟨kl, hkl⟩ := hkey
  obtain ⟨c, g1, g2, g3, g4⟩ := h2 x kl hkl
  obtain ⟨c', st, es1, clock1, e1, _, e3, e4, e5⟩ := entry_own K ht he hz h1 (Nat.lt_of_lt_of_le hn (by unfold maxLen; omega)) hkl
  have hcc : c' = c := by
    unfold z0 at g1
    rw [e1] at g1
    injection g1 with g1
    injection g1
  subst hcc
  have hblt := h1.lt
  refine ⟨c', st, .map es1 clock1, g2, g3, g4, e3, ?_, e4, fun w2 hw2 => ?_⟩
  · rintro w2 (h | h) hn0
    · rw [hn0] at h
      have := Array.getElem?_eq_none_iff.1 h.symm
      omega
    · rw [hn0] at h; cases h
  · obtain ⟨w3, r1, r2, r3⟩ := e5 w2 (c' + 1) hw2 (wf_i64 (by omega) (by omega))
    have KK := Keyed.of_law K
    refine ⟨w3, r1, r3, ⟨_, r2, fun y kl' hkl' => ?_⟩, fun w4 hw4 => ?_⟩
    · by_cases hy : kl' = kl
      · subst hy
        have hxy : y = x := hinj _ _ (K.inj hkl' hkl)
        exact ⟨c' + 1, atKey_put_same h1.isMap (KK.key hkl) _ _, by omega, by omega, fun _ => .inl hxy⟩
      · obtain ⟨c2, q1, q2, q3, q4⟩ := h2 y kl' hkl'
        exact ⟨c2, by rw [atKey_put_other hy]; exact q1, q2, by omega, fun h => .inr (q4 h)⟩
    · obtain ⟨c2, hrun, hat2, _⟩ := (ownsMap_at r2 hw4).lookup_int KK ht he (hz w4) hkl
      rw [atKey_put_same h1.isMap (KK.key hkl)] at hat2
      injection hat2 with hat2
      injection hat2 with _ hat2
      rw [hrun, hat2]

end

end Go.Proofs.YtpdldmichpmgmaaGreat
