/- A part of the proof that TopMeasured always answers true. -/
import Derived.Maps.OwnSet
import Derived.Maps.RangeWalk
import Derived.WideKeyEntry
import Derived.Laws.Rows
import Derived.Shelf.Abstract
import Derived.StillTailTactics
import Derived.Test.YtcnebekkbfajbaaGreatCRef2
import Derived.Test.YtcnebekkbfajbaaGreatCRegion
set_option linter.all false
namespace Go.Proofs.YtcnebekkbfajbaaGreat
open Go.RowKit Go.Maps Go.ChangeShapes Go.WideShapes Go.MapKept
open Go.WideMaps (KeyLaw)
open Go.ChangeMaps (setBlock heap_setBlock_same heap_setBlock_other)
theorem ownsMap_at {P : Program} {k : TypeId} {R : Value → Option (DataW Unit × List MemPlace)} {w w' : World} {b n : Nat} {D : DataW Unit} (h : w.ownsMap P k R b n D) (hb : w'.heap[b]? = w.heap[b]?) : w'.ownsMap P k R b n D := by
 obtain ⟨es, clock, h1, F, h2, h3⟩ := h
 exact ⟨es, clock, hb.trans h1, F, h2, h3⟩
theorem entry_own {P : Program} {w : World} {t k e : TypeId} {q : IntKind} {b n : Nat} {D : DataW Unit} (K : KeyLaw P k) (ht : P.underlying t = some (.map k e)) (he : P.underlying e = some (.int q))
  (hz : ∀ u : World, (zeroValue e).run P u = .ok (.int q 0) u) (h : w.ownsMap P k (plainElem P e) b n D) (hn : n < maxLen) {key : Value} {kl : Lit} (hkey : keyOf P k key = some kl) :
  ∃ (c : Int) (st : Nat) (es1 : Array MapEntry) (clock1 : Nat), D.atKey kl (.lit (.int q 0)) = .lit (.int q c) ∧ (Lit.int q c).wf = true ∧
   (∀ w2 : World, (w2.heap[b]? = w.heap[b]? ∨ w2.heap[b]? = some (.map es1 clock1)) → (Instr.mapEntry t (.map (some b)) key).run P w2 = .ok (.tuple #[.int q c, goInt st]) (setBlock w2 b (.map es1 clock1))) ∧
   (∀ w2 : World, (w2.heap[b]? = w.heap[b]? ∨ w2.heap[b]? = some (.map es1 clock1)) → (Instr.lookup t (.map (some b)) key false).run P w2 = .ok (.int q c) w2) ∧
   (∀ (w2 : World) (a : Int), w2.heap[b]? = some (.map es1 clock1) → (Lit.int q a).wf = true → ∃ w3, (Instr.entryStore t (.map (some b)) (goInt st) (.int q a)).run P w2 = .ok () w3 ∧
    w3.ownsMap P k (plainElem P e) b (n + 1) (D.put kl (.lit (.int q a))) ∧ w2.grownBy w3 (some b)) := by
 have KK := Keyed.of_law K
 have hw0 : (Lit.int q 0).wf = true := by cases q <;> decide
 have hstore : ∀ (es1 : Array MapEntry) (clock1 st : Nat), (∀ (w2 : World) (val : Value), w2.heap[b]? = some (.map es1 clock1) → ∃ es' clock', (Instr.entryStore t (.map (some b)) (goInt st) val).run P w2 = .ok () (setBlock w2 b (.map es' clock')) ∧
    (Instr.mapUpdate t (.map (some b)) key val).run P w = .ok () (setBlock w b (.map es' clock'))) → (∀ (w2 : World) (a : Int), w2.heap[b]? = some (.map es1 clock1) → (Lit.int q a).wf = true → ∃ w3, (Instr.entryStore t (.map (some b)) (goInt st) (.int q a)).run P w2 = .ok () w3 ∧
    w3.ownsMap P k (plainElem P e) b (n + 1) (D.put kl (.lit (.int q a))) ∧ w2.grownBy w3 (some b)) := by
  intro es1 clock1 st h3 w2 a hw2 ha
  obtain ⟨es', clock', r1, r2⟩ := h3 w2 (.int q a) hw2
  obtain ⟨w', r3, h4, _⟩ := h.update KK ht hn hkey (plainElem_int he ha)
  rw [r2] at r3
  injection r3 with r3 r4
  subst r4
  have hblt := h.lt
  obtain ⟨es0, clock0, hb0, _⟩ := h
  refine ⟨_, r1, ownsMap_at h4 ?_, ⟨rfl, rfl, rfl, by simp [setBlock], fun i _ hi => heap_setBlock_other hw2 _ (fun e => hi (by rw [e]))⟩⟩
  rw [heap_setBlock_same hw2, heap_setBlock_same hb0]
 obtain ⟨es, clock, hb, F, hs, rfl⟩ := id h
 have hlook : ∀ (es1 : Array MapEntry) (clock1 : Nat) (c : Int), WideElems.Fit P k (plainElem (H := Unit) P e) es1 clock1 → (DataW.map ((es1.toList.map (WideElems.rg P k (plainElem (H := Unit) P e))).foldr DataW.insert [])).atKey kl (.lit (.int q 0)) = .lit (.int q c) →
   ∀ w2 : World, w2.heap[b]? = some (.map es1 clock1) → (Instr.lookup t (.map (some b)) key false).run P w2 = .ok (.int q c) w2 := by
  intro es1 clock1 c F1 hat w2 hw2
  rcases Maps.fit_look (w := w2) false KK ht (hz w2) hw2 F1 hkey with ⟨hrun, _, hat'⟩ | ⟨e0, y, _, _, hrun, hRv, hat', _⟩
  ·rw [hat'] at hat
   injection hat with hat
   injection hat with _ hat
   rw [hrun, ← hat]; rfl
  obtain ⟨a, hv, hy, _⟩ := plainElem_int_inv he hRv
  rw [hat', hy] at hat
  injection hat with hat
  injection hat with _ hat
  rw [hrun, hv, ← hat]; rfl
 obtain ⟨s1, s2, _⟩ := F.stamped
 rcases K.find w hkey es.toList F.keys with ⟨h1, h2⟩ | ⟨j, e0, h1, h2, h3⟩
 ·have hat0 : (DataW.map ((es.toList.map (WideElems.rg P k (plainElem (H := Unit) P e))).foldr DataW.insert [])).atKey kl (.lit (.int q 0)) = .lit (.int q 0) := by
   rcases Maps.fit_look false KK ht (hz w) hb F hkey with ⟨_, _, hat'⟩ | ⟨e0, y, hm, hk', _⟩
   ·exact hat' _
   exact absurd hk' (h2 e0 hm)
  have hupd : (Instr.mapUpdate t (.map (some b)) key (.int q 0)).run P w = .ok () (setBlock w b (.map (es.push ⟨key, .int q 0, clock⟩) (clock + 1))) := by
   simp [Instr.mapUpdate, run_underlying ht, MapKept.run_getObj_map hb, K.check w false hkey, h1, MapKept.run_setObj_map _ hb, Result.andThen, setBlock]
  obtain ⟨es1, clock1, r1, F1, hput, _⟩ := Maps.fit_store (R' := plainElem (H := Unit) P e) KK ht hb F (Nat.lt_of_le_of_lt hs hn) (fun _ _ _ _ hz => hz) hkey (plainElem_int he hw0)
  rw [hupd] at r1
  injection r1 with _ r1
  have r2 := congrArg (fun W : World => W.heap[b]?) r1
  simp only [heap_setBlock_same hb, Option.some.injEq, Obj.map.injEq] at r2
  obtain ⟨rfl, rfl⟩ := r2
  refine ⟨0, clock, es.push ⟨key, .int q 0, clock⟩, clock + 1, hat0, hw0, fun w2 hw2 => ?_, fun w2 hw2 => ?_, hstore _ _ _ fun w2 val hw2 => ⟨es.push ⟨key, val, clock⟩, clock + 1, ?_, ?_⟩⟩
  ·rcases hw2 with hw2 | hw2
   case inr =>
    have hk1 : ∀ x ∈ (es.push ⟨key, .int q 0, clock⟩).toList, ∃ l, keyOf P k x.key = some l := fun x hx => by
     simp only [Array.toList_push, List.mem_append, List.mem_singleton] at hx
     rcases hx with hx | rfl
     ·exact F.keys x hx
     exact ⟨_, hkey⟩
    rcases K.find w2 hkey _ hk1 with ⟨_, g2⟩ | ⟨j, e', g1, g2, g3⟩
    ·exact absurd rfl (g2 ⟨key, .int q 0, clock⟩ (by simp))
    have hj : j = es.size ∧ e' = ⟨key, .int q 0, clock⟩ := by
     rw [Array.toList_push, List.getElem?_append] at g2
     split at g2
     ·exact absurd g3 (h2 e' (List.mem_of_getElem? g2))
     rename_i hlt
     simp at hlt
     have h0 : j - es.size = 0 := by
      refine Classical.byContradiction fun hne => ?_
      obtain ⟨d, hd⟩ : ∃ d, j - es.size = d + 1 := ⟨j - es.size - 1, by omega⟩
      simp [hd] at g2
     simp [h0] at g2
     exact ⟨by omega, g2.symm⟩
    obtain ⟨rfl, rfl⟩ := hj
    have hmod : (es.push ⟨key, .int q 0, clock⟩).modify es.size (fun e => { e with key := key }) = es.push ⟨key, .int q 0, clock⟩ := by
     apply Array.ext'
     rw [Array.toList_modify, Array.toList_push, ← Array.length_toList, WideElems.modify_last]
    rw [Array.toList_push] at g1
    simp [Instr.mapEntry, run_underlying ht, MapKept.run_getObj_map hw2, K.check w2 false hkey, g1, K.stays w2 hkey, hmod, MapKept.run_setObj_map _ hw2, Result.andThen, setBlock]
   have hb2 := hw2.trans hb
   rcases K.find w2 hkey es.toList F.keys with ⟨h1', _⟩ | ⟨j, e0, _, h2', h3'⟩
   ·simp [Instr.mapEntry, run_underlying ht, MapKept.run_getObj_map hb2, K.check w2 false hkey, h1', hz, MapKept.run_setObj_map _ hb2, Result.andThen, setBlock]
   exact absurd h3' (h2 e0 (List.mem_of_getElem? h2'))
  ·rcases hw2 with hw2 | hw2
   ·exact hlook es clock 0 F hat0 w2 (hw2.trans hb)
   refine hlook _ _ 0 F1 ?_ w2 hw2
   rw [hput]
   have := Maps.atKey_put_same (D := DataW.map ((es.toList.map (WideElems.rg P k (plainElem (H := Unit) P e))).foldr DataW.insert [])) ⟨_, rfl⟩ (KK.key hkey) (.lit (.int q 0)) (.lit (.int q 0))
   rw [DataW.put_eq] at this
   exact this
  ·have hidx : (es.push ⟨key, .int q 0, clock⟩).findIdx? (fun e => ((e.born : Nat) : Int) == ((clock : Nat) : Int)) = some es.size := by
    rw [WideElems.findIdx_arr]
    exact WideElems.findIdx_born (l := (es.push ⟨key, .int q 0, clock⟩).toList) (j := es.size) (e0 := ⟨key, .int q 0, clock⟩) (by
     simp only [Array.toList_push, List.map_append, List.map_cons, List.map_nil]
     refine List.nodup_append.2 ⟨s2, by simp, fun a ha c hc e1 => ?_⟩
     simp only [List.mem_singleton] at hc
     obtain ⟨x, hx, rfl⟩ := List.mem_map.1 ha
     have := s1 x hx
     omega) (by simp)
   have hmod : (es.push ⟨key, .int q 0, clock⟩).modify es.size (fun e => { e with val := val }) = es.push ⟨key, val, clock⟩ := by
    apply Array.ext'
    rw [Array.toList_modify, Array.toList_push, Array.toList_push, ← Array.length_toList, WideElems.modify_last]
   simp [Instr.entryStore, MapKept.run_getObj_map hw2, asInt, asIntOf, goInt, hidx, hmod, MapKept.run_setObj_map _ hw2, Result.andThen, setBlock]
  simp [Instr.mapUpdate, run_underlying ht, MapKept.run_getObj_map hb, K.check w false hkey, h1, MapKept.run_setObj_map _ hb, Result.andThen, setBlock]
 obtain ⟨c, hrun, hat, hwf⟩ := h.lookup_int KK ht he (hz w) hkey
 have hv0 : e0.val = .int q c := by
  have hb' : w.heap[b]? = some (.map es clock) := hb
  have : (Instr.lookup t (.map (some b)) key false).run P w = .ok e0.val w := by
   simp [Instr.lookup, run_underlying ht, MapKept.run_getObj_map hb, K.check w _ hkey, h1, Result.andThen]
  rw [hrun] at this
  injection this with this _
  exact this.symm
 refine ⟨c, e0.born, es, clock, hat, hwf, fun w2 hw2 => ?_, fun w2 hw2 => ?_, hstore _ _ _ ?_⟩
 ·have hb2 : w2.heap[b]? = some (.map es clock) := hw2.elim (fun h => h.trans hb) id
  have hsame : es.modify j (fun e => { e with key := key }) = es := by
   apply Array.ext'
   rw [Array.toList_modify, ChangeMaps.modify_eq_set _ _ _ _ h2]
   have : ({ e0 with key := key } : MapEntry) = e0 := by rw [← h3]
   rw [this]
   exact WideElems.set_self _ _ _ h2
  have hj : es[j]? = some e0 := by simpa using h2
  have h1' : (Instr.findKey k key es.toList).run P w2 = .ok (some (j, e0.val)) w2 := by
   rcases K.find w2 hkey es.toList F.keys with ⟨_, g2⟩ | ⟨j', e', g1, g2, g3⟩
   ·exact absurd h3 (g2 e0 (List.mem_of_getElem? h2))
   have hjj : j' = j := by
    refine Classical.byContradiction fun hne => ?_
    exact absurd g3 (by rw [← h3]; exact WideElems.other_key F h2 g2 hne)
   subst hjj
   rw [h2] at g2; cases g2
   exact g1
  simp [Instr.mapEntry, run_underlying ht, MapKept.run_getObj_map hb2, K.check w2 false hkey, h1', hj, h3, K.stays w2 hkey, hsame, MapKept.run_setObj_map _ hb2, Result.andThen, setBlock, hv0]
 ·exact hlook es clock c F hat w2 (hw2.elim (fun h => h.trans hb) id)
 intro w2 val hw2
 have hj : es[j]? = some e0 := by simpa using h2
 refine ⟨es.modify j (fun e' => { e' with key := key, val := val }), clock, ?_, ?_⟩
 ·have hidx : es.findIdx? (fun e => ((e.born : Nat) : Int) == ((e0.born : Nat) : Int)) = some j := by
   rw [WideElems.findIdx_arr]
   exact WideElems.findIdx_born s2 h2
  have hmod : es.modify j (fun e => { e with val := val }) = es.modify j (fun e' => { e' with key := key, val := val }) := by
   apply Array.ext'
   rw [Array.toList_modify, Array.toList_modify, ChangeMaps.modify_eq_set _ _ _ _ h2, ChangeMaps.modify_eq_set _ _ _ _ h2, ← h3]
  simp [Instr.entryStore, MapKept.run_getObj_map hw2, asInt, asIntOf, goInt, hidx, hmod, MapKept.run_setObj_map _ hw2, Result.andThen, setBlock]
 simp [Instr.mapUpdate, run_underlying ht, MapKept.run_getObj_map hb, K.check w false hkey, h1, hj, h3, K.stays w hkey, MapKept.run_setObj_map _ hb, Result.andThen, setBlock]
open Go.RowKit Go.Maps
open Go.WideMaps (KeyLaw)
open Go.ChangeMaps (setBlock)
def z0 : DataW Unit := .lit (.int .i64 0)
theorem wf_i64 {x : Int} (h1 : -9223372036854775808 ≤ x) (h2 : x ≤ 9223372036854775807) : (Lit.int .i64 x).wf = true := WalkArith.wf_i64 ⟨h1, h2⟩
section
variable {P : Program} {t k e : TypeId} {w : World} {b n : Nat}
end
open Go.RowKit Go.ChangeMaps Go.MapKept
def updF (f : Nat → Int × Int) (a : Nat) (p : Int × Int) : Nat → Int × Int := fun i => if i = a then p else f i
open Go.RowKit Go.Shelf
def outB (lo hi x : Int) : Bool := decide (x < lo) || decide (hi < x)
theorem outB_inB (lo hi x : Int) : outB lo hi x = !inB x lo hi := by
 unfold outB inB
 by_cases h1 : x < lo <;> by_cases h2 : hi < x <;> simp [h1, h2] <;> omega
theorem any_take_no {α : Type} {xs : List α} {k : Nat} {x : α} {p : α → Bool} (hx : xs[k]? = some x) (h : (xs.take k).any p = false) (hp : p x = false) : (xs.take (k + 1)).any p = false := by
 rw [take_snoc_get hx, List.any_append, h]; simp [hp]
theorem any_yes {α : Type} {xs : List α} {k : Nat} {x : α} {p : α → Bool} (hx : xs[k]? = some x) (hp : p x = true) : xs.any p = true := List.any_eq_true.2 ⟨x, List.mem_of_getElem? hx, hp⟩
set_option maxHeartbeats 1000000 in
theorem indexI_any {S : Foot} {A : Option Addr} {n c : Nat} {xs : List Int} (p : Int → Bool) (g : Nat) (lb : Array Value) (eg : ∀ args w, (callFunc g args).run Tryz.prog w = .ok (.enter g args) w) (w : World) (h : Ints S w A n xs)
  (hp : ∀ (x : Int) (W : World), Below w.heap.size w W → Calls Tryz.prog g (#[.int .i64 x] ++ lb) W fun e W' => e = .returned (.bool (p x)) ∧ W = W') :
  Calls Tryz.prog 119 #[.slice A n c, .func (.func g) #[] lb] w fun e w' => (∃ r : Int, e = .returned (.int .i64 r) ∧ Hid (decide (0 ≤ r) = xs.any p)) ∧ w = w' := by
 have hle := h.le
 have Hn0 := Lib.hid h.len
 have HP := Lib.hid hp
 clear hp
 go_enter Tryz.func119, Tryz.ntmps119
 go_wp2
 go_loop [5, 8] (fun _ i => ∃ k : Nat, k ≤ n ∧ i = .int .i64 k ∧ Hid ((xs.take k).any p = false)) (fun _ i => n - (intOf i).toNat)
 case atStart => exact ⟨0, Nat.zero_le _, rfl, rfl⟩
 case round =>
  obtain ⟨k, hk, rfl, Hk⟩ := hrel
  by_cases hlt : k < n
  ·have hki : (k : Int) < n := by omega
   obtain ⟨b, off, x, rfl, hcell, Hx⟩ := h.get hlt
   have hcall := HP.out x w (Below.refl _ _)
   cases hq : p x with
   | true =>
    have HQ := Lib.hid hq
    rw [hq] at hcall
    clear hq
    go_wp2_with (go_at_fn g; refine hcall.mono ?_; rintro e w' ⟨rfl, rfl⟩)
    go_ret
    exact ⟨⟨_, rfl, by rw [Hid, any_yes Hx.out HQ.out]; simp⟩, rfl⟩
   | false =>
    have HQ := Lib.hid hq
    rw [hq] at hcall
    clear hq
    go_wp2_with (go_at_fn g; refine hcall.mono ?_; rintro e w' ⟨rfl, rfl⟩)
    go_round
    case rel => exact ⟨k + 1, by omega, by go_num, any_take_no Hx.out Hk.out HQ.out⟩
    case measure => simp [intOf]; omega
  obtain rfl : k = n := by omega
  go_wp2
  go_ret
  refine ⟨⟨_, rfl, ?_⟩, rfl⟩
  have := Hk.out
  rw [List.take_of_length_le (by rw [Hn0.out]; exact Nat.le_refl _)] at this
  rw [Hid, this]; rfl
theorem containsI_any {S : Foot} {A : Option Addr} {n c : Nat} {xs : List Int} (p : Int → Bool) (g : Nat) (lb : Array Value) (eg : ∀ args w, (callFunc g args).run Tryz.prog w = .ok (.enter g args) w) (w : World) (h : Ints S w A n xs)
  (hp : ∀ (x : Int) (W : World), Below w.heap.size w W → Calls Tryz.prog g (#[.int .i64 x] ++ lb) W fun e W' => e = .returned (.bool (p x)) ∧ W = W') :
  Calls Tryz.prog 89 #[.slice A n c, .func (.func g) #[] lb] w fun e w' => e = .returned (.bool (xs.any p)) ∧ w = w' := by
 have hle := h.le
 have HP := Lib.hid hp
 have HG := Lib.hid eg
 clear hp eg
 go_enter Tryz.func89, Tryz.ntmps89
 go_wp2_with (go_at_call 119; refine (indexI_any p g lb HG.out _ h HP.out).mono ?_; rintro e w' ⟨⟨r, rfl, Hr⟩, rfl⟩)
 go_ret
 exact ⟨ret_bool Hr.out, rfl⟩
theorem app11 (a b : Value) : (#[a] ++ #[b] : Array Value) = #[a, b] := rfl
theorem app12 (a b c : Value) : (#[a] ++ #[b, c] : Array Value) = #[a, b, c] := rfl
theorem SliceOf.take {α : Type} {R : Rd α} {m : Nat} {S : Foot} {w : World} {A : Option Addr} {n : Nat} {xs : List α} (h : SliceOf R m S w A n xs) {k : Nat} (hk : k ≤ n) : SliceOf R m S w A k (xs.take k) :=
 ⟨by rw [List.length_take, h.1]; omega, Nat.le_trans hk h.2.1, fun j x hx => by
  rw [List.getElem?_take] at hx
  split at hx
  ·exact h.2.2 j x hx
  cases hx⟩
theorem streq_t {s t : ByteArray} (h : s.data.toList = t.data.toList) : (s.toList == t.toList) = true := by rw [ByteArray.toList_eq, ByteArray.toList_eq]; simpa using h
theorem streq_f {s t : ByteArray} (h : s.data.toList ≠ t.data.toList) : (s.toList == t.toList) = false := by rw [ByteArray.toList_eq, ByteArray.toList_eq]; simpa using h
theorem Ints.one {w : World} {g : Nat} {x : Int} (h : w.cell? ⟨g, 0, none⟩ = some (.int .i64 x)) : Ints (fun _ => True) w (some ⟨g, 0, none⟩) 1 [x] := by
 refine ⟨rfl, by decide, fun k y hk => ?_⟩
 have hk0 : k = 0 := by have := of_getq' hk; simp at this; omega
 subst hk0
 simp at hk; subst hk
 refine ⟨g, 0, [.int .i64 x], rfl, trivial, World.block_lt_of_cell? w _ h, rfl, fun j u hu => ?_⟩
 have hj : j = 0 := by have := of_getq' hu; simp at this; omega
 subst hj
 simp at hu; subst hu
 simpa using h
theorem Ints.two {w : World} {g : Nat} {x y : Int} (h : w.cell? ⟨g, 0, none⟩ = some (.int .i64 x)) (h2 : w.cell? ⟨g, 1, none⟩ = some (.int .i64 y)) : Ints (fun _ => True) w (some ⟨g, 0, none⟩) 2 [x, y] := by
 refine ⟨rfl, by decide, fun k z hk => ?_⟩
 have hk0 : k = 0 ∨ k = 1 := by have := of_getq' hk; simp at this; omega
 rcases hk0 with rfl | rfl
 all_goals
  simp at hk; subst hk
  refine ⟨g, 0, _, rfl, trivial, World.block_lt_of_cell? w _ h, rfl, fun j u hu => ?_⟩
  have hj : j = 0 := by have := of_getq' hu; simp at this; omega
  subst hj
  simp at hu; subst hu
  first | (simpa using h) | (simpa using h2)
theorem inB_iff {n lo hi : Int} : inB n lo hi = true ↔ lo ≤ n ∧ n ≤ hi := by simp [inB]
def firstRF : Code → Option (Code × Code)
 | .rangeFunc _ _ a b => some (a, b)
 | .loop c => firstRF c
 | .seq a b => match firstRF a with
  | some c => some c
  | none => firstRF b
 | .block _ c => firstRF c
 | .scope c => firstRF c
 | .cond _ a b => match firstRF a with
  | some c => some c
  | none => firstRF b
 | _ => none
def mixF (new old : Nat → Int × Int) (j : Nat) : Nat → Int × Int := fun a => if a < j then new a else old a
theorem mixF_at (new old : Nat → Int × Int) (j : Nat) : mixF new old j j = old j := by simp [mixF]
theorem mixF_upd (new old : Nat → Int × Int) (j : Nat) : updF (mixF new old j) j (new j) = mixF new old (j + 1) := by
 funext a
 unfold updF mixF
 by_cases h : a = j
 ·subst h; simp
 rw [if_neg h]
 by_cases h2 : a < j
 ·rw [if_pos h2, if_pos (by omega)]
 rw [if_neg h2, if_neg (by omega)]
theorem min_if (a b : Int) : (if b < a then b else a) = min a b := by split <;> omega
theorem max_if (a b : Int) : (if a < b then b else a) = max a b := by split <;> omega
def firstLoopC : Code → Option Code
 | .loop c => some c
 | .seq a b => match firstLoopC a with
  | some c => some c
  | none => firstLoopC b
 | .block _ c => firstLoopC c
 | .scope c => firstLoopC c
 | .cond _ a b => match firstLoopC a with
  | some c => some c
  | none => firstLoopC b
 | _ => none
theorem ret_span {fn : Func} {p u : Tmp} (h : fn.results = #[.cell p 27, .tmp u]) {tmps : Array Value} {g : Nat} {lo hi e : Int} {w : World} (hp : tmps.getD p undef = .pointer (some ⟨g, 0, none⟩)) (hu : tmps.getD u undef = .int .i64 e)
  (h0 : w.cell? ⟨g, 0, none⟩ = some (.int .i64 lo)) (h1 : w.cell? ⟨g, 1, none⟩ = some (.int .i64 hi)) : (results fn tmps).run Tryz.prog w = .ok (.tuple #[.agg #[.int .i64 lo, .int .i64 hi], .int .i64 e]) w := by
 rw [results_cell_tmp h, hp, hu]
 simp [go_sem, h0, h1]
structure Mould where
 name : List UInt8
 slo : Int
 shi : Int
 wlo : Int
 whi : Int
 casts : Int
structure Shop where
 klo : Int
 khi : Int
 moulds : List Mould
structure SeenC where
 mould : Int
 cast : Int
 lo : Int
 hi : Int
def dMould : Mould := ⟨[], 0, 0, 0, 0, 0⟩
def dSeenC : SeenC := ⟨0, 0, 0, 0⟩
def mouldN (x : Mould) : Int :=
 if !inB x.slo 1 20000 || !inB x.shi 1 20000 || !inB x.wlo 0 20 || !inB x.whi 0 20 || !inB x.casts 1 8 then 7
 else if !inB x.shi x.slo (x.slo + 12) || !inB x.whi x.wlo (x.wlo + 3) then 2 else 0
def mouldE (l : List Mould) (k : Nat) : Int :=
 let x := l.getD k dMould
 let e := fresh x.name ((l.take k).map (·.name))
 if e ≠ 0 then e else mouldN x
def check7 (s : Shop) : Int × Int × Int :=
 if !inB s.klo 0 100 || !inB s.khi 0 100 then (1, 0, 7)
 else if !inB s.khi s.klo (s.klo + 6) then (1, 0, 2)
 else if ¬ (1 ≤ s.moulds.length ∧ s.moulds.length ≤ 4) then (1, 0, 3)
 else match firstErr (mouldE s.moulds) s.moulds.length with
 | some (k, e) => (2, k, e)
 | none => (0, 0, 0)
def err7 (s : Shop) : Int := (check7 s).2.2
def there7 (s : Shop) (m c : Int) : Bool := inB m 0 ((s.moulds.length : Int) - 1) && inB c 0 ((s.moulds.getD m.toNat dMould).casts - 1)
def seenE7 (s : Shop) (l : List SeenC) (k : Nat) : Int :=
 let x := l.getD k dSeenC
 if !there7 s x.mould x.cast then 4 else rangeE ⟨x.lo, x.hi⟩ 0 20000
def seen7 (s : Shop) (l : List SeenC) : Int × Int :=
 if err7 s ≠ 0 then (0, err7 s) else if 6 < l.length then (0, 3) else
 match firstErr (seenE7 s l) l.length with
 | some (k, e) => (k, e)
 | none => (0, 0)
def made7 (size wear cast shrink : Int) : Int := (size + wear * cast) - ((size + wear * cast) * shrink).tdiv 1000
def twoOk7 (l : List SeenC) (m : Nat) (k a w : Int) : Bool := l.all fun y => !(y.mould == (m : Int)) || inB (made7 a w y.cast k) y.lo y.hi
def sizeN (x : Mould) : Nat := (x.shi - x.slo + 1).toNat
def wearN (x : Mould) : Nat := (x.whi - x.wlo + 1).toNat
def pairC (x : Mould) (i : Nat) : Int × Int := (x.slo + ((i / wearN x : Nat) : Int), x.wlo + ((i % wearN x : Nat) : Int))
def twosC (s : Shop) (l : List SeenC) (m : Nat) (k : Int) : List (Int × Int) := ((List.range (sizeN (s.moulds.getD m dMould) * wearN (s.moulds.getD m dMould))).map (pairC (s.moulds.getD m dMould))).filter fun p => twoOk7 l m k p.1 p.2
def knownB (s : Shop) (l : List SeenC) (k : Int) : Bool := (List.range s.moulds.length).all fun m => !(twosC s l m k).isEmpty
def shrinkL (s : Shop) : List Int := (List.range (s.khi - s.klo + 1).toNat).map fun i : Nat => s.klo + (i : Int)
def known7 (s : Shop) (l : List SeenC) : List Int := (shrinkL s).filter (knownB s l)
def madeL (s : Shop) (l : List SeenC) (m : Nat) (c : Int) : List Int := (known7 s l).flatMap fun k => (twosC s l m k).map fun p => made7 p.1 p.2 c k
def size7 (s : Shop) (l : List SeenC) (m : Nat) (c : Int) : Int × Int := endsOf (madeL s l m c)
def agreeE7 (s : Shop) (l : List SeenC) (e : Int) : Int := if e = 0 ∧ known7 s l = [] then 9 else e
def sizesR (s : Shop) (l : List SeenC) (m c : Int) : (Int × Int) × Int :=
 if (seen7 s l).2 ≠ 0 then ((0, 0), (seen7 s l).2) else
 if !there7 s m c then ((0, 0), 4) else
 if known7 s l = [] then ((0, 0), 9) else (size7 s l m.toNat c, 0)
def shrinksR (s : Shop) (l : List SeenC) : List Int × Int :=
 if (seen7 s l).2 ≠ 0 then ([], (seen7 s l).2) else
 if known7 s l = [] then ([], 9) else (known7 s l, 0)
def placesL (s : Shop) : List (Nat × Nat) := (List.range s.moulds.length).flatMap fun m => (List.range (s.moulds.getD m dMould).casts.toNat).map fun c => (m, c)
def fit7 (s : Shop) (l : List SeenC) (a z : Int) : List (Nat × Nat) := (placesL s).filter fun p => decide (a ≤ (size7 s l p.1 p.2).1) && decide ((size7 s l p.1 p.2).2 ≤ z)
def fitsR (s : Shop) (l : List SeenC) (a z : Int) : List (Nat × Nat) × Int :=
 if (seen7 s l).2 ≠ 0 then ([], (seen7 s l).2) else
 if rangeE ⟨a, z⟩ 0 20000 ≠ 0 then ([], rangeE ⟨a, z⟩ 0 20000) else
 if known7 s l = [] then ([], 9) else (fit7 s l a z, 0)
end Go.Proofs.YtcnebekkbfajbaaGreat
