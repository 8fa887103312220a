/- A map from things to numbers, as a function; the casts as keys. -/
import Derived.Maps.RangeWalk
import Derived.DeepKeys4
import Derived.Test.YtpdldmichpmgmaaGreatCCastHalls
import Derived.Test.YtpdldmichpmgmaaGreatCKFitss
import Derived.Test.YtpdldmichpmgmaaGreatCMap
import Derived.Test.YtpdldmichpmgmaaGreatCRange
set_option linter.unusedVariables false
set_option linter.unusedSimpArgs false
set_option linter.all false
namespace Go.Proofs.YtpdldmichpmgmaaGreat
open Go.RowKit Go.Shelf Go.Maps
open Go.WideMaps (KeyLaw)
open Go.ChangeMaps (setBlock)

/-- a map from things to numbers: which number a thing has, if any -/
structure MapG (P : Program) (k e : TypeId) {α : Type} (key : α → Value) (w : World) (b n : Nat) (F : α → Option Int) : Prop where
  ex : ∃ D : DataW Unit, w.ownsMap P k (plainElem P e) b n D ∧ ∀ (x : α) (kl : Lit), keyOf P k (key x) = some kl → ∀ zd : DataW Unit, D.atKey kl zd = match F x with
    | some c => .lit (.int .i64 c)
    | none => zd
section
variable {P : Program} {t k e : TypeId} {w : World} {b n : Nat} {α : Type} {key : α → Value} {F : α → Option Int}
theorem MapG.new (w : World) : MapG P k e key (w.alloc (.map #[] 0)) w.heap.size 0 (fun _ => none) := ⟨_, World.ownsMap_made _ _ _ _, fun _ _ _ _ => rfl⟩
theorem MapG.at {w' : World} (h : MapG P k e key w b n F) (hb : w'.heap[b]? = w.heap[b]?) : MapG P k e key w' b n F := by
  obtain ⟨D, h1, h2⟩ := h.ex
  exact ⟨D, ownsMap_at h1 hb, h2⟩
theorem MapG.lt (h : MapG P k e key w b n F) : b < w.heap.size := by obtain ⟨D, h1, _⟩ := h.ex; exact h1.lt
theorem MapG.mono (h : MapG P k e key w b n F) {n' : Nat} (hn : n ≤ n') : MapG P k e key w b n' F := by obtain ⟨D, h1, h2⟩ := h.ex; exact ⟨D, h1.mono hn, h2⟩
theorem MapG.congr {F' : α → Option Int} (h : MapG P k e key w b n F) (hg : ∀ x, F x = F' x) : MapG P k e key w b n F' := by rw [← show F = F' from funext hg]; exact h
theorem MapG.look (h : MapG P k e key w b n F) (K : KeyLaw P k) (he : P.underlying e = some (.int .i64)) (ht : P.underlying t = some (.map k e)) (hz : ∀ u : World, (zeroValue e).run P u = .ok (.int .i64 0) u) (x : α) (hkey : ∃ kl, keyOf P k (key x) = some kl) (c : Bool) :
    (Instr.lookup t (.map (some b)) (key x) c).run P w = .ok (if c then .tuple #[.int .i64 ((F x).getD 0), .bool (F x).isSome] else .int .i64 ((F x).getD 0)) w := by
  obtain ⟨D, h1, h2⟩ := h.ex
  obtain ⟨kl, hkl⟩ := hkey
  have KK := Keyed.of_law K
  have h3 := h2 x kl hkl
  obtain ⟨es, clock, hb, F1, hs, rfl⟩ := id h1
  rcases Maps.fit_look (w := w) c KK ht (hz w) hb F1 hkl with ⟨hrun, _, hat⟩ | ⟨e0, y, _, _, hrun, hRv, hat, _⟩
  · cases hF : F x with
    | none => rw [hrun]; rfl
    | some d =>
      have h4 := h3 (.lit (.int .i64 (d + 1)))
      rw [hat, hF] at h4
      injection h4 with h4
      injection h4 with _ h4
      omega
  · obtain ⟨a, hv, hy, _⟩ := plainElem_int_inv he hRv
    cases hF : F x with
    | none =>
      have h4 := h3 (.lit (.int .i64 (a + 1)))
      rw [hat, hF, hy] at h4
      injection h4 with h4
      injection h4 with _ h4
      omega
    | some d =>
      have h4 := h3 (.lit (.int .i64 0))
      rw [hat, hF, hy] at h4
      injection h4 with h4
      injection h4 with _ h4
      rw [hrun, hv, h4]; rfl
theorem MapG.put [DecidableEq α] (hinj : ∀ x y, key x = key y → x = y) (h : MapG P k e key w b n F) (K : KeyLaw P k) (he : P.underlying e = some (.int .i64)) (ht : P.underlying t = some (.map k e)) (hn : n < 4611686018427387904) (x : α) (hkey : ∃ kl, keyOf P k (key x) = some kl) (a : Int) (ha : (Lit.int .i64 a).wf = true) :
    ∃ w', (Instr.mapUpdate t (.map (some b)) (key x) (.int .i64 a)).run P w = .ok () w' ∧ MapG P k e key w' b (n + 1) (fun y => if x = y then some a else F y) ∧ w.grownBy w' (some b) := by
  obtain ⟨D, h1, h2⟩ := h.ex
  obtain ⟨kl, hkl⟩ := hkey
  have KK := Keyed.of_law K
  obtain ⟨w', hrun, h3, h4⟩ := h1.update KK ht (Nat.lt_of_lt_of_le hn (by unfold maxLen; omega)) hkl (plainElem_int (a := a) he ha)
  refine ⟨w', hrun, ⟨_, h3, fun y kl' hkl' zd => ?_⟩, h4⟩
  by_cases hy : kl' = kl
  · subst hy
    have hxy : x = y := hinj _ _ (K.inj hkl hkl')
    rw [if_pos hxy]
    exact atKey_put_same h1.isMap (KK.key hkl) _ _
  · have hxy : ¬ x = y := fun e => by
      subst e
      rw [hkl] at hkl'
      injection hkl' with hkl'
      exact hy hkl'.symm
    rw [if_neg hxy, atKey_put_other hy]
    exact h2 y kl' hkl' zd
/-- one more of a thing: what its operations do, in any order -/
theorem MapG.count [DecidableEq α] (hinj : ∀ x y, key x = key y → x = y) (h : MapG P k e key w b n F) (K : KeyLaw P k) (he : P.underlying e = some (.int .i64)) (ht : P.underlying t = some (.map k e)) (hz : ∀ u : World, (zeroValue e).run P u = .ok (.int .i64 0) u)
    (hn : n < 4611686018427387904) (x : α) (hkey : ∃ kl, keyOf P k (key x) = some kl) {c : Int} (hc : (F x).getD 0 = c) (hwf : (Lit.int .i64 (c + 1)).wf = true) :
    ∃ (st : Nat) (o1 : Obj),
      (∀ w2 : World, (w2.heap[b]? = w.heap[b]? ∨ w2.heap[b]? = some o1) → (Instr.mapEntry t (.map (some b)) (key x)).run P w2 = .ok (.tuple #[.int .i64 c, goInt st]) (setBlock w2 b o1)) ∧
      (∀ w2 : World, (w2.heap[b]? = w.heap[b]? ∨ w2.heap[b]? = some o1) → (Instr.lookup t (.map (some b)) (key x) false).run P w2 = .ok (.int .i64 c) w2) ∧
      (∀ w2 : World, w2.heap[b]? = some o1 → ∃ w3, (Instr.entryStore t (.map (some b)) (goInt st) (.int .i64 (c + 1))).run P w2 = .ok () w3 ∧ w2.grownBy w3 (some b) ∧ MapG P k e key w3 b (n + 1) (fun y => if x = y then some (c + 1) else F y)) := by
  obtain ⟨D, h1, h2⟩ := h.ex
  obtain ⟨kl, hkl⟩ := hkey
  obtain ⟨c', st, es1, clock1, e1, _, e3, e4, e5⟩ := entry_own K ht he hz h1 (Nat.lt_of_lt_of_le hn (by unfold maxLen; omega)) hkl
  have hcc : c' = c := by
    have h3 := h2 x kl hkl (.lit (.int .i64 0))
    rw [e1] at h3
    rw [← hc]
    cases hF : F x with
    | none => rw [hF] at h3; injection h3 with h3; injection h3
    | some d => rw [hF] at h3; injection h3 with h3; injection h3
  subst hcc
  refine ⟨st, .map es1 clock1, e3, e4, fun w2 hw2 => ?_⟩
  obtain ⟨w3, r1, r2, r3⟩ := e5 w2 (c' + 1) hw2 hwf
  have KK := Keyed.of_law K
  refine ⟨w3, r1, r3, ⟨_, r2, fun y kl' hkl' zd => ?_⟩⟩
  by_cases hy : kl' = kl
  · subst hy
    have hxy : x = y := hinj _ _ (K.inj hkl hkl')
    rw [if_pos hxy]
    exact atKey_put_same h1.isMap (KK.key hkl) _ _
  · have hxy : ¬ x = y := fun e => by
      subst e
      rw [hkl] at hkl'
      injection hkl' with hkl'
      exact hy hkl'.symm
    rw [if_neg hxy, atKey_put_other hy]
    exact h2 y kl' hkl' zd
end
theorem laidOutP7 : laidOutB Tryz.prog = true := by kernel_rfl
theorem keyP_law : WideMaps.KeyLaw Tryz.prog 54 := deep_law_laid laidOutP7 (m := 2) (by omega) (of_decide_eq_true (by kernel_rfl)) (by kernel_rfl) (by rw [Tryz.underlying54])
def kvP (x : Nat × Nat) : Value := .agg #[.int .i64 (x.1 : Int), .int .i64 (x.2 : Int)]
theorem kvP_inj (x y : Nat × Nat) (h : kvP x = kvP y) : x = y := by
  simp [kvP] at h
  exact Prod.ext (by omega) (by omega)
theorem keyP_type : Tryz.prog.keyType 54 = true := by kernel_rfl
theorem cellsP2 : Tryz.prog.cellsOf 54 = 2 := by kernel_rfl
theorem cellsP1 : Tryz.prog.cellsOf 3 = 1 := by kernel_rfl
theorem types_size7 : ∃ d, Tryz.prog.types.size = d + 1 := ⟨Tryz.prog.types.size - 1, by have : 0 < Tryz.prog.types.size := of_decide_eq_true (by kernel_rfl); omega⟩
/-- a key of two ints in a struct -/
theorem pair_key {P : Program} {k i : TypeId} {f1 f2 : Field} (hu : P.underlying k = some (.struct #[f1, f2])) (hi : P.underlying i = some (.int .i64)) (hk : P.keyType k = true) (hc : P.cellsOf k = 2) (hci : P.cellsOf i = 1) (hd : ∃ d, P.types.size = d + 1)
    (t1 : f1.type = i) (t2 : f2.type = i) (o1 : f1.offset = 0) (o2 : f2.offset = 1) (m1 : f1.name ≠ "_") (m2 : f2.name ≠ "_") {a b : Int} (g1 : (Lit.int .i64 a).wf = true) (g2 : (Lit.int .i64 b).wf = true) :
    ∃ kl, keyOf P k (.agg #[.int .i64 a, .int .i64 b]) = some kl := by
  obtain ⟨d, hd⟩ := hd
  rw [← Option.isSome_iff_exists, keyOf, hu]
  simp only [hk, hd, Value.formed, hu, hc, Program.keyLits, Value.cells]
  simp [t1, t2, o1, o2, m1, m2, hci, hi, g1, g2, hc]
theorem keyP_ok (x : Nat × Nat) (h1 : x.1 < 1000) (h2 : x.2 < 1000) : ∃ kl, keyOf Tryz.prog 54 (kvP x) = some kl :=
  pair_key Tryz.underlying54 Tryz.underlying3 keyP_type cellsP2 cellsP1 types_size7 rfl rfl rfl rfl (by decide) (by decide) (wf_i64 (by omega) (by omega)) (wf_i64 (by omega) (by omega))
theorem zeroInt7 (u : World) : (zeroValue 3).run Tryz.prog u = .ok (.int .i64 0) u := by kernel_rfl
abbrev MapP := MapG Tryz.prog 54 3 kvP
end Go.Proofs.YtpdldmichpmgmaaGreat

namespace Go.Proofs.YtpdldmichpmgmaaGreat
open Go.RowKit Go.Shelf

theorem Ords.get {S : Foot} {w : World} {A : Option Addr} {n k : Nat} {xs : List (List (Nat × Nat))} (h : Ords S w A n xs) (hk : k < n) :
    ∃ (b off : Nat) (A1 : Option Addr) (n1 c1 : Nat) (x : List (Nat × Nat)), A = some ⟨b, off, none⟩ ∧ b < w.heap.size ∧ w.cell? ⟨b, off + k, none⟩ = some (.slice A1 n1 c1) ∧ Pls S w A1 n1 x ∧ Hid (xs[k]? = some x) := by
  have hlt : k < xs.length := by rw [h.1]; exact hk
  obtain ⟨b, off, vs, hA, _, hb, ⟨A1, n1, c1, rfl, hs⟩, hc⟩ := h.2.2 k xs[k] (List.getElem?_eq_getElem hlt)
  exact ⟨b, off, A1, n1, c1, xs[k], hA, hb, by simpa using hc 0 _ rfl, hs, List.getElem?_eq_getElem hlt⟩
def metF (met : List Pl) (a : Pl) : Option Int := if a ∈ met then some 1 else none
/-- what the closure of a seek holds -/
structure GBox (w : World) (go gmo gof gsk gm : Nat) (o : List (List Pl)) (mo : Int) (S : Foot) (A : Option Addr) (n c : Nat) : Prop where
  ob : Blk w go 68 #[.slice A n c]
  ord : Ords S w A n o
  mo : Blk w gmo 3 #[.int .i64 mo]
  of : Blk w gof 119 #[.map (some gm)]
  sk : Blk w gsk 120 #[.func (.func 63) #[] #[.pointer (some ⟨go, 0, none⟩), .pointer (some ⟨gmo, 0, none⟩), .pointer (some ⟨gof, 0, none⟩), .pointer (some ⟨gsk, 0, none⟩)]]
/-- a block that is none of the closure's -/
def Clr (go gmo gof gsk : Nat) (S : Foot) (k : Nat) : Prop := go ≠ k ∧ gmo ≠ k ∧ gof ≠ k ∧ gsk ≠ k ∧ ¬ S k
theorem GBox.kept {w w' : World} {go gmo gof gsk gm : Nat} {o : List (List Pl)} {mo : Int} {S M : Foot} {A : Option Addr} {n c : Nat} (h : GBox w go gmo gof gsk gm o mo S A n c) (k : Kept M w w') (hM : ∀ k, M k → Clr go gmo gof gsk S k) : GBox w' go gmo gof gsk gm o mo S A n c :=
  ⟨(k.block _ h.ob.lt (fun e => (hM _ e).1 rfl)).trans h.ob, h.ord.keep OrdR.good (k.keeps fun j hj hm => (hM _ hm).2.2.2.2 hj), (k.block _ h.mo.lt (fun e => (hM _ e).2.1 rfl)).trans h.mo, (k.block _ h.of.lt (fun e => (hM _ e).2.2.1 rfl)).trans h.of, (k.block _ h.sk.lt (fun e => (hM _ e).2.2.2.1 rfl)).trans h.sk⟩
/-- the maps of a seek -/
structure SeekS (gm gmet : Nat) (univ : List Pl) (N : Nat) (w : World) (n1 : Nat) (f : List (Pl × Int)) (met : List Pl) : Prop where
  m1 : MapP w gm n1 (ofL f)
  m2 : MapP w gmet met.length (metF met)
  nd : met.Nodup
  sub : ∀ a ∈ met, a ∈ univ
  fok : ∀ a k, ofL f a = some k → k < (N : Int) ∧ -1 ≤ k
def SeekT (gm gmet : Nat) (univ : List Pl) (N : Nat) (w : World) (n1 : Nat) (met : List Pl) (R : Bool × List (Pl × Int) × List Pl) (e : Ending) (w' : World) : Prop :=
  e = .returned (.bool R.1) ∧ Kept (fun k => k = gm ∨ k = gmet) w w' ∧ ∃ n1', n1' + met.length ≤ n1 + R.2.2.length ∧ met.length ≤ R.2.2.length ∧ SeekS gm gmet univ N w' n1' R.2.1 R.2.2
/-- the loop of a seek -/
structure SeekI (o : List (List Pl)) (ok : Pl → Bool) (gm gmet : Nat) (univ : List Pl) (L : Nat) (w : World) (n1 n i : Nat) (x : List Pl) (f : List (Pl × Int)) (met : List Pl) (p np n1p : Nat) (fp : List (Pl × Int)) (metp : List Pl) (wr : World) : Prop where
  kept : Kept (fun k => k = gm ∨ k = gmet) w wr
  s : SeekS gm gmet univ o.length wr n1p fp metp
  eq : seekL o ok n x i f met = seekL o ok np (x.drop p) i fp metp
  fuel : (x.drop p).length + (univ.length - metp.length) * (L + 1) ≤ np
  le : met.length ≤ metp.length
  n1 : n1p + met.length ≤ n1 + metp.length
theorem SeekS.bl {gm gmet : Nat} {univ : List Pl} {N : Nat} {w w' : World} {n1 : Nat} {f : List (Pl × Int)} {met : List Pl} (h : SeekS gm gmet univ N w n1 f met) (b : Below w.heap.size w w') : SeekS gm gmet univ N w' n1 f met :=
  ⟨h.m1.at (b.block _ h.m1.lt), h.m2.at (b.block _ h.m2.lt), h.nd, h.sub, h.fok⟩
section
variable {o : List (List Pl)} {ok : Pl → Bool} {n i : Nat} {a : Pl} {r : List Pl} {f : List (Pl × Int)} {met : List Pl}
theorem seek_skip (h : ok a = false ∨ a ∈ met) : seekL o ok (n + 1) (a :: r) i f met = seekL o ok n r i f met := by
  rw [seekL, if_pos]
  rcases h with h | h <;> simp [h]
theorem seek_free (h1 : ok a = true) (h2 : a ∉ met) (h3 : ofL f a = none) : seekL o ok (n + 1) (a :: r) i f met = (true, (a, (i : Int)) :: f, a :: met) := by
  rw [seekL, if_neg (by simp [h1, h2]), h3]
theorem seek_fixed {k : Int} (h1 : ok a = true) (h2 : a ∉ met) (h3 : ofL f a = some k) (h4 : k < 0) : seekL o ok (n + 1) (a :: r) i f met = seekL o ok n r i f (a :: met) := by
  rw [seekL, if_neg (by simp [h1, h2]), h3]
  dsimp only
  rw [if_pos h4]
theorem seek_yes {k : Nat} (h1 : ok a = true) (h2 : a ∉ met) (h3 : ofL f a = some (k : Int)) (h4 : (seekL o ok n (o.getD k []) k f (a :: met)).1 = true) :
    seekL o ok (n + 1) (a :: r) i f met = (true, (a, (i : Int)) :: (seekL o ok n (o.getD k []) k f (a :: met)).2.1, (seekL o ok n (o.getD k []) k f (a :: met)).2.2) := by
  rw [seekL, if_neg (by simp [h1, h2]), h3]
  dsimp only
  rw [if_neg (by omega), Int.toNat_natCast, if_pos h4]
theorem seek_no {k : Nat} (h1 : ok a = true) (h2 : a ∉ met) (h3 : ofL f a = some (k : Int)) (h4 : (seekL o ok n (o.getD k []) k f (a :: met)).1 = false) :
    seekL o ok (n + 1) (a :: r) i f met = seekL o ok n r i (seekL o ok n (o.getD k []) k f (a :: met)).2.1 (seekL o ok n (o.getD k []) k f (a :: met)).2.2 := by
  rw [seekL, if_neg (by simp [h1, h2]), h3]
  dsimp only
  rw [if_neg (by omega), Int.toNat_natCast, if_neg (by rw [h4]; decide)]
end
theorem metF_cons (a : Pl) (met : List Pl) (y : Pl) : (if a = y then some 1 else metF met y) = metF (a :: met) y := by
  unfold metF
  by_cases h : a = y
  · rw [if_pos h, if_pos (by rw [h]; exact List.mem_cons_self)]
  · rw [if_neg h]
    by_cases h2 : y ∈ met
    · rw [if_pos h2, if_pos (List.mem_cons_of_mem _ h2)]
    · rw [if_neg h2, if_neg (fun h3 => by rcases List.mem_cons.1 h3 with h3 | h3; exact h h3.symm; exact h2 h3)]
theorem eg_SK : Enters Tryz.prog 63 := enters_of Tryz.func63 (by kernel_rfl) rfl

section
variable {o : List (List Pl)} {ok : Pl → Bool} {univ : List Pl} {L go gmo gof gsk gm gmet n c : Nat} {A : Option Addr} {S : Foot} {mo : Int}
set_option maxRecDepth 100000 in
set_option maxHeartbeats 4000000 in
theorem seek_any (hu : ∀ j, (o.getD j []).length ≤ L ∧ ∀ a ∈ o.getD j [], a ∈ univ) (hpl : ∀ a ∈ univ, a.1 < 4 ∧ a.2 < 8) (hU : univ.length ≤ 1000) (hL : L ≤ 1000) (hN : o.length ≤ 6) (hok : ∀ a ∈ univ, bits BinOp.and .i64 (mo / 2 ^ a.1) 1 = if ok a then 1 else 0)
    (hC1 : Clr go gmo gof gsk S gm) (hC2 : Clr go gmo gof gsk S gmet) (hne : gm ≠ gmet) :
    ∀ (D n0 i : Nat) (f : List (Pl × Int)) (met : List Pl) (n1 : Nat) (w : World), univ.length - met.length < D → GBox w go gmo gof gsk gm o mo S A n c → SeekS gm gmet univ o.length w n1 f met → i < o.length → (o.getD i []).length + (univ.length - met.length) * (L + 1) ≤ n0 → n1 + univ.length ≤ 1000000 + met.length →
    Calls Tryz.prog 63 #[.int .i64 (i : Int), .map (some gmet), .pointer (some ⟨go, 0, none⟩), .pointer (some ⟨gmo, 0, none⟩), .pointer (some ⟨gof, 0, none⟩), .pointer (some ⟨gsk, 0, none⟩)] w fun e w' => SeekT gm gmet univ o.length w n1 met (seekL o ok n0 (o.getD i []) i f met) e w' := by
  intro D
  induction D with
  | zero => intro n0 i f met n1 w h; omega
  | succ D ih =>
    intro n0 i f met n1 w hD gB hS hi hn hn1
    have hM : ∀ k, (k = gm ∨ k = gmet) → Clr go gmo gof gsk S k := fun k h => by rcases h with rfl | rfl <;> assumption
    have hin : i < n := by rw [← gB.ord.len]; exact hi
    obtain ⟨b, off, A1, m, c1, x, rfl, hb, hd, hP, Hx⟩ := Ords.get gB.ord hin
    have hx : o.getD i [] = x := getD_of Hx.out
    have hml := hP.len
    have hmL : m ≤ 1000 := by
      rw [← hml, ← hx]
      exact Nat.le_trans (hu i).1 hL
    rw [hx] at hn ⊢
    have I0 : SeekI o ok gm gmet univ L w n1 n0 i x f met 0 n0 n1 f met w := ⟨Kept.refl _ _, hS, rfl, hn, Nat.le_refl _, Nat.le_refl _⟩
    have HG := Lib.hid gB
    have HP := Lib.hid hP
    have o0 := gB.ob.cell 0
    have ol := gB.ob.lt
    have hi6 : (i : Int) < n := by omega
    have HFU := Lib.hid hn
    have HN1 := Lib.hid hn1
    have HX := Lib.hid hx
    have HD := Lib.hid hD
    have HIH := Lib.hid ih
    have HUU := Lib.hid hu
    have HPL := Lib.hid hpl
    have HM := Lib.hid hM
    have HML := Lib.hid hml
    have HOK := Lib.hid hok
    clear gB hP hn hn1 hx hD ih hu hpl hM hml hS hok
    go_enter Tryz.func63, Tryz.ntmps63
    go_wp2_with fail
    clear hd o0 ol hb
    go_loopw [10, 11, 12, 18] (fun _ _ _ i' wr => ∃ (p np n1p : Nat) (fp : List (Pl × Int)) (metp : List Pl), i' = .int .i64 p ∧ p ≤ m ∧ Hid (SeekI o ok gm gmet univ L w n1 n0 i x f met p np n1p fp metp wr)) (fun _ _ _ i' _ => m - (intOf i').toNat)
    case atStart => exact ⟨0, n0, n1, f, met, rfl, Nat.zero_le _, I0⟩
    case round =>
      clear I0
      obtain ⟨p, np, n1p, fp, metp, rfl, hp, HI⟩ := hrel
      by_cases hlt : p < m
      · have hpi : (p : Int) < m := by omega
        have HB : Hid (GBox wr go gmo gof gsk gm o mo S (some ⟨b, off, none⟩) n c) := HG.out.kept HI.out.kept HM.out
        have hP2 : Pls S wr A1 m x := HP.out.keep PlR.good (HI.out.kept.keeps fun j hj hm => (HM.out _ hm).2.2.2.2 hj)
        obtain ⟨b2, off2, am, ac, rfl, hb2, hd0, hd1, Hat⟩ := Pls.get hP2 hlt
        have hdr : Hid (x.drop p = (am, ac) :: x.drop (p + 1)) := by
          have h := Hat.out
          obtain ⟨h1, h2⟩ := List.getElem?_eq_some_iff.1 h
          rw [Hid, List.drop_eq_getElem_cons h1, h2]
        have hau : (am, ac) ∈ univ := (HUU.out i).2 _ (by rw [HX.out]; exact List.mem_of_getElem? Hat.out)
        obtain ⟨ham, hac⟩ := HPL.out _ hau
        dsimp only at ham hac
        have hkey := keyP_ok (am, ac) (by dsimp only; omega) (by dsimp only; omega)
        have HKEY := Lib.hid hkey
        have HAU := Lib.hid hau
        obtain ⟨np', rfl⟩ : ∃ q, np = q + 1 := by
          have h := HI.out.fuel
          rw [hdr.out, List.length_cons] at h
          exact ⟨np - 1, by omega⟩
        obtain ⟨V, hV⟩ : ∃ V, wr.alloc (.cells #[.int .i64 (am : Int), .int .i64 (ac : Int)] 54) = V := ⟨_, rfl⟩
        obtain ⟨g9, hg9⟩ : ∃ g, wr.heap.size = g := ⟨_, rfl⟩
        have hbV : Below wr.heap.size wr V := by rw [← hV]; exact bl_alloc (Below.refl _ _) _ (Nat.le_refl _)
        have KV : Hid (Kept (fun k => k = gm ∨ k = gmet) w V) := HI.out.kept.trans (Kept.of_bl hbV)
        have HS : Hid (SeekS gm gmet univ o.length V n1p fp metp) := HI.out.s.bl hbV
        have hM9 : Blk V g9 54 #[.int .i64 (am : Int), .int .i64 (ac : Int)] := by rw [← hV, ← hg9]; exact Blk.new _ _ _ rfl
        have k0 := hM9.cell 0
        have k1 := hM9.cell 1
        have kl := hM9.lt
        have hgl : gm < g9 ∧ gmet < g9 := by rw [← hg9]; exact ⟨HI.out.s.m1.lt, HI.out.s.m2.lt⟩
        have HBV : Hid (GBox V go gmo gof gsk gm o mo S (some ⟨b, off, none⟩) n c) := HG.out.kept KV.out HM.out
        have mo0 := HBV.out.mo.cell 0
        have mol := HBV.out.mo.lt
        have ham' : (am : Int) < 64 := by omega
        have hbit := HOK.out _ hau
        dsimp only at hbit
        clear hP2 hbV HB hau hkey
        cases hoka : ok (am, ac) with
        | false =>
          have HOA := Lib.hid hoka
          rw [hoka, if_neg (by decide)] at hbit
          clear hM9 hoka
          go_wp2_with fail
          go_roundw
          case rel => exact ⟨p + 1, np', n1p, fp, metp, by go_num, by omega, ⟨KV.out, HS.out, by rw [HI.out.eq, hdr.out, seek_skip (.inl HOA.out)], by have h := HI.out.fuel; rw [hdr.out, List.length_cons] at h; omega, HI.out.le, HI.out.n1⟩⟩
          case measure => simp [intOf]; omega
        | true =>
          have HOA := Lib.hid hoka
          rw [hoka, if_pos rfl] at hbit
          clear hoka
          by_cases hmt : (am, ac) ∈ metp
          · have hlk : (Instr.lookup 119 (.map (some gmet)) (.agg #[.int .i64 (am : Int), .int .i64 (ac : Int)]) false).run Tryz.prog V = .ok (.int .i64 1) V := by
              have h := HS.out.m2.look keyP_law Tryz.underlying3 Tryz.underlying119 zeroInt7 (am, ac) HKEY.out false
              rw [show metF metp (am, ac) = some 1 from if_pos hmt] at h
              exact h
            have HMT := Lib.hid hmt
            clear hM9 hmt
            go_wp2_with fail
            go_roundw
            case rel => exact ⟨p + 1, np', n1p, fp, metp, by go_num, by omega, ⟨KV.out, HS.out, by rw [HI.out.eq, hdr.out, seek_skip (.inr HMT.out)], by have h := HI.out.fuel; rw [hdr.out, List.length_cons] at h; omega, HI.out.le, HI.out.n1⟩⟩
            case measure => simp [intOf]; omega
          · have hlk : (Instr.lookup 119 (.map (some gmet)) (.agg #[.int .i64 (am : Int), .int .i64 (ac : Int)]) false).run Tryz.prog V = .ok (.int .i64 0) V := by
              have h := HS.out.m2.look keyP_law Tryz.underlying3 Tryz.underlying119 zeroInt7 (am, ac) HKEY.out false
              rw [show metF metp (am, ac) = none from if_neg hmt] at h
              exact h
            have HMT := Lib.hid hmt
            have hlt2 : metp.length < univ.length := by
              have := nodup_le ((am, ac) :: metp) univ (List.nodup_cons.2 ⟨hmt, HS.out.nd⟩) (fun y hy => by rcases List.mem_cons.1 hy with rfl | hy; exact HAU.out; exact HS.out.sub y hy)
              rw [List.length_cons] at this
              omega
            have HLT2 := Lib.hid hlt2
            have HM9 := Lib.hid hM9
            clear hmt hlt2 hM9
            go_wp2_with fail
            clear hlk mo0
            obtain ⟨st, o1, hme, hlk, hst⟩ := HS.out.m2.count kvP_inj keyP_law Tryz.underlying3 Tryz.underlying119 zeroInt7 (by have := HLT2.out; omega) (am, ac) HKEY.out (c := 0) (by rw [show metF metp (am, ac) = none from if_neg HMT.out]; rfl) (wf_i64 (by omega) (by omega))
            simp only [kvP, Int.zero_add] at hme hlk hst
            have HLK := Lib.hid hlk
            have HME := Lib.hid hme
            have HST := Lib.hid hst
            have HSB : Hid (∀ W : World, (Kept (fun j => j = gmet) V W ∧ (W.heap[gmet]? = V.heap[gmet]? ∨ W.heap[gmet]? = some o1)) → (Kept (fun j => j = gmet) V (ChangeMaps.setBlock W gmet o1) ∧ ((ChangeMaps.setBlock W gmet o1).heap[gmet]? = V.heap[gmet]? ∨ (ChangeMaps.setBlock W gmet o1).heap[gmet]? = some o1)) ∧ (ChangeMaps.setBlock W gmet o1).heap[gmet]? = some o1) := fun W hC => by
              have hlt : gmet < W.heap.size := by have := hC.1.size; omega
              have h1 : (ChangeMaps.setBlock W gmet o1).heap[gmet]? = some o1 := by simp [ChangeMaps.setBlock, hlt]
              exact ⟨⟨hC.1.trans ⟨rfl, rfl, rfl, by simp [ChangeMaps.setBlock], fun j hj hn => by simp [ChangeMaps.setBlock]; rw [Array.getElem?_setIfInBounds, if_neg (fun e => hn e.symm)]⟩, .inr h1⟩, h1⟩
            have kk2 : Hid (∀ W : World, (Kept (fun j => j = gmet) V W ∧ (W.heap[gmet]? = V.heap[gmet]? ∨ W.heap[gmet]? = some o1)) → W.cell? ⟨g9, 0, none⟩ = some (.int .i64 (am : Int)) ∧ W.cell? ⟨g9, 1, none⟩ = some (.int .i64 (ac : Int))) := fun W hC => by
              have hb : Blk W g9 54 #[.int .i64 (am : Int), .int .i64 (ac : Int)] := (hC.1.block _ HM9.out.lt (by omega)).trans HM9.out
              exact ⟨hb.cell 0, hb.cell 1⟩
            clear hme hlk hst
            refine wp_region_list (fun W => Kept (fun j => j = gmet) V W ∧ (W.heap[gmet]? = V.heap[gmet]? ∨ W.heap[gmet]? = some o1)) (fun w w' => w.heap[gmet]? = some o1 → w'.heap[gmet]? = some o1)
              [isV (.map (some gmet)), isV (.agg #[.int .i64 (am : Int), .int .i64 (ac : Int)]), isV (.int .i64 0), isV (.int .i64 1), fun v W => v = .tuple #[.int .i64 0, goInt st] ∧ W.heap[gmet]? = some o1, isV (goInt st)]
              (by kernel_rfl) (by kernel_rfl) (by kernel_rfl) (by simp) (by simp) ⟨(Kept.refl _ _).trans (Kept.drew _ _), .inl rfl⟩ ?stab9 ?step9 ?fin9
            case stab9 => exact (StabL.is (StabL.is (StabL.is (StabL.is (StabL.cons (fun v W V hC hX h => ⟨h.1, hX h.2⟩) (StabL.is StabL.nil))))))
            case step9 =>
              refine StepsL.isA ?_ (StepsL.isA ?_ (StepsL.isA ?_ (StepsL.isA ?_ (StepsL.consA ?_ (StepsL.isA ?_ StepsL.nil)))))
              · -- 0 move
                intro vs a W K ha hC hD hU hK
                have r1 : a.tmps[1]? = some (.map (some gmet)) := by rw [ha]; kernel_rfl
                clear ha hU hD
                rw [if_pos (by rfl)]
                go_simp
                exact hK _ hC (fun h => h)
              · -- 1 load
                intro vs a W K ha hC hD hU hK
                have r10 : a.tmps[10]? = some (.pointer (some ⟨g9, 0, none⟩)) := by rw [ha]; kernel_rfl
                clear ha hU hD
                rw [if_pos (by rfl)]
                obtain ⟨k0, k1⟩ := kk2.out W hC
                go_simp
                exact hK _ hC (fun h => h)
              · -- 2 lookup
                intro vs a W K ha hC hD hU hK
                have r34 : a.tmps[34]? = some (vs 0) := by rw [ha]; kernel_rfl
                have q0 : vs 0 = .map (some gmet) := hD 0 (by simp [waits, Region.binds])
                rw [q0] at r34
                have r35 : a.tmps[35]? = some (vs 1) := by rw [ha]; kernel_rfl
                have q1 : vs 1 = .agg #[.int .i64 (am : Int), .int .i64 (ac : Int)] := hD 1 (by simp [waits, Region.binds])
                rw [q1] at r35
                clear ha hU hD
                rw [if_pos (by rfl)]
                have hlk := HLK.out W hC.2
                go_simp
                exact hK _ hC (fun h => h)
              · -- 3 add
                intro vs a W K ha hC hD hU hK
                have r36 : a.tmps[36]? = some (vs 2) := by rw [ha]; kernel_rfl
                have q2 : vs 2 = .int .i64 0 := hD 2 (by simp [waits, Region.binds])
                rw [q2] at r36
                clear ha hU hD
                rw [if_pos (by rfl)]
                go_simp
                exact hK _ hC (fun h => h)
              · -- 4 mapEntry
                intro vs a W K ha hC hD hU hK
                have r34 : a.tmps[34]? = some (vs 0) := by rw [ha]; kernel_rfl
                have q0 : vs 0 = .map (some gmet) := hD 0 (by simp [waits, Region.binds])
                rw [q0] at r34
                have r35 : a.tmps[35]? = some (vs 1) := by rw [ha]; kernel_rfl
                have q1 : vs 1 = .agg #[.int .i64 (am : Int), .int .i64 (ac : Int)] := hD 1 (by simp [waits, Region.binds])
                rw [q1] at r35
                clear ha hU hD
                rw [if_pos (by rfl)]
                have hme := HME.out W hC.2
                have hC' := HSB.out W hC
                go_simp
                exact hK _ _ hC'.1 (fun _ => hC'.2) ⟨rfl, hC'.2⟩
              · -- 5 extract
                intro vs a W K ha hC hD hU hK
                have r38 : a.tmps[38]? = some (vs 4) := by rw [ha]; kernel_rfl
                have q4 : (fun v W => v = .tuple #[.int .i64 0, goInt st] ∧ W.heap[gmet]? = some o1) (vs 4) W := hD 4 (by simp [waits, Region.binds])
                obtain ⟨q4, _⟩ := q4
                rw [q4] at r38
                clear ha hU hD
                rw [if_pos (by rfl)]
                go_simp
                exact hK _ hC (fun h => h)
            case fin9 =>
              intro vs W hC hE hU
              have e0 := hE 0 (by simp)
              have e3 := hE 3 (by simp)
              have e4 := hE 4 (by simp)
              have e5 := hE 5 (by simp)
              simp only [envOf, List.getD_cons_succ, List.getD_cons_zero, isV] at e0 e3 e4 e5
              simp only [fillA, Act.put, List.setIfInBounds_toArray, List.set_cons_zero, List.set_cons_succ, Nat.zero_add, Nat.reduceAdd, e0, e3, e5]
              have e4' := e4.2
              clear e0 e3 e4 e5 hE hU
              simp [Region.wanted, yielded]
              obtain ⟨W3, hrun, hg3, hN4⟩ := HST.out W e4'
              simp only [goInt] at hrun
              have hk4 : Kept (fun j => j = gmet) V W3 := hC.1.trans (Kept.grown hg3 (fun j hj => by injection hj with hj; exact hj.symm))
              have hKB4 : Blk W3 g9 54 #[.int .i64 (am : Int), .int .i64 (ac : Int)] := (hk4.block _ HM9.out.lt (by omega)).trans HM9.out
              have hq0 := hKB4.cell 0
              have hq1 := hKB4.cell 1
              have hql := hKB4.lt
              have HM93 := Lib.hid hKB4
              have KW : Hid (Kept (fun k => k = gm ∨ k = gmet) w W3) := KV.out.trans (hk4.mono fun j _ h => .inr h)
              have HBW : Hid (GBox W3 go gmo gof gsk gm o mo S (some ⟨b, off, none⟩) n c) := HG.out.kept KW.out HM.out
              have HSW : Hid (SeekS gm gmet univ o.length W3 n1p fp ((am, ac) :: metp)) := ⟨HS.out.m1.at (hk4.block _ HS.out.m1.lt hne), by rw [List.length_cons]; exact hN4.congr (fun y => metF_cons _ _ _), List.nodup_cons.2 ⟨HMT.out, HS.out.nd⟩, fun y hy => by rcases List.mem_cons.1 hy with rfl | hy; exact HAU.out; exact HS.out.sub y hy, HS.out.fok⟩
              have of0 := HBW.out.of.cell 0
              have ofl := HBW.out.of.lt
              clear hg3 hC hN4 hk4 e4' hKB4
              go_simp
              cases hof : ofL fp (am, ac) with
              | none =>
                have HOF := Lib.hid hof
                have hlk : (Instr.lookup 119 (.map (some gm)) (.agg #[.int .i64 (am : Int), .int .i64 (ac : Int)]) true).run Tryz.prog W3 = .ok (.tuple #[.int .i64 0, .bool false]) W3 := by
                  have h := HSW.out.m1.look keyP_law Tryz.underlying3 Tryz.underlying119 zeroInt7 (am, ac) HKEY.out true
                  rw [hof] at h
                  exact h
                have hn1p : n1p ≤ 1000000 := by have := HI.out.n1; have := HN1.out; have := HLT2.out; have := HI.out.le; omega
                obtain ⟨W4, hput, hN5, hg5⟩ := HSW.out.m1.put kvP_inj keyP_law Tryz.underlying3 Tryz.underlying119 (by omega) (am, ac) HKEY.out (i : Int) (wf_i64 (by omega) (by omega))
                simp only [kvP] at hput
                have HG5 := Lib.hid hg5
                have HN5 := Lib.hid hN5
                clear hof hN5 hg5
                go_wp2_with fail
                go_ret
                have hk5 : Kept (fun k => k = gm) W3 W4 := Kept.grown HG5.out (fun j hj => by injection hj with hj; exact hj.symm)
                rw [HI.out.eq, hdr.out, seek_free HOA.out HMT.out HOF.out]
                refine ⟨rfl, KW.out.trans (hk5.mono fun j _ h => .inl h), n1p + 1, ?_, ?_, HN5.out.congr (fun y => (ofL_cons _ _ _ _).symm), HSW.out.m2.at (hk5.block _ HSW.out.m2.lt (fun e => hne e.symm)), HSW.out.nd, HSW.out.sub, fun a k h => ?_⟩
                · have := HI.out.n1; simp only [List.length_cons]; omega
                · have := HI.out.le; simp only [List.length_cons]; omega
                · rw [ofL_cons] at h
                  by_cases e : (am, ac) = a
                  · rw [if_pos e] at h; injection h with h; omega
                  · rw [if_neg e] at h; exact HSW.out.fok a k h
              | some k =>
                have HOF := Lib.hid hof
                have hlk : (Instr.lookup 119 (.map (some gm)) (.agg #[.int .i64 (am : Int), .int .i64 (ac : Int)]) true).run Tryz.prog W3 = .ok (.tuple #[.int .i64 k, .bool true]) W3 := by
                  have h := HSW.out.m1.look keyP_law Tryz.underlying3 Tryz.underlying119 zeroInt7 (am, ac) HKEY.out true
                  rw [hof] at h
                  exact h
                have hfo := HSW.out.fok _ _ hof
                have hfuel : (x.drop (p + 1)).length + (univ.length - metp.length) * (L + 1) ≤ np' := by have h := HI.out.fuel; rw [hdr.out, List.length_cons] at h; omega
                have hsub : (univ.length - metp.length) * (L + 1) = (univ.length - (metp.length + 1)) * (L + 1) + (L + 1) := by
                  have := HLT2.out
                  rw [show univ.length - metp.length = (univ.length - (metp.length + 1)) + 1 by omega, Nat.succ_mul]
                have HFL : Hid ((x.drop (p + 1)).length + (univ.length - (metp.length + 1)) * (L + 1) + (L + 1) ≤ np') := by rw [Hid]; omega
                clear hfuel hsub hof
                by_cases hk : k < 0
                · have HK := Lib.hid hk
                  have hkn : ¬ (0 ≤ k) := by omega
                  go_wp2_with fail
                  go_roundw
                  case rel => exact ⟨p + 1, np', n1p, fp, (am, ac) :: metp, by go_num, by omega, ⟨KW.out, HSW.out, by rw [HI.out.eq, hdr.out, seek_fixed HOA.out HMT.out HOF.out HK.out], by have := HFL.out; simp only [List.length_cons]; omega, by have := HI.out.le; simp only [List.length_cons]; omega, by have := HI.out.n1; simp only [List.length_cons]; omega⟩⟩
                  case measure => simp [intOf]; omega
                · obtain ⟨kn, rfl⟩ : ∃ kn : Nat, k = kn := ⟨k.toNat, by omega⟩
                  have hkn : (0 : Int) ≤ kn := by omega
                  have sk0 := HBW.out.sk.cell 0
                  have skl := HBW.out.sk.lt
                  go_wp2_with fail
                  clear sk0 skl hq0 hq1 of0 ofl hlk
                  refine (HIH.out np' kn fp ((am, ac) :: metp) n1p W3 (by have := HD.out; have := HLT2.out; have := HI.out.le; simp only [List.length_cons]; omega) HBW.out HSW.out (by omega) (by have := HFL.out; have := (HUU.out kn).1; simp only [List.length_cons]; omega) (by have := HI.out.n1; have := HN1.out; simp only [List.length_cons]; omega)).mono ?_
                  obtain ⟨R, hR⟩ : ∃ R, seekL o ok np' (o.getD kn []) kn fp ((am, ac) :: metp) = R := ⟨_, rfl⟩
                  rw [hR]
                  obtain ⟨rb, fr, mr⟩ := R
                  rintro e W4 ⟨he, hk5, n1', l1, l2, hS4⟩
                  dsimp only at he l1 l2 hS4
                  subst he
                  have HR := Lib.hid hR
                  have KW4 : Hid (Kept (fun k => k = gm ∨ k = gmet) w W4) := KW.out.trans hk5
                  have HBW4 : Hid (GBox W4 go gmo gof gsk gm o mo S (some ⟨b, off, none⟩) n c) := HG.out.kept KW4.out HM.out
                  have hg9W : g9 < W3.heap.size := hql
                  have hKB5 : Blk W4 g9 54 #[.int .i64 (am : Int), .int .i64 (ac : Int)] := (hk5.block _ hql (by omega)).trans HM93.out
                  have hq0 := hKB5.cell 0
                  have hq1 := hKB5.cell 1
                  have hql2 := hKB5.lt
                  have of0 := HBW4.out.of.cell 0
                  have ofl := HBW4.out.of.lt
                  have HL1 := Lib.hid l1
                  have HL2 := Lib.hid l2
                  have HS4 := Lib.hid hS4
                  clear hR hk5 l1 l2 hS4 hKB5
                  cases rb with
                  | false =>
                    have hE : Hid (seekL o ok (np' + 1) ((am, ac) :: x.drop (p + 1)) i fp metp = seekL o ok np' (x.drop (p + 1)) i fr mr) := by
                      rw [Hid, seek_no HOA.out HMT.out HOF.out (by rw [HR.out]), HR.out]
                    go_wp2_with fail
                    go_roundw
                    case rel => exact ⟨p + 1, np', n1', fr, mr, by go_num, by omega, ⟨KW4.out, HS4.out, by rw [HI.out.eq, hdr.out, hE.out], by
                      have h1 := HFL.out
                      have h2 : (univ.length - mr.length) * (L + 1) ≤ (univ.length - (metp.length + 1)) * (L + 1) := Nat.mul_le_mul_right _ (by have := HL2.out; rw [List.length_cons] at this; omega)
                      omega, by have := HI.out.le; have := HL2.out; rw [List.length_cons] at this; omega, by have := HI.out.n1; have := HL1.out; rw [List.length_cons] at this; omega⟩⟩
                    case measure => simp [intOf]; omega
                  | true =>
                    have hn1p : n1' ≤ 1000000 := by
                      have := HI.out.n1; have := HN1.out; have := HLT2.out; have := HI.out.le; have h := HL1.out; rw [List.length_cons] at h
                      have := nodup_le mr univ HS4.out.nd HS4.out.sub
                      omega
                    obtain ⟨W5, hput, hN5, hg5⟩ := HS4.out.m1.put kvP_inj keyP_law Tryz.underlying3 Tryz.underlying119 (by omega) (am, ac) HKEY.out (i : Int) (wf_i64 (by omega) (by omega))
                    simp only [kvP] at hput
                    have HG5 := Lib.hid hg5
                    have HN5 := Lib.hid hN5
                    clear hN5 hg5
                    go_wp2_with fail
                    go_ret
                    have hk5 : Kept (fun k => k = gm) W4 W5 := Kept.grown HG5.out (fun j hj => by injection hj with hj; exact hj.symm)
                    rw [HI.out.eq, hdr.out, seek_yes HOA.out HMT.out HOF.out (by rw [HR.out]), HR.out]
                    refine ⟨rfl, KW4.out.trans (hk5.mono fun j _ h => .inl h), n1' + 1, ?_, ?_, HN5.out.congr (fun y => (ofL_cons _ _ _ _).symm), HS4.out.m2.at (hk5.block _ HS4.out.m2.lt (fun e => hne e.symm)), HS4.out.nd, HS4.out.sub, fun a k h => ?_⟩
                    · have := HI.out.n1; have := HL1.out; simp only [List.length_cons] at this ⊢; omega
                    · have := HI.out.le; have := HL2.out; simp only [List.length_cons] at this ⊢; omega
                    · dsimp only at h
                      rw [ofL_cons] at h
                      by_cases e : (am, ac) = a
                      · rw [if_pos e] at h; injection h with h; omega
                      · rw [if_neg e] at h; exact HS4.out.fok a k h
      · obtain rfl : p = m := by omega
        have hpi : ¬ (p : Int) < p := by omega
        go_wp2_with fail
        go_ret
        have hdr : x.drop p = [] := List.drop_eq_nil_of_le (by have := HML.out; omega)
        have hE : seekL o ok np [] i fp metp = (false, fp, metp) := by cases np <;> rw [seekL]
        rw [HI.out.eq, hdr, hE]
        exact ⟨rfl, HI.out.kept, n1p, HI.out.n1, HI.out.le, HI.out.s⟩
end
end Go.Proofs.YtpdldmichpmgmaaGreat

namespace Go.Proofs.YtpdldmichpmgmaaGreat
open Go.RowKit Go.Shelf

def fixF (l : List Pl) (a : Pl) : Option Int := if a ∈ l then some (-1) else none
theorem fixF_ofL (l : List Pl) (a : Pl) : ofL (l.map fun a => (a, (-1 : Int))) a = fixF l a := by
  induction l with
  | nil => rfl
  | cons b l ih =>
    rw [List.map_cons, ofL_cons, ih]
    unfold fixF
    by_cases h : b = a
    · rw [if_pos h, if_pos (by rw [h]; exact List.mem_cons_self)]
    · rw [if_neg h]
      by_cases h2 : a ∈ l
      · rw [if_pos h2, if_pos (List.mem_cons_of_mem _ h2)]
      · rw [if_neg h2, if_neg (fun h3 => by rcases List.mem_cons.1 h3 with h3 | h3; exact h h3.symm; exact h2 h3)]
theorem fixF_fok {fixed : List Pl} {N : Nat} (a : Pl) (j : Int) (h : ofL (fixed.map fun a => (a, (-1 : Int))) a = some j) : j < (N : Int) ∧ -1 ≤ j := by
  rw [fixF_ofL, fixF] at h
  split at h
  · injection h with h; omega
  · cases h
theorem fixF_snoc (l : List Pl) (b y : Pl) : (if b = y then some (-1) else fixF l y) = fixF (l ++ [b]) y := by
  unfold fixF
  by_cases h : b = y
  · rw [if_pos h, if_pos (by simp [h])]
  · rw [if_neg h]
    by_cases h2 : y ∈ l
    · rw [if_pos h2, if_pos (by simp [h2])]
    · rw [if_neg h2, if_neg (by simp [h2]; exact fun e => h e.symm)]
/-- the map and the count of give, after some pieces -/
structure GiveI (o : List (List Pl)) (ok : Pl → Bool) (is : Nat → Bool) (fixed : List Pl) (gm : Nat) (univ : List Pl) (w : World) (k n1 : Nat) (wr : World) : Prop where
  kept : Kept (fun j => j = gm) w wr
  m : MapP wr gm n1 (ofL (giveK o ok is fixed k).2)
  fok : ∀ a j, ofL (giveK o ok is fixed k).2 a = some j → j < (o.length : Int) ∧ -1 ≤ j
  le : n1 ≤ 1000 + k * univ.length
  cnt : (giveK o ok is fixed k).1 ≤ k
section
variable {o : List (List Pl)} {ok : Pl → Bool} {is : Nat → Bool} {univ fixed : List Pl} {L n c q cf : Nat} {A F : Option Addr} {pc mo : Int}
set_option maxRecDepth 100000 in
set_option maxHeartbeats 4000000 in
theorem kgive_any (hu : ∀ j, (o.getD j []).length ≤ L ∧ ∀ a ∈ o.getD j [], a ∈ univ) (hpl : ∀ a ∈ univ, a.1 < 4 ∧ a.2 < 8) (hfx : ∀ a ∈ fixed, a.1 < 4 ∧ a.2 < 8) (hfl : fixed.length ≤ 1000) (hU : univ.length ≤ 1000) (hL : L ≤ 1000) (hN : o.length ≤ 6)
    (hF : ∀ i, (o.getD i []).length + univ.length * (L + 1) ≤ seekF)
    (hok : ∀ a ∈ univ, bits BinOp.and .i64 (mo / 2 ^ a.1) 1 = if ok a then 1 else 0) (his : ∀ i, i < o.length → bits BinOp.and .i64 (pc / 2 ^ i) 1 = if is i then 1 else 0)
    (w : World) (g : Ords (fun _ => True) w A n o) (gf : Pls (fun _ => True) w F q fixed) :
    Calls Tryz.prog 32 #[.slice A n c, .int .i64 pc, .int .i64 mo, .slice F q cf] w fun e w' => e = .returned (.int .i64 (giveR o ok is fixed : Nat)) ∧ Below w.heap.size w w' := by
  have HG := Lib.hid g
  have HF0 := Lib.hid (gf.bound PlR.good)
  have HG0 := Lib.hid (g.bound OrdR.good)
  have hql := gf.len
  have hq : q ≤ 1000 := by omega
  have HU := Lib.hid hu
  have HPL := Lib.hid hpl
  have HFX := Lib.hid hfx
  have HOK := Lib.hid hok
  have HIS := Lib.hid his
  have HFU := Lib.hid hF
  have HQL := Lib.hid hql
  have HNL := Lib.hid g.len
  have hn6 : n ≤ 6 := by have := g.len; omega
  clear g gf hu hpl hfx hok his hF hql
  have hmm := @run_makeMap Tryz.prog
  go_enter Tryz.func32, Tryz.ntmps32
  go_wp2_with fail
  obtain ⟨W0, hW0⟩ : ∃ W0, (((w.alloc (.cells #[.slice A n c] 68)).alloc (.cells #[.int .i64 mo] 3)).alloc (.map #[] 0)).alloc (.cells #[.map (some (w.heap.size + 1 + 1))] 119) = W0 := ⟨_, rfl⟩
  have hB0 : Below w.heap.size w W0 := by rw [← hW0]; exact bl_alloc (bl_alloc (bl_alloc (bl_alloc (Below.refl _ _) _ (Nat.le_refl _)) _ (Nat.le_refl _)) _ (Nat.le_refl _)) _ (Nat.le_refl _)
  have hO0 : Blk W0 w.heap.size 68 #[.slice A n c] := by rw [← hW0]; exact (((Blk.new _ _ _ rfl).alloc _).alloc _).alloc _
  have hMo0 : Blk W0 (w.heap.size + 1) 3 #[.int .i64 mo] := by rw [← hW0]; exact ((Blk.new _ _ _ (by simp)).alloc _).alloc _
  have hOf0 : Blk W0 (w.heap.size + 1 + 1 + 1) 119 #[.map (some (w.heap.size + 1 + 1))] := by rw [← hW0]; exact Blk.new _ _ _ (by simp)
  have hM0 : MapP W0 (w.heap.size + 1 + 1) 0 (fun _ => none) := by
    rw [← hW0]
    have h1 := MapG.new (P := Tryz.prog) (k := 54) (e := 3) (key := kvP) ((w.alloc (.cells #[.slice A n c] 68)).alloc (.cells #[.int .i64 mo] 3))
    have h2 := h1.at (w' := (((w.alloc (.cells #[.slice A n c] 68)).alloc (.cells #[.int .i64 mo] 3)).alloc (.map #[] 0)).alloc (.cells #[.map (some (w.heap.size + 1 + 1))] 119)) (Below.heap_alloc _ _ _ h1.lt)
    simpa using h2
  have hs0 : w.heap.size + 4 ≤ W0.heap.size := by rw [← hW0]; simp
  obtain ⟨go, hgo⟩ : ∃ b1, w.heap.size = b1 := ⟨_, rfl⟩
  obtain ⟨gmo, hgmo⟩ : ∃ b1, go + 1 = b1 := ⟨_, rfl⟩
  obtain ⟨gm, hgm⟩ : ∃ b1, gmo + 1 = b1 := ⟨_, rfl⟩
  obtain ⟨gof, hgof⟩ : ∃ b1, gm + 1 = b1 := ⟨_, rfl⟩
  rw [hW0]
  rw [hgo, hgmo, hgm, hgof]
  rw [hgo, hgmo, hgm] at hM0
  rw [hgo, hgmo, hgm, hgof] at hOf0
  rw [hgo, hgmo] at hMo0
  rw [hgo] at hO0
  have h1 : go < gmo ∧ gmo < gm ∧ gm < gof ∧ gof < W0.heap.size ∧ w.heap.size ≤ go ∧ go ≤ w.heap.size := by omega
  clear hW0 hgo hgmo hgm hgof hmm
  have HF : Hid (Pls (fun k => k < go) W0 F q fixed) := (HF0.out.keep PlR.good (Keeps.below hB0)).mono PlR.good (fun k h => by have := h.2; omega)
  have HGO : Hid (Ords (fun k => k < go) W0 A n o) := (HG0.out.keep OrdR.good (Keeps.below hB0)).mono OrdR.good (fun k h => by have := h.2; omega)
  have HO0 := Lib.hid hO0
  have HMO0 := Lib.hid hMo0
  have HOF0 := Lib.hid hOf0
  have HM0 := Lib.hid hM0
  clear hO0 hMo0 hOf0 hM0 HF0 HG0
  go_loopw [11, 17] (fun _ i' wr => ∃ p : Nat, i' = .int .i64 p ∧ p ≤ q ∧ Hid (Kept (fun j => j = gm) W0 wr) ∧ Hid (MapP wr gm p (fixF (fixed.take p)))) (fun _ i' _ => q - (intOf i').toNat)
  case atStart => exact ⟨0, rfl, Nat.zero_le _, Kept.refl _ _, by rw [Hid, List.take_zero]; exact HM0.out.congr (fun y => by unfold fixF; rw [if_neg (by simp)])⟩
  case round =>
    obtain ⟨p, rfl, hp, HK, HM⟩ := hrel
    by_cases hlt : p < q
    · have hpi : (p : Int) < q := by omega
      obtain ⟨b2, off2, am, ac, rfl, hb2, hd0, hd1, Hat⟩ := Pls.get (HF.out.keep PlR.good (HK.out.keeps fun j hj hm => by omega)) hlt
      have hTS : Hid (fixed.take (p + 1) = fixed.take p ++ [(am, ac)]) := take_snoc_get Hat.out
      obtain ⟨ham, hac⟩ := HFX.out _ (List.mem_of_getElem? Hat.out)
      dsimp only at ham hac
      obtain ⟨V, hV⟩ : ∃ V, wr.alloc (.cells #[.int .i64 (am : Int), .int .i64 (ac : Int)] 54) = V := ⟨_, rfl⟩
      obtain ⟨g9, hg9⟩ : ∃ g, wr.heap.size = g := ⟨_, rfl⟩
      have hbV : Below wr.heap.size wr V := by rw [← hV]; exact bl_alloc (Below.refl _ _) _ (Nat.le_refl _)
      have KV : Hid (Kept (fun j => j = gm) W0 V) := HK.out.trans (Kept.of_bl hbV)
      have hM9 : Blk V g9 54 #[.int .i64 (am : Int), .int .i64 (ac : Int)] := by rw [← hV, ← hg9]; exact Blk.new _ _ _ rfl
      have k0 := hM9.cell 0
      have k1 := hM9.cell 1
      have kl := hM9.lt
      have hOf := (KV.out.block _ HOF0.out.lt (by omega)).trans HOF0.out
      have of0 := Blk.cell hOf 0
      have ofl := Blk.lt hOf
      obtain ⟨W3, hput, hN5, hg5⟩ := (HM.out.at (hbV.block _ HM.out.lt)).put kvP_inj keyP_law Tryz.underlying3 Tryz.underlying119 (by omega) (am, ac) (keyP_ok (am, ac) (by dsimp only; omega) (by dsimp only; omega)) (-1) (wf_i64 (by omega) (by omega))
      simp only [kvP] at hput
      have HG5 := Lib.hid hg5
      have HN5 := Lib.hid hN5
      clear hN5 hg5 hbV hM9 hOf
      go_wp2_with fail
      go_roundw
      case rel => exact ⟨p + 1, by go_num, by omega, KV.out.trans (Kept.grown HG5.out (fun j hj => by injection hj with hj; exact hj.symm)), by rw [Hid, hTS.out]; exact HN5.out.congr (fun y => fixF_snoc _ _ _)⟩
      case measure => simp [intOf]; omega
    · obtain rfl : p = q := by omega
      have hpi : ¬ (p : Int) < p := by omega
      have hTA : fixed.take p = fixed := List.take_of_length_le (by have := HQL.out; omega)
      rw [hTA] at HM
      clear hTA
      have hsw := HK.out.size
      obtain ⟨W5, hW5⟩ : ∃ W5, wr.alloc (.cells #[.func (.func 63) #[] #[.pointer (some ⟨go, 0, none⟩), .pointer (some ⟨gmo, 0, none⟩), .pointer (some ⟨gof, 0, none⟩), .pointer (some ⟨wr.heap.size, 0, none⟩)]] 120) = W5 := ⟨_, rfl⟩
      have hb5 : Below wr.heap.size wr W5 := by rw [← hW5]; exact bl_alloc (Below.refl _ _) _ (Nat.le_refl _)
      have K5 : Hid (Kept (fun j => j = gm) W0 W5) := HK.out.trans (Kept.of_bl hb5)
      have M5 : Hid (MapP W5 gm p (fixF fixed)) := HM.out.at (hb5.block _ HM.out.lt)
      have hSk : Blk W5 wr.heap.size 120 #[.func (.func 63) #[] #[.pointer (some ⟨go, 0, none⟩), .pointer (some ⟨gmo, 0, none⟩), .pointer (some ⟨gof, 0, none⟩), .pointer (some ⟨wr.heap.size, 0, none⟩)]] := by rw [← hW5]; exact Blk.new _ _ _ rfl
      have hO5 : Blk W5 go 68 #[.slice A n c] := (K5.out.block _ HO0.out.lt (by omega)).trans HO0.out
      have o5 : W5.cell? ⟨go, 0, none⟩ = some (.slice A n c) := hO5.cell 0
      have hs5 : wr.heap.size < W5.heap.size := hSk.lt
      have HSK := Lib.hid hSk
      clear hSk hb5 hO5
      go_wp2_with fail
      obtain ⟨gsk, hgsk⟩ : ∃ b1, wr.heap.size = b1 := ⟨_, rfl⟩
      rw [hgsk]
      have hsk1 : gof < gsk ∧ gsk < W5.heap.size := by omega
      have HB5 : Hid (GBox W5 go gmo gof gsk gm o mo (fun k => k < go) A n c) := by
        rw [hgsk] at HSK
        exact ⟨(K5.out.block _ HO0.out.lt (by omega)).trans HO0.out, HGO.out.keep OrdR.good (K5.out.keeps fun j hj hm => by omega), (K5.out.block _ HMO0.out.lt (by omega)).trans HMO0.out, (K5.out.block _ HOF0.out.lt (by omega)).trans HOF0.out, HSK.out⟩
      clear hW5 HSK hgsk HK HM hs5 hsw
      go_loopw [8, 13, 27] (fun many _ i' wr => ∃ k n1 : Nat, i' = .int .i64 k ∧ k ≤ n ∧ many = .int .i64 ((giveK o ok is fixed k).1 : Nat) ∧ Hid (GiveI o ok is fixed gm univ W5 k n1 wr)) (fun _ _ i' _ => n - (intOf i').toNat)
      case atStart => exact ⟨0, p, rfl, Nat.zero_le _, rfl, ⟨Kept.refl _ _, M5.out.congr (fun y => (fixF_ofL _ _).symm), fixF_fok, by omega, Nat.le_refl _⟩⟩
      case round =>
        obtain ⟨k, n1, rfl, hk, rfl, HI⟩ := hrel
        obtain ⟨mn, hmn⟩ : ∃ mn, (giveK o ok is fixed k).1 = mn := ⟨_, rfl⟩
        have hmn6 : mn ≤ 6 := by rw [← hmn]; exact Nat.le_trans HI.out.cnt (by omega)
        rw [hmn]
        have HMN := Lib.hid hmn
        clear hmn
        by_cases hlt2 : k < n
        · have hki : (k : Int) < n := by omega
          have hk64 : (k : Int) < 64 := by omega
          have hko : k < o.length := by rw [HNL.out]; exact hlt2
          have hbit := HIS.out k hko
          have HST := Lib.hid (giveK_succ o ok is fixed k)
          cases hi : is k with
          | false =>
            rw [hi, if_neg (by decide)] at hbit
            have HN : Hid (giveK o ok is fixed (k + 1) = giveK o ok is fixed k) := by rw [Hid, HST.out, hi, if_neg (by decide)]
            clear hi
            go_wp2_with fail
            go_roundw
            case rel => exact ⟨k + 1, n1, by go_num, by omega, by rw [HN.out, HMN.out], ⟨HI.out.kept, by rw [HN.out]; exact HI.out.m, by rw [HN.out]; exact HI.out.fok, by have := HI.out.le; rw [Nat.succ_mul]; omega, by rw [HN.out]; have := HI.out.cnt; omega⟩⟩
            case measure => simp [intOf]; omega
          | true =>
            rw [hi, if_pos rfl] at hbit
            have HI2 := Lib.hid hi
            clear hi
            have hBr : GBox wr go gmo gof gsk gm o mo (fun k => k < go) A n c := HB5.out.kept HI.out.kept (fun j hj => by subst hj; exact ⟨by omega, by omega, by omega, by omega, fun h => by omega⟩)
            have sk0 := hBr.sk.cell 0
            have skl := hBr.sk.lt
            have HBR := Lib.hid hBr
            have hmm := @run_makeMap Tryz.prog
            clear hBr
            go_wp2_with fail
            clear hmm
            obtain ⟨V, hV⟩ : ∃ V, wr.alloc (.map #[] 0) = V := ⟨_, rfl⟩
            obtain ⟨gmet, hgmet⟩ : ∃ g, wr.heap.size = g := ⟨_, rfl⟩
            have hbV : Below wr.heap.size wr V := by rw [← hV]; exact bl_alloc (Below.refl _ _) _ (Nat.le_refl _)
            have hw5 := HI.out.kept.size
            have hgv : gmet < V.heap.size := by rw [← hV, ← hgmet]; simp
            have hgm2 : W5.heap.size ≤ gmet := by omega
            have HBV : Hid (GBox V go gmo gof gsk gm o mo (fun k => k < go) A n c) := HBR.out.kept (M := fun _ => False) (Kept.of_bl hbV) (fun j hj => hj.elim)
            have hMM : MapP V gmet 0 (metF []) := by
              rw [← hV, ← hgmet]
              exact (MapG.new (P := Tryz.prog) (k := 54) (e := 3) (key := kvP) wr).congr (fun y => by unfold metF; rw [if_neg (by simp)])
            have HSS : SeekS gm gmet univ o.length V n1 (giveK o ok is fixed k).2 [] := ⟨HI.out.m.at (hbV.block _ HI.out.m.lt), hMM, List.nodup_nil, (fun y hy => by cases hy), HI.out.fok⟩
            rw [hV, hgmet]
            have hku : n1 + univ.length ≤ 1000000 := by
              have := HI.out.le
              have h2 : k * univ.length ≤ 6 * 1000 := Nat.mul_le_mul (by omega) hU
              omega
            refine (seek_any (L := L) HU.out HPL.out hU hL hN HOK.out ⟨by omega, by omega, by omega, by omega, by omega⟩ ⟨by omega, by omega, by omega, by omega, by omega⟩ (by omega) (univ.length + 1) seekF k _ [] n1 V (by simp) HBV.out HSS hko (by simpa using HFU.out k) (by simpa using hku)).mono ?_
            obtain ⟨R, hR⟩ : ∃ R, seekL o ok seekF (o.getD k []) k (giveK o ok is fixed k).2 [] = R := ⟨_, rfl⟩
            rw [hR]
            have HR := Lib.hid hR
            obtain ⟨rb, fr, mr⟩ := R
            rintro e W4 ⟨he, hk5, n1', l1, l2, hS4⟩
            dsimp only at he l1 l2 hS4
            subst he
            have HKW : Hid (Kept (fun j => j = gm) W5 W4) := by
              refine (HI.out.kept.trans (Kept.of_bl hbV)).seq hk5 (fun j hj hm => ?_)
              rcases hm with hm | hm
              · exact hm
              · omega
            have hn1' : n1' ≤ n1 + univ.length := by
              have := nodup_le mr univ hS4.nd hS4.sub
              simp at l1
              omega
            have HN1 := Lib.hid hn1'
            have HS4 := Lib.hid hS4
            clear hV hgmet hbV hMM HSS hR hk5 l1 l2 hS4 sk0 skl hn1' HBR
            cases rb with
            | false =>
              have HN : Hid (giveK o ok is fixed (k + 1) = (mn, fr)) := by rw [Hid, HST.out, HI2.out, if_pos rfl, HR.out, HMN.out]; rfl
              go_wp2_with fail
              go_roundw
              case rel => exact ⟨k + 1, n1', by go_num, by omega, by rw [HN.out], ⟨HKW.out, by rw [HN.out]; exact HS4.out.m1, by rw [HN.out]; exact HS4.out.fok, by have := HI.out.le; have := HN1.out; rw [Nat.succ_mul]; omega, by rw [HN.out]; have := HI.out.cnt; rw [HMN.out] at this; dsimp only; omega⟩⟩
              case measure => simp [intOf]; omega
            | true =>
              have HN : Hid (giveK o ok is fixed (k + 1) = (mn + 1, fr)) := by rw [Hid, HST.out, HI2.out, if_pos rfl, HR.out, HMN.out]; rfl
              have hwm : IntKind.i64.wrap ((mn : Int) + 1) = mn + 1 := by rw [IntKind.wrap_i64]; omega
              go_wp2_with fail
              go_roundw
              case rel => exact ⟨k + 1, n1', by go_num, by omega, by rw [HN.out]; simp, ⟨HKW.out, by rw [HN.out]; exact HS4.out.m1, by rw [HN.out]; exact HS4.out.fok, by have := HI.out.le; have := HN1.out; rw [Nat.succ_mul]; omega, by rw [HN.out]; have := HI.out.cnt; rw [HMN.out] at this; dsimp only; omega⟩⟩
              case measure => simp [intOf]; omega
        · obtain rfl : k = n := by omega
          have hki : ¬ (k : Int) < k := by omega
          go_wp2_with fail
          go_ret
          have hEnd : giveR o ok is fixed = mn := by rw [giveR, HNL.out, HMN.out]
          rw [hEnd]
          refine ⟨rfl, ?_⟩
          exact hB0.trans ((K5.out.trans HI.out.kept).below hB0.size (fun j hj => by omega))
end
end Go.Proofs.YtpdldmichpmgmaaGreat
