/- Plain: the lists of the document, one number behind the other. Nothing of a program stands here. -/
import Derived.Test.YtpbimgafafkjgaaCOwn
import Derived.Test.YtpbimgafafkjgaaCTOutHs
import Derived.Test.YtpbimgafafkjgaaCTRegs
import Derived.Test.YtpbimgafafkjgaaCTilePure2
set_option linter.unusedVariables false
set_option linter.unusedSimpArgs false
set_option linter.all false
namespace Go.Proofs.Ytpbimgafafkjgaa

def listsB (b : List Int) (k : Nat) (of : List Int) : List (List Int) := (lexL k of).map (b ++ ·)
def listsUpto (b : List Int) (k : Nat) (of : List Int) (i : Nat) : List (List Int) := (List.range i).flatMap fun j => listsB (b ++ [of.getD j 0]) k (of.drop (j + 1))
theorem listsUpto_succ {b : List Int} {k i : Nat} {of : List Int} {x : Int} (h : of[i]? = some x) : listsUpto b k of (i + 1) = listsUpto b k of i ++ listsB (b ++ [x]) k (of.drop (i + 1)) := by
  unfold listsUpto
  rw [List.range_succ, List.flatMap_append, List.flatMap_singleton, List.getD_eq_getElem?_getD, h]; rfl
theorem lists_all (b : List Int) (k : Nat) : ∀ of : List Int, listsUpto b k of of.length = listsB b (k + 1) of := by
  intro of
  induction of with
  | nil => rfl
  | cons x of ih =>
    unfold listsUpto at ih ⊢
    rw [List.length_cons, List.range_succ_eq_map, List.flatMap_cons, List.flatMap_map]
    have h1 : (List.range of.length).flatMap (fun a => listsB (b ++ [(x :: of).getD a.succ 0]) k ((x :: of).drop (a.succ + 1))) = listsB b (k + 1) of := by
      rw [← ih]; rfl
    rw [h1]
    unfold listsB
    rw [lexL, List.map_append, List.map_map]
    congr 1
    refine List.map_congr_left fun t _ => ?_
    simp
theorem lexL_len : ∀ (of : List Int) (k : Nat), (lexL k of).length ≤ 2 ^ of.length := by
  intro of
  induction of with
  | nil => intro k; cases k <;> simp [lexL]
  | cons x of ih =>
    intro k
    cases k with
    | zero => simp only [lexL, List.length_singleton]; exact Nat.one_le_two_pow
    | succ k =>
      rw [lexL, List.length_append, List.length_map, List.length_cons, Nat.pow_succ]
      have h1 := ih k
      have h2 := ih (k + 1)
      omega
theorem listsB_len (b : List Int) (k : Nat) (of : List Int) (h : of.length ≤ 8) : (listsB b k of).length ≤ 256 := by
  unfold listsB
  rw [List.length_map]
  exact Nat.le_trans (lexL_len of k) (Nat.pow_le_pow_right (by decide) h : 2 ^ of.length ≤ 2 ^ 8)
theorem listsUpto_len (b : List Int) (k : Nat) (of : List Int) (h : of.length ≤ 8) (i : Nat) : (listsUpto b k of i).length ≤ i * 256 := by
  induction i with
  | zero => exact Nat.le_refl _
  | succ i ih =>
    have h1 : listsUpto b k of (i + 1) = listsUpto b k of i ++ listsB (b ++ [of.getD i 0]) k (of.drop (i + 1)) := by
      unfold listsUpto; rw [List.range_succ, List.flatMap_append, List.flatMap_singleton]
    rw [h1, List.length_append, Nat.succ_mul]
    have := listsB_len (b ++ [of.getD i 0]) k (of.drop (i + 1)) (by rw [List.length_drop]; omega)
    omega

end Go.Proofs.Ytpbimgafafkjgaa

namespace Go.Proofs.Ytpbimgafafkjgaa
open Go.RowKit

/-- the cells of a slice, one for each element -/
theorem news_of {α : Type} {R : Rd α} {S : Foot} {w : World} {ad : Addr} {m : Nat} {ys : List α} (g : R.Good 1) (h : SliceOf R 1 S w (some ad) m ys) :
    ∃ news : List Value, news.length = m ∧ (∀ j u, news[j]? = some u → w.cell? (ad.add j) = some u) ∧ (∀ u ∈ news, u.oneCell' = true) ∧ ∀ (k : Nat) (y : α), ys[k]? = some y → ∃ u, news[k]? = some u ∧ R S w y [u] := by
  have key : ∀ k : Nat, ∃ u : Value, k < m → u.oneCell' = true ∧ w.cell? (ad.add k) = some u ∧ ∀ y, ys[k]? = some y → R S w y [u] := by
    intro k
    by_cases hk : k < m
    · have hlt : k < ys.length := by rw [h.1]; exact hk
      obtain ⟨b, off, vs, hA, _, _, hR, hc⟩ := h.2.2 k ys[k] (List.getElem?_eq_getElem hlt)
      have hl := g.len hR
      obtain ⟨u, rfl⟩ : ∃ u, vs = [u] := by
        match vs, hl with
        | [u], _ => exact ⟨u, rfl⟩
      refine ⟨u, fun _ => ⟨g.one hR u (by simp), ?_, fun y hy => ?_⟩⟩
      · injection hA with hA; subst hA
        have := hc 0 u rfl
        have hadd : (⟨b, off, none⟩ : Addr).add k = ⟨b, off + k, none⟩ := by unfold Addr.add; split <;> simp_all
        rw [hadd]; simpa using this
      · rw [List.getElem?_eq_getElem hlt] at hy
        injection hy with hy; subst hy; exact hR
    · exact ⟨undef, fun h => absurd h hk⟩
  obtain ⟨F, hF⟩ := Classical.axiomOfChoice key
  refine ⟨(List.range m).map F, by simp, ?_, ?_, ?_⟩
  · intro j u hu
    rw [List.getElem?_map] at hu
    have hj : j < m := by
      cases h2 : (List.range m)[j]? with
      | none => rw [h2] at hu; cases hu
      | some q => have := of_getq' h2; simpa using this
    rw [List.getElem?_range hj] at hu
    simp at hu; subst hu
    exact (hF j hj).2.1
  · intro u hu
    obtain ⟨j, hj, rfl⟩ := List.mem_map.1 hu
    exact (hF j (List.mem_range.1 hj)).1
  · intro k y hy
    have hk : k < m := by rw [← h.1]; exact of_getq' hy
    exact ⟨F k, by rw [List.getElem?_map, List.getElem?_range hk]; rfl, (hF k hk).2.2 y hy⟩

theorem run_append_all {P : Program} (w : World) (t ty : TypeId)
    {α : Type} {R : Rd α} (g : R.Good 1) {S U : Foot} (base : Nat) (e : TypeId) (i : TypeInfo) (z : Value) (bytes : Nat) (ht : P.underlying t = some (.slice e)) (hi : P.info? e = some i) (hz : i.zero = some z)
    (hsize : i.size = 1) (hby : i.bytes = bytes) (hzs : z.cells.size = 1)
    (v : Value) (xs : List α) (n : Nat) (hn : xs.length = n) (hown : OwnL R 1 S w base e v xs)
    (A : Option Addr) (m c : Nat) (ys : List α) (hR : SliceOf R 1 U w A m ys) (hU : ∀ y vs, R (fun k => U k ∧ k < w.heap.size) w y vs → R S w y vs)
    (h63 : n + m ≤ maxLen) (hbytes : (n + m) * bytes ≤ 140737488355328) (hbase : base ≤ w.heap.size) (hS : ¬ S w.heap.size) :
    ∃ A' cap' w', (Builtin.append_ #[t, t] ty #[v, .slice A m c]).run P w = .ok (.slice A' (n + m) cap') w' ∧ OwnL R 1 S w' base e (.slice A' (n + m) cap') (xs ++ ys) ∧ w.grownBy w' v.ownBlock ∧ ((Value.slice A' (n + m) cap').ownBlock = v.ownBlock ∨ (Value.slice A' (n + m) cap').ownBlock = some w.heap.size) := by
  subst hn
  have hylen := hR.1
  rcases A with _ | ad
  · have hm0 : m = 0 := by
      rcases Nat.eq_zero_or_pos m with h | h
      · exact h
      · obtain ⟨_, _, _, hA, _⟩ := hR.2.2 0 (ys[0]'(by omega)) (List.getElem?_eq_getElem (by omega)); cases hA
    subst hm0
    have hy : ys = [] := List.eq_nil_of_length_eq_zero hylen
    subst hy
    obtain ⟨A', cap', hv⟩ := OwnL.form hown
    have hown' := hown
    obtain ⟨h0, cells, hrow, hcells⟩ := hown
    have hrun : (Builtin.append_ #[t, t] ty #[v, .slice none 0 c]).run P w = .ok v w := by
      rcases hrow.2 with ⟨rfl, hz0⟩ | ⟨g, cap, cur, rfl, _, _, hnc, _⟩
      · simp [Builtin.append_, run_underlying ht, sizeOf, typeInfo, hi, Builtin.lenOf, Builtin.firstCells]
      · simp [Builtin.append_, run_underlying ht, sizeOf, typeInfo, hi, Builtin.lenOf, Builtin.firstCells, hnc, storeCells]
    refine ⟨A', cap', w, by rw [hrun, hv, Nat.add_zero], by rw [Nat.add_zero, ← hv, List.append_nil]; exact hown', World.grownBy.refl w _, .inl (by rw [hv]; rfl)⟩
  · obtain ⟨h0, cells, hrow, hcells⟩ := hown
    obtain ⟨news, hnl, hnc, hn1, hnR⟩ := news_of g hR
    obtain ⟨v', w', hrun, hown', hgrow, hnil, hat⟩ := run_append_own_at (P := P) w base t ty e i z 1 bytes ht hi hz hsize hby hzs (by decide) v xs.length cells hrow ad m c news (by omega) hnc hn1 h63 hbytes hbase
    have hlen : (xs ++ ys).length = xs.length + m := by simp [hylen]
    have hk : Keeps S w w' := Keeps.grown hgrow h0
    have hO : OwnL R 1 S w' base e v' (xs ++ ys) := by
      refine ⟨fun k hk' => ?_, cells ++ news, by rw [hlen]; exact hown', fun k y hy => ?_⟩
      · rcases hat with e | e
        · exact h0 k (by rw [← e]; exact hk')
        · rw [e] at hk'; injection hk' with hk'; subst hk'; exact hS
      · have hcl : cells.length = xs.length := by rw [hrow.1]; omega
        by_cases hlt : k < xs.length
        · rw [List.getElem?_append_left hlt] at hy
          obtain ⟨vs, hR', hc⟩ := hcells k y hy
          refine ⟨vs, g.keep hR' hk, fun j u hu => ?_⟩
          have h3 := hc j u hu
          rw [List.getElem?_append_left (of_getq' h3)]; exact h3
        · rw [List.getElem?_append_right (by omega)] at hy
          obtain ⟨u, hu, hRu⟩ := hnR _ y hy
          refine ⟨[u], g.keep (hU _ _ (g.bound hRu)) hk, fun j q hq => ?_⟩
          have hj : j = 0 := by have := of_getq' hq; simp at this; omega
          subst hj
          simp at hq; subst hq
          rw [List.getElem?_append_right (by omega), show k * 1 + 0 - cells.length = k - xs.length by omega]; exact hu
    obtain ⟨A', cap', hv⟩ := OwnL.form hO
    rw [hlen] at hv
    rw [hv] at hO hat hrun
    exact ⟨A', cap', w', hrun, hO, hgrow, hat⟩

/-- onto a slice without room: nothing that is there changes -/
theorem run_append_full {P : Program} (w : World) (t ty : TypeId)
    {α : Type} {R : Rd α} (g : R.Good 1) {S U : Foot} (base : Nat) (e : TypeId) (i : TypeInfo) (z : Value) (bytes : Nat) (ht : P.underlying t = some (.slice e)) (hi : P.info? e = some i) (hz : i.zero = some z)
    (hsize : i.size = 1) (hby : i.bytes = bytes) (hzs : z.cells.size = 1)
    (gb n : Nat) (xs : List α) (hn : xs.length = n) (hown : OwnL R 1 S w base e (.slice (some ⟨gb, 0, none⟩) n n) xs)
    (A : Option Addr) (m c : Nat) (ys : List α) (hR : SliceOf R 1 U w A m ys) (hU : ∀ y vs, R (fun k => U k ∧ k < w.heap.size) w y vs → R S w y vs)
    (h63 : n + m ≤ maxLen) (hbytes : (n + m) * bytes ≤ 140737488355328) (hbase : base ≤ w.heap.size) (hS : ¬ S w.heap.size) :
    ∃ A' cap' w', (Builtin.append_ #[t, t] ty #[.slice (some ⟨gb, 0, none⟩) n n, .slice A m c]).run P w = .ok (.slice A' (n + m) cap') w' ∧ OwnL R 1 S w' base e (.slice A' (n + m) cap') (xs ++ ys) ∧ Below w.heap.size w w' := by
  have h63' := h63
  simp only [maxLen] at h63'
  have hylen := hR.1
  by_cases hm : m = 0
  · subst hm
    have hy : ys = [] := List.eq_nil_of_length_eq_zero hylen
    subst hy
    refine ⟨some ⟨gb, 0, none⟩, n, w, ?_, by rw [Nat.add_zero, List.append_nil]; exact hown, Below.refl _ _⟩
    cases A with
    | none => simp [Builtin.append_, run_underlying ht, sizeOf, typeInfo, hi, hsize, Builtin.lenOf, Builtin.firstCells, storeCells]
    | some ad => simp [Builtin.append_, run_underlying ht, sizeOf, typeInfo, hi, hsize, Builtin.lenOf, Builtin.firstCells, storeCells, loadCells, loadCellsFrom]
  · obtain ⟨A', cap', w', hrun, hO, hgr, hat⟩ := run_append_all (P := P) w t ty g base e i z bytes ht hi hz hsize hby hzs (.slice (some ⟨gb, 0, none⟩) n n) xs n hn hown A m c ys hR hU h63 hbytes hbase hS
    refine ⟨A', cap', w', hrun, hO, ?_⟩
    cases A with
    | none =>
      obtain ⟨_, _, _, hA, _⟩ := hR.2.2 0 (ys[0]'(by omega)) (List.getElem?_eq_getElem (by omega)); cases hA
    | some ad =>
      obtain ⟨news, hnl, hnc, hn1, hnR⟩ := news_of g hR
      obtain ⟨_, cells, hrow, _⟩ := hown
      have holds : ∀ j u, cells[j]? = some u → w.cell? ((⟨gb, 0, none⟩ : Addr).add j) = some u := hrow.cells (g := gb) rfl
      have hr := run_append_grow (P := P) w t ty e i z ht hi hz ⟨gb, 0, none⟩ n n cells (by rw [hrow.1, hn, hsize]) holds ad m c news (by rw [hsize]; omega) hnc (by omega) (by omega) (growslice_fits (by omega) (by rw [hby]; exact hbytes))
      rw [hr] at hrun
      injection hrun with _ hw
      rw [← hw]
      exact bl_alloc (Below.refl _ _).drew _ (Nat.le_refl _)
theorem run_append_fresh {P : Program} (w : World) (t ty : TypeId)
    {α : Type} {R : Rd α} (g : R.Good 1) {S U : Foot} (base : Nat) (e : TypeId) (i : TypeInfo) (z : Value) (bytes : Nat) (ht : P.underlying t = some (.slice e)) (hi : P.info? e = some i) (hz : i.zero = some z)
    (hsize : i.size = 1) (hby : i.bytes = bytes) (hzs : z.cells.size = 1)
    (gb : Nat) (hown : OwnL R 1 S w base e (.slice (some ⟨gb, 0, none⟩) 0 0) [])
    (A : Option Addr) (m c : Nat) (ys : List α) (hR : SliceOf R 1 U w A m ys) (hU : ∀ y vs, R (fun k => U k ∧ k < w.heap.size) w y vs → R S w y vs)
    (h63 : m ≤ maxLen) (hbytes : m * bytes ≤ 140737488355328) (hbase : base ≤ w.heap.size) (hS : ¬ S w.heap.size) :
    ∃ A' cap' w', (Builtin.append_ #[t, t] ty #[.slice (some ⟨gb, 0, none⟩) 0 0, .slice A m c]).run P w = .ok (.slice A' m cap') w' ∧ OwnL R 1 S w' base e (.slice A' m cap') ys ∧ Below w.heap.size w w' := by
  have := run_append_full (P := P) w t ty g base e i z bytes ht hi hz hsize hby hzs gb 0 [] rfl hown A m c ys hR hU (by omega) (by rw [Nat.zero_add]; exact hbytes) hbase hS
  rw [Nat.zero_add] at this
  exact this
theorem OwnL.lit1s {α : Type} {R : Rd α} (g : R.Good 1) {S : Foot} (w : World) (base : Nat) (t : TypeId) (x : α) (v : Value) (hb : base ≤ w.heap.size) (hR : R S w x [v]) (hS : ¬ S w.heap.size) : OwnL R 1 S (w.alloc (.cells #[v] t)) base t (.slice (some ⟨w.heap.size, 0, none⟩) 1 1) [x] := by
  refine ⟨fun k hk h => ?_, [v], by have := World.ownsRow_lit (base := base) (e := t) (size := 1) w #[v] 1 hb (by decide) rfl; simpa using this, fun k y h => ?_⟩
  · have : w.heap.size = k := by simpa [Value.ownBlock] using hk
    subst this; exact hS h
  · have hk : k = 0 := by have := of_getq' h; simp at this; omega
    subst hk
    simp at h; subst h
    refine ⟨[v], g.keep hR (Keeps.alloc _ _), fun j u hu => ?_⟩
    have hj : j = 0 := by have := of_getq' hu; simp at this; omega
    subst hj
    simpa using hu

theorem wp_append_of_run {P : Program} {o : Oper} {a : Act} {K : Act → World → Prop} {Q : Exit → Act → World → Prop} {w w' : World} {s x : Operand} {t : TypeId} {v1 v2 v' : Value}
    (ho : o.op = .call { callee := .builtin .append, args := #[s, x], argTypes := #[t, t] }) (hs : a.eval s = v1) (hx : a.eval x = v2)
    (hrun : (Builtin.append_ #[t, t] o.type #[v1, v2]).run P w = .ok v' w') (h : K (a.put o.dst v') w') : o.wp P a w K Q := by
  unfold Oper.wp execOp
  simp only [ho, resolve, invoke, builtin, Sem.run_bind, Sem.run_pure, Result.andThen_ok, List.map_toArray, List.map_cons, List.map_nil, hs, hx, hrun]
  exact h

theorem wpList_append_all {P : Program} {ops : Array Oper} {rest : List Oper} {o : Oper} {a : Act} {Q : Exit → Act → World → Prop} (w : World) (hgd : o.guard = none) (s x : Operand) (t : TypeId)
    (ho : o.op = .call { callee := .builtin .append, args := #[s, x], argTypes := #[t, t] })
    {α : Type} {R : Rd α} (g : R.Good 1) {S U : Foot} (base : Nat) (e : TypeId) (i : TypeInfo) (z : Value) (bytes : Nat) (ht : P.underlying t = some (.slice e)) (hi : P.info? e = some i) (hz : i.zero = some z)
    (hsize : i.size = 1) (hby : i.bytes = bytes) (hzs : z.cells.size = 1)
    (v : Value) (xs : List α) (n : Nat) (hn : xs.length = n) (hs : a.eval s = v) (hown : OwnL R 1 S w base e v xs)
    (A : Option Addr) (m c : Nat) (ys : List α) (hx : a.eval x = .slice A m c) (hR : SliceOf R 1 U w A m ys) (hU : ∀ y vs, R (fun k => U k ∧ k < w.heap.size) w y vs → R S w y vs)
    (h63 : n + m ≤ maxLen) (hbytes : (n + m) * bytes ≤ 140737488355328) (hbase : base ≤ w.heap.size) (hS : ¬ S w.heap.size)
    (h : ∀ A' cap' w', OwnL R 1 S w' base e (.slice A' (n + m) cap') (xs ++ ys) → w.grownBy w' v.ownBlock → ((Value.slice A' (n + m) cap').ownBlock = v.ownBlock ∨ (Value.slice A' (n + m) cap').ownBlock = some w.heap.size) → wpList P ops Q rest (a.put o.dst (.slice A' (n + m) cap')) w') : wpList P ops Q (o :: rest) a w := by
  obtain ⟨A', cap', w', hrun, h1, h2, h3⟩ := run_append_all (P := P) w t o.type g base e i z bytes ht hi hz hsize hby hzs v xs n hn hown A m c ys hR hU h63 hbytes hbase hS
  exact wpList_plain hgd fun K hK => wp_append_of_run ho hs hx hrun (hK _ _ (h A' cap' w' h1 h2 h3))

theorem run_append_allt {P : Program} (w : World) (t ty : TypeId)
    {α : Type} {R : Rd α} (T : Foot) (g : R.Good 1) {U : Foot} (base : Nat) (e : TypeId) (i : TypeInfo) (z : Value) (bytes : Nat) (ht : P.underlying t = some (.slice e)) (hi : P.info? e = some i) (hz : i.zero = some z)
    (hsize : i.size = 1) (hby : i.bytes = bytes) (hzs : z.cells.size = 1)
    (v : Value) (xs : List α) (n : Nat) (hn : xs.length = n) (hown : OwnT T R 1 w base e v xs)
    (A : Option Addr) (m c : Nat) (ys : List α) (hR : SliceOf R 1 U w A m ys) (hU : ∀ k, U k → k < w.heap.size → T k ∧ v.ownBlock ≠ some k)
    (h63 : n + m ≤ maxLen) (hbytes : (n + m) * bytes ≤ 140737488355328) (hbase : base ≤ w.heap.size) :
    ∃ A' cap' w', (Builtin.append_ #[t, t] ty #[v, .slice A m c]).run P w = .ok (.slice A' (n + m) cap') w' ∧ OwnT T R 1 w' base e (.slice A' (n + m) cap') (xs ++ ys) ∧ w.grownBy w' v.ownBlock ∧ ((Value.slice A' (n + m) cap').ownBlock = v.ownBlock ∨ (Value.slice A' (n + m) cap').ownBlock = some w.heap.size) := by
  obtain ⟨h0, cells, hrow, hcells⟩ := hown
  have hb : OwnL R 1 (fun k => (T k ∧ v.ownBlock ≠ some k) ∧ k < w.heap.size) w base e v xs := ⟨fun k hk h => h0 k hk h.1, cells, hrow, fun k x hx => by
    obtain ⟨vs, hR, hc⟩ := hcells k x hx
    exact ⟨vs, g.bound hR, hc⟩⟩
  obtain ⟨A', cap', w', hrun, ho', hg', hat'⟩ := run_append_all (P := P) w t ty g base e i z bytes ht hi hz hsize hby hzs v xs n hn hb A m c ys hR (fun y vs h => g.mono h fun k hk => ⟨hU k hk.1 hk.2, hk.2⟩) h63 hbytes hbase (fun h => absurd h.2 (Nat.lt_irrefl _))
  refine ⟨A', cap', w', hrun, ?_, hg', hat'⟩
  obtain ⟨h1, cells', hrow', hcells'⟩ := ho'
  refine ⟨fun k hk hc => hc.2 hk, cells', hrow', fun k x hx => ?_⟩
  obtain ⟨vs, hR', hc⟩ := hcells' k x hx
  refine ⟨vs, g.mono hR' fun j hj => ⟨hj.1.1, fun hA => ?_⟩, hc⟩
  rcases hat' with e | e
  · exact hj.1.2 (by rw [← e]; exact hA)
  · rw [e] at hA; injection hA with hA; have := hj.2; omega

end Go.Proofs.Ytpbimgafafkjgaa

namespace Go.Proofs.Ytpbimgafafkjgaa
open Go.RowKit

theorem infoI8' : (Try.prog.info? 3).map (fun i => (i.zero, i.size, i.bytes)) = some (some (.int .i64 0), 1, 8) := by kernel_rfl
theorem infoS24 : (Try.prog.info? 39).map (fun i => (i.zero, i.size, i.bytes)) = some (some (.slice none 0 0), 1, 24) := by kernel_rfl

/-- what is left of a slice behind its first ones -/
def fromA (A : Option Addr) (c k : Nat) : Option Addr := if c = k then A else A.map (·.add k)
theorem Ints.from_ {S : Foot} {w : World} {A : Option Addr} {n c k : Nat} {xs : List Int} (h : Ints S w A n xs) (hk : k ≤ n) (hc : n ≤ c) : Ints S w (fromA A c k) (n - k) (xs.drop k) := by
  refine ⟨by rw [List.length_drop, h.1], by have := h.2.1; omega, fun j x hx => ?_⟩
  rw [List.getElem?_drop] at hx
  have hlt : k + j < n := by rw [← h.1]; exact of_getq' hx
  obtain ⟨b, off, vs, rfl, h1, h2, h3, h4⟩ := h.2.2 _ x hx
  refine ⟨b, off + k, vs, ?_, h1, h2, h3, fun i u hu => ?_⟩
  · unfold fromA
    rw [if_neg (by omega)]
    simp only [Option.map_some, Option.some.injEq]
    unfold Addr.add; split <;> simp_all
  · rw [show off + k + j * 1 + i = off + (k + j) * 1 + i by omega]; exact h4 i u hu
theorem run_slice_from {A : Option Addr} {n c k : Nat} (w : World) (hk : k ≤ n) (hc : n ≤ c) :
    (Instr.slice 39 (.slice A n c) (some (.int .i64 (k : Int))) none none).run Try.prog w = .ok (.slice (fromA A c k) (n - k) (c - k)) w := by
  have h1 : (Instr.sliceBounds true n c (some (.int .i64 (k : Int))) none none).run Try.prog w = .ok (k, n, c) w := by
    have hb : (Instr.sliceBound (.int .i64 (k : Int)) n .sliceB).run Try.prog w = .ok k w := by
      simp [Instr.sliceBound, asIntOf, go_sem, hk]
    simp [Instr.sliceBounds, hb]
  obtain ⟨i0, hi0, hz0, hz1, hz2⟩ := info_parts infoI8'
  unfold Instr.slice
  simp only [Sem.run_bind, run_underlying Try.underlying39, Result.andThen_ok, h1, sizeOf, typeInfo, hi0, hz1, Sem.run_pure, Nat.mul_one, fromA]
  simp [hi0, hz1, go_sem]

/-- a slice of lists, all from a block on or of S -/
def IsLists (S : Foot) (w0 : Nat) (xs : List (List Int)) (e : Ending) (w' : World) : Prop := ∃ (A' : Option Addr) (c : Nat), e = .returned (.slice A' xs.length c) ∧ Rows (fun k => S k ∨ w0 ≤ k) w' A' xs.length xs

/-- what the operations of a round promise -/
def lsE (B : Nat) (An : Option Addr) (len cap : Nat) (A : Option Addr) (n c : Nat) (xs : List Int) (Bq : Option Addr) (m d i : Nat) (bb ob : Nat) (x : Int) (k : Nat) (ki : Int) (ys : List Int) : Nat → Bool → Value → World → Prop
  | 0, _, v, _ => v = .slice An len cap
  | 1, b, v, W => b = false → ∃ gb : Nat, v = .slice (some ⟨gb, 0, none⟩) 0 0 ∧ OwnL IntR 1 (fun _ => False) W B 3 (.slice (some ⟨gb, 0, none⟩) 0 0) []
  | 2, _, v, _ => v = .slice A n c
  | 3, b, v, W => b = false → ∃ (A' : Option Addr) (cap' : Nat), v = .slice A' n cap' ∧ OwnL IntR 1 (fun _ => False) W B 3 (.slice A' n cap') xs
  | 4, _, v, _ => v = .slice Bq m d
  | 5, _, v, _ => v = .int .i64 i
  | 6, _, v, _ => v = .pointer (some ⟨bb, ob + i, none⟩)
  | 7, _, v, _ => v = .int .i64 x
  | 8, b, v, W => b = false → ∃ g : Nat, v = .slice (some ⟨g, 0, none⟩) 1 1 ∧ Blk W g 3 #[.int .i64 x]
  | 9, _, v, W => ∃ (A' : Option Addr) (cap' : Nat), v = .slice A' (n + 1) cap' ∧ Ints (fun k => B ≤ k) W A' (n + 1) (xs ++ [x])
  | 10, _, v, _ => v = .int .i64 ki
  | 11, _, v, _ => v = .int .i64 k
  | 12, _, v, _ => v = .slice Bq m d
  | 13, _, v, _ => v = .int .i64 i
  | 14, _, v, _ => v = .int .i64 ((i : Int) + 1)
  | 15, _, v, _ => v = .slice (fromA Bq d (i + 1)) (m - (i + 1)) (d - (i + 1))
  | 16, _, v, W => ∃ (A' : Option Addr) (c' : Nat), v = .slice A' (listsB (xs ++ [x]) k (ys.drop (i + 1))).length c' ∧ Rows (fun k => B ≤ k) W A' (listsB (xs ++ [x]) k (ys.drop (i + 1))).length (listsB (xs ++ [x]) k (ys.drop (i + 1)))
  | _, _, _, _ => True
theorem lsE_stab (B : Nat) (An : Option Addr) (len cap : Nat) (A : Option Addr) (n c : Nat) (xs : List Int) (Bq : Option Addr) (m d i : Nat) (bb ob : Nat) (x : Int) (k : Nat) (ki : Int) (ys : List Int) : ∀ j b v w w', Below w.heap.size w w' → lsE B An len cap A n c xs Bq m d i bb ob x k ki ys j b v w → lsE B An len cap A n c xs Bq m d i bb ob x k ki ys j b v w'
  | 0, _, _, _, _, _, h => h
  | 1, _, _, _, _, hb, h => fun e => by obtain ⟨gb, h1, h2⟩ := h e; exact ⟨gb, h1, h2.below IntR.good hb⟩
  | 2, _, _, _, _, _, h => h
  | 3, _, _, _, _, hb, h => fun e => by obtain ⟨A', c', h1, h2⟩ := h e; exact ⟨A', c', h1, h2.below IntR.good hb⟩
  | 4, _, _, _, _, _, h => h
  | 5, _, _, _, _, _, h => h
  | 6, _, _, _, _, _, h => h
  | 7, _, _, _, _, _, h => h
  | 8, _, _, _, _, hb, h => fun e => by obtain ⟨g, h1, h2⟩ := h e; exact ⟨g, h1, h2.bl hb⟩
  | 9, _, _, _, _, hb, h => by obtain ⟨A', c', h1, h2⟩ := h; exact ⟨A', c', h1, h2.keep IntR.good (Keeps.below hb)⟩
  | 10, _, _, _, _, _, h => h
  | 11, _, _, _, _, _, h => h
  | 12, _, _, _, _, _, h => h
  | 13, _, _, _, _, _, h => h
  | 14, _, _, _, _, _, h => h
  | 15, _, _, _, _, _, h => h
  | 16, _, _, _, _, hb, h => by obtain ⟨A', c', h1, h2⟩ := h; exact ⟨A', c', h1, h2.keep (SlR.good IntR.good) (Keeps.below hb)⟩
  | _ + 17, _, _, _, _, _, _ => trivial

set_option maxRecDepth 100000 in
set_option maxHeartbeats 2000000 in
theorem lists_any : ∀ (k : Nat) {S T : Foot} {A Bq : Option Addr} {n c m d : Nat} {xs ys : List Int} (w : World) (h : Ints S w A n xs) (g : Ints T w Bq m ys) (hm8 : m ≤ 8) (hmd : m ≤ d) (hnk : n + k ≤ 16),
    Calls Try.prog 94 #[.slice A n c, .int .i64 k, .slice Bq m d] w fun e w' => IsLists S w.heap.size (listsB xs k ys) e w' ∧ Below w.heap.size w w' := by
  obtain ⟨i0, hi0, hz0, hz1, hz2⟩ := info_parts infoI8'
  obtain ⟨i1, hi1, hy0, hy1, hy2⟩ := info_parts infoS24
  intro k
  induction k with
  | zero =>
    intro S T A Bq n c m d xs ys w h g hm8 hmd hnk
    go_enter Try.func94, Try.ntmps94
    go_wp2
    go_ret
    refine ⟨⟨some ⟨w.heap.size, 0, none⟩, 1, by simp [listsB, lexL], ?_⟩, bl_alloc (Below.refl _ _) _ (Nat.le_refl _)⟩
    have hL : listsB xs 0 ys = [xs] := by simp [listsB, lexL]
    rw [hL]
    refine ⟨rfl, show 1 ≤ maxLen by decide, fun j x hx => ?_⟩
    have hj : j = 0 := by have := of_getq' hx; simp at this; omega
    subst hj
    simp at hx; subst hx
    refine ⟨w.heap.size, 0, [.slice A n c], rfl, .inr (Nat.le_refl _), by simp, ⟨A, n, c, rfl, (h.keep IntR.good (Keeps.alloc _ _)).mono IntR.good fun _ h => .inl h⟩, fun j u hu => ?_⟩
    have hj : j = 0 := by have := of_getq' hu; simp at this; omega
    subst hj
    simp at hu; subst hu
    exact newc rfl rfl
  | succ k ih =>
    intro S T A Bq n c m d xs ys w h g hm8 hmd hnk
    have Hly := Lib.hid g.len
    have IH : Hid _ := @ih
    clear ih
    obtain ⟨ki, hki0⟩ : ∃ ki : Int, ((k + 1 : Nat) : Int) = ki := ⟨_, rfl⟩
    rw [hki0]
    have hk0 : (ki == 0) = false := by simp; omega
    go_enter Try.func94, Try.ntmps94
    go_wp2
    go_loopw [7, 8] (fun o i wr => ∃ (i' len cap : Nat) (An : Option Addr), i' ≤ m ∧ i = .int .i64 i' ∧ o = .slice An len cap ∧ Below w.heap.size w wr ∧ OwnT (fun b => w.heap.size ≤ b) (SlR IntR 1) 1 wr w.heap.size 39 (.slice An len cap) (listsUpto xs k ys i') ∧ Hid ((listsUpto xs k ys i').length = len)) (fun _ i _ => m - (intOf i).toNat)
    case atStart => exact ⟨0, 0, 0, none, Nat.zero_le _, rfl, rfl, Below.refl _ _, OwnT.nil _ _ _ _ _ _, rfl⟩
    case round =>
      obtain ⟨i', len, cap, An, hi', rfl, rfl, hB, hO, Hlen⟩ := hrel
      by_cases hlt : i' < m
      · have hki : (i' : Int) < m := by omega
        have hr := h.keep IntR.good (Keeps.below hB)
        have gr := g.keep IntR.good (Keeps.below hB)
        obtain ⟨bb, ob, x, rfl, hcell, Hx⟩ := Ints.get gr hlt
        go_wp2_with fail
        have hwr := hB.size
        have AS := Lib.hid (lsE_stab wr.heap.size An len cap A n c xs (some ⟨bb, ob, none⟩) m d i' bb ob x k ki ys)
        have HR := Lib.hid hr
        have HGR := Lib.hid gr
        clear hr gr h g
        refine wp_region_invs2 (InvE wr.heap.size wr (lsE wr.heap.size An len cap A n c xs (some ⟨bb, ob, none⟩) m d i' bb ob x k ki ys) 9) 17 (by kernel_rfl) (by kernel_rfl) (by kernel_rfl) (by rfl) ⟨(Below.refl _ _).drew, fun i h => by cases h⟩ ?step (by rfl) (by rfl) (by rfl) (by rfl) ?fin
        case step =>
          refine StepsI.cons ?_ (StepsI.cons ?_ (StepsI.cons ?_ (StepsI.cons ?_ (StepsI.cons ?_ (StepsI.cons ?_ (StepsI.cons ?_ (StepsI.cons ?_ (StepsI.cons ?_ (StepsI.cons ?_ (StepsI.cons ?_ (StepsI.cons ?_ (StepsI.cons ?_ (StepsI.cons ?_ (StepsI.cons ?_ (StepsI.cons ?_ (StepsI.cons ?_ StepsI.nil))))))))))))))))
          all_goals
            refine StepI.of ?_
            intro ls vs W K hI hl hw hU hK
            simp only [fillA, Act.put, List.setIfInBounds_toArray, List.set_cons_zero, List.set_cons_succ, Nat.zero_add, Nat.reduceAdd] at hK ⊢
            simp [waits, Region.binds] at hw
            have hC := hI.1
          · have h18 : vs 18 = .slice An len cap := (hU 18 _ rfl (by simp [waits, Region.binds])).2
            simp only [h18] at hK ⊢
            go_simp
            exact hK _ _ (hI.step AS.out (Below.refl _ _) hC.size (by decide) rfl)
          · go_simp
            exact hK _ _ (hI.step AS.out (bl_alloc (Below.refl _ _) _ (Nat.le_refl _)) hC.size (by decide) (fun _ => ⟨_, rfl, OwnL.lit W _ _ hC.size rfl⟩))
          · go_simp
            exact hK _ _ (hI.step AS.out (Below.refl _ _) hC.size (by decide) rfl)
          · have h9 : ls 9 = false := (hU 9 _ rfl (by simp [waits, Region.binds])).1
            obtain ⟨gb, h1, hO1⟩ := hI.2 1 (by simp [hw]) h9
            have h2 : vs 2 = _ := hI.2 2 (by simp [hw])
            simp only [h1, h2] at hK ⊢
            rw [if_pos (by rfl)]
            obtain ⟨A', cap', w', hrun, hO2, hb⟩ := run_append_fresh W 39 39 IntR.good wr.heap.size 3 i0 _ 8 Try.underlying39 hi0 hz0 hz1 hz2 rfl gb hO1 A n c xs (HR.out.keep IntR.good (Keeps.below hC)) (fun _ _ h => h) (by simp only [maxLen]; omega) (by omega) hC.size (fun h => h)
            refine wp_append_of_run rfl rfl rfl hrun ?_
            exact hK _ _ (hI.step AS.out hb hC.size (by decide) (fun _ => ⟨A', cap', rfl, hO2⟩))
          · go_simp
            exact hK _ _ (hI.step AS.out (Below.refl _ _) hC.size (by decide) rfl)
          · go_simp
            exact hK _ _ (hI.step AS.out (Below.refl _ _) hC.size (by decide) rfl)
          · have h1 : vs 4 = _ := hI.2 4 (by simp [hw])
            have h2 : vs 5 = _ := hI.2 5 (by simp [hw])
            simp only [h1, h2] at hK ⊢
            go_simp
            exact hK _ _ (hI.step AS.out (Below.refl _ _) hC.size (by decide) rfl)
          · have h1 : vs 6 = _ := hI.2 6 (by simp [hw])
            simp only [h1] at hK ⊢
            have hcW := getc hC hcell
            go_simp
            exact hK _ _ (hI.step AS.out (Below.refl _ _) hC.size (by decide) rfl)
          · have h1 : vs 7 = _ := hI.2 7 (by simp [hw])
            simp only [h1] at hK ⊢
            go_simp
            exact hK _ _ (hI.step AS.out (bl_alloc (Below.refl _ _) _ (Nat.le_refl _)) hC.size (by decide) (fun _ => ⟨_, rfl, Blk.new _ _ _ rfl⟩))
          · obtain ⟨A', cap', h1, hO1⟩ := hI.2 3 (by simp [hw]) hl
            obtain ⟨g8, h2, hB8⟩ := hI.2 8 (by simp [hw]) hl
            simp only [h1, h2] at hK ⊢
            rw [if_pos (by rfl)]
            obtain ⟨A2, cap2, w', hrun, hO2, hg2, hat⟩ := run_append_all W 39 39 IntR.good wr.heap.size 3 i0 _ 8 Try.underlying39 hi0 hz0 hz1 hz2 rfl (.slice A' n cap') xs n HR.out.len hO1 (some ⟨g8, 0, none⟩) 1 1 [x] (Ints.one (hB8.cell 0)) (fun _ _ h => h) (by simp only [maxLen]; omega) (by omega) hC.size (fun h => h)
            refine wp_append_of_run rfl rfl rfl hrun ?_
            have hbw : Below wr.heap.size W w' := bl_grown (Below.refl _ _) hO1 hg2 (Nat.le_refl _) hC.size
            have hi2 : Ints (fun k => wr.heap.size ≤ k) w' A2 (n + 1) (xs ++ [x]) := hO2.slice IntR.good rfl (by simp only [maxLen]; omega) (fun _ h => h.elim) (fun _ h _ => h)
            refine hK _ _ ⟨hC.trans hbw, fun i hi => ?_⟩
            have hb8 : updB ls 9 9 = true := by unfold updB; rw [if_pos rfl]
            rw [hb8]
            match i, hi with
            | 0, hi => exact hI.2 0 hi
            | 1, _ => exact fun e => by cases e
            | 2, hi => exact hI.2 2 hi
            | 3, _ => exact fun e => by cases e
            | 4, hi => exact hI.2 4 hi
            | 5, hi => exact hI.2 5 hi
            | 6, hi => exact hI.2 6 hi
            | 7, hi => exact hI.2 7 hi
            | 8, _ => exact fun e => by cases e
            | 9, _ => exact ⟨A2, cap2, rfl, hi2⟩
            | 10, hi => exact hI.2 10 hi
            | 11, hi => exact hI.2 11 hi
            | 12, hi => exact hI.2 12 hi
            | 13, hi => exact hI.2 13 hi
            | 14, hi => exact hI.2 14 hi
            | 15, hi => exact hI.2 15 hi
            | 16, hi => exact absurd hi (by rw [show updB ls 9 16 = ls 16 from rfl, (hU 16 _ rfl (by simp [waits, Region.binds])).1]; simp)
            | _ + 17, _ => trivial
          · go_simp
            exact hK _ _ (hI.step AS.out (Below.refl _ _) hC.size (by decide) rfl)
          · have h1 : vs 10 = _ := hI.2 10 (by simp [hw])
            simp only [h1] at hK ⊢
            have hw1 : IntKind.i64.wrap (ki - 1) = k := by rw [IntKind.wrap_i64]; omega
            go_simp
            exact hK _ _ (hI.step AS.out (Below.refl _ _) hC.size (by decide) rfl)
          · go_simp
            exact hK _ _ (hI.step AS.out (Below.refl _ _) hC.size (by decide) rfl)
          · go_simp
            exact hK _ _ (hI.step AS.out (Below.refl _ _) hC.size (by decide) rfl)
          · have h1 : vs 13 = _ := hI.2 13 (by simp [hw])
            simp only [h1] at hK ⊢
            have hw1 : IntKind.i64.wrap ((i' : Int) + 1) = (i' : Int) + 1 := by rw [IntKind.wrap_i64]; omega
            go_simp
            exact hK _ _ (hI.step AS.out (Below.refl _ _) hC.size (by decide) rfl)
          · have h1 : vs 12 = _ := hI.2 12 (by simp [hw])
            have h2 : vs 14 = _ := hI.2 14 (by simp [hw])
            have hsl : (Instr.slice 39 (.slice (some ⟨bb, ob, none⟩) m d) (some (.int .i64 ((i' : Int) + 1))) none none).run Try.prog W = .ok (.slice (fromA (some ⟨bb, ob, none⟩) d (i' + 1)) (m - (i' + 1)) (d - (i' + 1))) W := run_slice_from (k := i' + 1) W (by omega) hmd
            simp only [h1, h2] at hK ⊢
            go_simp
            exact hK _ _ (hI.step AS.out (Below.refl _ _) hC.size (by decide) rfl)
          · obtain ⟨A9, c9, h1, hI9⟩ := hI.2 9 (by simp [hw])
            have h2 : vs 11 = _ := hI.2 11 (by simp [hw])
            have h3 : vs 15 = _ := hI.2 15 (by simp [hw])
            simp only [h1, h2, h3] at hK ⊢
            go_simp
            refine (IH.out W hI9 (Ints.from_ (HGR.out.keep IntR.good (Keeps.below hC)) hlt hmd) (by omega) (by omega) (by omega)).mono ?_
            rintro e w' ⟨⟨A', c', rfl, hRR⟩, hb⟩
            exact hK _ _ (hI.step AS.out hb hC.size (by decide) ⟨A', c', rfl, hRR.mono (SlR.good IntR.good) (fun k h => by rcases h with h | h; exact h; exact Nat.le_trans hC.size h)⟩)
        case fin =>
          intro ls vs W hI hl hU
          have e0 : vs 0 = _ := hI.2 0 (hl 0 (by decide))
          obtain ⟨AR, cR, e16, hRR⟩ := hI.2 16 (hl 16 (by decide))
          have hC := hI.1
          simp only [fillA, Act.put, List.setIfInBounds_toArray, List.set_cons_zero, List.set_cons_succ, Nat.zero_add, Nat.reduceAdd, e0, e16]
          obtain ⟨u1, hu1⟩ : ∃ v0, vs 1 = v0 := ⟨_, rfl⟩
          obtain ⟨u2, hu2⟩ : ∃ v0, vs 2 = v0 := ⟨_, rfl⟩
          obtain ⟨u3, hu3⟩ : ∃ v0, vs 3 = v0 := ⟨_, rfl⟩
          obtain ⟨u4, hu4⟩ : ∃ v0, vs 4 = v0 := ⟨_, rfl⟩
          obtain ⟨u5, hu5⟩ : ∃ v0, vs 5 = v0 := ⟨_, rfl⟩
          obtain ⟨u6, hu6⟩ : ∃ v0, vs 6 = v0 := ⟨_, rfl⟩
          obtain ⟨u7, hu7⟩ : ∃ v0, vs 7 = v0 := ⟨_, rfl⟩
          obtain ⟨u8, hu8⟩ : ∃ v0, vs 8 = v0 := ⟨_, rfl⟩
          obtain ⟨u9, hu9⟩ : ∃ v0, vs 9 = v0 := ⟨_, rfl⟩
          obtain ⟨u10, hu10⟩ : ∃ v0, vs 10 = v0 := ⟨_, rfl⟩
          obtain ⟨u11, hu11⟩ : ∃ v0, vs 11 = v0 := ⟨_, rfl⟩
          obtain ⟨u12, hu12⟩ : ∃ v0, vs 12 = v0 := ⟨_, rfl⟩
          obtain ⟨u13, hu13⟩ : ∃ v0, vs 13 = v0 := ⟨_, rfl⟩
          obtain ⟨u14, hu14⟩ : ∃ v0, vs 14 = v0 := ⟨_, rfl⟩
          obtain ⟨u15, hu15⟩ : ∃ v0, vs 15 = v0 := ⟨_, rfl⟩
          rw [hu1, hu2, hu3, hu4, hu5, hu6, hu7, hu8, hu9, hu10, hu11, hu12, hu13, hu14, hu15]
          clear hI hl hU e0 e16 AS hu1 hu2 hu3 hu4 hu5 hu6 hu7 hu8 hu9 hu10 hu11 hu12 hu13 hu14 hu15
          obtain ⟨q, hq⟩ : ∃ q, (listsB (xs ++ [x]) k (ys.drop (i' + 1))).length = q := ⟨_, rfl⟩
          have hq8 : q ≤ 256 := by rw [← hq]; exact listsB_len _ _ _ (by rw [List.length_drop, Hly.out]; omega)
          have hlen8 : len ≤ 8 * 256 := by rw [← Hlen.out]; exact Nat.le_trans (listsUpto_len _ _ _ (by rw [Hly.out]; exact hm8) _) (Nat.mul_le_mul_right _ (by omega))
          have HS := Lib.hid (listsUpto_succ (b := xs) (k := k) Hx.out)
          have hOb := OwnL.block hO
          rw [hq] at hRR ⊢
          obtain ⟨A2, cap2, w2, hrun, hO2, hg2, hat⟩ := run_append_allt W 45 45 (fun b => w.heap.size ≤ b) (SlR.good IntR.good) w.heap.size 39 i1 _ 24 Try.underlying45 hi1 hy0 hy1 hy2 rfl (.slice An len cap) (listsUpto xs k ys i') len Hlen.out (OwnT.below (SlR.good IntR.good) hO (hC.mono (Nat.le_refl _))) AR q cR _ hRR (fun k h1 h2 => ⟨Nat.le_trans hwr h1, fun e => by have := (hOb k e).2; omega⟩) (by simp only [maxLen]; omega) (by omega) (Nat.le_trans hwr hC.size)
          have hB2 : Below w.heap.size w w2 := bl_grown (bl_call hB hC (Nat.le_refl _)) (OwnT.below (SlR.good IntR.good) hO (hC.mono (Nat.le_refl _))) hg2 (Nat.le_refl _) (Nat.le_refl _)
          rw [← HS.out] at hO2
          refine wp_append_of_run rfl rfl rfl hrun ?_
          clear hrun hg2 hat hRR hO hC hOb HR HGR
          go_simp
          go_wp2
          go_roundw
          case rel => exact ⟨i' + 1, len + q, cap2, A2, by omega, by go_num, rfl, hB2, hO2, by rw [Hid, HS.out, List.length_append, Hlen.out, hq]⟩
          case measure => simp [intOf]; omega
      · obtain rfl : i' = m := by omega
        have hall : listsUpto xs k ys i' = listsB xs (k + 1) ys := by rw [← lists_all, Hly.out]
        have hlen8 : len ≤ 8 * 256 := by rw [← Hlen.out]; exact Nat.le_trans (listsUpto_len _ _ _ (by rw [Hly.out]; exact hm8) _) (Nat.mul_le_mul_right _ (by omega))
        have HA := Lib.hid hall
        rw [hall] at hO Hlen
        clear hall
        go_wp2
        go_ret
        refine ⟨⟨An, cap, by rw [Hlen.out]; rfl, ?_⟩, hB⟩
        rw [Hlen.out]
        exact hO.slice (SlR.good IntR.good) rfl (by simp only [maxLen]; omega) (fun _ h => .inr h) (fun _ h => .inr h)

end Go.Proofs.Ytpbimgafafkjgaa
