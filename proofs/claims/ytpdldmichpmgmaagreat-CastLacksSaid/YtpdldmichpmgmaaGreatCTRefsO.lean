/- append of all elements of a slice of one cell each. Nothing of a program stands here. -/
import Derived.Test.YtpdldmichpmgmaaGreatCOwn
import Derived.Test.YtpdldmichpmgmaaGreatCTilePure2
set_option linter.unusedVariables false
set_option linter.unusedSimpArgs false
set_option linter.all false
namespace Go.Proofs.YtpdldmichpmgmaaGreat
open Go.RowKit

/-- the cells of a slice, one for each element -/
theorem news_of {α : Type} {R : Rd α} {S : Foot} {w : World} {ad : Addr} {m : Nat} {ys : List α} (g : R.Good 1) (h : SliceOf R 1 S w (some ad) m ys) :
    ∃ news : List Value, news.length = m ∧ (∀ j u, news[j]? = some u → w.cell? (ad.add j) = some u) ∧ (∀ u ∈ news, u.oneCell' = true) ∧ ∀ (k : Nat) (y : α), ys[k]? = some y → ∃ u, news[k]? = some u ∧ R S w y [u] := by
  have key : ∀ k : Nat, ∃ u : Value, k < m → u.oneCell' = true ∧ w.cell? (ad.add k) = some u ∧ ∀ y, ys[k]? = some y → R S w y [u] := by
    intro k
    by_cases hk : k < m
    · have hlt : k < ys.length := by rw [h.1]; exact hk
      obtain ⟨b, off, vs, hA, _, _, hR, hc⟩ := h.2.2 k ys[k] (List.getElem?_eq_getElem hlt)
      have hl := g.len hR
      obtain ⟨u, rfl⟩ : ∃ u, vs = [u] := by
        match vs, hl with
        | [u], _ => exact ⟨u, rfl⟩
      refine ⟨u, fun _ => ⟨g.one hR u (by simp), ?_, fun y hy => ?_⟩⟩
      · injection hA with hA; subst hA
        have := hc 0 u rfl
        have hadd : (⟨b, off, none⟩ : Addr).add k = ⟨b, off + k, none⟩ := by unfold Addr.add; split <;> simp_all
        rw [hadd]; simpa using this
      · rw [List.getElem?_eq_getElem hlt] at hy
        injection hy with hy; subst hy; exact hR
    · exact ⟨undef, fun h => absurd h hk⟩
  obtain ⟨F, hF⟩ := Classical.axiomOfChoice key
  refine ⟨(List.range m).map F, by simp, ?_, ?_, ?_⟩
  · intro j u hu
    rw [List.getElem?_map] at hu
    have hj : j < m := by
      cases h2 : (List.range m)[j]? with
      | none => rw [h2] at hu; cases hu
      | some q => have := of_getq' h2; simpa using this
    rw [List.getElem?_range hj] at hu
    simp at hu; subst hu
    exact (hF j hj).2.1
  · intro u hu
    obtain ⟨j, hj, rfl⟩ := List.mem_map.1 hu
    exact (hF j (List.mem_range.1 hj)).1
  · intro k y hy
    have hk : k < m := by rw [← h.1]; exact of_getq' hy
    exact ⟨F k, by rw [List.getElem?_map, List.getElem?_range hk]; rfl, (hF k hk).2.2 y hy⟩

theorem run_append_all {P : Program} (w : World) (t ty : TypeId)
    {α : Type} {R : Rd α} (g : R.Good 1) {S U : Foot} (base : Nat) (e : TypeId) (i : TypeInfo) (z : Value) (bytes : Nat) (ht : P.underlying t = some (.slice e)) (hi : P.info? e = some i) (hz : i.zero = some z)
    (hsize : i.size = 1) (hby : i.bytes = bytes) (hzs : z.cells.size = 1)
    (v : Value) (xs : List α) (n : Nat) (hn : xs.length = n) (hown : OwnL R 1 S w base e v xs)
    (A : Option Addr) (m c : Nat) (ys : List α) (hR : SliceOf R 1 U w A m ys) (hU : ∀ y vs, R (fun k => U k ∧ k < w.heap.size) w y vs → R S w y vs)
    (h63 : n + m ≤ maxLen) (hbytes : (n + m) * bytes ≤ 140737488355328) (hbase : base ≤ w.heap.size) (hS : ¬ S w.heap.size) :
    ∃ A' cap' w', (Builtin.append_ #[t, t] ty #[v, .slice A m c]).run P w = .ok (.slice A' (n + m) cap') w' ∧ OwnL R 1 S w' base e (.slice A' (n + m) cap') (xs ++ ys) ∧ w.grownBy w' v.ownBlock ∧ ((Value.slice A' (n + m) cap').ownBlock = v.ownBlock ∨ (Value.slice A' (n + m) cap').ownBlock = some w.heap.size) := by
  subst hn
  have hylen := hR.1
  rcases A with _ | ad
  · have hm0 : m = 0 := by
      rcases Nat.eq_zero_or_pos m with h | h
      · exact h
      · obtain ⟨_, _, _, hA, _⟩ := hR.2.2 0 (ys[0]'(by omega)) (List.getElem?_eq_getElem (by omega)); cases hA
    subst hm0
    have hy : ys = [] := List.eq_nil_of_length_eq_zero hylen
    subst hy
    obtain ⟨A', cap', hv⟩ := OwnL.form hown
    have hown' := hown
    obtain ⟨h0, cells, hrow, hcells⟩ := hown
    have hrun : (Builtin.append_ #[t, t] ty #[v, .slice none 0 c]).run P w = .ok v w := by
      rcases hrow.2 with ⟨rfl, hz0⟩ | ⟨g, cap, cur, rfl, _, _, hnc, _⟩
      · simp [Builtin.append_, run_underlying ht, sizeOf, typeInfo, hi, Builtin.lenOf, Builtin.firstCells]
      · simp [Builtin.append_, run_underlying ht, sizeOf, typeInfo, hi, Builtin.lenOf, Builtin.firstCells, hnc, storeCells]
    refine ⟨A', cap', w, by rw [hrun, hv, Nat.add_zero], by rw [Nat.add_zero, ← hv, List.append_nil]; exact hown', World.grownBy.refl w _, .inl (by rw [hv]; rfl)⟩
  · obtain ⟨h0, cells, hrow, hcells⟩ := hown
    obtain ⟨news, hnl, hnc, hn1, hnR⟩ := news_of g hR
    obtain ⟨v', w', hrun, hown', hgrow, hnil, hat⟩ := run_append_own_at (P := P) w base t ty e i z 1 bytes ht hi hz hsize hby hzs (by decide) v xs.length cells hrow ad m c news (by omega) hnc hn1 h63 hbytes hbase
    have hlen : (xs ++ ys).length = xs.length + m := by simp [hylen]
    have hk : Keeps S w w' := Keeps.grown hgrow h0
    have hO : OwnL R 1 S w' base e v' (xs ++ ys) := by
      refine ⟨fun k hk' => ?_, cells ++ news, by rw [hlen]; exact hown', fun k y hy => ?_⟩
      · rcases hat with e | e
        · exact h0 k (by rw [← e]; exact hk')
        · rw [e] at hk'; injection hk' with hk'; subst hk'; exact hS
      · have hcl : cells.length = xs.length := by rw [hrow.1]; omega
        by_cases hlt : k < xs.length
        · rw [List.getElem?_append_left hlt] at hy
          obtain ⟨vs, hR', hc⟩ := hcells k y hy
          refine ⟨vs, g.keep hR' hk, fun j u hu => ?_⟩
          have h3 := hc j u hu
          rw [List.getElem?_append_left (of_getq' h3)]; exact h3
        · rw [List.getElem?_append_right (by omega)] at hy
          obtain ⟨u, hu, hRu⟩ := hnR _ y hy
          refine ⟨[u], g.keep (hU _ _ (g.bound hRu)) hk, fun j q hq => ?_⟩
          have hj : j = 0 := by have := of_getq' hq; simp at this; omega
          subst hj
          simp at hq; subst hq
          rw [List.getElem?_append_right (by omega), show k * 1 + 0 - cells.length = k - xs.length by omega]; exact hu
    obtain ⟨A', cap', hv⟩ := OwnL.form hO
    rw [hlen] at hv
    rw [hv] at hO hat hrun
    exact ⟨A', cap', w', hrun, hO, hgrow, hat⟩

/-- onto a slice without room: nothing that is there changes -/
theorem run_append_full {P : Program} (w : World) (t ty : TypeId)
    {α : Type} {R : Rd α} (g : R.Good 1) {S U : Foot} (base : Nat) (e : TypeId) (i : TypeInfo) (z : Value) (bytes : Nat) (ht : P.underlying t = some (.slice e)) (hi : P.info? e = some i) (hz : i.zero = some z)
    (hsize : i.size = 1) (hby : i.bytes = bytes) (hzs : z.cells.size = 1)
    (gb n : Nat) (xs : List α) (hn : xs.length = n) (hown : OwnL R 1 S w base e (.slice (some ⟨gb, 0, none⟩) n n) xs)
    (A : Option Addr) (m c : Nat) (ys : List α) (hR : SliceOf R 1 U w A m ys) (hU : ∀ y vs, R (fun k => U k ∧ k < w.heap.size) w y vs → R S w y vs)
    (h63 : n + m ≤ maxLen) (hbytes : (n + m) * bytes ≤ 140737488355328) (hbase : base ≤ w.heap.size) (hS : ¬ S w.heap.size) :
    ∃ A' cap' w', (Builtin.append_ #[t, t] ty #[.slice (some ⟨gb, 0, none⟩) n n, .slice A m c]).run P w = .ok (.slice A' (n + m) cap') w' ∧ OwnL R 1 S w' base e (.slice A' (n + m) cap') (xs ++ ys) ∧ Below w.heap.size w w' := by
  have h63' := h63
  simp only [maxLen] at h63'
  have hylen := hR.1
  by_cases hm : m = 0
  · subst hm
    have hy : ys = [] := List.eq_nil_of_length_eq_zero hylen
    subst hy
    refine ⟨some ⟨gb, 0, none⟩, n, w, ?_, by rw [Nat.add_zero, List.append_nil]; exact hown, Below.refl _ _⟩
    cases A with
    | none => simp [Builtin.append_, run_underlying ht, sizeOf, typeInfo, hi, hsize, Builtin.lenOf, Builtin.firstCells, storeCells]
    | some ad => simp [Builtin.append_, run_underlying ht, sizeOf, typeInfo, hi, hsize, Builtin.lenOf, Builtin.firstCells, storeCells, loadCells, loadCellsFrom]
  · obtain ⟨A', cap', w', hrun, hO, hgr, hat⟩ := run_append_all (P := P) w t ty g base e i z bytes ht hi hz hsize hby hzs (.slice (some ⟨gb, 0, none⟩) n n) xs n hn hown A m c ys hR hU h63 hbytes hbase hS
    refine ⟨A', cap', w', hrun, hO, ?_⟩
    cases A with
    | none =>
      obtain ⟨_, _, _, hA, _⟩ := hR.2.2 0 (ys[0]'(by omega)) (List.getElem?_eq_getElem (by omega)); cases hA
    | some ad =>
      obtain ⟨news, hnl, hnc, hn1, hnR⟩ := news_of g hR
      obtain ⟨_, cells, hrow, _⟩ := hown
      have holds : ∀ j u, cells[j]? = some u → w.cell? ((⟨gb, 0, none⟩ : Addr).add j) = some u := hrow.cells (g := gb) rfl
      have hr := run_append_grow (P := P) w t ty e i z ht hi hz ⟨gb, 0, none⟩ n n cells (by rw [hrow.1, hn, hsize]) holds ad m c news (by rw [hsize]; omega) hnc (by omega) (by omega) (growslice_fits (by omega) (by rw [hby]; exact hbytes))
      rw [hr] at hrun
      injection hrun with _ hw
      rw [← hw]
      exact bl_alloc (Below.refl _ _).drew _ (Nat.le_refl _)
theorem run_append_fresh {P : Program} (w : World) (t ty : TypeId)
    {α : Type} {R : Rd α} (g : R.Good 1) {S U : Foot} (base : Nat) (e : TypeId) (i : TypeInfo) (z : Value) (bytes : Nat) (ht : P.underlying t = some (.slice e)) (hi : P.info? e = some i) (hz : i.zero = some z)
    (hsize : i.size = 1) (hby : i.bytes = bytes) (hzs : z.cells.size = 1)
    (gb : Nat) (hown : OwnL R 1 S w base e (.slice (some ⟨gb, 0, none⟩) 0 0) [])
    (A : Option Addr) (m c : Nat) (ys : List α) (hR : SliceOf R 1 U w A m ys) (hU : ∀ y vs, R (fun k => U k ∧ k < w.heap.size) w y vs → R S w y vs)
    (h63 : m ≤ maxLen) (hbytes : m * bytes ≤ 140737488355328) (hbase : base ≤ w.heap.size) (hS : ¬ S w.heap.size) :
    ∃ A' cap' w', (Builtin.append_ #[t, t] ty #[.slice (some ⟨gb, 0, none⟩) 0 0, .slice A m c]).run P w = .ok (.slice A' m cap') w' ∧ OwnL R 1 S w' base e (.slice A' m cap') ys ∧ Below w.heap.size w w' := by
  have := run_append_full (P := P) w t ty g base e i z bytes ht hi hz hsize hby hzs gb 0 [] rfl hown A m c ys hR hU (by omega) (by rw [Nat.zero_add]; exact hbytes) hbase hS
  rw [Nat.zero_add] at this
  exact this
theorem OwnL.lit1s {α : Type} {R : Rd α} (g : R.Good 1) {S : Foot} (w : World) (base : Nat) (t : TypeId) (x : α) (v : Value) (hb : base ≤ w.heap.size) (hR : R S w x [v]) (hS : ¬ S w.heap.size) : OwnL R 1 S (w.alloc (.cells #[v] t)) base t (.slice (some ⟨w.heap.size, 0, none⟩) 1 1) [x] := by
  refine ⟨fun k hk h => ?_, [v], by have := World.ownsRow_lit (base := base) (e := t) (size := 1) w #[v] 1 hb (by decide) rfl; simpa using this, fun k y h => ?_⟩
  · have : w.heap.size = k := by simpa [Value.ownBlock] using hk
    subst this; exact hS h
  · have hk : k = 0 := by have := of_getq' h; simp at this; omega
    subst hk
    simp at h; subst h
    refine ⟨[v], g.keep hR (Keeps.alloc _ _), fun j u hu => ?_⟩
    have hj : j = 0 := by have := of_getq' hu; simp at this; omega
    subst hj
    simpa using hu

theorem wp_append_of_run {P : Program} {o : Oper} {a : Act} {K : Act → World → Prop} {Q : Exit → Act → World → Prop} {w w' : World} {s x : Operand} {t : TypeId} {v1 v2 v' : Value}
    (ho : o.op = .call { callee := .builtin .append, args := #[s, x], argTypes := #[t, t] }) (hs : a.eval s = v1) (hx : a.eval x = v2)
    (hrun : (Builtin.append_ #[t, t] o.type #[v1, v2]).run P w = .ok v' w') (h : K (a.put o.dst v') w') : o.wp P a w K Q := by
  unfold Oper.wp execOp
  simp only [ho, resolve, invoke, builtin, Sem.run_bind, Sem.run_pure, Result.andThen_ok, List.map_toArray, List.map_cons, List.map_nil, hs, hx, hrun]
  exact h

theorem wpList_append_all {P : Program} {ops : Array Oper} {rest : List Oper} {o : Oper} {a : Act} {Q : Exit → Act → World → Prop} (w : World) (hgd : o.guard = none) (s x : Operand) (t : TypeId)
    (ho : o.op = .call { callee := .builtin .append, args := #[s, x], argTypes := #[t, t] })
    {α : Type} {R : Rd α} (g : R.Good 1) {S U : Foot} (base : Nat) (e : TypeId) (i : TypeInfo) (z : Value) (bytes : Nat) (ht : P.underlying t = some (.slice e)) (hi : P.info? e = some i) (hz : i.zero = some z)
    (hsize : i.size = 1) (hby : i.bytes = bytes) (hzs : z.cells.size = 1)
    (v : Value) (xs : List α) (n : Nat) (hn : xs.length = n) (hs : a.eval s = v) (hown : OwnL R 1 S w base e v xs)
    (A : Option Addr) (m c : Nat) (ys : List α) (hx : a.eval x = .slice A m c) (hR : SliceOf R 1 U w A m ys) (hU : ∀ y vs, R (fun k => U k ∧ k < w.heap.size) w y vs → R S w y vs)
    (h63 : n + m ≤ maxLen) (hbytes : (n + m) * bytes ≤ 140737488355328) (hbase : base ≤ w.heap.size) (hS : ¬ S w.heap.size)
    (h : ∀ A' cap' w', OwnL R 1 S w' base e (.slice A' (n + m) cap') (xs ++ ys) → w.grownBy w' v.ownBlock → ((Value.slice A' (n + m) cap').ownBlock = v.ownBlock ∨ (Value.slice A' (n + m) cap').ownBlock = some w.heap.size) → wpList P ops Q rest (a.put o.dst (.slice A' (n + m) cap')) w') : wpList P ops Q (o :: rest) a w := by
  obtain ⟨A', cap', w', hrun, h1, h2, h3⟩ := run_append_all (P := P) w t o.type g base e i z bytes ht hi hz hsize hby hzs v xs n hn hown A m c ys hR hU h63 hbytes hbase hS
  exact wpList_plain hgd fun K hK => wp_append_of_run ho hs hx hrun (hK _ _ (h A' cap' w' h1 h2 h3))

theorem run_append_allt {P : Program} (w : World) (t ty : TypeId)
    {α : Type} {R : Rd α} (T : Foot) (g : R.Good 1) {U : Foot} (base : Nat) (e : TypeId) (i : TypeInfo) (z : Value) (bytes : Nat) (ht : P.underlying t = some (.slice e)) (hi : P.info? e = some i) (hz : i.zero = some z)
    (hsize : i.size = 1) (hby : i.bytes = bytes) (hzs : z.cells.size = 1)
    (v : Value) (xs : List α) (n : Nat) (hn : xs.length = n) (hown : OwnT T R 1 w base e v xs)
    (A : Option Addr) (m c : Nat) (ys : List α) (hR : SliceOf R 1 U w A m ys) (hU : ∀ k, U k → k < w.heap.size → T k ∧ v.ownBlock ≠ some k)
    (h63 : n + m ≤ maxLen) (hbytes : (n + m) * bytes ≤ 140737488355328) (hbase : base ≤ w.heap.size) :
    ∃ A' cap' w', (Builtin.append_ #[t, t] ty #[v, .slice A m c]).run P w = .ok (.slice A' (n + m) cap') w' ∧ OwnT T R 1 w' base e (.slice A' (n + m) cap') (xs ++ ys) ∧ w.grownBy w' v.ownBlock ∧ ((Value.slice A' (n + m) cap').ownBlock = v.ownBlock ∨ (Value.slice A' (n + m) cap').ownBlock = some w.heap.size) := by
  obtain ⟨h0, cells, hrow, hcells⟩ := hown
  have hb : OwnL R 1 (fun k => (T k ∧ v.ownBlock ≠ some k) ∧ k < w.heap.size) w base e v xs := ⟨fun k hk h => h0 k hk h.1, cells, hrow, fun k x hx => by
    obtain ⟨vs, hR, hc⟩ := hcells k x hx
    exact ⟨vs, g.bound hR, hc⟩⟩
  obtain ⟨A', cap', w', hrun, ho', hg', hat'⟩ := run_append_all (P := P) w t ty g base e i z bytes ht hi hz hsize hby hzs v xs n hn hb A m c ys hR (fun y vs h => g.mono h fun k hk => ⟨hU k hk.1 hk.2, hk.2⟩) h63 hbytes hbase (fun h => absurd h.2 (Nat.lt_irrefl _))
  refine ⟨A', cap', w', hrun, ?_, hg', hat'⟩
  obtain ⟨h1, cells', hrow', hcells'⟩ := ho'
  refine ⟨fun k hk hc => hc.2 hk, cells', hrow', fun k x hx => ?_⟩
  obtain ⟨vs, hR', hc⟩ := hcells' k x hx
  refine ⟨vs, g.mono hR' fun j hj => ⟨hj.1.1, fun hA => ?_⟩, hc⟩
  rcases hat' with e | e
  · exact hj.1.2 (by rw [← e]; exact hA)
  · rw [e] at hA; injection hA with hA; have := hj.2; omega

end Go.Proofs.YtpdldmichpmgmaaGreat

namespace Go.Proofs.YtpdldmichpmgmaaGreat

def listsB (b : List Int) (k : Nat) (of : List Int) : List (List Int) := (lexL k of).map (b ++ ·)
def listsUpto (b : List Int) (k : Nat) (of : List Int) (i : Nat) : List (List Int) := (List.range i).flatMap fun j => listsB (b ++ [of.getD j 0]) k (of.drop (j + 1))
theorem listsUpto_succ {b : List Int} {k i : Nat} {of : List Int} {x : Int} (h : of[i]? = some x) : listsUpto b k of (i + 1) = listsUpto b k of i ++ listsB (b ++ [x]) k (of.drop (i + 1)) := by
  unfold listsUpto
  rw [List.range_succ, List.flatMap_append, List.flatMap_singleton, List.getD_eq_getElem?_getD, h]; rfl
theorem lists_all (b : List Int) (k : Nat) : ∀ of : List Int, listsUpto b k of of.length = listsB b (k + 1) of := by
  intro of
  induction of with
  | nil => rfl
  | cons x of ih =>
    unfold listsUpto at ih ⊢
    rw [List.length_cons, List.range_succ_eq_map, List.flatMap_cons, List.flatMap_map]
    have h1 : (List.range of.length).flatMap (fun a => listsB (b ++ [(x :: of).getD a.succ 0]) k ((x :: of).drop (a.succ + 1))) = listsB b (k + 1) of := by
      rw [← ih]; rfl
    rw [h1]
    unfold listsB
    rw [lexL, List.map_append, List.map_map]
    congr 1
    refine List.map_congr_left fun t _ => ?_
    simp
theorem lexL_len : ∀ (of : List Int) (k : Nat), (lexL k of).length ≤ 2 ^ of.length := by
  intro of
  induction of with
  | nil => intro k; cases k <;> simp [lexL]
  | cons x of ih =>
    intro k
    cases k with
    | zero => simp only [lexL, List.length_singleton]; exact Nat.one_le_two_pow
    | succ k =>
      rw [lexL, List.length_append, List.length_map, List.length_cons, Nat.pow_succ]
      have h1 := ih k
      have h2 := ih (k + 1)
      omega
theorem listsB_len (b : List Int) (k : Nat) (of : List Int) (h : of.length ≤ 8) : (listsB b k of).length ≤ 256 := by
  unfold listsB
  rw [List.length_map]
  exact Nat.le_trans (lexL_len of k) (Nat.pow_le_pow_right (by decide) h : 2 ^ of.length ≤ 2 ^ 8)
theorem listsUpto_len (b : List Int) (k : Nat) (of : List Int) (h : of.length ≤ 8) (i : Nat) : (listsUpto b k of i).length ≤ i * 256 := by
  induction i with
  | zero => exact Nat.le_refl _
  | succ i ih =>
    have h1 : listsUpto b k of (i + 1) = listsUpto b k of i ++ listsB (b ++ [of.getD i 0]) k (of.drop (i + 1)) := by
      unfold listsUpto; rw [List.range_succ, List.flatMap_append, List.flatMap_singleton]
    rw [h1, List.length_append, Nat.succ_mul]
    have := listsB_len (b ++ [of.getD i 0]) k (of.drop (i + 1)) (by rw [List.length_drop]; omega)
    omega

end Go.Proofs.YtpdldmichpmgmaaGreat
