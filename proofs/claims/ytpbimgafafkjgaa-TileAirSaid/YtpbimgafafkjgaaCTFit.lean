/- Walks: the tiles that fit each row (the first loops of layings). -/
import Derived.Deep.OwnRows
import Derived.Test.YtpbimgafafkjgaaCHelp1
import Derived.Test.YtpbimgafafkjgaaCTFit0
set_option linter.unusedVariables false
set_option linter.unusedSimpArgs false
set_option linter.all false
namespace Go.Proofs.Ytpbimgafafkjgaa
open Go.RowKit Go.Shelf

theorem infoInts : (Try.prog.info? 39).map (fun i => (i.zero, i.size, i.bytes)) = some (some (.slice none 0 0), 1, 24) := by kernel_rfl
theorem infoSomes : (Try.prog.info? 148).map (fun i => (i.zero, i.size, i.bytes)) = some (some (.slice none 0 0), 1, 24) := by kernel_rfl
theorem infoSome : (Try.prog.info? 150).map (fun i => (i.zero, i.size, i.bytes)) = some (some (.agg #[.slice none 0 0, .int .i64 0, .int .i64 0]), 3, 40) := by kernel_rfl
theorem made_rep (z : Value) (n : Nat) : madeCells #[z] n = Array.replicate n z := by
  apply Array.ext
  · simp [madeCells]
  · intro i h1 h2
    simp [madeCells, Nat.mod_one]

/-- the row's slice, grown by one -/
def GrownT (S0 : Foot) (W0 : Nat) (base : Nat) (e : TypeId) (n : Nat) (xs : List (Nat × Int)) (own0 : Option Nat) (v : Value) (W : World) : Prop :=
  ∃ A cap S1, v = .slice (some ⟨A, 0, none⟩) n cap ∧ OwnL SomeR 3 S1 W base e v xs ∧ (∀ k, S1 k → S0 k ∨ (W0 ≤ k ∧ k < W.heap.size)) ∧ (∀ k, S0 k → S1 k) ∧ (own0 = some A ∨ W0 ≤ A)
theorem GrownT.keep {S0 : Foot} {W0 base : Nat} {e : TypeId} {n : Nat} {xs : List (Nat × Int)} {own0 : Option Nat} {v : Value} {W V : World} (h : GrownT S0 W0 base e n xs own0 v W) (hk : Kept (fun _ => False) W V) : GrownT S0 W0 base e n xs own0 v V := by
  obtain ⟨A, cap, S1, hv, hO, h1, h2, h3⟩ := h
  refine ⟨A, cap, S1, hv, hO.keep SomeR.good (hk.keeps (fun _ _ h => h)), fun k hk' => (h1 k hk').imp id (fun h => ⟨h.1, Nat.lt_of_lt_of_le h.2 hk.size⟩), h2, h3⟩
def IsListV (B : Nat) (s : Nat) (v : Value) (W : World) : Prop := ∃ A c, v = .slice A (bitL s).length c ∧ Ints (fun k => B ≤ k ∧ k < W.heap.size) W A (bitL s).length (bitL s)
theorem IsListV.keep {B s : Nat} {v : Value} {W V : World} {M : Foot} (h : IsListV B s v W) (hk : Kept M W V) (hM : ∀ k, M k → k < B) : IsListV B s v V := by
  obtain ⟨A, c, hv, hI⟩ := h
  refine ⟨A, c, hv, (hI.keep IntR.good (hk.keeps (fun k hk' hm => by have := hM k hm; omega))).mono IntR.good (fun k h => ⟨h.1, Nat.lt_of_lt_of_le h.2 hk.size⟩)⟩
/-- the element with its new list -/
def AggV (B : Nat) (s : Nat) (g : Int) (v : Value) (W : World) : Prop := ∃ u, v = .agg #[u, .int .i64 s, .int .i64 g] ∧ IsListV B s u W
def ElV (B : Nat) (s : Nat) (g : Int) (t : TypeId) (v : Value) (W : World) : Prop := ∃ b u, v = .slice (some ⟨b, 0, none⟩) 1 1 ∧ Blk W b t #[u, .int .i64 s, .int .i64 g] ∧ IsListV B s u W ∧ B ≤ b
def NewSp (B : Nat) (t : TypeId) (v : Value) (W : World) : Prop := ∃ g, v = .pointer (some ⟨g, 0, none⟩) ∧ Blk W g t #[.int .i64 0, .int .i64 0] ∧ B ≤ g

/-- the append of tiles that fit -/
theorem fit_append {P : Program} {o : Oper} {a : Act} {K : Act → World → Prop} {Q : Exit → Act → World → Prop} (w : World) (hgd : o.guard = none) (s x : Operand) (t : TypeId)
    (ho : o.op = .call { callee := .builtin .append, args := #[s, x], argTypes := #[t, t] })
    (base : Nat) (e : TypeId) (hi : (P.info? e).map (fun i => (i.zero, i.size, i.bytes)) = some (some (.agg #[.slice none 0 0, .int .i64 0, .int .i64 0]), 3, 40)) (ht : P.underlying t = some (.slice e))
    (S0 : Foot) (B : Nat) (hSB : ∀ k, S0 k → k < B) (hbB : base ≤ B) (hBw : B ≤ w.heap.size)
    (v : Value) (xs : List (Nat × Int)) (n : Nat) (hn : xs.length = n) (hs : a.eval s = v) (hown : OwnL SomeR 3 S0 w base e v xs) (hvB : ∀ k, v.ownBlock = some k → k < B)
    (u : Value) (ss : Nat) (g : Int) (hx : a.eval x = u) (hu : ElV B ss g e u w) (h256 : n ≤ 255)
    (h : ∀ v' w', GrownT S0 B base e (n + 1) (xs ++ [(ss, g)]) v.ownBlock v' w' → w.grownBy w' v.ownBlock → K (a.put o.dst v') w') : o.wp P a w K Q := by
  obtain ⟨i0, hi0, hz0, hz1, hz2⟩ := info_parts hi
  obtain ⟨b, u1, rfl, hB, ⟨A, c, rfl, hI⟩, hbB'⟩ := hu
  have hO1 : OwnL SomeR 3 (fun k => S0 k ∨ (B ≤ k ∧ k < w.heap.size)) w base e v xs := by
    obtain ⟨h0, cells, hrow, hcells⟩ := hown
    refine ⟨fun k hk hk2 => ?_, cells, hrow, fun k y hy => ?_⟩
    · rcases hk2 with h2 | h2
      · exact h0 k hk h2
      · have := hvB k hk; omega
    · obtain ⟨vs, hR, hc⟩ := hcells k y hy
      exact ⟨vs, SomeR.good.mono hR (fun _ h => .inl h), hc⟩
  have hw : Region.wanted o (yielded #[] a.tmps) = true := by simp [Region.wanted, hgd]
  have := step_append_n (P := P) (ops := #[]) (o := o) (a := a) (K := K) (Q := Q) (E := True) w hgd s x t ho SomeR.good base e i0 _ 40 ht hi0 hz0 hz1 hz2 rfl (by omega) v xs (ss, g) n hn hs hO1 ⟨b, 0, none⟩ 1 [.slice A (bitL ss).length c, .int .i64 ss, .int .i64 g] hx
    ⟨A, _, c, rfl, hI.mono IntR.good (fun k h => .inr h)⟩ (fun j u hu => by
      have hadd : (⟨b, 0, none⟩ : Addr).add j = ⟨b, j, none⟩ := by unfold Addr.add; split <;> simp_all
      rw [hadd, hB.cell j]; simpa using hu) (by simp only [maxLen]; omega) (by omega) (by omega) (fun hh => by
      rcases hh with hh | hh
      · have := hSB _ hh; omega
      · omega) (fun A' cap' w' h1 h2 h3 => h _ w' ⟨A', cap', _, rfl, h1, fun k hk => hk.imp id (fun h => ⟨h.1, Nat.lt_of_lt_of_le h.2 h2.size⟩), fun k hk => .inl hk, h3.imp id (fun h => by omega)⟩ h2)
  rw [if_pos hw] at this
  exact this

end Go.Proofs.Ytpbimgafafkjgaa
