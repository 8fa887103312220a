/- Walks: the laws' own halls. -/
import Derived.Test.YtnaadjhiahjlfaaCTRows8
set_option linter.unusedVariables false
set_option linter.unusedSimpArgs false
set_option linter.all false
namespace Go.Proofs.Ytnaadjhiahjlfaa
open Go.RowKit

def exHall (most : Int) : Hall := ⟨10, 12, most, [⟨[97], 1000, 1002, 1, 1⟩, ⟨[98], 1005, 1005, 0, 0⟩, ⟨[99], 998, 998, 1, 1⟩, ⟨[100], 1006, 1006, 1, 1⟩], [⟨2025, 0, 2⟩, ⟨1010, 1, 1⟩]⟩
def exSeen : List Seen := [⟨0, 20, 1020, 1020⟩]

theorem slice_blk {α : Type} {R : Rd α} {m : Nat} {S : Foot} {w : World} {g : Nat} {t : TypeId} {cs : Array Value} (hB : Blk w g t cs) (hS : S g) {xs : List α} {n : Nat} (hl : xs.length = n) (hn : n ≤ maxLen)
    (h : ∀ (k : Nat) (x : α), xs[k]? = some x → ∃ vs, R S w x vs ∧ ∀ (j : Nat) (u : Value), vs[j]? = some u → cs[k * m + j]? = some u) : SliceOf R m S w (some ⟨g, 0, none⟩) n xs := by
  refine ⟨hl, hn, fun k x hk => ?_⟩
  obtain ⟨vs, h1, h2⟩ := h k x hk
  exact ⟨g, 0, vs, rfl, hS, hB.lt, h1, fun j u hu => by rw [Nat.zero_add, hB.cell]; exact h2 j u hu⟩

theorem span8_any (a z : Int) (w : World) :
    Calls Try.prog 57 #[.int .i64 a, .int .i64 z] w fun e w' => e = .returned (.agg #[.int .i64 a, .int .i64 z]) ∧ Below w.heap.size w w' := by
  obtain ⟨W, hW⟩ : ∃ W, w.alloc (.cells #[.int .i64 0, .int .i64 0] 23) = W := ⟨_, rfl⟩
  have X : Blk W w.heap.size 23 #[.int .i64 0, .int .i64 0] := by rw [← hW]; exact Blk.new _ _ _ rfl
  have hBW : Below w.heap.size w W := by rw [← hW]; exact bl_alloc (Below.refl _ _) _ (Nat.le_refl _)
  have z0 := X.cell 0
  have z1 := X.cell 1
  have fz0 := X.frozen 0
  have fz1 := X.frozen 1
  have hl := X.lt
  go_enter Try.func57, Try.ntmps57
  go_wp2_with fail
  exact bodyPost_ret (ret_span1 rfl rfl (X.set2 _ _).c0 (X.set2 _ _).c1) rfl ⟨rfl, bl_set (bl_set hBW (Nat.le_refl _) _) (Nat.le_refl _) _⟩

theorem ret_five {fn : Func} {p : Tmp} {t : TypeId} (h : fn.results = #[.cell p t]) {tmps : Array Value} {g : Nat} {v0 v1 v2 v3 v4 : Value} {w : World} (hp : tmps.getD p undef = .pointer (some ⟨g, 0, none⟩))
    (ht : t = 27 ∨ t = 159) (hB : Blk w g t #[v0, v1, v2, v3, v4]) : (results fn tmps).run Try.prog w = .ok (.agg #[v0, v1, v2, v3, v4]) w := by
  have hp' : tmps[p]?.getD undef = .pointer (some ⟨g, 0, none⟩) := by simpa using hp
  have h0 : w.cell? ⟨g, 0, none⟩ = some v0 := hB.cell 0
  have h1 : w.cell? ⟨g, 1, none⟩ = some v1 := hB.cell 1
  have h2 : w.cell? ⟨g, 2, none⟩ = some v2 := hB.cell 2
  have h3 : w.cell? ⟨g, 3, none⟩ = some v3 := hB.cell 3
  have h4 : w.cell? ⟨g, 4, none⟩ = some v4 := hB.cell 4
  rcases ht with rfl | rfl
  all_goals simp [results, h, hp', asAddr, go_sem, h0, h1, h2, h3, h4]

set_option maxHeartbeats 1000000 in
theorem wide73_any (s : ByteArray) (a z y : Int) (w : World) :
    Calls Try.prog 95 #[.string s, .int .i64 a, .int .i64 z, .int .i64 y] w fun e w' => e = .returned (.agg #[.string s, .int .i64 a, .int .i64 z, .int .i64 y, .int .i64 y]) ∧ Below w.heap.size w w' := by
  obtain ⟨W, hW⟩ : ∃ W, w.alloc (.cells #[.string ⟨#[]⟩, .int .i64 0, .int .i64 0, .int .i64 0, .int .i64 0] 159) = W := ⟨_, rfl⟩
  have X : Blk W w.heap.size 159 #[.string ⟨#[]⟩, .int .i64 0, .int .i64 0, .int .i64 0, .int .i64 0] := by rw [← hW]; exact Blk.new _ _ _ rfl
  have hBW : Below w.heap.size w W := by rw [← hW]; exact bl_alloc (Below.refl _ _) _ (Nat.le_refl _)
  go_enter Try.func95, Try.ntmps95
  go_wp2_with fail
  refine (span8_any a z W).mono ?_
  rintro e W1 ⟨rfl, b1⟩
  have X1 := X.bl b1
  have B1 := bl_call hBW b1 (Nat.le_refl _)
  go_wp2_with fail
  refine (span8_any y y W1).mono ?_
  rintro e W2 ⟨rfl, b2⟩
  have X2 := X1.bl b2
  have B2 := bl_call B1 b2 (Nat.le_refl _)
  have z0 := X2.cell 0
  have z1 := X2.cell 1
  have z2 := X2.cell 2
  have z3 := X2.cell 3
  have z4 := X2.cell 4
  have fz0 := X2.frozen 0
  have fz1 := X2.frozen 1
  have fz2 := X2.frozen 2
  have fz3 := X2.frozen 3
  have fz4 := X2.frozen 4
  have hl := X2.lt
  clear hW X X1
  go_wp2_with fail
  have XF := ((((X2.set_ 0 (.string s)).set_ 1 (.int .i64 a)).set_ 2 (.int .i64 z)).set_ 3 (.int .i64 y)).set_ 4 (.int .i64 y)
  exact bodyPost_ret (ret_five rfl rfl (.inr rfl) XF) rfl ⟨rfl, bl_set (bl_set (bl_set (bl_set (bl_set B2 (Nat.le_refl _) _) (Nat.le_refl _) _) (Nat.le_refl _) _) (Nat.le_refl _) _) (Nat.le_refl _) _⟩

theorem exTiles_at {w : World} {g w0 : Nat} {t : TypeId} (hB : Blk w g t #[.string ⟨#[97]⟩, .int .i64 1000, .int .i64 1002, .int .i64 1, .int .i64 1, .string ⟨#[98]⟩, .int .i64 1005, .int .i64 1005, .int .i64 0, .int .i64 0, .string ⟨#[99]⟩, .int .i64 998, .int .i64 998, .int .i64 1, .int .i64 1, .string ⟨#[100]⟩, .int .i64 1006, .int .i64 1006, .int .i64 1, .int .i64 1]) (h0 : w0 ≤ g) (most : Int) : Tiles (fun k => w0 ≤ k) w (some ⟨g, 0, none⟩) 4 (exHall most).tiles := by
  refine slice_blk hB h0 rfl (by decide) ?_
  intro k x hk
  have hlt := of_getq hk
  have hk4 : k < 4 := hlt
  have hc : k = 0 ∨ k = 1 ∨ k = 2 ∨ k = 3 := by omega
  rcases hc with rfl | rfl | rfl | rfl
  all_goals
    have hx := (Option.some.inj hk).symm
    subst hx
  · refine ⟨[.string ⟨#[97]⟩, .int .i64 1000, .int .i64 1002, .int .i64 1, .int .i64 1], ⟨_, rfl, rfl, by decide⟩, ?_⟩
    intro j u hu
    have hj : j < 5 := of_getq hu
    have hc : j = 0 ∨ j = 1 ∨ j = 2 ∨ j = 3 ∨ j = 4 := by omega
    rcases hc with rfl | rfl | rfl | rfl | rfl <;> exact hu
  · refine ⟨[.string ⟨#[98]⟩, .int .i64 1005, .int .i64 1005, .int .i64 0, .int .i64 0], ⟨_, rfl, rfl, by decide⟩, ?_⟩
    intro j u hu
    have hj : j < 5 := of_getq hu
    have hc : j = 0 ∨ j = 1 ∨ j = 2 ∨ j = 3 ∨ j = 4 := by omega
    rcases hc with rfl | rfl | rfl | rfl | rfl <;> exact hu
  · refine ⟨[.string ⟨#[99]⟩, .int .i64 998, .int .i64 998, .int .i64 1, .int .i64 1], ⟨_, rfl, rfl, by decide⟩, ?_⟩
    intro j u hu
    have hj : j < 5 := of_getq hu
    have hc : j = 0 ∨ j = 1 ∨ j = 2 ∨ j = 3 ∨ j = 4 := by omega
    rcases hc with rfl | rfl | rfl | rfl | rfl <;> exact hu
  · refine ⟨[.string ⟨#[100]⟩, .int .i64 1006, .int .i64 1006, .int .i64 1, .int .i64 1], ⟨_, rfl, rfl, by decide⟩, ?_⟩
    intro j u hu
    have hj : j < 5 := of_getq hu
    have hc : j = 0 ∨ j = 1 ∨ j = 2 ∨ j = 3 ∨ j = 4 := by omega
    rcases hc with rfl | rfl | rfl | rfl | rfl <;> exact hu
theorem exRows_at {w : World} {g w0 : Nat} {t : TypeId} (hB : Blk w g t #[.int .i64 2025, .int .i64 0, .int .i64 2, .int .i64 1010, .int .i64 1, .int .i64 1]) (h0 : w0 ≤ g) (most : Int) : RowTs (fun k => w0 ≤ k) w (some ⟨g, 0, none⟩) 2 (exHall most).rows := by
  refine slice_blk hB h0 rfl (by decide) ?_
  intro k x hk
  have hk2 : k < 2 := of_getq hk
  have hc : k = 0 ∨ k = 1 := by omega
  rcases hc with rfl | rfl
  all_goals
    have hx := (Option.some.inj hk).symm
    subst hx
    refine ⟨_, rfl, ?_⟩
    intro j u hu
    have hj : j < 3 := of_getq hu
    have hc : j = 0 ∨ j = 1 ∨ j = 2 := by omega
    rcases hc with rfl | rfl | rfl <;> exact hu
theorem exSeen_at {w : World} {g w0 : Nat} {t : TypeId} (hB : Blk w g t #[.int .i64 0, .int .i64 20, .int .i64 1020, .int .i64 1020]) (h0 : w0 ≤ g) : Seens (fun k => w0 ≤ k) w (some ⟨g, 0, none⟩) 1 exSeen := by
  refine slice_blk hB h0 rfl (by decide) ?_
  intro k x hk
  have hk2 : k < 1 := of_getq hk
  have hc : k = 0 := by omega
  subst hc
  have hx := (Option.some.inj hk).symm
  subst hx
  refine ⟨_, rfl, ?_⟩
  intro j u hu
  have hj : j < 4 := of_getq hu
  have hc : j = 0 ∨ j = 1 ∨ j = 2 ∨ j = 3 := by omega
  rcases hc with rfl | rfl | rfl | rfl <;> exact hu

/-- a hall of the laws, just built -/
def IsHall (w0 : Nat) (most : Int) (v : Value) (w' : World) : Prop := ∃ (A B : Nat) (ca cb : Nat), v = .agg #[.int .i64 10, .int .i64 12, .int .i64 most, .slice (some ⟨A, 0, none⟩) 4 ca, .slice (some ⟨B, 0, none⟩) 2 cb] ∧ HallAt (fun k => w0 ≤ k) w' (some ⟨A, 0, none⟩) 4 (some ⟨B, 0, none⟩) 2 (exHall most) ∧ 4 ≤ ca
def IsSeen (w0 : Nat) (v : Value) (w' : World) : Prop := ∃ (A c : Nat), v = .slice (some ⟨A, 0, none⟩) 1 c ∧ Seens (fun k => w0 ≤ k) w' (some ⟨A, 0, none⟩) 1 exSeen

set_option maxHeartbeats 1000000 in
theorem seen35_any (w : World) :
    Calls Try.prog 53 #[] w fun e w' => (∃ v, e = .returned v ∧ IsSeen w.heap.size v w') ∧ Below w.heap.size w w' := by
  go_enter Try.func53, Try.ntmps53
  go_wp2_with fail
  refine (span8_any 1020 1020 w).mono ?_
  rintro e W1 ⟨rfl, b1⟩
  go_wp2
  go_ret
  exact ⟨⟨_, by rfl, _, _, rfl, exSeen_at (Blk.new _ _ _ rfl) b1.size⟩, bl_alloc b1 _ (Nat.le_refl _)⟩

set_option maxHeartbeats 1000000 in
theorem hall34_any (most : Int) (w : World) :
    Calls Try.prog 50 #[.int .i64 most] w fun e w' => (∃ v, e = .returned v ∧ IsHall w.heap.size most v w') ∧ Below w.heap.size w w' := by
  obtain ⟨W, hW⟩ : ∃ W, w.alloc (.cells #[.int .i64 0, .int .i64 0, .int .i64 0, .slice none 0 0, .slice none 0 0] 27) = W := ⟨_, rfl⟩
  have X : Blk W w.heap.size 27 #[.int .i64 0, .int .i64 0, .int .i64 0, .slice none 0 0, .slice none 0 0] := by rw [← hW]; exact Blk.new _ _ _ rfl
  have hBW : Below w.heap.size w W := by rw [← hW]; exact bl_alloc (Below.refl _ _) _ (Nat.le_refl _)
  go_enter Try.func50, Try.ntmps50
  go_wp2_with fail
  refine (span8_any 10 12 W).mono ?_
  rintro e W1 ⟨rfl, b1⟩
  have B1 := bl_call hBW b1 (Nat.le_refl _)
  have X1 := X.bl b1
  clear hW X
  go_wp2_with fail
  refine (wide73_any ⟨#[97]⟩ 1000 1002 1 W1).mono ?_
  rintro e W2 ⟨rfl, b2⟩
  have B2 := bl_call B1 b2 (Nat.le_refl _)
  have X2 := X1.bl b2
  go_wp2_with fail
  refine (wide73_any ⟨#[98]⟩ 1005 1005 0 W2).mono ?_
  rintro e W3 ⟨rfl, b3⟩
  have B3 := bl_call B2 b3 (Nat.le_refl _)
  have X3 := X2.bl b3
  go_wp2_with fail
  refine (wide73_any ⟨#[99]⟩ 998 998 1 W3).mono ?_
  rintro e W4 ⟨rfl, b4⟩
  have B4 := bl_call B3 b4 (Nat.le_refl _)
  have X4 := X3.bl b4
  go_wp2_with fail
  refine (wide73_any ⟨#[100]⟩ 1006 1006 1 W4).mono ?_
  rintro e W5 ⟨rfl, b5⟩
  have B5 := bl_call B4 b5 (Nat.le_refl _)
  have X5 := X4.bl b5
  have z0 := X5.cell 0
  have z1 := X5.cell 1
  have z2 := X5.cell 2
  have z3 := X5.cell 3
  have z4 := X5.cell 4
  have fz0 := X5.frozen 0
  have fz1 := X5.frozen 1
  have fz2 := X5.frozen 2
  have fz3 := X5.frozen 3
  have fz4 := X5.frozen 4
  have hl := X5.lt
  clear X1 X2 X3 X4 b1 b2 b3 b4 b5 B1 B2 B3 B4
  go_wp2_with fail
  obtain ⟨V, hV⟩ : ∃ V, (((((W5.setCell ⟨w.heap.size, 0, none⟩ (.int .i64 10)).setCell ⟨w.heap.size, 1, none⟩ (.int .i64 12)).setCell ⟨w.heap.size, 2, none⟩ (.int .i64 most)).setCell ⟨w.heap.size, 3, none⟩ (.slice (some ⟨W5.heap.size, 0, none⟩) 4 4)).setCell ⟨w.heap.size, 4, none⟩ (.slice (some ⟨W5.heap.size + 1, 0, none⟩) 2 2)) = V := ⟨_, rfl⟩
  have hsz : V.heap.size = W5.heap.size := by rw [← hV]; simp
  have XF : Blk V w.heap.size 27 #[.int .i64 10, .int .i64 12, .int .i64 most, .slice (some ⟨W5.heap.size, 0, none⟩) 4 4, .slice (some ⟨W5.heap.size + 1, 0, none⟩) 2 2] := by rw [← hV]; exact (((((X5.set_ 0 (.int .i64 10)).set_ 1 (.int .i64 12)).set_ 2 (.int .i64 most)).set_ 3 (.slice (some ⟨W5.heap.size, 0, none⟩) 4 4)).set_ 4 (.slice (some ⟨W5.heap.size + 1, 0, none⟩) 2 2))
  have BV : Below w.heap.size w V := by rw [← hV]; exact (bl_set (bl_set (bl_set (bl_set (bl_set B5 (Nat.le_refl _) _) (Nat.le_refl _) _) (Nat.le_refl _) _) (Nat.le_refl _) _) (Nat.le_refl _) _)
  have hwl : w.heap.size ≤ W5.heap.size := by omega
  rw [hV]
  exact bodyPost_ret (ret_five rfl rfl (.inl rfl) ((XF.alloc _).alloc _)) rfl ⟨⟨_, rfl, _, _, _, _, rfl, ⟨exTiles_at ((Blk.new _ _ _ hsz.symm).alloc _) hwl most, exRows_at (Blk.new _ _ _ (by simp [hsz])) (by omega) most⟩, Nat.le_refl _⟩, bl_alloc (bl_alloc BV _ (Nat.le_refl _)) _ (by simp)⟩

end Go.Proofs.Ytnaadjhiahjlfaa
