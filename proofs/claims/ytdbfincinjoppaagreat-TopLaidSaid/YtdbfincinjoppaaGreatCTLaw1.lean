/- A part of the proof that TopLaid always answers true. -/
import Derived.Test.YtdbfincinjoppaaGreatCTLayW
import Derived.Test.YtdbfincinjoppaaGreatCTRefB
set_option linter.all false
namespace Go.Proofs.YtdbfincinjoppaaGreat
open Go.RowKit
def exHall (most : Int) : Hall := ⟨10, 12, most, [⟨[97], 1000, 1002, 1, 1⟩, ⟨[98], 1005, 1005, 0, 0⟩, ⟨[99], 998, 998, 1, 1⟩, ⟨[100], 1006, 1006, 1, 1⟩], [⟨2025, 0, 2⟩, ⟨1010, 1, 1⟩]⟩
def exSeen : List Seen := [⟨0, 20, 1020, 1020⟩]
theorem slice_blk {α : Type} {R : Rd α} {m : Nat} {S : Foot} {w : World} {g : Nat} {t : TypeId} {cs : Array Value} (hB : Blk w g t cs) (hS : S g) {xs : List α} {n : Nat} (hl : xs.length = n) (hn : n ≤ maxLen)
  (h : ∀ (k : Nat) (x : α), xs[k]? = some x → ∃ vs, R S w x vs ∧ ∀ (j : Nat) (u : Value), vs[j]? = some u → cs[k * m + j]? = some u) : SliceOf R m S w (some ⟨g, 0, none⟩) n xs := by
 refine ⟨hl, hn, fun k x hk => ?_⟩
 obtain ⟨vs, h1, h2⟩ := h k x hk
 exact ⟨g, 0, vs, rfl, hS, hB.lt, h1, fun j u hu => by rw [Nat.zero_add, hB.cell]; exact h2 j u hu⟩
theorem span8_any (a z : Int) (w : World) :
  Calls Tryz.prog 39 #[.int .i64 a, .int .i64 z] w fun e w' => e = .returned (.agg #[.int .i64 a, .int .i64 z]) ∧ Below w.heap.size w w' := by
 obtain ⟨W, hW⟩ : ∃ W, w.alloc (.cells #[.int .i64 0, .int .i64 0] 23) = W := ⟨_, rfl⟩
 have X : Blk W w.heap.size 23 #[.int .i64 0, .int .i64 0] := by rw [← hW]; exact Blk.new _ _ _ rfl
 have hBW : Below w.heap.size w W := by rw [← hW]; exact bl_alloc (Below.refl _ _) _ (Nat.le_refl _)
 have z0 := X.cell 0
 have z1 := X.cell 1
 have fz0 := X.frozen 0
 have fz1 := X.frozen 1
 have hl := X.lt
 go_enter Tryz.func39, Tryz.ntmps39
 go_wp2_with fail
 exact bodyPost_ret (ret_span1 rfl rfl (X.set2 _ _).c0 (X.set2 _ _).c1) rfl ⟨rfl, bl_set (bl_set hBW (Nat.le_refl _) _) (Nat.le_refl _) _⟩
theorem ret_five {fn : Func} {p : Tmp} {t : TypeId} (h : fn.results = #[.cell p t]) {tmps : Array Value} {g : Nat} {v0 v1 v2 v3 v4 : Value} {w : World} (hp : tmps.getD p undef = .pointer (some ⟨g, 0, none⟩))
  (ht : t = 30 ∨ t = 55) (hB : Blk w g t #[v0, v1, v2, v3, v4]) : (results fn tmps).run Tryz.prog w = .ok (.agg #[v0, v1, v2, v3, v4]) w := by
 have hp' : tmps[p]?.getD undef = .pointer (some ⟨g, 0, none⟩) := by simpa using hp
 have h0 : w.cell? ⟨g, 0, none⟩ = some v0 := hB.cell 0
 have h1 : w.cell? ⟨g, 1, none⟩ = some v1 := hB.cell 1
 have h2 : w.cell? ⟨g, 2, none⟩ = some v2 := hB.cell 2
 have h3 : w.cell? ⟨g, 3, none⟩ = some v3 := hB.cell 3
 have h4 : w.cell? ⟨g, 4, none⟩ = some v4 := hB.cell 4
 rcases ht with rfl | rfl
 all_goals simp [results, h, hp', asAddr, go_sem, h0, h1, h2, h3, h4]
set_option maxHeartbeats 1000000 in
theorem wide73_any (s : ByteArray) (a z y : Int) (w : World) :
  Calls Tryz.prog 61 #[.string s, .int .i64 a, .int .i64 z, .int .i64 y] w fun e w' => e = .returned (.agg #[.string s, .int .i64 a, .int .i64 z, .int .i64 y, .int .i64 y]) ∧ Below w.heap.size w w' := by
 obtain ⟨W, hW⟩ : ∃ W, w.alloc (.cells #[.string ⟨#[]⟩, .int .i64 0, .int .i64 0, .int .i64 0, .int .i64 0] 55) = W := ⟨_, rfl⟩
 have X : Blk W w.heap.size 55 #[.string ⟨#[]⟩, .int .i64 0, .int .i64 0, .int .i64 0, .int .i64 0] := by rw [← hW]; exact Blk.new _ _ _ rfl
 have hBW : Below w.heap.size w W := by rw [← hW]; exact bl_alloc (Below.refl _ _) _ (Nat.le_refl _)
 go_enter Tryz.func61, Tryz.ntmps61
 go_wp2_with fail
 refine (span8_any a z W).mono ?_
 rintro e W1 ⟨rfl, b1⟩
 have X1 := X.bl b1
 have B1 := bl_call hBW b1 (Nat.le_refl _)
 go_wp2_with fail
 refine (span8_any y y W1).mono ?_
 rintro e W2 ⟨rfl, b2⟩
 have X2 := X1.bl b2
 have B2 := bl_call B1 b2 (Nat.le_refl _)
 have z0 := X2.cell 0
 have z1 := X2.cell 1
 have z2 := X2.cell 2
 have z3 := X2.cell 3
 have z4 := X2.cell 4
 have fz0 := X2.frozen 0
 have fz1 := X2.frozen 1
 have fz2 := X2.frozen 2
 have fz3 := X2.frozen 3
 have fz4 := X2.frozen 4
 have hl := X2.lt
 clear hW X X1
 go_wp2_with fail
 have XF := ((((X2.set_ 0 (.string s)).set_ 1 (.int .i64 a)).set_ 2 (.int .i64 z)).set_ 3 (.int .i64 y)).set_ 4 (.int .i64 y)
 exact bodyPost_ret (ret_five rfl rfl (.inr rfl) XF) rfl ⟨rfl, bl_set (bl_set (bl_set (bl_set (bl_set B2 (Nat.le_refl _) _) (Nat.le_refl _) _) (Nat.le_refl _) _) (Nat.le_refl _) _) (Nat.le_refl _) _⟩
theorem exTiles_at {w : World} {g w0 : Nat} {t : TypeId} (hB : Blk w g t #[.string ⟨#[97]⟩, .int .i64 1000, .int .i64 1002, .int .i64 1, .int .i64 1, .string ⟨#[98]⟩, .int .i64 1005, .int .i64 1005, .int .i64 0, .int .i64 0, .string ⟨#[99]⟩, .int .i64 998, .int .i64 998, .int .i64 1, .int .i64 1, .string ⟨#[100]⟩, .int .i64 1006, .int .i64 1006, .int .i64 1, .int .i64 1]) (h0 : w0 ≤ g) (most : Int) : Tiles (fun k => w0 ≤ k) w (some ⟨g, 0, none⟩) 4 (exHall most).tiles := by
 refine slice_blk hB h0 rfl (by decide) ?_
 intro k x hk
 have hlt := of_getq hk
 have hk4 : k < 4 := hlt
 have hc : k = 0 ∨ k = 1 ∨ k = 2 ∨ k = 3 := by omega
 rcases hc with rfl | rfl | rfl | rfl
 all_goals
  have hx := (Option.some.inj hk).symm
  subst hx
 ·refine ⟨[.string ⟨#[97]⟩, .int .i64 1000, .int .i64 1002, .int .i64 1, .int .i64 1], ⟨_, rfl, rfl, by decide⟩, ?_⟩
  intro j u hu
  have hj : j < 5 := of_getq hu
  have hc : j = 0 ∨ j = 1 ∨ j = 2 ∨ j = 3 ∨ j = 4 := by omega
  rcases hc with rfl | rfl | rfl | rfl | rfl <;> exact hu
 ·refine ⟨[.string ⟨#[98]⟩, .int .i64 1005, .int .i64 1005, .int .i64 0, .int .i64 0], ⟨_, rfl, rfl, by decide⟩, ?_⟩
  intro j u hu
  have hj : j < 5 := of_getq hu
  have hc : j = 0 ∨ j = 1 ∨ j = 2 ∨ j = 3 ∨ j = 4 := by omega
  rcases hc with rfl | rfl | rfl | rfl | rfl <;> exact hu
 ·refine ⟨[.string ⟨#[99]⟩, .int .i64 998, .int .i64 998, .int .i64 1, .int .i64 1], ⟨_, rfl, rfl, by decide⟩, ?_⟩
  intro j u hu
  have hj : j < 5 := of_getq hu
  have hc : j = 0 ∨ j = 1 ∨ j = 2 ∨ j = 3 ∨ j = 4 := by omega
  rcases hc with rfl | rfl | rfl | rfl | rfl <;> exact hu
 refine ⟨[.string ⟨#[100]⟩, .int .i64 1006, .int .i64 1006, .int .i64 1, .int .i64 1], ⟨_, rfl, rfl, by decide⟩, ?_⟩
 intro j u hu
 have hj : j < 5 := of_getq hu
 have hc : j = 0 ∨ j = 1 ∨ j = 2 ∨ j = 3 ∨ j = 4 := by omega
 rcases hc with rfl | rfl | rfl | rfl | rfl <;> exact hu
theorem exRows_at {w : World} {g w0 : Nat} {t : TypeId} (hB : Blk w g t #[.int .i64 2025, .int .i64 0, .int .i64 2, .int .i64 1010, .int .i64 1, .int .i64 1]) (h0 : w0 ≤ g) (most : Int) : RowTs (fun k => w0 ≤ k) w (some ⟨g, 0, none⟩) 2 (exHall most).rows := by
 refine slice_blk hB h0 rfl (by decide) ?_
 intro k x hk
 have hk2 : k < 2 := of_getq hk
 have hc : k = 0 ∨ k = 1 := by omega
 rcases hc with rfl | rfl
 all_goals
  have hx := (Option.some.inj hk).symm
  subst hx
  refine ⟨_, rfl, ?_⟩
  intro j u hu
  have hj : j < 3 := of_getq hu
  have hc : j = 0 ∨ j = 1 ∨ j = 2 := by omega
  rcases hc with rfl | rfl | rfl <;> exact hu
theorem exSeen_at {w : World} {g w0 : Nat} {t : TypeId} (hB : Blk w g t #[.int .i64 0, .int .i64 20, .int .i64 1020, .int .i64 1020]) (h0 : w0 ≤ g) : Seens (fun k => w0 ≤ k) w (some ⟨g, 0, none⟩) 1 exSeen := by
 refine slice_blk hB h0 rfl (by decide) ?_
 intro k x hk
 have hk2 : k < 1 := of_getq hk
 have hc : k = 0 := by omega
 subst hc
 have hx := (Option.some.inj hk).symm
 subst hx
 refine ⟨_, rfl, ?_⟩
 intro j u hu
 have hj : j < 4 := of_getq hu
 have hc : j = 0 ∨ j = 1 ∨ j = 2 ∨ j = 3 := by omega
 rcases hc with rfl | rfl | rfl | rfl <;> exact hu
def IsHall (w0 : Nat) (most : Int) (v : Value) (w' : World) : Prop := ∃ (A B : Nat) (ca cb : Nat), v = .agg #[.int .i64 10, .int .i64 12, .int .i64 most, .slice (some ⟨A, 0, none⟩) 4 ca, .slice (some ⟨B, 0, none⟩) 2 cb] ∧ HallAt (fun k => w0 ≤ k) w' (some ⟨A, 0, none⟩) 4 (some ⟨B, 0, none⟩) 2 (exHall most) ∧ 4 ≤ ca
def IsSeen (w0 : Nat) (v : Value) (w' : World) : Prop := ∃ (A c : Nat), v = .slice (some ⟨A, 0, none⟩) 1 c ∧ Seens (fun k => w0 ≤ k) w' (some ⟨A, 0, none⟩) 1 exSeen
set_option maxHeartbeats 1000000 in
theorem seen35_any (w : World) :
  Calls Tryz.prog 35 #[] w fun e w' => (∃ v, e = .returned v ∧ IsSeen w.heap.size v w') ∧ Below w.heap.size w w' := by
 go_enter Tryz.func35, Tryz.ntmps35
 go_wp2_with fail
 refine (span8_any 1020 1020 w).mono ?_
 rintro e W1 ⟨rfl, b1⟩
 go_wp2
 go_ret
 exact ⟨⟨_, by rfl, _, _, rfl, exSeen_at (Blk.new _ _ _ rfl) b1.size⟩, bl_alloc b1 _ (Nat.le_refl _)⟩
set_option maxHeartbeats 1000000 in
theorem hall34_any (most : Int) (w : World) :
  Calls Tryz.prog 32 #[.int .i64 most] w fun e w' => (∃ v, e = .returned v ∧ IsHall w.heap.size most v w') ∧ Below w.heap.size w w' := by
 obtain ⟨W, hW⟩ : ∃ W, w.alloc (.cells #[.int .i64 0, .int .i64 0, .int .i64 0, .slice none 0 0, .slice none 0 0] 30) = W := ⟨_, rfl⟩
 have X : Blk W w.heap.size 30 #[.int .i64 0, .int .i64 0, .int .i64 0, .slice none 0 0, .slice none 0 0] := by rw [← hW]; exact Blk.new _ _ _ rfl
 have hBW : Below w.heap.size w W := by rw [← hW]; exact bl_alloc (Below.refl _ _) _ (Nat.le_refl _)
 go_enter Tryz.func32, Tryz.ntmps32
 go_wp2_with fail
 refine (span8_any 10 12 W).mono ?_
 rintro e W1 ⟨rfl, b1⟩
 have B1 := bl_call hBW b1 (Nat.le_refl _)
 have X1 := X.bl b1
 clear hW X
 go_wp2_with fail
 refine (wide73_any ⟨#[97]⟩ 1000 1002 1 W1).mono ?_
 rintro e W2 ⟨rfl, b2⟩
 have B2 := bl_call B1 b2 (Nat.le_refl _)
 have X2 := X1.bl b2
 go_wp2_with fail
 refine (wide73_any ⟨#[98]⟩ 1005 1005 0 W2).mono ?_
 rintro e W3 ⟨rfl, b3⟩
 have B3 := bl_call B2 b3 (Nat.le_refl _)
 have X3 := X2.bl b3
 go_wp2_with fail
 refine (wide73_any ⟨#[99]⟩ 998 998 1 W3).mono ?_
 rintro e W4 ⟨rfl, b4⟩
 have B4 := bl_call B3 b4 (Nat.le_refl _)
 have X4 := X3.bl b4
 go_wp2_with fail
 refine (wide73_any ⟨#[100]⟩ 1006 1006 1 W4).mono ?_
 rintro e W5 ⟨rfl, b5⟩
 have B5 := bl_call B4 b5 (Nat.le_refl _)
 have X5 := X4.bl b5
 have z0 := X5.cell 0
 have z1 := X5.cell 1
 have z2 := X5.cell 2
 have z3 := X5.cell 3
 have z4 := X5.cell 4
 have fz0 := X5.frozen 0
 have fz1 := X5.frozen 1
 have fz2 := X5.frozen 2
 have fz3 := X5.frozen 3
 have fz4 := X5.frozen 4
 have hl := X5.lt
 clear X1 X2 X3 X4 b1 b2 b3 b4 b5 B1 B2 B3 B4
 go_wp2_with fail
 obtain ⟨V, hV⟩ : ∃ V, (((((W5.setCell ⟨w.heap.size, 0, none⟩ (.int .i64 10)).setCell ⟨w.heap.size, 1, none⟩ (.int .i64 12)).setCell ⟨w.heap.size, 2, none⟩ (.int .i64 most)).setCell ⟨w.heap.size, 3, none⟩ (.slice (some ⟨W5.heap.size, 0, none⟩) 4 4)).setCell ⟨w.heap.size, 4, none⟩ (.slice (some ⟨W5.heap.size + 1, 0, none⟩) 2 2)) = V := ⟨_, rfl⟩
 have hsz : V.heap.size = W5.heap.size := by rw [← hV]; simp
 have XF : Blk V w.heap.size 30 #[.int .i64 10, .int .i64 12, .int .i64 most, .slice (some ⟨W5.heap.size, 0, none⟩) 4 4, .slice (some ⟨W5.heap.size + 1, 0, none⟩) 2 2] := by rw [← hV]; exact (((((X5.set_ 0 (.int .i64 10)).set_ 1 (.int .i64 12)).set_ 2 (.int .i64 most)).set_ 3 (.slice (some ⟨W5.heap.size, 0, none⟩) 4 4)).set_ 4 (.slice (some ⟨W5.heap.size + 1, 0, none⟩) 2 2))
 have BV : Below w.heap.size w V := by rw [← hV]; exact (bl_set (bl_set (bl_set (bl_set (bl_set B5 (Nat.le_refl _) _) (Nat.le_refl _) _) (Nat.le_refl _) _) (Nat.le_refl _) _) (Nat.le_refl _) _)
 have hwl : w.heap.size ≤ W5.heap.size := by omega
 rw [hV]
 exact bodyPost_ret (ret_five rfl rfl (.inl rfl) ((XF.alloc _).alloc _)) rfl ⟨⟨_, rfl, _, _, _, _, rfl, ⟨exTiles_at ((Blk.new _ _ _ hsz.symm).alloc _) hwl most, exRows_at (Blk.new _ _ _ (by simp [hsz])) (by omega) most⟩, Nat.le_refl _⟩, bl_alloc (bl_alloc BV _ (Nat.le_refl _)) _ (by simp)⟩
open Go.RowKit Go.Shelf
def mustU (h : Hall) (l : List Seen) (k : Nat) : List Int := (numbersL k).filter fun t => !withoutR h l t
theorem numbers_succ (k : Nat) : numbersL (k + 1) = numbersL k ++ [(k : Int)] := by unfold numbersL; rw [List.range_succ, List.map_append]; rfl
theorem mustU_yes {h : Hall} {l : List Seen} {k : Nat} (e : withoutR h l k = false) : mustU h l (k + 1) = mustU h l k ++ [(k : Int)] := by
 unfold mustU; rw [numbers_succ, List.filter_append]; simp [e]
theorem mustU_no {h : Hall} {l : List Seen} {k : Nat} (e : withoutR h l k = true) : mustU h l (k + 1) = mustU h l k := by
 unfold mustU; rw [numbers_succ, List.filter_append]; simp [e]
section
variable {h : Hall} {l : List Seen}
theorem must8_bad (e : hallE h l ≠ 0) : must8 h l = ([], hallE h l) := by rw [must8, if_pos e]
theorem must8_none (e : hallE h l = 0) (hk : OkH h) (hn : leastL (layP h l h.rows.length 0 0) = none) : must8 h l = ([], 8) := by
 rw [least_lay hk 0 (by decide), bitL_zero, ← best_all] at hn
 rw [must8, if_neg (by simp [e]), if_pos hn]
theorem must8_ok (e : hallE h l = 0) (hk : OkH h) {x : List (List Int) × Int} (hn : leastL (layP h l h.rows.length 0 0) = some x) : must8 h l = (mustU h l h.tiles.length, 0) := by
 rw [least_lay hk 0 (by decide), bitL_zero, ← best_all] at hn
 rw [must8, if_neg (by simp [e]), if_neg (by rw [hn]; simp)]; rfl
theorem without_least (hk : OkH h) {k : Nat} (h8 : k < 8) : withoutR h l k = (leastL (layP h l h.rows.length (2 ^ k) 0)).isSome := by
 rw [without_lay, least_lay hk _ (bitL_one k h8).2, (bitL_one k h8).1]
end
theorem hasLay_any {W2 : World} {h : Hall} {l : List Seen} {gh g2 g5 g3 gF base m cb wo : Nat} {B : Option Addr} (lb : LayBox W2 h l gh g2 g5 g3 gF base m cb wo B) (hok : OkH h) (hm : h.rows.length = m) (hm3 : m ≤ 3) (hwo : wo < 256) :
  Calls Tryz.prog 46 #[.func (.func 81) #[] #[.pointer (some ⟨g2, 0, none⟩), .pointer (some ⟨g5, 0, none⟩), .pointer (some ⟨g3, 0, none⟩)]] W2 fun e w' =>
   (∃ (v : Value) (n : Int), e = .returned (.tuple #[v, .int .i64 n, .bool (leastL (layP h l m wo 0)).isSome])) ∧ Below W2.heap.size W2 w' :=
 (least_any (Own := fun _ _ _ _ => True) eg_layings lay_enc (fun _ _ _ _ _ _ _ _ => trivial) (layings_seq lb hok hm hm3 hwo) W2 (fun A hA => hA)).mono fun e w' ⟨hr, hb⟩ => by
  refine ⟨?_, hb⟩
  unfold LeastR at hr
  cases hle : leastL (layP h l m wo 0) with
  | none => rw [hle] at hr; exact ⟨_, _, hr⟩
  | some x => rw [hle] at hr; obtain ⟨Ad, nn, c, Y, he, _⟩ := hr; exact ⟨_, _, he⟩
def MustOk (w : World) (r : List Int × Int) (e : Ending) (w' : World) : Prop := Below w.heap.size w w' ∧ ∃ A n c, e = .returned (.tuple #[.slice A n c, .int .i64 r.2]) ∧ Ints (fun _ => True) w' A n r.1
set_option maxRecDepth 100000 in
set_option maxHeartbeats 1000000 in
theorem tmust_any {A B C : Option Addr} {n ca m cb q cc : Nat} {h : Hall} {l : List Seen} {alo ahi most : Int} (w : World) (g : HallAt (fun _ => True) w A n B m h) (gs : Seens (fun _ => True) w C q l) (hca : n ≤ ca) (h1 : h.alo = alo) (h2 : h.ahi = ahi) (h3 : h.most = most) :
  Calls Tryz.prog 38 #[.agg #[.int .i64 alo, .int .i64 ahi, .int .i64 most, .slice A n ca, .slice B m cb], .slice C q cc] w (MustOk w (must8 h l)) := by
 obtain ⟨i0, hi0, hz0, hz1, hz2⟩ := info_parts infoInt
 obtain ⟨W, hW⟩ : ∃ W, w.alloc (.cells #[.int .i64 alo, .int .i64 ahi, .int .i64 most, .slice A n ca, .slice B m cb] 30) = W := ⟨_, rfl⟩
 have X : Blk W w.heap.size 30 #[.int .i64 alo, .int .i64 ahi, .int .i64 most, .slice A n ca, .slice B m cb] := by rw [← hW]; exact Blk.new _ _ _ rfl
 have hBW : Below w.heap.size w W := by rw [← hW]; exact bl_alloc (Below.refl _ _) _ (Nat.le_refl _)
 have hc : HallAt (fun _ => True) W A n B m h := g.keep (Keeps.below hBW)
 have hs : Seens (fun _ => True) W C q l := gs.keep SeenR.good (Keeps.below hBW)
 have hWs : w.heap.size ≤ W.heap.size := hBW.size
 have HW := Lib.hid hW
 have Hm := Lib.hid hc.rs.len
 have Hn := Lib.hid hc.ts.len
 have hlen := hc.ts.le
 clear hW g gs
 go_enter Tryz.func38, Tryz.ntmps38
 go_wp2_with fail
 rw [HW.out]
 refine (tenter_any W hc hs hca h1 h2 h3).mono ?_
 rintro e W1 ⟨b1, p, ag, rfl, hag, hbx⟩
 have B1 : Below w.heap.size w W1 := hBW.trans (b1.mono hWs)
 have X1 := X.bl b1
 have x2 := X1.cell 3
 have HX2 : Hid (W1.cell? ⟨w.heap.size, 3, none⟩ = some (.slice A n ca)) := x2
 have hxl := X1.lt
 clear x2 X X1
 by_cases he : (seen8 h l).2 = 0
 ·have hag := hag he
  have hbx := hbx he
  obtain ⟨hc0, _, _⟩ := seen_zero he
  have hokh := okH_of hc0
  have hnr := hokh.nr
  have hnt := hokh.nt
  have hm3 : m ≤ 3 := by rw [← Hm.out]; exact hnr.2
  have hn8 : n ≤ 8 := by rw [← Hn.out]; exact hnt.2
  have HE := Lib.hid he
  rw [he]
  subst hag
  cases hga : agree8 h l
  ·have HR : Hid (must8 h l = ([], 9)) := by rw [Hid, must8_bad (by rw [hallE_no HE.out hga]; decide), hallE_no HE.out hga]
   clear hbx he hnr hnt
   go_wp2_with fail
   go_ret2
   exact ⟨B1, none, 0, 0, by rw [HR.out]; rfl, by rw [HR.out]; exact SliceOf.nil _ _ _ _ _⟩
  obtain ⟨gh, rfl, hbox⟩ := hbx hga
  have HH0 := Lib.hid (hallE_ok HE.out hga)
  have HOK := Lib.hid hokh
  have HAG := Lib.hid hga
  have HBOX := Lib.hid hbox
  clear hbx he hnr hnt hga hokh hbox hc0
  go_wp2_with fail
  refine (layings_any 0 W1 HBOX.out HOK.out HAG.out).mono ?_
  rintro e W2 ⟨⟨g2, g5, g3, gF, base, rfl, lb⟩, b2⟩
  have HLB := Lib.hid lb
  clear lb
  go_wp2_with fail
  refine (hasLay_any HLB.out HOK.out Hm.out hm3 (by decide)).mono ?_
  rintro e W3 ⟨⟨v3, n3, rfl⟩, b3⟩
  have b13 : Below W1.heap.size W1 W3 := bl_call b2 b3 (Nat.le_refl _)
  have HB13 := Lib.hid b13
  have HB1 := Lib.hid B1
  clear b2 b3 b13 B1
  cases hle : leastL (layP h l m 0 0) with
  | none =>
   have HR : Hid (must8 h l = ([], 8)) := must8_none HH0.out HOK.out (by rw [Hm.out]; exact hle)
   rw [Option.isSome_none]
   clear hle
   go_wp2_with fail
   go_ret2
   exact ⟨bl_call HB1.out HB13.out (Nat.le_refl _), none, 0, 0, by rw [HR.out]; rfl, by rw [HR.out]; exact SliceOf.nil _ _ _ _ _⟩
  | some x =>
   have HR : Hid (must8 h l = (mustU h l n, 0)) := by rw [Hid, must8_ok HH0.out HOK.out (x := x) (by rw [Hm.out]; exact hle), Hn.out]
   rw [Option.isSome_some]
   have x2 := getc HB13.out HX2.out
   have hx3 : w.heap.size < W3.heap.size := by have := HB13.out.size; omega
   clear hle
   go_wp2_with fail
   clear x2
   go_loopw [4, 11, 12, 13, 14, 41] (fun v4 _ _ _ _ i' wr => ∃ (k j cap : Nat) (A1 : Option Addr) (l1 : List Int), i' = .int .i64 k ∧ k ≤ n ∧ v4 = .slice A1 j cap ∧ Hid (l1.length = j) ∧ j ≤ k ∧ OwnL IntR 1 (fun _ => False) wr W1.heap.size 3 (.slice A1 j cap) l1 ∧ Hid (Below W1.heap.size W1 wr) ∧ Hid (l1 = mustU h l k)) (fun _ _ _ _ _ i' _ => n - (intOf i').toNat)
   case atStart => exact ⟨0, 0, 0, none, [], rfl, Nat.zero_le _, rfl, rfl, Nat.le_refl _, OwnL.nil _ _ _ _ _ _, HB13.out, rfl⟩
   case round =>
    obtain ⟨k, j, cap, A1, l1, rfl, hk, rfl, Hj, hjk, hO, HB, Hu⟩ := hrel
    by_cases hlt : k < n
    ·have hki : (k : Int) < n := by omega
     have hpw := pow_wrap k (by omega)
     obtain ⟨wo, hwo⟩ : ∃ wo : Nat, 2 ^ k = wo := ⟨_, rfl⟩
     rw [hwo] at hpw
     have hwo8 : wo < 256 := by rw [← hwo]; exact (bitL_one k (by omega)).2
     have HWO : Hid (withoutR h l k = (leastL (layP h l m wo 0)).isSome) := by rw [Hid, without_least HOK.out (by omega), Hm.out, hwo]
     clear hwo
     go_wp2_with fail
     try rw [hpw]
     refine (layings_any wo wr (HBOX.out.keep HB.out) HOK.out HAG.out).mono ?_
     rintro e V2 ⟨⟨g2', g5', g3', gF', base', rfl, lb'⟩, c2⟩
     have HLB' := Lib.hid lb'
     have hO2 := hO.below IntR.good c2
     have HBV2 : Hid (Below W1.heap.size W1 V2) := bl_call HB.out c2 (Nat.le_refl _)
     clear lb' c2 hO
     go_wp2_with fail
     refine (hasLay_any HLB'.out HOK.out Hm.out hm3 hwo8).mono ?_
     rintro e V3 ⟨⟨v3', n3', rfl⟩, c3⟩
     have hO3 := hO2.below IntR.good c3
     have HBV3 : Hid (Below W1.heap.size W1 V3) := bl_call HBV2.out c3 (Nat.le_refl _)
     clear c3 hO2
     cases hsm : (leastL (layP h l m wo 0)).isSome
     ·have HU2 : Hid (l1 ++ [(k : Int)] = mustU h l (k + 1)) := by rw [Hid, mustU_yes (by rw [HWO.out]; exact hsm), Hu.out]
      clear hsm
      go_wp2_with (at_builtin; refine wpList_append_n _ rfl (.tmp 55) (.tmp 57) _ rfl IntR.good W1.heap.size 3 i0 _ 8 Tryz.underlying47 hi0 hz0 hz1 hz2 rfl (by omega) _ l1 (k : Int) j Hj.out rfl (hO3.alloc IntR.good _) ⟨_, 0, none⟩ 1 [.int .i64 k] rfl rfl (news_new rfl rfl) ?c1 ?c2 ?c3 (fun h => h) ?_)
      case c1 => simp only [maxLen]; omega
      case c2 => omega
      case c3 => have := HBV3.out.size; simp; omega
      intro A2 cap2 V4 hO4 hg4 _
      have HB4 : Hid (Below W1.heap.size W1 V4) := bl_grown (bl_alloc HBV3.out _ (Nat.le_refl _)) (hO3.alloc IntR.good _) hg4 (Nat.le_refl _) (Nat.le_refl _)
      have Hj2 : Hid ((l1 ++ [(k : Int)]).length = j + 1) := by rw [Hid, List.length_append, Hj.out]; rfl
      clear hg4 hO3
      go_wp2_with fail
      go_roundw
      case rel => exact ⟨k + 1, j + 1, cap2, _, l1 ++ [(k : Int)], by go_num, by omega, rfl, Hj2, by omega, hO4, HB4, HU2⟩
      case measure => simp [intOf]; omega
     have HU2 : Hid (l1 = mustU h l (k + 1)) := by rw [Hid, mustU_no (by rw [HWO.out]; exact hsm), Hu.out]
     clear hsm
     go_wp2_with fail
     go_roundw
     case rel => exact ⟨k + 1, j, cap, A1, l1, by go_num, by omega, rfl, Hj, by omega, hO3, HBV3, HU2⟩
     case measure => simp [intOf]; omega
    obtain rfl : k = n := by omega
    have hS := hO.slice (T := fun _ => True) IntR.good rfl (by simp only [maxLen]; omega) (fun _ _ => trivial) (fun _ _ _ => trivial)
    have HS := Lib.hid hS
    clear hS hO
    go_wp2_with fail
    go_ret2
    exact ⟨bl_call HB1.out HB.out (Nat.le_refl _), A1, j, cap, by rw [HR.out]; rfl, by rw [HR.out, ← Hu.out]; exact HS.out⟩
 have HR := Lib.hid (must8_bad (by rw [hallE_bad he]; exact he))
 have HRE := Lib.hid (hallE_bad he)
 have heb : ((seen8 h l).2 != 0) = true := by simpa using he
 clear he hag hbx
 go_wp2_with fail
 go_ret2
 exact ⟨B1, none, 0, 0, by rw [HR.out, HRE.out]; rfl, by rw [HR.out]; exact SliceOf.nil _ _ _ _ _⟩
end Go.Proofs.YtdbfincinjoppaaGreat
