/- Walks, layer 7, the reference: Lists, the ascending lists that begin so. -/
import Derived.Test.YtpdldmichpmgmaaGreatCCastHalls
import Derived.Test.YtpdldmichpmgmaaGreatCKOut1
import Derived.Test.YtpdldmichpmgmaaGreatCTRefsO
set_option linter.unusedVariables false
set_option linter.unusedSimpArgs false
set_option linter.all false
namespace Go.Proofs.YtpdldmichpmgmaaGreat
open Go.RowKit Go.Shelf

theorem infoI7L : (Tryz.prog.info? 3).map (fun i => (i.zero, i.size, i.bytes)) = some (some (.int .i64 0), 1, 8) := by kernel_rfl
theorem infoIs7 : (Tryz.prog.info? 30).map (fun i => (i.zero, i.size, i.bytes)) = some (some (.slice none 0 0), 1, 24) := by kernel_rfl
abbrev Rows7 := SliceOf (SlR IntR 1) 1
theorem Rows7.good : (SlR IntR 1).Good 1 := SlR.good IntR.good
/-- the numbers from one on below another one -/
def numF (f b : Nat) : List Int := (numbersL b).drop f
theorem numF_len (f b : Nat) : (numF f b).length = b - f := by unfold numF numbersL; simp
theorem numF_get {f b j : Nat} (h : f + j < b) : (numF f b)[j]? = some ((f + j : Nat) : Int) := by
  unfold numF numbersL
  rw [List.getElem?_drop, List.getElem?_map, List.getElem?_range h]; rfl
theorem numF_drop (f b j : Nat) : (numF f b).drop j = numF (f + j) b := by unfold numF; rw [List.drop_drop]
/-- where the next number begins -/
def fromN (xs : List Int) : Nat := match xs.getLast? with | some y => (y + 1).toNat | none => 0
theorem fromN_nil : fromN [] = 0 := rfl
theorem fromN_snoc (xs : List Int) (x : Nat) : fromN (xs ++ [(x : Int)]) = x + 1 := by unfold fromN; rw [List.getLast?_concat]; show ((x : Int) + 1).toNat = x + 1; omega
def IsLists7 (S : Foot) (w0 : Nat) (xs : List (List Int)) (e : Ending) (w' : World) : Prop := ∃ (A' : Option Addr) (c : Nat), e = .returned (.slice A' xs.length c) ∧ Rows7 (fun k => S k ∨ w0 ≤ k) w' A' xs.length xs

theorem wpList_of_run {P : Program} {ops : Array Oper} {rest : List Oper} {o : Oper} {a : Act} {Q : Exit → Act → World → Prop} {w w' : World} {s x : Operand} {t : TypeId} {v1 v2 v' : Value} (hgd : o.guard = none)
    (ho : o.op = .call { callee := .builtin .append, args := #[s, x], argTypes := #[t, t] }) (hs : a.eval s = v1) (hx : a.eval x = v2)
    (hrun : (Builtin.append_ #[t, t] o.type #[v1, v2]).run P w = .ok v' w') (h : wpList P ops Q rest (a.put o.dst v') w') : wpList P ops Q (o :: rest) a w :=
  wpList_plain hgd fun K hK => wp_append_of_run ho hs hx hrun (hK _ _ h)
theorem wpList_append_fresh {P : Program} {ops : Array Oper} {rest : List Oper} {o : Oper} {a : Act} {Q : Exit → Act → World → Prop} (w : World) (hgd : o.guard = none) (s x : Operand) (t : TypeId)
    (ho : o.op = .call { callee := .builtin .append, args := #[s, x], argTypes := #[t, t] })
    {α : Type} {R : Rd α} (g : R.Good 1) {S U : Foot} (base : Nat) (e : TypeId) (i : TypeInfo) (z : Value) (bytes : Nat) (ht : P.underlying t = some (.slice e)) (hi : P.info? e = some i) (hz : i.zero = some z)
    (hsize : i.size = 1) (hby : i.bytes = bytes) (hzs : z.cells.size = 1)
    (gb : Nat) (hs : a.eval s = .slice (some ⟨gb, 0, none⟩) 0 0) (hown : OwnL R 1 S w base e (.slice (some ⟨gb, 0, none⟩) 0 0) [])
    (A : Option Addr) (m c : Nat) (ys : List α) (hx : a.eval x = .slice A m c) (hR : SliceOf R 1 U w A m ys) (hU : ∀ y vs, R (fun k => U k ∧ k < w.heap.size) w y vs → R S w y vs)
    (h63 : m ≤ maxLen) (hbytes : m * bytes ≤ 140737488355328) (hbase : base ≤ w.heap.size) (hS : ¬ S w.heap.size)
    (h : ∀ A' cap' w', OwnL R 1 S w' base e (.slice A' m cap') ys → Below w.heap.size w w' → wpList P ops Q rest (a.put o.dst (.slice A' m cap')) w') : wpList P ops Q (o :: rest) a w := by
  obtain ⟨A', cap', w', hrun, h1, h2⟩ := run_append_fresh (P := P) w t o.type g base e i z bytes ht hi hz hsize hby hzs gb hown A m c ys hR hU h63 hbytes hbase hS
  exact wpList_of_run hgd ho hs hx hrun (h A' cap' w' h1 h2)
theorem wpList_append_allt {P : Program} {ops : Array Oper} {rest : List Oper} {o : Oper} {a : Act} {Q : Exit → Act → World → Prop} (w : World) (hgd : o.guard = none) (s x : Operand) (t : TypeId)
    (ho : o.op = .call { callee := .builtin .append, args := #[s, x], argTypes := #[t, t] })
    {α : Type} {R : Rd α} (T : Foot) (g : R.Good 1) {U : Foot} (base : Nat) (e : TypeId) (i : TypeInfo) (z : Value) (bytes : Nat) (ht : P.underlying t = some (.slice e)) (hi : P.info? e = some i) (hz : i.zero = some z)
    (hsize : i.size = 1) (hby : i.bytes = bytes) (hzs : z.cells.size = 1)
    (v : Value) (xs : List α) (n : Nat) (hn : xs.length = n) (hs : a.eval s = v) (hown : OwnT T R 1 w base e v xs)
    (A : Option Addr) (m c : Nat) (ys : List α) (hx : a.eval x = .slice A m c) (hR : SliceOf R 1 U w A m ys) (hU : ∀ k, U k → k < w.heap.size → T k ∧ v.ownBlock ≠ some k)
    (h63 : n + m ≤ maxLen) (hbytes : (n + m) * bytes ≤ 140737488355328) (hbase : base ≤ w.heap.size)
    (h : ∀ A' cap' w', OwnT T R 1 w' base e (.slice A' (n + m) cap') (xs ++ ys) → w.grownBy w' v.ownBlock → wpList P ops Q rest (a.put o.dst (.slice A' (n + m) cap')) w') : wpList P ops Q (o :: rest) a w := by
  obtain ⟨A', cap', w', hrun, h1, h2, _⟩ := run_append_allt (P := P) w t o.type T g base e i z bytes ht hi hz hsize hby hzs v xs n hn hown A m c ys hR hU h63 hbytes hbase
  exact wpList_of_run hgd ho hs hx hrun (h A' cap' w' h1 h2)

set_option maxRecDepth 100000 in
set_option maxHeartbeats 8000000 in
theorem rlists7_any : ∀ (k : Nat) {S : Foot} {A : Option Addr} {n c b : Nat} {xs : List Int} (w : World) (h : Ints S w A n xs) (hb : b ≤ 8) (hx : ∀ y ∈ xs, 0 ≤ y ∧ y < b) (hnk : n + k ≤ 16),
    Calls Tryz.prog 35 #[.slice A n c, .int .i64 k, .int .i64 b] w fun e w' => IsLists7 S w.heap.size (listsB xs k (numF (fromN xs) b)) e w' ∧ Below w.heap.size w w' := by
  obtain ⟨i0, hi0, hz0, hz1, hz2⟩ := info_parts infoI7L
  obtain ⟨i1, hi1, hy0, hy1, hy2⟩ := info_parts infoIs7
  intro k
  induction k with
  | zero =>
    intro S A n c b xs w h hb hx hnk
    go_enter Tryz.func35, Tryz.ntmps35
    go_wp2
    go_ret
    refine ⟨⟨some ⟨w.heap.size, 0, none⟩, 1, by simp [listsB, lexL], ?_⟩, bl_alloc (Below.refl _ _) _ (Nat.le_refl _)⟩
    have hL : listsB xs 0 (numF (fromN xs) b) = [xs] := by simp [listsB, lexL]
    rw [hL]
    refine ⟨rfl, show 1 ≤ maxLen by decide, fun j x hx => ?_⟩
    have hj : j = 0 := by have := of_getq' hx; simp at this; omega
    subst hj
    simp at hx; subst hx
    refine ⟨w.heap.size, 0, [.slice A n c], rfl, .inr (Nat.le_refl _), by simp, ⟨A, n, c, rfl, (h.keep IntR.good (Keeps.alloc _ _)).mono IntR.good fun _ h => .inl h⟩, fun j u hu => ?_⟩
    have hj : j = 0 := by have := of_getq' hu; simp at this; omega
    subst hj
    simp at hu; subst hu
    exact newc rfl rfl
  | succ k ih =>
    intro S A n c b xs w h hb hx hnk
    have IH : Hid _ := @ih
    have HXS := Lib.hid hx
    have Hnx := Lib.hid h.len
    have HA : Hid (∀ V, Below w.heap.size w V → Ints S V A n xs) := fun V hb => h.keep IntR.good (Keeps.below hb)
    clear ih hx
    obtain ⟨ki, hki0⟩ : ∃ ki : Int, ((k + 1 : Nat) : Int) = ki := ⟨_, rfl⟩
    rw [hki0]
    have hk0 : (ki == 0) = false := by simp; omega
    by_cases hn : n = 0
    · have hn0 : ¬ (0 : Int) < n := by omega
      have hn0d : decide ((0 : Int) < n) = false := decide_eq_false hn0
      obtain ⟨f, hf⟩ : ∃ f : Nat, f = 0 := ⟨0, rfl⟩
      have HF : Hid ((f : Int) = 0 ∧ f ≤ b) := ⟨by omega, by omega⟩
      have HFN : Hid (fromN xs = f) := by rw [Hid, List.eq_nil_of_length_eq_zero (Hnx.out.trans hn), hf]; rfl
      clear hf hn
      clear h
      go_enter Tryz.func35, Tryz.ntmps35
      go_wp2_with fail
      go_loopw [8, 9] (fun o i wr => ∃ (j xi len cap : Nat) (An : Option Addr), Hid (f + j = xi) ∧ xi ≤ b ∧ i = .int .i64 (xi : Int) ∧ o = .slice An len cap ∧ Hid (Below w.heap.size w wr) ∧ Hid (OwnT (fun k => w.heap.size ≤ k) (SlR IntR 1) 1 wr w.heap.size 30 (.slice An len cap) (listsUpto xs k (numF f b) j)) ∧ Hid ((listsUpto xs k (numF f b) j).length = len)) (fun _ i _ => b - (intOf i).toNat)
      case atStart => exact ⟨0, f, 0, 0, none, rfl, by have := HF.out; omega, congrArg (Value.int .i64) (by have := HF.out; omega), rfl, Below.refl _ _, OwnT.nil _ _ _ _ _ _, rfl⟩
      case round =>
        obtain ⟨j, xi, len, cap, An, hxi, hj, rfl, rfl, HB, HO, Hlen⟩ := hrel
        have hlen8 : len ≤ 8 * 256 := by rw [← Hlen.out]; exact Nat.le_trans (listsUpto_len _ _ _ (by rw [numF_len]; omega) _) (Nat.mul_le_mul_right _ (by have := hxi.out; omega))
        by_cases hlt : xi < b
        · have HX := Lib.hid (numF_get (f := f) (j := j) (by rw [hxi.out]; exact hlt))
          have HS := Lib.hid (listsUpto_succ (b := xs) (k := k) HX.out)
          have HFD : Hid ((numF f b).drop (j + 1) = numF (f + j + 1) b) := by rw [Hid, numF_drop]; rfl
          rw [HFD.out] at HS
          rw [hxi.out] at HS
          have hki : (xi : Int) < b := by omega
          have hwr := HB.out.size
          go_wp2_with (at_builtin; refine wpList_append_fresh _ rfl (.tmp 31) (.tmp 32) _ rfl IntR.good (S := fun _ => False) wr.heap.size 3 i0 _ 8 Tryz.underlying30 hi0 hz0 hz1 hz2 rfl wr.heap.size rfl (OwnL.lit wr _ _ (Nat.le_refl _) rfl) A n c xs rfl (HA.out _ (bl_alloc HB.out _ (Nat.le_refl _))) (fun _ _ h => h) ?c1 ?c2 ?c3 (fun h => h) ?_)
          case c1 => simp only [maxLen]; omega
          case c2 => omega
          case c3 => simp
          intro A1 cap1 w1 hO1 hb1
          have b01 : Below wr.heap.size wr w1 := bl_call (bl_alloc (Below.refl _ _) _ (Nat.le_refl _)) (show Below (wr.alloc _).heap.size _ w1 by simpa using hb1) (by simp)
          clear hb1
          go_wp2_with (at_builtin; refine wpList_append_n _ rfl (.tmp 33) (.tmp 35) _ rfl IntR.good (S := fun _ => False) wr.heap.size 3 i0 _ 8 Tryz.underlying30 hi0 hz0 hz1 hz2 rfl (by decide) (.slice A1 n cap1) xs (xi : Int) n Hnx.out rfl (hO1.alloc IntR.good _) ⟨w1.heap.size, 0, none⟩ 1 [.int .i64 xi] rfl rfl (news_new rfl rfl) ?c1 ?c2 ?c3 (fun h => h) ?_)
          case c1 => simp only [maxLen]; omega
          case c2 => omega
          case c3 => have := b01.size; simp; omega
          intro A2 cap2 w2 hO2 hg2 _
          have b02 : Below wr.heap.size wr w2 := bl_grown (bl_alloc b01 _ (Nat.le_refl _)) (hO1.alloc IntR.good _) hg2 (Nat.le_refl _) (Nat.le_refl _)
          have hI2 : Ints (fun k => wr.heap.size ≤ k) w2 (some ⟨A2, 0, none⟩) (n + 1) (xs ++ [(xi : Int)]) := hO2.slice IntR.good rfl (by simp only [maxLen]; omega) (fun _ h => h.elim) (fun _ h _ => h)
          have hOb : ∀ g, (Value.slice An len cap).ownBlock = some g → g < wr.heap.size := fun g hg => (OwnL.block HO.out g hg).2
          have HOb := Lib.hid hOb
          have HO2 : Hid (OwnT (fun k => w.heap.size ≤ k) (SlR IntR 1) 1 w2 w.heap.size 30 (.slice An len cap) (listsUpto xs k (numF f b) j)) := OwnT.below (SlR.good IntR.good) HO.out b02
          have HB2 : Hid (Below w.heap.size w w2) := bl_call HB.out b02 (Nat.le_refl _)
          have h02 := b02.size
          have hw1 : IntKind.i64.wrap (ki - 1) = k := by rw [IntKind.wrap_i64]; omega
          clear hO1 hO2 hg2 b01 b02 hOb HO
          go_wp2_with fail
          refine (IH.out w2 hI2 hb (fun y hy => by
            rcases List.mem_append.1 hy with hy | hy
            · exact HXS.out y hy
            · rw [List.mem_singleton] at hy; omega) (by omega)).mono ?_
          rw [fromN_snoc]
          rintro e w3 ⟨⟨A3, c3, rfl, hRR⟩, b23⟩
          obtain ⟨q, hq⟩ : ∃ q, (listsB (xs ++ [(xi : Int)]) k (numF (xi + 1) b)).length = q := ⟨_, rfl⟩
          have hq8 : q ≤ 256 := by rw [← hq]; exact listsB_len _ _ _ (by rw [numF_len]; omega)
          rw [hq] at hRR ⊢
          have HRR := Lib.hid (hRR.mono (SlR.good IntR.good) (T := fun k => wr.heap.size ≤ k) (fun k h => by rcases h with h | h; exact h; exact Nat.le_trans h02 h))
          have HO3 : Hid (OwnT (fun k => w.heap.size ≤ k) (SlR IntR 1) 1 w3 w.heap.size 30 (.slice An len cap) (listsUpto xs k (numF f b) j)) := OwnT.below (SlR.good IntR.good) HO2.out b23
          have HB3 : Hid (Below w.heap.size w w3) := bl_call HB2.out b23 (Nat.le_refl _)
          clear hRR b23 HO2 HB2 hI2
          go_wp2_with (at_builtin; refine wpList_append_allt _ rfl (.tmp 30) (.tmp 40) _ rfl (fun k => w.heap.size ≤ k) (SlR.good IntR.good) w.heap.size 30 i1 _ 24 Tryz.underlying73 hi1 hy0 hy1 hy2 rfl (.slice An len cap) (listsUpto xs k (numF f b) j) len Hlen.out rfl HO3.out A3 q c3 _ rfl HRR.out (fun k h1 h2 => ⟨Nat.le_trans hwr h1, fun e => by have := HOb.out k e; omega⟩) ?c1 ?c2 ?c3 ?_)
          case c1 => simp only [maxLen]; omega
          case c2 => omega
          case c3 => exact HB3.out.size
          intro A4 cap4 w4 hO4 hg4
          have HB4 : Hid (Below w.heap.size w w4) := bl_grown HB3.out HO3.out hg4 (Nat.le_refl _) (Nat.le_refl _)
          have HO4 : Hid (OwnT (fun k => w.heap.size ≤ k) (SlR IntR 1) 1 w4 w.heap.size 30 (.slice A4 (len + q) cap4) (listsUpto xs k (numF f b) (j + 1))) := by rw [Hid, HS.out]; exact hO4
          have HL4 : Hid ((listsUpto xs k (numF f b) (j + 1)).length = len + q) := by rw [Hid, HS.out, List.length_append, Hlen.out, hq]
          clear hO4 hg4
          go_wp2_with fail
          go_roundw
          case rel => exact ⟨j + 1, xi + 1, len + q, cap4, A4, by have := hxi.out; rw [Hid]; omega, by omega, by go_num, rfl, HB4.out, HO4.out, HL4.out⟩
          case measure => simp [intOf]; omega
        · have hki : ¬ (xi : Int) < b := by omega
          have hall : listsUpto xs k (numF f b) j = listsB xs (k + 1) (numF f b) := by rw [← lists_all, numF_len, show b - f = j by have := hxi.out; omega]
          have hO := HO.out
          rw [hall] at hO Hlen
          clear hall HO
          go_wp2_with fail
          go_ret
          refine ⟨⟨An, cap, by rw [HFN.out, Hlen.out]; rfl, ?_⟩, HB.out⟩
          rw [HFN.out, Hlen.out]
          exact OwnT.slice (SlR.good IntR.good) hO rfl (by simp only [maxLen]; omega) (fun _ h => .inr h) (fun _ h => .inr h)
    · have hnp : (0 : Int) < n := by omega
      have hnp0 : 0 < n := by omega
      obtain ⟨bb, ob, y, rfl, hyc, Hy⟩ := Ints.get h (show n - 1 < n by omega)
      have hyb := HXS.out y (List.mem_of_getElem? Hy.out)
      obtain ⟨f, hf⟩ : ∃ f : Nat, (f : Int) = y + 1 := ⟨(y + 1).toNat, by omega⟩
      have HFN : Hid (fromN xs = f) := by
        rw [Hid, fromN, List.getLast?_eq_getElem?, Hnx.out, Hy.out]
        dsimp only
        omega
      have HF : Hid ((f : Int) = y + 1 ∧ f ≤ b) := ⟨hf, by omega⟩
      have hw0 : IntKind.i64.wrap ((n : Int) - 1) = ((n - 1 : Nat) : Int) := by rw [IntKind.wrap_i64]; omega
      have hw2 : IntKind.i64.wrap (y + 1) = y + 1 := by rw [IntKind.wrap_i64]; omega
      have hn1 : n - 1 < n := by omega
      have hn1i : ((n - 1 : Nat) : Int) < n := by omega
      obtain ⟨n1, hn1e⟩ : ∃ n1, n - 1 = n1 := ⟨_, rfl⟩
      rw [hn1e] at hw0 hn1 hn1i hyc
      clear h hf hn1e Hy hyb
      go_enter Tryz.func35, Tryz.ntmps35
      go_wp2_with fail
      go_loopw [8, 9] (fun o i wr => ∃ (j xi len cap : Nat) (An : Option Addr), Hid (f + j = xi) ∧ xi ≤ b ∧ i = .int .i64 (xi : Int) ∧ o = .slice An len cap ∧ Hid (Below w.heap.size w wr) ∧ Hid (OwnT (fun k => w.heap.size ≤ k) (SlR IntR 1) 1 wr w.heap.size 30 (.slice An len cap) (listsUpto xs k (numF f b) j)) ∧ Hid ((listsUpto xs k (numF f b) j).length = len)) (fun _ i _ => b - (intOf i).toNat)
      case atStart => exact ⟨0, f, 0, 0, none, rfl, by have := HF.out; omega, congrArg (Value.int .i64) (by have := HF.out; omega), rfl, Below.refl _ _, OwnT.nil _ _ _ _ _ _, rfl⟩
      case round =>
        obtain ⟨j, xi, len, cap, An, hxi, hj, rfl, rfl, HB, HO, Hlen⟩ := hrel
        have hlen8 : len ≤ 8 * 256 := by rw [← Hlen.out]; exact Nat.le_trans (listsUpto_len _ _ _ (by rw [numF_len]; omega) _) (Nat.mul_le_mul_right _ (by have := hxi.out; omega))
        by_cases hlt : xi < b
        · have HX := Lib.hid (numF_get (f := f) (j := j) (by rw [hxi.out]; exact hlt))
          have HS := Lib.hid (listsUpto_succ (b := xs) (k := k) HX.out)
          have HFD : Hid ((numF f b).drop (j + 1) = numF (f + j + 1) b) := by rw [Hid, numF_drop]; rfl
          rw [HFD.out] at HS
          rw [hxi.out] at HS
          have hki : (xi : Int) < b := by omega
          have hwr := HB.out.size
          go_wp2_with (at_builtin; refine wpList_append_fresh _ rfl (.tmp 31) (.tmp 32) _ rfl IntR.good (S := fun _ => False) wr.heap.size 3 i0 _ 8 Tryz.underlying30 hi0 hz0 hz1 hz2 rfl wr.heap.size rfl (OwnL.lit wr _ _ (Nat.le_refl _) rfl) (some ⟨bb, ob, none⟩) n c xs rfl (HA.out _ (bl_alloc HB.out _ (Nat.le_refl _))) (fun _ _ h => h) ?c1 ?c2 ?c3 (fun h => h) ?_)
          case c1 => simp only [maxLen]; omega
          case c2 => omega
          case c3 => simp
          intro A1 cap1 w1 hO1 hb1
          have b01 : Below wr.heap.size wr w1 := bl_call (bl_alloc (Below.refl _ _) _ (Nat.le_refl _)) (show Below (wr.alloc _).heap.size _ w1 by simpa using hb1) (by simp)
          clear hb1
          go_wp2_with (at_builtin; refine wpList_append_n _ rfl (.tmp 33) (.tmp 35) _ rfl IntR.good (S := fun _ => False) wr.heap.size 3 i0 _ 8 Tryz.underlying30 hi0 hz0 hz1 hz2 rfl (by decide) (.slice A1 n cap1) xs (xi : Int) n Hnx.out rfl (hO1.alloc IntR.good _) ⟨w1.heap.size, 0, none⟩ 1 [.int .i64 xi] rfl rfl (news_new rfl rfl) ?c1 ?c2 ?c3 (fun h => h) ?_)
          case c1 => simp only [maxLen]; omega
          case c2 => omega
          case c3 => have := b01.size; simp; omega
          intro A2 cap2 w2 hO2 hg2 _
          have b02 : Below wr.heap.size wr w2 := bl_grown (bl_alloc b01 _ (Nat.le_refl _)) (hO1.alloc IntR.good _) hg2 (Nat.le_refl _) (Nat.le_refl _)
          have hI2 : Ints (fun k => wr.heap.size ≤ k) w2 (some ⟨A2, 0, none⟩) (n + 1) (xs ++ [(xi : Int)]) := hO2.slice IntR.good rfl (by simp only [maxLen]; omega) (fun _ h => h.elim) (fun _ h _ => h)
          have hOb : ∀ g, (Value.slice An len cap).ownBlock = some g → g < wr.heap.size := fun g hg => (OwnL.block HO.out g hg).2
          have HOb := Lib.hid hOb
          have HO2 : Hid (OwnT (fun k => w.heap.size ≤ k) (SlR IntR 1) 1 w2 w.heap.size 30 (.slice An len cap) (listsUpto xs k (numF f b) j)) := OwnT.below (SlR.good IntR.good) HO.out b02
          have HB2 : Hid (Below w.heap.size w w2) := bl_call HB.out b02 (Nat.le_refl _)
          have h02 := b02.size
          have hw1 : IntKind.i64.wrap (ki - 1) = k := by rw [IntKind.wrap_i64]; omega
          clear hO1 hO2 hg2 b01 b02 hOb HO
          go_wp2_with fail
          refine (IH.out w2 hI2 hb (fun y hy => by
            rcases List.mem_append.1 hy with hy | hy
            · exact HXS.out y hy
            · rw [List.mem_singleton] at hy; omega) (by omega)).mono ?_
          rw [fromN_snoc]
          rintro e w3 ⟨⟨A3, c3, rfl, hRR⟩, b23⟩
          obtain ⟨q, hq⟩ : ∃ q, (listsB (xs ++ [(xi : Int)]) k (numF (xi + 1) b)).length = q := ⟨_, rfl⟩
          have hq8 : q ≤ 256 := by rw [← hq]; exact listsB_len _ _ _ (by rw [numF_len]; omega)
          rw [hq] at hRR ⊢
          have HRR := Lib.hid (hRR.mono (SlR.good IntR.good) (T := fun k => wr.heap.size ≤ k) (fun k h => by rcases h with h | h; exact h; exact Nat.le_trans h02 h))
          have HO3 : Hid (OwnT (fun k => w.heap.size ≤ k) (SlR IntR 1) 1 w3 w.heap.size 30 (.slice An len cap) (listsUpto xs k (numF f b) j)) := OwnT.below (SlR.good IntR.good) HO2.out b23
          have HB3 : Hid (Below w.heap.size w w3) := bl_call HB2.out b23 (Nat.le_refl _)
          clear hRR b23 HO2 HB2 hI2
          go_wp2_with (at_builtin; refine wpList_append_allt _ rfl (.tmp 30) (.tmp 40) _ rfl (fun k => w.heap.size ≤ k) (SlR.good IntR.good) w.heap.size 30 i1 _ 24 Tryz.underlying73 hi1 hy0 hy1 hy2 rfl (.slice An len cap) (listsUpto xs k (numF f b) j) len Hlen.out rfl HO3.out A3 q c3 _ rfl HRR.out (fun k h1 h2 => ⟨Nat.le_trans hwr h1, fun e => by have := HOb.out k e; omega⟩) ?c1 ?c2 ?c3 ?_)
          case c1 => simp only [maxLen]; omega
          case c2 => omega
          case c3 => exact HB3.out.size
          intro A4 cap4 w4 hO4 hg4
          have HB4 : Hid (Below w.heap.size w w4) := bl_grown HB3.out HO3.out hg4 (Nat.le_refl _) (Nat.le_refl _)
          have HO4 : Hid (OwnT (fun k => w.heap.size ≤ k) (SlR IntR 1) 1 w4 w.heap.size 30 (.slice A4 (len + q) cap4) (listsUpto xs k (numF f b) (j + 1))) := by rw [Hid, HS.out]; exact hO4
          have HL4 : Hid ((listsUpto xs k (numF f b) (j + 1)).length = len + q) := by rw [Hid, HS.out, List.length_append, Hlen.out, hq]
          clear hO4 hg4
          go_wp2_with fail
          go_roundw
          case rel => exact ⟨j + 1, xi + 1, len + q, cap4, A4, by have := hxi.out; rw [Hid]; omega, by omega, by go_num, rfl, HB4.out, HO4.out, HL4.out⟩
          case measure => simp [intOf]; omega
        · have hki : ¬ (xi : Int) < b := by omega
          have hall : listsUpto xs k (numF f b) j = listsB xs (k + 1) (numF f b) := by rw [← lists_all, numF_len, show b - f = j by have := hxi.out; omega]
          have hO := HO.out
          rw [hall] at hO Hlen
          clear hall HO
          go_wp2_with fail
          go_ret
          refine ⟨⟨An, cap, by rw [HFN.out, Hlen.out]; rfl, ?_⟩, HB.out⟩
          rw [HFN.out, Hlen.out]
          exact OwnT.slice (SlR.good IntR.good) hO rfl (by simp only [maxLen]; omega) (fun _ h => .inr h) (fun _ h => .inr h)
end Go.Proofs.YtpdldmichpmgmaaGreat
