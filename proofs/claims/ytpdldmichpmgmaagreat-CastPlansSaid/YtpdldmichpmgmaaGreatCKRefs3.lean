/- Walks, layer 7, the reference: Lists, the ascending lists that begin so. -/
import Derived.Test.YtpdldmichpmgmaaGreatCCastHalls
import Derived.Test.YtpdldmichpmgmaaGreatCCastSomes
import Derived.Test.YtpdldmichpmgmaaGreatCKOut1
import Derived.Test.YtpdldmichpmgmaaGreatCKOuts
import Derived.Test.YtpdldmichpmgmaaGreatCKSeeks
import Derived.Test.YtpdldmichpmgmaaGreatCTRefsO
set_option linter.unusedVariables false
set_option linter.unusedSimpArgs false
set_option linter.all false
namespace Go.Proofs.YtpdldmichpmgmaaGreat
open Go.RowKit Go.Shelf

theorem infoI7L : (Tryz.prog.info? 3).map (fun i => (i.zero, i.size, i.bytes)) = some (some (.int .i64 0), 1, 8) := by kernel_rfl
theorem infoIs7 : (Tryz.prog.info? 30).map (fun i => (i.zero, i.size, i.bytes)) = some (some (.slice none 0 0), 1, 24) := by kernel_rfl
abbrev Rows7 := SliceOf (SlR IntR 1) 1
theorem Rows7.good : (SlR IntR 1).Good 1 := SlR.good IntR.good
/-- the numbers from one on below another one -/
def numF (f b : Nat) : List Int := (numbersL b).drop f
theorem numF_len (f b : Nat) : (numF f b).length = b - f := by unfold numF numbersL; simp
theorem numF_get {f b j : Nat} (h : f + j < b) : (numF f b)[j]? = some ((f + j : Nat) : Int) := by
  unfold numF numbersL
  rw [List.getElem?_drop, List.getElem?_map, List.getElem?_range h]; rfl
theorem numF_drop (f b j : Nat) : (numF f b).drop j = numF (f + j) b := by unfold numF; rw [List.drop_drop]
/-- where the next number begins -/
def fromN (xs : List Int) : Nat := match xs.getLast? with | some y => (y + 1).toNat | none => 0
theorem fromN_nil : fromN [] = 0 := rfl
theorem fromN_snoc (xs : List Int) (x : Nat) : fromN (xs ++ [(x : Int)]) = x + 1 := by unfold fromN; rw [List.getLast?_concat]; show ((x : Int) + 1).toNat = x + 1; omega
def IsLists7 (S : Foot) (w0 : Nat) (xs : List (List Int)) (e : Ending) (w' : World) : Prop := ∃ (A' : Option Addr) (c : Nat), e = .returned (.slice A' xs.length c) ∧ Rows7 (fun k => S k ∨ w0 ≤ k) w' A' xs.length xs

theorem wpList_of_run {P : Program} {ops : Array Oper} {rest : List Oper} {o : Oper} {a : Act} {Q : Exit → Act → World → Prop} {w w' : World} {s x : Operand} {t : TypeId} {v1 v2 v' : Value} (hgd : o.guard = none)
    (ho : o.op = .call { callee := .builtin .append, args := #[s, x], argTypes := #[t, t] }) (hs : a.eval s = v1) (hx : a.eval x = v2)
    (hrun : (Builtin.append_ #[t, t] o.type #[v1, v2]).run P w = .ok v' w') (h : wpList P ops Q rest (a.put o.dst v') w') : wpList P ops Q (o :: rest) a w :=
  wpList_plain hgd fun K hK => wp_append_of_run ho hs hx hrun (hK _ _ h)
theorem wpList_append_fresh {P : Program} {ops : Array Oper} {rest : List Oper} {o : Oper} {a : Act} {Q : Exit → Act → World → Prop} (w : World) (hgd : o.guard = none) (s x : Operand) (t : TypeId)
    (ho : o.op = .call { callee := .builtin .append, args := #[s, x], argTypes := #[t, t] })
    {α : Type} {R : Rd α} (g : R.Good 1) {S U : Foot} (base : Nat) (e : TypeId) (i : TypeInfo) (z : Value) (bytes : Nat) (ht : P.underlying t = some (.slice e)) (hi : P.info? e = some i) (hz : i.zero = some z)
    (hsize : i.size = 1) (hby : i.bytes = bytes) (hzs : z.cells.size = 1)
    (gb : Nat) (hs : a.eval s = .slice (some ⟨gb, 0, none⟩) 0 0) (hown : OwnL R 1 S w base e (.slice (some ⟨gb, 0, none⟩) 0 0) [])
    (A : Option Addr) (m c : Nat) (ys : List α) (hx : a.eval x = .slice A m c) (hR : SliceOf R 1 U w A m ys) (hU : ∀ y vs, R (fun k => U k ∧ k < w.heap.size) w y vs → R S w y vs)
    (h63 : m ≤ maxLen) (hbytes : m * bytes ≤ 140737488355328) (hbase : base ≤ w.heap.size) (hS : ¬ S w.heap.size)
    (h : ∀ A' cap' w', OwnL R 1 S w' base e (.slice A' m cap') ys → Below w.heap.size w w' → wpList P ops Q rest (a.put o.dst (.slice A' m cap')) w') : wpList P ops Q (o :: rest) a w := by
  obtain ⟨A', cap', w', hrun, h1, h2⟩ := run_append_fresh (P := P) w t o.type g base e i z bytes ht hi hz hsize hby hzs gb hown A m c ys hR hU h63 hbytes hbase hS
  exact wpList_of_run hgd ho hs hx hrun (h A' cap' w' h1 h2)
theorem wpList_append_allt {P : Program} {ops : Array Oper} {rest : List Oper} {o : Oper} {a : Act} {Q : Exit → Act → World → Prop} (w : World) (hgd : o.guard = none) (s x : Operand) (t : TypeId)
    (ho : o.op = .call { callee := .builtin .append, args := #[s, x], argTypes := #[t, t] })
    {α : Type} {R : Rd α} (T : Foot) (g : R.Good 1) {U : Foot} (base : Nat) (e : TypeId) (i : TypeInfo) (z : Value) (bytes : Nat) (ht : P.underlying t = some (.slice e)) (hi : P.info? e = some i) (hz : i.zero = some z)
    (hsize : i.size = 1) (hby : i.bytes = bytes) (hzs : z.cells.size = 1)
    (v : Value) (xs : List α) (n : Nat) (hn : xs.length = n) (hs : a.eval s = v) (hown : OwnT T R 1 w base e v xs)
    (A : Option Addr) (m c : Nat) (ys : List α) (hx : a.eval x = .slice A m c) (hR : SliceOf R 1 U w A m ys) (hU : ∀ k, U k → k < w.heap.size → T k ∧ v.ownBlock ≠ some k)
    (h63 : n + m ≤ maxLen) (hbytes : (n + m) * bytes ≤ 140737488355328) (hbase : base ≤ w.heap.size)
    (h : ∀ A' cap' w', OwnT T R 1 w' base e (.slice A' (n + m) cap') (xs ++ ys) → w.grownBy w' v.ownBlock → wpList P ops Q rest (a.put o.dst (.slice A' (n + m) cap')) w') : wpList P ops Q (o :: rest) a w := by
  obtain ⟨A', cap', w', hrun, h1, h2, _⟩ := run_append_allt (P := P) w t o.type T g base e i z bytes ht hi hz hsize hby hzs v xs n hn hown A m c ys hR hU h63 hbytes hbase
  exact wpList_of_run hgd ho hs hx hrun (h A' cap' w' h1 h2)

set_option maxRecDepth 100000 in
set_option maxHeartbeats 8000000 in
theorem rlists7_any : ∀ (k : Nat) {S : Foot} {A : Option Addr} {n c b : Nat} {xs : List Int} (w : World) (h : Ints S w A n xs) (hb : b ≤ 8) (hx : ∀ y ∈ xs, 0 ≤ y ∧ y < b) (hnk : n + k ≤ 16),
    Calls Tryz.prog 35 #[.slice A n c, .int .i64 k, .int .i64 b] w fun e w' => IsLists7 S w.heap.size (listsB xs k (numF (fromN xs) b)) e w' ∧ Below w.heap.size w w' := by
  obtain ⟨i0, hi0, hz0, hz1, hz2⟩ := info_parts infoI7L
  obtain ⟨i1, hi1, hy0, hy1, hy2⟩ := info_parts infoIs7
  intro k
  induction k with
  | zero =>
    intro S A n c b xs w h hb hx hnk
    go_enter Tryz.func35, Tryz.ntmps35
    go_wp2
    go_ret
    refine ⟨⟨some ⟨w.heap.size, 0, none⟩, 1, by simp [listsB, lexL], ?_⟩, bl_alloc (Below.refl _ _) _ (Nat.le_refl _)⟩
    have hL : listsB xs 0 (numF (fromN xs) b) = [xs] := by simp [listsB, lexL]
    rw [hL]
    refine ⟨rfl, show 1 ≤ maxLen by decide, fun j x hx => ?_⟩
    have hj : j = 0 := by have := of_getq' hx; simp at this; omega
    subst hj
    simp at hx; subst hx
    refine ⟨w.heap.size, 0, [.slice A n c], rfl, .inr (Nat.le_refl _), by simp, ⟨A, n, c, rfl, (h.keep IntR.good (Keeps.alloc _ _)).mono IntR.good fun _ h => .inl h⟩, fun j u hu => ?_⟩
    have hj : j = 0 := by have := of_getq' hu; simp at this; omega
    subst hj
    simp at hu; subst hu
    exact newc rfl rfl
  | succ k ih =>
    intro S A n c b xs w h hb hx hnk
    have IH : Hid _ := @ih
    have HXS := Lib.hid hx
    have Hnx := Lib.hid h.len
    have HA : Hid (∀ V, Below w.heap.size w V → Ints S V A n xs) := fun V hb => h.keep IntR.good (Keeps.below hb)
    clear ih hx
    obtain ⟨ki, hki0⟩ : ∃ ki : Int, ((k + 1 : Nat) : Int) = ki := ⟨_, rfl⟩
    rw [hki0]
    have hk0 : (ki == 0) = false := by simp; omega
    by_cases hn : n = 0
    · have hn0 : ¬ (0 : Int) < n := by omega
      have hn0d : decide ((0 : Int) < n) = false := decide_eq_false hn0
      obtain ⟨f, hf⟩ : ∃ f : Nat, f = 0 := ⟨0, rfl⟩
      have HF : Hid ((f : Int) = 0 ∧ f ≤ b) := ⟨by omega, by omega⟩
      have HFN : Hid (fromN xs = f) := by rw [Hid, List.eq_nil_of_length_eq_zero (Hnx.out.trans hn), hf]; rfl
      clear hf hn
      clear h
      go_enter Tryz.func35, Tryz.ntmps35
      go_wp2_with fail
      go_loopw [8, 9] (fun o i wr => ∃ (j xi len cap : Nat) (An : Option Addr), Hid (f + j = xi) ∧ xi ≤ b ∧ i = .int .i64 (xi : Int) ∧ o = .slice An len cap ∧ Hid (Below w.heap.size w wr) ∧ Hid (OwnT (fun k => w.heap.size ≤ k) (SlR IntR 1) 1 wr w.heap.size 30 (.slice An len cap) (listsUpto xs k (numF f b) j)) ∧ Hid ((listsUpto xs k (numF f b) j).length = len)) (fun _ i _ => b - (intOf i).toNat)
      case atStart => exact ⟨0, f, 0, 0, none, rfl, by have := HF.out; omega, congrArg (Value.int .i64) (by have := HF.out; omega), rfl, Below.refl _ _, OwnT.nil _ _ _ _ _ _, rfl⟩
      case round =>
        obtain ⟨j, xi, len, cap, An, hxi, hj, rfl, rfl, HB, HO, Hlen⟩ := hrel
        have hlen8 : len ≤ 8 * 256 := by rw [← Hlen.out]; exact Nat.le_trans (listsUpto_len _ _ _ (by rw [numF_len]; omega) _) (Nat.mul_le_mul_right _ (by have := hxi.out; omega))
        by_cases hlt : xi < b
        · have HX := Lib.hid (numF_get (f := f) (j := j) (by rw [hxi.out]; exact hlt))
          have HS := Lib.hid (listsUpto_succ (b := xs) (k := k) HX.out)
          have HFD : Hid ((numF f b).drop (j + 1) = numF (f + j + 1) b) := by rw [Hid, numF_drop]; rfl
          rw [HFD.out] at HS
          rw [hxi.out] at HS
          have hki : (xi : Int) < b := by omega
          have hwr := HB.out.size
          go_wp2_with (at_builtin; refine wpList_append_fresh _ rfl (.tmp 31) (.tmp 32) _ rfl IntR.good (S := fun _ => False) wr.heap.size 3 i0 _ 8 Tryz.underlying30 hi0 hz0 hz1 hz2 rfl wr.heap.size rfl (OwnL.lit wr _ _ (Nat.le_refl _) rfl) A n c xs rfl (HA.out _ (bl_alloc HB.out _ (Nat.le_refl _))) (fun _ _ h => h) ?c1 ?c2 ?c3 (fun h => h) ?_)
          case c1 => simp only [maxLen]; omega
          case c2 => omega
          case c3 => simp
          intro A1 cap1 w1 hO1 hb1
          have b01 : Below wr.heap.size wr w1 := bl_call (bl_alloc (Below.refl _ _) _ (Nat.le_refl _)) (show Below (wr.alloc _).heap.size _ w1 by simpa using hb1) (by simp)
          clear hb1
          go_wp2_with (at_builtin; refine wpList_append_n _ rfl (.tmp 33) (.tmp 35) _ rfl IntR.good (S := fun _ => False) wr.heap.size 3 i0 _ 8 Tryz.underlying30 hi0 hz0 hz1 hz2 rfl (by decide) (.slice A1 n cap1) xs (xi : Int) n Hnx.out rfl (hO1.alloc IntR.good _) ⟨w1.heap.size, 0, none⟩ 1 [.int .i64 xi] rfl rfl (news_new rfl rfl) ?c1 ?c2 ?c3 (fun h => h) ?_)
          case c1 => simp only [maxLen]; omega
          case c2 => omega
          case c3 => have := b01.size; simp; omega
          intro A2 cap2 w2 hO2 hg2 _
          have b02 : Below wr.heap.size wr w2 := bl_grown (bl_alloc b01 _ (Nat.le_refl _)) (hO1.alloc IntR.good _) hg2 (Nat.le_refl _) (Nat.le_refl _)
          have hI2 : Ints (fun k => wr.heap.size ≤ k) w2 (some ⟨A2, 0, none⟩) (n + 1) (xs ++ [(xi : Int)]) := hO2.slice IntR.good rfl (by simp only [maxLen]; omega) (fun _ h => h.elim) (fun _ h _ => h)
          have hOb : ∀ g, (Value.slice An len cap).ownBlock = some g → g < wr.heap.size := fun g hg => (OwnL.block HO.out g hg).2
          have HOb := Lib.hid hOb
          have HO2 : Hid (OwnT (fun k => w.heap.size ≤ k) (SlR IntR 1) 1 w2 w.heap.size 30 (.slice An len cap) (listsUpto xs k (numF f b) j)) := OwnT.below (SlR.good IntR.good) HO.out b02
          have HB2 : Hid (Below w.heap.size w w2) := bl_call HB.out b02 (Nat.le_refl _)
          have h02 := b02.size
          have hw1 : IntKind.i64.wrap (ki - 1) = k := by rw [IntKind.wrap_i64]; omega
          clear hO1 hO2 hg2 b01 b02 hOb HO
          go_wp2_with fail
          refine (IH.out w2 hI2 hb (fun y hy => by
            rcases List.mem_append.1 hy with hy | hy
            · exact HXS.out y hy
            · rw [List.mem_singleton] at hy; omega) (by omega)).mono ?_
          rw [fromN_snoc]
          rintro e w3 ⟨⟨A3, c3, rfl, hRR⟩, b23⟩
          obtain ⟨q, hq⟩ : ∃ q, (listsB (xs ++ [(xi : Int)]) k (numF (xi + 1) b)).length = q := ⟨_, rfl⟩
          have hq8 : q ≤ 256 := by rw [← hq]; exact listsB_len _ _ _ (by rw [numF_len]; omega)
          rw [hq] at hRR ⊢
          have HRR := Lib.hid (hRR.mono (SlR.good IntR.good) (T := fun k => wr.heap.size ≤ k) (fun k h => by rcases h with h | h; exact h; exact Nat.le_trans h02 h))
          have HO3 : Hid (OwnT (fun k => w.heap.size ≤ k) (SlR IntR 1) 1 w3 w.heap.size 30 (.slice An len cap) (listsUpto xs k (numF f b) j)) := OwnT.below (SlR.good IntR.good) HO2.out b23
          have HB3 : Hid (Below w.heap.size w w3) := bl_call HB2.out b23 (Nat.le_refl _)
          clear hRR b23 HO2 HB2 hI2
          go_wp2_with (at_builtin; refine wpList_append_allt _ rfl (.tmp 30) (.tmp 40) _ rfl (fun k => w.heap.size ≤ k) (SlR.good IntR.good) w.heap.size 30 i1 _ 24 Tryz.underlying73 hi1 hy0 hy1 hy2 rfl (.slice An len cap) (listsUpto xs k (numF f b) j) len Hlen.out rfl HO3.out A3 q c3 _ rfl HRR.out (fun k h1 h2 => ⟨Nat.le_trans hwr h1, fun e => by have := HOb.out k e; omega⟩) ?c1 ?c2 ?c3 ?_)
          case c1 => simp only [maxLen]; omega
          case c2 => omega
          case c3 => exact HB3.out.size
          intro A4 cap4 w4 hO4 hg4
          have HB4 : Hid (Below w.heap.size w w4) := bl_grown HB3.out HO3.out hg4 (Nat.le_refl _) (Nat.le_refl _)
          have HO4 : Hid (OwnT (fun k => w.heap.size ≤ k) (SlR IntR 1) 1 w4 w.heap.size 30 (.slice A4 (len + q) cap4) (listsUpto xs k (numF f b) (j + 1))) := by rw [Hid, HS.out]; exact hO4
          have HL4 : Hid ((listsUpto xs k (numF f b) (j + 1)).length = len + q) := by rw [Hid, HS.out, List.length_append, Hlen.out, hq]
          clear hO4 hg4
          go_wp2_with fail
          go_roundw
          case rel => exact ⟨j + 1, xi + 1, len + q, cap4, A4, by have := hxi.out; rw [Hid]; omega, by omega, by go_num, rfl, HB4.out, HO4.out, HL4.out⟩
          case measure => simp [intOf]; omega
        · have hki : ¬ (xi : Int) < b := by omega
          have hall : listsUpto xs k (numF f b) j = listsB xs (k + 1) (numF f b) := by rw [← lists_all, numF_len, show b - f = j by have := hxi.out; omega]
          have hO := HO.out
          rw [hall] at hO Hlen
          clear hall HO
          go_wp2_with fail
          go_ret
          refine ⟨⟨An, cap, by rw [HFN.out, Hlen.out]; rfl, ?_⟩, HB.out⟩
          rw [HFN.out, Hlen.out]
          exact OwnT.slice (SlR.good IntR.good) hO rfl (by simp only [maxLen]; omega) (fun _ h => .inr h) (fun _ h => .inr h)
    · have hnp : (0 : Int) < n := by omega
      have hnp0 : 0 < n := by omega
      obtain ⟨bb, ob, y, rfl, hyc, Hy⟩ := Ints.get h (show n - 1 < n by omega)
      have hyb := HXS.out y (List.mem_of_getElem? Hy.out)
      obtain ⟨f, hf⟩ : ∃ f : Nat, (f : Int) = y + 1 := ⟨(y + 1).toNat, by omega⟩
      have HFN : Hid (fromN xs = f) := by
        rw [Hid, fromN, List.getLast?_eq_getElem?, Hnx.out, Hy.out]
        dsimp only
        omega
      have HF : Hid ((f : Int) = y + 1 ∧ f ≤ b) := ⟨hf, by omega⟩
      have hw0 : IntKind.i64.wrap ((n : Int) - 1) = ((n - 1 : Nat) : Int) := by rw [IntKind.wrap_i64]; omega
      have hw2 : IntKind.i64.wrap (y + 1) = y + 1 := by rw [IntKind.wrap_i64]; omega
      have hn1 : n - 1 < n := by omega
      have hn1i : ((n - 1 : Nat) : Int) < n := by omega
      obtain ⟨n1, hn1e⟩ : ∃ n1, n - 1 = n1 := ⟨_, rfl⟩
      rw [hn1e] at hw0 hn1 hn1i hyc
      clear h hf hn1e Hy hyb
      go_enter Tryz.func35, Tryz.ntmps35
      go_wp2_with fail
      go_loopw [8, 9] (fun o i wr => ∃ (j xi len cap : Nat) (An : Option Addr), Hid (f + j = xi) ∧ xi ≤ b ∧ i = .int .i64 (xi : Int) ∧ o = .slice An len cap ∧ Hid (Below w.heap.size w wr) ∧ Hid (OwnT (fun k => w.heap.size ≤ k) (SlR IntR 1) 1 wr w.heap.size 30 (.slice An len cap) (listsUpto xs k (numF f b) j)) ∧ Hid ((listsUpto xs k (numF f b) j).length = len)) (fun _ i _ => b - (intOf i).toNat)
      case atStart => exact ⟨0, f, 0, 0, none, rfl, by have := HF.out; omega, congrArg (Value.int .i64) (by have := HF.out; omega), rfl, Below.refl _ _, OwnT.nil _ _ _ _ _ _, rfl⟩
      case round =>
        obtain ⟨j, xi, len, cap, An, hxi, hj, rfl, rfl, HB, HO, Hlen⟩ := hrel
        have hlen8 : len ≤ 8 * 256 := by rw [← Hlen.out]; exact Nat.le_trans (listsUpto_len _ _ _ (by rw [numF_len]; omega) _) (Nat.mul_le_mul_right _ (by have := hxi.out; omega))
        by_cases hlt : xi < b
        · have HX := Lib.hid (numF_get (f := f) (j := j) (by rw [hxi.out]; exact hlt))
          have HS := Lib.hid (listsUpto_succ (b := xs) (k := k) HX.out)
          have HFD : Hid ((numF f b).drop (j + 1) = numF (f + j + 1) b) := by rw [Hid, numF_drop]; rfl
          rw [HFD.out] at HS
          rw [hxi.out] at HS
          have hki : (xi : Int) < b := by omega
          have hwr := HB.out.size
          go_wp2_with (at_builtin; refine wpList_append_fresh _ rfl (.tmp 31) (.tmp 32) _ rfl IntR.good (S := fun _ => False) wr.heap.size 3 i0 _ 8 Tryz.underlying30 hi0 hz0 hz1 hz2 rfl wr.heap.size rfl (OwnL.lit wr _ _ (Nat.le_refl _) rfl) (some ⟨bb, ob, none⟩) n c xs rfl (HA.out _ (bl_alloc HB.out _ (Nat.le_refl _))) (fun _ _ h => h) ?c1 ?c2 ?c3 (fun h => h) ?_)
          case c1 => simp only [maxLen]; omega
          case c2 => omega
          case c3 => simp
          intro A1 cap1 w1 hO1 hb1
          have b01 : Below wr.heap.size wr w1 := bl_call (bl_alloc (Below.refl _ _) _ (Nat.le_refl _)) (show Below (wr.alloc _).heap.size _ w1 by simpa using hb1) (by simp)
          clear hb1
          go_wp2_with (at_builtin; refine wpList_append_n _ rfl (.tmp 33) (.tmp 35) _ rfl IntR.good (S := fun _ => False) wr.heap.size 3 i0 _ 8 Tryz.underlying30 hi0 hz0 hz1 hz2 rfl (by decide) (.slice A1 n cap1) xs (xi : Int) n Hnx.out rfl (hO1.alloc IntR.good _) ⟨w1.heap.size, 0, none⟩ 1 [.int .i64 xi] rfl rfl (news_new rfl rfl) ?c1 ?c2 ?c3 (fun h => h) ?_)
          case c1 => simp only [maxLen]; omega
          case c2 => omega
          case c3 => have := b01.size; simp; omega
          intro A2 cap2 w2 hO2 hg2 _
          have b02 : Below wr.heap.size wr w2 := bl_grown (bl_alloc b01 _ (Nat.le_refl _)) (hO1.alloc IntR.good _) hg2 (Nat.le_refl _) (Nat.le_refl _)
          have hI2 : Ints (fun k => wr.heap.size ≤ k) w2 (some ⟨A2, 0, none⟩) (n + 1) (xs ++ [(xi : Int)]) := hO2.slice IntR.good rfl (by simp only [maxLen]; omega) (fun _ h => h.elim) (fun _ h _ => h)
          have hOb : ∀ g, (Value.slice An len cap).ownBlock = some g → g < wr.heap.size := fun g hg => (OwnL.block HO.out g hg).2
          have HOb := Lib.hid hOb
          have HO2 : Hid (OwnT (fun k => w.heap.size ≤ k) (SlR IntR 1) 1 w2 w.heap.size 30 (.slice An len cap) (listsUpto xs k (numF f b) j)) := OwnT.below (SlR.good IntR.good) HO.out b02
          have HB2 : Hid (Below w.heap.size w w2) := bl_call HB.out b02 (Nat.le_refl _)
          have h02 := b02.size
          have hw1 : IntKind.i64.wrap (ki - 1) = k := by rw [IntKind.wrap_i64]; omega
          clear hO1 hO2 hg2 b01 b02 hOb HO
          go_wp2_with fail
          refine (IH.out w2 hI2 hb (fun y hy => by
            rcases List.mem_append.1 hy with hy | hy
            · exact HXS.out y hy
            · rw [List.mem_singleton] at hy; omega) (by omega)).mono ?_
          rw [fromN_snoc]
          rintro e w3 ⟨⟨A3, c3, rfl, hRR⟩, b23⟩
          obtain ⟨q, hq⟩ : ∃ q, (listsB (xs ++ [(xi : Int)]) k (numF (xi + 1) b)).length = q := ⟨_, rfl⟩
          have hq8 : q ≤ 256 := by rw [← hq]; exact listsB_len _ _ _ (by rw [numF_len]; omega)
          rw [hq] at hRR ⊢
          have HRR := Lib.hid (hRR.mono (SlR.good IntR.good) (T := fun k => wr.heap.size ≤ k) (fun k h => by rcases h with h | h; exact h; exact Nat.le_trans h02 h))
          have HO3 : Hid (OwnT (fun k => w.heap.size ≤ k) (SlR IntR 1) 1 w3 w.heap.size 30 (.slice An len cap) (listsUpto xs k (numF f b) j)) := OwnT.below (SlR.good IntR.good) HO2.out b23
          have HB3 : Hid (Below w.heap.size w w3) := bl_call HB2.out b23 (Nat.le_refl _)
          clear hRR b23 HO2 HB2 hI2
          go_wp2_with (at_builtin; refine wpList_append_allt _ rfl (.tmp 30) (.tmp 40) _ rfl (fun k => w.heap.size ≤ k) (SlR.good IntR.good) w.heap.size 30 i1 _ 24 Tryz.underlying73 hi1 hy0 hy1 hy2 rfl (.slice An len cap) (listsUpto xs k (numF f b) j) len Hlen.out rfl HO3.out A3 q c3 _ rfl HRR.out (fun k h1 h2 => ⟨Nat.le_trans hwr h1, fun e => by have := HOb.out k e; omega⟩) ?c1 ?c2 ?c3 ?_)
          case c1 => simp only [maxLen]; omega
          case c2 => omega
          case c3 => exact HB3.out.size
          intro A4 cap4 w4 hO4 hg4
          have HB4 : Hid (Below w.heap.size w w4) := bl_grown HB3.out HO3.out hg4 (Nat.le_refl _) (Nat.le_refl _)
          have HO4 : Hid (OwnT (fun k => w.heap.size ≤ k) (SlR IntR 1) 1 w4 w.heap.size 30 (.slice A4 (len + q) cap4) (listsUpto xs k (numF f b) (j + 1))) := by rw [Hid, HS.out]; exact hO4
          have HL4 : Hid ((listsUpto xs k (numF f b) (j + 1)).length = len + q) := by rw [Hid, HS.out, List.length_append, Hlen.out, hq]
          clear hO4 hg4
          go_wp2_with fail
          go_roundw
          case rel => exact ⟨j + 1, xi + 1, len + q, cap4, A4, by have := hxi.out; rw [Hid]; omega, by omega, by go_num, rfl, HB4.out, HO4.out, HL4.out⟩
          case measure => simp [intOf]; omega
        · have hki : ¬ (xi : Int) < b := by omega
          have hall : listsUpto xs k (numF f b) j = listsB xs (k + 1) (numF f b) := by rw [← lists_all, numF_len, show b - f = j by have := hxi.out; omega]
          have hO := HO.out
          rw [hall] at hO Hlen
          clear hall HO
          go_wp2_with fail
          go_ret
          refine ⟨⟨An, cap, by rw [HFN.out, Hlen.out]; rfl, ?_⟩, HB.out⟩
          rw [HFN.out, Hlen.out]
          exact OwnT.slice (SlR.good IntR.good) hO rfl (by simp only [maxLen]; omega) (fun _ h => .inr h) (fun _ h => .inr h)
end Go.Proofs.YtpdldmichpmgmaaGreat

namespace Go.Proofs.YtpdldmichpmgmaaGreat
open Go.RowKit Go.Shelf

/-- the casts of a list behind those that are there, each once -/
def addL7 (s : List Pl) (l : List Pl) : List Pl := l.foldl (fun some a => if a ∈ some then some else some ++ [a]) s
theorem addL7_snoc {s l : List Pl} {k : Nat} {a : Pl} (h : l[k]? = some a) : addL7 s (l.take (k + 1)) = if a ∈ addL7 s (l.take k) then addL7 s (l.take k) else addL7 s (l.take k) ++ [a] := by
  unfold addL7
  rw [take_snoc_get h, List.foldl_append]
  rfl
theorem addL7_len (s : List Pl) : ∀ l : List Pl, (addL7 s l).length ≤ s.length + l.length := by
  intro l
  induction l generalizing s with
  | nil => exact Nat.le_refl _
  | cons a l ih =>
    have h := ih (if a ∈ s then s else s ++ [a])
    have e : addL7 s (a :: l) = addL7 (if a ∈ s then s else s ++ [a]) l := rfl
    rw [e, List.length_cons]
    by_cases ha : a ∈ s
    · rw [if_pos ha] at h ⊢; omega
    · rw [if_neg ha] at h ⊢; rw [List.length_append, List.length_singleton] at h; omega
theorem unionL_snoc {all : List (List Pl)} {ps : List Int} {r : Nat} {x : Int} (h : ps[r]? = some x) : unionL all (ps.take (r + 1)) = addL7 (unionL all (ps.take r)) (all.getD x.toNat []) := by
  unfold unionL
  rw [take_snoc_get h, List.foldl_append]
  rfl
theorem unionL_len {all : List (List Pl)} {ps : List Int} (hl : ∀ l ∈ all, l.length ≤ 40) : ∀ r, (unionL all (ps.take r)).length ≤ r * 40
  | 0 => by simp [unionL]
  | r + 1 => by
    by_cases h : r < ps.length
    · rw [unionL_snoc (List.getElem?_eq_getElem h)]
      have h1 := unionL_len (ps := ps) hl r
      have h2 := addL7_len (unionL all (ps.take r)) (all.getD (ps[r]).toNat [])
      have h3 : (all.getD (ps[r]).toNat []).length ≤ 40 := by
        rw [List.getD_eq_getElem?_getD]
        cases hx : all[(ps[r]).toNat]? with
        | none => simp
        | some x => exact hl x (List.mem_of_getElem? hx)
      omega
    · have e : ps.take (r + 1) = ps.take r := by rw [List.take_of_length_le (by omega), List.take_of_length_le (by omega)]
      rw [e]
      have := unionL_len (ps := ps) hl r
      omega

set_option maxHeartbeats 8000000 in
set_option maxRecDepth 100000 in
theorem rlack7_any {S T : Foot} {A B : Option Addr} {n c m d : Nat} {all : List (List Pl)} {ps : List Int} (w : World) (h : Ords S w A n all) (g : Ints T w B m ps) (hb : ∀ i ∈ ps, 0 ≤ i ∧ i < n) (hm : m ≤ 8) (hl : ∀ l ∈ all, l.length ≤ 40) :
    Calls Tryz.prog 29 #[.slice A n c, .slice B m d] w fun e w' => e = .returned (.bool (lackB all ps)) ∧ Below w.heap.size w w' := by
  obtain ⟨i0, hi0, hz0, hz1, hz2⟩ := info_parts infoPl7
  have Hm := Lib.hid g.len
  have Hn := Lib.hid h.len
  have hnl := h.le
  have HA : Hid (∀ V, Below w.heap.size w V → Ords S V A n all) := fun V hb => h.keep OrdR.good (Keeps.below hb)
  have HP : Hid (∀ V, Below w.heap.size w V → Ints T V B m ps) := fun V hb => g.keep IntR.good (Keeps.below hb)
  have HB := Lib.hid hb
  have HL := Lib.hid hl
  have HUL : Hid (∀ r, (unionL all (ps.take r)).length ≤ r * 40) := fun r => unionL_len hl r
  clear h g hb hl
  go_enter Tryz.func29, Tryz.ntmps29
  go_wp2_with fail
  go_loopw [5, 6] (fun o i wr => ∃ (r len cap : Nat) (An : Option Addr), r ≤ m ∧ i = .int .i64 r ∧ o = .slice An len cap ∧ Hid (Below w.heap.size w wr) ∧ Hid (OwnL PlR 2 (fun _ => False) wr w.heap.size 54 (.slice An len cap) (unionL all (ps.take r))) ∧ Hid ((unionL all (ps.take r)).length = len)) (fun _ i _ => m - (intOf i).toNat)
  case atStart => exact ⟨0, 0, 0, none, Nat.zero_le _, rfl, rfl, Below.refl _ _, by simp only [List.take_zero]; exact OwnL.nil _ _ _ _ _ _, rfl⟩
  case round =>
    obtain ⟨r, len, cap, An, hr, rfl, rfl, HBr, HO, Hlen⟩ := hrel
    by_cases hlt : r < m
    · have hri : (r : Int) < m := by omega
      obtain ⟨bb, ob, x, rfl, hxc, Hx⟩ := Ints.get (HP.out wr HBr.out) hlt
      have hx := HB.out x (List.mem_of_getElem? Hx.out)
      obtain ⟨xi, rfl⟩ : ∃ xi : Nat, x = xi := ⟨x.toNat, by omega⟩
      have hxn : xi < n := by omega
      have hxin : (xi : Int) < n := by omega
      obtain ⟨bA, oA, A1, n1, c1, L, rfl, _, hLc0, hL, HxL⟩ := Ords.get (HA.out w (Below.refl _ _)) hxn
      have hLc := getc HBr.out hLc0
      have HL1 : Hid (L.length = n1) := hL.len
      have hn40 : n1 ≤ 40 := by rw [← HL1.out]; exact HL.out L (List.mem_of_getElem? HxL.out)
      have HU : Hid (unionL all (ps.take (r + 1)) = addL7 (unionL all (ps.take r)) L) := by
        rw [Hid, unionL_snoc Hx.out, Int.toNat_natCast, getD_of HxL.out]
      obtain ⟨U, hU⟩ : ∃ U, unionL all (ps.take r) = U := ⟨_, rfl⟩
      have hlen : len ≤ 280 := by have := HUL.out r; rw [Hlen.out] at this; omega
      rw [hU] at HO Hlen HU
      obtain ⟨W1, hW1⟩ : ∃ V, V = wr := ⟨_, rfl⟩
      subst hW1
      have HLs : Hid (∀ V, Below w.heap.size w V → Pls S V A1 n1 L) := fun V hb => hL.keep PlR.good (Keeps.below hb)
      clear hU hL hLc0
      go_wp2_with fail
      clear hxc hLc
      go_loopw [5, 8] (fun o i wr => ∃ (k len cap : Nat) (An : Option Addr), k ≤ n1 ∧ i = .int .i64 k ∧ o = .slice An len cap ∧ Hid (Below w.heap.size w wr) ∧ Hid (OwnL PlR 2 (fun _ => False) wr w.heap.size 54 (.slice An len cap) (addL7 U (L.take k))) ∧ Hid ((addL7 U (L.take k)).length = len) ∧ len ≤ 280 + k) (fun _ i _ => n1 - (intOf i).toNat)
      case atStart => exact ⟨0, len, cap, An, Nat.zero_le _, rfl, rfl, HBr.out, HO.out, Hlen.out, by omega⟩
      case round =>
        clear HBr HO Hlen
        obtain ⟨k, len, cap, An, hk, rfl, rfl, HBk, HO, Hlen, hlen2⟩ := hrel
        by_cases hlt2 : k < n1
        · have hki : (k : Int) < n1 := by omega
          obtain ⟨b2, o2, ya, yb, rfl, hb2, d0, d1, Hy⟩ := Pls.get (HLs.out wr HBk.out) hlt2
          have HSN := Lib.hid (addL7_snoc (s := U) Hy.out)
          obtain ⟨K, hK⟩ : ∃ K, addL7 U (L.take k) = K := ⟨_, rfl⟩
          rw [hK] at HO Hlen HSN
          clear hK
          have hPl : Pls (fun _ => True) wr An len K := HO.out.slice PlR.good rfl (by simp only [maxLen]; omega) (fun _ _ => trivial) (fun _ _ _ => trivial)
          go_wp2_with fail
          refine (has7_any (ya, yb) wr hPl).mono ?_
          rintro e V1 ⟨rfl, c1⟩
          have HB1 : Hid (Below w.heap.size w V1) := bl_call HBk.out c1 (Nat.le_refl _)
          have HO1 : Hid (OwnL PlR 2 (fun _ => False) V1 w.heap.size 54 (.slice An len cap) K) := HO.out.below PlR.good c1
          have e0 := getc c1 d0
          have e1 := getc c1 d1
          clear hPl c1 d0 d1 HO HBk
          by_cases hin : (ya, yb) ∈ K
          · have HS2 : Hid (addL7 U (L.take (k + 1)) = K) := by rw [Hid, HSN.out, if_pos hin]
            rw [decide_eq_true hin]
            go_wp2_with fail
            go_roundw
            case rel => exact ⟨k + 1, len, cap, An, by omega, by go_num, rfl, HB1.out, by rw [HS2.out]; exact HO1.out, by rw [HS2.out]; exact Hlen.out, by omega⟩
            case measure => simp [intOf]; omega
          · have HS2 : Hid (addL7 U (L.take (k + 1)) = K ++ [(ya, yb)]) := by rw [Hid, HSN.out, if_neg hin]
            rw [decide_eq_false hin]
            go_wp2_with (at_builtin; refine wpList_append_n _ rfl (.tmp 35) (.tmp 40) _ rfl PlR.good w.heap.size 54 i0 _ 16 Tryz.underlying29 hi0 hz0 hz1 hz2 rfl (by omega) _ K (ya, yb) len Hlen.out rfl (HO1.out.alloc PlR.good _) ⟨V1.heap.size, 0, none⟩ 1 [.int .i64 ya, .int .i64 yb] rfl rfl (news_new rfl (by simp)) ?c1 ?c2 ?c3 (fun h => h) ?_)
            case c1 => simp only [maxLen]; omega
            case c2 => omega
            case c3 => have := HB1.out.size; simp; omega
            intro A' cap' w2 hown2 hg2 hat2
            have hB2 : Below w.heap.size w w2 := bl_grown (bl_alloc HB1.out _ (Nat.le_refl _)) (HO1.out.alloc PlR.good _) hg2 (Nat.le_refl _) (Nat.le_refl _)
            have HOW := Lib.hid hown2
            clear hg2 hat2 hown2 e0 e1
            go_wp2
            go_roundw
            case rel => exact ⟨k + 1, len + 1, cap', _, by omega, by go_num, rfl, hB2, by rw [HS2.out]; exact HOW.out, by rw [Hid, HS2.out, List.length_append, Hlen.out]; rfl, by omega⟩
            case measure => simp [intOf]; omega
        · obtain rfl : k = n1 := by omega
          have hki : ¬ (k : Int) < k := by omega
          have HFU : Hid (addL7 U (L.take k) = unionL all (ps.take (r + 1))) := by rw [Hid, HU.out, List.take_of_length_le (by rw [HL1.out]; exact Nat.le_refl _)]
          rw [HFU.out] at HO Hlen
          go_wp2_with fail
          go_roundw
          case rel => exact ⟨r + 1, len, cap, An, by omega, by go_num, rfl, HBk.out, HO.out, Hlen.out⟩
          case measure => simp [intOf]; omega
    · obtain rfl : r = m := by omega
      have hri : ¬ (r : Int) < r := by omega
      have hfull : ps.take r = ps := List.take_of_length_le (by rw [Hm.out]; exact Nat.le_refl _)
      rw [hfull] at Hlen
      clear HO
      go_wp2_with fail
      go_ret
      refine ⟨ret_bool ?_, HBr.out⟩
      rw [lackB_def, Hlen.out, Hm.out]
      first | done | simp
end Go.Proofs.YtpdldmichpmgmaaGreat

namespace Go.Proofs.YtpdldmichpmgmaaGreat
open Go.RowKit Go.Shelf

theorem Rows7.get {S : Foot} {w : World} {A : Option Addr} {n k : Nat} {xs : List (List Int)} (h : Rows7 S w A n xs) (hk : k < n) :
    ∃ (b off : Nat) (A1 : Option Addr) (n1 c1 : Nat) (x : List Int), A = some ⟨b, off, none⟩ ∧ b < w.heap.size ∧ w.cell? ⟨b, off + k, none⟩ = some (.slice A1 n1 c1) ∧ Ints S w A1 n1 x ∧ Hid (xs[k]? = some x) := by
  have hlt : k < xs.length := by rw [h.1]; exact hk
  obtain ⟨b, off, vs, hA, _, hb, ⟨A1, n1, c1, rfl, hs⟩, hc⟩ := h.2.2 k xs[k] (List.getElem?_eq_getElem hlt)
  exact ⟨b, off, A1, n1, c1, xs[k], hA, hb, by simpa using hc 0 _ rfl, hs, List.getElem?_eq_getElem hlt⟩
/-- what is first in a list that is read so far -/
theorem find_first {α : Type} {p : α → Bool} {pre post : List α} {t : α} (h : ∀ x ∈ pre, p x = false) (ht : p t = true) : (pre ++ t :: post).find? p = some t := by
  rw [List.find?_append, List.find?_eq_none.2 (fun x hx => by rw [h x hx]; decide)]
  simp [ht]
/-- the lists of Fewest, up to one -/
def fewU (n k : Nat) : List (List Int) := (List.range k).flatMap fun j => lexL (j + 1) (numbersL n)
theorem fewU_succ (n k : Nat) : fewU n (k + 1) = fewU n k ++ lexL (k + 1) (numbersL n) := by unfold fewU; rw [List.range_succ, List.flatMap_append, List.flatMap_singleton]
theorem fewU_split (n : Nat) {k m : Nat} (h : k < m) : ∃ post, fewU n m = fewU n k ++ lexL (k + 1) (numbersL n) ++ post := by
  induction m with
  | zero => omega
  | succ m ih =>
    rw [fewU_succ]
    by_cases e : k = m
    · subst e; exact ⟨[], by simp⟩
    · obtain ⟨post, hp⟩ := ih (by omega)
      exact ⟨post ++ lexL (m + 1) (numbersL n), by rw [hp, List.append_assoc]⟩
theorem fewest_def (all : List (List Pl)) : fewestL all = (fewU all.length all.length).find? (lackB all) := rfl
theorem few_found {p : List Int → Bool} {n k j : Nat} {t : List Int} (hk : k < n) (h1 : ∀ x ∈ fewU n k, p x = false) (h2 : ∀ x ∈ (lexL (k + 1) (numbersL n)).take j, p x = false) (ht : (lexL (k + 1) (numbersL n))[j]? = some t) (hp : p t = true) : (fewU n n).find? p = some t := by
  obtain ⟨post, e⟩ := fewU_split n hk
  obtain ⟨hj, hj2⟩ := List.getElem?_eq_some_iff.1 ht
  have e2 : lexL (k + 1) (numbersL n) = (lexL (k + 1) (numbersL n)).take j ++ t :: (lexL (k + 1) (numbersL n)).drop (j + 1) := by
    rw [← hj2, List.getElem_cons_drop, List.take_append_drop]
  rw [e, e2, List.append_assoc, List.append_assoc, List.cons_append, ← List.append_assoc]
  refine find_first (fun x hx => ?_) hp
  rcases List.mem_append.1 hx with hx | hx
  · exact h1 x hx
  · exact h2 x hx
theorem listsB_nil (k : Nat) (of : List Int) : listsB [] k of = lexL k of := by unfold listsB; simp
theorem numF_zero (b : Nat) : numF 0 b = numbersL b := rfl
theorem lex_bd {n k : Nat} {t : List Int} (h : t ∈ lexL k (numbersL n)) : t.length = k ∧ ∀ i ∈ t, 0 ≤ i ∧ i < n := ⟨(lex_set h).2, (lex_set h).1.2⟩
/-- the fewest pieces that lack casts, and whether some do, as an answer -/
def FewT (r : Option (List Int)) (e : Ending) (w' : World) : Prop := ∃ D c, e = .returned (.tuple #[.slice D (r.getD []).length c, .bool r.isSome]) ∧ Ints (fun _ => True) w' D (r.getD []).length (r.getD [])

set_option maxHeartbeats 8000000 in
set_option maxRecDepth 100000 in
theorem rfewest7_any {S : Foot} {A : Option Addr} {n c : Nat} {all : List (List Pl)} (w : World) (h : Ords S w A n all) (hn : n ≤ 8) (hl : ∀ l ∈ all, l.length ≤ 40) :
    Calls Tryz.prog 26 #[.slice A n c] w fun e w' => FewT (fewestL all) e w' ∧ Below w.heap.size w w' := by
  have Hn := Lib.hid h.len
  have hnl := h.le
  have HA : Hid (∀ V, Below w.heap.size w V → Ords S V A n all) := fun V hb => h.keep OrdR.good (Keeps.below hb)
  have HL := Lib.hid hl
  have HFD : Hid (fewestL all = (fewU n n).find? (lackB all)) := by rw [Hid, fewest_def, Hn.out]
  clear h hl
  go_enter Tryz.func26, Tryz.ntmps26
  go_wp2_with fail
  go_loopw [4] (fun i wr => ∃ k : Nat, k ≤ n ∧ i = .int .i64 ((k + 1 : Nat) : Int) ∧ Hid (Below w.heap.size w wr) ∧ Hid (∀ x ∈ fewU n k, lackB all x = false)) (fun i _ => n + 1 - (intOf i).toNat)
  case atStart => exact ⟨0, Nat.zero_le _, rfl, Below.refl _ _, fun x hx => by simp [fewU] at hx⟩
  case round =>
    obtain ⟨k, hk, rfl, HB, HN⟩ := hrel
    obtain ⟨k1, hk1⟩ : ∃ k1, k + 1 = k1 := ⟨_, rfl⟩
    have HK := Lib.hid hk1
    rw [hk1]
    by_cases hlt : k < n
    · have hki : (k1 : Int) ≤ n := by omega
      have hk1n : k1 ≤ n := by omega
      clear hk1
      go_wp2_with fail
      refine (rlists7_any k1 (S := fun _ => True) (xs := []) wr (SliceOf.nil _ _ _ _ _) hn (fun y hy => by simp at hy) (by omega)).mono ?_
      rw [fromN_nil, listsB_nil, numF_zero]
      rintro e V1 ⟨⟨R, rc, rfl, hR⟩, c1⟩
      obtain ⟨LL, hLL⟩ : ∃ LL, lexL k1 (numbersL n) = LL := ⟨_, rfl⟩
      have HLL := Lib.hid hLL
      rw [hLL] at hR ⊢
      obtain ⟨q, hq⟩ : ∃ q, LL.length = q := ⟨_, rfl⟩
      rw [hq] at hR ⊢
      have HQ := Lib.hid hq
      have HR : Hid (∀ V, Below V1.heap.size V1 V → Rows7 (fun _ => True) V R q LL) := fun V hb => (hR.keep Rows7.good (Keeps.below hb)).mono Rows7.good (fun _ _ => trivial)
      have HB1 : Hid (Below w.heap.size w V1) := bl_call HB.out c1 (Nat.le_refl _)
      have hql := hR.le
      clear hLL hq hR c1 HB
      go_wp2_with fail
      go_loopw [6] (fun i wr => ∃ j : Nat, j ≤ q ∧ i = .int .i64 j ∧ Hid (Below V1.heap.size V1 wr) ∧ Hid (∀ x ∈ LL.take j, lackB all x = false)) (fun i _ => q - (intOf i).toNat)
      case atStart => exact ⟨0, Nat.zero_le _, rfl, Below.refl _ _, fun x hx => by simp at hx⟩
      case round =>
        obtain ⟨j, hj, rfl, HBj, HNj⟩ := hrel
        by_cases hlj : j < q
        · have hji : (j : Int) < q := by omega
          obtain ⟨bR, oR, A1, n1, c1, t, rfl, _, htc, ht, Ht⟩ := Rows7.get (HR.out wr HBj.out) hlj
          have hbd := lex_bd (show t ∈ lexL k1 (numbersL n) by rw [HLL.out]; exact List.mem_of_getElem? Ht.out)
          have Hn1 := Lib.hid ht.len
          have hn1 : n1 ≤ 8 := by rw [← Hn1.out, hbd.1]; omega
          have HT : Hid (∀ V, Below wr.heap.size wr V → Ints (fun _ => True) V A1 n1 t) := fun V hb => (ht.keep IntR.good (Keeps.below hb)).mono IntR.good (fun _ _ => trivial)
          have HBw : Hid (Below w.heap.size w wr) := bl_call HB1.out HBj.out (Nat.le_refl _)
          have HBD := Lib.hid hbd.2
          clear ht hbd
          go_wp2_with fail
          refine (rlack7_any wr (HA.out wr HBw.out) (HT.out wr (Below.refl _ _)) HBD.out hn1 HL.out).mono ?_
          rintro e V2 ⟨rfl, c2⟩
          have htc2 := getc c2 htc
          obtain ⟨lk, hlk⟩ : ∃ lk, lackB all t = lk := ⟨_, rfl⟩
          rw [hlk]
          cases lk with
          | true =>
            have HFF : Hid (fewestL all = some t) := by
              rw [Hid, HFD.out]
              exact few_found (k := k) (j := j) hlt HN.out (by rw [HK.out, HLL.out]; exact HNj.out) (by rw [HK.out, HLL.out]; exact Ht.out) hlk
            have HT2 : Hid (Ints (fun _ => True) V2 A1 n1 t) := HT.out V2 c2
            have HB2 : Hid (Below w.heap.size w V2) := bl_call HBw.out c2 (Nat.le_refl _)
            clear c2 hlk htc
            go_wp2_with fail
            go_ret2
            refine ⟨?_, HB2.out⟩
            rw [HFF.out]
            exact ⟨A1, c1, by simp [Hn1.out], by simpa [Hn1.out] using HT2.out⟩
          | false =>
            have HN2 : Hid (∀ x ∈ LL.take (j + 1), lackB all x = false) := fun x hx => by
              rw [take_snoc_get Ht.out] at hx
              rcases List.mem_append.1 hx with hx | hx
              · exact HNj.out x hx
              · rw [List.mem_singleton] at hx; rw [hx]; exact hlk
            have HB2 : Hid (Below V1.heap.size V1 V2) := bl_call HBj.out c2 (Nat.le_refl _)
            clear c2 hlk htc htc2
            go_wp2_with fail
            go_roundw
            case rel => exact ⟨j + 1, by omega, by go_num, HB2.out, HN2.out⟩
            case measure => simp [intOf]; omega
        · obtain rfl : j = q := by omega
          have hji : ¬ (j : Int) < j := by omega
          have HN2 : Hid (∀ x ∈ fewU n (k + 1), lackB all x = false) := fun x hx => by
            rw [fewU_succ, HK.out, HLL.out] at hx
            rcases List.mem_append.1 hx with hx | hx
            · exact HN.out x hx
            · exact HNj.out x (by rw [List.take_of_length_le (by rw [HQ.out]; exact Nat.le_refl _)]; exact hx)
          have HB2 : Hid (Below w.heap.size w wr) := bl_call HB1.out HBj.out (Nat.le_refl _)
          have hw1 : IntKind.i64.wrap ((k1 : Int) + 1) = (k1 : Int) + 1 := by rw [IntKind.wrap_i64]; omega
          go_wp2_with fail
          go_roundw
          case rel => exact ⟨k + 1, by omega, by rw [HK.out]; go_num, HB2.out, HN2.out⟩
          case measure => simp [intOf]; omega
    · obtain rfl : k = n := by omega
      have hki : ¬ (k1 : Int) ≤ k := by omega
      have HFF : Hid (fewestL all = none) := by rw [Hid, HFD.out]; exact List.find?_eq_none.2 fun x hx => by rw [HN.out x hx]; decide
      clear hk1
      go_wp2_with fail
      go_ret2
      refine ⟨?_, HB.out⟩
      rw [HFF.out]
      exact ⟨none, 0, rfl, SliceOf.nil _ _ _ _ _⟩
end Go.Proofs.YtpdldmichpmgmaaGreat

namespace Go.Proofs.YtpdldmichpmgmaaGreat
open Go.RowKit Go.Shelf

def onlyP (set : List Int) (but : List Pl) (a : Pl) : Bool := hasN set a.1 && !but.contains a
theorem onlyL_def (all : List (List Pl)) (set : List Int) (but : List Pl) : onlyL all set but = all.map fun l => l.filter (onlyP set but) := rfl
theorem onlyL_snoc {all : List (List Pl)} {set : List Int} {but : List Pl} {k : Nat} {l : List Pl} (h : all[k]? = some l) : (onlyL all set but).take (k + 1) = (onlyL all set but).take k ++ [l.filter (onlyP set but)] :=
  take_snoc_get (by rw [onlyL_def, List.getElem?_map, h]; rfl)
theorem onlyL_len (all : List (List Pl)) (set : List Int) (but : List Pl) : (onlyL all set but).length = all.length := by rw [onlyL_def, List.length_map]
theorem filt_snoc {f : Pl → Bool} {l : List Pl} {k : Nat} {a : Pl} (h : l[k]? = some a) : (l.take (k + 1)).filter f = if f a then (l.take k).filter f ++ [a] else (l.take k).filter f := by
  rw [take_snoc_get h, List.filter_append]
  split <;> rename_i e <;> simp [e]
theorem onlyP_of {set : List Int} {but : List Pl} {a : Pl} : onlyP set but a = (decide ((a.1 : Int) ∈ set) && !decide (a ∈ but)) := by unfold onlyP hasN; rw [List.contains_eq_mem]

set_option maxHeartbeats 8000000 in
set_option maxRecDepth 100000 in
theorem ronly7_any {S T U : Foot} {A B C : Option Addr} {n c m d q e0 : Nat} {all : List (List Pl)} {set : List Int} {but : List Pl} (w : World) (h : Ords S w A n all) (g : Ints T w B m set) (gb : Pls U w C q but) (hn : n ≤ 8) (hl : ∀ l ∈ all, l.length ≤ 40) :
    Calls Tryz.prog 27 #[.slice A n c, .slice B m d, .slice C q e0] w fun e w' => (∃ A' c', e = .returned (.slice A' n c') ∧ Ords (fun k => w.heap.size ≤ k) w' A' n (onlyL all set but) ∧ n ≤ c') ∧ Below w.heap.size w w' := by
  obtain ⟨i0, hi0, hz0, hz1, hz2⟩ := info_parts infoPl7
  obtain ⟨i1, hi1, hy0, hy1, hy2⟩ := info_parts infoPls7
  have Hn := Lib.hid h.len
  have hnl := h.le
  have HA : Hid (∀ V, Below w.heap.size w V → Ords S V A n all) := fun V hb => h.keep OrdR.good (Keeps.below hb)
  have HM : Hid (∀ V, Below w.heap.size w V → Ints T V B m set) := fun V hb => g.keep IntR.good (Keeps.below hb)
  have HC : Hid (∀ V, Below w.heap.size w V → Pls U V C q but) := fun V hb => gb.keep PlR.good (Keeps.below hb)
  have HL := Lib.hid hl
  have HOL : Hid ((onlyL all set but).length = n) := by rw [Hid, onlyL_len]; exact Hn.out
  clear h g gb hl
  go_enter Tryz.func27, Tryz.ntmps27
  go_wp2_with fail
  go_loopw [7, 8] (fun o i wr => ∃ (r cap : Nat) (An : Option Addr), r ≤ n ∧ i = .int .i64 r ∧ o = .slice An r cap ∧ Hid (Below w.heap.size w wr) ∧ Hid (OwnT (fun k => w.heap.size ≤ k) OrdR 1 wr w.heap.size 29 (.slice An r cap) ((onlyL all set but).take r))) (fun _ i _ => n - (intOf i).toNat)
  case atStart => exact ⟨0, 0, none, Nat.zero_le _, rfl, rfl, Below.refl _ _, by rw [List.take_zero]; exact OwnT.nil _ _ _ _ _ _⟩
  case round =>
    obtain ⟨r, cap, An, hr, rfl, rfl, HB, HO⟩ := hrel
    by_cases hlt : r < n
    · have hri : (r : Int) < n := by omega
      obtain ⟨bA, oA, A1, n1, c1, L, rfl, _, hLc, hL, HxL⟩ := Ords.get (HA.out w (Below.refl _ _)) hlt
      have HL1 : Hid (L.length = n1) := hL.len
      have hn40 : n1 ≤ 40 := by rw [← HL1.out]; exact HL.out L (List.mem_of_getElem? HxL.out)
      have HLs : Hid (∀ V, Below w.heap.size w V → Pls S V A1 n1 L) := fun V hb => hL.keep PlR.good (Keeps.below hb)
      have HLc : Hid (∀ V, Below w.heap.size w V → V.cell? ⟨bA, oA + r, none⟩ = some (.slice A1 n1 c1)) := fun V hb => getc hb hLc
      have HSN := Lib.hid (onlyL_snoc (set := set) (but := but) HxL.out)
      have hTL : ((onlyL all set but).take r).length = r := by rw [List.length_take, HOL.out]; omega
      have HTL := Lib.hid hTL
      obtain ⟨W1, hW1⟩ : ∃ V, V = wr := ⟨_, rfl⟩
      subst hW1
      have hOb : ∀ g, (Value.slice An r cap).ownBlock = some g → g < W1.heap.size := fun g hg => (OwnL.block HO.out g hg).2
      have HOb := Lib.hid hOb
      have hwW := HB.out.size
      clear hL hLc hTL hOb
      go_wp2_with fail
      go_loopw [9, 10] (fun o i wr => ∃ (k len cp : Nat) (Al : Option Addr), k ≤ n1 ∧ len ≤ k ∧ i = .int .i64 k ∧ o = .slice Al len cp ∧ Hid (Below W1.heap.size W1 wr) ∧ Hid (OwnL PlR 2 (fun _ => False) wr W1.heap.size 54 (.slice Al len cp) ((L.take k).filter (onlyP set but))) ∧ Hid (((L.take k).filter (onlyP set but)).length = len)) (fun _ i _ => n1 - (intOf i).toNat)
      case atStart => exact ⟨0, 0, 0, none, Nat.zero_le _, Nat.le_refl _, rfl, rfl, Below.refl _ _, OwnL.nil _ _ _ _ _ _, rfl⟩
      case round =>
        obtain ⟨k, len, cp, Al, hk, hlk, rfl, rfl, HBk, HOk, Hlen⟩ := hrel
        have HBw : Hid (Below w.heap.size w wr) := bl_call HB.out HBk.out (Nat.le_refl _)
        have hLc := HLc.out wr HBw.out
        by_cases hlt2 : k < n1
        · have hki : (k : Int) < n1 := by omega
          obtain ⟨b2, o2, ya, yb, rfl, hb2, d0, d1, Hy⟩ := Pls.get (HLs.out wr HBw.out) hlt2
          have HFS := Lib.hid (filt_snoc (f := onlyP set but) Hy.out)
          obtain ⟨K, hK⟩ : ∃ K, (L.take k).filter (onlyP set but) = K := ⟨_, rfl⟩
          rw [hK] at HOk Hlen HFS
          clear hK
          go_wp2_with fail
          refine (has_any (ya : Int) wr (HM.out wr HBw.out)).mono ?_
          rintro e V1 ⟨rfl, rfl⟩
          by_cases h1 : (ya : Int) ∈ set
          · rw [decide_eq_true h1]
            go_wp2_with fail
            refine (has7_any (ya, yb) wr (HC.out wr HBw.out)).mono ?_
            rintro e V1 ⟨rfl, c2⟩
            have HB1 : Hid (Below W1.heap.size W1 V1) := bl_call HBk.out c2 (Nat.le_refl _)
            have HO1 : Hid (OwnL PlR 2 (fun _ => False) V1 W1.heap.size 54 (.slice Al len cp) K) := HOk.out.below PlR.good c2
            have e0 := getc c2 d0
            have e1 := getc c2 d1
            have e2 := getc c2 hLc
            clear c2 d0 d1 HOk HBk hLc
            by_cases h2 : (ya, yb) ∈ but
            · have HF2 : Hid ((L.take (k + 1)).filter (onlyP set but) = K) := by rw [Hid, HFS.out, if_neg (by rw [onlyP_of]; simp [h2])]
              rw [decide_eq_true h2]
              go_wp2_with fail
              go_roundw
              case rel => exact ⟨k + 1, len, cp, Al, by omega, by omega, by go_num, rfl, HB1.out, by rw [HF2.out]; exact HO1.out, by rw [HF2.out]; exact Hlen.out⟩
              case measure => simp [intOf]; omega
            · have HF2 : Hid ((L.take (k + 1)).filter (onlyP set but) = K ++ [(ya, yb)]) := by rw [Hid, HFS.out, if_pos (by rw [onlyP_of]; simp [h1, h2])]
              rw [decide_eq_false h2]
              go_wp2_with (at_builtin; refine wpList_append_n _ rfl (.tmp 48) (.tmp 56) _ rfl PlR.good W1.heap.size 54 i0 _ 16 Tryz.underlying29 hi0 hz0 hz1 hz2 rfl (by omega) _ K (ya, yb) len Hlen.out rfl (HO1.out.alloc PlR.good _) ⟨V1.heap.size, 0, none⟩ 1 [.int .i64 ya, .int .i64 yb] rfl rfl (news_new rfl (by simp)) ?c1 ?c2 ?c3 (fun h => h) ?_)
              case c1 => simp only [maxLen]; omega
              case c2 => omega
              case c3 => have := HB1.out.size; simp; omega
              intro A' cap' w2 hown2 hg2 hat2
              have hB2 : Below W1.heap.size W1 w2 := bl_grown (bl_alloc HB1.out _ (Nat.le_refl _)) (HO1.out.alloc PlR.good _) hg2 (Nat.le_refl _) (Nat.le_refl _)
              have HOW := Lib.hid hown2
              clear hg2 hat2 hown2 e0 e1 e2
              go_wp2
              go_roundw
              case rel => exact ⟨k + 1, len + 1, cap', _, by omega, by omega, by go_num, rfl, hB2, by rw [HF2.out]; exact HOW.out, by rw [Hid, HF2.out, List.length_append, Hlen.out]; rfl⟩
              case measure => simp [intOf]; omega
          · have HF2 : Hid ((L.take (k + 1)).filter (onlyP set but) = K) := by rw [Hid, HFS.out, if_neg (by rw [onlyP_of]; simp [h1])]
            rw [decide_eq_false h1]
            go_wp2_with fail
            go_roundw
            case rel => exact ⟨k + 1, len, cp, Al, by omega, by omega, by go_num, rfl, HBk.out, by rw [HF2.out]; exact HOk.out, by rw [HF2.out]; exact Hlen.out⟩
            case measure => simp [intOf]; omega
        · obtain rfl : k = n1 := by omega
          have hki : ¬ (k : Int) < k := by omega
          have HFL : Hid ((L.take k).filter (onlyP set but) = L.filter (onlyP set but)) := by rw [Hid, List.take_of_length_le (by rw [HL1.out]; exact Nat.le_refl _)]
          rw [HFL.out] at HOk Hlen
          obtain ⟨Y, hY⟩ : ∃ Y, L.filter (onlyP set but) = Y := ⟨_, rfl⟩
          rw [hY] at HOk Hlen HSN
          have hPl : Pls (fun k => W1.heap.size ≤ k) wr Al len Y := HOk.out.slice PlR.good rfl (by simp only [maxLen]; omega) (fun _ h => h.elim) (fun _ h _ => h)
          have HPl := Lib.hid hPl
          have HO2 : Hid (OwnT (fun k => w.heap.size ≤ k) OrdR 1 wr w.heap.size 29 (.slice An r cap) ((onlyL all set but).take r)) := OwnT.below OrdR.good HO.out HBk.out
          clear hY hPl HOk
          go_wp2_with (at_builtin; go_loud (refine wpList_append_t _ rfl (.tmp 58) (.tmp 60) _ rfl (fun k => w.heap.size ≤ k) OrdR.good w.heap.size 29 i1 _ 24 Tryz.underlying63 hi1 hy0 hy1 hy2 rfl (by omega) (.slice An r cap) ((onlyL all set but).take r) Y r HTL.out rfl (OwnT.below OrdR.good HO2.out (bl_alloc (Below.refl _ _) _ (Nat.le_refl _))) ⟨wr.heap.size, 0, none⟩ 1 [.slice Al len cp] rfl ⟨_, _, _, rfl, (HPl.out.keep PlR.good (Keeps.alloc _ _)).mono PlR.good (fun g hg => ⟨by omega, fun e => by have := HOb.out g e; omega⟩)⟩ (news_new rfl rfl) ?c1 ?c2 ?c3 ?_))
          case c1 => simp only [maxLen]; omega
          case c2 => omega
          case c3 => have := HBw.out.size; simp; omega
          intro A' cap' w3 hown2 hg2 hat2
          have HB3 : Hid (Below w.heap.size w w3) := bl_grown (bl_alloc HBw.out _ (Nat.le_refl _)) (OwnT.below OrdR.good HO2.out (bl_alloc (Below.refl _ _) _ (Nat.le_refl _))) hg2 (Nat.le_refl _) (Nat.le_refl _)
          have HO4 : Hid (OwnT (fun k => w.heap.size ≤ k) OrdR 1 w3 w.heap.size 29 (.slice (some ⟨A', 0, none⟩) (r + 1) cap') ((onlyL all set but).take (r + 1))) := by rw [Hid, HSN.out]; exact hown2
          clear hown2 hg2 hat2 hLc
          go_wp2_with fail
          go_roundw
          case rel => exact ⟨r + 1, cap', some ⟨A', 0, none⟩, by omega, by go_num, rfl, HB3.out, HO4.out⟩
          case measure => simp [intOf]; omega
    · obtain rfl : r = n := by omega
      have hri : ¬ (r : Int) < r := by omega
      have hfull : (onlyL all set but).take r = onlyL all set but := List.take_of_length_le (by rw [HOL.out]; exact Nat.le_refl _)
      have hcap := OwnL.cap7 HO.out
      rw [hfull] at HO
      go_wp2_with fail
      go_ret
      exact ⟨⟨An, cap, rfl, OwnT.slice OrdR.good HO.out rfl (by simp only [maxLen]; omega) (fun _ h => h) (fun _ h => h), hcap⟩, HB.out⟩
end Go.Proofs.YtpdldmichpmgmaaGreat
