/- A part of the proof that TopMoulds always answers true. -/
import Derived.Test.YtkpbchnggdnmaaaGreatCKOpen
import Derived.Test.YtkpbchnggdnmaaaGreatCKPlan
import Derived.Test.YtkpbchnggdnmaaaGreatCOrDays
import Derived.Test.YtkpbchnggdnmaaaGreatCRegion2
set_option linter.all false
namespace Go.Proofs.YtkpbchnggdnmaaaGreat
open Go.RowKit Go.Shelf Go.Maps
theorem infoOrd : (Tryz.prog.info? 61).map (fun i => (i.zero, i.size, i.bytes)) = some (some (.agg #[.int .i64 0, .int .i64 0, .int .i64 0, .int .i64 0]), 4, 32) := by kernel_rfl
theorem taken_len {s : Shop11} {t : List Int} (h : TakenOk s t) : t.length ≤ s.orders.length := by
 have h1 : IsSet s.orders.length t := ⟨h.2, h.1⟩
 have := (set_subO h1).length_le
 simpa [numbersL] using this
theorem ords_ok {s : Shop11} (hok : Ok11 s) {t : List Int} (h : TakenOk s t) : ∀ o ∈ ordsL s t, OrdOk s o := by
 intro o ho
 obtain ⟨i, hi, rfl⟩ := List.mem_map.1 ho
 have hb := h.1 i hi
 have hlt : i.toNat < s.orders.length := by omega
 rw [getD_of (List.getElem?_eq_getElem hlt)]
 exact hok.orders _ (List.getElem_mem hlt)
theorem ords_len {s : Shop11} (hok : Ok11 s) {t : List Int} (h : TakenOk s t) : (ordsL s t).length ≤ 9 := by
 have := taken_len h
 have := hok.no
 simp [ordsL]
 omega
theorem OwnL.cap {α : Type} {R : Rd α} {m : Nat} {S : Foot} {w : World} {base : Nat} {e : TypeId} {v : Value} {xs : List α} (h : OwnL R m S w base e v xs) {A : Option Addr} {n c : Nat} (hv : v = .slice A n c) : n ≤ c := by
 obtain ⟨_, cells, ho, _⟩ := h
 subst hv
 rcases ho.2 with ⟨e, h0⟩ | ⟨gb, cap', cur, e, hb, hgg, hle, _⟩
 ·injection e with _ e _; omega
 injection e with _ e1 e2; omega
set_option maxHeartbeats 2000000 in
set_option maxRecDepth 100000 in
theorem oenterC_any {s : Shop11} {H P Q T : Option Addr} {hn hc pn pc on oc tn tc : Nat} {t : List Int} (hok : Ok11 s) (hpc : pn ≤ pc) (ht : TakenOk s t) (w : World) (g : ShopO (fun _ => True) w H hn P pn Q on s) (gt : Ints (fun _ => True) w T tn t) :
  Calls Tryz.prog 39 #[.agg #[.slice H hn hc, .slice P pn pc, .slice Q on oc], .slice T tn tc] w fun e w' => (∃ g kb L lc, e = .returned (.tuple #[.pointer (some ⟨g, 0, none⟩), .slice L tn lc, .int .i64 0]) ∧ w.heap.size ≤ g ∧ w.heap.size ≤ kb ∧ LookK w' w'.heap.size g kb H hn hc P pn pc Q on oc s ∧ MapC s w' kb 0 ∧ Ords11 (fun k => k ≠ kb ∧ k < w'.heap.size) w' L tn (ordsL s t) ∧ tn ≤ lc) ∧ Below w.heap.size w w' := by
 have ho := g.os.len
 have htl := gt.len
 have htn := taken_len ht
 have no := hok.no
 have htn8 : tn ≤ 8 := by omega
 have hon8 : on ≤ 8 := by omega
 have wo1 : IntKind.i64.wrap ((on : Int) - 1) = (on : Int) - 1 := by rw [IntKind.wrap_i64]; omega
 have hout : t.any (outB 0 ((on : Int) - 1)) = false := by
  rw [Bool.eq_false_iff]
  intro h
  obtain ⟨i, hi, h2⟩ := List.any_eq_true.1 h
  have hb := ht.1 i hi
  rw [outB_f (by omega)] at h2
  cases h2
 have HT : Hid (∀ (k : Nat) (x : Int), t[k]? = some x → 0 ≤ x ∧ x < on) := fun k x hx => by
  have := ht.1 x (List.mem_of_getElem? hx)
  omega
 have HA : Hid (∀ (k : Nat) (x y : Int), t[k]? = some x → t[k + 1]? = some y → x < y) := fun k x y hx hy => by
  obtain ⟨h1, rfl⟩ := List.getElem?_eq_some_iff.1 hx
  obtain ⟨h2, rfl⟩ := List.getElem?_eq_some_iff.1 hy
  exact List.pairwise_iff_getElem.1 ht.2 k (k + 1) h1 h2 (Nat.lt_succ_self _)
 obtain ⟨i0, hi0, hz0, hz1, hz2⟩ := info_parts infoOrd
 obtain ⟨W, hW⟩ : ∃ W, w.alloc (.cells #[.slice H hn hc, .slice P pn pc, .slice Q on oc] 31) = W := ⟨_, rfl⟩
 have X : Blk W w.heap.size 31 #[.slice H hn hc, .slice P pn pc, .slice Q on oc] := by rw [← hW]; exact Blk.new _ _ _ rfl
 have hBW : Below w.heap.size w W := by rw [← hW]; exact bl_alloc (Below.refl _ _) _ (Nat.le_refl _)
 have HG : Hid (∀ V, Below W.heap.size W V → ShopO (fun _ => True) V H hn P pn Q on s) := fun V hb => (g.bl hBW).bl hb
 have HGT : Hid (∀ V, Below W.heap.size W V → Ints (fun _ => True) V T tn t) := fun V hb => (gt.keep IntR.good (Keeps.below hBW)).keep IntR.good (Keeps.below hb)
 have kk : Hid (∀ V, Below W.heap.size W V → V.cell? ⟨w.heap.size, 0, none⟩ = some (.slice H hn hc) ∧ V.cell? ⟨w.heap.size, 1, none⟩ = some (.slice P pn pc) ∧ V.cell? ⟨w.heap.size, 2, none⟩ = some (.slice Q on oc)) :=
  fun V hb => ⟨(X.bl hb).cell 0, (X.bl hb).cell 1, (X.bl hb).cell 2⟩
 have Hok := Lib.hid hok
 have Htl := Lib.hid htl
 have Ho := Lib.hid ho
 have hlt0 := gt.le
 have hlo0 := g.os.le
 clear hok g gt X ho htl htn no ht
 obtain ⟨x0, x1, x2⟩ := kk.out W (Below.refl _ _)
 go_enter Tryz.func39, Tryz.ntmps39
 go_wp2_with fail
 clear hW x0 x1 x2
 refine (olook_any Hok.out hpc W (HG.out W (Below.refl _ _))).mono ?_
 rintro e V1 ⟨⟨gs, kb, rfl, hgs, hkb, HLK, HM⟩, b1⟩
 have HLK := Lib.hid HLK
 have HM := Lib.hid HM
 have HB1 := Lib.hid b1
 clear b1
 obtain ⟨x0, x1, x2⟩ := kk.out V1 HB1.out
 go_wp2_with fail
 clear x0 x1 x2
 refine (oout_any 0 ((on : Int) - 1) V1 (HGT.out V1 HB1.out)).mono ?_
 rw [hout]
 rintro e V2 ⟨rfl, b2⟩
 have HB2 : Hid (Below W.heap.size W V2) := bl_call HB1.out b2 (Nat.le_refl _)
 have HB12 := Lib.hid b2
 clear b2 hout
 go_wp2
 go_loopw [4, 5, 6, 7, 8, 25] (fun s4 sl s6 _ _ i wr => ∃ (k lc : Nat) (L : Option Addr), k ≤ tn ∧ i = .int .i64 k ∧ sl = .slice L k lc ∧ s4 = .pointer (some ⟨gs, 0, none⟩) ∧ s6 = .int .i64 0 ∧ Hid (Below V2.heap.size V2 wr) ∧ Hid (OwnL OrR11 4 (fun _ => False) wr V2.heap.size 61 (.slice L k lc) ((ordsL s t).take k))) (fun _ _ _ _ _ i _ => tn - (intOf i).toNat)
 case atStart => exact ⟨0, 0, none, Nat.zero_le _, rfl, rfl, rfl, rfl, Below.refl _ _, OwnL.nil _ _ _ _ _ _⟩
 case round =>
  obtain ⟨k, lc, L, hk, rfl, rfl, rfl, rfl, HB, HO⟩ := hrel
  have HBW : Hid (Below W.heap.size W wr) := bl_call HB2.out HB.out (Nat.le_refl _)
  by_cases hlt : k < tn
  ·have hki : (k : Int) < tn := by omega
   obtain ⟨b, off, x, rfl, hcx, Hx⟩ := Ints.get (HGT.out wr HBW.out) hlt
   have hxb := HT.out k x Hx.out
   obtain ⟨p, rfl⟩ : ∃ p : Nat, x = p := ⟨x.toNat, by omega⟩
   have hpo : p < on := by omega
   have hpi : (p : Int) < on := by omega
   obtain ⟨b2, off2, a, z, y, u, hQ, hbb, hc0, hc1, hc2, hc3, Hy⟩ := Ords11.get (HG.out wr HBW.out).os hpo
   subst hQ
   have HLn : Hid (((ordsL s t).take k).length = k) := by rw [Hid, List.length_take, ordsL, List.length_map, Htl.out]; omega
   have HTK : Hid ((ordsL s t).take (k + 1) = (ordsL s t).take k ++ [⟨a, z, y, u⟩]) := by
    refine take_snoc_get ?_
    unfold ordsL
    rw [List.getElem?_map, Hx.out]
    show some (s.orders.getD (p : Int).toNat dOrd) = _
    rw [Int.toNat_natCast, getD_of Hy.out]
   obtain ⟨x0, x1, x2⟩ := kk.out wr HBW.out
   clear hxb
   have fin : ∀ (A2 cap2 : Nat) (w2 : World), OwnL OrR11 4 (fun _ => False) w2 V2.heap.size 61 (.slice (some ⟨A2, 0, none⟩) (k + 1) cap2) ((ordsL s t).take k ++ [⟨a, z, y, u⟩]) → (wr.alloc (.cells #[.int .i64 a, .int .i64 z, .int .i64 y, .int .i64 u] 61)).grownBy w2 (Value.slice L k lc).ownBlock → Below V2.heap.size V2 w2 ∧ OwnL OrR11 4 (fun _ => False) w2 V2.heap.size 61 (.slice (some ⟨A2, 0, none⟩) (k + 1) cap2) ((ordsL s t).take (k + 1)) := fun A2 cap2 w2 hO2 hg2 =>
    ⟨bl_grown (bl_alloc HB.out _ (Nat.le_refl _)) (HO.out.alloc OrR11.good _) hg2 (Nat.le_refl _) (Nat.le_refl _), by rw [HTK.out]; exact hO2⟩
   have HFIN := Lib.hid fin
   clear fin
   by_cases h0 : 0 < (k : Int)
   ·obtain ⟨kp, hkp⟩ : ∃ kp : Nat, (k : Int) - 1 = kp := ⟨k - 1, by omega⟩
    have wk : IntKind.i64.wrap ((k : Int) - 1) = (kp : Int) := by rw [hkp, IntKind.wrap_i64]; omega
    have hkpt : kp < tn := by omega
    have hkpi : (kp : Int) < tn := by omega
    obtain ⟨b3, off3, x3, h3, hcx3, Hx3⟩ := Ints.get (HGT.out wr HBW.out) hkpt
    injection h3 with h3
    injection h3 with h3 h4 _
    subst h3 h4
    have hlt3 := HA.out kp x3 (p : Int) Hx3.out (by rw [show kp + 1 = k by omega]; exact Hx.out)
    have hle3 : ¬ (p : Int) ≤ x3 := by omega
    clear hkp hlt3
    go_wp2_with (at_builtin; refine wpList_append_n _ rfl _ _ _ rfl OrR11.good V2.heap.size 61 i0 _ 32 Tryz.underlying29 hi0 hz0 hz1 hz2 rfl (by omega) _ _ ⟨a, z, y, u⟩ k HLn.out rfl (HO.out.alloc OrR11.good _) ⟨_, 0, none⟩ 1 [.int .i64 a, .int .i64 z, .int .i64 y, .int .i64 u] rfl rfl (news_new rfl rfl) ?c1 ?c2 ?c3 (fun h => h) ?_)
    case c1 => simp only [maxLen]; omega
    case c2 => omega
    case c3 => have := HB.out.size; simp; omega
    intro A2 cap2 w2 hO2 hg2 _
    obtain ⟨h1, h2⟩ := HFIN.out A2 cap2 w2 hO2 hg2
    have H1 := Lib.hid h1
    have H2 := Lib.hid h2
    clear h1 h2 hO2 hg2
    go_wp2
    go_roundw
    case rel => exact ⟨k + 1, cap2, _, by omega, by go_num, rfl, rfl, rfl, H1, H2⟩
    case measure => simp [intOf]; omega
   go_wp2_with (at_builtin; refine wpList_append_n _ rfl _ _ _ rfl OrR11.good V2.heap.size 61 i0 _ 32 Tryz.underlying29 hi0 hz0 hz1 hz2 rfl (by omega) _ _ ⟨a, z, y, u⟩ k HLn.out rfl (HO.out.alloc OrR11.good _) ⟨_, 0, none⟩ 1 [.int .i64 a, .int .i64 z, .int .i64 y, .int .i64 u] rfl rfl (news_new rfl rfl) ?c1 ?c2 ?c3 (fun h => h) ?_)
   case c1 => simp only [maxLen]; omega
   case c2 => omega
   case c3 => have := HB.out.size; simp; omega
   intro A2 cap2 w2 hO2 hg2 _
   obtain ⟨h1, h2⟩ := HFIN.out A2 cap2 w2 hO2 hg2
   have H1 := Lib.hid h1
   have H2 := Lib.hid h2
   clear h1 h2 hO2 hg2
   go_wp2
   go_roundw
   case rel => exact ⟨k + 1, cap2, _, by omega, by go_num, rfl, rfl, rfl, H1, H2⟩
   case measure => simp [intOf]; omega
  obtain rfl : k = tn := by omega
  have HORD : Hid (Ords11 (fun q => q ≠ kb ∧ q < wr.heap.size) wr L k (ordsL s t)) := by
   have h1 := HO.out.slice (T := fun q => q ≠ kb) OrR11.good rfl (by simp only [maxLen]; omega) (fun _ h => h.elim) (fun q h _ e => by have := HM.out.lt; have := HB12.out.size; omega)
   rw [List.take_of_length_le (by rw [ordsL, List.length_map, Htl.out]; exact Nat.le_refl _)] at h1
   exact h1.bound OrR11.good
  go_wp2
  go_ret3
  exact ⟨⟨gs, kb, L, lc, rfl, by have := hBW.size; omega, by have := hBW.size; omega, ((HLK.out.bl HB12.out).bl HB.out).mono (by have := HB12.out.size; have := HB.out.size; omega) (Nat.le_refl _), (HM.out.bl HB12.out).bl HB.out, HORD.out, HO.out.cap rfl⟩, bl_call hBW HBW.out (Nat.le_refl _)⟩
theorem oenter_any {s : Shop11} {H P Q T : Option Addr} {hn hc pn pc on oc tn tc : Nat} {t : List Int} (hok : Ok11 s) (hpc : pn ≤ pc) (ht : TakenOk s t) (w : World) (g : ShopO (fun _ => True) w H hn P pn Q on s) (gt : Ints (fun _ => True) w T tn t) :
  Calls Tryz.prog 39 #[.agg #[.slice H hn hc, .slice P pn pc, .slice Q on oc], .slice T tn tc] w fun e w' => (∃ g kb L lc, e = .returned (.tuple #[.pointer (some ⟨g, 0, none⟩), .slice L tn lc, .int .i64 0]) ∧ w.heap.size ≤ g ∧ w.heap.size ≤ kb ∧ LookK w' w'.heap.size g kb H hn hc P pn pc Q on oc s ∧ MapC s w' kb 0 ∧ Ords11 (fun k => k ≠ kb ∧ k < w'.heap.size) w' L tn (ordsL s t)) ∧ Below w.heap.size w w' := by
 refine (oenterC_any hok hpc ht w g gt).mono ?_
 rintro e w' ⟨⟨g, kb, L, lc, h1, h2, h3, h4, h5, h6, _⟩, hb⟩
 exact ⟨⟨g, kb, L, lc, h1, h2, h3, h4, h5, h6⟩, hb⟩
open Go.RowKit
theorem litFlat_get {α β : Type} {f : α → List β} {K : Nat} : ∀ {l : List α}, (∀ x ∈ l, (f x).length = K) → ∀ {n j : Nat} {v : α} {x : β}, l[n]? = some v → (f v)[j]? = some x → (l.flatMap f)[n * K + j]? = some x := by
 intro l
 induction l with
 | nil => intro _ n j v x h; simp at h
 | cons y l ih =>
  intro hK n j v x hv hx
  have hjK : j < K := by
   have h1 : j < (f v).length := by
    obtain ⟨h, _⟩ := List.getElem?_eq_some_iff.1 hx; exact h
   rw [hK v (List.mem_of_getElem? hv)] at h1; exact h1
  rw [List.flatMap_cons]
  cases n with
  | zero =>
   simp at hv; subst hv
   rw [Nat.zero_mul, Nat.zero_add, List.getElem?_append_left (by rw [hK _ List.mem_cons_self]; exact hjK)]
   exact hx
  | succ n =>
   simp at hv
   have hy := hK y List.mem_cons_self
   rw [List.getElem?_append_right (by rw [hy, Nat.succ_mul]; omega)]
   rw [hy, show (n + 1) * K + j - K = n * K + j by rw [Nat.succ_mul]; omega]
   exact ih (fun x hx => hK x (List.mem_cons_of_mem _ hx)) hv hx
theorem litFlat_len {α β : Type} {f : α → List β} {K : Nat} : ∀ {l : List α}, (∀ x ∈ l, (f x).length = K) → (l.flatMap f).length = l.length * K := by
 intro l
 induction l with
 | nil => intro _; simp
 | cons y l ih => intro h; rw [List.flatMap_cons, List.length_append, h y List.mem_cons_self, ih (fun x hx => h x (List.mem_cons_of_mem _ hx)), List.length_cons, Nat.succ_mul]; omega
theorem rows_news {α : Type} {R : Rd α} {m : Nat} (g : R.Good m) {S : Foot} {w : World} {ad : Addr} {q : Nat} {ys : List α} (h : SliceOf R m S w (some ad) q ys) :
  ∃ news : List Value, news.length = q * m ∧ (∀ j u, news[j]? = some u → w.cell? (ad.add j) = some u) ∧ (∀ u ∈ news, u.oneCell' = true) ∧ ∀ (k : Nat) y, ys[k]? = some y → ∃ vs, R S w y vs ∧ ∀ (j : Nat) u, vs[j]? = some u → news[k * m + j]? = some u := by
 have hex : ∀ k : Nat, ∃ vs : List Value, ∀ y, ys[k]? = some y → R S w y vs ∧ ∀ (j : Nat) u, vs[j]? = some u → w.cell? (ad.add (k * m + j)) = some u := fun k => by
  cases hy : ys[k]? with
  | none => exact ⟨[], fun y h => by cases h⟩
  | some y =>
   obtain ⟨b, off, vs, hA, _, _, hR, hc⟩ := h.2.2 k y hy
   injection hA with hA
   subst hA
   refine ⟨vs, fun y' hy' => ?_⟩
   injection hy' with hy'
   subst hy'
   refine ⟨hR, fun j u hu => ?_⟩
   have hadd : (⟨b, off, none⟩ : Addr).add (k * m + j) = ⟨b, off + k * m + j, none⟩ := by
    have : ∀ n, (⟨b, off, none⟩ : Addr).add n = ⟨b, off + n, none⟩ := fun n => by unfold Addr.add; split <;> simp_all
    rw [this, Nat.add_assoc]
   rw [hadd]
   exact hc j u hu
 obtain ⟨F, hF⟩ := Classical.axiomOfChoice hex
 have hys := h.1
 have hk : ∀ k, k < q → ∃ y, ys[k]? = some y := fun k hk => ⟨ys[k]'(by omega), List.getElem?_eq_getElem (by omega)⟩
 have hlen : ∀ k ∈ List.range q, (F k).length = m := fun k hk' => by
  obtain ⟨y, hy⟩ := hk k (List.mem_range.1 hk')
  exact g.len (hF k y hy).1
 refine ⟨(List.range q).flatMap F, by rw [litFlat_len hlen, List.length_range], fun j u hu => ?_, fun u hu => ?_, fun k y hy => ?_⟩
 ·have hj : j < q * m := by have := of_getq' hu; rw [litFlat_len hlen, List.length_range] at this; exact this
  have hm : 0 < m := Nat.pos_of_ne_zero (fun e => by subst e; simp at hj)
  have hkq : j / m < q := (Nat.div_lt_iff_lt_mul hm).2 hj
  obtain ⟨y, hy⟩ := hk _ hkq
  have hr : j % m < (F (j / m)).length := by rw [g.len (hF _ y hy).1]; exact Nat.mod_lt _ hm
  have h1 := litFlat_get hlen (List.getElem?_range hkq) (List.getElem?_eq_getElem hr)
  have hjm : j / m * m + j % m = j := by rw [Nat.mul_comm]; exact Nat.div_add_mod j m
  rw [hjm, hu] at h1
  injection h1 with h1
  have := (hF _ y hy).2 (j % m) _ (List.getElem?_eq_getElem hr)
  rw [hjm] at this
  rw [this, h1]
 ·obtain ⟨k, hk', hu⟩ := List.mem_flatMap.1 hu
  obtain ⟨y, hy⟩ := hk k (List.mem_range.1 hk')
  exact g.one (hF k y hy).1 u hu
 have hkq : k < q := by have := of_getq' hy; omega
 exact ⟨F k, (hF k y hy).1, fun j u hu => litFlat_get hlen (List.getElem?_range hkq) hu⟩
theorem wp_append_lit {P : Program} {o : Oper} {a : Act} {K : Act → World → Prop} {Q : Exit → Act → World → Prop} (w : World) (s x : Operand) (t : TypeId)
  (ho : o.op = .call { callee := .builtin .append, args := #[s, x], argTypes := #[t, t] })
  {α : Type} {R : Rd α} {m : Nat} (g : R.Good m) {T S : Foot} (base : Nat) (e : TypeId) (i : TypeInfo) (z : Value) (bytes : Nat) (ht : P.underlying t = some (.slice e)) (hi : P.info? e = some i) (hz : i.zero = some z)
  (hsize : i.size = m) (hby : i.bytes = bytes) (hzs : z.cells.size = m) (hsz : 0 < m)
  (gl : Nat) (hs : a.eval s = .slice (some ⟨gl, 0, none⟩) 0 0) (hBl : Blk w gl e #[]) (hgl : base ≤ gl)
  (A : Option Addr) (q c : Nat) (ys : List α) (hx : a.eval x = .slice A q c) (hR : SliceOf R m T w A q ys) (hconv : ∀ y vs, R T w y vs → R S w y vs)
  (h63 : q ≤ maxLen) (hbytes : q * bytes ≤ 140737488355328) (hbase : base ≤ w.heap.size) (hS : ¬ S w.heap.size) (hSl : ¬ S gl)
  (h : ∀ A' cap' w', OwnL R m S w' base e (.slice A' q cap') ys → Below w.heap.size w w' → K (a.put o.dst (.slice A' q cap')) w') : o.wp P a w K Q := by
 have hown : w.ownsRow base e m (.slice (some ⟨gl, 0, none⟩) 0 0) 0 [] := ⟨by simp, .inr ⟨gl, 0, #[], rfl, hgl, hBl, Nat.le_refl _, Nat.zero_le _, by simp, by simp⟩⟩
 rcases Nat.eq_zero_or_pos q with hq | hq
 ·subst hq
  obtain rfl : ys = [] := List.eq_nil_of_length_eq_zero hR.1
  have hrun : (Builtin.append_ #[t, t] o.type #[.slice (some ⟨gl, 0, none⟩) 0 0, .slice A 0 c]).run P w = .ok (.slice (some ⟨gl, 0, none⟩) 0 0) w := by
   cases A with
   | none => simp [Builtin.append_, run_underlying ht, sizeOf, typeInfo, hi, Builtin.lenOf, Builtin.firstCells, storeCells]
   | some ad => simp [Builtin.append_, run_underlying ht, sizeOf, typeInfo, hi, Builtin.lenOf, Builtin.firstCells, storeCells, loadCells, loadCellsFrom]
  unfold Oper.wp execOp
  simp only [ho, resolve, invoke, builtin, Sem.run_bind, Sem.run_pure, Result.andThen_ok, List.map_toArray, List.map_cons, List.map_nil, hs, hx, hrun]
  refine h _ _ w ⟨fun k hk => ?_, [], hown, fun k y hy => by simp at hy⟩ (Below.refl _ _)
  have : gl = k := by simpa [Value.ownBlock] using hk
  subst this
  exact hSl
 obtain ⟨ad, rfl⟩ : ∃ ad, A = some ad := by
  obtain ⟨b, off, _, hA, _⟩ := hR.2.2 0 (ys[0]'(by rw [hR.1]; exact hq)) (List.getElem?_eq_getElem _)
  exact ⟨_, hA⟩
 obtain ⟨news, hl, hnews, h1, hrd⟩ := rows_news g hR
 have hsmall : q ≤ 9223372036854775807 := by simp only [maxLen] at h63; omega
 obtain ⟨v', w', hr, hown', _, _, hat⟩ := run_append_own_at (P := P) w base t o.type e i z m bytes ht hi hz hsize hby hzs hsz _ 0 [] hown ad q c news hl hnews h1 (by omega) (by rw [Nat.zero_add]; exact hbytes) hbase
 have hr2 := run_append_grow (P := P) (ty := o.type) w t e i z ht hi hz ⟨gl, 0, none⟩ 0 0 [] (by simp) (fun j v hv => by simp at hv) ad q c news (by rw [hsize]; exact hl) hnews (by omega) (by omega) (growslice_fits (by omega) (by rw [Nat.zero_add, hby]; exact hbytes))
 have hrr := hr.symm.trans hr2
 injection hrr with e1 e2
 have hb : Below w.heap.size w w' := by rw [e2]; exact bl_alloc (Below.refl _ _).drew _ (Nat.le_refl _)
 unfold Oper.wp execOp
 simp only [ho, resolve, invoke, builtin, Sem.run_bind, Sem.run_pure, Result.andThen_ok, List.map_toArray, List.map_cons, List.map_nil, hs, hx, hr]
 rw [Nat.zero_add] at e1
 rw [e1] at hown' ⊢
 refine h _ _ w' ⟨fun k hk => ?_, news, by rw [hR.1]; simpa using hown', fun k y hy => ?_⟩ hb
 ·have : w.heap.size = k := by simpa [Value.ownBlock] using hk
  subst this
  exact hS
 obtain ⟨vs, hv, hc⟩ := hrd k y hy
 exact ⟨vs, g.keep (hconv y vs hv) (Keeps.below hb), hc⟩
end Go.Proofs.YtkpbchnggdnmaaaGreat
