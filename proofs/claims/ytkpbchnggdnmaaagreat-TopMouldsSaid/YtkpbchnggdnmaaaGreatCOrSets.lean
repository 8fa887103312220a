/- A part of the proof that TopMoulds always answers true. -/
import Derived.Test.YtkpbchnggdnmaaaGreatCKRefC
import Derived.Test.YtkpbchnggdnmaaaGreatCOrProm
set_option linter.all false
namespace Go.Proofs.YtkpbchnggdnmaaaGreat
open Go.RowKit Go.Shelf Go.Maps Go.Sort
attribute [local go_sem] Oper.semAt_some
def worthO (s : Shop11) (t : List Int) : Int := (ordsL s t).foldl (fun n o => n + o.worth) 0
def worthJ (s : Shop11) (t : List Int) (j : Nat) : Int := ((ordsL s t).take j).foldl (fun n o => n + o.worth) 0
def setOk (s : Shop11) (wi bu st : Nat) : Bool := decide (st &&& wi = wi) && decide (st &&& bu = 0) && decide ((lateR s (ordsL s (bitL st))).2 = 0)
def setsU (s : Shop11) (wi bu n : Nat) : List (Nat × Int) := ((List.range n).filter (setOk s wi bu)).map fun st => (st, worthO s (bitL st))
theorem setsU_t {s : Shop11} {wi bu n : Nat} (h : setOk s wi bu n = true) : setsU s wi bu (n + 1) = setsU s wi bu n ++ [(n, worthO s (bitL n))] := by
 unfold setsU
 rw [List.range_succ, List.filter_append, List.map_append, List.filter_cons_of_pos (by exact h)]; rfl
theorem setsU_f {s : Shop11} {wi bu n : Nat} (h : setOk s wi bu n = false) : setsU s wi bu (n + 1) = setsU s wi bu n := by
 unfold setsU
 rw [List.range_succ, List.filter_append, List.map_append, List.filter_cons_of_neg (by rw [h]; exact Bool.false_ne_true), List.filter_nil, List.map_nil, List.append_nil]
theorem setsU_pre (s : Shop11) (wi bu : Nat) {m n : Nat} (h : m ≤ n) : ∃ r, setsU s wi bu n = setsU s wi bu m ++ r := by
 induction n with
 | zero =>
  obtain rfl : m = 0 := by omega
  exact ⟨[], by simp⟩
 | succ n ih =>
  by_cases e : m = n + 1
  ·subst e; exact ⟨[], by simp⟩
  obtain ⟨r, hr⟩ := ih (by omega)
  cases h1 : setOk s wi bu n with
  | true => exact ⟨r ++ [(n, worthO s (bitL n))], by rw [setsU_t h1, hr, List.append_assoc]⟩
  | false => exact ⟨r, by rw [setsU_f h1, hr]⟩
theorem setsU_get {s : Shop11} {wi bu k n : Nat} (h : setOk s wi bu k = true) (hk : k < n) : (setsU s wi bu n)[(setsU s wi bu k).length]? = some (k, worthO s (bitL k)) := by
 obtain ⟨r, hr⟩ := setsU_pre s wi bu (show k + 1 ≤ n by omega)
 rw [hr, setsU_t h, List.append_assoc, List.getElem?_append_right (Nat.le_refl _), Nat.sub_self]; rfl
theorem bit_taken {s : Shop11} {st : Nat} (h : st < 2 ^ s.orders.length) : TakenOk s (bitL st) := by
 unfold bitL bitU
 refine ⟨fun i hi => ?_, ?_⟩
 ·obtain ⟨k, hk, rfl⟩ := List.mem_map.1 hi
  have ht := (List.mem_filter.1 hk).2
  have hlt : k < s.orders.length := by
   by_cases hc : k < s.orders.length
   ·exact hc
   have := Nat.testBit_lt_two_pow (Nat.lt_of_lt_of_le h (Nat.pow_le_pow_right (by decide) (show s.orders.length ≤ k by omega)))
   rw [this] at ht; cases ht
  omega
 refine List.Pairwise.map _ (fun a b hab => ?_) ((List.pairwise_lt_range (n := 8)).filter _)
 omega
theorem worthJ_snoc (s : Shop11) (t : List Int) {j : Nat} {o : Ord11} (h : (ordsL s t)[j]? = some o) : worthJ s t (j + 1) = worthJ s t j + o.worth := by
 unfold worthJ
 rw [take_snoc_get h, List.foldl_append]; rfl
theorem worthJ_bd {s : Shop11} {t : List Int} (hl : ∀ o ∈ ordsL s t, OrdOk s o) (h9 : (ordsL s t).length ≤ 9) (j : Nat) : 0 ≤ worthJ s t j ∧ worthJ s t j ≤ 90000 := by
 have key : ∀ (xs : List Ord11) (a : Int), (∀ o ∈ xs, OrdOk s o) → a ≤ xs.foldl (fun n o => n + o.worth) a ∧ xs.foldl (fun n o => n + o.worth) a ≤ a + 10000 * (xs.length : Int) := by
  intro xs
  induction xs with
  | nil => intro a _; simp
  | cons x l ih =>
   intro a h
   have h1 := ih (a + x.worth) (fun y hy => h y (by simp [hy]))
   have h2 := (h x (by simp)).2.2.2
   rw [List.foldl_cons, List.length_cons]
   push_cast
   omega
 have := key ((ordsL s t).take j) 0 (fun o ho => hl o (List.mem_of_mem_take ho))
 have h2 : ((ordsL s t).take j).length ≤ 9 := by rw [List.length_take]; omega
 unfold worthJ
 omega
def encS (x : Nat × Int) : Array Value := #[.int .i64 (x.1 : Int), .int .i64 x.2]
theorem eg_sets1 : Enters Tryz.prog 91 := enters_of Tryz.func91 (by kernel_rfl) rfl
def SetsInv (gS gW gB B g kb : Nat) (H : Option Addr) (hn hc : Nat) (P : Option Addr) (pn pc : Nat) (Q : Option Addr) (on oc wi bu : Nat) (s : Shop11) (w : World) : Prop :=
 Blk w gS 90 #[.pointer (some ⟨g, 0, none⟩)] ∧ Blk w gW 3 #[.int .i64 (wi : Int)] ∧ Blk w gB 3 #[.int .i64 (bu : Int)] ∧ LookK w B g kb H hn hc P pn pc Q on oc s
theorem osets_any {g : Nat} {wi bu : Int} (w : World) : Calls Tryz.prog 62 #[.pointer (some ⟨g, 0, none⟩), .int .i64 wi, .int .i64 bu] w fun e w' => e = .returned (.func (.func 91) #[] #[.pointer (some ⟨w.heap.size, 0, none⟩), .pointer (some ⟨w.heap.size + 1, 0, none⟩), .pointer (some ⟨w.heap.size + 1 + 1, 0, none⟩)]) ∧ w' = ((w.alloc (.cells #[.pointer (some ⟨g, 0, none⟩)] 90)).alloc (.cells #[.int .i64 wi] 3)).alloc (.cells #[.int .i64 bu] 3) := by
 go_enter Tryz.func62, Tryz.ntmps62
 go_wp2
 go_ret
 exact ⟨by simp, rfl⟩
theorem infoOrd4 : (Tryz.prog.info? 61).map (fun i => (i.zero, i.size, i.bytes)) = some (some (.agg #[.int .i64 0, .int .i64 0, .int .i64 0, .int .i64 0]), 4, 32) := by kernel_rfl
set_option maxRecDepth 100000 in
set_option maxHeartbeats 4000000 in
theorem sets_seq {s : Shop11} {gS gW gB B g kb N wi bu : Nat} {H : Option Addr} {hn hc : Nat} {P : Option Addr} {pn pc : Nat} {Q : Option Addr} {on oc : Nat} (hok : Ok11 s) (hwi : ∀ k : Nat, k < 256 → bits BinOp.and IntKind.i64 (k : Int) (wi : Int) = ((k &&& wi : Nat) : Int)) (hbu : ∀ k : Nat, k < 256 → bits BinOp.and IntKind.i64 (k : Int) (bu : Int) = ((k &&& bu : Nat) : Int)) (hN : N ≤ 800000) :
  SeqM Tryz.prog 91 #[.pointer (some ⟨gS, 0, none⟩), .pointer (some ⟨gW, 0, none⟩), .pointer (some ⟨gB, 0, none⟩)] encS (setsU s wi bu (2 ^ on)) (SetsInv gS gW gB B g kb H hn hc P pn pc Q on oc wi bu s) (fun k => k = kb) (fun w => MapC s w kb N) (fun w => MapC s w kb (N + 5120)) := by
 intro lp O0 J Jx W hO0 hOM hMl hS0 hInv hJ hJx hR h0
 obtain ⟨I1, I2, I3, I4⟩ := hInv W (Kept.refl _ _)
 obtain ⟨U0, uc0, XG, SG, _⟩ := I4.st
 have hon : s.orders.length = on := SG.os.len
 have ho8 : on ≤ 8 := by have := hok.no; omega
 have hole := SG.os.le
 obtain ⟨TT, hTT⟩ : ∃ q, 2 ^ on = q := ⟨_, rfl⟩
 have hT256 : TT ≤ 256 := by rw [← hTT]; exact Nat.pow_le_pow_right (by decide) ho8
 have hsh : IntKind.i64.wrap (2 ^ on) = (TT : Int) := by
  have : ((2 : Int) ^ on) = ((2 ^ on : Nat) : Int) := by push_cast; rfl
  rw [this, hTT, IntKind.wrap_i64]; omega
 have HTT := Lib.hid hTT
 have hkb : kb < W.heap.size := hS0.lt
 have HR := Lib.hid hR
 have HJ0 := Lib.hid h0
 have HON := Lib.hid hon
 have HWI := Lib.hid hwi
 have HBU := Lib.hid hbu
 have c1 := I1.cell 0
 have c2 := XG.cell 2
 have HS0 := Lib.hid hS0
 obtain ⟨i0, hi0, hz0, hz1, hz2⟩ := info_parts infoOrd4
 clear hR h0 hon I1 I2 I3 I4 XG SG hwi hbu hTT hS0
 rw [app13]
 refine (callsIn_wide (n := 1)).1 ?_
 refine callsIn_of_wp Tryz.func91 rfl trivial ?_ rfl
 simp only [Tryz.ntmps91, List.size_toArray, List.length_cons, List.length_nil, Nat.reduceAdd, Nat.reduceSub, Array.replicate_succ, Array.replicate_zero, List.push_toArray, List.append_toArray, List.nil_append, List.cons_append]
 refine wpIn_wide.2 (wp_scope_straight ((wpIn_wide (n := 1)).1 ?_))
 gi_wp2_with fail
 refine wpIn_label ?_
 gi_wp2_with fail
 clear c1 c2
 gi_loopw [17] (fun i' wr => ∃ (k : Nat) (O1 : Foot), i' = .int .i64 k ∧ k ≤ TT ∧ Hid (Kept (fun k => O0 k ∨ k = kb ∨ W.heap.size ≤ k) W wr) ∧ Hid (∀ k, O1 k → O0 k ∨ (W.heap.size ≤ k ∧ k < wr.heap.size)) ∧ Hid (J (setsU s wi bu k).length O1 wr) ∧ Hid (MapC s wr kb (N + 20 * k))) (fun i' _ => TT - (intOf i').toNat)
 case atStart => exact ⟨0, O0, rfl, Nat.zero_le _, Kept.refl _ _, fun k hk => .inl hk, HJ0.out, HS0.out⟩
 case round =>
  obtain ⟨wo, hwo⟩ : ∃ V, V = wr := ⟨_, rfl⟩
  rw [← hwo] at hrel ⊢
  clear hwo
  obtain ⟨k, O1, rfl, hk, HK, HO, HJ, HM⟩ := hrel
  by_cases hlt : k < TT
  ·have hki : (k : Int) < TT := by omega
   have hlt2 := Lib.hid hlt
   have hk256 : k < 256 := by omega
   obtain ⟨J1, J2, J3, J4⟩ := hInv wo HK.out
   have c2 := J2.cell 0
   have c3 := J3.cell 0
   clear J1 J2 J3 J4
   have ha := HWI.out k hk256
   have hb := HBU.out k hk256
   obtain ⟨aw, haw⟩ : ∃ q, k &&& wi = q := ⟨_, rfl⟩
   obtain ⟨ab, hab⟩ : ∃ q, k &&& bu = q := ⟨_, rfl⟩
   rw [haw] at ha
   rw [hab] at hb
   have HAW := Lib.hid haw
   have HAB := Lib.hid hab
   clear haw hab
   have hle : k + 1 ≤ TT := hlt
   by_cases h1 : aw = wi
   ·have h1i : (aw : Int) = wi := by omega
    have h1a : ((aw : Int) == (wi : Int)) = true := by simp [h1i]
    have h1b : ((aw : Int) != (wi : Int)) = false := by simp [h1i]
    have H1 := Lib.hid h1
    clear h1 h1i
    by_cases h2 : ab = 0
    ·have h2a : ((ab : Int) == 0) = true := by simpa using h2
     have h2b : ((ab : Int) != 0) = false := by simpa using h2
     have H2 := Lib.hid h2
     clear h2
     have HLIST := Lib.hid (olist_any k wo hk256)
     gi_wp2_with fail
     refine ⟨trivial, ?_⟩
     refine (callsIn_wide.2 HLIST.out).mono ?_
     rintro e V1 ⟨⟨A', c', rfl, hIL⟩, hgrw⟩
     obtain ⟨t, ht⟩ : ∃ t, bitL k = t := ⟨_, rfl⟩
     rw [ht] at hIL
     have htk : TakenOk s t := by rw [← ht]; exact bit_taken (by rw [HON.out, HTT.out]; exact hlt2.out)
     obtain ⟨q, hq⟩ : ∃ q, t.length = q := ⟨_, rfl⟩
     rw [ht, hq]
     rw [hq] at hIL
     have hq8 : q ≤ 9 := by
      have := ords_len hok htk
      rw [ordsL, List.length_map, hq] at this
      exact this
     have hql : (ordsL s t).length = q := by rw [ordsL, List.length_map, hq]
     have HQL := Lib.hid hql
     have HTE := Lib.hid ht
     have HTK := Lib.hid htk
     have HLO := Lib.hid (ords_ok hok htk)
     have HL9 := Lib.hid (ords_len hok htk)
     have HIL : Hid (∀ V, Below V1.heap.size V1 V → Ints (fun q => wo.heap.size ≤ q) V A' q t) := fun V hb => hIL.keep IntR.good (Keeps.below hb)
     have hB1 : Below wo.heap.size wo V1 := hgrw.2
     have HB1 := Lib.hid hB1
     have hq9 := hIL.le
     have h1z := hB1.size
     have HKV : Hid (∀ V, Below V1.heap.size V1 V → Kept (fun k => O0 k ∨ k = kb ∨ W.heap.size ≤ k) W V) := fun V hb => HK.out.trans (Kept.of_bl (bl_call HB1.out hb (Nat.le_refl _)))
     clear ht htk hq hql hIL hgrw hB1 HLIST c2 c3 ha hb h1a h1b h2a h2b
     gi_wp2_with fail
     gi_loopw [6, 7, 34] (fun wv l i' wr => ∃ (j lc : Nat) (L : Option Addr) (v : Int), j ≤ q ∧ i' = .int .i64 j ∧ wv = .int .i64 v ∧ l = .slice L j lc ∧ Hid (v = worthJ s t j) ∧ Hid (Below V1.heap.size V1 wr) ∧ Hid (OwnL OrR11 4 (fun _ => False) wr V1.heap.size 61 (.slice L j lc) ((ordsL s t).take j))) (fun _ _ i' _ => q - (intOf i').toNat)
     case atStart => exact ⟨0, 0, none, 0, Nat.zero_le _, rfl, rfl, rfl, rfl, Below.refl _ _, OwnL.nil _ _ _ _ _ _⟩
     case round =>
      obtain ⟨wi', hwi'⟩ : ∃ V, V = wr := ⟨_, rfl⟩
      rw [← hwi'] at hrel ⊢
      clear hwi'
      obtain ⟨j, lc, L, v, hj, rfl, rfl, rfl, HV, HBi, HOi⟩ := hrel
      obtain ⟨J1, J2, J3, J4⟩ := hInv wi' (HKV.out wi' HBi.out)
      by_cases hjt : j < q
      ·have hji : (j : Int) < q := by omega
       obtain ⟨b, off, x, rfl, hcx, Hx⟩ := Ints.get (HIL.out wi' HBi.out) hjt
       have hxb := HTK.out.1 x (List.mem_of_getElem? Hx.out)
       obtain ⟨p, rfl⟩ : ∃ p : Nat, x = p := ⟨x.toNat, by omega⟩
       have hpo : p < on := by have := HON.out; omega
       have hpi : (p : Int) < on := by omega
       obtain ⟨U, uc, XG, SG, _⟩ := J4.st
       obtain ⟨b2, off2, a, z, y, u, hQ, hbb, hc0, hc1, hc2, hc3, Hy⟩ := Ords11.get SG.os hpo
       subst hQ
       have c1 := J1.cell 0
       have g2 := XG.cell 2
       have HOX : Hid ((ordsL s t)[j]? = some ⟨a, z, y, u⟩) := by
        unfold ordsL
        rw [Hid, List.getElem?_map, Hx.out]
        show some (s.orders.getD (p : Int).toNat dOrd) = _
        rw [Int.toNat_natCast, getD_of Hy.out]
       have hub := (HLO.out _ (List.mem_of_getElem? HOX.out)).2.2.2
       have hvb := worthJ_bd HLO.out HL9.out j
       rw [← HV.out] at hvb
       dsimp only at hub
       obtain ⟨nv, hnv⟩ : ∃ n, v + u = n := ⟨_, rfl⟩
       have w1 : IntKind.i64.wrap (v + u) = nv := by rw [hnv, IntKind.wrap_i64]; omega
       have HNV : Hid (nv = worthJ s t (j + 1)) := by rw [Hid, worthJ_snoc s t HOX.out, ← HV.out, ← hnv]
       have HTN : Hid ((ordsL s t).take (j + 1) = (ordsL s t).take j ++ [⟨a, z, y, u⟩]) := take_snoc_get HOX.out
       have HLn : Hid (((ordsL s t).take j).length = j) := by rw [Hid, List.length_take, HQL.out]; omega
       have hzi := HBi.out.size
       clear hxb hub hvb hnv XG SG J1 J2 J3 J4
       gi_wp2_with (gi_at_builtin; refine wpListIn_append_n _ rfl (.tmp 49) (.tmp 58) _ rfl OrR11.good V1.heap.size 61 i0 _ 32 Tryz.underlying29 hi0 hz0 hz1 hz2 rfl (by omega) _ _ ⟨a, z, y, u⟩ j HLn.out rfl (HOi.out.alloc OrR11.good _) ⟨_, 0, none⟩ 1 [.int .i64 a, .int .i64 z, .int .i64 y, .int .i64 u] rfl rfl (news_new rfl rfl) ?c1 ?c2 ?c3 (fun h => h) ?_)
       case c1 => simp only [maxLen]; omega
       case c2 => omega
       case c3 => simp; omega
       intro A2 cap2 w2 hO2 hg2 _
       have HB2 : Hid (Below V1.heap.size V1 w2) := bl_grown (bl_alloc HBi.out _ (Nat.le_refl _)) (HOi.out.alloc OrR11.good _) hg2 (Nat.le_refl _) (Nat.le_refl _)
       have HO2 : Hid (OwnL OrR11 4 (fun _ => False) w2 V1.heap.size 61 (.slice (some ⟨A2, 0, none⟩) (j + 1) cap2) ((ordsL s t).take (j + 1))) := by rw [Hid, HTN.out]; exact hO2
       clear hO2 hg2 hcx hc0 hc1 hc2 hc3 c1 g2 w1
       gi_wp2_with fail
       exact ⟨⟨j + 1, cap2, _, nv, by omega, by go_num, rfl, rfl, HNV.out, HB2.out, HO2.out⟩, by simp [intOf]; omega⟩
      obtain rfl : j = q := by omega
      have hzi := HBi.out.size
      have c1 := J1.cell 0
      have HMi : Hid (MapC s wi' kb (N + 20 * k)) := (HM.out.bl HB1.out).bl (HBi.out.mono (by omega))
      have hkw : kb < W.heap.size := hkb
      have hLKw : LookK wi' wi'.heap.size g kb H hn hc P pn pc Q on oc s := J4.mono J4.le (Nat.le_refl _)
      have hORD : Ords11 (fun q => q ≠ kb ∧ q < wi'.heap.size) wi' L j (ordsL s t) := by
       have h1 := HOi.out.slice (T := fun q => q ≠ kb) OrR11.good rfl (by simp only [maxLen]; omega) (fun _ h => h.elim) (fun q h _ e => by have := HM.out.lt; omega)
       rw [List.take_of_length_le (by rw [HQL.out]; exact Nat.le_refl _)] at h1
       exact h1.bound OrR11.good
      have hcall := ocan_any (lc := lc) hok HLO.out HL9.out (N := N + 20 * k) (by omega) wi' hLKw HMi.out hORD
      obtain ⟨cv, hcv⟩ : ∃ c, decide ((lateR s (ordsL s t)).2 = 0) = c := ⟨_, rfl⟩
      rw [hcv] at hcall
      have HCV := Lib.hid hcv
      have HC := Lib.hid hcall
      have HWV : Hid (v = worthO s (bitL k)) := by
       rw [Hid, HV.out, HTE.out, worthJ, worthO, List.take_of_length_le (by rw [HQL.out]; exact Nat.le_refl _)]
      clear hLKw hORD hcall hcv J1 J2 J3 J4
      gi_wp2_with fail
      refine ⟨trivial, ?_⟩
      refine (callsIn_wide.2 HC.out).mono ?_
      rintro e V ⟨rfl, hKV, hMV⟩
      have HKV2 := Lib.hid hKV
      have HMV := Lib.hid hMV
      have hz2 := hKV.size
      clear hKV hMV HC c1
      have HKA : Hid (Kept (fun k => O0 k ∨ k = kb ∨ W.heap.size ≤ k) W V) := (HKV.out wi' HBi.out).seq HKV2.out (fun q _ h => .inr (.inl h))
      have HON2 : Hid (∀ q, O1 q → q ≠ kb) := fun q hq e => (HO.out q hq).elim (fun h => hOM q h e) (fun h => by omega)
      have HO1l : Hid (∀ q, O1 q → q < wo.heap.size) := fun q hq => (HO.out q hq).elim (fun h => by have := hO0 q h; have := HK.out.size; omega) (fun h => h.2)
      have HJV : Hid (J (setsU s wi bu k).length O1 V) := by
       refine hJ _ O1 wo V HJ.out HO1l.out ?_
       have h1 : Kept (fun q => q = kb) wo V := (Kept.of_bl (bl_call HB1.out HBi.out (Nat.le_refl _))).trans HKV2.out
       exact h1.mono fun q _ h hq => HON2.out q hq h
      have HOV : Hid (∀ q, O1 q → O0 q ∨ (W.heap.size ≤ q ∧ q < V.heap.size)) := fun q hq => (HO.out q hq).imp id (fun h => ⟨h.1, by omega⟩)
      cases cv with
      | false =>
       gi_wp2_with fail
       have HU : Hid (setsU s wi bu (k + 1) = setsU s wi bu k) := setsU_f (by unfold setOk; rw [HTE.out, HCV.out, Bool.and_false])
       exact ⟨⟨k + 1, O1, by go_num, hle, HKA.out, HOV.out, by rw [HU.out]; exact HJV.out, HMV.out.mono (by omega)⟩, by simp [intOf]; omega⟩
      | true =>
       have hok1 : setOk s wi bu k = true := by unfold setOk; rw [HAW.out, HAB.out, HTE.out, HCV.out, H1.out, H2.out]; simp
       have HU : Hid (setsU s wi bu (k + 1) = setsU s wi bu k ++ [(k, worthO s (bitL k))]) := setsU_t hok1
       have HEN : Hid (encS (k, worthO s (bitL k)) = #[.int .i64 (k : Int), .int .i64 v]) := by rw [Hid, ← HWV.out]; rfl
       obtain ⟨fn, tmps, assign, body, hy, hRd⟩ := HR.out _ _ O1 V (setsU_get hok1 (by rw [HTT.out]; exact hlt2.out)) HJV.out (fun q hq => by have := HO1l.out q hq; omega) (fun q hq => (HO.out q hq).imp id (fun h => h.1)) HKA.out (HMV.out.mono (by omega)) 0
       rw [HEN.out] at hy
       have HRD := Lib.hid hRd
       clear hRd hok1
       gi_wp2_with fail
       refine HRD.out.mono ?_
       clear HRD hy
       rintro e B2 ⟨O2, hO2, hKB, hcase⟩
       have hz3 := hKB.size
       have HKB : Hid (Kept (fun k => O0 k ∨ k = kb ∨ W.heap.size ≤ k) W B2) := HKA.out.seq hKB (fun q _ h => (HO.out q h).elim .inl (fun h => .inr (.inr h.1)))
       have HOB : Hid (∀ q, O2 q → O0 q ∨ (W.heap.size ≤ q ∧ q < B2.heap.size)) := fun q hq => (hO2 q hq).elim (fun h => (HO.out q h).imp id (fun h => ⟨h.1, by omega⟩)) (fun h => .inr ⟨by have := HK.out.size; omega, h.2⟩)
       have HMB : Hid (MapC s B2 kb (N + 20 * (k + 1))) := (HMV.out.at (hKB.block kb HMV.out.lt (fun h => HON2.out kb h rfl))).mono (by omega)
       have HLN : Hid ((setsU s wi bu (k + 1)).length = (setsU s wi bu k).length + 1) := by rw [Hid, HU.out, List.length_append]; rfl
       clear hO2 hKB
       rcases hcase with ⟨rfl, hj'⟩ | ⟨rfl, hx'⟩
       ·have HJB := Lib.hid hj'
        clear hj'
        gi_wp2_with fail
        exact ⟨⟨k + 1, O2, by go_num, hle, HKB.out, HOB.out, by rw [HLN.out]; exact HJB.out, HMB.out⟩, by simp [intOf]; omega⟩
       gi_wp2
       (try simp only [Exit.inBlock, Exit.then, Exit.noGoto]); refine bodyPost_ret (results_none rfl _ _ _) rfl ?_
       exact ⟨⟨_, rfl⟩, HKB.out, HMB.out.mono (by omega), O2, HOB.out, .inr hx'⟩
    have h2a : ((ab : Int) == 0) = false := by simpa using h2
    have h2b : ((ab : Int) != 0) = true := by simpa using h2
    have H2 := Lib.hid h2
    clear h2
    gi_wp2_with fail
    have HU : Hid (setsU s wi bu (k + 1) = setsU s wi bu k) := setsU_f (by unfold setOk; rw [HAB.out, decide_eq_false H2.out, Bool.and_false, Bool.false_and])
    exact ⟨⟨k + 1, O1, by go_num, hle, HK.out, HO.out, by rw [HU.out]; exact HJ.out, HM.out.mono (by omega)⟩, by simp [intOf]; omega⟩
   have h1i : ¬ (aw : Int) = wi := by omega
   have h1a : ((aw : Int) == (wi : Int)) = false := by simp [h1i]
   have h1b : ((aw : Int) != (wi : Int)) = true := by simp [h1i]
   have H1 := Lib.hid h1
   clear h1 h1i
   gi_wp2_with fail
   have HU : Hid (setsU s wi bu (k + 1) = setsU s wi bu k) := setsU_f (by unfold setOk; rw [HAW.out, decide_eq_false H1.out, Bool.false_and, Bool.false_and])
   exact ⟨⟨k + 1, O1, by go_num, hle, HK.out, HO.out, by rw [HU.out]; exact HJ.out, HM.out.mono (by omega)⟩, by simp [intOf]; omega⟩
  obtain rfl : k = TT := by omega
  gi_wp2
  (try simp only [Exit.inBlock, Exit.then, Exit.noGoto]); refine bodyPost_end (results_none rfl _ _ _) rfl ?_
  refine ⟨⟨_, rfl⟩, HK.out, HM.out.mono (by omega), O1, HO.out, .inl ?_⟩
  rw [HTT.out]
  exact HJ.out
end Go.Proofs.YtkpbchnggdnmaaaGreat
