/- A part of the proof that TopMeasured always answers true. -/
import Derived.Test.YtcnebekkbfajbaaGreatCKOut3
import Derived.Test.YtcnebekkbfajbaaGreatCRegion4
import Derived.Test.YtcnebekkbfajbaaGreatCScCut
set_option linter.all false
namespace Go.Proofs.YtcnebekkbfajbaaGreat
open Go.RowKit
theorem litFlat_get {α β : Type} {f : α → List β} {K : Nat} : ∀ {l : List α}, (∀ x ∈ l, (f x).length = K) → ∀ {n j : Nat} {v : α} {x : β}, l[n]? = some v → (f v)[j]? = some x → (l.flatMap f)[n * K + j]? = some x := by
 intro l
 induction l with
 | nil => intro _ n j v x h; simp at h
 | cons y l ih =>
  intro hK n j v x hv hx
  have hjK : j < K := by
   have h1 : j < (f v).length := by
    obtain ⟨h, _⟩ := List.getElem?_eq_some_iff.1 hx; exact h
   rw [hK v (List.mem_of_getElem? hv)] at h1; exact h1
  rw [List.flatMap_cons]
  cases n with
  | zero =>
   simp at hv; subst hv
   rw [Nat.zero_mul, Nat.zero_add, List.getElem?_append_left (by rw [hK _ List.mem_cons_self]; exact hjK)]
   exact hx
  | succ n =>
   simp at hv
   have hy := hK y List.mem_cons_self
   rw [List.getElem?_append_right (by rw [hy, Nat.succ_mul]; omega)]
   rw [hy, show (n + 1) * K + j - K = n * K + j by rw [Nat.succ_mul]; omega]
   exact ih (fun x hx => hK x (List.mem_cons_of_mem _ hx)) hv hx
theorem litFlat_len {α β : Type} {f : α → List β} {K : Nat} : ∀ {l : List α}, (∀ x ∈ l, (f x).length = K) → (l.flatMap f).length = l.length * K := by
 intro l
 induction l with
 | nil => intro _; simp
 | cons y l ih => intro h; rw [List.flatMap_cons, List.length_append, h y List.mem_cons_self, ih (fun x hx => h x (List.mem_cons_of_mem _ hx)), List.length_cons, Nat.succ_mul]; omega
theorem rows_news {α : Type} {R : Rd α} {m : Nat} (g : R.Good m) {S : Foot} {w : World} {ad : Addr} {q : Nat} {ys : List α} (h : SliceOf R m S w (some ad) q ys) :
  ∃ news : List Value, news.length = q * m ∧ (∀ j u, news[j]? = some u → w.cell? (ad.add j) = some u) ∧ (∀ u ∈ news, u.oneCell' = true) ∧ ∀ (k : Nat) y, ys[k]? = some y → ∃ vs, R S w y vs ∧ ∀ (j : Nat) u, vs[j]? = some u → news[k * m + j]? = some u := by
 have hex : ∀ k : Nat, ∃ vs : List Value, ∀ y, ys[k]? = some y → R S w y vs ∧ ∀ (j : Nat) u, vs[j]? = some u → w.cell? (ad.add (k * m + j)) = some u := fun k => by
  cases hy : ys[k]? with
  | none => exact ⟨[], fun y h => by cases h⟩
  | some y =>
   obtain ⟨b, off, vs, hA, _, _, hR, hc⟩ := h.2.2 k y hy
   injection hA with hA
   subst hA
   refine ⟨vs, fun y' hy' => ?_⟩
   injection hy' with hy'
   subst hy'
   refine ⟨hR, fun j u hu => ?_⟩
   have hadd : (⟨b, off, none⟩ : Addr).add (k * m + j) = ⟨b, off + k * m + j, none⟩ := by
    have : ∀ n, (⟨b, off, none⟩ : Addr).add n = ⟨b, off + n, none⟩ := fun n => by unfold Addr.add; split <;> simp_all
    rw [this, Nat.add_assoc]
   rw [hadd]
   exact hc j u hu
 obtain ⟨F, hF⟩ := Classical.axiomOfChoice hex
 have hys := h.1
 have hk : ∀ k, k < q → ∃ y, ys[k]? = some y := fun k hk => ⟨ys[k]'(by omega), List.getElem?_eq_getElem (by omega)⟩
 have hlen : ∀ k ∈ List.range q, (F k).length = m := fun k hk' => by
  obtain ⟨y, hy⟩ := hk k (List.mem_range.1 hk')
  exact g.len (hF k y hy).1
 refine ⟨(List.range q).flatMap F, by rw [litFlat_len hlen, List.length_range], fun j u hu => ?_, fun u hu => ?_, fun k y hy => ?_⟩
 ·have hj : j < q * m := by have := of_getq' hu; rw [litFlat_len hlen, List.length_range] at this; exact this
  have hm : 0 < m := Nat.pos_of_ne_zero (fun e => by subst e; simp at hj)
  have hkq : j / m < q := (Nat.div_lt_iff_lt_mul hm).2 hj
  obtain ⟨y, hy⟩ := hk _ hkq
  have hr : j % m < (F (j / m)).length := by rw [g.len (hF _ y hy).1]; exact Nat.mod_lt _ hm
  have h1 := litFlat_get hlen (List.getElem?_range hkq) (List.getElem?_eq_getElem hr)
  have hjm : j / m * m + j % m = j := by rw [Nat.mul_comm]; exact Nat.div_add_mod j m
  rw [hjm, hu] at h1
  injection h1 with h1
  have := (hF _ y hy).2 (j % m) _ (List.getElem?_eq_getElem hr)
  rw [hjm] at this
  rw [this, h1]
 ·obtain ⟨k, hk', hu⟩ := List.mem_flatMap.1 hu
  obtain ⟨y, hy⟩ := hk k (List.mem_range.1 hk')
  exact g.one (hF k y hy).1 u hu
 have hkq : k < q := by have := of_getq' hy; omega
 exact ⟨F k, (hF k y hy).1, fun j u hu => litFlat_get hlen (List.getElem?_range hkq) hu⟩
theorem wp_append_lit {P : Program} {o : Oper} {a : Act} {K : Act → World → Prop} {Q : Exit → Act → World → Prop} (w : World) (s x : Operand) (t : TypeId)
  (ho : o.op = .call { callee := .builtin .append, args := #[s, x], argTypes := #[t, t] })
  {α : Type} {R : Rd α} {m : Nat} (g : R.Good m) {T S : Foot} (base : Nat) (e : TypeId) (i : TypeInfo) (z : Value) (bytes : Nat) (ht : P.underlying t = some (.slice e)) (hi : P.info? e = some i) (hz : i.zero = some z)
  (hsize : i.size = m) (hby : i.bytes = bytes) (hzs : z.cells.size = m) (hsz : 0 < m)
  (gl : Nat) (hs : a.eval s = .slice (some ⟨gl, 0, none⟩) 0 0) (hBl : Blk w gl e #[]) (hgl : base ≤ gl)
  (A : Option Addr) (q c : Nat) (ys : List α) (hx : a.eval x = .slice A q c) (hR : SliceOf R m T w A q ys) (hconv : ∀ y vs, R T w y vs → R S w y vs)
  (h63 : q ≤ maxLen) (hbytes : q * bytes ≤ 140737488355328) (hbase : base ≤ w.heap.size) (hS : ¬ S w.heap.size) (hSl : ¬ S gl)
  (h : ∀ A' cap' w', OwnL R m S w' base e (.slice A' q cap') ys → Below w.heap.size w w' → K (a.put o.dst (.slice A' q cap')) w') : o.wp P a w K Q := by
 have hown : w.ownsRow base e m (.slice (some ⟨gl, 0, none⟩) 0 0) 0 [] := ⟨by simp, .inr ⟨gl, 0, #[], rfl, hgl, hBl, Nat.le_refl _, Nat.zero_le _, by simp, by simp⟩⟩
 rcases Nat.eq_zero_or_pos q with hq | hq
 ·subst hq
  obtain rfl : ys = [] := List.eq_nil_of_length_eq_zero hR.1
  have hrun : (Builtin.append_ #[t, t] o.type #[.slice (some ⟨gl, 0, none⟩) 0 0, .slice A 0 c]).run P w = .ok (.slice (some ⟨gl, 0, none⟩) 0 0) w := by
   cases A with
   | none => simp [Builtin.append_, run_underlying ht, sizeOf, typeInfo, hi, Builtin.lenOf, Builtin.firstCells, storeCells]
   | some ad => simp [Builtin.append_, run_underlying ht, sizeOf, typeInfo, hi, Builtin.lenOf, Builtin.firstCells, storeCells, loadCells, loadCellsFrom]
  unfold Oper.wp execOp
  simp only [ho, resolve, invoke, builtin, Sem.run_bind, Sem.run_pure, Result.andThen_ok, List.map_toArray, List.map_cons, List.map_nil, hs, hx, hrun]
  refine h _ _ w ⟨fun k hk => ?_, [], hown, fun k y hy => by simp at hy⟩ (Below.refl _ _)
  have : gl = k := by simpa [Value.ownBlock] using hk
  subst this
  exact hSl
 obtain ⟨ad, rfl⟩ : ∃ ad, A = some ad := by
  obtain ⟨b, off, _, hA, _⟩ := hR.2.2 0 (ys[0]'(by rw [hR.1]; exact hq)) (List.getElem?_eq_getElem _)
  exact ⟨_, hA⟩
 obtain ⟨news, hl, hnews, h1, hrd⟩ := rows_news g hR
 have hsmall : q ≤ 9223372036854775807 := by simp only [maxLen] at h63; omega
 obtain ⟨v', w', hr, hown', _, _, hat⟩ := run_append_own_at (P := P) w base t o.type e i z m bytes ht hi hz hsize hby hzs hsz _ 0 [] hown ad q c news hl hnews h1 (by omega) (by rw [Nat.zero_add]; exact hbytes) hbase
 have hr2 := run_append_grow (P := P) (ty := o.type) w t e i z ht hi hz ⟨gl, 0, none⟩ 0 0 [] (by simp) (fun j v hv => by simp at hv) ad q c news (by rw [hsize]; exact hl) hnews (by omega) (by omega) (growslice_fits (by omega) (by rw [Nat.zero_add, hby]; exact hbytes))
 have hrr := hr.symm.trans hr2
 injection hrr with e1 e2
 have hb : Below w.heap.size w w' := by rw [e2]; exact bl_alloc (Below.refl _ _).drew _ (Nat.le_refl _)
 unfold Oper.wp execOp
 simp only [ho, resolve, invoke, builtin, Sem.run_bind, Sem.run_pure, Result.andThen_ok, List.map_toArray, List.map_cons, List.map_nil, hs, hx, hr]
 rw [Nat.zero_add] at e1
 rw [e1] at hown' ⊢
 refine h _ _ w' ⟨fun k hk => ?_, news, by rw [hR.1]; simpa using hown', fun k y hy => ?_⟩ hb
 ·have : w.heap.size = k := by simpa [Value.ownBlock] using hk
  subst this
  exact hS
 obtain ⟨vs, hv, hc⟩ := hrd k y hy
 exact ⟨vs, g.keep (hconv y vs hv) (Keeps.below hb), hc⟩
open Go.RowKit Go.Shelf
theorem infoInt5 : (Tryz.prog.info? 3).map (fun i => (i.zero, i.size, i.bytes)) = some (some (.int .i64 0), 1, 8) := by kernel_rfl
set_option maxRecDepth 100000 in
theorem sclone_any {b off n c : Nat} {xs : List Int} (w : World) (h : Ints (fun _ => True) w (some ⟨b, off, none⟩) n xs) (hn8 : n ≤ 8) :
  Calls Tryz.prog 46 #[.slice (some ⟨b, off, none⟩) n c] w fun e w' => (∃ A' c', e = .returned (.slice A' n c') ∧ OwnL IntR 1 (fun _ => False) w' w.heap.size 3 (.slice A' n c') xs) ∧ Below w.heap.size w w' := by
 obtain ⟨i0, hi0, hz0, hz1, hz2⟩ := info_parts infoInt5
 obtain ⟨W, hW⟩ : ∃ W, w.alloc (.cells #[] 3) = W := ⟨_, rfl⟩
 have X : Blk W w.heap.size 3 #[] := by rw [← hW]; exact Blk.new _ _ _ rfl
 have hBW : Below w.heap.size w W := by rw [← hW]; exact bl_alloc (Below.refl _ _) _ (Nat.le_refl _)
 have HX := Lib.hid X
 have HH : Hid (Ints (fun _ => True) W (some ⟨b, off, none⟩) n xs) := h.keep IntR.good (Keeps.below hBW)
 have hsz := hBW.size
 clear X h
 have he : ∀ V : World, (binOp .eql 22 (.slice (some ⟨b, off, none⟩) n c) (.slice none 0 0)).run Tryz.prog V = .ok (.bool false) V := fun _ => rfl
 go_enter Tryz.func46, Tryz.ntmps46
 go_wp2_with (at_builtin; go_loud (refine wpList_plain rfl (fun K hK => ?_)); go_loud (refine wp_append_lit W (.tmp 5) (.tmp 6) _ rfl IntR.good (T := fun _ => True) (S := fun _ => False) w.heap.size 3 i0 _ 8 Tryz.underlying22 hi0 hz0 hz1 hz2 rfl (by decide) w.heap.size rfl HX.out (Nat.le_refl _) _ n c xs rfl HH.out (fun y vs hr => hr) (by simp only [maxLen]; omega) (by omega) hsz (fun h => h) (fun h => h) ?_); intro A' cap' w' hO hB; refine hK _ _ ?_)
 have HO := Lib.hid hO
 have HB : Hid (Below w.heap.size w w') := bl_call hBW hB (Nat.le_refl _)
 clear hO hB hW
 go_wp2
 go_ret
 exact ⟨⟨_, _, rfl, HO.out⟩, HB.out⟩
theorem cut_ints {w : World} {g : Nat} {t : TypeId} {xs : List Int} (h : Blk w g t ((List.range 8).map fun i => Value.int .i64 (xs.getD i 0)).toArray) (hl : xs.length ≤ 8) : Ints (fun _ => True) w (some ⟨g, 0, none⟩) xs.length xs := by
 refine ⟨rfl, by simp only [maxLen]; omega, fun k x hx => ?_⟩
 have hk := of_getq' hx
 refine ⟨g, 0, [.int .i64 x], rfl, trivial, h.lt, rfl, fun j u hu => ?_⟩
 cases j with
 | succ j => simp at hu
 | zero =>
  simp at hu
  subst hu
  have := h.cell k
  rw [List.getElem?_toArray, List.getElem?_map, List.getElem?_range (by omega)] at this
  simp only [Option.map_some] at this
  rw [getD_of hx] at this
  simpa using this
theorem cutV_8 (xs : List Int) : ∃ v0 v1 v2 v3 v4 v5 v6 v7 : Int, cutV xs = .agg #[.int .i64 v0, .int .i64 v1, .int .i64 v2, .int .i64 v3, .int .i64 v4, .int .i64 v5, .int .i64 v6, .int .i64 v7] := ⟨_, _, _, _, _, _, _, _, rfl⟩
set_option maxRecDepth 100000 in
set_option maxHeartbeats 2000000 in
theorem scuts_any {c : Case5} {A B : Option Addr} {n ca m cb : Nat} {kd ba mo : Int} {z : Nat × Nat} (hok : Ok5 c) (hz : z ∈ scalesN) (w : World) (g : CaseAt (fun _ => True) w A n B m c) (h1 : c.kind = kd) (h2 : c.base = ba) (h3 : c.most = mo) :
  Calls Tryz.prog 10 #[.agg #[.int .i64 kd, .int .i64 ba, .int .i64 mo, .slice A n ca, .slice B m cb], .agg #[.int .i64 (z.1 : Int), .int .i64 (z.2 : Int)]] w fun e w' => (∃ A' c', e = .returned (.tuple #[.slice A' n c', .int .i64 0]) ∧ Ints (fun _ => True) w' A' n (cut5 c z)) ∧ Below w.heap.size w w' := by
 have HZ := Lib.hid hz
 have HOK := Lib.hid hok
 have hn8 : n ≤ 8 := by have := hok.nh; have := g.hs.len; omega
 have HN : Hid ((cut5 c z).length = n) := by rw [Hid, cut5, cutL, List.length_map, g.hs.len]
 have HM : Hid (modelV c A n ca B m cb = .agg #[.int .i64 kd, .int .i64 ba, .int .i64 mo, .slice A n ca, .slice B m cb, .func (.func (roundF c.kind)) #[] #[]]) := by rw [Hid, modelV, h1, h2, h3]
 obtain ⟨fr, hfr⟩ : ∃ f, roundF c.kind = f := ⟨_, rfl⟩
 rw [hfr] at HM
 obtain ⟨v0, v1, v2, v3, v4, v5, v6, v7, hv⟩ := cutV_8 (cut5 c z)
 have HV := Lib.hid hv
 obtain ⟨W, hW⟩ : ∃ W, (w.alloc (.cells #[.int .i64 kd, .int .i64 ba, .int .i64 mo, .slice A n ca, .slice B m cb] 25)).alloc (.cells #[.int .i64 (z.1 : Int), .int .i64 (z.2 : Int)] 42) = W := ⟨_, rfl⟩
 have X : Blk W w.heap.size 25 #[.int .i64 kd, .int .i64 ba, .int .i64 mo, .slice A n ca, .slice B m cb] := by rw [← hW]; exact (Blk.new _ _ _ rfl).alloc _
 have Y : Blk W (w.heap.size + 1) 42 #[.int .i64 (z.1 : Int), .int .i64 (z.2 : Int)] := by rw [← hW]; exact Blk.new _ _ _ (by simp)
 have hBW : Below w.heap.size w W := by rw [← hW]; exact bl_alloc (bl_alloc (Below.refl _ _) _ (Nat.le_refl _)) _ (Nat.le_refl _)
 have HG : Hid (∀ V, Below W.heap.size W V → CaseAt (fun _ => True) V A n B m c) := fun V hb => (g.bl hBW).bl hb
 have kk : Hid (∀ V, Below W.heap.size W V → V.cell? ⟨w.heap.size, 0, none⟩ = some (.int .i64 kd) ∧ V.cell? ⟨w.heap.size, 1, none⟩ = some (.int .i64 ba) ∧ V.cell? ⟨w.heap.size, 2, none⟩ = some (.int .i64 mo) ∧ V.cell? ⟨w.heap.size, 3, none⟩ = some (.slice A n ca) ∧ V.cell? ⟨w.heap.size, 4, none⟩ = some (.slice B m cb) ∧ V.cell? ⟨w.heap.size + 1, 0, none⟩ = some (.int .i64 (z.1 : Int)) ∧ V.cell? ⟨w.heap.size + 1, 1, none⟩ = some (.int .i64 (z.2 : Int))) :=
  fun V hb => ⟨(X.bl hb).cell 0, (X.bl hb).cell 1, (X.bl hb).cell 2, (X.bl hb).cell 3, (X.bl hb).cell 4, (Y.bl hb).cell 0, (Y.bl hb).cell 1⟩
 clear g X Y hok hz hv hfr
 obtain ⟨x0, x1, x2, x3, x4, y0, y1⟩ := kk.out W (Below.refl _ _)
 go_enter Tryz.func10, Tryz.ntmps10
 go_wp2_with fail
 clear x0 x1 x2 x3 x4 y0 y1 hW
 obtain ⟨U, hU⟩ : ∃ U, W.alloc (.cells #[.int .i64 (z.1 : Int), .int .i64 (z.2 : Int)] 42) = U := ⟨_, rfl⟩
 have hBU : Below W.heap.size W U := by rw [← hU]; exact bl_alloc (Below.refl _ _) _ (Nat.le_refl _)
 have SU : Blk U W.heap.size 42 #[.int .i64 (z.1 : Int), .int .i64 (z.2 : Int)] := by rw [← hU]; exact Blk.new _ _ _ rfl
 have hP : Pls (fun _ => True) U (some ⟨W.heap.size, 0, none⟩) 1 [z] := by
  refine ⟨rfl, by simp only [maxLen]; omega, fun k x hx => ?_⟩
  obtain rfl : k = 0 := by have := of_getq' hx; simpa using this
  obtain rfl : z = x := by simpa using hx
  exact ⟨W.heap.size, 0, _, rfl, trivial, SU.lt, rfl, fun j u hu => by
   rcases j with _ | _ | j
   ·simp at hu; subst hu; exact SU.cell 0
   ·simp at hu; subst hu; exact SU.cell 1
   simp at hu⟩
 rw [hU]
 refine (senter_any HOK.out (fun y hy => by rw [List.mem_singleton.1 hy]; exact HZ.out) U (HG.out U hBU) hP h1 h2 h3).mono ?_
 rintro e V1 ⟨rfl, b1⟩
 rw [HM.out]
 have HB1 : Hid (Below W.heap.size W V1) := bl_call hBU b1 (Nat.le_refl _)
 clear b1 hU SU hP hBU
 obtain ⟨gM, hgM⟩ : ∃ g, V1.heap.size = g := ⟨_, rfl⟩
 obtain ⟨U1, hU1⟩ : ∃ U, V1.alloc (.cells #[.int .i64 kd, .int .i64 ba, .int .i64 mo, .slice A n ca, .slice B m cb, .func (.func fr) #[] #[]] 104) = U := ⟨_, rfl⟩
 have HBU : Hid (Below W.heap.size W U1) := by rw [Hid, ← hU1]; exact bl_alloc HB1.out _ (Nat.le_refl _)
 have MU : Blk U1 gM 104 #[.int .i64 kd, .int .i64 ba, .int .i64 mo, .slice A n ca, .slice B m cb, .func (.func fr) #[] #[]] := by rw [← hU1]; exact Blk.new _ _ _ hgM.symm
 have m0 := MU.cell 0
 have m1 := MU.cell 1
 have m2 := MU.cell 2
 have m3 := MU.cell 3
 have m4 := MU.cell 4
 have m5 := MU.cell 5
 obtain ⟨x0, x1, x2, x3, x4, y0, y1⟩ := kk.out U1 HBU.out
 go_wp2_with fail
 clear x0 x1 x2 x3 x4 y0 y1 m0 m1 m2 m3 m4 m5 MU hU1 hgM
 have hcut := scut_any HOK.out HZ.out U1 (HG.out U1 HBU.out) (ca := ca) (cb := cb)
 rw [HM.out, HV.out] at hcut
 refine hcut.mono ?_
 rintro e V2 ⟨rfl, b2⟩
 have HB2 : Hid (Below W.heap.size W V2) := bl_call HBU.out b2 (Nat.le_refl _)
 clear b2 hcut
 obtain ⟨gC, hgC⟩ : ∃ g, V2.heap.size = g := ⟨_, rfl⟩
 obtain ⟨U2, hU2⟩ : ∃ U, V2.alloc (.cells #[.int .i64 v0, .int .i64 v1, .int .i64 v2, .int .i64 v3, .int .i64 v4, .int .i64 v5, .int .i64 v6, .int .i64 v7] 108) = U := ⟨_, rfl⟩
 have HBV : Hid (Below W.heap.size W U2) := by rw [Hid, ← hU2]; exact bl_alloc HB2.out _ (Nat.le_refl _)
 have CU : Hid (Blk U2 gC 108 #[.int .i64 v0, .int .i64 v1, .int .i64 v2, .int .i64 v3, .int .i64 v4, .int .i64 v5, .int .i64 v6, .int .i64 v7]) := by rw [Hid, ← hU2]; exact Blk.new _ _ _ hgC.symm
 obtain ⟨x0, x1, x2, x3, x4, y0, y1⟩ := kk.out U2 HBV.out
 have hni : (0 : Int) ≤ n := by omega
 have hni8 : (n : Int) ≤ 8 := by omega
 go_wp2_with fail
 clear x0 x1 x2 x3 x4 y0 y1 hU2 hgC
 have HI : Ints (fun _ => True) U2 (some ⟨gC, 0, none⟩) n (cut5 c z) := by
  have h := HV.out
  unfold cutV at h
  injection h with h
  have h2 := cut_ints (h ▸ CU.out) (by rw [HN.out]; exact hn8)
  rwa [HN.out] at h2
 refine (sclone_any U2 HI hn8).mono ?_
 rintro e V3 ⟨⟨A', c', rfl, hO⟩, b3⟩
 have HO := Lib.hid hO
 have HB3 : Hid (Below w.heap.size w V3) := bl_call hBW (bl_call HBV.out b3 (Nat.le_refl _)) (Nat.le_refl _)
 have hsU := HBV.out.size
 have hsW := hBW.size
 clear hO b3 HI
 go_wp2
 go_ret2
 exact ⟨⟨_, _, rfl, HO.out.slice IntR.good rfl (by simp only [maxLen]; omega) (fun _ h => h.elim) (fun _ _ _ => trivial)⟩, HB3.out⟩
end Go.Proofs.YtcnebekkbfajbaaGreat
