/- Walks: the laws' Awake. -/
import Derived.Test.YtkbpmcpmcmnfgaaDoorCBackPureA
import Derived.Test.YtkbpmcpmcmnfgaaDoorCRefB11
set_option linter.unusedVariables false
set_option linter.unusedSimpArgs false
set_option linter.all false
namespace Go.Proofs.YtkbpmcpmcmnfgaaDoor
open Go.RowKit

/-- does operation j write slot d, and none behind it? -/
def slotB : List Oper → Nat → Nat → Bool
  | [], _, _ => false
  | o :: l, d, 0 => (o.dst == some d) && l.all fun o' => !(o'.dst == some d)
  | _ :: l, d, j + 1 => slotB l d j
theorem fillA_size (l : List Oper) : ∀ (k : Nat) (vs : Nat → Value) (a : Act), (fillA l k vs a).tmps.size = a.tmps.size := by
  induction l with
  | nil => intros; rfl
  | cons o l ih => intro k vs a; rw [fillA, ih]; cases o.dst <;> simp [Act.put]
theorem put_other (a : Act) (x : Option Tmp) (d : Nat) (v : Value) (h : (x == some d) = false) : (a.put x v).tmps[d]? = a.tmps[d]? := by
  cases x with
  | none => rfl
  | some t =>
    have hne : t ≠ d := fun e => by rw [e] at h; simp at h
    simp only [Act.put]
    rw [Array.getElem?_setIfInBounds, if_neg hne]
theorem fillA_base (l : List Oper) : ∀ (k : Nat) (vs : Nat → Value) (a : Act) (d : Nat), (l.all fun o => !(o.dst == some d)) = true → (fillA l k vs a).tmps[d]? = a.tmps[d]? := by
  induction l with
  | nil => intros; rfl
  | cons o l ih =>
    intro k vs a d h
    rw [List.all_cons, Bool.and_eq_true] at h
    rw [fillA, ih (k + 1) vs _ d h.2, put_other a o.dst d _ (by simpa using h.1)]
theorem fillA_get (l : List Oper) : ∀ (k : Nat) (vs : Nat → Value) (a : Act) (d j : Nat), slotB l d j = true → d < a.tmps.size → (fillA l k vs a).tmps[d]? = some (vs (k + j)) := by
  induction l with
  | nil => intro k vs a d j h; cases h
  | cons o l ih =>
    intro k vs a d j h hd
    cases j with
    | zero =>
      rw [slotB, Bool.and_eq_true] at h
      rw [fillA, fillA_base l _ _ _ _ h.2]
      have e : o.dst = some d := by simpa using h.1
      rw [e]
      simp [Act.put, Array.getElem?_setIfInBounds, hd]
    | succ j =>
      rw [fillA, ih (k + 1) vs _ d j h (by cases o.dst <;> simpa [Act.put] using hd), show k + 1 + j = k + (j + 1) by omega]
theorem fillA_get0 {l : List Oper} {vs : Nat → Value} {a : Act} {d j : Nat} (h : slotB l d j = true) (hd : d < a.tmps.size) : (fillA l 0 vs a).tmps[d]? = some (vs j) := by
  have := fillA_get l 0 vs a d j h hd
  rwa [Nat.zero_add] at this
theorem fillA_base0 {l : List Oper} {vs : Nat → Value} {a : Act} {d : Nat} (h : (l.all fun o => !(o.dst == some d)) = true) : (fillA l 0 vs a).tmps[d]? = a.tmps[d]? := fillA_base l 0 vs a d h
theorem fillA_defers (l : List Oper) : ∀ (k : Nat) (vs : Nat → Value) (a : Act), (fillA l k vs a).defers = a.defers := by
  induction l with
  | nil => intros; rfl
  | cons o l ih => intro k vs a; rw [fillA, ih]; cases o.dst <;> rfl
theorem Fin1.none {P : Program} {ops : Array Oper} {C : World → Prop} {E : Nat → Value → World → Prop} {Q : Exit → Act → World → Prop} {a0 : Act} {m : Nat} (hm : ops.size ≤ m)
    (h : ∀ (vs : Nat → Value) (w : World) (a1 : Act), C w → (∀ i, i < m → E i (vs i) w) → a1 = fillA ops.toList 0 vs a0 → Q .normal a1 w) : Fin1 P ops C E Q a0 m := by
  intro vs w hC hE hU
  rw [Array.getElem?_eq_none hm]
  exact h vs w _ hC hE rfl
theorem wp_frame {c : Code} {P : Program} {Q : Exit → Act → World → Prop} {a : Act} {w : World} (h : ∀ a0 : Act, a0.tmps.size = a.tmps.size → (∀ i : Nat, a0.tmps[i]? = a.tmps[i]?) → a0.defers = a.defers → c.wp P Q a0 w) : c.wp P Q a w := h a rfl (fun _ => rfl) rfl
theorem ints_new (W : World) (t : TypeId) (cs : Array Value) (l : List Int) {B n : Nat} (hcs : cs = (l.map (Value.int .i64)).toArray) (hn : l.length = n) (hle : n ≤ maxLen) (hB : B ≤ W.heap.size) : Ints (fun k => B ≤ k) (W.alloc (.cells cs t)) (some ⟨W.heap.size, 0, none⟩) n l := by
  subst hcs
  exact (ints_of_cells hn hle (by simp) (fun k x hk => newc (by simp [hk]) rfl)).mono IntR.good (fun k hk => by rw [hk]; exact hB)
/-- a slice of lists, of blocks from one on -/
def IsRows (B : Nat) (l : List (List Int)) (v : Value) (W : World) : Prop := ∃ A' n' c', v = .slice A' n' c' ∧ Rows (fun k => B ≤ k) W A' n' l
theorem IsRows.bl {B : Nat} {l : List (List Int)} {v : Value} {W V : World} (h : IsRows B l v W) (hb : Below W.heap.size W V) : IsRows B l v V := by
  obtain ⟨A', n', c', e, h⟩ := h
  exact ⟨A', n', c', e, h.keep (SlR.good IntR.good) (Keeps.below hb)⟩
theorem rows_new (W : World) {B n : Nat} {A : Option Addr} {c : Nat} {l : List Int} {t : TypeId} (h : Ints (fun k => B ≤ k) W A n l) (hB : B ≤ W.heap.size) : Rows (fun k => B ≤ k) (W.alloc (.cells #[.slice A n c] t)) (some ⟨W.heap.size, 0, none⟩) 1 [l] := by
  refine ⟨rfl, by decide, fun k x hx => ?_⟩
  have hk : k = 0 := by have := of_getq' hx; simp at this; omega
  subst hk
  simp at hx
  subst hx
  exact ⟨W.heap.size, 0, [.slice A n c], rfl, hB, by simp, ⟨A, n, c, rfl, h.keep IntR.good (Keeps.alloc _ _)⟩, fun j u hu => by
    cases j with
    | zero => simp at hu; subst hu; exact newc rfl rfl
    | succ j => simp at hu⟩

set_option maxRecDepth 100000 in
set_option maxHeartbeats 8000000 in
theorem awake_any (w : World) (htab : TabOk w) :
    Calls Tryd.prog 25 #[] w fun e w' => e = .returned (.bool true) ∧ Below w.heap.size w w' := by
  go_enter Tryd.func25, Tryd.ntmps25
  go_wp2_with fail
  refine (claim_any (S := fun _ => True) (l := []) _ (.inl ⟨rfl, rfl, rfl, rfl⟩)).mono ?_
  rintro e w1 ⟨A1, B1, C1, ca1, cb1, cc1, rfl, ha1, hb1, hc1, hk1⟩
  go_wp2_with fail
  refine (one_any 2 47 _).mono ?_
  rintro e w2 ⟨M2, m2, rfl, hM2, hk2⟩
  go_wp2_with fail
  refine (claim_any (l := [⟨2, 47⟩]) _ (.inr ⟨rfl, 2, 47, rfl, hM2⟩)).mono ?_
  rintro e w3 ⟨A2, B2, C2, ca2, cb2, cc2, rfl, ha2, hb2, hc2, hk3⟩
  go_wp2_with fail
  refine (one_any 0 1010 _).mono ?_
  rintro e w4 ⟨M3, m3, rfl, hM3, hk4⟩
  go_wp2_with fail
  refine (claim_any (l := [⟨0, 1010⟩]) _ (.inr ⟨rfl, 0, 1010, rfl, hM3⟩)).mono ?_
  rintro e w5 ⟨A3, B3, C3, ca3, cb3, cc3, rfl, ha3, hb3, hc3, hk5⟩
  have hB5 : Below w.heap.size w w5 := bl_call (bl_call (bl_call (bl_call hk1 hk2 (Nat.le_refl _)) hk3 (Nat.le_refl _)) hk4 (Nat.le_refl _)) hk5 (Nat.le_refl _)
  have hd1 : ClaimAt (fun _ => True) w5 A1 3 B1 3 C1 2 (claimC []) := (hc1.mono' (fun _ _ => trivial)).keep (Keeps.below (bl_call (bl_call (bl_call hk2 hk3 (Nat.le_refl _)) hk4 (Nat.le_refl _)) hk5 (Nat.le_refl _)))
  have hd2 : ClaimAt (fun _ => True) w5 A2 3 B2 3 C2 3 (claimC [⟨2, 47⟩]) := (hc2.mono' (fun _ _ => trivial)).keep (Keeps.below (bl_call hk4 hk5 (Nat.le_refl _)))
  have hd3 : ClaimAt (fun _ => True) w5 A3 3 B3 3 C3 3 (claimC [⟨0, 1010⟩]) := hc3.mono' (fun _ _ => trivial)
  have ht5 := htab.bl hB5
  clear hc1 hc2 hc3 hM2 hM3 hk1 hk2 hk3 hk4 hk5 htab
  go_wp2_with fail
  obtain ⟨W0, hW0⟩ : ∃ W0, ((w5.alloc (.cells #[.slice A1 3 ca1, .slice B1 3 cb1, .slice C1 2 cc1] 26)).alloc (.cells #[.slice A2 3 ca2, .slice B2 3 cb2, .slice C2 3 cc2] 26)).alloc (.cells #[.slice A3 3 ca3, .slice B3 3 cb3, .slice C3 3 cc3] 26) = W0 := ⟨_, rfl⟩
  have h50 : Below w5.heap.size w5 W0 := by rw [← hW0]; exact bl_alloc (bl_alloc (bl_alloc (Below.refl _ _) _ (Nat.le_refl _)) _ (Nat.le_refl _)) _ (Nat.le_refl _)
  have X1 : Blk W0 w5.heap.size 26 #[.slice A1 3 ca1, .slice B1 3 cb1, .slice C1 2 cc1] := by rw [← hW0]; exact ((Blk.new _ _ _ rfl).alloc _).alloc _
  have X2 : Blk W0 (w5.heap.size + 1) 26 #[.slice A2 3 ca2, .slice B2 3 cb2, .slice C2 3 cc2] := by rw [← hW0]; exact (Blk.new _ _ _ (by simp)).alloc _
  have X3 : Blk W0 (w5.heap.size + 1 + 1) 26 #[.slice A3 3 ca3, .slice B3 3 cb3, .slice C3 3 cc3] := by rw [← hW0]; exact Blk.new _ _ _ (by simp)
  rw [hW0]
  have e1 := hd1.keep (Keeps.below h50)
  have e2 := hd2.keep (Keeps.below h50)
  have e3 := hd3.keep (Keeps.below h50)
  have t0 := ht5.bl h50
  have hB0 := bl_call hB5 h50 (Nat.le_refl _)
  clear hW0 h50 hd1 hd2 hd3 ht5 hB5
  refine (bsets_any W0 t0 e2 ha2 hb2).mono ?_
  rintro e v1 ⟨As, ns, cs, rfl, hRs, h1⟩
  rw [ex_sets] at hRs ⊢
  have q0 := (X1.bl h1).cell 0
  have q1 := (X1.bl h1).cell 1
  have q2 := (X1.bl h1).cell 2
  go_wp2_with fail
  clear q0 q1 q2
  refine (bmust_any v1 (t0.bl h1) (e1.keep (Keeps.below h1)) ha1 hb1).mono ?_
  rintro e v2 ⟨Am, nm, cm, Ay, ny, cy, rfl, hIm, hIy, hv2⟩
  rw [ex_must] at hIm hIy ⊢
  have h2 := bl_call h1 hv2 (Nat.le_refl _)
  have q0 := (X1.bl h2).cell 0
  have q1 := (X1.bl h2).cell 1
  have q2 := (X1.bl h2).cell 2
  go_wp2_with fail
  clear q0 q1 q2
  refine (bamount_any 0 v2 (e1.keep (Keeps.below h2)) ha1 hb1).mono ?_
  rintro e v3 ⟨rfl, hv3⟩
  rw [ex_amount]
  have h3 : Below W0.heap.size W0 (v3.alloc (.cells #[.int .i64 2, .int .i64 4] 44)) := bl_alloc (bl_call h2 hv3 (Nat.le_refl _)) _ (Nat.le_refl _)
  have Y1 : Blk (v3.alloc (.cells #[.int .i64 2, .int .i64 4] 44)) v3.heap.size 44 #[.int .i64 2, .int .i64 4] := Blk.new _ _ _ rfl
  have q0 := (X1.bl h3).cell 0
  have q1 := (X1.bl h3).cell 1
  have q2 := (X1.bl h3).cell 2
  go_wp2_with fail
  clear q0 q1 q2
  have hv2m : Below v2.heap.size v2 (v3.alloc (.cells #[.int .i64 2, .int .i64 4] 44)) := bl_alloc hv3 _ (Nat.le_refl _)
  obtain ⟨v3e, hv3e⟩ : ∃ v3e, v3.alloc (.cells #[.int .i64 2, .int .i64 4] 44) = v3e := ⟨_, rfl⟩
  rw [hv3e] at h3 Y1 hv2m ⊢
  clear hv3e
  refine (bvalue_any 2 v3e (e1.keep (Keeps.below h3)) ha1 hb1).mono ?_
  rintro e v4 ⟨rfl, hv4⟩
  rw [ex_value]
  have h4 : Below W0.heap.size W0 (v4.alloc (.cells #[.int .i64 47, .int .i64 51] 44)) := bl_alloc (bl_call h3 hv4 (Nat.le_refl _)) _ (Nat.le_refl _)
  have Y2 : Blk (v4.alloc (.cells #[.int .i64 47, .int .i64 51] 44)) v4.heap.size 44 #[.int .i64 47, .int .i64 51] := Blk.new _ _ _ rfl
  have q0 := (X2.bl h4).cell 0
  have q1 := (X2.bl h4).cell 1
  have q2 := (X2.bl h4).cell 2
  go_wp2_with fail
  clear q0 q1 q2
  have hv3m : Below v3e.heap.size v3e (v4.alloc (.cells #[.int .i64 47, .int .i64 51] 44)) := bl_alloc hv4 _ (Nat.le_refl _)
  obtain ⟨v4e, hv4e⟩ : ∃ v4e, v4.alloc (.cells #[.int .i64 47, .int .i64 51] 44) = v4e := ⟨_, rfl⟩
  rw [hv4e] at h4 Y2 hv3m ⊢
  clear hv4e
  refine (bplainest_any v4e (t0.bl h4) (e2.keep (Keeps.below h4)) ha2 hb2).mono ?_
  rintro e v5 ⟨Ap, np, cp, rfl, hIp, hv5⟩
  rw [ex_plain] at hIp ⊢
  have h5 := bl_call h4 hv5 (Nat.le_refl _)
  have q0 := (X3.bl h5).cell 0
  have q1 := (X3.bl h5).cell 1
  have q2 := (X3.bl h5).cell 2
  go_wp2_with fail
  clear q0 q1 q2
  refine (bwrong_any v5 (e3.keep (Keeps.below h5)) ha3 hb3).mono ?_
  rintro e v6 ⟨Aw, nw, cw, rfl, hIw, hv6⟩
  rw [ex_wrong] at hIw ⊢
  have h6 := bl_call h5 hv6 (Nat.le_refl _)
  have q0 := (X1.bl h6).cell 0
  have q1 := (X1.bl h6).cell 1
  have q2 := (X1.bl h6).cell 2
  go_wp2_with fail
  clear q0 q1 q2
  refine (bask_any v6 (e1.keep (Keeps.below h6)) ha1 hb1).mono ?_
  rintro e v7 ⟨rfl, hv7⟩
  rw [ex_ask]
  have h7 := bl_call h6 hv7 (Nat.le_refl _)
  have q0 := (X3.bl h7).cell 0
  have q1 := (X3.bl h7).cell 1
  have q2 := (X3.bl h7).cell 2
  go_wp2_with fail
  clear q0 q1 q2
  refine (bplainest_any v7 (t0.bl h7) (e3.keep (Keeps.below h7)) ha3 hb3).mono ?_
  rintro e v8 ⟨Az, nz, cz, rfl, hIz, hv8⟩
  rw [ex_zero]
  have h8 := bl_call h7 hv8 (Nat.le_refl _)
  have q0 := (X3.bl h8).cell 0
  have q1 := (X3.bl h8).cell 1
  have q2 := (X3.bl h8).cell 2
  go_wp2_with fail
  clear q0 q1 q2
  refine (bsets_any v8 (t0.bl h8) (e3.keep (Keeps.below h8)) ha3 hb3).mono ?_
  rintro e v9 ⟨An, nn, cn, rfl, hRn, hv9⟩
  rw [ex_none] at hRn ⊢
  have h9 := bl_call h8 hv9 (Nat.le_refl _)
  have hnn : nn = 0 := hRn.len.symm
  subst hnn
  have k89 := hv9
  have k79 := bl_call hv8 k89 (Nat.le_refl _)
  have k69 := bl_call hv7 k79 (Nat.le_refl _)
  have k59 := bl_call hv6 k69 (Nat.le_refl _)
  have k49 := bl_call hv5 k59 (Nat.le_refl _)
  have k39 := bl_call hv3m k49 (Nat.le_refl _)
  have k29 := bl_call hv2m k39 (Nat.le_refl _)
  have k19 := bl_call hv2 k29 (Nat.le_refl _)
  have rs := Lib.hid (hRs.keep (SlR.good IntR.good) (Keeps.below k19))
  have rm := Lib.hid (hIm.keep IntR.good (Keeps.below k29))
  have ry := Lib.hid (hIy.keep IntR.good (Keeps.below k29))
  have rp := Lib.hid (hIp.keep IntR.good (Keeps.below k59))
  have rw_ := Lib.hid (hIw.keep IntR.good (Keeps.below k69))
  have y1 := Y1.bl k39
  have y2 := Y2.bl k49
  have hB9 := bl_call hB0 h9 (Nat.le_refl _)
  have kk : Hid (∀ W, Below v9.heap.size v9 W → W.cell? ⟨v3.heap.size, 0, none⟩ = some (.int .i64 2) ∧ W.cell? ⟨v3.heap.size, 1, none⟩ = some (.int .i64 4) ∧ W.cell? ⟨v4.heap.size, 0, none⟩ = some (.int .i64 47) ∧ W.cell? ⟨v4.heap.size, 1, none⟩ = some (.int .i64 51)) :=
    fun W hb => ⟨(y1.bl hb).c0, (y1.bl hb).c1, (y2.bl hb).c0, (y2.bl hb).c1⟩
  clear hRs hIm hIy hIp hIw hRn k89 k79 k69 k59 k49 k39 k29 k19 hv2 hv2m hv3 hv3m hv4 hv5 hv6 hv7 hv8 hv9 h1 h2 h3 h4 h5 h6 h7 h8 h9 Y1 Y2 y1 y2 X1 X2 X3 e1 e2 e3 t0 hB0 hIz
  go_wp2
  refine wp_frame ?_
  intro a0 hsz hget hdf
  have b5 : a0.tmps[5]? = some (.int .i64 0) := (hget 5).trans (by kernel_rfl)
  have b8 : a0.tmps[8]? = some (.int .i64 0) := (hget 8).trans (by kernel_rfl)
  have b10 : a0.tmps[10]? = some (.int .i64 0) := (hget 10).trans (by kernel_rfl)
  have b12 : a0.tmps[12]? = some (.int .i64 0) := (hget 12).trans (by kernel_rfl)
  have b14 : a0.tmps[14]? = some (.int .i64 0) := (hget 14).trans (by kernel_rfl)
  have b16 : a0.tmps[16]? = some (.int .i64 0) := (hget 16).trans (by kernel_rfl)
  have b19 : a0.tmps[19]? = some (.int .i64 0) := (hget 19).trans (by kernel_rfl)
  have b23 : a0.tmps[23]? = some (.int .i64 0) := (hget 23).trans (by kernel_rfl)
  have b21 : a0.tmps[21]? = some (.int .i64 8) := (hget 21).trans (by kernel_rfl)
  have b22 : a0.tmps[22]? = some (.slice An 0 cn) := (hget 22).trans (by kernel_rfl)
  have b4 : a0.tmps[4]? = some (.slice As ns cs) := (hget 4).trans (by kernel_rfl)
  have b6 : a0.tmps[6]? = some (.slice Am nm cm) := (hget 6).trans (by kernel_rfl)
  have b7 : a0.tmps[7]? = some (.slice Ay ny cy) := (hget 7).trans (by kernel_rfl)
  have b9 : a0.tmps[9]? = some (.pointer (some ⟨v3.heap.size, 0, none⟩)) := (hget 9).trans (by kernel_rfl)
  have b11 : a0.tmps[11]? = some (.pointer (some ⟨v4.heap.size, 0, none⟩)) := (hget 11).trans (by kernel_rfl)
  have b13 : a0.tmps[13]? = some (.slice Ap np cp) := (hget 13).trans (by kernel_rfl)
  have b15 : a0.tmps[15]? = some (.slice Aw nw cw) := (hget 15).trans (by kernel_rfl)
  have b17 : a0.tmps[17]? = some (.int .i64 2) := (hget 17).trans (by kernel_rfl)
  have b18 : a0.tmps[18]? = some (.int .i64 2) := (hget 18).trans (by kernel_rfl)
  replace hsz : a0.tmps.size = 159 := hsz.trans (by kernel_rfl)
  replace hdf : a0.defers = [] := hdf
  clear hget
  refine wp_region_list (fun W => Below v9.heap.size v9 W) (fun w w' => Below w.heap.size w w')
    [isV (.int .i64 0), isV (.bool true), isV (.bool true), isV (.int .i64 0), isV (.bool true), isV (.bool true), isV (.bool true), isV (.int .i64 0), isV (.bool true), isV (.bool true), isV (.bool true), isV (.int .i64 0), isV (.bool true), isV (.bool true), isV (.bool true), isV (.int .i64 0), isV (.bool true), isV (.bool true), isV (.bool true), isV (.int .i64 0), isV (.bool true), isV (.bool true), isV (.bool true), isV (.int .i64 0), isV (.bool true), isV (.bool true), isV (.bool true), isV (.int .i64 0), isV (.bool true), isV (.bool true), isV (.bool true), isV (.int .i64 8), isV (.bool true), isV (.bool true), isV (.bool true), isV (.slice An 0 cn), isV (.int .i64 0), isV (.bool true), isV (.bool true), isV (.bool true), isV (.slice As ns cs), IsInts v9.heap.size [0, 1], IsRows v9.heap.size [[0, 1]], isV (.bool true), isV (.bool true), isV (.bool true), isV (.slice Am nm cm), IsInts v9.heap.size [0], isV (.bool true), isV (.bool true), isV (.bool true), isV (.slice Ay ny cy), IsInts v9.heap.size [0, 1, 2], isV (.bool true), isV (.bool true), isV (.bool true), isV (.agg #[.int .i64 2, .int .i64 4]), isV (.agg #[.int .i64 2, .int .i64 4]), isV (.bool true), isV (.bool true), isV (.bool true), isV (.agg #[.int .i64 47, .int .i64 51]), isV (.agg #[.int .i64 47, .int .i64 51]), isV (.bool true), isV (.bool true), isV (.bool true), isV (.slice Ap np cp), IsInts v9.heap.size [2, 1, 0], isV (.bool true), isV (.bool true), isV (.bool true), isV (.slice Aw nw cw), IsInts v9.heap.size [2], isV (.bool true), isV (.bool true), isV (.bool true), isV (.int .i64 2), isV (.bool true), isV (.bool true), isV (.bool true), isV (.int .i64 2), isV (.bool true), isV (.bool true), isV (.bool true)]
    (by kernel_rfl) (by kernel_rfl) (by kernel_rfl) (by simp) (by simp) (Below.refl _ _).drew ?stabA ?stepA ?finA
  case stabA => exact (StabL.is (StabL.is (StabL.is (StabL.is (StabL.is (StabL.is (StabL.is (StabL.is (StabL.is (StabL.is (StabL.is (StabL.is (StabL.is (StabL.is (StabL.is (StabL.is (StabL.is (StabL.is (StabL.is (StabL.is (StabL.is (StabL.is (StabL.is (StabL.is (StabL.is (StabL.is (StabL.is (StabL.is (StabL.is (StabL.is (StabL.is (StabL.is (StabL.is (StabL.is (StabL.is (StabL.is (StabL.is (StabL.is (StabL.is (StabL.is (StabL.is (StabL.cons (fun v W V hC hX h => h.bl hX) (StabL.cons (fun v W V hC hX h => h.bl hX) (StabL.is (StabL.is (StabL.is (StabL.is (StabL.cons (fun v W V hC hX h => h.bl hX) (StabL.is (StabL.is (StabL.is (StabL.is (StabL.cons (fun v W V hC hX h => h.bl hX) (StabL.is (StabL.is (StabL.is (StabL.is (StabL.is (StabL.is (StabL.is (StabL.is (StabL.is (StabL.is (StabL.is (StabL.is (StabL.is (StabL.is (StabL.cons (fun v W V hC hX h => h.bl hX) (StabL.is (StabL.is (StabL.is (StabL.is (StabL.cons (fun v W V hC hX h => h.bl hX) (StabL.is (StabL.is (StabL.is (StabL.is (StabL.is (StabL.is (StabL.is (StabL.is (StabL.is (StabL.is (StabL.is StabL.nil))))))))))))))))))))))))))))))))))))))))))))))))))))))))))))))))))))))))))))))))))))
  case stepA =>
    refine StepsL.isA ?_ (StepsL.isA ?_ (StepsL.isA ?_ (StepsL.isA ?_ (StepsL.isA ?_ (StepsL.isA ?_ (StepsL.isA ?_ (StepsL.isA ?_ (StepsL.isA ?_ (StepsL.isA ?_ (StepsL.isA ?_ (StepsL.isA ?_ (StepsL.isA ?_ (StepsL.isA ?_ (StepsL.isA ?_ (StepsL.isA ?_ (StepsL.isA ?_ (StepsL.isA ?_ (StepsL.isA ?_ (StepsL.isA ?_ (StepsL.isA ?_ (StepsL.isA ?_ (StepsL.isA ?_ (StepsL.isA ?_ (StepsL.isA ?_ (StepsL.isA ?_ (StepsL.isA ?_ (StepsL.isA ?_ (StepsL.isA ?_ (StepsL.isA ?_ (StepsL.isA ?_ (StepsL.isA ?_ (StepsL.isA ?_ (StepsL.isA ?_ (StepsL.isA ?_ (StepsL.isA ?_ (StepsL.isA ?_ (StepsL.isA ?_ (StepsL.isA ?_ (StepsL.isA ?_ (StepsL.isA ?_ (StepsL.consA ?_ (StepsL.consA ?_ (StepsL.isA ?_ (StepsL.isA ?_ (StepsL.isA ?_ (StepsL.isA ?_ (StepsL.consA ?_ (StepsL.isA ?_ (StepsL.isA ?_ (StepsL.isA ?_ (StepsL.isA ?_ (StepsL.consA ?_ (StepsL.isA ?_ (StepsL.isA ?_ (StepsL.isA ?_ (StepsL.isA ?_ (StepsL.isA ?_ (StepsL.isA ?_ (StepsL.isA ?_ (StepsL.isA ?_ (StepsL.isA ?_ (StepsL.isA ?_ (StepsL.isA ?_ (StepsL.isA ?_ (StepsL.isA ?_ (StepsL.isA ?_ (StepsL.consA ?_ (StepsL.isA ?_ (StepsL.isA ?_ (StepsL.isA ?_ (StepsL.isA ?_ (StepsL.consA ?_ (StepsL.isA ?_ (StepsL.isA ?_ (StepsL.isA ?_ (StepsL.isA ?_ (StepsL.isA ?_ (StepsL.isA ?_ (StepsL.isA ?_ (StepsL.isA ?_ (StepsL.isA ?_ (StepsL.isA ?_ (StepsL.isA ?_ StepsL.nil)))))))))))))))))))))))))))))))))))))))))))))))))))))))))))))))))))))))))))))))))))
    · -- 0 move t5
      intro vs a W K ha hC hD hU hK
      have r5 : a.tmps[5]? = some (.int .i64 0) := by rw [ha, fillA_base0 (by kernel_rfl)]; exact b5
      clear ha hU hD
      rw [if_pos (by rfl)]
      go_simp
      exact hK _ hC (Below.refl _ _)
    · -- 1 binOp Bineql 27 t76 (const (int i64 0)) 27
      intro vs a W K ha hC hD hU hK
      have r76 : a.tmps[76]? = some (vs 0) := by rw [ha]; exact fillA_get0 (j := 0) (by kernel_rfl) (by rw [hsz]; decide)
      have q0 : vs 0 = .int .i64 0 := hD 0 (by simp [waits, Region.binds])
      rw [q0] at r76
      clear ha hU hD
      rw [if_pos (by rfl)]
      go_simp
      exact hK _ hC (Below.refl _ _)
    · -- 2 move t77
      intro vs a W K ha hC hD hU hK
      have r77 : a.tmps[77]? = some (vs 1) := by rw [ha]; exact fillA_get0 (j := 1) (by kernel_rfl) (by rw [hsz]; decide)
      have q1 : vs 1 = .bool true := hD 1 (by simp [waits, Region.binds])
      rw [q1] at r77
      clear ha hU hD
      rw [if_pos (by rfl)]
      go_simp
      exact hK _ hC (Below.refl _ _)
    · -- 3 move t8
      intro vs a W K ha hC hD hU hK
      have r78 : a.tmps[78]? = some (vs 2) := by rw [ha]; exact fillA_get0 (j := 2) (by kernel_rfl) (by rw [hsz]; decide)
      have q2 : vs 2 = .bool true := hD 2 (by simp [waits, Region.binds])
      rw [q2] at r78
      have r8 : a.tmps[8]? = some (.int .i64 0) := by rw [ha, fillA_base0 (by kernel_rfl)]; exact b8
      clear ha hU hD
      rw [if_pos (by simp [Region.wanted, yielded, r78])]
      go_simp
      exact hK _ hC (Below.refl _ _)
    · -- 4 binOp Bineql 27 t79 (const (int i64 0)) 27
      intro vs a W K ha hC hD hU hK
      have r78 : a.tmps[78]? = some (vs 2) := by rw [ha]; exact fillA_get0 (j := 2) (by kernel_rfl) (by rw [hsz]; decide)
      have q2 : vs 2 = .bool true := hD 2 (by simp [waits, Region.binds])
      rw [q2] at r78
      have r79 : a.tmps[79]? = some (vs 3) := by rw [ha]; exact fillA_get0 (j := 3) (by kernel_rfl) (by rw [hsz]; decide)
      have q3 : vs 3 = .int .i64 0 := hD 3 (by simp [waits, Region.binds])
      rw [q3] at r79
      clear ha hU hD
      rw [if_pos (by simp [Region.wanted, yielded, r78])]
      go_simp
      exact hK _ hC (Below.refl _ _)
    · -- 5 pick t78 t80 (const (bool false))
      intro vs a W K ha hC hD hU hK
      have r78 : a.tmps[78]? = some (vs 2) := by rw [ha]; exact fillA_get0 (j := 2) (by kernel_rfl) (by rw [hsz]; decide)
      have q2 : vs 2 = .bool true := hD 2 (by simp [waits, Region.binds])
      rw [q2] at r78
      have r80 : a.tmps[80]? = some (vs 4) := by rw [ha]; exact fillA_get0 (j := 4) (by kernel_rfl) (by rw [hsz]; decide)
      have q4 : vs 4 = .bool true := hD 4 (by simp [waits, Region.binds])
      rw [q4] at r80
      clear ha hU hD
      rw [if_pos (by rfl)]
      go_simp
      exact hK _ hC (Below.refl _ _)
    · -- 6 move t81
      intro vs a W K ha hC hD hU hK
      have r81 : a.tmps[81]? = some (vs 5) := by rw [ha]; exact fillA_get0 (j := 5) (by kernel_rfl) (by rw [hsz]; decide)
      have q5 : vs 5 = .bool true := hD 5 (by simp [waits, Region.binds])
      rw [q5] at r81
      clear ha hU hD
      rw [if_pos (by rfl)]
      go_simp
      exact hK _ hC (Below.refl _ _)
    · -- 7 move t10
      intro vs a W K ha hC hD hU hK
      have r82 : a.tmps[82]? = some (vs 6) := by rw [ha]; exact fillA_get0 (j := 6) (by kernel_rfl) (by rw [hsz]; decide)
      have q6 : vs 6 = .bool true := hD 6 (by simp [waits, Region.binds])
      rw [q6] at r82
      have r10 : a.tmps[10]? = some (.int .i64 0) := by rw [ha, fillA_base0 (by kernel_rfl)]; exact b10
      clear ha hU hD
      rw [if_pos (by simp [Region.wanted, yielded, r82])]
      go_simp
      exact hK _ hC (Below.refl _ _)
    · -- 8 binOp Bineql 27 t83 (const (int i64 0)) 27
      intro vs a W K ha hC hD hU hK
      have r82 : a.tmps[82]? = some (vs 6) := by rw [ha]; exact fillA_get0 (j := 6) (by kernel_rfl) (by rw [hsz]; decide)
      have q6 : vs 6 = .bool true := hD 6 (by simp [waits, Region.binds])
      rw [q6] at r82
      have r83 : a.tmps[83]? = some (vs 7) := by rw [ha]; exact fillA_get0 (j := 7) (by kernel_rfl) (by rw [hsz]; decide)
      have q7 : vs 7 = .int .i64 0 := hD 7 (by simp [waits, Region.binds])
      rw [q7] at r83
      clear ha hU hD
      rw [if_pos (by simp [Region.wanted, yielded, r82])]
      go_simp
      exact hK _ hC (Below.refl _ _)
    · -- 9 pick t82 t84 (const (bool false))
      intro vs a W K ha hC hD hU hK
      have r82 : a.tmps[82]? = some (vs 6) := by rw [ha]; exact fillA_get0 (j := 6) (by kernel_rfl) (by rw [hsz]; decide)
      have q6 : vs 6 = .bool true := hD 6 (by simp [waits, Region.binds])
      rw [q6] at r82
      have r84 : a.tmps[84]? = some (vs 8) := by rw [ha]; exact fillA_get0 (j := 8) (by kernel_rfl) (by rw [hsz]; decide)
      have q8 : vs 8 = .bool true := hD 8 (by simp [waits, Region.binds])
      rw [q8] at r84
      clear ha hU hD
      rw [if_pos (by rfl)]
      go_simp
      exact hK _ hC (Below.refl _ _)
    · -- 10 move t85
      intro vs a W K ha hC hD hU hK
      have r85 : a.tmps[85]? = some (vs 9) := by rw [ha]; exact fillA_get0 (j := 9) (by kernel_rfl) (by rw [hsz]; decide)
      have q9 : vs 9 = .bool true := hD 9 (by simp [waits, Region.binds])
      rw [q9] at r85
      clear ha hU hD
      rw [if_pos (by rfl)]
      go_simp
      exact hK _ hC (Below.refl _ _)
    · -- 11 move t12
      intro vs a W K ha hC hD hU hK
      have r86 : a.tmps[86]? = some (vs 10) := by rw [ha]; exact fillA_get0 (j := 10) (by kernel_rfl) (by rw [hsz]; decide)
      have q10 : vs 10 = .bool true := hD 10 (by simp [waits, Region.binds])
      rw [q10] at r86
      have r12 : a.tmps[12]? = some (.int .i64 0) := by rw [ha, fillA_base0 (by kernel_rfl)]; exact b12
      clear ha hU hD
      rw [if_pos (by simp [Region.wanted, yielded, r86])]
      go_simp
      exact hK _ hC (Below.refl _ _)
    · -- 12 binOp Bineql 27 t87 (const (int i64 0)) 27
      intro vs a W K ha hC hD hU hK
      have r86 : a.tmps[86]? = some (vs 10) := by rw [ha]; exact fillA_get0 (j := 10) (by kernel_rfl) (by rw [hsz]; decide)
      have q10 : vs 10 = .bool true := hD 10 (by simp [waits, Region.binds])
      rw [q10] at r86
      have r87 : a.tmps[87]? = some (vs 11) := by rw [ha]; exact fillA_get0 (j := 11) (by kernel_rfl) (by rw [hsz]; decide)
      have q11 : vs 11 = .int .i64 0 := hD 11 (by simp [waits, Region.binds])
      rw [q11] at r87
      clear ha hU hD
      rw [if_pos (by simp [Region.wanted, yielded, r86])]
      go_simp
      exact hK _ hC (Below.refl _ _)
    · -- 13 pick t86 t88 (const (bool false))
      intro vs a W K ha hC hD hU hK
      have r86 : a.tmps[86]? = some (vs 10) := by rw [ha]; exact fillA_get0 (j := 10) (by kernel_rfl) (by rw [hsz]; decide)
      have q10 : vs 10 = .bool true := hD 10 (by simp [waits, Region.binds])
      rw [q10] at r86
      have r88 : a.tmps[88]? = some (vs 12) := by rw [ha]; exact fillA_get0 (j := 12) (by kernel_rfl) (by rw [hsz]; decide)
      have q12 : vs 12 = .bool true := hD 12 (by simp [waits, Region.binds])
      rw [q12] at r88
      clear ha hU hD
      rw [if_pos (by rfl)]
      go_simp
      exact hK _ hC (Below.refl _ _)
    · -- 14 move t89
      intro vs a W K ha hC hD hU hK
      have r89 : a.tmps[89]? = some (vs 13) := by rw [ha]; exact fillA_get0 (j := 13) (by kernel_rfl) (by rw [hsz]; decide)
      have q13 : vs 13 = .bool true := hD 13 (by simp [waits, Region.binds])
      rw [q13] at r89
      clear ha hU hD
      rw [if_pos (by rfl)]
      go_simp
      exact hK _ hC (Below.refl _ _)
    · -- 15 move t14
      intro vs a W K ha hC hD hU hK
      have r90 : a.tmps[90]? = some (vs 14) := by rw [ha]; exact fillA_get0 (j := 14) (by kernel_rfl) (by rw [hsz]; decide)
      have q14 : vs 14 = .bool true := hD 14 (by simp [waits, Region.binds])
      rw [q14] at r90
      have r14 : a.tmps[14]? = some (.int .i64 0) := by rw [ha, fillA_base0 (by kernel_rfl)]; exact b14
      clear ha hU hD
      rw [if_pos (by simp [Region.wanted, yielded, r90])]
      go_simp
      exact hK _ hC (Below.refl _ _)
    · -- 16 binOp Bineql 27 t91 (const (int i64 0)) 27
      intro vs a W K ha hC hD hU hK
      have r90 : a.tmps[90]? = some (vs 14) := by rw [ha]; exact fillA_get0 (j := 14) (by kernel_rfl) (by rw [hsz]; decide)
      have q14 : vs 14 = .bool true := hD 14 (by simp [waits, Region.binds])
      rw [q14] at r90
      have r91 : a.tmps[91]? = some (vs 15) := by rw [ha]; exact fillA_get0 (j := 15) (by kernel_rfl) (by rw [hsz]; decide)
      have q15 : vs 15 = .int .i64 0 := hD 15 (by simp [waits, Region.binds])
      rw [q15] at r91
      clear ha hU hD
      rw [if_pos (by simp [Region.wanted, yielded, r90])]
      go_simp
      exact hK _ hC (Below.refl _ _)
    · -- 17 pick t90 t92 (const (bool false))
      intro vs a W K ha hC hD hU hK
      have r90 : a.tmps[90]? = some (vs 14) := by rw [ha]; exact fillA_get0 (j := 14) (by kernel_rfl) (by rw [hsz]; decide)
      have q14 : vs 14 = .bool true := hD 14 (by simp [waits, Region.binds])
      rw [q14] at r90
      have r92 : a.tmps[92]? = some (vs 16) := by rw [ha]; exact fillA_get0 (j := 16) (by kernel_rfl) (by rw [hsz]; decide)
      have q16 : vs 16 = .bool true := hD 16 (by simp [waits, Region.binds])
      rw [q16] at r92
      clear ha hU hD
      rw [if_pos (by rfl)]
      go_simp
      exact hK _ hC (Below.refl _ _)
    · -- 18 move t93
      intro vs a W K ha hC hD hU hK
      have r93 : a.tmps[93]? = some (vs 17) := by rw [ha]; exact fillA_get0 (j := 17) (by kernel_rfl) (by rw [hsz]; decide)
      have q17 : vs 17 = .bool true := hD 17 (by simp [waits, Region.binds])
      rw [q17] at r93
      clear ha hU hD
      rw [if_pos (by rfl)]
      go_simp
      exact hK _ hC (Below.refl _ _)
    · -- 19 move t16
      intro vs a W K ha hC hD hU hK
      have r94 : a.tmps[94]? = some (vs 18) := by rw [ha]; exact fillA_get0 (j := 18) (by kernel_rfl) (by rw [hsz]; decide)
      have q18 : vs 18 = .bool true := hD 18 (by simp [waits, Region.binds])
      rw [q18] at r94
      have r16 : a.tmps[16]? = some (.int .i64 0) := by rw [ha, fillA_base0 (by kernel_rfl)]; exact b16
      clear ha hU hD
      rw [if_pos (by simp [Region.wanted, yielded, r94])]
      go_simp
      exact hK _ hC (Below.refl _ _)
    · -- 20 binOp Bineql 27 t95 (const (int i64 0)) 27
      intro vs a W K ha hC hD hU hK
      have r94 : a.tmps[94]? = some (vs 18) := by rw [ha]; exact fillA_get0 (j := 18) (by kernel_rfl) (by rw [hsz]; decide)
      have q18 : vs 18 = .bool true := hD 18 (by simp [waits, Region.binds])
      rw [q18] at r94
      have r95 : a.tmps[95]? = some (vs 19) := by rw [ha]; exact fillA_get0 (j := 19) (by kernel_rfl) (by rw [hsz]; decide)
      have q19 : vs 19 = .int .i64 0 := hD 19 (by simp [waits, Region.binds])
      rw [q19] at r95
      clear ha hU hD
      rw [if_pos (by simp [Region.wanted, yielded, r94])]
      go_simp
      exact hK _ hC (Below.refl _ _)
    · -- 21 pick t94 t96 (const (bool false))
      intro vs a W K ha hC hD hU hK
      have r94 : a.tmps[94]? = some (vs 18) := by rw [ha]; exact fillA_get0 (j := 18) (by kernel_rfl) (by rw [hsz]; decide)
      have q18 : vs 18 = .bool true := hD 18 (by simp [waits, Region.binds])
      rw [q18] at r94
      have r96 : a.tmps[96]? = some (vs 20) := by rw [ha]; exact fillA_get0 (j := 20) (by kernel_rfl) (by rw [hsz]; decide)
      have q20 : vs 20 = .bool true := hD 20 (by simp [waits, Region.binds])
      rw [q20] at r96
      clear ha hU hD
      rw [if_pos (by rfl)]
      go_simp
      exact hK _ hC (Below.refl _ _)
    · -- 22 move t97
      intro vs a W K ha hC hD hU hK
      have r97 : a.tmps[97]? = some (vs 21) := by rw [ha]; exact fillA_get0 (j := 21) (by kernel_rfl) (by rw [hsz]; decide)
      have q21 : vs 21 = .bool true := hD 21 (by simp [waits, Region.binds])
      rw [q21] at r97
      clear ha hU hD
      rw [if_pos (by rfl)]
      go_simp
      exact hK _ hC (Below.refl _ _)
    · -- 23 move t19
      intro vs a W K ha hC hD hU hK
      have r98 : a.tmps[98]? = some (vs 22) := by rw [ha]; exact fillA_get0 (j := 22) (by kernel_rfl) (by rw [hsz]; decide)
      have q22 : vs 22 = .bool true := hD 22 (by simp [waits, Region.binds])
      rw [q22] at r98
      have r19 : a.tmps[19]? = some (.int .i64 0) := by rw [ha, fillA_base0 (by kernel_rfl)]; exact b19
      clear ha hU hD
      rw [if_pos (by simp [Region.wanted, yielded, r98])]
      go_simp
      exact hK _ hC (Below.refl _ _)
    · -- 24 binOp Bineql 27 t99 (const (int i64 0)) 27
      intro vs a W K ha hC hD hU hK
      have r98 : a.tmps[98]? = some (vs 22) := by rw [ha]; exact fillA_get0 (j := 22) (by kernel_rfl) (by rw [hsz]; decide)
      have q22 : vs 22 = .bool true := hD 22 (by simp [waits, Region.binds])
      rw [q22] at r98
      have r99 : a.tmps[99]? = some (vs 23) := by rw [ha]; exact fillA_get0 (j := 23) (by kernel_rfl) (by rw [hsz]; decide)
      have q23 : vs 23 = .int .i64 0 := hD 23 (by simp [waits, Region.binds])
      rw [q23] at r99
      clear ha hU hD
      rw [if_pos (by simp [Region.wanted, yielded, r98])]
      go_simp
      exact hK _ hC (Below.refl _ _)
    · -- 25 pick t98 t100 (const (bool false))
      intro vs a W K ha hC hD hU hK
      have r98 : a.tmps[98]? = some (vs 22) := by rw [ha]; exact fillA_get0 (j := 22) (by kernel_rfl) (by rw [hsz]; decide)
      have q22 : vs 22 = .bool true := hD 22 (by simp [waits, Region.binds])
      rw [q22] at r98
      have r100 : a.tmps[100]? = some (vs 24) := by rw [ha]; exact fillA_get0 (j := 24) (by kernel_rfl) (by rw [hsz]; decide)
      have q24 : vs 24 = .bool true := hD 24 (by simp [waits, Region.binds])
      rw [q24] at r100
      clear ha hU hD
      rw [if_pos (by rfl)]
      go_simp
      exact hK _ hC (Below.refl _ _)
    · -- 26 move t101
      intro vs a W K ha hC hD hU hK
      have r101 : a.tmps[101]? = some (vs 25) := by rw [ha]; exact fillA_get0 (j := 25) (by kernel_rfl) (by rw [hsz]; decide)
      have q25 : vs 25 = .bool true := hD 25 (by simp [waits, Region.binds])
      rw [q25] at r101
      clear ha hU hD
      rw [if_pos (by rfl)]
      go_simp
      exact hK _ hC (Below.refl _ _)
    · -- 27 move t23
      intro vs a W K ha hC hD hU hK
      have r102 : a.tmps[102]? = some (vs 26) := by rw [ha]; exact fillA_get0 (j := 26) (by kernel_rfl) (by rw [hsz]; decide)
      have q26 : vs 26 = .bool true := hD 26 (by simp [waits, Region.binds])
      rw [q26] at r102
      have r23 : a.tmps[23]? = some (.int .i64 0) := by rw [ha, fillA_base0 (by kernel_rfl)]; exact b23
      clear ha hU hD
      rw [if_pos (by simp [Region.wanted, yielded, r102])]
      go_simp
      exact hK _ hC (Below.refl _ _)
    · -- 28 binOp Bineql 27 t103 (const (int i64 0)) 27
      intro vs a W K ha hC hD hU hK
      have r102 : a.tmps[102]? = some (vs 26) := by rw [ha]; exact fillA_get0 (j := 26) (by kernel_rfl) (by rw [hsz]; decide)
      have q26 : vs 26 = .bool true := hD 26 (by simp [waits, Region.binds])
      rw [q26] at r102
      have r103 : a.tmps[103]? = some (vs 27) := by rw [ha]; exact fillA_get0 (j := 27) (by kernel_rfl) (by rw [hsz]; decide)
      have q27 : vs 27 = .int .i64 0 := hD 27 (by simp [waits, Region.binds])
      rw [q27] at r103
      clear ha hU hD
      rw [if_pos (by simp [Region.wanted, yielded, r102])]
      go_simp
      exact hK _ hC (Below.refl _ _)
    · -- 29 pick t102 t104 (const (bool false))
      intro vs a W K ha hC hD hU hK
      have r102 : a.tmps[102]? = some (vs 26) := by rw [ha]; exact fillA_get0 (j := 26) (by kernel_rfl) (by rw [hsz]; decide)
      have q26 : vs 26 = .bool true := hD 26 (by simp [waits, Region.binds])
      rw [q26] at r102
      have r104 : a.tmps[104]? = some (vs 28) := by rw [ha]; exact fillA_get0 (j := 28) (by kernel_rfl) (by rw [hsz]; decide)
      have q28 : vs 28 = .bool true := hD 28 (by simp [waits, Region.binds])
      rw [q28] at r104
      clear ha hU hD
      rw [if_pos (by rfl)]
      go_simp
      exact hK _ hC (Below.refl _ _)
    · -- 30 move t105
      intro vs a W K ha hC hD hU hK
      have r105 : a.tmps[105]? = some (vs 29) := by rw [ha]; exact fillA_get0 (j := 29) (by kernel_rfl) (by rw [hsz]; decide)
      have q29 : vs 29 = .bool true := hD 29 (by simp [waits, Region.binds])
      rw [q29] at r105
      clear ha hU hD
      rw [if_pos (by rfl)]
      go_simp
      exact hK _ hC (Below.refl _ _)
    · -- 31 move t21
      intro vs a W K ha hC hD hU hK
      have r106 : a.tmps[106]? = some (vs 30) := by rw [ha]; exact fillA_get0 (j := 30) (by kernel_rfl) (by rw [hsz]; decide)
      have q30 : vs 30 = .bool true := hD 30 (by simp [waits, Region.binds])
      rw [q30] at r106
      have r21 : a.tmps[21]? = some (.int .i64 8) := by rw [ha, fillA_base0 (by kernel_rfl)]; exact b21
      clear ha hU hD
      rw [if_pos (by simp [Region.wanted, yielded, r106])]
      go_simp
      exact hK _ hC (Below.refl _ _)
    · -- 32 binOp Bineql 27 t107 (const (int i64 8)) 27
      intro vs a W K ha hC hD hU hK
      have r106 : a.tmps[106]? = some (vs 30) := by rw [ha]; exact fillA_get0 (j := 30) (by kernel_rfl) (by rw [hsz]; decide)
      have q30 : vs 30 = .bool true := hD 30 (by simp [waits, Region.binds])
      rw [q30] at r106
      have r107 : a.tmps[107]? = some (vs 31) := by rw [ha]; exact fillA_get0 (j := 31) (by kernel_rfl) (by rw [hsz]; decide)
      have q31 : vs 31 = .int .i64 8 := hD 31 (by simp [waits, Region.binds])
      rw [q31] at r107
      clear ha hU hD
      rw [if_pos (by simp [Region.wanted, yielded, r106])]
      go_simp
      exact hK _ hC (Below.refl _ _)
    · -- 33 pick t106 t108 (const (bool false))
      intro vs a W K ha hC hD hU hK
      have r106 : a.tmps[106]? = some (vs 30) := by rw [ha]; exact fillA_get0 (j := 30) (by kernel_rfl) (by rw [hsz]; decide)
      have q30 : vs 30 = .bool true := hD 30 (by simp [waits, Region.binds])
      rw [q30] at r106
      have r108 : a.tmps[108]? = some (vs 32) := by rw [ha]; exact fillA_get0 (j := 32) (by kernel_rfl) (by rw [hsz]; decide)
      have q32 : vs 32 = .bool true := hD 32 (by simp [waits, Region.binds])
      rw [q32] at r108
      clear ha hU hD
      rw [if_pos (by rfl)]
      go_simp
      exact hK _ hC (Below.refl _ _)
    · -- 34 move t109
      intro vs a W K ha hC hD hU hK
      have r109 : a.tmps[109]? = some (vs 33) := by rw [ha]; exact fillA_get0 (j := 33) (by kernel_rfl) (by rw [hsz]; decide)
      have q33 : vs 33 = .bool true := hD 33 (by simp [waits, Region.binds])
      rw [q33] at r109
      clear ha hU hD
      rw [if_pos (by rfl)]
      go_simp
      exact hK _ hC (Below.refl _ _)
    · -- 35 move t22
      intro vs a W K ha hC hD hU hK
      have r110 : a.tmps[110]? = some (vs 34) := by rw [ha]; exact fillA_get0 (j := 34) (by kernel_rfl) (by rw [hsz]; decide)
      have q34 : vs 34 = .bool true := hD 34 (by simp [waits, Region.binds])
      rw [q34] at r110
      have r22 : a.tmps[22]? = some (.slice An 0 cn) := by rw [ha, fillA_base0 (by kernel_rfl)]; exact b22
      clear ha hU hD
      rw [if_pos (by simp [Region.wanted, yielded, r110])]
      go_simp
      exact hK _ hC (Below.refl _ _)
    · -- 36 call {builtin len, #[t111]}
      intro vs a W K ha hC hD hU hK
      have r110 : a.tmps[110]? = some (vs 34) := by rw [ha]; exact fillA_get0 (j := 34) (by kernel_rfl) (by rw [hsz]; decide)
      have q34 : vs 34 = .bool true := hD 34 (by simp [waits, Region.binds])
      rw [q34] at r110
      have r111 : a.tmps[111]? = some (vs 35) := by rw [ha]; exact fillA_get0 (j := 35) (by kernel_rfl) (by rw [hsz]; decide)
      have q35 : vs 35 = .slice An 0 cn := hD 35 (by simp [waits, Region.binds])
      rw [q35] at r111
      clear ha hU hD
      rw [if_pos (by simp [Region.wanted, yielded, r110])]
      go_simp
      exact hK _ hC (Below.refl _ _)
    · -- 37 binOp Bineql 3 t112 (const (int i64 0)) 3
      intro vs a W K ha hC hD hU hK
      have r110 : a.tmps[110]? = some (vs 34) := by rw [ha]; exact fillA_get0 (j := 34) (by kernel_rfl) (by rw [hsz]; decide)
      have q34 : vs 34 = .bool true := hD 34 (by simp [waits, Region.binds])
      rw [q34] at r110
      have r112 : a.tmps[112]? = some (vs 36) := by rw [ha]; exact fillA_get0 (j := 36) (by kernel_rfl) (by rw [hsz]; decide)
      have q36 : vs 36 = .int .i64 0 := hD 36 (by simp [waits, Region.binds])
      rw [q36] at r112
      clear ha hU hD
      rw [if_pos (by simp [Region.wanted, yielded, r110])]
      go_simp
      exact hK _ hC (Below.refl _ _)
    · -- 38 pick t110 t113 (const (bool false))
      intro vs a W K ha hC hD hU hK
      have r110 : a.tmps[110]? = some (vs 34) := by rw [ha]; exact fillA_get0 (j := 34) (by kernel_rfl) (by rw [hsz]; decide)
      have q34 : vs 34 = .bool true := hD 34 (by simp [waits, Region.binds])
      rw [q34] at r110
      have r113 : a.tmps[113]? = some (vs 37) := by rw [ha]; exact fillA_get0 (j := 37) (by kernel_rfl) (by rw [hsz]; decide)
      have q37 : vs 37 = .bool true := hD 37 (by simp [waits, Region.binds])
      rw [q37] at r113
      clear ha hU hD
      rw [if_pos (by rfl)]
      go_simp
      exact hK _ hC (Below.refl _ _)
    · -- 39 move t114
      intro vs a W K ha hC hD hU hK
      have r114 : a.tmps[114]? = some (vs 38) := by rw [ha]; exact fillA_get0 (j := 38) (by kernel_rfl) (by rw [hsz]; decide)
      have q38 : vs 38 = .bool true := hD 38 (by simp [waits, Region.binds])
      rw [q38] at r114
      clear ha hU hD
      rw [if_pos (by rfl)]
      go_simp
      exact hK _ hC (Below.refl _ _)
    · -- 40 move t4
      intro vs a W K ha hC hD hU hK
      have r115 : a.tmps[115]? = some (vs 39) := by rw [ha]; exact fillA_get0 (j := 39) (by kernel_rfl) (by rw [hsz]; decide)
      have q39 : vs 39 = .bool true := hD 39 (by simp [waits, Region.binds])
      rw [q39] at r115
      have r4 : a.tmps[4]? = some (.slice As ns cs) := by rw [ha, fillA_base0 (by kernel_rfl)]; exact b4
      clear ha hU hD
      rw [if_pos (by simp [Region.wanted, yielded, r115])]
      go_simp
      exact hK _ hC (Below.refl _ _)
    · -- 41 buildSlice 34 2 #[(0, const (int i64 0)), (1, cons
      intro vs a W K ha hC hD hU hK
      have r115 : a.tmps[115]? = some (vs 39) := by rw [ha]; exact fillA_get0 (j := 39) (by kernel_rfl) (by rw [hsz]; decide)
      have q39 : vs 39 = .bool true := hD 39 (by simp [waits, Region.binds])
      rw [q39] at r115
      clear ha hU hD
      rw [if_pos (by simp [Region.wanted, yielded, r115])]
      go_simp
      exact hK _ _ (bl_alloc hC _ (Nat.le_refl _)) (bl_alloc (Below.refl _ _) _ (Nat.le_refl _)) ⟨_, _, _, rfl, ints_new W 3 #[.int .i64 (0), .int .i64 (1)] [0, 1] rfl rfl (by decide) hC.size⟩
    · -- 42 buildSlice 30 1 #[(0, t117)]
      intro vs a W K ha hC hD hU hK
      have r115 : a.tmps[115]? = some (vs 39) := by rw [ha]; exact fillA_get0 (j := 39) (by kernel_rfl) (by rw [hsz]; decide)
      have q39 : vs 39 = .bool true := hD 39 (by simp [waits, Region.binds])
      rw [q39] at r115
      have r117 : a.tmps[117]? = some (vs 41) := by rw [ha]; exact fillA_get0 (j := 41) (by kernel_rfl) (by rw [hsz]; decide)
      have q41 : IsInts v9.heap.size [0, 1] (vs 41) W := hD 41 (by simp [waits, Region.binds])
      obtain ⟨A117, n117, c117, q41, hI117⟩ := q41
      rw [q41] at r117
      clear ha hU hD
      rw [if_pos (by simp [Region.wanted, yielded, r115])]
      go_simp
      exact hK _ _ (bl_alloc hC _ (Nat.le_refl _)) (bl_alloc (Below.refl _ _) _ (Nat.le_refl _)) ⟨_, _, _, rfl, rows_new W hI117 hC.size⟩
    · -- 43 call {value (func 19), #[t116, t118]}
      intro vs a W K ha hC hD hU hK
      have r115 : a.tmps[115]? = some (vs 39) := by rw [ha]; exact fillA_get0 (j := 39) (by kernel_rfl) (by rw [hsz]; decide)
      have q39 : vs 39 = .bool true := hD 39 (by simp [waits, Region.binds])
      rw [q39] at r115
      have r116 : a.tmps[116]? = some (vs 40) := by rw [ha]; exact fillA_get0 (j := 40) (by kernel_rfl) (by rw [hsz]; decide)
      have q40 : vs 40 = .slice As ns cs := hD 40 (by simp [waits, Region.binds])
      rw [q40] at r116
      have r118 : a.tmps[118]? = some (vs 42) := by rw [ha]; exact fillA_get0 (j := 42) (by kernel_rfl) (by rw [hsz]; decide)
      have q42 : IsRows v9.heap.size [[0, 1]] (vs 42) W := hD 42 (by simp [waits, Region.binds])
      obtain ⟨A118, n118, c118, q42, hI118⟩ := q42
      rw [q42] at r118
      clear ha hU hD
      rw [if_pos (by simp [Region.wanted, yielded, r115])]
      go_simp
      refine (same_any W (rs.out.keep (SlR.good IntR.good) (Keeps.below hC)) hI118).mono ?_
      rintro e w' ⟨rfl, q, rfl⟩
      rw [decide_eq_true rfl]
      exact hK _ (bl_drewN hC q) (bl_drewN (Below.refl _ _) q)
    · -- 44 pick t115 t119 (const (bool false))
      intro vs a W K ha hC hD hU hK
      have r115 : a.tmps[115]? = some (vs 39) := by rw [ha]; exact fillA_get0 (j := 39) (by kernel_rfl) (by rw [hsz]; decide)
      have q39 : vs 39 = .bool true := hD 39 (by simp [waits, Region.binds])
      rw [q39] at r115
      have r119 : a.tmps[119]? = some (vs 43) := by rw [ha]; exact fillA_get0 (j := 43) (by kernel_rfl) (by rw [hsz]; decide)
      have q43 : vs 43 = .bool true := hD 43 (by simp [waits, Region.binds])
      rw [q43] at r119
      clear ha hU hD
      rw [if_pos (by rfl)]
      go_simp
      exact hK _ hC (Below.refl _ _)
    · -- 45 move t120
      intro vs a W K ha hC hD hU hK
      have r120 : a.tmps[120]? = some (vs 44) := by rw [ha]; exact fillA_get0 (j := 44) (by kernel_rfl) (by rw [hsz]; decide)
      have q44 : vs 44 = .bool true := hD 44 (by simp [waits, Region.binds])
      rw [q44] at r120
      clear ha hU hD
      rw [if_pos (by rfl)]
      go_simp
      exact hK _ hC (Below.refl _ _)
    · -- 46 move t6
      intro vs a W K ha hC hD hU hK
      have r121 : a.tmps[121]? = some (vs 45) := by rw [ha]; exact fillA_get0 (j := 45) (by kernel_rfl) (by rw [hsz]; decide)
      have q45 : vs 45 = .bool true := hD 45 (by simp [waits, Region.binds])
      rw [q45] at r121
      have r6 : a.tmps[6]? = some (.slice Am nm cm) := by rw [ha, fillA_base0 (by kernel_rfl)]; exact b6
      clear ha hU hD
      rw [if_pos (by simp [Region.wanted, yielded, r121])]
      go_simp
      exact hK _ hC (Below.refl _ _)
    · -- 47 buildSlice 34 1 #[(0, const (int i64 0))]
      intro vs a W K ha hC hD hU hK
      have r121 : a.tmps[121]? = some (vs 45) := by rw [ha]; exact fillA_get0 (j := 45) (by kernel_rfl) (by rw [hsz]; decide)
      have q45 : vs 45 = .bool true := hD 45 (by simp [waits, Region.binds])
      rw [q45] at r121
      clear ha hU hD
      rw [if_pos (by simp [Region.wanted, yielded, r121])]
      go_simp
      exact hK _ _ (bl_alloc hC _ (Nat.le_refl _)) (bl_alloc (Below.refl _ _) _ (Nat.le_refl _)) ⟨_, _, _, rfl, ints_new W 3 #[.int .i64 (0)] [0] rfl rfl (by decide) hC.size⟩
    · -- 48 call {value (func 22), #[t122, t123]}
      intro vs a W K ha hC hD hU hK
      have r121 : a.tmps[121]? = some (vs 45) := by rw [ha]; exact fillA_get0 (j := 45) (by kernel_rfl) (by rw [hsz]; decide)
      have q45 : vs 45 = .bool true := hD 45 (by simp [waits, Region.binds])
      rw [q45] at r121
      have r122 : a.tmps[122]? = some (vs 46) := by rw [ha]; exact fillA_get0 (j := 46) (by kernel_rfl) (by rw [hsz]; decide)
      have q46 : vs 46 = .slice Am nm cm := hD 46 (by simp [waits, Region.binds])
      rw [q46] at r122
      have r123 : a.tmps[123]? = some (vs 47) := by rw [ha]; exact fillA_get0 (j := 47) (by kernel_rfl) (by rw [hsz]; decide)
      have q47 : IsInts v9.heap.size [0] (vs 47) W := hD 47 (by simp [waits, Region.binds])
      obtain ⟨A123, n123, c123, q47, hI123⟩ := q47
      rw [q47] at r123
      clear ha hU hD
      rw [if_pos (by simp [Region.wanted, yielded, r121])]
      go_simp
      refine (ints_any W (rm.out.keep IntR.good (Keeps.below hC)) hI123).mono ?_
      rintro e w' ⟨rfl, q, rfl⟩
      rw [decide_eq_true rfl]
      exact hK _ (bl_drewN hC q) (bl_drewN (Below.refl _ _) q)
    · -- 49 pick t121 t124 (const (bool false))
      intro vs a W K ha hC hD hU hK
      have r121 : a.tmps[121]? = some (vs 45) := by rw [ha]; exact fillA_get0 (j := 45) (by kernel_rfl) (by rw [hsz]; decide)
      have q45 : vs 45 = .bool true := hD 45 (by simp [waits, Region.binds])
      rw [q45] at r121
      have r124 : a.tmps[124]? = some (vs 48) := by rw [ha]; exact fillA_get0 (j := 48) (by kernel_rfl) (by rw [hsz]; decide)
      have q48 : vs 48 = .bool true := hD 48 (by simp [waits, Region.binds])
      rw [q48] at r124
      clear ha hU hD
      rw [if_pos (by rfl)]
      go_simp
      exact hK _ hC (Below.refl _ _)
    · -- 50 move t125
      intro vs a W K ha hC hD hU hK
      have r125 : a.tmps[125]? = some (vs 49) := by rw [ha]; exact fillA_get0 (j := 49) (by kernel_rfl) (by rw [hsz]; decide)
      have q49 : vs 49 = .bool true := hD 49 (by simp [waits, Region.binds])
      rw [q49] at r125
      clear ha hU hD
      rw [if_pos (by rfl)]
      go_simp
      exact hK _ hC (Below.refl _ _)
    · -- 51 move t7
      intro vs a W K ha hC hD hU hK
      have r126 : a.tmps[126]? = some (vs 50) := by rw [ha]; exact fillA_get0 (j := 50) (by kernel_rfl) (by rw [hsz]; decide)
      have q50 : vs 50 = .bool true := hD 50 (by simp [waits, Region.binds])
      rw [q50] at r126
      have r7 : a.tmps[7]? = some (.slice Ay ny cy) := by rw [ha, fillA_base0 (by kernel_rfl)]; exact b7
      clear ha hU hD
      rw [if_pos (by simp [Region.wanted, yielded, r126])]
      go_simp
      exact hK _ hC (Below.refl _ _)
    · -- 52 buildSlice 34 3 #[(0, const (int i64 0)), (1, cons
      intro vs a W K ha hC hD hU hK
      have r126 : a.tmps[126]? = some (vs 50) := by rw [ha]; exact fillA_get0 (j := 50) (by kernel_rfl) (by rw [hsz]; decide)
      have q50 : vs 50 = .bool true := hD 50 (by simp [waits, Region.binds])
      rw [q50] at r126
      clear ha hU hD
      rw [if_pos (by simp [Region.wanted, yielded, r126])]
      go_simp
      exact hK _ _ (bl_alloc hC _ (Nat.le_refl _)) (bl_alloc (Below.refl _ _) _ (Nat.le_refl _)) ⟨_, _, _, rfl, ints_new W 3 #[.int .i64 (0), .int .i64 (1), .int .i64 (2)] [0, 1, 2] rfl rfl (by decide) hC.size⟩
    · -- 53 call {value (func 22), #[t127, t128]}
      intro vs a W K ha hC hD hU hK
      have r126 : a.tmps[126]? = some (vs 50) := by rw [ha]; exact fillA_get0 (j := 50) (by kernel_rfl) (by rw [hsz]; decide)
      have q50 : vs 50 = .bool true := hD 50 (by simp [waits, Region.binds])
      rw [q50] at r126
      have r127 : a.tmps[127]? = some (vs 51) := by rw [ha]; exact fillA_get0 (j := 51) (by kernel_rfl) (by rw [hsz]; decide)
      have q51 : vs 51 = .slice Ay ny cy := hD 51 (by simp [waits, Region.binds])
      rw [q51] at r127
      have r128 : a.tmps[128]? = some (vs 52) := by rw [ha]; exact fillA_get0 (j := 52) (by kernel_rfl) (by rw [hsz]; decide)
      have q52 : IsInts v9.heap.size [0, 1, 2] (vs 52) W := hD 52 (by simp [waits, Region.binds])
      obtain ⟨A128, n128, c128, q52, hI128⟩ := q52
      rw [q52] at r128
      clear ha hU hD
      rw [if_pos (by simp [Region.wanted, yielded, r126])]
      go_simp
      refine (ints_any W (ry.out.keep IntR.good (Keeps.below hC)) hI128).mono ?_
      rintro e w' ⟨rfl, q, rfl⟩
      rw [decide_eq_true rfl]
      exact hK _ (bl_drewN hC q) (bl_drewN (Below.refl _ _) q)
    · -- 54 pick t126 t129 (const (bool false))
      intro vs a W K ha hC hD hU hK
      have r126 : a.tmps[126]? = some (vs 50) := by rw [ha]; exact fillA_get0 (j := 50) (by kernel_rfl) (by rw [hsz]; decide)
      have q50 : vs 50 = .bool true := hD 50 (by simp [waits, Region.binds])
      rw [q50] at r126
      have r129 : a.tmps[129]? = some (vs 53) := by rw [ha]; exact fillA_get0 (j := 53) (by kernel_rfl) (by rw [hsz]; decide)
      have q53 : vs 53 = .bool true := hD 53 (by simp [waits, Region.binds])
      rw [q53] at r129
      clear ha hU hD
      rw [if_pos (by rfl)]
      go_simp
      exact hK _ hC (Below.refl _ _)
    · -- 55 move t130
      intro vs a W K ha hC hD hU hK
      have r130 : a.tmps[130]? = some (vs 54) := by rw [ha]; exact fillA_get0 (j := 54) (by kernel_rfl) (by rw [hsz]; decide)
      have q54 : vs 54 = .bool true := hD 54 (by simp [waits, Region.binds])
      rw [q54] at r130
      clear ha hU hD
      rw [if_pos (by rfl)]
      go_simp
      exact hK _ hC (Below.refl _ _)
    · -- 56 load 44 t9
      intro vs a W K ha hC hD hU hK
      have r131 : a.tmps[131]? = some (vs 55) := by rw [ha]; exact fillA_get0 (j := 55) (by kernel_rfl) (by rw [hsz]; decide)
      have q55 : vs 55 = .bool true := hD 55 (by simp [waits, Region.binds])
      rw [q55] at r131
      have r9 : a.tmps[9]? = some (.pointer (some ⟨v3.heap.size, 0, none⟩)) := by rw [ha, fillA_base0 (by kernel_rfl)]; exact b9
      clear ha hU hD
      rw [if_pos (by simp [Region.wanted, yielded, r131])]
      obtain ⟨k0, k1, k2, k3⟩ := kk.out W hC
      go_simp
      exact hK _ hC (Below.refl _ _)
    · -- 57 call {value (func 36), #[const (int i64 2), const 
      intro vs a W K ha hC hD hU hK
      have r131 : a.tmps[131]? = some (vs 55) := by rw [ha]; exact fillA_get0 (j := 55) (by kernel_rfl) (by rw [hsz]; decide)
      have q55 : vs 55 = .bool true := hD 55 (by simp [waits, Region.binds])
      rw [q55] at r131
      clear ha hU hD
      rw [if_pos (by simp [Region.wanted, yielded, r131])]
      go_simp
      refine (span_any 2 4 W).mono ?_
      rintro e w' ⟨rfl, hb⟩
      exact hK _ (bl_call hC hb (Nat.le_refl _)) hb
    · -- 58 binOp Bineql 44 t132 t133 44
      intro vs a W K ha hC hD hU hK
      have r131 : a.tmps[131]? = some (vs 55) := by rw [ha]; exact fillA_get0 (j := 55) (by kernel_rfl) (by rw [hsz]; decide)
      have q55 : vs 55 = .bool true := hD 55 (by simp [waits, Region.binds])
      rw [q55] at r131
      have r132 : a.tmps[132]? = some (vs 56) := by rw [ha]; exact fillA_get0 (j := 56) (by kernel_rfl) (by rw [hsz]; decide)
      have q56 : vs 56 = .agg #[.int .i64 2, .int .i64 4] := hD 56 (by simp [waits, Region.binds])
      rw [q56] at r132
      have r133 : a.tmps[133]? = some (vs 57) := by rw [ha]; exact fillA_get0 (j := 57) (by kernel_rfl) (by rw [hsz]; decide)
      have q57 : vs 57 = .agg #[.int .i64 2, .int .i64 4] := hD 57 (by simp [waits, Region.binds])
      rw [q57] at r133
      clear ha hU hD
      rw [if_pos (by simp [Region.wanted, yielded, r131])]
      go_simp
      exact hK _ hC (Below.refl _ _)
    · -- 59 pick t131 t134 (const (bool false))
      intro vs a W K ha hC hD hU hK
      have r131 : a.tmps[131]? = some (vs 55) := by rw [ha]; exact fillA_get0 (j := 55) (by kernel_rfl) (by rw [hsz]; decide)
      have q55 : vs 55 = .bool true := hD 55 (by simp [waits, Region.binds])
      rw [q55] at r131
      have r134 : a.tmps[134]? = some (vs 58) := by rw [ha]; exact fillA_get0 (j := 58) (by kernel_rfl) (by rw [hsz]; decide)
      have q58 : vs 58 = .bool true := hD 58 (by simp [waits, Region.binds])
      rw [q58] at r134
      clear ha hU hD
      rw [if_pos (by rfl)]
      go_simp
      exact hK _ hC (Below.refl _ _)
    · -- 60 move t135
      intro vs a W K ha hC hD hU hK
      have r135 : a.tmps[135]? = some (vs 59) := by rw [ha]; exact fillA_get0 (j := 59) (by kernel_rfl) (by rw [hsz]; decide)
      have q59 : vs 59 = .bool true := hD 59 (by simp [waits, Region.binds])
      rw [q59] at r135
      clear ha hU hD
      rw [if_pos (by rfl)]
      go_simp
      exact hK _ hC (Below.refl _ _)
    · -- 61 load 44 t11
      intro vs a W K ha hC hD hU hK
      have r136 : a.tmps[136]? = some (vs 60) := by rw [ha]; exact fillA_get0 (j := 60) (by kernel_rfl) (by rw [hsz]; decide)
      have q60 : vs 60 = .bool true := hD 60 (by simp [waits, Region.binds])
      rw [q60] at r136
      have r11 : a.tmps[11]? = some (.pointer (some ⟨v4.heap.size, 0, none⟩)) := by rw [ha, fillA_base0 (by kernel_rfl)]; exact b11
      clear ha hU hD
      rw [if_pos (by simp [Region.wanted, yielded, r136])]
      obtain ⟨k0, k1, k2, k3⟩ := kk.out W hC
      go_simp
      exact hK _ hC (Below.refl _ _)
    · -- 62 call {value (func 36), #[const (int i64 47), const
      intro vs a W K ha hC hD hU hK
      have r136 : a.tmps[136]? = some (vs 60) := by rw [ha]; exact fillA_get0 (j := 60) (by kernel_rfl) (by rw [hsz]; decide)
      have q60 : vs 60 = .bool true := hD 60 (by simp [waits, Region.binds])
      rw [q60] at r136
      clear ha hU hD
      rw [if_pos (by simp [Region.wanted, yielded, r136])]
      go_simp
      refine (span_any 47 51 W).mono ?_
      rintro e w' ⟨rfl, hb⟩
      exact hK _ (bl_call hC hb (Nat.le_refl _)) hb
    · -- 63 binOp Bineql 44 t137 t138 44
      intro vs a W K ha hC hD hU hK
      have r136 : a.tmps[136]? = some (vs 60) := by rw [ha]; exact fillA_get0 (j := 60) (by kernel_rfl) (by rw [hsz]; decide)
      have q60 : vs 60 = .bool true := hD 60 (by simp [waits, Region.binds])
      rw [q60] at r136
      have r137 : a.tmps[137]? = some (vs 61) := by rw [ha]; exact fillA_get0 (j := 61) (by kernel_rfl) (by rw [hsz]; decide)
      have q61 : vs 61 = .agg #[.int .i64 47, .int .i64 51] := hD 61 (by simp [waits, Region.binds])
      rw [q61] at r137
      have r138 : a.tmps[138]? = some (vs 62) := by rw [ha]; exact fillA_get0 (j := 62) (by kernel_rfl) (by rw [hsz]; decide)
      have q62 : vs 62 = .agg #[.int .i64 47, .int .i64 51] := hD 62 (by simp [waits, Region.binds])
      rw [q62] at r138
      clear ha hU hD
      rw [if_pos (by simp [Region.wanted, yielded, r136])]
      go_simp
      exact hK _ hC (Below.refl _ _)
    · -- 64 pick t136 t139 (const (bool false))
      intro vs a W K ha hC hD hU hK
      have r136 : a.tmps[136]? = some (vs 60) := by rw [ha]; exact fillA_get0 (j := 60) (by kernel_rfl) (by rw [hsz]; decide)
      have q60 : vs 60 = .bool true := hD 60 (by simp [waits, Region.binds])
      rw [q60] at r136
      have r139 : a.tmps[139]? = some (vs 63) := by rw [ha]; exact fillA_get0 (j := 63) (by kernel_rfl) (by rw [hsz]; decide)
      have q63 : vs 63 = .bool true := hD 63 (by simp [waits, Region.binds])
      rw [q63] at r139
      clear ha hU hD
      rw [if_pos (by rfl)]
      go_simp
      exact hK _ hC (Below.refl _ _)
    · -- 65 move t140
      intro vs a W K ha hC hD hU hK
      have r140 : a.tmps[140]? = some (vs 64) := by rw [ha]; exact fillA_get0 (j := 64) (by kernel_rfl) (by rw [hsz]; decide)
      have q64 : vs 64 = .bool true := hD 64 (by simp [waits, Region.binds])
      rw [q64] at r140
      clear ha hU hD
      rw [if_pos (by rfl)]
      go_simp
      exact hK _ hC (Below.refl _ _)
    · -- 66 move t13
      intro vs a W K ha hC hD hU hK
      have r141 : a.tmps[141]? = some (vs 65) := by rw [ha]; exact fillA_get0 (j := 65) (by kernel_rfl) (by rw [hsz]; decide)
      have q65 : vs 65 = .bool true := hD 65 (by simp [waits, Region.binds])
      rw [q65] at r141
      have r13 : a.tmps[13]? = some (.slice Ap np cp) := by rw [ha, fillA_base0 (by kernel_rfl)]; exact b13
      clear ha hU hD
      rw [if_pos (by simp [Region.wanted, yielded, r141])]
      go_simp
      exact hK _ hC (Below.refl _ _)
    · -- 67 buildSlice 34 3 #[(0, const (int i64 2)), (1, cons
      intro vs a W K ha hC hD hU hK
      have r141 : a.tmps[141]? = some (vs 65) := by rw [ha]; exact fillA_get0 (j := 65) (by kernel_rfl) (by rw [hsz]; decide)
      have q65 : vs 65 = .bool true := hD 65 (by simp [waits, Region.binds])
      rw [q65] at r141
      clear ha hU hD
      rw [if_pos (by simp [Region.wanted, yielded, r141])]
      go_simp
      exact hK _ _ (bl_alloc hC _ (Nat.le_refl _)) (bl_alloc (Below.refl _ _) _ (Nat.le_refl _)) ⟨_, _, _, rfl, ints_new W 3 #[.int .i64 (2), .int .i64 (1), .int .i64 (0)] [2, 1, 0] rfl rfl (by decide) hC.size⟩
    · -- 68 call {value (func 22), #[t142, t143]}
      intro vs a W K ha hC hD hU hK
      have r141 : a.tmps[141]? = some (vs 65) := by rw [ha]; exact fillA_get0 (j := 65) (by kernel_rfl) (by rw [hsz]; decide)
      have q65 : vs 65 = .bool true := hD 65 (by simp [waits, Region.binds])
      rw [q65] at r141
      have r142 : a.tmps[142]? = some (vs 66) := by rw [ha]; exact fillA_get0 (j := 66) (by kernel_rfl) (by rw [hsz]; decide)
      have q66 : vs 66 = .slice Ap np cp := hD 66 (by simp [waits, Region.binds])
      rw [q66] at r142
      have r143 : a.tmps[143]? = some (vs 67) := by rw [ha]; exact fillA_get0 (j := 67) (by kernel_rfl) (by rw [hsz]; decide)
      have q67 : IsInts v9.heap.size [2, 1, 0] (vs 67) W := hD 67 (by simp [waits, Region.binds])
      obtain ⟨A143, n143, c143, q67, hI143⟩ := q67
      rw [q67] at r143
      clear ha hU hD
      rw [if_pos (by simp [Region.wanted, yielded, r141])]
      go_simp
      refine (ints_any W (rp.out.keep IntR.good (Keeps.below hC)) hI143).mono ?_
      rintro e w' ⟨rfl, q, rfl⟩
      rw [decide_eq_true rfl]
      exact hK _ (bl_drewN hC q) (bl_drewN (Below.refl _ _) q)
    · -- 69 pick t141 t144 (const (bool false))
      intro vs a W K ha hC hD hU hK
      have r141 : a.tmps[141]? = some (vs 65) := by rw [ha]; exact fillA_get0 (j := 65) (by kernel_rfl) (by rw [hsz]; decide)
      have q65 : vs 65 = .bool true := hD 65 (by simp [waits, Region.binds])
      rw [q65] at r141
      have r144 : a.tmps[144]? = some (vs 68) := by rw [ha]; exact fillA_get0 (j := 68) (by kernel_rfl) (by rw [hsz]; decide)
      have q68 : vs 68 = .bool true := hD 68 (by simp [waits, Region.binds])
      rw [q68] at r144
      clear ha hU hD
      rw [if_pos (by rfl)]
      go_simp
      exact hK _ hC (Below.refl _ _)
    · -- 70 move t145
      intro vs a W K ha hC hD hU hK
      have r145 : a.tmps[145]? = some (vs 69) := by rw [ha]; exact fillA_get0 (j := 69) (by kernel_rfl) (by rw [hsz]; decide)
      have q69 : vs 69 = .bool true := hD 69 (by simp [waits, Region.binds])
      rw [q69] at r145
      clear ha hU hD
      rw [if_pos (by rfl)]
      go_simp
      exact hK _ hC (Below.refl _ _)
    · -- 71 move t15
      intro vs a W K ha hC hD hU hK
      have r146 : a.tmps[146]? = some (vs 70) := by rw [ha]; exact fillA_get0 (j := 70) (by kernel_rfl) (by rw [hsz]; decide)
      have q70 : vs 70 = .bool true := hD 70 (by simp [waits, Region.binds])
      rw [q70] at r146
      have r15 : a.tmps[15]? = some (.slice Aw nw cw) := by rw [ha, fillA_base0 (by kernel_rfl)]; exact b15
      clear ha hU hD
      rw [if_pos (by simp [Region.wanted, yielded, r146])]
      go_simp
      exact hK _ hC (Below.refl _ _)
    · -- 72 buildSlice 34 1 #[(0, const (int i64 2))]
      intro vs a W K ha hC hD hU hK
      have r146 : a.tmps[146]? = some (vs 70) := by rw [ha]; exact fillA_get0 (j := 70) (by kernel_rfl) (by rw [hsz]; decide)
      have q70 : vs 70 = .bool true := hD 70 (by simp [waits, Region.binds])
      rw [q70] at r146
      clear ha hU hD
      rw [if_pos (by simp [Region.wanted, yielded, r146])]
      go_simp
      exact hK _ _ (bl_alloc hC _ (Nat.le_refl _)) (bl_alloc (Below.refl _ _) _ (Nat.le_refl _)) ⟨_, _, _, rfl, ints_new W 3 #[.int .i64 (2)] [2] rfl rfl (by decide) hC.size⟩
    · -- 73 call {value (func 22), #[t147, t148]}
      intro vs a W K ha hC hD hU hK
      have r146 : a.tmps[146]? = some (vs 70) := by rw [ha]; exact fillA_get0 (j := 70) (by kernel_rfl) (by rw [hsz]; decide)
      have q70 : vs 70 = .bool true := hD 70 (by simp [waits, Region.binds])
      rw [q70] at r146
      have r147 : a.tmps[147]? = some (vs 71) := by rw [ha]; exact fillA_get0 (j := 71) (by kernel_rfl) (by rw [hsz]; decide)
      have q71 : vs 71 = .slice Aw nw cw := hD 71 (by simp [waits, Region.binds])
      rw [q71] at r147
      have r148 : a.tmps[148]? = some (vs 72) := by rw [ha]; exact fillA_get0 (j := 72) (by kernel_rfl) (by rw [hsz]; decide)
      have q72 : IsInts v9.heap.size [2] (vs 72) W := hD 72 (by simp [waits, Region.binds])
      obtain ⟨A148, n148, c148, q72, hI148⟩ := q72
      rw [q72] at r148
      clear ha hU hD
      rw [if_pos (by simp [Region.wanted, yielded, r146])]
      go_simp
      refine (ints_any W (rw_.out.keep IntR.good (Keeps.below hC)) hI148).mono ?_
      rintro e w' ⟨rfl, q, rfl⟩
      rw [decide_eq_true rfl]
      exact hK _ (bl_drewN hC q) (bl_drewN (Below.refl _ _) q)
    · -- 74 pick t146 t149 (const (bool false))
      intro vs a W K ha hC hD hU hK
      have r146 : a.tmps[146]? = some (vs 70) := by rw [ha]; exact fillA_get0 (j := 70) (by kernel_rfl) (by rw [hsz]; decide)
      have q70 : vs 70 = .bool true := hD 70 (by simp [waits, Region.binds])
      rw [q70] at r146
      have r149 : a.tmps[149]? = some (vs 73) := by rw [ha]; exact fillA_get0 (j := 73) (by kernel_rfl) (by rw [hsz]; decide)
      have q73 : vs 73 = .bool true := hD 73 (by simp [waits, Region.binds])
      rw [q73] at r149
      clear ha hU hD
      rw [if_pos (by rfl)]
      go_simp
      exact hK _ hC (Below.refl _ _)
    · -- 75 move t150
      intro vs a W K ha hC hD hU hK
      have r150 : a.tmps[150]? = some (vs 74) := by rw [ha]; exact fillA_get0 (j := 74) (by kernel_rfl) (by rw [hsz]; decide)
      have q74 : vs 74 = .bool true := hD 74 (by simp [waits, Region.binds])
      rw [q74] at r150
      clear ha hU hD
      rw [if_pos (by rfl)]
      go_simp
      exact hK _ hC (Below.refl _ _)
    · -- 76 move t17
      intro vs a W K ha hC hD hU hK
      have r151 : a.tmps[151]? = some (vs 75) := by rw [ha]; exact fillA_get0 (j := 75) (by kernel_rfl) (by rw [hsz]; decide)
      have q75 : vs 75 = .bool true := hD 75 (by simp [waits, Region.binds])
      rw [q75] at r151
      have r17 : a.tmps[17]? = some (.int .i64 2) := by rw [ha, fillA_base0 (by kernel_rfl)]; exact b17
      clear ha hU hD
      rw [if_pos (by simp [Region.wanted, yielded, r151])]
      go_simp
      exact hK _ hC (Below.refl _ _)
    · -- 77 binOp Bineql 3 t152 (const (int i64 2)) 3
      intro vs a W K ha hC hD hU hK
      have r151 : a.tmps[151]? = some (vs 75) := by rw [ha]; exact fillA_get0 (j := 75) (by kernel_rfl) (by rw [hsz]; decide)
      have q75 : vs 75 = .bool true := hD 75 (by simp [waits, Region.binds])
      rw [q75] at r151
      have r152 : a.tmps[152]? = some (vs 76) := by rw [ha]; exact fillA_get0 (j := 76) (by kernel_rfl) (by rw [hsz]; decide)
      have q76 : vs 76 = .int .i64 2 := hD 76 (by simp [waits, Region.binds])
      rw [q76] at r152
      clear ha hU hD
      rw [if_pos (by simp [Region.wanted, yielded, r151])]
      go_simp
      exact hK _ hC (Below.refl _ _)
    · -- 78 pick t151 t153 (const (bool false))
      intro vs a W K ha hC hD hU hK
      have r151 : a.tmps[151]? = some (vs 75) := by rw [ha]; exact fillA_get0 (j := 75) (by kernel_rfl) (by rw [hsz]; decide)
      have q75 : vs 75 = .bool true := hD 75 (by simp [waits, Region.binds])
      rw [q75] at r151
      have r153 : a.tmps[153]? = some (vs 77) := by rw [ha]; exact fillA_get0 (j := 77) (by kernel_rfl) (by rw [hsz]; decide)
      have q77 : vs 77 = .bool true := hD 77 (by simp [waits, Region.binds])
      rw [q77] at r153
      clear ha hU hD
      rw [if_pos (by rfl)]
      go_simp
      exact hK _ hC (Below.refl _ _)
    · -- 79 move t154
      intro vs a W K ha hC hD hU hK
      have r154 : a.tmps[154]? = some (vs 78) := by rw [ha]; exact fillA_get0 (j := 78) (by kernel_rfl) (by rw [hsz]; decide)
      have q78 : vs 78 = .bool true := hD 78 (by simp [waits, Region.binds])
      rw [q78] at r154
      clear ha hU hD
      rw [if_pos (by rfl)]
      go_simp
      exact hK _ hC (Below.refl _ _)
    · -- 80 move t18
      intro vs a W K ha hC hD hU hK
      have r155 : a.tmps[155]? = some (vs 79) := by rw [ha]; exact fillA_get0 (j := 79) (by kernel_rfl) (by rw [hsz]; decide)
      have q79 : vs 79 = .bool true := hD 79 (by simp [waits, Region.binds])
      rw [q79] at r155
      have r18 : a.tmps[18]? = some (.int .i64 2) := by rw [ha, fillA_base0 (by kernel_rfl)]; exact b18
      clear ha hU hD
      rw [if_pos (by simp [Region.wanted, yielded, r155])]
      go_simp
      exact hK _ hC (Below.refl _ _)
    · -- 81 binOp Bineql 3 t156 (const (int i64 2)) 3
      intro vs a W K ha hC hD hU hK
      have r155 : a.tmps[155]? = some (vs 79) := by rw [ha]; exact fillA_get0 (j := 79) (by kernel_rfl) (by rw [hsz]; decide)
      have q79 : vs 79 = .bool true := hD 79 (by simp [waits, Region.binds])
      rw [q79] at r155
      have r156 : a.tmps[156]? = some (vs 80) := by rw [ha]; exact fillA_get0 (j := 80) (by kernel_rfl) (by rw [hsz]; decide)
      have q80 : vs 80 = .int .i64 2 := hD 80 (by simp [waits, Region.binds])
      rw [q80] at r156
      clear ha hU hD
      rw [if_pos (by simp [Region.wanted, yielded, r155])]
      go_simp
      exact hK _ hC (Below.refl _ _)
    · -- 82 pick t155 t157 (const (bool false))
      intro vs a W K ha hC hD hU hK
      have r155 : a.tmps[155]? = some (vs 79) := by rw [ha]; exact fillA_get0 (j := 79) (by kernel_rfl) (by rw [hsz]; decide)
      have q79 : vs 79 = .bool true := hD 79 (by simp [waits, Region.binds])
      rw [q79] at r155
      have r157 : a.tmps[157]? = some (vs 81) := by rw [ha]; exact fillA_get0 (j := 81) (by kernel_rfl) (by rw [hsz]; decide)
      have q81 : vs 81 = .bool true := hD 81 (by simp [waits, Region.binds])
      rw [q81] at r157
      clear ha hU hD
      rw [if_pos (by rfl)]
      go_simp
      exact hK _ hC (Below.refl _ _)
    · -- 83 assign t158
      intro vs a W K ha hC hD hU hK
      have r158 : a.tmps[158]? = some (vs 82) := by rw [ha]; exact fillA_get0 (j := 82) (by kernel_rfl) (by rw [hsz]; decide)
      have q82 : vs 82 = .bool true := hD 82 (by simp [waits, Region.binds])
      rw [q82] at r158
      clear ha hU hD
      rw [if_pos (by rfl)]
      go_simp
      exact hK _ hC (Below.refl _ _)
  case finA =>
    refine Fin1.none (Nat.le_refl _) ?_
    intro vs W a1 hC hE ha
    have e0 : vs 83 = .bool true := hE 83 (by simp)
    have r0 : a1.tmps[0]? = some (vs 83) := by rw [ha]; exact fillA_get0 (j := 83) (by kernel_rfl) (by rw [hsz]; decide)
    have hdf1 : a1.defers = [] := by rw [ha, fillA_defers]; exact hdf
    rw [e0] at r0
    have hBF := bl_call hB9 hC (Nat.le_refl _)
    clear ha hE hC e0
    go_simp
    go_wp2
    refine bodyPost_ret (results_tmp rfl _ _ _) hdf1 ?_
    exact ⟨by simp [r0], hBF⟩

end Go.Proofs.YtkbpmcpmcmnfgaaDoor
