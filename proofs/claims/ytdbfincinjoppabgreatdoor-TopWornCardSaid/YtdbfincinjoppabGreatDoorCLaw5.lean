/- A part of the proof that TopWorn always answers true. -/
import Derived.Test.YtdbfincinjoppabGreatDoorCBackPure
import Derived.Test.YtdbfincinjoppabGreatDoorCBackPure4
import Derived.Test.YtdbfincinjoppabGreatDoorCProg26
import Derived.Test.YtdbfincinjoppabGreatDoorCRegion
set_option linter.all false
namespace Go.Proofs.YtdbfincinjoppabGreatDoor
open Go.RowKit
def claimC (l : List Meas) : Claim :=
  ⟨[⟨[119, 105, 100, 101], 1000, 2⟩, ⟨[100, 101, 101, 112], 800, 2⟩, ⟨[101, 100, 103, 101], 50, 1⟩],
   [⟨[119, 97, 116, 101, 114], 1, 4, [-5, -4, 0]⟩, ⟨[119, 111, 114, 110], 1, 3, [-2, 0, -3]⟩, ⟨[115, 99, 97, 108, 101], 1, 2, [10, 8, 1]⟩],
   [⟨0, 990⟩, ⟨1, 793⟩] ++ l⟩
theorem sliceOf_blk {α : Type} {R : Rd α} {m : Nat} {S : Foot} {w : World} {g : Nat} {t : TypeId} {xs : List α} {vss : List (List Value)} (hl : xs.length = vss.length) (hm : ∀ vs ∈ vss, vs.length = m) (hle : xs.length ≤ maxLen)
  (hR : ∀ (k : Nat) x vs, xs[k]? = some x → vss[k]? = some vs → R S w x vs) (hB : Blk w g t (vss.flatMap id).toArray) (hS : S g) : SliceOf R m S w (some ⟨g, 0, none⟩) xs.length xs := by
 refine ⟨rfl, hle, fun k x hx => ?_⟩
 have hk : k < vss.length := by rw [← hl]; exact of_getq' hx
 have hv := List.getElem?_eq_getElem hk
 refine ⟨g, 0, vss[k], rfl, hS, hB.lt, hR k x _ hx hv, fun j u hu => ?_⟩
 have := hB.cell (k * m + j)
 rw [Nat.zero_add, this, List.getElem?_toArray]
 exact flat_get (f := id) hm hv hu
theorem ints_blk {S : Foot} {w : World} {g : Nat} {t : TypeId} (a b c : Int) (hB : Blk w g t #[.int .i64 a, .int .i64 b, .int .i64 c]) (hS : S g) : Ints S w (some ⟨g, 0, none⟩) 3 [a, b, c] :=
 sliceOf_blk (vss := [[.int .i64 a], [.int .i64 b], [.int .i64 c]]) rfl (fun vs h => by simp at h; rcases h with rfl | rfl | rfl <;> rfl) (by simp [maxLen]) (fun k x vs hx hv => by
  rcases k with _ | _ | _ | k <;> simp at hx hv <;> subst hx <;> subst hv <;> rfl) hB hS
theorem infoMeas : (Tryz.prog.info? 49).map (fun i => (i.zero, i.size, i.bytes)) = some (some (.agg #[.int .i64 0, .int .i64 0]), 2, 16) := by kernel_rfl
theorem own_meas {W : World} {g base : Nat} (hb : base ≤ g) (hB : Blk W g 49 #[.int .i64 0, .int .i64 990, .int .i64 1, .int .i64 793]) : OwnL MeasR 2 (fun _ => False) W base 49 (.slice (some ⟨g, 0, none⟩) 2 2) [⟨0, 990⟩, ⟨1, 793⟩] := by
 refine ⟨fun k _ h => h, [.int .i64 0, .int .i64 990, .int .i64 1, .int .i64 793], ⟨rfl, .inr ⟨g, 2, _, rfl, hb, hB, Nat.le_refl _, by unfold maxLen; omega, rfl, rfl⟩⟩, fun k x hx => ?_⟩
 rcases k with _ | _ | k <;> simp at hx <;> subst hx
 ·exact ⟨_, rfl, fun j u hu => by rcases j with _ | _ | j <;> simp at hu <;> subst hu <;> rfl⟩
 exact ⟨_, rfl, fun j u hu => by rcases j with _ | _ | j <;> simp at hu <;> subst hu <;> rfl⟩
theorem wpList_append_none {P : Program} {ops : Array Oper} {rest : List Oper} {o : Oper} {a : Act} {Q : Exit → Act → World → Prop} (w : World) (hgd : o.guard = none) (s x : Operand) (t : TypeId)
  (ho : o.op = .call { callee := .builtin .append, args := #[s, x], argTypes := #[t, t] })
  {α : Type} {R : Rd α} {m : Nat} {S : Foot} (base : Nat) (e : TypeId) (i : TypeInfo) (ht : P.underlying t = some (.slice e)) (hi : P.info? e = some i) (hsize : i.size = m) (hm : 0 < m)
  (v : Value) (xs : List α) (hs : a.eval s = v) (hown : OwnL R m S w base e v xs) (c : Nat) (hx : a.eval x = .slice none 0 c)
  (h : wpList P ops Q rest (a.put o.dst v) w) : wpList P ops Q (o :: rest) a w := by
 obtain ⟨h0, cells, hrow, hcells⟩ := hown
 refine wpList_plain hgd fun K hK => ?_
 have hrun : (Builtin.append_ #[t, t] o.type #[v, .slice none 0 c]).run P w = .ok v w := by
  rcases hrow.2 with ⟨rfl, hz0⟩ | ⟨g, cap, cur, rfl, _, _, hnc, _⟩
  ·simp [Builtin.append_, run_underlying ht, sizeOf, typeInfo, hi, hsize, Nat.ne_of_gt hm, Builtin.lenOf, Builtin.firstCells]
  simp [Builtin.append_, run_underlying ht, sizeOf, typeInfo, hi, hsize, Nat.ne_of_gt hm, Builtin.lenOf, Builtin.firstCells, hnc, storeCells]
 unfold Oper.wp execOp
 simp only [ho, resolve, invoke, builtin, Sem.run_bind, Sem.run_pure, Result.andThen_ok, List.map_toArray, List.map_cons, List.map_nil, hs, hx, hrun]
 exact hK _ _ h
structure ClBk (w W : World) (g gf gp1 gp2 gp3 gc gm : Nat) : Prop where
 cb : Blk W g 44 #[.slice none 0 0, .slice none 0 0, .slice none 0 0]
 fb : Blk W gf 39 #[.string ⟨#[119, 105, 100, 101]⟩, .int .i64 1000, .int .i64 2, .string ⟨#[100, 101, 101, 112]⟩, .int .i64 800, .int .i64 2, .string ⟨#[101, 100, 103, 101]⟩, .int .i64 50, .int .i64 1]
 p1 : Blk W gp1 3 #[.int .i64 (-5), .int .i64 (-4), .int .i64 0]
 p2 : Blk W gp2 3 #[.int .i64 (-2), .int .i64 0, .int .i64 (-3)]
 p3 : Blk W gp3 3 #[.int .i64 10, .int .i64 8, .int .i64 1]
 ob : Blk W gc 47 #[.string ⟨#[119, 97, 116, 101, 114]⟩, .int .i64 1, .int .i64 4, .slice (some ⟨gp1, 0, none⟩) 3 3, .string ⟨#[119, 111, 114, 110]⟩, .int .i64 1, .int .i64 3, .slice (some ⟨gp2, 0, none⟩) 3 3, .string ⟨#[115, 99, 97, 108, 101]⟩, .int .i64 1, .int .i64 2, .slice (some ⟨gp3, 0, none⟩) 3 3]
 bl : Below w.heap.size w W
 ge : w.heap.size < gf ∧ w.heap.size < gp1 ∧ w.heap.size < gp2 ∧ w.heap.size < gp3 ∧ w.heap.size < gc
theorem ClBk.at_ {w W : World} {g gf gp1 gp2 gp3 gc gm q : Nat} {C : Option Addr} {l : List Meas} (h : ClBk w W g gf gp1 gp2 gp3 gc gm) (hm : Meass (fun k => w.heap.size < k) W C q ([⟨0, 990⟩, ⟨1, 793⟩] ++ l)) :
  ClaimAt (fun k => w.heap.size < k) W (some ⟨gf, 0, none⟩) 3 (some ⟨gc, 0, none⟩) 3 C q (claimC l) := by
 obtain ⟨g1, g2, g3, g4, g5⟩ := h.ge
 refine ⟨?_, ?_, hm⟩
 ·refine sliceOf_blk (xs := (claimC l).feats) (vss := [[.string ⟨#[119, 105, 100, 101]⟩, .int .i64 1000, .int .i64 2], [.string ⟨#[100, 101, 101, 112]⟩, .int .i64 800, .int .i64 2], [.string ⟨#[101, 100, 103, 101]⟩, .int .i64 50, .int .i64 1]]) rfl (fun vs h => by simp at h; rcases h with rfl | rfl | rfl <;> rfl) (by simp [claimC, maxLen]) (fun k x vs hx hv => ?_) h.fb g1
  rcases k with _ | _ | _ | k <;> simp [claimC] at hx hv <;> subst hx <;> subst hv
  ·exact ⟨⟨#[119, 105, 100, 101]⟩, rfl, rfl, by decide⟩
  ·exact ⟨⟨#[100, 101, 101, 112]⟩, rfl, rfl, by decide⟩
  exact ⟨⟨#[101, 100, 103, 101]⟩, rfl, rfl, by decide⟩
 refine sliceOf_blk (xs := (claimC l).causes) (vss := [[.string ⟨#[119, 97, 116, 101, 114]⟩, .int .i64 1, .int .i64 4, .slice (some ⟨gp1, 0, none⟩) 3 3], [.string ⟨#[119, 111, 114, 110]⟩, .int .i64 1, .int .i64 3, .slice (some ⟨gp2, 0, none⟩) 3 3], [.string ⟨#[115, 99, 97, 108, 101]⟩, .int .i64 1, .int .i64 2, .slice (some ⟨gp3, 0, none⟩) 3 3]]) rfl (fun vs h => by simp at h; rcases h with rfl | rfl | rfl <;> rfl) (by simp [claimC, maxLen]) (fun k x vs hx hv => ?_) h.ob g5
 rcases k with _ | _ | _ | k <;> simp [claimC] at hx hv <;> subst hx <;> subst hv
 ·exact ⟨⟨#[119, 97, 116, 101, 114]⟩, _, _, _, rfl, rfl, by decide, ints_blk _ _ _ h.p1 g2⟩
 ·exact ⟨⟨#[119, 111, 114, 110]⟩, _, _, _, rfl, rfl, by decide, ints_blk _ _ _ h.p2 g3⟩
 exact ⟨⟨#[115, 99, 97, 108, 101]⟩, _, _, _, rfl, rfl, by decide, ints_blk _ _ _ h.p3 g4⟩
theorem ClaimAt.mono' {S T : Foot} {w : World} {A B C : Option Addr} {n m q : Nat} {c : Claim} (h : ClaimAt S w A n B m C q c) (hk : ∀ k, S k → T k) : ClaimAt T w A n B m C q c :=
 ⟨h.fs.mono FeatR.good hk, h.cs.mono CauseR.good hk, h.ms.mono MeasR.good hk⟩
set_option maxRecDepth 100000 in
set_option maxHeartbeats 4000000 in
theorem claim_any {S : Foot} {Ax : Option Addr} {kx cx : Nat} {l : List Meas} (w : World) (hx : (Ax = none ∧ kx = 0 ∧ cx = 0 ∧ l = []) ∨ (kx = 1 ∧ ∃ f z, l = [⟨f, z⟩] ∧ Meass S w Ax 1 l)) :
  Calls Tryz.prog 27 #[.slice Ax kx cx] w fun e w' => ∃ A B C ca cb cc, e = .returned (.agg #[.slice A 3 ca, .slice B 3 cb, .slice C (2 + kx) cc]) ∧ 3 ≤ ca ∧ 3 ≤ cb ∧ ClaimAt (fun k => w.heap.size ≤ k) w' A 3 B 3 C (2 + kx) (claimC l) ∧ Below w.heap.size w w' := by
 have Hx := Lib.hid hx
 clear hx
 go_enter Tryz.func27, Tryz.ntmps27
 go_wp2_with fail
 refine (span_any 1 4 _).mono ?_
 rintro e w1 ⟨rfl, hb1⟩
 have hc1 := ((Blk.new w 44 #[.slice none 0 0, .slice none 0 0, .slice none 0 0] rfl).alloc (.cells #[.string ⟨#[119, 105, 100, 101]⟩, .int .i64 1000, .int .i64 2, .string ⟨#[100, 101, 101, 112]⟩, .int .i64 800, .int .i64 2, .string ⟨#[101, 100, 103, 101]⟩, .int .i64 50, .int .i64 1] 39)).bl hb1
 have hf1 : Blk w1 (w.heap.size + 1) 39 _ := (Blk.new _ _ _ (by simp)).bl hb1
 have hB1 : Below w.heap.size w w1 := bl_call (bl_alloc (bl_alloc (Below.refl _ _) _ (Nat.le_refl _)) _ (Nat.le_refl _)) hb1 (Nat.le_refl _)
 have hs1 : w.heap.size + 1 < w1.heap.size := hf1.lt
 clear hb1
 go_wp2_with fail
 refine (span_any 1 3 _).mono ?_
 rintro e w2 ⟨rfl, hb2⟩
 have hp2 : Blk w2 w1.heap.size 3 _ := (Blk.new _ _ _ rfl).bl hb2
 have hB2 : Below w1.heap.size w1 w2 := bl_call (bl_alloc (Below.refl _ _) _ (Nat.le_refl _)) hb2 (Nat.le_refl _)
 clear hb2
 go_wp2_with fail
 refine (span_any 1 2 _).mono ?_
 rintro e w3 ⟨rfl, hb3⟩
 have hp3 : Blk w3 w2.heap.size 3 _ := (Blk.new _ _ _ rfl).bl hb3
 have hB3 : Below w2.heap.size w2 w3 := bl_call (bl_alloc (Below.refl _ _) _ (Nat.le_refl _)) hb3 (Nat.le_refl _)
 clear hb3
 obtain ⟨W4, hW4⟩ : ∃ W4, ((w3.alloc (.cells #[.int .i64 10, .int .i64 8, .int .i64 1] 3)).alloc (.cells #[.string ⟨#[119, 97, 116, 101, 114]⟩, .int .i64 1, .int .i64 4, .slice (some ⟨w1.heap.size, 0, none⟩) 3 3, .string ⟨#[119, 111, 114, 110]⟩, .int .i64 1, .int .i64 3, .slice (some ⟨w2.heap.size, 0, none⟩) 3 3, .string ⟨#[115, 99, 97, 108, 101]⟩, .int .i64 1, .int .i64 2, .slice (some ⟨w3.heap.size, 0, none⟩) 3 3] 47)).alloc (.cells #[.int .i64 0, .int .i64 990, .int .i64 1, .int .i64 793] 49) = W4 := ⟨_, rfl⟩
 have hB34 : Below w3.heap.size w3 W4 := by rw [← hW4]; exact bl_alloc (bl_alloc (bl_alloc (Below.refl _ _) _ (Nat.le_refl _)) _ (Nat.le_refl _)) _ (Nat.le_refl _)
 have hw12 := hB2.size
 have hw23 := hB3.size
 have hcl : ClBk w W4 w.heap.size (w.heap.size + 1) w1.heap.size w2.heap.size w3.heap.size (w3.heap.size + 1) 0 := by
  refine ⟨((hc1.bl hB2).bl hB3).bl hB34, ((hf1.bl hB2).bl hB3).bl hB34, (hp2.bl hB3).bl hB34, hp3.bl hB34, ?_, ?_, bl_call (bl_call (bl_call hB1 hB2 (Nat.le_refl _)) hB3 (Nat.le_refl _)) hB34 (Nat.le_refl _), by omega, by omega, by omega, by omega, by omega⟩
  ·rw [← hW4]; exact ((Blk.new _ _ _ rfl).alloc _).alloc _
  rw [← hW4]; exact (Blk.new _ _ _ (by simp)).alloc _
 have hmB : Blk W4 (w3.heap.size + 1 + 1) 49 #[.int .i64 0, .int .i64 990, .int .i64 1, .int .i64 793] := by rw [← hW4]; exact Blk.new _ _ _ (by simp)
 have hg0 := hcl.cb.cell 0
 have hg1 := hcl.cb.cell 1
 have hg2 := hcl.cb.cell 2
 have hgf := hcl.cb.frozen 0
 have hgf1 := hcl.cb.frozen 1
 have hgf2 := hcl.cb.frozen 2
 have hgl := hcl.cb.lt
 have HW4 := Lib.hid hW4
 have hwm : w.heap.size < w3.heap.size + 1 + 1 := by omega
 clear hc1 hf1 hp2 hp3 hB1 hB2 hB3 hB34 hs1 hW4
 rcases Hx.out with ⟨rfl, rfl, rfl, rfl⟩ | ⟨rfl, f, z, rfl, hM⟩
 ·have hcA := hcl.at_ (l := []) (C := some ⟨w3.heap.size + 1 + 1, 0, none⟩) (q := 2) (sliceOf_blk (R := MeasR) (m := 2) (xs := ([⟨0, 990⟩, ⟨1, 793⟩] : List Meas)) (vss := [[.int .i64 0, .int .i64 990], [.int .i64 1, .int .i64 793]]) rfl (fun vs h => by simp at h; rcases h with rfl | rfl <;> rfl) (by simp [maxLen]) (fun k x vs hx hv => by rcases k with _ | _ | k <;> simp at hx hv <;> subst hx <;> subst hv <;> rfl) hmB (by omega))
  have hBl := hcl.bl
  have hX := hcl.cb
  obtain ⟨i0, hi0, hz0, hz1, hz2⟩ := info_parts infoMeas
  have HOM := Lib.hid (own_meas (base := w3.heap.size + 1 + 1) (Nat.le_refl _) hmB)
  have HcA := Lib.hid hcA
  clear hcl hmB Hx hcA
  go_wp2_with (at_builtin; rw [HW4.out]; refine wpList_append_none (R := MeasR) (m := 2) (S := fun _ => False) _ rfl (.tmp 19) (.tmp 20) _ rfl (w3.heap.size + 1 + 1) 49 i0 Tryz.underlying42 hi0 hz1 (by omega) _ ([⟨0, 990⟩, ⟨1, 793⟩] : List Meas) rfl HOM.out 0 rfl ?_)
  refine bodyPost_ret (ret_claim1 rfl rfl (((hX.set_ 0 _).set_ 1 _).set_ 2 _ |>.cell 0) (((hX.set_ 0 _).set_ 1 _).set_ 2 _ |>.cell 1) (((hX.set_ 0 _).set_ 1 _).set_ 2 _ |>.cell 2)) rfl ?_
  refine ⟨_, _, _, _, _, _, rfl, Nat.le_refl _, Nat.le_refl _, (((HcA.out.keep (Keeps.setCell _ _ _ (by simp))).keep (Keeps.setCell _ _ _ (by simp))).keep (Keeps.setCell _ _ _ (by simp))).mono' (fun k h => Nat.le_of_lt h), bl_set (bl_set (bl_set hBl (Nat.le_refl _) _) (Nat.le_refl _) _) (Nat.le_refl _) _⟩
 obtain ⟨bx, ox, fx, zx, rfl, hbx, hx0, hx1, HXM⟩ := hM.get (k := 0) (by decide)
 have hfz : f = fx ∧ z = zx := by have := HXM.out; simp at this; exact this
 obtain ⟨rfl, rfl⟩ := hfz
 obtain ⟨i0, hi0, hz0, hz1, hz2⟩ := info_parts infoMeas
 have hOM := own_meas (base := w3.heap.size + 1 + 1) (Nat.le_refl _) hmB
 have hY0 := getc hcl.bl hx0
 have hY1 := getc hcl.bl hx1
 have hnews : ∀ j u, [Value.int .i64 f, Value.int .i64 z][j]? = some u → W4.cell? ((⟨bx, ox, none⟩ : Addr).add j) = some u := fun j u hu => by
  rcases j with _ | _ | j
  ·simp at hu; subst hu; simpa [Addr.add] using hY0
  ·simp at hu; subst hu; simpa [Addr.add] using hY1
  simp at hu
 have hsz4 : w3.heap.size + 1 + 1 ≤ W4.heap.size := Nat.le_of_lt hmB.lt
 have HN := Lib.hid hnews
 have HOM := Lib.hid hOM
 have HCL := Lib.hid hcl
 clear hnews hOM hY0 hY1 hM Hx hx0 hx1 HXM hg0 hg1 hg2 hgf hgf1 hgf2 hgl hmB
 go_wp2_with (at_builtin; rw [HW4.out]; refine wpList_append_n _ rfl (.tmp 19) (.tmp 20) _ rfl MeasR.good (w3.heap.size + 1 + 1) 49 i0 _ 16 Tryz.underlying42 hi0 hz0 hz1 hz2 rfl (by omega) _ [⟨0, 990⟩, ⟨1, 793⟩] ⟨f, z⟩ 2 rfl rfl HOM.out ⟨bx, ox, none⟩ _ [.int .i64 f, .int .i64 z] rfl rfl HN.out ?c1 ?c2 ?c3 (fun h => h) ?_)
 case c1 => simp only [maxLen]; omega
 case c2 => omega
 case c3 => exact hsz4
 intro Af capf wf hOf hgf hat
 have hgf' : W4.grownBy wf (some (w3.heap.size + 1 + 1)) := hgf
 have hge := HCL.out.ge
 have hfl := HCL.out.fb.lt
 have hcf : ClBk w wf w.heap.size (w.heap.size + 1) w1.heap.size w2.heap.size w3.heap.size (w3.heap.size + 1) 0 := by
  have h := HCL.out
  refine ⟨h.cb.grown hgf' (by simp; omega), h.fb.grown hgf' (by simp; omega), h.p1.grown hgf' (by simp; omega), h.p2.grown hgf' (by simp; omega), h.p3.grown hgf' (by simp; omega), h.ob.grown hgf' (by simp; try omega), h.bl.grown hgf' h.bl.size (fun j hj => by injection hj with hj; omega), hge⟩
 have hcA := hcf.at_ (l := [⟨f, z⟩]) (C := some ⟨Af, 0, none⟩) (q := 3) (OwnL.slice MeasR.good hOf rfl (by unfold maxLen; omega) (fun _ h => h.elim) (fun k hk _ => by omega))
 have hBl := hcf.bl
 have hX := hcf.cb
 have hg0 := hX.cell 0
 have hg1 := hX.cell 1
 have hg2 := hX.cell 2
 have hgf0 := hX.frozen 0
 have hgf1 := hX.frozen 1
 have hgf2 := hX.frozen 2
 have hgl := hX.lt
 have HcA := Lib.hid hcA
 clear hcl hcf hOf hgf hgf' hat hcA hge hfl
 go_wp2
 refine bodyPost_ret (ret_claim1 rfl rfl (((hX.set_ 0 _).set_ 1 _).set_ 2 _ |>.cell 0) (((hX.set_ 0 _).set_ 1 _).set_ 2 _ |>.cell 1) (((hX.set_ 0 _).set_ 1 _).set_ 2 _ |>.cell 2)) rfl ?_
 refine ⟨_, _, _, _, _, _, rfl, Nat.le_refl _, Nat.le_refl _, (((HcA.out.keep (Keeps.setCell _ _ _ (by simp))).keep (Keeps.setCell _ _ _ (by simp))).keep (Keeps.setCell _ _ _ (by simp))).mono' (fun k h => Nat.le_of_lt h), bl_set (bl_set (bl_set hBl (Nat.le_refl _) _) (Nat.le_refl _) _) (Nat.le_refl _) _⟩
theorem ex_sets : setsR (claimC [⟨2, 47⟩]) = ([[0, 1]], 0) := by decide +kernel
theorem ex_must : mustR (claimC []) = ([0], [0, 1, 2], 0) := by decide +kernel
theorem ex_amount : amountR (claimC []) 0 = ((2, 4), 0) := by decide +kernel
theorem ex_value : valueR (claimC []) 2 = ((47, 51), 0) := by decide +kernel
theorem ex_plain : plainR (claimC [⟨2, 47⟩]) = ([2, 1, 0], 0) := by decide +kernel
theorem ex_wrong : wrongR (claimC [⟨0, 1010⟩]) = ([2], 0) := by decide +kernel
theorem ex_ask : askR (claimC []) = (2, 2, 0) := by decide +kernel
theorem ex_zero : plainR (claimC [⟨0, 1010⟩]) = ([], 8) := by decide +kernel
theorem ex_none : setsR (claimC [⟨0, 1010⟩]) = ([], 0) := by decide +kernel
open Go.RowKit
end Go.Proofs.YtdbfincinjoppabGreatDoor
