/- A part of the proof that TopLaid always answers true. -/
import Derived.Test.YtdbfincinjoppaaGreatCKOut1
import Derived.Test.YtdbfincinjoppaaGreatCTopQ
set_option linter.all false
namespace Go.Proofs.YtdbfincinjoppaaGreat
open Go.RowKit Go.Shelf
def anyTwo7 (x : Mould) (xs : List Nat) (i : Nat) : Int × Int := (amongC x.slo x.shi (turnL xs (2 * i + 1)), amongC x.wlo x.whi (turnL xs (2 * i + 2)))
def anyK7 (s : Shop) (xs : List Nat) (k : Nat) : List (Int × Int) := (List.range k).map fun i => anyTwo7 (s.moulds.getD i dMould) xs i
def anyT7 (s : Shop) (xs : List Nat) : List (Int × Int) := anyK7 s xs s.moulds.length
def anyS7 (s : Shop) (xs : List Nat) : Int := amongC s.klo s.khi (turnL xs 0)
theorem anyK7_succ (s : Shop) (xs : List Nat) (k : Nat) : anyK7 s xs (k + 1) = anyK7 s xs k ++ [anyTwo7 (s.moulds.getD k dMould) xs k] := by unfold anyK7; rw [List.range_succ, List.map_append]; rfl
theorem anyK7_len (s : Shop) (xs : List Nat) (k : Nat) : (anyK7 s xs k).length = k := by unfold anyK7; simp
def NewTr (B : Nat) (v : Value) (W : World) : Prop := ∃ g, B ≤ g ∧ v = .pointer (some ⟨g, 0, none⟩) ∧ Blk W g 43 #[.int .i64 0, .slice none 0 0]
theorem NewTr.bl {B : Nat} {v : Value} {W V : World} (h : NewTr B v W) (hb : Below W.heap.size W V) : NewTr B v V := by
 obtain ⟨g, h1, h2, h3⟩ := h
 exact ⟨g, h1, h2, h3.bl hb⟩
def IsTruth (w0 : Nat) (k : Int) (tw : List (Int × Int)) (e : Ending) (w' : World) : Prop := ∃ (A : Option Addr) (c : Nat), e = .returned (.agg #[.int .i64 k, .slice A tw.length c]) ∧ Pairs (fun j => w0 ≤ j) w' A tw.length tw
theorem ret_truth {fn : Func} {p : Tmp} (h : fn.results = #[.cell p 43]) {tmps : Array Value} {g : Nat} {v0 v1 : Value} {w : World} (hp : tmps.getD p undef = .pointer (some ⟨g, 0, none⟩))
  (h0 : w.cell? ⟨g, 0, none⟩ = some v0) (h1 : w.cell? ⟨g, 1, none⟩ = some v1) : (results fn tmps).run Tryz.prog w = .ok (.agg #[v0, v1]) w := by
 have hp' : tmps[p]?.getD undef = .pointer (some ⟨g, 0, none⟩) := by simpa using hp
 simp [results, h, hp', asAddr, go_sem, h0, h1]
set_option maxRecDepth 100000 in
set_option maxHeartbeats 8000000 in
theorem any7_any {S : Foot} {A C : Option Addr} {n ca q cc : Nat} {s : Shop} {klo khi : Int} {xs : List Nat} (w : World) (g : Moulds (fun _ => True) w A n s.moulds) (hx : Bytes S w C q xs) (h1 : s.klo = klo) (h2 : s.khi = khi) (hk : OkS s) :
  Calls Tryz.prog 8 #[.agg #[.int .i64 klo, .int .i64 khi, .slice A n ca], .slice C q cc] w fun e w' => IsTruth w.heap.size (anyS7 s xs) (anyT7 s xs) e w' ∧ Below w.heap.size w w' := by
 obtain ⟨i0, hi0, hz0, hz1, hz2⟩ := info_parts infoTwo7
 have Hn := Lib.hid g.len
 have hn4 : n ≤ 4 := by rw [← Hn.out]; exact hk.nm.2
 obtain ⟨U0, hW⟩ : ∃ U0, (w.alloc (.cells #[.int .i64 klo, .int .i64 khi, .slice A n ca] 26)).alloc (.cells #[.int .i64 0, .slice none 0 0] 43) = U0 := ⟨_, rfl⟩
 have X : Blk U0 w.heap.size 26 #[.int .i64 klo, .int .i64 khi, .slice A n ca] := by rw [← hW]; exact (Blk.new _ _ _ rfl).alloc _
 have Y : Blk U0 (w.heap.size + 1) 43 #[.int .i64 0, .slice none 0 0] := by rw [← hW]; exact Blk.new _ _ _ (by simp)
 have hBW : Below w.heap.size w U0 := by rw [← hW]; exact bl_alloc (bl_alloc (Below.refl _ _) _ (Nat.le_refl _)) _ (Nat.le_refl _)
 have HX := Lib.hid X
 have HY := Lib.hid Y
 have hU0 : w.heap.size + 1 < U0.heap.size := Y.lt
 have HG : Hid (Moulds (fun j => j < w.heap.size) U0 A n s.moulds) := ((g.bound MouldR.good).mono MouldR.good (fun _ h => h.2)).keep MouldR.good (Keeps.below hBW)
 have HXS : Hid (Bytes (fun j => j < w.heap.size) U0 C q xs) := ((hx.bound ByteR.good).mono ByteR.good (fun _ h => h.2)).keep ByteR.good (Keeps.below hBW)
 have H256 := Lib.hid hx.all
 have HK := Lib.hid hk
 have hnl := g.le
 obtain ⟨t0, ht0⟩ : ∃ t0, turnL xs 0 = t0 := ⟨_, rfl⟩
 obtain ⟨k0, hk0⟩ : ∃ k0, amongC klo khi t0 = k0 := ⟨_, rfl⟩
 have HK0 : Hid (anyS7 s xs = k0) := by rw [Hid, anyS7, h1, h2, ht0, hk0]
 obtain ⟨hs1, hs2, hs3, hs4⟩ := hk.shrink
 rw [h1] at hs1 hs2 hs3
 rw [h2] at hs2 hs3 hs4
 have HT0 : Hid (∀ V, Below U0.heap.size U0 V → Calls Tryz.prog 42 #[.slice C q cc, .int .i64 0] V fun e w' => e = .returned (.int .i64 t0) ∧ w' = V) := fun V hb => by
  have := turn7_any (c := cc) 0 V (HXS.out.keep ByteR.good (Keeps.below hb))
  rw [ht0] at this
  exact this
 have HM0 : Hid (∀ V, Calls Tryz.prog 41 #[.agg #[.int .i64 klo, .int .i64 khi], .int .i64 t0] V fun e w' => e = .returned (.int .i64 k0) ∧ Below V.heap.size V w') := fun V => by
  have := among7_any klo khi t0 V hs1 hs2 (by omega) (by rw [← ht0]; exact turn_lt H256.out _)
  rwa [hk0] at this
 have kk0 : Hid (∀ V, Below U0.heap.size U0 V → V.cell? ⟨w.heap.size, 0, none⟩ = some (.int .i64 klo) ∧ V.cell? ⟨w.heap.size, 1, none⟩ = some (.int .i64 khi) ∧ V.cell? ⟨w.heap.size, 2, none⟩ = some (.slice A n ca)) := fun V hb => ⟨(X.bl hb).cell 0, (X.bl hb).cell 1, (X.bl hb).cell 2⟩
 clear X Y g hx hk ht0 hk0 hs1 hs2 hs3 hs4 h1 h2
 go_enter Tryz.func8, Tryz.ntmps8
 go_wp2_with fail
 clear hW
 refine wp_frameT ?_
 intro a0 ha0
 have tb1 : a0.tmps[1]? = some (.slice C q cc) := by rw [ha0]; kernel_rfl
 have tb2 : a0.tmps[2]? = some (.pointer (some ⟨w.heap.size, 0, none⟩)) := by rw [ha0]; kernel_rfl
 have hsz : a0.tmps.size = 51 := by rw [ha0]; kernel_rfl
 refine wp_region_list (fun W => Below U0.heap.size U0 W) (fun w w' => Below w.heap.size w w')
  [isV (.pointer (some ⟨w.heap.size, 0, none⟩)), isV (.agg #[.int .i64 klo, .int .i64 khi]), isV (.slice C q cc), isV (.int .i64 (t0 : Int)), isV (.int .i64 k0), isV (.agg #[.int .i64 k0, .slice none 0 0]), NewTr U0.heap.size]
  (by kernel_rfl) (by kernel_rfl) (by kernel_rfl) (by simp) (by simp) (Below.refl _ _).drew ?stabA ?stepA ?finA
 case stabA => exact (StabL.is (StabL.is (StabL.is (StabL.is (StabL.is (StabL.is (StabL.cons (fun v W V hC hX h => h.bl hX) StabL.nil)))))))
 case stepA =>
  refine StepsL.isA ?_ (StepsL.isA ?_ (StepsL.isA ?_ (StepsL.isA ?_ (StepsL.isA ?_ (StepsL.isA ?_ (StepsL.consA ?_ StepsL.nil))))))
  all_goals intro vs a W K ha hC hD hU hK
  all_goals try rw [if_pos (by rfl)]
  ·have r2 := fb ha (by kernel_rfl) tb2
   clear ha hU hD ha0
   go_simp
   exact hK _ hC (Below.refl _ _)
  ·have r7 := fq 7 0 ha hsz (by kernel_rfl) (by decide) (hD 0 (by simp [waits, Region.binds]))
   clear ha hU hD ha0
   obtain ⟨k1, k2, k3⟩ := kk0.out W hC
   go_simp
   exact hK _ hC (Below.refl _ _)
  ·have r1 := fb ha (by kernel_rfl) tb1
   clear ha hU hD ha0
   go_simp
   exact hK _ hC (Below.refl _ _)
  ·have r9 := fq 9 2 ha hsz (by kernel_rfl) (by decide) (hD 2 (by simp [waits, Region.binds]))
   clear ha hU hD ha0
   go_simp
   refine (HT0.out W hC).mono ?_
   rintro e w' ⟨rfl, rfl⟩
   exact hK _ hC (Below.refl _ _)
  ·have r8 := fq 8 1 ha hsz (by kernel_rfl) (by decide) (hD 1 (by simp [waits, Region.binds]))
   have r10 := fq 10 3 ha hsz (by kernel_rfl) (by decide) (hD 3 (by simp [waits, Region.binds]))
   clear ha hU hD ha0
   go_simp
   refine (HM0.out W).mono ?_
   rintro e w' ⟨rfl, hb⟩
   exact hK _ (bl_call hC hb (Nat.le_refl _)) hb
  ·have r11 := fq 11 4 ha hsz (by kernel_rfl) (by decide) (hD 4 (by simp [waits, Region.binds]))
   clear ha hU hD ha0
   go_simp
   exact hK _ hC (Below.refl _ _)
  clear ha hU hD ha0
  go_simp
  exact hK _ _ (bl_alloc hC _ (Nat.le_refl _)) (bl_alloc (Below.refl _ _) _ (Nat.le_refl _)) ⟨_, hC.size, rfl, Blk.new _ _ _ rfl⟩
 intro vs W hC hE hU
 rw [ha0]
 clear hU hsz tb1 tb2
 have e5 : vs 5 = .agg #[.int .i64 k0, .slice none 0 0] := hE 5 (by simp)
 have E6 : NewTr U0.heap.size (vs 6) W := hE 6 (by simp)
 simp only [fillA, Act.put, List.setIfInBounds_toArray, List.set_cons_zero, List.set_cons_succ, Nat.zero_add, Nat.reduceAdd, e5]
 obtain ⟨gT, hgT, e6, hT⟩ := E6
 rw [e6]
 generalize vs 0 = u0, vs 1 = u1, vs 2 = u2, vs 3 = u3, vs 4 = u4
 clear hE e5 e6
 have z0 := hT.cell 0
 have z1 := hT.cell 1
 have fz0 := hT.frozen 0
 have fz1 := hT.frozen 1
 have zl := hT.lt
 go_simp
 obtain ⟨U1, hU1⟩ : ∃ U1, (W.setCell ⟨gT, 0, none⟩ (.int .i64 k0)).setCell ⟨gT, 1, none⟩ (.slice none 0 0) = U1 := ⟨_, rfl⟩
 have HT1 : Hid (Blk U1 gT 43 #[.int .i64 k0, .slice none 0 0]) := by rw [Hid, ← hU1]; exact hT.set2 _ _
 have HB1 : Hid (Below U0.heap.size U0 U1) := by rw [Hid, ← hU1]; exact bl_set (bl_set hC hgT _) hgT _
 try rw [hU1]
 clear hU1 hT hC z0 z1 fz0 fz1 zl HT0 HM0 kk0
 have hg1 : gT < U1.heap.size := HT1.out.lt
 go_wp2_with fail
 go_loopw [6] (fun i wr => ∃ (k cap : Nat) (An : Option Addr), k ≤ n ∧ i = .int .i64 k ∧ Hid (Below U0.heap.size U0 wr) ∧ Hid (Blk wr gT 43 #[.int .i64 k0, .slice An k cap]) ∧ Hid (OwnL PairR 2 (fun _ => False) wr U1.heap.size 100 (.slice An k cap) (anyK7 s xs k)) ∧ U1.heap.size ≤ wr.heap.size) (fun i _ => n - (intOf i).toNat)
 case atStart => exact ⟨0, 0, none, Nat.zero_le _, rfl, HB1.out, HT1.out, OwnL.nil _ _ _ _ _ _, Nat.le_refl _⟩
 case round =>
  obtain ⟨k, cap, An, hkn, rfl, HB, HT, HO, hsz1⟩ := hrel
  have hX := HX.out.bl HB.out
  have x2 := hX.cell 2
  by_cases hlt : k < n
  ·have hki : (k : Int) < n := by omega
   obtain ⟨b, off, sn, ma, mz, my, mu, ct, rfl, hbb, c0, c1, c2, c3, c4, c5, hss, HxM⟩ := Moulds.get (HG.out.keep MouldR.good (Keeps.below HB.out)) hlt
   have hbd := mouldE_zero HxM.out (HK.out.mould (by rw [Hn.out]; exact hlt))
   dsimp only at hbd
   obtain ⟨⟨hb1, hb2, hb3, hb4⟩, ⟨hb5, hb6, hb7, hb8⟩, hb9, hb10⟩ := hbd
   have hbw : b < w.heap.size := by
    obtain ⟨b2, off2, vs2, hA2, hS2, _⟩ := HG.out.2.2 k _ HxM.out
    injection hA2 with hA2
    injection hA2 with hA2 _
    rw [hA2]; exact hS2
   obtain ⟨k1, hk1⟩ : ∃ k1 : Nat, 2 * k + 1 = k1 := ⟨_, rfl⟩
   obtain ⟨k2, hk2⟩ : ∃ k2 : Nat, 2 * k + 2 = k2 := ⟨_, rfl⟩
   obtain ⟨kd, hkd⟩ : ∃ kd : Int, 2 * (k : Int) = kd := ⟨_, rfl⟩
   have hw0 : IntKind.i64.wrap (2 * (k : Int)) = kd := by rw [hkd, IntKind.wrap_i64]; omega
   have hw1 : IntKind.i64.wrap (kd + 1) = (k1 : Int) := by rw [IntKind.wrap_i64]; omega
   have hw2 : IntKind.i64.wrap (kd + 2) = (k2 : Int) := by rw [IntKind.wrap_i64]; omega
   obtain ⟨t1, ht1⟩ : ∃ t1, turnL xs k1 = t1 := ⟨_, rfl⟩
   obtain ⟨t2, ht2⟩ : ∃ t2, turnL xs k2 = t2 := ⟨_, rfl⟩
   obtain ⟨e1, he1⟩ : ∃ e1, amongC ma mz t1 = e1 := ⟨_, rfl⟩
   obtain ⟨e2, he2⟩ : ∃ e2, amongC my mu t2 = e2 := ⟨_, rfl⟩
   have HS : Hid (anyK7 s xs (k + 1) = anyK7 s xs k ++ [(e1, e2)]) := by
    rw [Hid, anyK7_succ, getD_of HxM.out, anyTwo7, hk1, hk2, ht1, ht2]
    dsimp only
    rw [he1, he2]
   have HOB := Lib.hid (OwnL.block HO.out)
   have hA0 : Around PairR 2 (fun _ => False) U1.heap.size 100 (.slice An k cap) (anyK7 s xs k) wr false wr.drew := ⟨Kept.drew _ _, fun _ => HO.out.keep PairR.good (Keeps.drew _)⟩
   have HKX : Hid (∀ bb V, Around PairR 2 (fun _ => False) U1.heap.size 100 (.slice An k cap) (anyK7 s xs k) wr bb V → Bytes (fun j => j < w.heap.size) V C q xs) := fun bb V h => (HXS.out.keep ByteR.good (Keeps.below HB.out)).keep ByteR.good (h.1.keeps fun j hj e => by have := (HOB.out j e).1; omega)
   have HT1v : Hid (∀ bb V, Around PairR 2 (fun _ => False) U1.heap.size 100 (.slice An k cap) (anyK7 s xs k) wr bb V → Calls Tryz.prog 42 #[.slice C q cc, .int .i64 k1] V fun e w' => e = .returned (.int .i64 t1) ∧ w' = V) := fun bb V h => by
    have := turn7_any (c := cc) k1 V (HKX.out bb V h)
    rwa [ht1] at this
   have HT2v : Hid (∀ bb V, Around PairR 2 (fun _ => False) U1.heap.size 100 (.slice An k cap) (anyK7 s xs k) wr bb V → Calls Tryz.prog 42 #[.slice C q cc, .int .i64 k2] V fun e w' => e = .returned (.int .i64 t2) ∧ w' = V) := fun bb V h => by
    have := turn7_any (c := cc) k2 V (HKX.out bb V h)
    rwa [ht2] at this
   have HM1 : Hid (∀ V, Calls Tryz.prog 41 #[.agg #[.int .i64 ma, .int .i64 mz], .int .i64 t1] V fun e w' => e = .returned (.int .i64 e1) ∧ Below V.heap.size V w') := fun V => by
    have := among7_any ma mz t1 V (by omega) hb2 (by omega) (by rw [← ht1]; exact turn_lt H256.out _)
    rwa [he1] at this
   have HM2 : Hid (∀ V, Calls Tryz.prog 41 #[.agg #[.int .i64 my, .int .i64 mu], .int .i64 t2] V fun e w' => e = .returned (.int .i64 e2) ∧ Below V.heap.size V w') := fun V => by
    have := among7_any my mu t2 V hb5 hb6 (by omega) (by rw [← ht2]; exact turn_lt H256.out _)
    rwa [he2] at this
   have hneT : some gT ≠ (Value.slice An k cap).ownBlock := HO.out.ne (.inl hg1)
   have hneS : some w.heap.size ≠ (Value.slice An k cap).ownBlock := HO.out.ne (.inl (by omega))
   have hneb : some b ≠ (Value.slice An k cap).ownBlock := HO.out.ne (.inl (by omega))
   have t1c := HT.out.cell 1
   have kk : Hid (∀ bb V, Around PairR 2 (fun _ => False) U1.heap.size 100 (.slice An k cap) (anyK7 s xs k) wr bb V → V.cell? ⟨gT, 1, none⟩ = some (.slice An k cap) ∧ V.cell? ⟨w.heap.size, 2, none⟩ = some (.slice (some ⟨b, off, none⟩) n ca) ∧ V.cell? ⟨b, off + k * 6 + 1, none⟩ = some (.int .i64 ma) ∧ V.cell? ⟨b, off + k * 6 + 2, none⟩ = some (.int .i64 mz) ∧ V.cell? ⟨b, off + k * 6 + 3, none⟩ = some (.int .i64 my) ∧ V.cell? ⟨b, off + k * 6 + 4, none⟩ = some (.int .i64 mu)) := fun bb V h =>
    ⟨h.1.cell t1c (fun e => hneT e.symm), h.1.cell x2 (fun e => hneS e.symm), h.1.cell c1 (fun e => hneb e.symm), h.1.cell c2 (fun e => hneb e.symm), h.1.cell c3 (fun e => hneb e.symm), h.1.cell c4 (fun e => hneb e.symm)⟩
   have hlen5 : (anyK7 s xs k).length ≤ 4 := by rw [anyK7_len]; omega
   clear hss hbb c0 c5 ht1 ht2 he1 he2 hk1 hk2 hkd hX
   go_wp2_with fail
   clear c1 c2 c3 c4 x2 t1c
   refine wp_frameT ?_
   intro a0 ha0
   have tb1 : a0.tmps[1]? = some (.slice C q cc) := by rw [ha0]; kernel_rfl
   have tb2 : a0.tmps[2]? = some (.pointer (some ⟨w.heap.size, 0, none⟩)) := by rw [ha0]; kernel_rfl
   have tb5 : a0.tmps[5]? = some (.pointer (some ⟨gT, 0, none⟩)) := by rw [ha0]; kernel_rfl
   have tb6 : a0.tmps[6]? = some (.int .i64 (k : Int)) := by rw [ha0]; kernel_rfl
   have hsz : a0.tmps.size = 51 := by rw [ha0]; kernel_rfl
   refine wp_region_two 28 (fun bb W => Around PairR 2 (fun _ => False) U1.heap.size 100 (.slice An k cap) (anyK7 s xs k) wr bb W) (fun bb w w' => Kept (fun j => bb = false ∧ (Value.slice An k cap).ownBlock = some j) w w')
    [isV (.pointer (some ⟨gT, 1, none⟩)), isV (.slice An k cap), isV (.pointer (some ⟨w.heap.size, 2, none⟩)), isV (.slice (some ⟨b, off, none⟩) n ca), isV (.int .i64 (k : Int)), isV (.pointer (some ⟨b, off + k * 6, none⟩)), isV (.pointer (some ⟨b, off + k * 6 + 1, none⟩)), isV (.agg #[.int .i64 ma, .int .i64 mz]), isV (.slice C q cc), isV (.int .i64 (k : Int)), isV (.int .i64 kd), isV (.int .i64 (k1 : Int)), isV (.int .i64 (t1 : Int)), isV (.int .i64 e1), isV (.pointer (some ⟨w.heap.size, 2, none⟩)), isV (.slice (some ⟨b, off, none⟩) n ca), isV (.int .i64 (k : Int)), isV (.pointer (some ⟨b, off + k * 6, none⟩)), isV (.pointer (some ⟨b, off + k * 6 + 3, none⟩)), isV (.agg #[.int .i64 my, .int .i64 mu]), isV (.slice C q cc), isV (.int .i64 (k : Int)), isV (.int .i64 kd), isV (.int .i64 (k2 : Int)), isV (.int .i64 (t2 : Int)), isV (.int .i64 e2), isV (.agg #[.int .i64 e1, .int .i64 e2]), NewEl (Value.slice An k cap).ownBlock 100 (#[.int .i64 e1, .int .i64 e2]), GrownV PairR 2 (fun _ => False) U1.heap.size 100 (k + 1) (anyK7 s xs k ++ [(e1, e2)]), isV (.pointer (some ⟨gT, 1, none⟩))]
    (by kernel_rfl) (by kernel_rfl) (by kernel_rfl) (by simp) (by simp) (by simp) hA0 ?stabB ?stepB ?finB
   case stepB =>
    refine StepsL2.cons ?_ (StepsL2.cons ?_ (StepsL2.cons ?_ (StepsL2.cons ?_ (StepsL2.cons ?_ (StepsL2.cons ?_ (StepsL2.cons ?_ (StepsL2.cons ?_ (StepsL2.cons ?_ (StepsL2.cons ?_ (StepsL2.cons ?_ (StepsL2.cons ?_ (StepsL2.cons ?_ (StepsL2.cons ?_ (StepsL2.cons ?_ (StepsL2.cons ?_ (StepsL2.cons ?_ (StepsL2.cons ?_ (StepsL2.cons ?_ (StepsL2.cons ?_ (StepsL2.cons ?_ (StepsL2.cons ?_ (StepsL2.cons ?_ (StepsL2.cons ?_ (StepsL2.cons ?_ (StepsL2.cons ?_ (StepsL2.cons ?_ (StepsL2.cons ?_ (StepsL2.cons ?_ (StepsL2.cons ?_ StepsL2.nil)))))))))))))))))))))))))))))
    ·
     intro bb vs a W K ha hb hC hD hU hK
     have r5 := fb ha (by kernel_rfl) tb5
     clear ha hU hD ha0
     refine ⟨by rfl, ?_⟩
     go_simp
     exact hK _ _ hC (Kept.refl _ _) rfl
    ·
     intro bb vs a W K ha hb hC hD hU hK
     have r20 := fq 20 0 ha hsz (by kernel_rfl) (by decide) (hD 0 (by simp [waits, Region.binds]))
     clear ha hU hD ha0
     refine ⟨by rfl, ?_⟩
     obtain ⟨k0c, k1c, k2c, k3c, k4c, k5c⟩ := kk.out bb W hC
     go_simp
     exact hK _ _ hC (Kept.refl _ _) rfl
    ·
     intro bb vs a W K ha hb hC hD hU hK
     have r2 := fb ha (by kernel_rfl) tb2
     clear ha hU hD ha0
     refine ⟨by rfl, ?_⟩
     go_simp
     exact hK _ _ hC (Kept.refl _ _) rfl
    ·
     intro bb vs a W K ha hb hC hD hU hK
     have r22 := fq 22 2 ha hsz (by kernel_rfl) (by decide) (hD 2 (by simp [waits, Region.binds]))
     clear ha hU hD ha0
     refine ⟨by rfl, ?_⟩
     obtain ⟨k0c, k1c, k2c, k3c, k4c, k5c⟩ := kk.out bb W hC
     go_simp
     exact hK _ _ hC (Kept.refl _ _) rfl
    ·
     intro bb vs a W K ha hb hC hD hU hK
     have r6 := fb ha (by kernel_rfl) tb6
     clear ha hU hD ha0
     refine ⟨by rfl, ?_⟩
     go_simp
     exact hK _ _ hC (Kept.refl _ _) rfl
    ·
     intro bb vs a W K ha hb hC hD hU hK
     have r23 := fq 23 3 ha hsz (by kernel_rfl) (by decide) (hD 3 (by simp [waits, Region.binds]))
     have r24 := fq 24 4 ha hsz (by kernel_rfl) (by decide) (hD 4 (by simp [waits, Region.binds]))
     clear ha hU hD ha0
     refine ⟨by rfl, ?_⟩
     go_simp
     exact hK _ _ hC (Kept.refl _ _) rfl
    ·
     intro bb vs a W K ha hb hC hD hU hK
     have r25 := fq 25 5 ha hsz (by kernel_rfl) (by decide) (hD 5 (by simp [waits, Region.binds]))
     clear ha hU hD ha0
     refine ⟨by rfl, ?_⟩
     go_simp
     exact hK _ _ hC (Kept.refl _ _) rfl
    ·
     intro bb vs a W K ha hb hC hD hU hK
     have r26 := fq 26 6 ha hsz (by kernel_rfl) (by decide) (hD 6 (by simp [waits, Region.binds]))
     clear ha hU hD ha0
     refine ⟨by rfl, ?_⟩
     obtain ⟨k0c, k1c, k2c, k3c, k4c, k5c⟩ := kk.out bb W hC
     go_simp
     exact hK _ _ hC (Kept.refl _ _) rfl
    ·
     intro bb vs a W K ha hb hC hD hU hK
     have r1 := fb ha (by kernel_rfl) tb1
     clear ha hU hD ha0
     refine ⟨by rfl, ?_⟩
     go_simp
     exact hK _ _ hC (Kept.refl _ _) rfl
    ·
     intro bb vs a W K ha hb hC hD hU hK
     have r6 := fb ha (by kernel_rfl) tb6
     clear ha hU hD ha0
     refine ⟨by rfl, ?_⟩
     go_simp
     exact hK _ _ hC (Kept.refl _ _) rfl
    ·
     intro bb vs a W K ha hb hC hD hU hK
     have r29 := fq 29 9 ha hsz (by kernel_rfl) (by decide) (hD 9 (by simp [waits, Region.binds]))
     clear ha hU hD ha0
     refine ⟨by rfl, ?_⟩
     go_simp
     exact hK _ _ hC (Kept.refl _ _) rfl
    ·
     intro bb vs a W K ha hb hC hD hU hK
     have r30 := fq 30 10 ha hsz (by kernel_rfl) (by decide) (hD 10 (by simp [waits, Region.binds]))
     clear ha hU hD ha0
     refine ⟨by rfl, ?_⟩
     go_simp
     exact hK _ _ hC (Kept.refl _ _) rfl
    ·
     intro bb vs a W K ha hb hC hD hU hK
     have r28 := fq 28 8 ha hsz (by kernel_rfl) (by decide) (hD 8 (by simp [waits, Region.binds]))
     have r31 := fq 31 11 ha hsz (by kernel_rfl) (by decide) (hD 11 (by simp [waits, Region.binds]))
     clear ha hU hD ha0
     refine ⟨by rfl, ?_⟩
     go_simp
     refine (HT1v.out bb W hC).mono ?_
     rintro e w' ⟨rfl, rfl⟩
     exact hK _ _ hC (Kept.refl _ _) rfl
    ·
     intro bb vs a W K ha hb hC hD hU hK
     have r27 := fq 27 7 ha hsz (by kernel_rfl) (by decide) (hD 7 (by simp [waits, Region.binds]))
     have r32 := fq 32 12 ha hsz (by kernel_rfl) (by decide) (hD 12 (by simp [waits, Region.binds]))
     clear ha hU hD ha0
     refine ⟨by rfl, ?_⟩
     go_simp
     refine (HM1.out W).mono ?_
     rintro e w' ⟨rfl, hb'⟩
     exact hK _ _ (hC.quiet PairR.good hb') (Kept.of_bl hb') rfl
    ·
     intro bb vs a W K ha hb hC hD hU hK
     have r2 := fb ha (by kernel_rfl) tb2
     clear ha hU hD ha0
     refine ⟨by rfl, ?_⟩
     go_simp
     exact hK _ _ hC (Kept.refl _ _) rfl
    ·
     intro bb vs a W K ha hb hC hD hU hK
     have r34 := fq 34 14 ha hsz (by kernel_rfl) (by decide) (hD 14 (by simp [waits, Region.binds]))
     clear ha hU hD ha0
     refine ⟨by rfl, ?_⟩
     obtain ⟨k0c, k1c, k2c, k3c, k4c, k5c⟩ := kk.out bb W hC
     go_simp
     exact hK _ _ hC (Kept.refl _ _) rfl
    ·
     intro bb vs a W K ha hb hC hD hU hK
     have r6 := fb ha (by kernel_rfl) tb6
     clear ha hU hD ha0
     refine ⟨by rfl, ?_⟩
     go_simp
     exact hK _ _ hC (Kept.refl _ _) rfl
    ·
     intro bb vs a W K ha hb hC hD hU hK
     have r35 := fq 35 15 ha hsz (by kernel_rfl) (by decide) (hD 15 (by simp [waits, Region.binds]))
     have r36 := fq 36 16 ha hsz (by kernel_rfl) (by decide) (hD 16 (by simp [waits, Region.binds]))
     clear ha hU hD ha0
     refine ⟨by rfl, ?_⟩
     go_simp
     exact hK _ _ hC (Kept.refl _ _) rfl
    ·
     intro bb vs a W K ha hb hC hD hU hK
     have r37 := fq 37 17 ha hsz (by kernel_rfl) (by decide) (hD 17 (by simp [waits, Region.binds]))
     clear ha hU hD ha0
     refine ⟨by rfl, ?_⟩
     go_simp
     exact hK _ _ hC (Kept.refl _ _) rfl
    ·
     intro bb vs a W K ha hb hC hD hU hK
     have r38 := fq 38 18 ha hsz (by kernel_rfl) (by decide) (hD 18 (by simp [waits, Region.binds]))
     clear ha hU hD ha0
     refine ⟨by rfl, ?_⟩
     obtain ⟨k0c, k1c, k2c, k3c, k4c, k5c⟩ := kk.out bb W hC
     go_simp
     exact hK _ _ hC (Kept.refl _ _) rfl
    ·
     intro bb vs a W K ha hb hC hD hU hK
     have r1 := fb ha (by kernel_rfl) tb1
     clear ha hU hD ha0
     refine ⟨by rfl, ?_⟩
     go_simp
     exact hK _ _ hC (Kept.refl _ _) rfl
    ·
     intro bb vs a W K ha hb hC hD hU hK
     have r6 := fb ha (by kernel_rfl) tb6
     clear ha hU hD ha0
     refine ⟨by rfl, ?_⟩
     go_simp
     exact hK _ _ hC (Kept.refl _ _) rfl
    ·
     intro bb vs a W K ha hb hC hD hU hK
     have r41 := fq 41 21 ha hsz (by kernel_rfl) (by decide) (hD 21 (by simp [waits, Region.binds]))
     clear ha hU hD ha0
     refine ⟨by rfl, ?_⟩
     go_simp
     exact hK _ _ hC (Kept.refl _ _) rfl
    ·
     intro bb vs a W K ha hb hC hD hU hK
     have r42 := fq 42 22 ha hsz (by kernel_rfl) (by decide) (hD 22 (by simp [waits, Region.binds]))
     clear ha hU hD ha0
     refine ⟨by rfl, ?_⟩
     go_simp
     exact hK _ _ hC (Kept.refl _ _) rfl
    ·
     intro bb vs a W K ha hb hC hD hU hK
     have r40 := fq 40 20 ha hsz (by kernel_rfl) (by decide) (hD 20 (by simp [waits, Region.binds]))
     have r43 := fq 43 23 ha hsz (by kernel_rfl) (by decide) (hD 23 (by simp [waits, Region.binds]))
     clear ha hU hD ha0
     refine ⟨by rfl, ?_⟩
     go_simp
     refine (HT2v.out bb W hC).mono ?_
     rintro e w' ⟨rfl, rfl⟩
     exact hK _ _ hC (Kept.refl _ _) rfl
    ·
     intro bb vs a W K ha hb hC hD hU hK
     have r39 := fq 39 19 ha hsz (by kernel_rfl) (by decide) (hD 19 (by simp [waits, Region.binds]))
     have r44 := fq 44 24 ha hsz (by kernel_rfl) (by decide) (hD 24 (by simp [waits, Region.binds]))
     clear ha hU hD ha0
     refine ⟨by rfl, ?_⟩
     go_simp
     refine (HM2.out W).mono ?_
     rintro e w' ⟨rfl, hb'⟩
     exact hK _ _ (hC.quiet PairR.good hb') (Kept.of_bl hb') rfl
    ·
     intro bb vs a W K ha hb hC hD hU hK
     have r33 := fq 33 13 ha hsz (by kernel_rfl) (by decide) (hD 13 (by simp [waits, Region.binds]))
     have r45 := fq 45 25 ha hsz (by kernel_rfl) (by decide) (hD 25 (by simp [waits, Region.binds]))
     clear ha hU hD ha0
     refine ⟨by rfl, ?_⟩
     go_simp
     exact hK _ _ hC (Kept.refl _ _) rfl
    ·
     intro bb vs a W K ha hb hC hD hU hK
     have r46 := fq 46 26 ha hsz (by kernel_rfl) (by decide) (hD 26 (by simp [waits, Region.binds]))
     clear ha hU hD ha0
     refine ⟨by rfl, ?_⟩
     go_simp
     exact hK _ _ (hC.quiet PairR.good (bl_alloc (Below.refl _ _) _ (Nat.le_refl _))) (Kept.alloc _ _ _) ⟨_, rfl, Blk.new _ _ _ rfl, fun e => by have := (HOB.out _ e).2; have := hC.1.size; omega⟩
    ·
     intro bb vs a W K ha hb hC hD hU hK
     have r21 := fq 21 1 ha hsz (by kernel_rfl) (by decide) (hD 1 (by simp [waits, Region.binds]))
     have r47 := fg 47 27 ha hsz (by kernel_rfl) (by decide)
     have P27 : NewEl (Value.slice An k cap).ownBlock 100 (#[.int .i64 e1, .int .i64 e2]) (vs 27) W := hD 27 (by simp [waits, Region.binds])
     obtain ⟨g27, q27, hg27, _⟩ := P27
     rw [q27] at r47
     clear ha hU hD ha0
     refine ⟨by rfl, ?_⟩
     obtain rfl : bb = false := hb rfl
     have hsW : wr.heap.size ≤ W.heap.size := hC.1.size
     refine wp_append_el W rfl _ _ _ rfl PairR.good U1.heap.size 100 i0 _ 16 Tryz.underlying41 hi0 hz0 hz1 hz2 rfl (by omega) (.slice An k cap) (anyK7 s xs k) (e1, e2) k (anyK7_len _ _ _) (by simp [Act.eval, r21]) (hC.2 rfl) g27 1 [.int .i64 e1, .int .i64 e2] (by simp [Act.eval, r47]) rfl hg27 (by simp only [maxLen]; omega) (by omega) (by omega) (fun h => h) ?_
     intro A2 cap2 w2 hO2 hg2
     exact hK _ _ ⟨hC.1.trans (Kept.grown hg2 (fun _ h => h)), fun h => by cases h⟩ (Kept.grown hg2 (fun _ h => ⟨rfl, h⟩)) ⟨A2, cap2, rfl, hO2⟩
    intro bb vs a W K ha hb hC hD hU hK
    have r5 := fb ha (by kernel_rfl) tb5
    clear ha hU hD ha0
    refine ⟨by rfl, ?_⟩
    go_simp
    exact hK _ _ hC (Kept.refl _ _) rfl
   case stabB =>
    intro bb i p v w1 w2 hp hi hC hX h
    rcases i with _ | _ | _ | _ | _ | _ | _ | _ | _ | _ | _ | _ | _ | _ | _ | _ | _ | _ | _ | _ | _ | _ | _ | _ | _ | _ | _ | _ | _ | _ | i
    all_goals simp at hp
    all_goals subst hp
    ·exact h
    ·exact h
    ·exact h
    ·exact h
    ·exact h
    ·exact h
    ·exact h
    ·exact h
    ·exact h
    ·exact h
    ·exact h
    ·exact h
    ·exact h
    ·exact h
    ·exact h
    ·exact h
    ·exact h
    ·exact h
    ·exact h
    ·exact h
    ·exact h
    ·exact h
    ·exact h
    ·exact h
    ·exact h
    ·exact h
    ·exact h
    ·exact NewEl.keep h hX
    ·exact GrownV.keep PairR.good h (hi rfl) hX
    exact h
   intro vs W hC hE hU
   rw [ha0]
   clear hU hsz tb1 tb2 tb5 tb6
   have E28 : GrownV PairR 2 (fun _ => False) U1.heap.size 100 (k + 1) (anyK7 s xs k ++ [(e1, e2)]) (vs 28) W := hE 28 (by simp)
   have e29 : vs 29 = .pointer (some ⟨gT, 1, none⟩) := hE 29 (by simp)
   simp only [fillA, Act.put, List.setIfInBounds_toArray, List.set_cons_zero, List.set_cons_succ, Nat.zero_add, Nat.reduceAdd, e29]
   obtain ⟨A2, cap2, e28, hO2⟩ := E28
   rw [e28] at hO2 ⊢
   generalize vs 0 = u0, vs 1 = u1, vs 2 = u2, vs 3 = u3, vs 4 = u4, vs 5 = u5, vs 6 = u6, vs 7 = u7, vs 8 = u8, vs 9 = u9, vs 10 = u10, vs 11 = u11, vs 12 = u12, vs 13 = u13, vs 14 = u14, vs 15 = u15, vs 16 = u16, vs 17 = u17, vs 18 = u18, vs 19 = u19, vs 20 = u20, vs 21 = u21, vs 22 = u22, vs 23 = u23, vs 24 = u24, vs 25 = u25, vs 26 = u26, vs 27 = u27
   clear hE e28 e29
   rw [← HS.out] at hO2
   have hKW := hC.1
   have hT2 : Blk W gT 43 #[.int .i64 k0, .slice An k cap] := (hKW.block _ HT.out.lt (fun e => hneT e.symm)).trans HT.out
   have hBW2 : Below U0.heap.size U0 W := HB.out.trans (hKW.below HB.out.size (fun j hj => by have := (HOB.out j hj).1; have := HB1.out.size; omega))
   have hs2 : U1.heap.size ≤ W.heap.size := Nat.le_trans hsz1 hKW.size
   have z1 := hT2.cell 1
   have fz1 := hT2.frozen 1
   have zl := hT2.lt
   have HT2 := Lib.hid hT2
   have HBW2 := Lib.hid hBW2
   have HO2 := Lib.hid hO2
   clear hT2 hBW2 hO2 hKW hC kk HT1v HT2v HKX hA0
   simp [Region.wanted, yielded]
   go_simp
   go_wp2_with fail
   go_roundw
   case rel => exact ⟨k + 1, cap2, _, by omega, by go_num, bl_set HBW2.out (by dsimp only; omega) _, HT2.out.set_ 1 _, HO2.out.keep PairR.good ((Kept.setCell (M := fun j => j = gT) _ _ _ rfl).keeps (fun j hj e => by rcases hj with hj | hj; exact hj; have := (HO2.out.block j hj).1; omega)), by simpa using hs2⟩
   case measure => simp [intOf]; omega
  obtain rfl : k = n := by omega
  have hki : ¬ (k : Int) < k := by omega
  have hal : anyT7 s xs = anyK7 s xs k := by unfold anyT7; rw [Hn.out]
  have hYr := HY.out.bl HB.out
  have q0 := HT.out.cell 0
  have q1 := HT.out.cell 1
  have z0 := hYr.cell 0
  have z1 := hYr.cell 1
  have fz0 := hYr.frozen 0
  have fz1 := hYr.frozen 1
  have hzl := hYr.lt
  have HHR := Lib.hid hYr
  clear hYr hX
  have hne0 : w.heap.size + 1 < U1.heap.size := by have := HB1.out.size; omega
  have HPS : Hid (Pairs (fun j => w.heap.size ≤ j) ((wr.setCell ⟨w.heap.size + 1, 0, none⟩ (.int .i64 k0)).setCell ⟨w.heap.size + 1, 1, none⟩ (.slice An k cap)) An k (anyK7 s xs k)) := by
   have hO2 := (HO.out.keep PairR.good ((Kept.setCell (M := fun j => j = w.heap.size + 1) wr ⟨w.heap.size + 1, 0, none⟩ (.int .i64 k0) rfl).keeps (fun j hj e => by rcases hj with hj | hj; exact hj; have := (HO.out.block j hj).1; omega)))
   have hO3 := (hO2.keep PairR.good ((Kept.setCell (M := fun j => j = w.heap.size + 1) _ ⟨w.heap.size + 1, 1, none⟩ (.slice An k cap) rfl).keeps (fun j hj e => by rcases hj with hj | hj; exact hj; have := (hO2.block j hj).1; omega)))
   exact hO3.slice PairR.good rfl (by simp only [maxLen]; omega) (fun _ h => h.elim) (fun j h _ => by omega)
  go_wp2_with fail
  refine bodyPost_ret (ret_truth rfl rfl (HHR.out.set2 _ _).c0 (HHR.out.set2 _ _).c1) rfl ⟨⟨An, cap, by rw [HK0.out, anyK7_len], by rw [anyK7_len]; exact HPS.out⟩, bl_set (bl_set (hBW.trans (HB.out.mono (by omega))) (by dsimp only; omega) _) (by dsimp only; omega) _⟩
end Go.Proofs.YtdbfincinjoppaaGreat
