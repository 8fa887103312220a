/- Walks, layer 7: Any of the laws: any truth of a shop, by turns. -/
import Derived.Test.YtpdldmichpmgmaaGreatCKOut1
import Derived.Test.YtpdldmichpmgmaaGreatCKRefH
import Derived.Test.YtpdldmichpmgmaaGreatCKSetP
import Derived.Test.YtpdldmichpmgmaaGreatCTRefsO
import Derived.Test.YtpdldmichpmgmaaGreatCTRegs
set_option linter.unusedVariables false
set_option linter.unusedSimpArgs false
set_option linter.all false
namespace Go.Proofs.YtpdldmichpmgmaaGreat
open Go.RowKit Go.Shelf

def anyTwo7 (x : Mould) (xs : List Nat) (i : Nat) : Int × Int := (amongC x.slo x.shi (turnL xs (2 * i + 1)), amongC x.wlo x.whi (turnL xs (2 * i + 2)))
def anyK7 (s : Shop) (xs : List Nat) (k : Nat) : List (Int × Int) := (List.range k).map fun i => anyTwo7 (s.moulds.getD i dMould) xs i
def anyT7 (s : Shop) (xs : List Nat) : List (Int × Int) := anyK7 s xs s.moulds.length
def anyS7 (s : Shop) (xs : List Nat) : Int := amongC s.klo s.khi (turnL xs 0)
theorem anyK7_succ (s : Shop) (xs : List Nat) (k : Nat) : anyK7 s xs (k + 1) = anyK7 s xs k ++ [anyTwo7 (s.moulds.getD k dMould) xs k] := by unfold anyK7; rw [List.range_succ, List.map_append]; rfl
theorem anyK7_len (s : Shop) (xs : List Nat) (k : Nat) : (anyK7 s xs k).length = k := by unfold anyK7; simp
def NewTr (B : Nat) (v : Value) (W : World) : Prop := ∃ g, B ≤ g ∧ v = .pointer (some ⟨g, 0, none⟩) ∧ Blk W g 48 #[.int .i64 0, .slice none 0 0]
theorem NewTr.bl {B : Nat} {v : Value} {W V : World} (h : NewTr B v W) (hb : Below W.heap.size W V) : NewTr B v V := by
  obtain ⟨g, h1, h2, h3⟩ := h
  exact ⟨g, h1, h2, h3.bl hb⟩
/-- a truth of the call's own -/
def IsTruth (w0 : Nat) (k : Int) (tw : List (Int × Int)) (e : Ending) (w' : World) : Prop := ∃ (A : Option Addr) (c : Nat), e = .returned (.agg #[.int .i64 k, .slice A tw.length c]) ∧ Pairs (fun j => w0 ≤ j) w' A tw.length tw
theorem ret_truth {fn : Func} {p : Tmp} (h : fn.results = #[.cell p 48]) {tmps : Array Value} {g : Nat} {v0 v1 : Value} {w : World} (hp : tmps.getD p undef = .pointer (some ⟨g, 0, none⟩))
    (h0 : w.cell? ⟨g, 0, none⟩ = some v0) (h1 : w.cell? ⟨g, 1, none⟩ = some v1) : (results fn tmps).run Tryz.prog w = .ok (.agg #[v0, v1]) w := by
  have hp' : tmps[p]?.getD undef = .pointer (some ⟨g, 0, none⟩) := by simpa using hp
  simp [results, h, hp', asAddr, go_sem, h0, h1]

set_option maxRecDepth 100000 in
set_option maxHeartbeats 8000000 in
theorem any7_any {S : Foot} {A C : Option Addr} {n ca q cc : Nat} {s : Shop} {klo khi : Int} {xs : List Nat} (w : World) (g : Moulds (fun _ => True) w A n s.moulds) (hx : Bytes S w C q xs) (h1 : s.klo = klo) (h2 : s.khi = khi) (hk : OkS s) :
    Calls Tryz.prog 17 #[.agg #[.int .i64 klo, .int .i64 khi, .slice A n ca], .slice C q cc] w fun e w' => IsTruth w.heap.size (anyS7 s xs) (anyT7 s xs) e w' ∧ Below w.heap.size w w' := by
  obtain ⟨i0, hi0, hz0, hz1, hz2⟩ := info_parts infoTwo7
  have Hn := Lib.hid g.len
  have hn4 : n ≤ 4 := by rw [← Hn.out]; exact hk.nm.2
  obtain ⟨U0, hW⟩ : ∃ U0, (w.alloc (.cells #[.int .i64 klo, .int .i64 khi, .slice A n ca] 26)).alloc (.cells #[.int .i64 0, .slice none 0 0] 48) = U0 := ⟨_, rfl⟩
  have X : Blk U0 w.heap.size 26 #[.int .i64 klo, .int .i64 khi, .slice A n ca] := by rw [← hW]; exact (Blk.new _ _ _ rfl).alloc _
  have Y : Blk U0 (w.heap.size + 1) 48 #[.int .i64 0, .slice none 0 0] := by rw [← hW]; exact Blk.new _ _ _ (by simp)
  have hBW : Below w.heap.size w U0 := by rw [← hW]; exact bl_alloc (bl_alloc (Below.refl _ _) _ (Nat.le_refl _)) _ (Nat.le_refl _)
  have HX := Lib.hid X
  have HY := Lib.hid Y
  have hU0 : w.heap.size + 1 < U0.heap.size := Y.lt
  have HG : Hid (Moulds (fun j => j < w.heap.size) U0 A n s.moulds) := ((g.bound MouldR.good).mono MouldR.good (fun _ h => h.2)).keep MouldR.good (Keeps.below hBW)
  have HXS : Hid (Bytes (fun j => j < w.heap.size) U0 C q xs) := ((hx.bound ByteR.good).mono ByteR.good (fun _ h => h.2)).keep ByteR.good (Keeps.below hBW)
  have H256 := Lib.hid hx.all
  have HK := Lib.hid hk
  have hnl := g.le
  obtain ⟨t0, ht0⟩ : ∃ t0, turnL xs 0 = t0 := ⟨_, rfl⟩
  obtain ⟨k0, hk0⟩ : ∃ k0, amongC klo khi t0 = k0 := ⟨_, rfl⟩
  have HK0 : Hid (anyS7 s xs = k0) := by rw [Hid, anyS7, h1, h2, ht0, hk0]
  obtain ⟨hs1, hs2, hs3, hs4⟩ := hk.shrink
  rw [h1] at hs1 hs2 hs3
  rw [h2] at hs2 hs3 hs4
  have HT0 : Hid (∀ V, Below U0.heap.size U0 V → Calls Tryz.prog 48 #[.slice C q cc, .int .i64 0] V fun e w' => e = .returned (.int .i64 t0) ∧ w' = V) := fun V hb => by
    have := turn7_any (c := cc) 0 V (HXS.out.keep ByteR.good (Keeps.below hb))
    rw [ht0] at this
    exact this
  have HM0 : Hid (∀ V, Calls Tryz.prog 47 #[.agg #[.int .i64 klo, .int .i64 khi], .int .i64 t0] V fun e w' => e = .returned (.int .i64 k0) ∧ Below V.heap.size V w') := fun V => by
    have := among7_any klo khi t0 V hs1 hs2 (by omega) (by rw [← ht0]; exact turn_lt H256.out _)
    rwa [hk0] at this
  have kk0 : Hid (∀ V, Below U0.heap.size U0 V → V.cell? ⟨w.heap.size, 0, none⟩ = some (.int .i64 klo) ∧ V.cell? ⟨w.heap.size, 1, none⟩ = some (.int .i64 khi) ∧ V.cell? ⟨w.heap.size, 2, none⟩ = some (.slice A n ca)) := fun V hb => ⟨(X.bl hb).cell 0, (X.bl hb).cell 1, (X.bl hb).cell 2⟩
  clear X Y g hx hk ht0 hk0 hs1 hs2 hs3 hs4 h1 h2
  go_enter Tryz.func17, Tryz.ntmps17
  go_wp2_with fail
  clear hW
  refine wp_frameT ?_
  intro a0 ha0
  have tb1 : a0.tmps[1]? = some (.slice C q cc) := by rw [ha0]; kernel_rfl
  have tb2 : a0.tmps[2]? = some (.pointer (some ⟨w.heap.size, 0, none⟩)) := by rw [ha0]; kernel_rfl
  have hsz : a0.tmps.size = 51 := by rw [ha0]; kernel_rfl
  refine wp_region_list (fun W => Below U0.heap.size U0 W) (fun w w' => Below w.heap.size w w')
    [isV (.pointer (some ⟨w.heap.size, 0, none⟩)), isV (.agg #[.int .i64 klo, .int .i64 khi]), isV (.slice C q cc), isV (.int .i64 (t0 : Int)), isV (.int .i64 k0), isV (.agg #[.int .i64 k0, .slice none 0 0]), NewTr U0.heap.size]
    (by kernel_rfl) (by kernel_rfl) (by kernel_rfl) (by simp) (by simp) (Below.refl _ _).drew ?stabA ?stepA ?finA
  case stabA => exact (StabL.is (StabL.is (StabL.is (StabL.is (StabL.is (StabL.is (StabL.cons (fun v W V hC hX h => h.bl hX) StabL.nil)))))))
  case stepA =>
    refine StepsL.isA ?_ (StepsL.isA ?_ (StepsL.isA ?_ (StepsL.isA ?_ (StepsL.isA ?_ (StepsL.isA ?_ (StepsL.consA ?_ StepsL.nil))))))
    · -- 0
      intro vs a W K ha hC hD hU hK
      have r2 : a.tmps[2]? = some (.pointer (some ⟨w.heap.size, 0, none⟩)) := by rw [ha, fillA_base0 (by kernel_rfl)]; exact tb2
      clear ha hU hD ha0
      rw [if_pos (by rfl)]
      go_simp
      exact hK _ hC (Below.refl _ _)
    · -- 1
      intro vs a W K ha hC hD hU hK
      have r7 : a.tmps[7]? = some (vs 0) := by rw [ha]; exact fillA_get0 (j := 0) (by kernel_rfl) (by rw [hsz]; decide)
      have q0 : vs 0 = .pointer (some ⟨w.heap.size, 0, none⟩) := hD 0 (by simp [waits, Region.binds])
      rw [q0] at r7
      clear ha hU hD ha0
      rw [if_pos (by rfl)]
      obtain ⟨k1, k2, k3⟩ := kk0.out W hC
      go_simp
      exact hK _ hC (Below.refl _ _)
    · -- 2
      intro vs a W K ha hC hD hU hK
      have r1 : a.tmps[1]? = some (.slice C q cc) := by rw [ha, fillA_base0 (by kernel_rfl)]; exact tb1
      clear ha hU hD ha0
      rw [if_pos (by rfl)]
      go_simp
      exact hK _ hC (Below.refl _ _)
    · -- 3
      intro vs a W K ha hC hD hU hK
      have r9 : a.tmps[9]? = some (vs 2) := by rw [ha]; exact fillA_get0 (j := 2) (by kernel_rfl) (by rw [hsz]; decide)
      have q2 : vs 2 = .slice C q cc := hD 2 (by simp [waits, Region.binds])
      rw [q2] at r9
      clear ha hU hD ha0
      rw [if_pos (by rfl)]
      go_simp
      refine (HT0.out W hC).mono ?_
      rintro e w' ⟨rfl, rfl⟩
      exact hK _ hC (Below.refl _ _)
    · -- 4
      intro vs a W K ha hC hD hU hK
      have r8 : a.tmps[8]? = some (vs 1) := by rw [ha]; exact fillA_get0 (j := 1) (by kernel_rfl) (by rw [hsz]; decide)
      have q1 : vs 1 = .agg #[.int .i64 klo, .int .i64 khi] := hD 1 (by simp [waits, Region.binds])
      rw [q1] at r8
      have r10 : a.tmps[10]? = some (vs 3) := by rw [ha]; exact fillA_get0 (j := 3) (by kernel_rfl) (by rw [hsz]; decide)
      have q3 : vs 3 = .int .i64 (t0 : Int) := hD 3 (by simp [waits, Region.binds])
      rw [q3] at r10
      clear ha hU hD ha0
      rw [if_pos (by rfl)]
      go_simp
      refine (HM0.out W).mono ?_
      rintro e w' ⟨rfl, hb⟩
      exact hK _ (bl_call hC hb (Nat.le_refl _)) hb
    · -- 5
      intro vs a W K ha hC hD hU hK
      have r11 : a.tmps[11]? = some (vs 4) := by rw [ha]; exact fillA_get0 (j := 4) (by kernel_rfl) (by rw [hsz]; decide)
      have q4 : vs 4 = .int .i64 k0 := hD 4 (by simp [waits, Region.binds])
      rw [q4] at r11
      clear ha hU hD ha0
      rw [if_pos (by rfl)]
      go_simp
      exact hK _ hC (Below.refl _ _)
    · -- 6
      intro vs a W K ha hC hD hU hK
      clear ha hU hD ha0
      rw [if_pos (by rfl)]
      go_simp
      exact hK _ _ (bl_alloc hC _ (Nat.le_refl _)) (bl_alloc (Below.refl _ _) _ (Nat.le_refl _)) ⟨_, hC.size, rfl, Blk.new _ _ _ rfl⟩
  case finA =>
    intro vs W hC hE hU
    rw [ha0]
    clear hU hsz tb1 tb2
    have e5 : vs 5 = .agg #[.int .i64 k0, .slice none 0 0] := hE 5 (by simp)
    have E6 : NewTr U0.heap.size (vs 6) W := hE 6 (by simp)
    simp only [fillA, Act.put, List.setIfInBounds_toArray, List.set_cons_zero, List.set_cons_succ, Nat.zero_add, Nat.reduceAdd, e5]
    obtain ⟨gT, hgT, e6, hT⟩ := E6
    rw [e6]
    obtain ⟨u0, hu0⟩ : ∃ v0, vs 0 = v0 := ⟨_, rfl⟩
    obtain ⟨u1, hu1⟩ : ∃ v0, vs 1 = v0 := ⟨_, rfl⟩
    obtain ⟨u2, hu2⟩ : ∃ v0, vs 2 = v0 := ⟨_, rfl⟩
    obtain ⟨u3, hu3⟩ : ∃ v0, vs 3 = v0 := ⟨_, rfl⟩
    obtain ⟨u4, hu4⟩ : ∃ v0, vs 4 = v0 := ⟨_, rfl⟩
    rw [hu0, hu1, hu2, hu3, hu4]
    clear hu0 hu1 hu2 hu3 hu4
    clear hE e5 e6
    have z0 := hT.cell 0
    have z1 := hT.cell 1
    have fz0 := hT.frozen 0
    have fz1 := hT.frozen 1
    have zl := hT.lt
    go_simp
    obtain ⟨U1, hU1⟩ : ∃ U1, (W.setCell ⟨gT, 0, none⟩ (.int .i64 k0)).setCell ⟨gT, 1, none⟩ (.slice none 0 0) = U1 := ⟨_, rfl⟩
    have HT1 : Hid (Blk U1 gT 48 #[.int .i64 k0, .slice none 0 0]) := by rw [Hid, ← hU1]; exact hT.set2 _ _
    have HB1 : Hid (Below U0.heap.size U0 U1) := by rw [Hid, ← hU1]; exact bl_set (bl_set hC hgT _) hgT _
    try rw [hU1]
    clear hU1 hT hC z0 z1 fz0 fz1 zl HT0 HM0 kk0
    have hg1 : gT < U1.heap.size := HT1.out.lt
    go_wp2_with fail
    go_loopw [6] (fun i wr => ∃ (k cap : Nat) (An : Option Addr), k ≤ n ∧ i = .int .i64 k ∧ Hid (Below U0.heap.size U0 wr) ∧ Hid (Blk wr gT 48 #[.int .i64 k0, .slice An k cap]) ∧ Hid (OwnL PairR 2 (fun _ => False) wr U1.heap.size 95 (.slice An k cap) (anyK7 s xs k)) ∧ U1.heap.size ≤ wr.heap.size) (fun i _ => n - (intOf i).toNat)
    case atStart => exact ⟨0, 0, none, Nat.zero_le _, rfl, HB1.out, HT1.out, OwnL.nil _ _ _ _ _ _, Nat.le_refl _⟩
    case round =>
      obtain ⟨k, cap, An, hkn, rfl, HB, HT, HO, hsz1⟩ := hrel
      have hX := HX.out.bl HB.out
      have x2 := hX.cell 2
      by_cases hlt : k < n
      · have hki : (k : Int) < n := by omega
        obtain ⟨b, off, sn, ma, mz, my, mu, ct, rfl, hbb, c0, c1, c2, c3, c4, c5, hss, HxM⟩ := Moulds.get (HG.out.keep MouldR.good (Keeps.below HB.out)) hlt
        have hbd := mouldE_zero HxM.out (HK.out.mould (by rw [Hn.out]; exact hlt))
        dsimp only at hbd
        obtain ⟨⟨hb1, hb2, hb3, hb4⟩, ⟨hb5, hb6, hb7, hb8⟩, hb9, hb10⟩ := hbd
        have hbw : b < w.heap.size := by
          obtain ⟨b2, off2, vs2, hA2, hS2, _⟩ := HG.out.2.2 k _ HxM.out
          injection hA2 with hA2
          injection hA2 with hA2 _
          rw [hA2]; exact hS2
        obtain ⟨k1, hk1⟩ : ∃ k1 : Nat, 2 * k + 1 = k1 := ⟨_, rfl⟩
        obtain ⟨k2, hk2⟩ : ∃ k2 : Nat, 2 * k + 2 = k2 := ⟨_, rfl⟩
        obtain ⟨kd, hkd⟩ : ∃ kd : Int, 2 * (k : Int) = kd := ⟨_, rfl⟩
        have hw0 : IntKind.i64.wrap (2 * (k : Int)) = kd := by rw [hkd, IntKind.wrap_i64]; omega
        have hw1 : IntKind.i64.wrap (kd + 1) = (k1 : Int) := by rw [IntKind.wrap_i64]; omega
        have hw2 : IntKind.i64.wrap (kd + 2) = (k2 : Int) := by rw [IntKind.wrap_i64]; omega
        obtain ⟨t1, ht1⟩ : ∃ t1, turnL xs k1 = t1 := ⟨_, rfl⟩
        obtain ⟨t2, ht2⟩ : ∃ t2, turnL xs k2 = t2 := ⟨_, rfl⟩
        obtain ⟨e1, he1⟩ : ∃ e1, amongC ma mz t1 = e1 := ⟨_, rfl⟩
        obtain ⟨e2, he2⟩ : ∃ e2, amongC my mu t2 = e2 := ⟨_, rfl⟩
        have HS : Hid (anyK7 s xs (k + 1) = anyK7 s xs k ++ [(e1, e2)]) := by
          rw [Hid, anyK7_succ, getD_of HxM.out, anyTwo7, hk1, hk2, ht1, ht2]
          dsimp only
          rw [he1, he2]
        have HOB := Lib.hid (OwnL.block HO.out)
        have hA0 : Around PairR 2 (fun _ => False) U1.heap.size 95 (.slice An k cap) (anyK7 s xs k) wr false wr.drew := ⟨Kept.drew _ _, fun _ => HO.out.keep PairR.good (Keeps.drew _)⟩
        have HKX : Hid (∀ bb V, Around PairR 2 (fun _ => False) U1.heap.size 95 (.slice An k cap) (anyK7 s xs k) wr bb V → Bytes (fun j => j < w.heap.size) V C q xs) := fun bb V h => (HXS.out.keep ByteR.good (Keeps.below HB.out)).keep ByteR.good (h.1.keeps fun j hj e => by have := (HOB.out j e).1; omega)
        have HT1v : Hid (∀ bb V, Around PairR 2 (fun _ => False) U1.heap.size 95 (.slice An k cap) (anyK7 s xs k) wr bb V → Calls Tryz.prog 48 #[.slice C q cc, .int .i64 k1] V fun e w' => e = .returned (.int .i64 t1) ∧ w' = V) := fun bb V h => by
          have := turn7_any (c := cc) k1 V (HKX.out bb V h)
          rwa [ht1] at this
        have HT2v : Hid (∀ bb V, Around PairR 2 (fun _ => False) U1.heap.size 95 (.slice An k cap) (anyK7 s xs k) wr bb V → Calls Tryz.prog 48 #[.slice C q cc, .int .i64 k2] V fun e w' => e = .returned (.int .i64 t2) ∧ w' = V) := fun bb V h => by
          have := turn7_any (c := cc) k2 V (HKX.out bb V h)
          rwa [ht2] at this
        have HM1 : Hid (∀ V, Calls Tryz.prog 47 #[.agg #[.int .i64 ma, .int .i64 mz], .int .i64 t1] V fun e w' => e = .returned (.int .i64 e1) ∧ Below V.heap.size V w') := fun V => by
          have := among7_any ma mz t1 V (by omega) hb2 (by omega) (by rw [← ht1]; exact turn_lt H256.out _)
          rwa [he1] at this
        have HM2 : Hid (∀ V, Calls Tryz.prog 47 #[.agg #[.int .i64 my, .int .i64 mu], .int .i64 t2] V fun e w' => e = .returned (.int .i64 e2) ∧ Below V.heap.size V w') := fun V => by
          have := among7_any my mu t2 V hb5 hb6 (by omega) (by rw [← ht2]; exact turn_lt H256.out _)
          rwa [he2] at this
        have hneT : some gT ≠ (Value.slice An k cap).ownBlock := HO.out.ne (.inl hg1)
        have hneS : some w.heap.size ≠ (Value.slice An k cap).ownBlock := HO.out.ne (.inl (by omega))
        have hneb : some b ≠ (Value.slice An k cap).ownBlock := HO.out.ne (.inl (by omega))
        have t1c := HT.out.cell 1
        have kk : Hid (∀ bb V, Around PairR 2 (fun _ => False) U1.heap.size 95 (.slice An k cap) (anyK7 s xs k) wr bb V → V.cell? ⟨gT, 1, none⟩ = some (.slice An k cap) ∧ V.cell? ⟨w.heap.size, 2, none⟩ = some (.slice (some ⟨b, off, none⟩) n ca) ∧ V.cell? ⟨b, off + k * 6 + 1, none⟩ = some (.int .i64 ma) ∧ V.cell? ⟨b, off + k * 6 + 2, none⟩ = some (.int .i64 mz) ∧ V.cell? ⟨b, off + k * 6 + 3, none⟩ = some (.int .i64 my) ∧ V.cell? ⟨b, off + k * 6 + 4, none⟩ = some (.int .i64 mu)) := fun bb V h =>
          ⟨h.1.cell t1c (fun e => hneT e.symm), h.1.cell x2 (fun e => hneS e.symm), h.1.cell c1 (fun e => hneb e.symm), h.1.cell c2 (fun e => hneb e.symm), h.1.cell c3 (fun e => hneb e.symm), h.1.cell c4 (fun e => hneb e.symm)⟩
        have hlen5 : (anyK7 s xs k).length ≤ 4 := by rw [anyK7_len]; omega
        clear hss hbb c0 c5 ht1 ht2 he1 he2 hk1 hk2 hkd hX
        go_wp2_with fail
        clear c1 c2 c3 c4 x2 t1c
        refine wp_frameT ?_
        intro a0 ha0
        have tb1 : a0.tmps[1]? = some (.slice C q cc) := by rw [ha0]; kernel_rfl
        have tb2 : a0.tmps[2]? = some (.pointer (some ⟨w.heap.size, 0, none⟩)) := by rw [ha0]; kernel_rfl
        have tb5 : a0.tmps[5]? = some (.pointer (some ⟨gT, 0, none⟩)) := by rw [ha0]; kernel_rfl
        have tb6 : a0.tmps[6]? = some (.int .i64 (k : Int)) := by rw [ha0]; kernel_rfl
        have hsz : a0.tmps.size = 51 := by rw [ha0]; kernel_rfl
        refine wp_region_two 28 (fun bb W => Around PairR 2 (fun _ => False) U1.heap.size 95 (.slice An k cap) (anyK7 s xs k) wr bb W) (fun bb w w' => Kept (fun j => bb = false ∧ (Value.slice An k cap).ownBlock = some j) w w')
          [isV (.pointer (some ⟨gT, 1, none⟩)), isV (.slice An k cap), isV (.pointer (some ⟨w.heap.size, 2, none⟩)), isV (.slice (some ⟨b, off, none⟩) n ca), isV (.int .i64 (k : Int)), isV (.pointer (some ⟨b, off + k * 6, none⟩)), isV (.pointer (some ⟨b, off + k * 6 + 1, none⟩)), isV (.agg #[.int .i64 ma, .int .i64 mz]), isV (.slice C q cc), isV (.int .i64 (k : Int)), isV (.int .i64 kd), isV (.int .i64 (k1 : Int)), isV (.int .i64 (t1 : Int)), isV (.int .i64 e1), isV (.pointer (some ⟨w.heap.size, 2, none⟩)), isV (.slice (some ⟨b, off, none⟩) n ca), isV (.int .i64 (k : Int)), isV (.pointer (some ⟨b, off + k * 6, none⟩)), isV (.pointer (some ⟨b, off + k * 6 + 3, none⟩)), isV (.agg #[.int .i64 my, .int .i64 mu]), isV (.slice C q cc), isV (.int .i64 (k : Int)), isV (.int .i64 kd), isV (.int .i64 (k2 : Int)), isV (.int .i64 (t2 : Int)), isV (.int .i64 e2), isV (.agg #[.int .i64 e1, .int .i64 e2]), NewEl (Value.slice An k cap).ownBlock 95 (#[.int .i64 e1, .int .i64 e2]), GrownV PairR 2 (fun _ => False) U1.heap.size 95 (k + 1) (anyK7 s xs k ++ [(e1, e2)]), isV (.pointer (some ⟨gT, 1, none⟩))]
          (by kernel_rfl) (by kernel_rfl) (by kernel_rfl) (by simp) (by simp) (by simp) hA0 ?stabB ?stepB ?finB
        case stepB =>
          refine StepsL2.cons ?_ (StepsL2.cons ?_ (StepsL2.cons ?_ (StepsL2.cons ?_ (StepsL2.cons ?_ (StepsL2.cons ?_ (StepsL2.cons ?_ (StepsL2.cons ?_ (StepsL2.cons ?_ (StepsL2.cons ?_ (StepsL2.cons ?_ (StepsL2.cons ?_ (StepsL2.cons ?_ (StepsL2.cons ?_ (StepsL2.cons ?_ (StepsL2.cons ?_ (StepsL2.cons ?_ (StepsL2.cons ?_ (StepsL2.cons ?_ (StepsL2.cons ?_ (StepsL2.cons ?_ (StepsL2.cons ?_ (StepsL2.cons ?_ (StepsL2.cons ?_ (StepsL2.cons ?_ (StepsL2.cons ?_ (StepsL2.cons ?_ (StepsL2.cons ?_ (StepsL2.cons ?_ (StepsL2.cons ?_ StepsL2.nil)))))))))))))))))))))))))))))
          · -- 0
            intro bb vs a W K ha hb hC hD hU hK
            have r5 : a.tmps[5]? = some (.pointer (some ⟨gT, 0, none⟩)) := by rw [ha, fillA_base0 (by kernel_rfl)]; exact tb5
            clear ha hU hD ha0
            refine ⟨by rfl, ?_⟩
            go_simp
            exact hK _ _ hC (Kept.refl _ _) rfl
          · -- 1
            intro bb vs a W K ha hb hC hD hU hK
            have r20 : a.tmps[20]? = some (vs 0) := by rw [ha]; exact fillA_get0 (j := 0) (by kernel_rfl) (by rw [hsz]; decide)
            have q0 : vs 0 = .pointer (some ⟨gT, 1, none⟩) := hD 0 (by simp [waits, Region.binds])
            rw [q0] at r20
            clear ha hU hD ha0
            refine ⟨by rfl, ?_⟩
            obtain ⟨k0c, k1c, k2c, k3c, k4c, k5c⟩ := kk.out bb W hC
            go_simp
            exact hK _ _ hC (Kept.refl _ _) rfl
          · -- 2
            intro bb vs a W K ha hb hC hD hU hK
            have r2 : a.tmps[2]? = some (.pointer (some ⟨w.heap.size, 0, none⟩)) := by rw [ha, fillA_base0 (by kernel_rfl)]; exact tb2
            clear ha hU hD ha0
            refine ⟨by rfl, ?_⟩
            go_simp
            exact hK _ _ hC (Kept.refl _ _) rfl
          · -- 3
            intro bb vs a W K ha hb hC hD hU hK
            have r22 : a.tmps[22]? = some (vs 2) := by rw [ha]; exact fillA_get0 (j := 2) (by kernel_rfl) (by rw [hsz]; decide)
            have q2 : vs 2 = .pointer (some ⟨w.heap.size, 2, none⟩) := hD 2 (by simp [waits, Region.binds])
            rw [q2] at r22
            clear ha hU hD ha0
            refine ⟨by rfl, ?_⟩
            obtain ⟨k0c, k1c, k2c, k3c, k4c, k5c⟩ := kk.out bb W hC
            go_simp
            exact hK _ _ hC (Kept.refl _ _) rfl
          · -- 4
            intro bb vs a W K ha hb hC hD hU hK
            have r6 : a.tmps[6]? = some (.int .i64 (k : Int)) := by rw [ha, fillA_base0 (by kernel_rfl)]; exact tb6
            clear ha hU hD ha0
            refine ⟨by rfl, ?_⟩
            go_simp
            exact hK _ _ hC (Kept.refl _ _) rfl
          · -- 5
            intro bb vs a W K ha hb hC hD hU hK
            have r23 : a.tmps[23]? = some (vs 3) := by rw [ha]; exact fillA_get0 (j := 3) (by kernel_rfl) (by rw [hsz]; decide)
            have q3 : vs 3 = .slice (some ⟨b, off, none⟩) n ca := hD 3 (by simp [waits, Region.binds])
            rw [q3] at r23
            have r24 : a.tmps[24]? = some (vs 4) := by rw [ha]; exact fillA_get0 (j := 4) (by kernel_rfl) (by rw [hsz]; decide)
            have q4 : vs 4 = .int .i64 (k : Int) := hD 4 (by simp [waits, Region.binds])
            rw [q4] at r24
            clear ha hU hD ha0
            refine ⟨by rfl, ?_⟩
            go_simp
            exact hK _ _ hC (Kept.refl _ _) rfl
          · -- 6
            intro bb vs a W K ha hb hC hD hU hK
            have r25 : a.tmps[25]? = some (vs 5) := by rw [ha]; exact fillA_get0 (j := 5) (by kernel_rfl) (by rw [hsz]; decide)
            have q5 : vs 5 = .pointer (some ⟨b, off + k * 6, none⟩) := hD 5 (by simp [waits, Region.binds])
            rw [q5] at r25
            clear ha hU hD ha0
            refine ⟨by rfl, ?_⟩
            go_simp
            exact hK _ _ hC (Kept.refl _ _) rfl
          · -- 7
            intro bb vs a W K ha hb hC hD hU hK
            have r26 : a.tmps[26]? = some (vs 6) := by rw [ha]; exact fillA_get0 (j := 6) (by kernel_rfl) (by rw [hsz]; decide)
            have q6 : vs 6 = .pointer (some ⟨b, off + k * 6 + 1, none⟩) := hD 6 (by simp [waits, Region.binds])
            rw [q6] at r26
            clear ha hU hD ha0
            refine ⟨by rfl, ?_⟩
            obtain ⟨k0c, k1c, k2c, k3c, k4c, k5c⟩ := kk.out bb W hC
            go_simp
            exact hK _ _ hC (Kept.refl _ _) rfl
          · -- 8
            intro bb vs a W K ha hb hC hD hU hK
            have r1 : a.tmps[1]? = some (.slice C q cc) := by rw [ha, fillA_base0 (by kernel_rfl)]; exact tb1
            clear ha hU hD ha0
            refine ⟨by rfl, ?_⟩
            go_simp
            exact hK _ _ hC (Kept.refl _ _) rfl
          · -- 9
            intro bb vs a W K ha hb hC hD hU hK
            have r6 : a.tmps[6]? = some (.int .i64 (k : Int)) := by rw [ha, fillA_base0 (by kernel_rfl)]; exact tb6
            clear ha hU hD ha0
            refine ⟨by rfl, ?_⟩
            go_simp
            exact hK _ _ hC (Kept.refl _ _) rfl
          · -- 10
            intro bb vs a W K ha hb hC hD hU hK
            have r29 : a.tmps[29]? = some (vs 9) := by rw [ha]; exact fillA_get0 (j := 9) (by kernel_rfl) (by rw [hsz]; decide)
            have q9 : vs 9 = .int .i64 (k : Int) := hD 9 (by simp [waits, Region.binds])
            rw [q9] at r29
            clear ha hU hD ha0
            refine ⟨by rfl, ?_⟩
            go_simp
            exact hK _ _ hC (Kept.refl _ _) rfl
          · -- 11
            intro bb vs a W K ha hb hC hD hU hK
            have r30 : a.tmps[30]? = some (vs 10) := by rw [ha]; exact fillA_get0 (j := 10) (by kernel_rfl) (by rw [hsz]; decide)
            have q10 : vs 10 = .int .i64 kd := hD 10 (by simp [waits, Region.binds])
            rw [q10] at r30
            clear ha hU hD ha0
            refine ⟨by rfl, ?_⟩
            go_simp
            exact hK _ _ hC (Kept.refl _ _) rfl
          · -- 12
            intro bb vs a W K ha hb hC hD hU hK
            have r28 : a.tmps[28]? = some (vs 8) := by rw [ha]; exact fillA_get0 (j := 8) (by kernel_rfl) (by rw [hsz]; decide)
            have q8 : vs 8 = .slice C q cc := hD 8 (by simp [waits, Region.binds])
            rw [q8] at r28
            have r31 : a.tmps[31]? = some (vs 11) := by rw [ha]; exact fillA_get0 (j := 11) (by kernel_rfl) (by rw [hsz]; decide)
            have q11 : vs 11 = .int .i64 (k1 : Int) := hD 11 (by simp [waits, Region.binds])
            rw [q11] at r31
            clear ha hU hD ha0
            refine ⟨by rfl, ?_⟩
            go_simp
            refine (HT1v.out bb W hC).mono ?_
            rintro e w' ⟨rfl, rfl⟩
            exact hK _ _ hC (Kept.refl _ _) rfl
          · -- 13
            intro bb vs a W K ha hb hC hD hU hK
            have r27 : a.tmps[27]? = some (vs 7) := by rw [ha]; exact fillA_get0 (j := 7) (by kernel_rfl) (by rw [hsz]; decide)
            have q7 : vs 7 = .agg #[.int .i64 ma, .int .i64 mz] := hD 7 (by simp [waits, Region.binds])
            rw [q7] at r27
            have r32 : a.tmps[32]? = some (vs 12) := by rw [ha]; exact fillA_get0 (j := 12) (by kernel_rfl) (by rw [hsz]; decide)
            have q12 : vs 12 = .int .i64 (t1 : Int) := hD 12 (by simp [waits, Region.binds])
            rw [q12] at r32
            clear ha hU hD ha0
            refine ⟨by rfl, ?_⟩
            go_simp
            refine (HM1.out W).mono ?_
            rintro e w' ⟨rfl, hb'⟩
            exact hK _ _ (hC.quiet PairR.good hb') (Kept.of_bl hb') rfl
          · -- 14
            intro bb vs a W K ha hb hC hD hU hK
            have r2 : a.tmps[2]? = some (.pointer (some ⟨w.heap.size, 0, none⟩)) := by rw [ha, fillA_base0 (by kernel_rfl)]; exact tb2
            clear ha hU hD ha0
            refine ⟨by rfl, ?_⟩
            go_simp
            exact hK _ _ hC (Kept.refl _ _) rfl
          · -- 15
            intro bb vs a W K ha hb hC hD hU hK
            have r34 : a.tmps[34]? = some (vs 14) := by rw [ha]; exact fillA_get0 (j := 14) (by kernel_rfl) (by rw [hsz]; decide)
            have q14 : vs 14 = .pointer (some ⟨w.heap.size, 2, none⟩) := hD 14 (by simp [waits, Region.binds])
            rw [q14] at r34
            clear ha hU hD ha0
            refine ⟨by rfl, ?_⟩
            obtain ⟨k0c, k1c, k2c, k3c, k4c, k5c⟩ := kk.out bb W hC
            go_simp
            exact hK _ _ hC (Kept.refl _ _) rfl
          · -- 16
            intro bb vs a W K ha hb hC hD hU hK
            have r6 : a.tmps[6]? = some (.int .i64 (k : Int)) := by rw [ha, fillA_base0 (by kernel_rfl)]; exact tb6
            clear ha hU hD ha0
            refine ⟨by rfl, ?_⟩
            go_simp
            exact hK _ _ hC (Kept.refl _ _) rfl
          · -- 17
            intro bb vs a W K ha hb hC hD hU hK
            have r35 : a.tmps[35]? = some (vs 15) := by rw [ha]; exact fillA_get0 (j := 15) (by kernel_rfl) (by rw [hsz]; decide)
            have q15 : vs 15 = .slice (some ⟨b, off, none⟩) n ca := hD 15 (by simp [waits, Region.binds])
            rw [q15] at r35
            have r36 : a.tmps[36]? = some (vs 16) := by rw [ha]; exact fillA_get0 (j := 16) (by kernel_rfl) (by rw [hsz]; decide)
            have q16 : vs 16 = .int .i64 (k : Int) := hD 16 (by simp [waits, Region.binds])
            rw [q16] at r36
            clear ha hU hD ha0
            refine ⟨by rfl, ?_⟩
            go_simp
            exact hK _ _ hC (Kept.refl _ _) rfl
          · -- 18
            intro bb vs a W K ha hb hC hD hU hK
            have r37 : a.tmps[37]? = some (vs 17) := by rw [ha]; exact fillA_get0 (j := 17) (by kernel_rfl) (by rw [hsz]; decide)
            have q17 : vs 17 = .pointer (some ⟨b, off + k * 6, none⟩) := hD 17 (by simp [waits, Region.binds])
            rw [q17] at r37
            clear ha hU hD ha0
            refine ⟨by rfl, ?_⟩
            go_simp
            exact hK _ _ hC (Kept.refl _ _) rfl
          · -- 19
            intro bb vs a W K ha hb hC hD hU hK
            have r38 : a.tmps[38]? = some (vs 18) := by rw [ha]; exact fillA_get0 (j := 18) (by kernel_rfl) (by rw [hsz]; decide)
            have q18 : vs 18 = .pointer (some ⟨b, off + k * 6 + 3, none⟩) := hD 18 (by simp [waits, Region.binds])
            rw [q18] at r38
            clear ha hU hD ha0
            refine ⟨by rfl, ?_⟩
            obtain ⟨k0c, k1c, k2c, k3c, k4c, k5c⟩ := kk.out bb W hC
            go_simp
            exact hK _ _ hC (Kept.refl _ _) rfl
          · -- 20
            intro bb vs a W K ha hb hC hD hU hK
            have r1 : a.tmps[1]? = some (.slice C q cc) := by rw [ha, fillA_base0 (by kernel_rfl)]; exact tb1
            clear ha hU hD ha0
            refine ⟨by rfl, ?_⟩
            go_simp
            exact hK _ _ hC (Kept.refl _ _) rfl
          · -- 21
            intro bb vs a W K ha hb hC hD hU hK
            have r6 : a.tmps[6]? = some (.int .i64 (k : Int)) := by rw [ha, fillA_base0 (by kernel_rfl)]; exact tb6
            clear ha hU hD ha0
            refine ⟨by rfl, ?_⟩
            go_simp
            exact hK _ _ hC (Kept.refl _ _) rfl
          · -- 22
            intro bb vs a W K ha hb hC hD hU hK
            have r41 : a.tmps[41]? = some (vs 21) := by rw [ha]; exact fillA_get0 (j := 21) (by kernel_rfl) (by rw [hsz]; decide)
            have q21 : vs 21 = .int .i64 (k : Int) := hD 21 (by simp [waits, Region.binds])
            rw [q21] at r41
            clear ha hU hD ha0
            refine ⟨by rfl, ?_⟩
            go_simp
            exact hK _ _ hC (Kept.refl _ _) rfl
          · -- 23
            intro bb vs a W K ha hb hC hD hU hK
            have r42 : a.tmps[42]? = some (vs 22) := by rw [ha]; exact fillA_get0 (j := 22) (by kernel_rfl) (by rw [hsz]; decide)
            have q22 : vs 22 = .int .i64 kd := hD 22 (by simp [waits, Region.binds])
            rw [q22] at r42
            clear ha hU hD ha0
            refine ⟨by rfl, ?_⟩
            go_simp
            exact hK _ _ hC (Kept.refl _ _) rfl
          · -- 24
            intro bb vs a W K ha hb hC hD hU hK
            have r40 : a.tmps[40]? = some (vs 20) := by rw [ha]; exact fillA_get0 (j := 20) (by kernel_rfl) (by rw [hsz]; decide)
            have q20 : vs 20 = .slice C q cc := hD 20 (by simp [waits, Region.binds])
            rw [q20] at r40
            have r43 : a.tmps[43]? = some (vs 23) := by rw [ha]; exact fillA_get0 (j := 23) (by kernel_rfl) (by rw [hsz]; decide)
            have q23 : vs 23 = .int .i64 (k2 : Int) := hD 23 (by simp [waits, Region.binds])
            rw [q23] at r43
            clear ha hU hD ha0
            refine ⟨by rfl, ?_⟩
            go_simp
            refine (HT2v.out bb W hC).mono ?_
            rintro e w' ⟨rfl, rfl⟩
            exact hK _ _ hC (Kept.refl _ _) rfl
          · -- 25
            intro bb vs a W K ha hb hC hD hU hK
            have r39 : a.tmps[39]? = some (vs 19) := by rw [ha]; exact fillA_get0 (j := 19) (by kernel_rfl) (by rw [hsz]; decide)
            have q19 : vs 19 = .agg #[.int .i64 my, .int .i64 mu] := hD 19 (by simp [waits, Region.binds])
            rw [q19] at r39
            have r44 : a.tmps[44]? = some (vs 24) := by rw [ha]; exact fillA_get0 (j := 24) (by kernel_rfl) (by rw [hsz]; decide)
            have q24 : vs 24 = .int .i64 (t2 : Int) := hD 24 (by simp [waits, Region.binds])
            rw [q24] at r44
            clear ha hU hD ha0
            refine ⟨by rfl, ?_⟩
            go_simp
            refine (HM2.out W).mono ?_
            rintro e w' ⟨rfl, hb'⟩
            exact hK _ _ (hC.quiet PairR.good hb') (Kept.of_bl hb') rfl
          · -- 26
            intro bb vs a W K ha hb hC hD hU hK
            have r33 : a.tmps[33]? = some (vs 13) := by rw [ha]; exact fillA_get0 (j := 13) (by kernel_rfl) (by rw [hsz]; decide)
            have q13 : vs 13 = .int .i64 e1 := hD 13 (by simp [waits, Region.binds])
            rw [q13] at r33
            have r45 : a.tmps[45]? = some (vs 25) := by rw [ha]; exact fillA_get0 (j := 25) (by kernel_rfl) (by rw [hsz]; decide)
            have q25 : vs 25 = .int .i64 e2 := hD 25 (by simp [waits, Region.binds])
            rw [q25] at r45
            clear ha hU hD ha0
            refine ⟨by rfl, ?_⟩
            go_simp
            exact hK _ _ hC (Kept.refl _ _) rfl
          · -- 27
            intro bb vs a W K ha hb hC hD hU hK
            have r46 : a.tmps[46]? = some (vs 26) := by rw [ha]; exact fillA_get0 (j := 26) (by kernel_rfl) (by rw [hsz]; decide)
            have q26 : vs 26 = .agg #[.int .i64 e1, .int .i64 e2] := hD 26 (by simp [waits, Region.binds])
            rw [q26] at r46
            clear ha hU hD ha0
            refine ⟨by rfl, ?_⟩
            go_simp
            exact hK _ _ (hC.quiet PairR.good (bl_alloc (Below.refl _ _) _ (Nat.le_refl _))) (Kept.alloc _ _ _) ⟨_, rfl, Blk.new _ _ _ rfl, fun e => by have := (HOB.out _ e).2; have := hC.1.size; omega⟩
          · -- 28
            intro bb vs a W K ha hb hC hD hU hK
            have r21 : a.tmps[21]? = some (vs 1) := by rw [ha]; exact fillA_get0 (j := 1) (by kernel_rfl) (by rw [hsz]; decide)
            have q1 : vs 1 = .slice An k cap := hD 1 (by simp [waits, Region.binds])
            rw [q1] at r21
            have r47 : a.tmps[47]? = some (vs 27) := by rw [ha]; exact fillA_get0 (j := 27) (by kernel_rfl) (by rw [hsz]; decide)
            have P27 : NewEl (Value.slice An k cap).ownBlock 95 (#[.int .i64 e1, .int .i64 e2]) (vs 27) W := hD 27 (by simp [waits, Region.binds])
            obtain ⟨g27, q27, hg27, _⟩ := P27
            rw [q27] at r47
            clear ha hU hD ha0
            refine ⟨by rfl, ?_⟩
            obtain rfl : bb = false := hb rfl
            have hsW : wr.heap.size ≤ W.heap.size := hC.1.size
            refine wp_append_el W rfl _ _ _ rfl PairR.good U1.heap.size 95 i0 _ 16 Tryz.underlying46 hi0 hz0 hz1 hz2 rfl (by omega) (.slice An k cap) (anyK7 s xs k) (e1, e2) k (anyK7_len _ _ _) (by simp [Act.eval, r21]) (hC.2 rfl) g27 1 [.int .i64 e1, .int .i64 e2] (by simp [Act.eval, r47]) rfl hg27 (by simp only [maxLen]; omega) (by omega) (by omega) (fun h => h) ?_
            intro A2 cap2 w2 hO2 hg2
            exact hK _ _ ⟨hC.1.trans (Kept.grown hg2 (fun _ h => h)), fun h => by cases h⟩ (Kept.grown hg2 (fun _ h => ⟨rfl, h⟩)) ⟨A2, cap2, rfl, hO2⟩
          · -- 29
            intro bb vs a W K ha hb hC hD hU hK
            have r5 : a.tmps[5]? = some (.pointer (some ⟨gT, 0, none⟩)) := by rw [ha, fillA_base0 (by kernel_rfl)]; exact tb5
            clear ha hU hD ha0
            refine ⟨by rfl, ?_⟩
            go_simp
            exact hK _ _ hC (Kept.refl _ _) rfl
        case stabB =>
          intro bb i p v w1 w2 hp hi hC hX h
          rcases i with _ | _ | _ | _ | _ | _ | _ | _ | _ | _ | _ | _ | _ | _ | _ | _ | _ | _ | _ | _ | _ | _ | _ | _ | _ | _ | _ | _ | _ | _ | i
          all_goals simp at hp
          all_goals subst hp
          · exact h
          · exact h
          · exact h
          · exact h
          · exact h
          · exact h
          · exact h
          · exact h
          · exact h
          · exact h
          · exact h
          · exact h
          · exact h
          · exact h
          · exact h
          · exact h
          · exact h
          · exact h
          · exact h
          · exact h
          · exact h
          · exact h
          · exact h
          · exact h
          · exact h
          · exact h
          · exact h
          · exact NewEl.keep h hX
          · exact GrownV.keep PairR.good h (hi rfl) hX
          · exact h
        case finB =>
          intro vs W hC hE hU
          rw [ha0]
          clear hU hsz tb1 tb2 tb5 tb6
          have E28 : GrownV PairR 2 (fun _ => False) U1.heap.size 95 (k + 1) (anyK7 s xs k ++ [(e1, e2)]) (vs 28) W := hE 28 (by simp)
          have e29 : vs 29 = .pointer (some ⟨gT, 1, none⟩) := hE 29 (by simp)
          simp only [fillA, Act.put, List.setIfInBounds_toArray, List.set_cons_zero, List.set_cons_succ, Nat.zero_add, Nat.reduceAdd, e29]
          obtain ⟨A2, cap2, e28, hO2⟩ := E28
          rw [e28] at hO2 ⊢
          obtain ⟨u0, hu0⟩ : ∃ v0, vs 0 = v0 := ⟨_, rfl⟩
          obtain ⟨u1, hu1⟩ : ∃ v0, vs 1 = v0 := ⟨_, rfl⟩
          obtain ⟨u2, hu2⟩ : ∃ v0, vs 2 = v0 := ⟨_, rfl⟩
          obtain ⟨u3, hu3⟩ : ∃ v0, vs 3 = v0 := ⟨_, rfl⟩
          obtain ⟨u4, hu4⟩ : ∃ v0, vs 4 = v0 := ⟨_, rfl⟩
          obtain ⟨u5, hu5⟩ : ∃ v0, vs 5 = v0 := ⟨_, rfl⟩
          obtain ⟨u6, hu6⟩ : ∃ v0, vs 6 = v0 := ⟨_, rfl⟩
          obtain ⟨u7, hu7⟩ : ∃ v0, vs 7 = v0 := ⟨_, rfl⟩
          obtain ⟨u8, hu8⟩ : ∃ v0, vs 8 = v0 := ⟨_, rfl⟩
          obtain ⟨u9, hu9⟩ : ∃ v0, vs 9 = v0 := ⟨_, rfl⟩
          obtain ⟨u10, hu10⟩ : ∃ v0, vs 10 = v0 := ⟨_, rfl⟩
          obtain ⟨u11, hu11⟩ : ∃ v0, vs 11 = v0 := ⟨_, rfl⟩
          obtain ⟨u12, hu12⟩ : ∃ v0, vs 12 = v0 := ⟨_, rfl⟩
          obtain ⟨u13, hu13⟩ : ∃ v0, vs 13 = v0 := ⟨_, rfl⟩
          obtain ⟨u14, hu14⟩ : ∃ v0, vs 14 = v0 := ⟨_, rfl⟩
          obtain ⟨u15, hu15⟩ : ∃ v0, vs 15 = v0 := ⟨_, rfl⟩
          obtain ⟨u16, hu16⟩ : ∃ v0, vs 16 = v0 := ⟨_, rfl⟩
          obtain ⟨u17, hu17⟩ : ∃ v0, vs 17 = v0 := ⟨_, rfl⟩
          obtain ⟨u18, hu18⟩ : ∃ v0, vs 18 = v0 := ⟨_, rfl⟩
          obtain ⟨u19, hu19⟩ : ∃ v0, vs 19 = v0 := ⟨_, rfl⟩
          obtain ⟨u20, hu20⟩ : ∃ v0, vs 20 = v0 := ⟨_, rfl⟩
          obtain ⟨u21, hu21⟩ : ∃ v0, vs 21 = v0 := ⟨_, rfl⟩
          obtain ⟨u22, hu22⟩ : ∃ v0, vs 22 = v0 := ⟨_, rfl⟩
          obtain ⟨u23, hu23⟩ : ∃ v0, vs 23 = v0 := ⟨_, rfl⟩
          obtain ⟨u24, hu24⟩ : ∃ v0, vs 24 = v0 := ⟨_, rfl⟩
          obtain ⟨u25, hu25⟩ : ∃ v0, vs 25 = v0 := ⟨_, rfl⟩
          obtain ⟨u26, hu26⟩ : ∃ v0, vs 26 = v0 := ⟨_, rfl⟩
          obtain ⟨u27, hu27⟩ : ∃ v0, vs 27 = v0 := ⟨_, rfl⟩
          rw [hu0, hu1, hu2, hu3, hu4, hu5, hu6, hu7, hu8, hu9, hu10, hu11, hu12, hu13, hu14, hu15, hu16, hu17, hu18, hu19, hu20, hu21, hu22, hu23, hu24, hu25, hu26, hu27]
          clear hu0 hu1 hu2 hu3 hu4 hu5 hu6 hu7 hu8 hu9 hu10 hu11 hu12 hu13 hu14 hu15 hu16 hu17 hu18 hu19 hu20 hu21 hu22 hu23 hu24 hu25 hu26 hu27
          clear hE e28 e29
          rw [← HS.out] at hO2
          have hKW := hC.1
          have hT2 : Blk W gT 48 #[.int .i64 k0, .slice An k cap] := (hKW.block _ HT.out.lt (fun e => hneT e.symm)).trans HT.out
          have hBW2 : Below U0.heap.size U0 W := HB.out.trans (hKW.below HB.out.size (fun j hj => by have := (HOB.out j hj).1; have := HB1.out.size; omega))
          have hs2 : U1.heap.size ≤ W.heap.size := Nat.le_trans hsz1 hKW.size
          have z1 := hT2.cell 1
          have fz1 := hT2.frozen 1
          have zl := hT2.lt
          have HT2 := Lib.hid hT2
          have HBW2 := Lib.hid hBW2
          have HO2 := Lib.hid hO2
          clear hT2 hBW2 hO2 hKW hC kk HT1v HT2v HKX hA0
          simp [Region.wanted, yielded]
          go_simp
          go_wp2_with fail
          go_roundw
          case rel => exact ⟨k + 1, cap2, _, by omega, by go_num, bl_set HBW2.out (by dsimp only; omega) _, HT2.out.set_ 1 _, HO2.out.keep PairR.good ((Kept.setCell (M := fun j => j = gT) _ _ _ rfl).keeps (fun j hj e => by rcases hj with hj | hj; exact hj; have := (HO2.out.block j hj).1; omega)), by simpa using hs2⟩
          case measure => simp [intOf]; omega
      · obtain rfl : k = n := by omega
        have hki : ¬ (k : Int) < k := by omega
        have hal : anyT7 s xs = anyK7 s xs k := by unfold anyT7; rw [Hn.out]
        have hYr := HY.out.bl HB.out
        have q0 := HT.out.cell 0
        have q1 := HT.out.cell 1
        have z0 := hYr.cell 0
        have z1 := hYr.cell 1
        have fz0 := hYr.frozen 0
        have fz1 := hYr.frozen 1
        have hzl := hYr.lt
        have HHR := Lib.hid hYr
        clear hYr hX
        have hne0 : w.heap.size + 1 < U1.heap.size := by have := HB1.out.size; omega
        have HPS : Hid (Pairs (fun j => w.heap.size ≤ j) ((wr.setCell ⟨w.heap.size + 1, 0, none⟩ (.int .i64 k0)).setCell ⟨w.heap.size + 1, 1, none⟩ (.slice An k cap)) An k (anyK7 s xs k)) := by
          have hO2 := (HO.out.keep PairR.good ((Kept.setCell (M := fun j => j = w.heap.size + 1) wr ⟨w.heap.size + 1, 0, none⟩ (.int .i64 k0) rfl).keeps (fun j hj e => by rcases hj with hj | hj; exact hj; have := (HO.out.block j hj).1; omega)))
          have hO3 := (hO2.keep PairR.good ((Kept.setCell (M := fun j => j = w.heap.size + 1) _ ⟨w.heap.size + 1, 1, none⟩ (.slice An k cap) rfl).keeps (fun j hj e => by rcases hj with hj | hj; exact hj; have := (hO2.block j hj).1; omega)))
          exact hO3.slice PairR.good rfl (by simp only [maxLen]; omega) (fun _ h => h.elim) (fun j h _ => by omega)
        go_wp2_with fail
        refine bodyPost_ret (ret_truth rfl rfl (HHR.out.set2 _ _).c0 (HHR.out.set2 _ _).c1) rfl ⟨⟨An, cap, by rw [HK0.out, anyK7_len], by rw [anyK7_len]; exact HPS.out⟩, bl_set (bl_set (hBW.trans (HB.out.mono (by omega))) (by dsimp only; omega) _) (by dsimp only; omega) _⟩
end Go.Proofs.YtpdldmichpmgmaaGreat

namespace Go.Proofs.YtpdldmichpmgmaaGreat
open Go.RowKit Go.Shelf

theorem infoSeenC : (Tryz.prog.info? 97).map (fun i => (i.zero, i.size, i.bytes)) = some (some (.agg #[.int .i64 0, .int .i64 0, .int .i64 0, .int .i64 0]), 4, 32) := by kernel_rfl
def toldI (s : Shop) (xs : List Nat) (r : Nat) : Nat := xs.getD (4 * r) 0 % s.moulds.length
def toldC (s : Shop) (xs : List Nat) (r : Nat) : Nat := xs.getD (4 * r + 1) 0 % castsN s (toldI s xs r)
/-- the size of a cast in a truth -/
def madeT (k : Int) (tw : List (Int × Int)) (m c : Nat) : Int := made7 (tw.getD m (0, 0)).1 (tw.getD m (0, 0)).2 c k
def toldM (s : Shop) (k : Int) (tw : List (Int × Int)) (xs : List Nat) (r : Nat) : Int := madeT k tw (toldI s xs r) (toldC s xs r)
def toldOne (s : Shop) (k : Int) (tw : List (Int × Int)) (xs : List Nat) (r : Nat) : SeenC :=
  ⟨(toldI s xs r : Int), (toldC s xs r : Int), max 0 (toldM s k tw xs r - (xs.getD (4 * r + 2) 0 % 5 : Nat)), min 20000 (toldM s k tw xs r + (xs.getD (4 * r + 3) 0 % 5 : Nat))⟩
def toldK7 (s : Shop) (k : Int) (tw : List (Int × Int)) (xs : List Nat) : Nat → List SeenC
  | 0 => []
  | r + 1 => if (toldK7 s k tw xs r).length < 6 then (if toldM s k tw xs r ≤ 20000 then toldK7 s k tw xs r ++ [toldOne s k tw xs r] else toldK7 s k tw xs r) else toldK7 s k tw xs r
/-- what is measured in a truth -/
def toldL7 (s : Shop) (k : Int) (tw : List (Int × Int)) (xs : List Nat) : List SeenC := toldK7 s k tw xs (xs.length / 4)
theorem toldK7_full {s : Shop} {k : Int} {tw : List (Int × Int)} {xs : List Nat} {r : Nat} (h : ¬ (toldK7 s k tw xs r).length < 6) : ∀ d, toldK7 s k tw xs (r + d) = toldK7 s k tw xs r
  | 0 => rfl
  | d + 1 => by
    have ih := toldK7_full h d
    rw [show r + (d + 1) = r + d + 1 by omega, toldK7, if_neg (by rw [ih]; exact h), ih]
theorem toldK7_le (s : Shop) (k : Int) (tw : List (Int × Int)) (xs : List Nat) : ∀ r, (toldK7 s k tw xs r).length ≤ 6
  | 0 => by simp [toldK7]
  | r + 1 => by
    have ih := toldK7_le s k tw xs r
    unfold toldK7
    split
    · split
      · rw [List.length_append, List.length_singleton]; omega
      · exact ih
    · exact ih
theorem Bytes.get4 {S : Foot} {w : World} {A : Option Addr} {n : Nat} {xs : List Nat} {k : Nat} (h : Bytes S w A n xs) (hk : k + 3 < n) :
    ∃ b off x0 x1 x2 x3, A = some ⟨b, off, none⟩ ∧ w.cell? ⟨b, off + k, none⟩ = some (.int .u8 ((x0 : Nat) : Int)) ∧ w.cell? ⟨b, off + (k + 1), none⟩ = some (.int .u8 ((x1 : Nat) : Int)) ∧ w.cell? ⟨b, off + (k + 2), none⟩ = some (.int .u8 ((x2 : Nat) : Int)) ∧ w.cell? ⟨b, off + (k + 3), none⟩ = some (.int .u8 ((x3 : Nat) : Int)) ∧ Hid (xs.getD k 0 = x0 ∧ xs.getD (k + 1) 0 = x1 ∧ xs.getD (k + 2) 0 = x2 ∧ xs.getD (k + 3) 0 = x3) ∧ x0 < 256 ∧ x1 < 256 ∧ x2 < 256 ∧ x3 < 256 := by
  obtain ⟨b, off, x0, rfl, c0, H0, l0⟩ := Bytes.get h (k := k) (by omega)
  obtain ⟨b1, o1, x1, q1, c1, H1, l1⟩ := Bytes.get h (k := k + 1) (by omega)
  obtain ⟨b2, o2, x2, q2, c2, H2, l2⟩ := Bytes.get h (k := k + 2) (by omega)
  obtain ⟨b3, o3, x3, q3, c3, H3, l3⟩ := Bytes.get h (k := k + 3) hk
  cases q1; cases q2; cases q3
  exact ⟨b, off, x0, x1, x2, x3, rfl, c0, c1, c2, c3, ⟨getD_of H0.out, getD_of H1.out, getD_of H2.out, getD_of H3.out⟩, l0, l1, l2, l3⟩
def NewPlB (B : Nat) (v : Value) (W : World) : Prop := ∃ g : Nat, B ≤ g ∧ v = .pointer (some ⟨g, 0, none⟩) ∧ Blk W g 54 #[.int .i64 0, .int .i64 0]
theorem NewPlB.bl {B : Nat} {v : Value} {W V : World} (h : NewPlB B v W) (hb : Below W.heap.size W V) : NewPlB B v V := by
  obtain ⟨g, h0, h1, h2⟩ := h
  exact ⟨g, h0, h1, h2.bl hb⟩
def IsSn (m c lo hi : Int) (v : Value) (W : World) : Prop := ∃ g : Nat, v = .slice (some ⟨g, 0, none⟩) 1 1 ∧ Blk W g 97 #[.int .i64 m, .int .i64 c, .int .i64 lo, .int .i64 hi]
theorem IsSn.bl {m c lo hi : Int} {v : Value} {W V : World} (h : IsSn m c lo hi v W) (hb : Below W.heap.size W V) : IsSn m c lo hi v V := by
  obtain ⟨g, h1, h2⟩ := h
  exact ⟨g, h1, h2.bl hb⟩
theorem blk_newsC {w : World} {g : Nat} {t : TypeId} {x y z u : Value} (h : Blk w g t #[x, y, z, u]) {j : Nat} {v : Value} (hv : [x, y, z, u][j]? = some v) : w.cell? ((⟨g, 0, none⟩ : Addr).add j) = some v := by
  have hadd : (⟨g, 0, none⟩ : Addr).add j = ⟨g, j, none⟩ := by unfold Addr.add; split <;> simp_all
  rw [hadd, h.cell]
  simpa using hv
/-- a list of measured casts of the call's own -/
def IsSeensD (w0 : Nat) (xs : List SeenC) (e : Ending) (w' : World) : Prop := ∃ (A' : Option Addr) (c : Nat), e = .returned (.slice A' xs.length c) ∧ SeenCs (fun k => w0 ≤ k) w' A' xs.length xs ∧ xs.length ≤ c
theorem OwnL.cap7 {α : Type} {R : Rd α} {m : Nat} {S : Foot} {w : World} {base : Nat} {e : TypeId} {xs : List α} {A : Option Addr} {n cap : Nat} (h : OwnL R m S w base e (.slice A n cap) xs) : n ≤ cap := by
  obtain ⟨_, cells, ho, _⟩ := h
  rcases ho.2 with ⟨e, h0⟩ | ⟨gb, cap', cur, e, _, _, hc, _⟩
  · injection e with _ e1 e2; omega
  · injection e with _ e1 e2; omega
def IsSeensC (w0 : Nat) (xs : List SeenC) (e : Ending) (w' : World) : Prop := ∃ (A' : Option Addr) (c : Nat), e = .returned (.slice A' xs.length c) ∧ SeenCs (fun k => w0 ≤ k) w' A' xs.length xs

set_option maxRecDepth 100000 in
set_option maxHeartbeats 8000000 in
theorem told7_cap {S T' : Foot} {A C D : Option Addr} {n ca q cc dn dc : Nat} {s : Shop} {klo khi k : Int} {xs : List Nat} {tw : List (Int × Int)} (w : World) (g : Moulds (fun _ => True) w A n s.moulds) (hx : Bytes S w C q xs) (hd : Pairs T' w D dn tw) (hk : OkS s)
    (hdn : dn = s.moulds.length) (hb : ∀ p ∈ tw, (1 ≤ p.1 ∧ p.1 ≤ 20000) ∧ 0 ≤ p.2 ∧ p.2 ≤ 20) (hkk : 0 ≤ k ∧ k ≤ 100) :
    Calls Tryz.prog 18 #[.agg #[.int .i64 klo, .int .i64 khi, .slice A n ca], .agg #[.int .i64 k, .slice D dn dc], .slice C q cc] w fun e w' => IsSeensD w.heap.size (toldL7 s k tw xs) e w' ∧ Below w.heap.size w w' := by
  obtain ⟨i0, hi0, hz0, hz1, hz2⟩ := info_parts infoSeenC
  have Hn := Lib.hid g.len
  have Hq := Lib.hid hx.len
  have Hdn := Lib.hid hd.len
  have hn4 : n ≤ 4 := by rw [← Hn.out]; exact hk.nm.2
  have hn1 : 1 ≤ n := by rw [← Hn.out]; exact hk.nm.1
  have HDN : Hid (dn = n) := hdn.trans Hn.out
  obtain ⟨U0, hU0⟩ : ∃ U0, (w.alloc (.cells #[.int .i64 klo, .int .i64 khi, .slice A n ca] 26)).alloc (.cells #[.int .i64 k, .slice D dn dc] 48) = U0 := ⟨_, rfl⟩
  have X : Blk U0 w.heap.size 26 #[.int .i64 klo, .int .i64 khi, .slice A n ca] := by rw [← hU0]; exact (Blk.new _ _ _ rfl).alloc _
  have Y : Blk U0 (w.heap.size + 1) 48 #[.int .i64 k, .slice D dn dc] := by rw [← hU0]; exact Blk.new _ _ _ (by simp)
  have hBW : Below w.heap.size w U0 := by rw [← hU0]; exact bl_alloc (bl_alloc (Below.refl _ _) _ (Nat.le_refl _)) _ (Nat.le_refl _)
  have HX := Lib.hid X
  have HY := Lib.hid Y
  have HG := Lib.hid (g.keep MouldR.good (Keeps.below hBW))
  have HXS := Lib.hid (hx.keep ByteR.good (Keeps.below hBW))
  have HDD := Lib.hid (hd.keep PairR.good (Keeps.below hBW))
  have HB := Lib.hid hb
  have HK := Lib.hid hk
  have hql := hx.le
  have hdl := hd.le
  clear hx hd hb g X Y hk hdn
  go_enter Tryz.func18, Tryz.ntmps18
  go_wp2_with fail
  clear hU0
  go_loopw [7, 8] (fun o i wr => ∃ (r i4 len cap : Nat) (An : Option Addr), Hid (i4 = 4 * r) ∧ Hid (4 * r ≤ q) ∧ i = .int .i64 i4 ∧ o = .slice An len cap ∧ Hid (Below U0.heap.size U0 wr) ∧ Hid (OwnL SeenCR 4 (fun _ => False) wr U0.heap.size 97 (.slice An len cap) (toldK7 s k tw xs r)) ∧ Hid ((toldK7 s k tw xs r).length = len) ∧ len ≤ 6) (fun _ i _ => q - (intOf i).toNat)
  case atStart => exact ⟨0, 0, 0, 0, none, rfl, Nat.zero_le _, rfl, rfl, Below.refl _ _, OwnL.nil _ _ _ _ _ _, rfl, by decide⟩
  case round =>
    obtain ⟨r, i4, len, cap, An, HI4, HRQ, rfl, rfl, HBr, HO, Hlen, hlen6⟩ := hrel
    have hi4q : i4 ≤ q := by have := HI4.out; have := HRQ.out; omega
    have hi4m : i4 ≤ 9223372036854775807 := by omega
    have hfin : ∀ (hh : ¬ (i4 + 3 < q ∧ len < 6)), toldL7 s k tw xs = toldK7 s k tw xs r := fun hh => by
      unfold toldL7
      have e1 := HI4.out
      have e2 := Hq.out
      have e3 := HRQ.out
      rw [e2]
      by_cases h3 : i4 + 3 < q
      · obtain ⟨d, hd⟩ : ∃ d, q / 4 = r + d := ⟨q / 4 - r, by omega⟩
        rw [hd]
        exact toldK7_full (by rw [Hlen.out]; omega) d
      · rw [show q / 4 = r by omega]
    have HFIN := Lib.hid hfin
    clear hfin
    by_cases hlt : i4 + 3 < q
    · have hwi3 : IntKind.i64.wrap ((i4 : Int) + 3) = (i4 : Int) + 3 := by rw [IntKind.wrap_i64]; omega
      have hlti : (i4 : Int) + 3 < q := by omega
      by_cases hr : len < 6
      · have hri : (len : Int) < 6 := by omega
        obtain ⟨bC, oC, z0, z1, z2, z3, rfl, d0, d1, d2, d3, HZ, l0, l1, l2, l3⟩ := Bytes.get4 (HXS.out.keep ByteR.good (Keeps.below HBr.out)) hlt
        obtain ⟨m0, hm0⟩ : ∃ m0, z0 % n = m0 := ⟨_, rfl⟩
        have g0 : m0 < n := by rw [← hm0]; exact Nat.mod_lt _ (by omega)
        obtain ⟨bM, oM, sn, ma, mz, my, mu, ct, rfl, hbM, e0, e1, e2, e3, e4, e5, hss, HxM⟩ := Moulds.get (HG.out.keep MouldR.good (Keeps.below HBr.out)) g0
        have hbd := mouldE_zero HxM.out (HK.out.mould (by rw [Hn.out]; exact g0))
        dsimp only at hbd
        obtain ⟨_, _, hb9, hb10⟩ := hbd
        obtain ⟨ctn, rfl⟩ := Int.eq_ofNat_of_zero_le (show 0 ≤ ct by omega)
        have HCN : Hid (castsN s m0 = ctn) := by rw [Hid, castsN, getD_of HxM.out]; exact Int.toNat_natCast _
        obtain ⟨m1, hm1⟩ : ∃ m1, z1 % ctn = m1 := ⟨_, rfl⟩
        obtain ⟨m2, hm2⟩ : ∃ m2, z2 % 5 = m2 := ⟨_, rfl⟩
        obtain ⟨m3, hm3⟩ : ∃ m3, z3 % 5 = m3 := ⟨_, rfl⟩
        have g1 : m1 < ctn := by rw [← hm1]; exact Nat.mod_lt _ (by omega)
        have g2 : m2 < 5 := by rw [← hm2]; exact Nat.mod_lt _ (by decide)
        have g3 : m3 < 5 := by rw [← hm3]; exact Nat.mod_lt _ (by decide)
        have t0 : ((z0 : Int)).tmod (n : Int) = (m0 : Int) := by rw [Int.tmod_eq_emod_of_nonneg (by omega), ← hm0]; rfl
        have t1 : ((z1 : Int)).tmod (ctn : Int) = (m1 : Int) := by rw [Int.tmod_eq_emod_of_nonneg (by omega), ← hm1]; rfl
        have t2 : ((z2 : Int)).tmod 5 = (m2 : Int) := by rw [Int.tmod_eq_emod_of_nonneg (by omega), ← hm2]; rfl
        have t3 : ((z3 : Int)).tmod 5 = (m3 : Int) := by rw [Int.tmod_eq_emod_of_nonneg (by omega), ← hm3]; rfl
        have cv0 : IntKind.i64.wrap (z0 : Int) = z0 := by rw [IntKind.wrap_i64]; omega
        have cv1 : IntKind.i64.wrap (z1 : Int) = z1 := by rw [IntKind.wrap_i64]; omega
        have cv2 : IntKind.i64.wrap (z2 : Int) = z2 := by rw [IntKind.wrap_i64]; omega
        have cv3 : IntKind.i64.wrap (z3 : Int) = z3 := by rw [IntKind.wrap_i64]; omega
        have cm0 : IntKind.i64.wrap (m0 : Int) = m0 := by rw [IntKind.wrap_i64]; omega
        have cm1 : IntKind.i64.wrap (m1 : Int) = m1 := by rw [IntKind.wrap_i64]; omega
        have cm2 : IntKind.i64.wrap (m2 : Int) = m2 := by rw [IntKind.wrap_i64]; omega
        have cm3 : IntKind.i64.wrap (m3 : Int) = m3 := by rw [IntKind.wrap_i64]; omega
        have hdcn : ¬ ctn = 0 := by omega
        have hdz : ¬ (n : Int) = 0 := by omega
        have hdz2 : ((n : Int) == 0) = false := by simp; omega
        have hdc : ¬ (ctn : Int) = 0 := by omega
        have hdc2 : ((ctn : Int) == 0) = false := by simp; omega
        obtain ⟨j1, hj1⟩ : ∃ j1 : Nat, i4 + 1 = j1 := ⟨_, rfl⟩
        obtain ⟨j2, hj2⟩ : ∃ j2 : Nat, i4 + 2 = j2 := ⟨_, rfl⟩
        obtain ⟨j3, hj3⟩ : ∃ j3 : Nat, i4 + 3 = j3 := ⟨_, rfl⟩
        rw [hj1] at d1
        rw [hj2] at d2
        rw [hj3] at d3
        have wj1 : IntKind.i64.wrap ((i4 : Int) + 1) = (j1 : Int) := by rw [IntKind.wrap_i64]; omega
        have wj2 : IntKind.i64.wrap ((i4 : Int) + 2) = (j2 : Int) := by rw [IntKind.wrap_i64]; omega
        have hj1q : (j1 : Int) < q := by omega
        have hj2q : (j2 : Int) < q := by omega
        have hj3q : (j3 : Int) < q := by omega
        have hi4qi : (i4 : Int) < q := by omega
        have hm0i : (m0 : Int) < n := by omega
        obtain ⟨bD, oD, tv, ts, rfl, hbD, f0, f1, HtD⟩ := Pairs.get (HDD.out.keep PairR.good (Keeps.below HBr.out)) (k := m0) (by have := HDN.out; omega)
        obtain ⟨p1, p2⟩ := HB.out _ (List.mem_of_getElem? HtD.out)
        dsimp only at p1 p2
        obtain ⟨nn, hnn⟩ : ∃ nn : Int, made7 tv ts (m1 : Int) k = nn := ⟨_, rfl⟩
        have hnb : 1 ≤ nn ∧ nn ≤ 20160 := by have := made7_bd (c := (m1 : Int)) p1 p2 (by omega) hkk; rw [hnn] at this; omega
        have HCALL : Hid (∀ V, Below wr.heap.size wr V → Calls Tryz.prog 24 #[.agg #[.int .i64 k, .slice (some ⟨bD, oD, none⟩) dn dc], .agg #[.int .i64 m0, .int .i64 m1]] V fun e w' => e = .returned (.int .i64 nn) ∧ Below V.heap.size V w') := fun V hb => by
          have := lmade7_any (tc := dc) (c := m1) V ((HDD.out.keep PairR.good (Keeps.below HBr.out)).keep PairR.good (Keeps.below hb)) HtD.out p1 p2 (by omega) hkk
          rwa [hnn] at this
        have HMT : Hid (toldM s k tw xs r = nn ∧ toldI s xs r = m0 ∧ toldC s xs r = m1 ∧ xs.getD (4 * r + 2) 0 % 5 = m2 ∧ xs.getD (4 * r + 3) 0 % 5 = m3) := by
          obtain ⟨y0, y1, y2, y3⟩ := HZ.out
          have e9 := HI4.out
          rw [← e9, y2, y3]
          have hI : toldI s xs r = m0 := by rw [toldI, ← e9, y0, Hn.out, hm0]
          have hC : toldC s xs r = m1 := by rw [toldC, hI, HCN.out, ← e9, y1, hm1]
          exact ⟨by rw [toldM, madeT, hI, hC, getD_of HtD.out]; exact hnn, hI, hC, hm2, hm3⟩
        have hX := HX.out.bl HBr.out
        have x2 := hX.cell 2
        have HXr := Lib.hid hX
        have HYr := Lib.hid (HY.out.bl HBr.out)
        have E5 := Lib.hid e5
        have D1 := Lib.hid d1
        have D2 := Lib.hid d2
        have D3 := Lib.hid d3
        have HOr := HO
        have hj3i : (i4 : Int) + 3 = (j3 : Int) := by omega
        clear hm0 hm1 hm2 hm3 hnn hj1 hj2 hbD p1 p2 hss hbM e0 e1 e2 e3 e4 e5 d1 d2 d3 hX f0 f1 hb9 hb10
        go_wp2_with fail
        go_quiet (fail)
        obtain ⟨Va, hVa⟩ : ∃ V, wr.drewN nq = V := ⟨_, rfl⟩
        have HVA : Hid (Below wr.heap.size wr Va) := by rw [Hid, ← hVa]; exact bl_drewN (Below.refl _ _) _
        rw [hVa]
        clear hVa nq d0 x2
        have wj3 : IntKind.i64.wrap ((i4 : Int) + 3) = (j3 : Int) := by rw [hj3i, IntKind.wrap_i64]; omega
        clear hwi3 hlti hj3 hj3i
        have kk : Hid (∀ V, Below wr.heap.size wr V → V.cell? ⟨bC, oC + j1, none⟩ = some (.int .u8 z1) ∧ V.cell? ⟨bC, oC + j2, none⟩ = some (.int .u8 z2) ∧ V.cell? ⟨bC, oC + j3, none⟩ = some (.int .u8 z3) ∧ V.cell? ⟨w.heap.size, 2, none⟩ = some (.slice (some ⟨bM, oM, none⟩) n ca) ∧ V.cell? ⟨bM, oM + m0 * 6 + 5, none⟩ = some (.int .i64 ctn) ∧ V.cell? ⟨w.heap.size + 1, 0, none⟩ = some (.int .i64 k) ∧ V.cell? ⟨w.heap.size + 1, 1, none⟩ = some (.slice (some ⟨bD, oD, none⟩) dn dc)) := fun V hb =>
          ⟨getc hb D1.out, getc hb D2.out, getc hb D3.out, (HXr.out.bl hb).cell 2, getc hb E5.out, (HYr.out.bl hb).cell 0, (HYr.out.bl hb).cell 1⟩
        clear D1 D2 D3 E5 HXr HYr
        go_wp2_with fail
        refine wp_frameT ?_
        intro a0 ha0
        have tb2 : a0.tmps[2]? = some (.slice (some ⟨bC, oC, none⟩) q cc) := by rw [ha0]; kernel_rfl
        have tb3 : a0.tmps[3]? = some (.pointer (some ⟨w.heap.size, 0, none⟩)) := by rw [ha0]; kernel_rfl
        have tb8 : a0.tmps[8]? = some (.int .i64 (i4 : Int)) := by rw [ha0]; kernel_rfl
        have tb9 : a0.tmps[9]? = some (.int .i64 (m0 : Int)) := by rw [ha0]; kernel_rfl
        have hsz : a0.tmps.size = 83 := by rw [ha0]; kernel_rfl
        refine wp_region_list (fun W => Below Va.heap.size Va W) (fun w w' => Below w.heap.size w w')
          [isV (.int .i64 (m0 : Int)), isV (.slice (some ⟨bC, oC, none⟩) q cc), isV (.int .i64 (i4 : Int)), isV (.int .i64 (j1 : Int)), isV (.pointer (some ⟨bC, oC + j1, none⟩)), isV (.int .u8 (z1 : Int)), isV (.int .i64 (z1 : Int)), isV (.pointer (some ⟨w.heap.size, 2, none⟩)), isV (.slice (some ⟨bM, oM, none⟩) n ca), isV (.int .i64 (m0 : Int)), isV (.pointer (some ⟨bM, oM + m0 * 6, none⟩)), isV (.pointer (some ⟨bM, oM + m0 * 6 + 5, none⟩)), isV (.int .i64 (ctn : Int)), isV (.int .i64 (m1 : Int)), isV (.agg #[.int .i64 (m0 : Int), .int .i64 (m1 : Int)]), NewPlB Va.heap.size]
          (by kernel_rfl) (by kernel_rfl) (by kernel_rfl) (by simp) (by simp) (Below.refl _ _).drew ?stabA ?stepA ?finA
        case stabA => exact (StabL.is (StabL.is (StabL.is (StabL.is (StabL.is (StabL.is (StabL.is (StabL.is (StabL.is (StabL.is (StabL.is (StabL.is (StabL.is (StabL.is (StabL.is (StabL.cons (fun v W V hC hX h => h.bl hX) StabL.nil))))))))))))))))
        case stepA =>
          refine StepsL.isA ?_ (StepsL.isA ?_ (StepsL.isA ?_ (StepsL.isA ?_ (StepsL.isA ?_ (StepsL.isA ?_ (StepsL.isA ?_ (StepsL.isA ?_ (StepsL.isA ?_ (StepsL.isA ?_ (StepsL.isA ?_ (StepsL.isA ?_ (StepsL.isA ?_ (StepsL.isA ?_ (StepsL.isA ?_ (StepsL.consA ?_ StepsL.nil)))))))))))))))
          · -- 0
            intro vs a W K ha hC hD hU hK
            have r9 : a.tmps[9]? = some (.int .i64 (m0 : Int)) := by rw [ha, fillA_base0 (by kernel_rfl)]; exact tb9
            clear ha hU hD ha0
            rw [if_pos (by rfl)]
            go_simp
            exact hK _ hC (Below.refl _ _)
          · -- 1
            intro vs a W K ha hC hD hU hK
            have r2 : a.tmps[2]? = some (.slice (some ⟨bC, oC, none⟩) q cc) := by rw [ha, fillA_base0 (by kernel_rfl)]; exact tb2
            clear ha hU hD ha0
            rw [if_pos (by rfl)]
            go_simp
            exact hK _ hC (Below.refl _ _)
          · -- 2
            intro vs a W K ha hC hD hU hK
            have r8 : a.tmps[8]? = some (.int .i64 (i4 : Int)) := by rw [ha, fillA_base0 (by kernel_rfl)]; exact tb8
            clear ha hU hD ha0
            rw [if_pos (by rfl)]
            go_simp
            exact hK _ hC (Below.refl _ _)
          · -- 3
            intro vs a W K ha hC hD hU hK
            have r35 : a.tmps[35]? = some (vs 2) := by rw [ha]; exact fillA_get0 (j := 2) (by kernel_rfl) (by rw [hsz]; decide)
            have q2 : vs 2 = .int .i64 (i4 : Int) := hD 2 (by simp [waits, Region.binds])
            rw [q2] at r35
            clear ha hU hD ha0
            rw [if_pos (by rfl)]
            go_simp
            exact hK _ hC (Below.refl _ _)
          · -- 4
            intro vs a W K ha hC hD hU hK
            have r34 : a.tmps[34]? = some (vs 1) := by rw [ha]; exact fillA_get0 (j := 1) (by kernel_rfl) (by rw [hsz]; decide)
            have q1 : vs 1 = .slice (some ⟨bC, oC, none⟩) q cc := hD 1 (by simp [waits, Region.binds])
            rw [q1] at r34
            have r36 : a.tmps[36]? = some (vs 3) := by rw [ha]; exact fillA_get0 (j := 3) (by kernel_rfl) (by rw [hsz]; decide)
            have q3 : vs 3 = .int .i64 (j1 : Int) := hD 3 (by simp [waits, Region.binds])
            rw [q3] at r36
            clear ha hU hD ha0
            rw [if_pos (by rfl)]
            go_simp
            exact hK _ hC (Below.refl _ _)
          · -- 5
            intro vs a W K ha hC hD hU hK
            have r37 : a.tmps[37]? = some (vs 4) := by rw [ha]; exact fillA_get0 (j := 4) (by kernel_rfl) (by rw [hsz]; decide)
            have q4 : vs 4 = .pointer (some ⟨bC, oC + j1, none⟩) := hD 4 (by simp [waits, Region.binds])
            rw [q4] at r37
            clear ha hU hD ha0
            rw [if_pos (by rfl)]
            obtain ⟨k0c, k1c, k2c, k3c, k4c, k5c, k6c⟩ := kk.out W (bl_call HVA.out hC (Nat.le_refl _))
            go_simp
            exact hK _ hC (Below.refl _ _)
          · -- 6
            intro vs a W K ha hC hD hU hK
            have r38 : a.tmps[38]? = some (vs 5) := by rw [ha]; exact fillA_get0 (j := 5) (by kernel_rfl) (by rw [hsz]; decide)
            have q5 : vs 5 = .int .u8 (z1 : Int) := hD 5 (by simp [waits, Region.binds])
            rw [q5] at r38
            clear ha hU hD ha0
            rw [if_pos (by rfl)]
            go_simp
            exact hK _ hC (Below.refl _ _)
          · -- 7
            intro vs a W K ha hC hD hU hK
            have r3 : a.tmps[3]? = some (.pointer (some ⟨w.heap.size, 0, none⟩)) := by rw [ha, fillA_base0 (by kernel_rfl)]; exact tb3
            clear ha hU hD ha0
            rw [if_pos (by rfl)]
            go_simp
            exact hK _ hC (Below.refl _ _)
          · -- 8
            intro vs a W K ha hC hD hU hK
            have r40 : a.tmps[40]? = some (vs 7) := by rw [ha]; exact fillA_get0 (j := 7) (by kernel_rfl) (by rw [hsz]; decide)
            have q7 : vs 7 = .pointer (some ⟨w.heap.size, 2, none⟩) := hD 7 (by simp [waits, Region.binds])
            rw [q7] at r40
            clear ha hU hD ha0
            rw [if_pos (by rfl)]
            obtain ⟨k0c, k1c, k2c, k3c, k4c, k5c, k6c⟩ := kk.out W (bl_call HVA.out hC (Nat.le_refl _))
            go_simp
            exact hK _ hC (Below.refl _ _)
          · -- 9
            intro vs a W K ha hC hD hU hK
            have r9 : a.tmps[9]? = some (.int .i64 (m0 : Int)) := by rw [ha, fillA_base0 (by kernel_rfl)]; exact tb9
            clear ha hU hD ha0
            rw [if_pos (by rfl)]
            go_simp
            exact hK _ hC (Below.refl _ _)
          · -- 10
            intro vs a W K ha hC hD hU hK
            have r41 : a.tmps[41]? = some (vs 8) := by rw [ha]; exact fillA_get0 (j := 8) (by kernel_rfl) (by rw [hsz]; decide)
            have q8 : vs 8 = .slice (some ⟨bM, oM, none⟩) n ca := hD 8 (by simp [waits, Region.binds])
            rw [q8] at r41
            have r42 : a.tmps[42]? = some (vs 9) := by rw [ha]; exact fillA_get0 (j := 9) (by kernel_rfl) (by rw [hsz]; decide)
            have q9 : vs 9 = .int .i64 (m0 : Int) := hD 9 (by simp [waits, Region.binds])
            rw [q9] at r42
            clear ha hU hD ha0
            rw [if_pos (by rfl)]
            go_simp
            exact hK _ hC (Below.refl _ _)
          · -- 11
            intro vs a W K ha hC hD hU hK
            have r43 : a.tmps[43]? = some (vs 10) := by rw [ha]; exact fillA_get0 (j := 10) (by kernel_rfl) (by rw [hsz]; decide)
            have q10 : vs 10 = .pointer (some ⟨bM, oM + m0 * 6, none⟩) := hD 10 (by simp [waits, Region.binds])
            rw [q10] at r43
            clear ha hU hD ha0
            rw [if_pos (by rfl)]
            go_simp
            exact hK _ hC (Below.refl _ _)
          · -- 12
            intro vs a W K ha hC hD hU hK
            have r44 : a.tmps[44]? = some (vs 11) := by rw [ha]; exact fillA_get0 (j := 11) (by kernel_rfl) (by rw [hsz]; decide)
            have q11 : vs 11 = .pointer (some ⟨bM, oM + m0 * 6 + 5, none⟩) := hD 11 (by simp [waits, Region.binds])
            rw [q11] at r44
            clear ha hU hD ha0
            rw [if_pos (by rfl)]
            obtain ⟨k0c, k1c, k2c, k3c, k4c, k5c, k6c⟩ := kk.out W (bl_call HVA.out hC (Nat.le_refl _))
            go_simp
            exact hK _ hC (Below.refl _ _)
          · -- 13
            intro vs a W K ha hC hD hU hK
            have r39 : a.tmps[39]? = some (vs 6) := by rw [ha]; exact fillA_get0 (j := 6) (by kernel_rfl) (by rw [hsz]; decide)
            have q6 : vs 6 = .int .i64 (z1 : Int) := hD 6 (by simp [waits, Region.binds])
            rw [q6] at r39
            have r45 : a.tmps[45]? = some (vs 12) := by rw [ha]; exact fillA_get0 (j := 12) (by kernel_rfl) (by rw [hsz]; decide)
            have q12 : vs 12 = .int .i64 (ctn : Int) := hD 12 (by simp [waits, Region.binds])
            rw [q12] at r45
            clear ha hU hD ha0
            rw [if_pos (by rfl)]
            go_simp
            exact hK _ hC (Below.refl _ _)
          · -- 14
            intro vs a W K ha hC hD hU hK
            have r33 : a.tmps[33]? = some (vs 0) := by rw [ha]; exact fillA_get0 (j := 0) (by kernel_rfl) (by rw [hsz]; decide)
            have q0 : vs 0 = .int .i64 (m0 : Int) := hD 0 (by simp [waits, Region.binds])
            rw [q0] at r33
            have r46 : a.tmps[46]? = some (vs 13) := by rw [ha]; exact fillA_get0 (j := 13) (by kernel_rfl) (by rw [hsz]; decide)
            have q13 : vs 13 = .int .i64 (m1 : Int) := hD 13 (by simp [waits, Region.binds])
            rw [q13] at r46
            clear ha hU hD ha0
            rw [if_pos (by rfl)]
            go_simp
            refine (at7_any (m0 : Int) (m1 : Int) W).mono ?_
            rintro e w' ⟨rfl, hb⟩
            exact hK _ (bl_call hC hb (Nat.le_refl _)) hb
          · -- 15
            intro vs a W K ha hC hD hU hK
            clear ha hU hD ha0
            rw [if_pos (by rfl)]
            go_simp
            exact hK _ _ (bl_alloc hC _ (Nat.le_refl _)) (bl_alloc (Below.refl _ _) _ (Nat.le_refl _)) ⟨_, hC.size, rfl, Blk.new _ _ _ rfl⟩
        case finA =>
          intro vs W hC hE hU
          rw [ha0]
          clear hU hsz tb2 tb3 tb8 tb9
          have e14 : vs 14 = .agg #[.int .i64 (m0 : Int), .int .i64 (m1 : Int)] := hE 14 (by simp)
          have E15 : NewPlB Va.heap.size (vs 15) W := hE 15 (by simp)
          simp only [fillA, Act.put, List.setIfInBounds_toArray, List.set_cons_zero, List.set_cons_succ, Nat.zero_add, Nat.reduceAdd, e14]
          obtain ⟨gP, hgP, e15, hP⟩ := E15
          rw [e15]
          obtain ⟨u0, hu0⟩ : ∃ v0, vs 0 = v0 := ⟨_, rfl⟩
          obtain ⟨u1, hu1⟩ : ∃ v0, vs 1 = v0 := ⟨_, rfl⟩
          obtain ⟨u2, hu2⟩ : ∃ v0, vs 2 = v0 := ⟨_, rfl⟩
          obtain ⟨u3, hu3⟩ : ∃ v0, vs 3 = v0 := ⟨_, rfl⟩
          obtain ⟨u4, hu4⟩ : ∃ v0, vs 4 = v0 := ⟨_, rfl⟩
          obtain ⟨u5, hu5⟩ : ∃ v0, vs 5 = v0 := ⟨_, rfl⟩
          obtain ⟨u6, hu6⟩ : ∃ v0, vs 6 = v0 := ⟨_, rfl⟩
          obtain ⟨u7, hu7⟩ : ∃ v0, vs 7 = v0 := ⟨_, rfl⟩
          obtain ⟨u8, hu8⟩ : ∃ v0, vs 8 = v0 := ⟨_, rfl⟩
          obtain ⟨u9, hu9⟩ : ∃ v0, vs 9 = v0 := ⟨_, rfl⟩
          obtain ⟨u10, hu10⟩ : ∃ v0, vs 10 = v0 := ⟨_, rfl⟩
          obtain ⟨u11, hu11⟩ : ∃ v0, vs 11 = v0 := ⟨_, rfl⟩
          obtain ⟨u12, hu12⟩ : ∃ v0, vs 12 = v0 := ⟨_, rfl⟩
          obtain ⟨u13, hu13⟩ : ∃ v0, vs 13 = v0 := ⟨_, rfl⟩
          rw [hu0, hu1, hu2, hu3, hu4, hu5, hu6, hu7, hu8, hu9, hu10, hu11, hu12, hu13]
          clear hu0 hu1 hu2 hu3 hu4 hu5 hu6 hu7 hu8 hu9 hu10 hu11 hu12 hu13
          clear hE e14 e15
          have z0c := hP.cell 0
          have z1c := hP.cell 1
          have fz0 := hP.frozen 0
          have fz1 := hP.frozen 1
          have zl := hP.lt
          go_simp
          obtain ⟨Vb, hVb⟩ : ∃ V, (W.setCell ⟨gP, 0, none⟩ (.int .i64 (m0 : Int))).setCell ⟨gP, 1, none⟩ (.int .i64 (m1 : Int)) = V := ⟨_, rfl⟩
          have HP : Hid (Blk Vb gP 54 #[.int .i64 (m0 : Int), .int .i64 (m1 : Int)]) := by rw [Hid, ← hVb]; exact hP.set2 _ _
          have HVB : Hid (Below wr.heap.size wr Vb) := by
            have h9 : Below Va.heap.size Va Vb := by rw [← hVb]; exact bl_set (bl_set hC hgP _) hgP _
            exact bl_call HVA.out h9 (Nat.le_refl _)
          try rw [hVb]
          clear hVb hP hC z0c z1c fz0 fz1 zl HVA hgP
          obtain ⟨k0c, k1c, k2c, k3c, k4c, k5c, k6c⟩ := kk.out Vb HVB.out
          have pc0 := HP.out.cell 0
          have pc1 := HP.out.cell 1
          go_wp2_with fail
          clear k0c k1c k2c k3c k4c k5c k6c pc0 pc1
          refine (HCALL.out Vb HVB.out).mono ?_
          rintro e Vc ⟨rfl, hc1⟩
          have HVC : Hid (Below wr.heap.size wr Vc) := bl_call HVB.out hc1 (Nat.le_refl _)
          have HPc := Lib.hid (HP.out.bl hc1)
          clear hc1 HVB HP HCALL
          by_cases hn2 : nn ≤ 20000
          · obtain ⟨nl, hnl⟩ : ∃ nl : Int, nn - (m2 : Int) = nl := ⟨_, rfl⟩
            obtain ⟨nh, hnh⟩ : ∃ nh : Int, nn + (m3 : Int) = nh := ⟨_, rfl⟩
            have wl : IntKind.i64.wrap (nn - (m2 : Int)) = nl := by rw [hnl, IntKind.wrap_i64]; omega
            have wh : IntKind.i64.wrap (nn + (m3 : Int)) = nh := by rw [hnh, IntKind.wrap_i64]; omega
            have HS : Hid (toldK7 s k tw xs (r + 1) = toldK7 s k tw xs r ++ [⟨(m0 : Int), (m1 : Int), max 0 nl, min 20000 nh⟩]) := by
              obtain ⟨v1, v2, v3, v4, v5⟩ := HMT.out
              rw [Hid, toldK7, if_pos (by rw [Hlen.out]; exact hr), if_pos (by rw [v1]; exact hn2), toldOne, v1, v2, v3, v4, v5, hnl, hnh]
            have kp : Hid (∀ V, Below Vc.heap.size Vc V → V.cell? ⟨gP, 0, none⟩ = some (.int .i64 m0) ∧ V.cell? ⟨gP, 1, none⟩ = some (.int .i64 m1)) := fun V hb => ⟨(HPc.out.bl hb).cell 0, (HPc.out.bl hb).cell 1⟩
            clear hnl hnh
            go_wp2_with fail
            refine wp_frameT ?_
            intro a0 ha0
            have tb2 : a0.tmps[2]? = some (.slice (some ⟨bC, oC, none⟩) q cc) := by rw [ha0]; kernel_rfl
            have tb8 : a0.tmps[8]? = some (.int .i64 (i4 : Int)) := by rw [ha0]; kernel_rfl
            have tb10 : a0.tmps[10]? = some (.pointer (some ⟨gP, 0, none⟩)) := by rw [ha0]; kernel_rfl
            have tb11 : a0.tmps[11]? = some (.int .i64 nn) := by rw [ha0]; kernel_rfl
            have hsz : a0.tmps.size = 83 := by rw [ha0]; kernel_rfl
            refine wp_region_list2 (fun W => Below Vc.heap.size Vc W) (fun w w' => Below w.heap.size w w')
              [isV (.slice An len cap), isV (.pointer (some ⟨gP, 0, none⟩)), isV (.int .i64 (m0 : Int)), isV (.pointer (some ⟨gP, 1, none⟩)), isV (.int .i64 (m1 : Int)), isV (.int .i64 nn), isV (.slice (some ⟨bC, oC, none⟩) q cc), isV (.int .i64 (i4 : Int)), isV (.int .i64 (j2 : Int)), isV (.pointer (some ⟨bC, oC + j2, none⟩)), isV (.int .u8 (z2 : Int)), isV (.int .i64 (z2 : Int)), isV (.int .i64 (m2 : Int)), isV (.int .i64 nl), isV (.int .i64 (max 0 nl)), isV (.int .i64 nn), isV (.slice (some ⟨bC, oC, none⟩) q cc), isV (.int .i64 (i4 : Int)), isV (.int .i64 (j3 : Int)), isV (.pointer (some ⟨bC, oC + j3, none⟩)), isV (.int .u8 (z3 : Int)), isV (.int .i64 (z3 : Int)), isV (.int .i64 (m3 : Int)), isV (.int .i64 nh), isV (.int .i64 (min 20000 nh)), isV (.agg #[.int .i64 (max 0 nl), .int .i64 (min 20000 nh)]), isV (.agg #[.int .i64 (m0 : Int), .int .i64 (m1 : Int), .int .i64 (max 0 nl), .int .i64 (min 20000 nh)]), IsSn (m0 : Int) (m1 : Int) (max 0 nl) (min 20000 nh)]
              (by kernel_rfl) (by kernel_rfl) (by kernel_rfl) (by rfl) (by rfl) (by rfl) (by rfl) (by rfl) (Below.refl _ _).drew ?stabC ?stepC ?finC
            case stabC => exact (StabL.is (StabL.is (StabL.is (StabL.is (StabL.is (StabL.is (StabL.is (StabL.is (StabL.is (StabL.is (StabL.is (StabL.is (StabL.is (StabL.is (StabL.is (StabL.is (StabL.is (StabL.is (StabL.is (StabL.is (StabL.is (StabL.is (StabL.is (StabL.is (StabL.is (StabL.is (StabL.is (StabL.cons (fun v W V hC hX h => h.bl hX) StabL.nil))))))))))))))))))))))))))))
            case stepC =>
              refine StepsL.isA ?_ (StepsL.isA ?_ (StepsL.isA ?_ (StepsL.isA ?_ (StepsL.isA ?_ (StepsL.isA ?_ (StepsL.isA ?_ (StepsL.isA ?_ (StepsL.isA ?_ (StepsL.isA ?_ (StepsL.isA ?_ (StepsL.isA ?_ (StepsL.isA ?_ (StepsL.isA ?_ (StepsL.isA ?_ (StepsL.isA ?_ (StepsL.isA ?_ (StepsL.isA ?_ (StepsL.isA ?_ (StepsL.isA ?_ (StepsL.isA ?_ (StepsL.isA ?_ (StepsL.isA ?_ (StepsL.isA ?_ (StepsL.isA ?_ (StepsL.isA ?_ (StepsL.isA ?_ (StepsL.consA ?_ StepsL.nil)))))))))))))))))))))))))))
              · -- 0
                intro vs a W K ha hC hD hU hK
                have r7 : a.tmps[7]? = some (vs 29) := by rw [ha]; exact fillA_get0 (j := 29) (by kernel_rfl) (by rw [hsz]; decide)
                have q29 : vs 29 = .slice An len cap := (hU 29 _ rfl (by simp [waits, Region.binds])).trans (by rw [ha0]; kernel_rfl)
                rw [q29] at r7
                clear ha hU hD ha0
                rw [if_pos (by rfl)]
                go_simp
                exact hK _ hC (Below.refl _ _)
              · -- 1
                intro vs a W K ha hC hD hU hK
                have r10 : a.tmps[10]? = some (.pointer (some ⟨gP, 0, none⟩)) := by rw [ha, fillA_base0 (by kernel_rfl)]; exact tb10
                clear ha hU hD ha0
                rw [if_pos (by rfl)]
                go_simp
                exact hK _ hC (Below.refl _ _)
              · -- 2
                intro vs a W K ha hC hD hU hK
                have r54 : a.tmps[54]? = some (vs 1) := by rw [ha]; exact fillA_get0 (j := 1) (by kernel_rfl) (by rw [hsz]; decide)
                have q1 : vs 1 = .pointer (some ⟨gP, 0, none⟩) := hD 1 (by simp [waits, Region.binds])
                rw [q1] at r54
                clear ha hU hD ha0
                rw [if_pos (by rfl)]
                obtain ⟨k0c, k1c, k2c, k3c, k4c, k5c, k6c⟩ := kk.out W (bl_call HVC.out hC (Nat.le_refl _))
                obtain ⟨kp0, kp1⟩ := kp.out W hC
                go_simp
                exact hK _ hC (Below.refl _ _)
              · -- 3
                intro vs a W K ha hC hD hU hK
                have r10 : a.tmps[10]? = some (.pointer (some ⟨gP, 0, none⟩)) := by rw [ha, fillA_base0 (by kernel_rfl)]; exact tb10
                clear ha hU hD ha0
                rw [if_pos (by rfl)]
                go_simp
                exact hK _ hC (Below.refl _ _)
              · -- 4
                intro vs a W K ha hC hD hU hK
                have r56 : a.tmps[56]? = some (vs 3) := by rw [ha]; exact fillA_get0 (j := 3) (by kernel_rfl) (by rw [hsz]; decide)
                have q3 : vs 3 = .pointer (some ⟨gP, 1, none⟩) := hD 3 (by simp [waits, Region.binds])
                rw [q3] at r56
                clear ha hU hD ha0
                rw [if_pos (by rfl)]
                obtain ⟨k0c, k1c, k2c, k3c, k4c, k5c, k6c⟩ := kk.out W (bl_call HVC.out hC (Nat.le_refl _))
                obtain ⟨kp0, kp1⟩ := kp.out W hC
                go_simp
                exact hK _ hC (Below.refl _ _)
              · -- 5
                intro vs a W K ha hC hD hU hK
                have r11 : a.tmps[11]? = some (.int .i64 nn) := by rw [ha, fillA_base0 (by kernel_rfl)]; exact tb11
                clear ha hU hD ha0
                rw [if_pos (by rfl)]
                go_simp
                exact hK _ hC (Below.refl _ _)
              · -- 6
                intro vs a W K ha hC hD hU hK
                have r2 : a.tmps[2]? = some (.slice (some ⟨bC, oC, none⟩) q cc) := by rw [ha, fillA_base0 (by kernel_rfl)]; exact tb2
                clear ha hU hD ha0
                rw [if_pos (by rfl)]
                go_simp
                exact hK _ hC (Below.refl _ _)
              · -- 7
                intro vs a W K ha hC hD hU hK
                have r8 : a.tmps[8]? = some (.int .i64 (i4 : Int)) := by rw [ha, fillA_base0 (by kernel_rfl)]; exact tb8
                clear ha hU hD ha0
                rw [if_pos (by rfl)]
                go_simp
                exact hK _ hC (Below.refl _ _)
              · -- 8
                intro vs a W K ha hC hD hU hK
                have r60 : a.tmps[60]? = some (vs 7) := by rw [ha]; exact fillA_get0 (j := 7) (by kernel_rfl) (by rw [hsz]; decide)
                have q7 : vs 7 = .int .i64 (i4 : Int) := hD 7 (by simp [waits, Region.binds])
                rw [q7] at r60
                clear ha hU hD ha0
                rw [if_pos (by rfl)]
                go_simp
                exact hK _ hC (Below.refl _ _)
              · -- 9
                intro vs a W K ha hC hD hU hK
                have r59 : a.tmps[59]? = some (vs 6) := by rw [ha]; exact fillA_get0 (j := 6) (by kernel_rfl) (by rw [hsz]; decide)
                have q6 : vs 6 = .slice (some ⟨bC, oC, none⟩) q cc := hD 6 (by simp [waits, Region.binds])
                rw [q6] at r59
                have r61 : a.tmps[61]? = some (vs 8) := by rw [ha]; exact fillA_get0 (j := 8) (by kernel_rfl) (by rw [hsz]; decide)
                have q8 : vs 8 = .int .i64 (j2 : Int) := hD 8 (by simp [waits, Region.binds])
                rw [q8] at r61
                clear ha hU hD ha0
                rw [if_pos (by rfl)]
                go_simp
                exact hK _ hC (Below.refl _ _)
              · -- 10
                intro vs a W K ha hC hD hU hK
                have r62 : a.tmps[62]? = some (vs 9) := by rw [ha]; exact fillA_get0 (j := 9) (by kernel_rfl) (by rw [hsz]; decide)
                have q9 : vs 9 = .pointer (some ⟨bC, oC + j2, none⟩) := hD 9 (by simp [waits, Region.binds])
                rw [q9] at r62
                clear ha hU hD ha0
                rw [if_pos (by rfl)]
                obtain ⟨k0c, k1c, k2c, k3c, k4c, k5c, k6c⟩ := kk.out W (bl_call HVC.out hC (Nat.le_refl _))
                obtain ⟨kp0, kp1⟩ := kp.out W hC
                go_simp
                exact hK _ hC (Below.refl _ _)
              · -- 11
                intro vs a W K ha hC hD hU hK
                have r63 : a.tmps[63]? = some (vs 10) := by rw [ha]; exact fillA_get0 (j := 10) (by kernel_rfl) (by rw [hsz]; decide)
                have q10 : vs 10 = .int .u8 (z2 : Int) := hD 10 (by simp [waits, Region.binds])
                rw [q10] at r63
                clear ha hU hD ha0
                rw [if_pos (by rfl)]
                go_simp
                exact hK _ hC (Below.refl _ _)
              · -- 12
                intro vs a W K ha hC hD hU hK
                have r64 : a.tmps[64]? = some (vs 11) := by rw [ha]; exact fillA_get0 (j := 11) (by kernel_rfl) (by rw [hsz]; decide)
                have q11 : vs 11 = .int .i64 (z2 : Int) := hD 11 (by simp [waits, Region.binds])
                rw [q11] at r64
                clear ha hU hD ha0
                rw [if_pos (by rfl)]
                go_simp
                exact hK _ hC (Below.refl _ _)
              · -- 13
                intro vs a W K ha hC hD hU hK
                have r58 : a.tmps[58]? = some (vs 5) := by rw [ha]; exact fillA_get0 (j := 5) (by kernel_rfl) (by rw [hsz]; decide)
                have q5 : vs 5 = .int .i64 nn := hD 5 (by simp [waits, Region.binds])
                rw [q5] at r58
                have r65 : a.tmps[65]? = some (vs 12) := by rw [ha]; exact fillA_get0 (j := 12) (by kernel_rfl) (by rw [hsz]; decide)
                have q12 : vs 12 = .int .i64 (m2 : Int) := hD 12 (by simp [waits, Region.binds])
                rw [q12] at r65
                clear ha hU hD ha0
                rw [if_pos (by rfl)]
                go_simp
                exact hK _ hC (Below.refl _ _)
              · -- 14
                intro vs a W K ha hC hD hU hK
                have r66 : a.tmps[66]? = some (vs 13) := by rw [ha]; exact fillA_get0 (j := 13) (by kernel_rfl) (by rw [hsz]; decide)
                have q13 : vs 13 = .int .i64 nl := hD 13 (by simp [waits, Region.binds])
                rw [q13] at r66
                clear ha hU hD ha0
                rw [if_pos (by rfl)]
                have hmx := max_if 0 nl
                go_simp
                exact hK _ hC (Below.refl _ _)
              · -- 15
                intro vs a W K ha hC hD hU hK
                have r11 : a.tmps[11]? = some (.int .i64 nn) := by rw [ha, fillA_base0 (by kernel_rfl)]; exact tb11
                clear ha hU hD ha0
                rw [if_pos (by rfl)]
                go_simp
                exact hK _ hC (Below.refl _ _)
              · -- 16
                intro vs a W K ha hC hD hU hK
                have r2 : a.tmps[2]? = some (.slice (some ⟨bC, oC, none⟩) q cc) := by rw [ha, fillA_base0 (by kernel_rfl)]; exact tb2
                clear ha hU hD ha0
                rw [if_pos (by rfl)]
                go_simp
                exact hK _ hC (Below.refl _ _)
              · -- 17
                intro vs a W K ha hC hD hU hK
                have r8 : a.tmps[8]? = some (.int .i64 (i4 : Int)) := by rw [ha, fillA_base0 (by kernel_rfl)]; exact tb8
                clear ha hU hD ha0
                rw [if_pos (by rfl)]
                go_simp
                exact hK _ hC (Below.refl _ _)
              · -- 18
                intro vs a W K ha hC hD hU hK
                have r70 : a.tmps[70]? = some (vs 17) := by rw [ha]; exact fillA_get0 (j := 17) (by kernel_rfl) (by rw [hsz]; decide)
                have q17 : vs 17 = .int .i64 (i4 : Int) := hD 17 (by simp [waits, Region.binds])
                rw [q17] at r70
                clear ha hU hD ha0
                rw [if_pos (by rfl)]
                go_simp
                exact hK _ hC (Below.refl _ _)
              · -- 19
                intro vs a W K ha hC hD hU hK
                have r69 : a.tmps[69]? = some (vs 16) := by rw [ha]; exact fillA_get0 (j := 16) (by kernel_rfl) (by rw [hsz]; decide)
                have q16 : vs 16 = .slice (some ⟨bC, oC, none⟩) q cc := hD 16 (by simp [waits, Region.binds])
                rw [q16] at r69
                have r71 : a.tmps[71]? = some (vs 18) := by rw [ha]; exact fillA_get0 (j := 18) (by kernel_rfl) (by rw [hsz]; decide)
                have q18 : vs 18 = .int .i64 (j3 : Int) := hD 18 (by simp [waits, Region.binds])
                rw [q18] at r71
                clear ha hU hD ha0
                rw [if_pos (by rfl)]
                go_simp
                exact hK _ hC (Below.refl _ _)
              · -- 20
                intro vs a W K ha hC hD hU hK
                have r72 : a.tmps[72]? = some (vs 19) := by rw [ha]; exact fillA_get0 (j := 19) (by kernel_rfl) (by rw [hsz]; decide)
                have q19 : vs 19 = .pointer (some ⟨bC, oC + j3, none⟩) := hD 19 (by simp [waits, Region.binds])
                rw [q19] at r72
                clear ha hU hD ha0
                rw [if_pos (by rfl)]
                obtain ⟨k0c, k1c, k2c, k3c, k4c, k5c, k6c⟩ := kk.out W (bl_call HVC.out hC (Nat.le_refl _))
                obtain ⟨kp0, kp1⟩ := kp.out W hC
                go_simp
                exact hK _ hC (Below.refl _ _)
              · -- 21
                intro vs a W K ha hC hD hU hK
                have r73 : a.tmps[73]? = some (vs 20) := by rw [ha]; exact fillA_get0 (j := 20) (by kernel_rfl) (by rw [hsz]; decide)
                have q20 : vs 20 = .int .u8 (z3 : Int) := hD 20 (by simp [waits, Region.binds])
                rw [q20] at r73
                clear ha hU hD ha0
                rw [if_pos (by rfl)]
                go_simp
                exact hK _ hC (Below.refl _ _)
              · -- 22
                intro vs a W K ha hC hD hU hK
                have r74 : a.tmps[74]? = some (vs 21) := by rw [ha]; exact fillA_get0 (j := 21) (by kernel_rfl) (by rw [hsz]; decide)
                have q21 : vs 21 = .int .i64 (z3 : Int) := hD 21 (by simp [waits, Region.binds])
                rw [q21] at r74
                clear ha hU hD ha0
                rw [if_pos (by rfl)]
                go_simp
                exact hK _ hC (Below.refl _ _)
              · -- 23
                intro vs a W K ha hC hD hU hK
                have r68 : a.tmps[68]? = some (vs 15) := by rw [ha]; exact fillA_get0 (j := 15) (by kernel_rfl) (by rw [hsz]; decide)
                have q15 : vs 15 = .int .i64 nn := hD 15 (by simp [waits, Region.binds])
                rw [q15] at r68
                have r75 : a.tmps[75]? = some (vs 22) := by rw [ha]; exact fillA_get0 (j := 22) (by kernel_rfl) (by rw [hsz]; decide)
                have q22 : vs 22 = .int .i64 (m3 : Int) := hD 22 (by simp [waits, Region.binds])
                rw [q22] at r75
                clear ha hU hD ha0
                rw [if_pos (by rfl)]
                go_simp
                exact hK _ hC (Below.refl _ _)
              · -- 24
                intro vs a W K ha hC hD hU hK
                have r76 : a.tmps[76]? = some (vs 23) := by rw [ha]; exact fillA_get0 (j := 23) (by kernel_rfl) (by rw [hsz]; decide)
                have q23 : vs 23 = .int .i64 nh := hD 23 (by simp [waits, Region.binds])
                rw [q23] at r76
                clear ha hU hD ha0
                rw [if_pos (by rfl)]
                have hmx := min_if 20000 nh
                go_simp
                exact hK _ hC (Below.refl _ _)
              · -- 25
                intro vs a W K ha hC hD hU hK
                have r67 : a.tmps[67]? = some (vs 14) := by rw [ha]; exact fillA_get0 (j := 14) (by kernel_rfl) (by rw [hsz]; decide)
                have q14 : vs 14 = .int .i64 (max 0 nl) := hD 14 (by simp [waits, Region.binds])
                rw [q14] at r67
                have r77 : a.tmps[77]? = some (vs 24) := by rw [ha]; exact fillA_get0 (j := 24) (by kernel_rfl) (by rw [hsz]; decide)
                have q24 : vs 24 = .int .i64 (min 20000 nh) := hD 24 (by simp [waits, Region.binds])
                rw [q24] at r77
                clear ha hU hD ha0
                rw [if_pos (by rfl)]
                go_simp
                refine (span7_any (max 0 nl) (min 20000 nh) W).mono ?_
                rintro e w' ⟨rfl, hb⟩
                exact hK _ (bl_call hC hb (Nat.le_refl _)) hb
              · -- 26
                intro vs a W K ha hC hD hU hK
                have r55 : a.tmps[55]? = some (vs 2) := by rw [ha]; exact fillA_get0 (j := 2) (by kernel_rfl) (by rw [hsz]; decide)
                have q2 : vs 2 = .int .i64 (m0 : Int) := hD 2 (by simp [waits, Region.binds])
                rw [q2] at r55
                have r57 : a.tmps[57]? = some (vs 4) := by rw [ha]; exact fillA_get0 (j := 4) (by kernel_rfl) (by rw [hsz]; decide)
                have q4 : vs 4 = .int .i64 (m1 : Int) := hD 4 (by simp [waits, Region.binds])
                rw [q4] at r57
                have r78 : a.tmps[78]? = some (vs 25) := by rw [ha]; exact fillA_get0 (j := 25) (by kernel_rfl) (by rw [hsz]; decide)
                have q25 : vs 25 = .agg #[.int .i64 (max 0 nl), .int .i64 (min 20000 nh)] := hD 25 (by simp [waits, Region.binds])
                rw [q25] at r78
                clear ha hU hD ha0
                rw [if_pos (by rfl)]
                go_simp
                exact hK _ hC (Below.refl _ _)
              · -- 27
                intro vs a W K ha hC hD hU hK
                have r79 : a.tmps[79]? = some (vs 26) := by rw [ha]; exact fillA_get0 (j := 26) (by kernel_rfl) (by rw [hsz]; decide)
                have q26 : vs 26 = .agg #[.int .i64 (m0 : Int), .int .i64 (m1 : Int), .int .i64 (max 0 nl), .int .i64 (min 20000 nh)] := hD 26 (by simp [waits, Region.binds])
                rw [q26] at r79
                clear ha hU hD ha0
                rw [if_pos (by rfl)]
                go_simp
                exact hK _ _ (bl_alloc hC _ (Nat.le_refl _)) (bl_alloc (Below.refl _ _) _ (Nat.le_refl _)) ⟨_, rfl, Blk.new _ _ _ rfl⟩
            case finC =>
              intro vs W hC hE hU
              rw [ha0]
              clear hU hsz tb2 tb8 tb10 tb11
              have e0 : vs 0 = .slice An len cap := hE 0 (by simp)
              have E27 : IsSn (m0 : Int) (m1 : Int) (max 0 nl) (min 20000 nh) (vs 27) W := hE 27 (by simp)
              simp only [fillA, Act.put, List.setIfInBounds_toArray, List.set_cons_zero, List.set_cons_succ, Nat.zero_add, Nat.reduceAdd, e0]
              obtain ⟨g25, h25, hB25⟩ := E27
              rw [h25]
              obtain ⟨u1, hu1⟩ : ∃ v0, vs 1 = v0 := ⟨_, rfl⟩
              obtain ⟨u2, hu2⟩ : ∃ v0, vs 2 = v0 := ⟨_, rfl⟩
              obtain ⟨u3, hu3⟩ : ∃ v0, vs 3 = v0 := ⟨_, rfl⟩
              obtain ⟨u4, hu4⟩ : ∃ v0, vs 4 = v0 := ⟨_, rfl⟩
              obtain ⟨u5, hu5⟩ : ∃ v0, vs 5 = v0 := ⟨_, rfl⟩
              obtain ⟨u6, hu6⟩ : ∃ v0, vs 6 = v0 := ⟨_, rfl⟩
              obtain ⟨u7, hu7⟩ : ∃ v0, vs 7 = v0 := ⟨_, rfl⟩
              obtain ⟨u8, hu8⟩ : ∃ v0, vs 8 = v0 := ⟨_, rfl⟩
              obtain ⟨u9, hu9⟩ : ∃ v0, vs 9 = v0 := ⟨_, rfl⟩
              obtain ⟨u10, hu10⟩ : ∃ v0, vs 10 = v0 := ⟨_, rfl⟩
              obtain ⟨u11, hu11⟩ : ∃ v0, vs 11 = v0 := ⟨_, rfl⟩
              obtain ⟨u12, hu12⟩ : ∃ v0, vs 12 = v0 := ⟨_, rfl⟩
              obtain ⟨u13, hu13⟩ : ∃ v0, vs 13 = v0 := ⟨_, rfl⟩
              obtain ⟨u14, hu14⟩ : ∃ v0, vs 14 = v0 := ⟨_, rfl⟩
              obtain ⟨u15, hu15⟩ : ∃ v0, vs 15 = v0 := ⟨_, rfl⟩
              obtain ⟨u16, hu16⟩ : ∃ v0, vs 16 = v0 := ⟨_, rfl⟩
              obtain ⟨u17, hu17⟩ : ∃ v0, vs 17 = v0 := ⟨_, rfl⟩
              obtain ⟨u18, hu18⟩ : ∃ v0, vs 18 = v0 := ⟨_, rfl⟩
              obtain ⟨u19, hu19⟩ : ∃ v0, vs 19 = v0 := ⟨_, rfl⟩
              obtain ⟨u20, hu20⟩ : ∃ v0, vs 20 = v0 := ⟨_, rfl⟩
              obtain ⟨u21, hu21⟩ : ∃ v0, vs 21 = v0 := ⟨_, rfl⟩
              obtain ⟨u22, hu22⟩ : ∃ v0, vs 22 = v0 := ⟨_, rfl⟩
              obtain ⟨u23, hu23⟩ : ∃ v0, vs 23 = v0 := ⟨_, rfl⟩
              obtain ⟨u24, hu24⟩ : ∃ v0, vs 24 = v0 := ⟨_, rfl⟩
              obtain ⟨u25, hu25⟩ : ∃ v0, vs 25 = v0 := ⟨_, rfl⟩
              obtain ⟨u26, hu26⟩ : ∃ v0, vs 26 = v0 := ⟨_, rfl⟩
              rw [hu1, hu2, hu3, hu4, hu5, hu6, hu7, hu8, hu9, hu10, hu11, hu12, hu13, hu14, hu15, hu16, hu17, hu18, hu19, hu20, hu21, hu22, hu23, hu24, hu25, hu26]
              clear hu1 hu2 hu3 hu4 hu5 hu6 hu7 hu8 hu9 hu10 hu11 hu12 hu13 hu14 hu15 hu16 hu17 hu18 hu19 hu20 hu21 hu22 hu23 hu24 hu25 hu26
              clear hE e0 h25
              have hCw : Below wr.heap.size wr W := bl_call HVC.out hC (Nat.le_refl _)
              obtain ⟨A2, cap2, w2, hrun, hO2, hg2, hat⟩ := run_append_one W 27 27 SeenCR.good U0.heap.size 97 i0 _ 32 Tryz.underlying27 hi0 hz0 hz1 hz2 rfl (by omega) (.slice An len cap) (toldK7 s k tw xs r) ⟨(m0 : Int), (m1 : Int), max 0 nl, min 20000 nh⟩ (HOr.out.below SeenCR.good hCw) ⟨g25, 0, none⟩ 1 [.int .i64 m0, .int .i64 m1, .int .i64 (max 0 nl), .int .i64 (min 20000 nh)] rfl (fun j v hv => blk_newsC hB25 hv) (by rw [Hlen.out]; simp only [maxLen]; omega) (by rw [Hlen.out]; omega) (by have := hCw.size; have := HBr.out.size; omega) (fun h => h)
              have hB2 : Below U0.heap.size U0 w2 := bl_grown (bl_call HBr.out hCw (Nat.le_refl _)) (HOr.out.below SeenCR.good hCw) hg2 (Nat.le_refl _) (Nat.le_refl _)
              rw [Hlen.out] at hrun hO2
              rw [← HS.out] at hO2
              refine wp_append_of_run rfl rfl rfl hrun ?_
              clear hrun hg2 hat hC hB25 hCw kp kk
              have HO2 := Lib.hid hO2
              have HB2 := Lib.hid hB2
              clear hO2 hB2
              have hw4 : IntKind.i64.wrap ((i4 : Int) + 4) = (i4 : Int) + 4 := by rw [IntKind.wrap_i64]; omega
              go_simp
              go_wp2
              go_roundw
              case rel => exact ⟨r + 1, i4 + 4, len + 1, cap2, _, by rw [Hid, HI4.out]; omega, by rw [Hid]; have := HI4.out; omega, by go_num, rfl, HB2.out, HO2.out, by rw [Hid, HS.out, List.length_append, Hlen.out]; rfl, by omega⟩
              case measure => simp [intOf]; omega
          · have HS : Hid (toldK7 s k tw xs (r + 1) = toldK7 s k tw xs r) := by
              rw [Hid, toldK7, if_pos (by rw [Hlen.out]; exact hr), if_neg (by rw [HMT.out.1]; exact hn2)]
            have hw4 : IntKind.i64.wrap ((i4 : Int) + 4) = (i4 : Int) + 4 := by rw [IntKind.wrap_i64]; omega
            have hO2 : OwnL SeenCR 4 (fun _ => False) Vc U0.heap.size 97 (.slice An len cap) (toldK7 s k tw xs (r + 1)) := by rw [HS.out]; exact HOr.out.below SeenCR.good HVC.out
            have HO2 := Lib.hid hO2
            clear hO2
            go_wp2_with fail
            go_roundw
            case rel => exact ⟨r + 1, i4 + 4, len, cap, _, by rw [Hid, HI4.out]; omega, by rw [Hid]; have := HI4.out; omega, by go_num, rfl, bl_call HBr.out HVC.out (Nat.le_refl _), HO2.out, by rw [Hid, HS.out]; exact Hlen.out, hlen6⟩
            case measure => simp [intOf]; omega
      · have hri : ¬ (len : Int) < 6 := by omega
        have HL : Hid (toldL7 s k tw xs = toldK7 s k tw xs r) := HFIN.out (fun hh => hr hh.2)
        go_wp2_with fail
        go_ret
        rw [IsSeensD, HL.out, Hlen.out]
        exact ⟨⟨An, cap, by rfl, HO.out.slice SeenCR.good rfl (by simp only [maxLen]; omega) (fun _ h => h.elim) (fun j h _ => Nat.le_trans hBW.size h), HO.out.cap7⟩, bl_call hBW HBr.out (Nat.le_refl _)⟩
    · have hlti : ¬ (i4 : Int) + 3 < q := by omega
      have HL : Hid (toldL7 s k tw xs = toldK7 s k tw xs r) := HFIN.out (fun hh => hlt hh.1)
      have hwi3 : IntKind.i64.wrap ((i4 : Int) + 3) = (i4 : Int) + 3 := by have := HI4.out; rw [IntKind.wrap_i64]; omega
      go_wp2_with fail
      go_ret
      rw [IsSeensD, HL.out, Hlen.out]
      exact ⟨⟨An, cap, by rfl, HO.out.slice SeenCR.good rfl (by simp only [maxLen]; omega) (fun _ h => h.elim) (fun j h _ => Nat.le_trans hBW.size h), HO.out.cap7⟩, bl_call hBW HBr.out (Nat.le_refl _)⟩
theorem told7_any {S T' : Foot} {A C D : Option Addr} {n ca q cc dn dc : Nat} {s : Shop} {klo khi k : Int} {xs : List Nat} {tw : List (Int × Int)} (w : World) (g : Moulds (fun _ => True) w A n s.moulds) (hx : Bytes S w C q xs) (hd : Pairs T' w D dn tw) (hk : OkS s)
    (hdn : dn = s.moulds.length) (hb : ∀ p ∈ tw, (1 ≤ p.1 ∧ p.1 ≤ 20000) ∧ 0 ≤ p.2 ∧ p.2 ≤ 20) (hkk : 0 ≤ k ∧ k ≤ 100) :
    Calls Tryz.prog 18 #[.agg #[.int .i64 klo, .int .i64 khi, .slice A n ca], .agg #[.int .i64 k, .slice D dn dc], .slice C q cc] w fun e w' => IsSeensC w.heap.size (toldL7 s k tw xs) e w' ∧ Below w.heap.size w w' :=
  (told7_cap w g hx hd hk hdn hb hkk).mono fun e w' h => ⟨by obtain ⟨A', c, h1, h2, _⟩ := h.1; exact ⟨A', c, h1, h2⟩, h.2⟩
end Go.Proofs.YtpdldmichpmgmaaGreat

namespace Go.Proofs.YtpdldmichpmgmaaGreat

/-- a truth of a shop -/
structure Truth7 (s : Shop) (k : Int) (tw : List (Int × Int)) : Prop where
  shrink : s.klo ≤ k ∧ k ≤ s.khi
  len : tw.length = s.moulds.length
  two : ∀ m, m < s.moulds.length → InM (s.moulds.getD m dMould) (tw.getD m (0, 0))
theorem mould_bd {s : Shop} (hk : OkS s) {m : Nat} (hm : m < s.moulds.length) : (1 ≤ (s.moulds.getD m dMould).slo ∧ (s.moulds.getD m dMould).slo ≤ (s.moulds.getD m dMould).shi ∧ (s.moulds.getD m dMould).shi ≤ 20000) ∧ (0 ≤ (s.moulds.getD m dMould).wlo ∧ (s.moulds.getD m dMould).wlo ≤ (s.moulds.getD m dMould).whi ∧ (s.moulds.getD m dMould).whi ≤ 20) ∧ 1 ≤ (s.moulds.getD m dMould).casts ∧ (s.moulds.getD m dMould).casts ≤ 8 := by
  have hx : s.moulds[m]? = some s.moulds[m] := List.getElem?_eq_getElem hm
  have hz := mouldE_zero hx (hk.mould hm)
  rw [getD_of hx]
  omega
theorem any_truth {s : Shop} (hk : OkS s) (xs : List Nat) : Truth7 s (anyS7 s xs) (anyT7 s xs) where
  shrink := amongC_bd hk.shrink.2.1
  len := anyK7_len _ _ _
  two := fun m hm => by
    have e : (anyT7 s xs).getD m (0, 0) = anyTwo7 (s.moulds.getD m dMould) xs m := by
      unfold anyT7 anyK7
      rw [List.getD_eq_getElem?_getD, List.getElem?_map, List.getElem?_range hm]
      rfl
    rw [e]
    obtain ⟨h1, h2, _⟩ := mould_bd hk hm
    have a1 := amongC_bd (n := turnL xs (2 * m + 1)) h1.2.1
    have a2 := amongC_bd (n := turnL xs (2 * m + 2)) h2.2.1
    exact ⟨a1.1, a1.2, a2.1, a2.2⟩
theorem truth_bd {s : Shop} {k : Int} {tw : List (Int × Int)} (hk : OkS s) (ht : Truth7 s k tw) : ∀ p ∈ tw, (1 ≤ p.1 ∧ p.1 ≤ 20000) ∧ 0 ≤ p.2 ∧ p.2 ≤ 20 := by
  intro p hp
  obtain ⟨m, hm, rfl⟩ := List.getElem_of_mem hp
  have hm2 : m < s.moulds.length := by rw [← ht.len]; exact hm
  have h := ht.two m hm2
  rw [getD_of (List.getElem?_eq_getElem hm)] at h
  obtain ⟨h1, h2, h3, h4⟩ := h
  obtain ⟨b1, b2, _⟩ := mould_bd hk hm2
  omega
theorem truth_k {s : Shop} {k : Int} {tw : List (Int × Int)} (hk : OkS s) (ht : Truth7 s k tw) : 0 ≤ k ∧ k ≤ 100 := by
  have := hk.shrink
  have := ht.shrink
  omega
/-- something that is seen is right, and agrees with a truth -/
def SeenIn (s : Shop) (k : Int) (tw : List (Int × Int)) (y : SeenC) : Prop := ∃ m c : Nat, y.mould = m ∧ y.cast = c ∧ m < s.moulds.length ∧ c < castsN s m ∧ 0 ≤ y.lo ∧ y.lo ≤ madeT k tw m c ∧ madeT k tw m c ≤ y.hi ∧ y.hi ≤ 20000
theorem madeT_bd {s : Shop} {k : Int} {tw : List (Int × Int)} (hk : OkS s) (ht : Truth7 s k tw) {m c : Nat} (hm : m < s.moulds.length) (hc : c ≤ 8) : 1 ≤ madeT k tw m c ∧ madeT k tw m c ≤ 20160 := by
  have h := ht.two m hm
  obtain ⟨h1, h2, h3, h4⟩ := h
  obtain ⟨b1, b2, _⟩ := mould_bd hk hm
  have := made7_bd (a := (tw.getD m (0, 0)).1) (w := (tw.getD m (0, 0)).2) (k := k) (c := (c : Int)) (by omega) (by omega) (by omega) (truth_k hk ht)
  exact this.2.2.2.2
theorem told_seen {s : Shop} {k : Int} {tw : List (Int × Int)} (hk : OkS s) (ht : Truth7 s k tw) (xs : List Nat) : ∀ r, ∀ y ∈ toldK7 s k tw xs r, SeenIn s k tw y
  | 0 => fun y hy => by simp [toldK7] at hy
  | r + 1 => fun y hy => by
    have ih := told_seen hk ht xs r
    unfold toldK7 at hy
    split at hy
    · split at hy
      · rename_i h20
        rcases List.mem_append.1 hy with hy | hy
        · exact ih y hy
        · rw [List.mem_singleton] at hy
          subst hy
          have hm : toldI s xs r < s.moulds.length := Nat.mod_lt _ (by have := hk.nm; omega)
          have hcs := castsN_bd hk hm
          have hc : toldC s xs r < castsN s (toldI s xs r) := Nat.mod_lt _ (by omega)
          have hb := madeT_bd hk ht hm (c := toldC s xs r) (by omega)
          have hM : toldM s k tw xs r = madeT k tw (toldI s xs r) (toldC s xs r) := rfl
          refine ⟨toldI s xs r, toldC s xs r, rfl, rfl, hm, hc, ?_⟩
          unfold toldOne
          dsimp only
          rw [hM] at h20 ⊢
          generalize madeT k tw (toldI s xs r) (toldC s xs r) = n at *
          omega
      · exact ih y hy
    · exact ih y hy
theorem toldL_seen {s : Shop} {k : Int} {tw : List (Int × Int)} (hk : OkS s) (ht : Truth7 s k tw) (xs : List Nat) : ∀ y ∈ toldL7 s k tw xs, SeenIn s k tw y := told_seen hk ht xs _
theorem toldL_len (s : Shop) (k : Int) (tw : List (Int × Int)) (xs : List Nat) : (toldL7 s k tw xs).length ≤ 6 := toldK7_le _ _ _ _ _
theorem seen_ok {s : Shop} {l : List SeenC} {k : Int} {tw : List (Int × Int)} (he : (check7 s).2.2 = 0) (hl : l.length ≤ 6) (h : ∀ y ∈ l, SeenIn s k tw y) : seen7 s l = (0, 0) := by
  refine seen7_ok he hl fun j hj => ?_
  have hx := List.getElem?_eq_getElem hj
  obtain ⟨m, c, e1, e2, h1, h2, h3, h4, h5, h6⟩ := h _ (List.getElem_mem hj)
  have hcs := castsN_bd (okS_of he) h1
  refine seenE_of hx ⟨by omega, by omega⟩ ⟨by omega, ?_⟩ ⟨h3, by omega, h6⟩
  rw [e1, e2, Int.toNat_natCast]
  omega
theorem truth_ok {s : Shop} {l : List SeenC} {k : Int} {tw : List (Int × Int)} (h : ∀ y ∈ l, SeenIn s k tw y) (m : Nat) : twoOk7 l m k (tw.getD m (0, 0)).1 (tw.getD m (0, 0)).2 = true := by
  rw [twoOk_iff]
  intro y hy e
  obtain ⟨m', c, e1, e2, h1, h2, h3, h4, h5, h6⟩ := h y hy
  obtain rfl : m' = m := by omega
  rw [e2]
  exact ⟨h4, h5⟩
theorem truth_two {s : Shop} {l : List SeenC} {k : Int} {tw : List (Int × Int)} (hk : OkS s) (ht : Truth7 s k tw) (h : ∀ y ∈ l, SeenIn s k tw y) {m : Nat} (hm : m < s.moulds.length) : tw.getD m (0, 0) ∈ twosC s l m k :=
  (twos_mem hk hm).2 ⟨ht.two m hm, truth_ok h m⟩
theorem truth_known {s : Shop} {l : List SeenC} {k : Int} {tw : List (Int × Int)} (hk : OkS s) (ht : Truth7 s k tw) (h : ∀ y ∈ l, SeenIn s k tw y) : k ∈ known7 s l :=
  known_iff.2 ⟨ht.shrink, fun m hm => ⟨_, truth_two hk ht h hm⟩⟩
theorem truth_size {s : Shop} {l : List SeenC} {k : Int} {tw : List (Int × Int)} (hk : OkS s) (ht : Truth7 s k tw) (h : ∀ y ∈ l, SeenIn s k tw y) {m : Nat} (hm : m < s.moulds.length) (c : Nat) : (size7 s l m c).1 ≤ madeT k tw m c ∧ madeT k tw m c ≤ (size7 s l m c).2 :=
  (size_at hm (List.ne_nil_of_mem (truth_known hk ht h))).2.2 _ (made_mem.2 ⟨k, truth_known hk ht h, _, truth_two hk ht h hm, rfl⟩)
theorem sizesR_in {s : Shop} {l : List SeenC} {m c : Nat} (e : (seen7 s l).2 = 0) (hk : OkS s) (hm : m < s.moulds.length) (hc : c < castsN s m) (hne : known7 s l ≠ []) : sizesR s l m c = (size7 s l m c, 0) := by
  have hcs := castsN_bd hk hm
  have ht : there7 s (m : Int) (c : Int) = true := by
    unfold there7
    simp only [inB, Bool.and_eq_true, decide_eq_true_eq, Int.toNat_natCast]
    omega
  rw [sizesR_n e, ht, if_neg (by simp), if_neg hne, Int.toNat_natCast]
end Go.Proofs.YtpdldmichpmgmaaGreat
