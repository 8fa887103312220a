/- A part of the proof that TopMoulds always answers true. -/
import Derived.Test.YtkpbchnggdnmaaaGreatCBase2
import Derived.Test.YtkpbchnggdnmaaaGreatCKTrueP
import Derived.Test.YtkpbchnggdnmaaaGreatCOrP
import Derived.Test.YtkpbchnggdnmaaaGreatCTBits
set_option linter.all false
namespace Go.Proofs.YtkpbchnggdnmaaaGreat
open Go.RowKit Go.Shelf Go.Maps
open Go.WideMaps (KeyLaw)
open Go.ChangeMaps (setBlock)
def kv3 (a b c : Int) : Value := .agg #[.int .i64 a, .int .i64 b, .int .i64 c]
def dt3 (a b c : Int) : DataW Unit := .agg [.lit (.int .i64 a), .lit (.int .i64 b), .lit (.int .i64 c)]
theorem dt3_inj {a b c x y z : Int} (h : dt3 a b c = dt3 x y z) : a = x ∧ b = y ∧ c = z := by
 simp [dt3] at h
 exact h
def R3 : Value → Option (DataW Unit × List MemPlace)
 | .agg ⟨[.int .i64 a, .int .i64 b, .int .i64 c]⟩ => some (dt3 a b c, [])
 | _ => none
theorem R3_inv {v : Value} {y : DataW Unit × List MemPlace} (h : R3 v = some y) : ∃ a b c, v = kv3 a b c ∧ y.1 = dt3 a b c := by
 unfold R3 at h
 split at h
 ·injection h with h
  subst h
  exact ⟨_, _, _, rfl, rfl⟩
 cases h
theorem key3_law : WideMaps.KeyLaw Tryz.prog 94 := deep_law_laid laidOutP7 (m := 2) (by omega) (of_decide_eq_true (by kernel_rfl)) (by kernel_rfl) (by rw [Tryz.underlying94])
theorem key3_type : Tryz.prog.keyType 94 = true := by kernel_rfl
theorem cellsO3 : Tryz.prog.cellsOf 94 = 3 := by kernel_rfl
theorem three_key {P : Program} {k i : TypeId} (hu : P.underlying k = some (.array 3 i)) (hi : P.underlying i = some (.int .i64)) (hk : P.keyType k = true) (hc : P.cellsOf k = 3) (hci : P.cellsOf i = 1) (hd : ∃ d, P.types.size = d + 1)
  {v0 v1 v2 : Int} (g0 : (Lit.int .i64 v0).wf = true) (g1 : (Lit.int .i64 v1).wf = true) (g2 : (Lit.int .i64 v2).wf = true) :
  ∃ kl, keyOf P k (kv3 v0 v1 v2) = some kl := by
 obtain ⟨d, hd⟩ := hd
 rw [← Option.isSome_iff_exists, keyOf, hu]
 simp only [kv3, hk, hd, Value.formed, hu, hc, Program.keyLits, Value.cells]
 simp [List.range_succ, hci, hi, hc, g0, g1, g2]
theorem key3_ok {a b c : Int} (ha : 0 ≤ a ∧ a ≤ 450) (hb : 0 ≤ b ∧ b ≤ 450) (hc : 0 ≤ c ∧ c ≤ 450) : ∃ kl, keyOf Tryz.prog 94 (kv3 a b c) = some kl :=
 three_key Tryz.underlying94 Tryz.underlying3 key3_type cellsO3 cellsP1 types_size7 (wf_i64 (by omega) (by omega)) (wf_i64 (by omega) (by omega)) (wf_i64 (by omega) (by omega))
theorem zero3 (u : World) : (zeroValue 94).run Tryz.prog u = .ok (kv3 0 0 0) u := by kernel_rfl
def castI (s : Shop11) (i : Nat) (n : Int) : Int := if i < s.parts.length then castN (s.parts.getD i dPart) n else 0
theorem castP_three (s : Shop11) (a b c : Int) : castP s [a, b, c] = [castI s 0 a, castI s 1 b, castI s 2 c] := rfl
structure MapC (s : Shop11) (w : World) (b n : Nat) : Prop where
 ex : ∃ D : DataW Unit, w.ownsMap Tryz.prog 94 R3 b n D ∧ ∀ (x y z : Int) (kl : Lit), keyOf Tryz.prog 94 (kv3 x y z) = some kl →
  (∀ zd : DataW Unit, D.atKey kl zd = zd) ∨ ∀ zd : DataW Unit, D.atKey kl zd = dt3 (castI s 0 x) (castI s 1 y) (castI s 2 z)
section
variable {s : Shop11} {w : World} {b n : Nat}
theorem MapC.new (s : Shop11) (w : World) : MapC s (w.alloc (.map #[] 0)) w.heap.size 0 := ⟨_, World.ownsMap_made _ _ _ _, fun _ _ _ _ _ => .inl fun _ => rfl⟩
theorem MapC.at {w' : World} (h : MapC s w b n) (hb : w'.heap[b]? = w.heap[b]?) : MapC s w' b n := by
 obtain ⟨D, h1, h2⟩ := h.ex
 exact ⟨D, ownsMap_at h1 hb, h2⟩
theorem MapC.lt (h : MapC s w b n) : b < w.heap.size := by obtain ⟨D, h1, _⟩ := h.ex; exact h1.lt
theorem MapC.mono (h : MapC s w b n) {n' : Nat} (hn : n ≤ n') : MapC s w b n' := by obtain ⟨D, h1, h2⟩ := h.ex; exact ⟨D, h1.mono hn, h2⟩
theorem MapC.look (h : MapC s w b n) {x y z : Int} (hx : 0 ≤ x ∧ x ≤ 450) (hy : 0 ≤ y ∧ y ≤ 450) (hz : 0 ≤ z ∧ z ≤ 450) :
  (∀ w' : World, w'.heap[b]? = w.heap[b]? → (Instr.lookup 136 (.map (some b)) (kv3 x y z) true).run Tryz.prog w' = .ok (.tuple #[kv3 0 0 0, .bool false]) w') ∨
  (∀ w' : World, w'.heap[b]? = w.heap[b]? → (Instr.lookup 136 (.map (some b)) (kv3 x y z) true).run Tryz.prog w' = .ok (.tuple #[kv3 (castI s 0 x) (castI s 1 y) (castI s 2 z), .bool true]) w') := by
 obtain ⟨D, h1, h2⟩ := h.ex
 obtain ⟨kl, hkl⟩ := key3_ok hx hy hz
 have KK := Keyed.of_law key3_law
 have h3 := h2 x y z kl hkl
 obtain ⟨es, clock, hb, F1, hs, rfl⟩ := id h1
 rcases Maps.fit_look (w := w) true KK Tryz.underlying136 (zero3 w) hb F1 hkl with ⟨_, hne, hat⟩ | ⟨e0, y0, hm, hk0, _, hRv, hat, _⟩
 ·refine .inl fun w' hw' => ?_
  rcases Maps.fit_look (w := w') true KK Tryz.underlying136 (zero3 w') (hw'.trans hb) F1 hkl with ⟨hrun, _, _⟩ | ⟨e0, y0, hm, hk0, _⟩
  ·rw [hrun]; rfl
  exact absurd hk0 (hne e0 hm)
 refine .inr fun w' hw' => ?_
 rcases Maps.fit_look (w := w') true KK Tryz.underlying136 (zero3 w') (hw'.trans hb) F1 hkl with ⟨_, hne, _⟩ | ⟨e1, y1, _, _, hrun, hRv1, hat1, _⟩
 ·exact absurd hk0 (hne e0 hm)
 obtain ⟨p, q, r, hv, hy1⟩ := R3_inv hRv1
 have : dt3 p q r = dt3 (castI s 0 x) (castI s 1 y) (castI s 2 z) := by
  rcases h3 with h3 | h3
  ·have e1 := (hat1 (dt3 (p + 1) 0 0)).symm.trans (h3 _)
   rw [hy1] at e1
   have := (dt3_inj e1).1
   omega
  rw [← hy1, ← hat1 (dt3 0 0 0), h3]
 obtain ⟨rfl, rfl, rfl⟩ := dt3_inj this
 rw [hrun, hv]; rfl
theorem kv3_inj {a b c x y z : Int} (h : kv3 a b c = kv3 x y z) : a = x ∧ b = y ∧ c = z := by
 simp [kv3] at h
 exact h
theorem MapC.put (h : MapC s w b n) (hn : n < 1000000) {x y z : Int} (hx : 0 ≤ x ∧ x ≤ 450) (hy : 0 ≤ y ∧ y ≤ 450) (hz : 0 ≤ z ∧ z ≤ 450) :
  ∃ w', (Instr.mapUpdate 136 (.map (some b)) (kv3 x y z) (kv3 (castI s 0 x) (castI s 1 y) (castI s 2 z))).run Tryz.prog w = .ok () w' ∧ MapC s w' b (n + 1) ∧ w.grownBy w' (some b) := by
 obtain ⟨D, h1, h2⟩ := h.ex
 obtain ⟨kl, hkl⟩ := key3_ok hx hy hz
 have KK := Keyed.of_law key3_law
 obtain ⟨w', hrun, h3, h4⟩ := h1.update KK Tryz.underlying136 (Nat.lt_of_lt_of_le hn (by unfold maxLen; omega)) hkl (val := kv3 (castI s 0 x) (castI s 1 y) (castI s 2 z)) (d := dt3 (castI s 0 x) (castI s 1 y) (castI s 2 z)) (ps := []) (by rfl)
 refine ⟨w', hrun, ⟨_, h3, fun x' y' z' kl' hkl' => ?_⟩, h4⟩
 by_cases he : kl' = kl
 ·subst he
  obtain ⟨rfl, rfl, rfl⟩ := kv3_inj (key3_law.inj hkl hkl')
  exact .inr fun zd => atKey_put_same h1.isMap (KK.key hkl) _ _
 rcases h2 x' y' z' kl' hkl' with h5 | h5
 ·exact .inl fun zd => by rw [atKey_put_other he]; exact h5 zd
 exact .inr fun zd => by rw [atKey_put_other he]; exact h5 zd
end
open Go.RowKit Go.Shelf Go.Maps
theorem Blk.kept {w w' : World} {g : Nat} {t : TypeId} {cs : Array Value} {M : Foot} (h : Blk w g t cs) (hk : Kept M w w') (hg : ¬ M g) : Blk w' g t cs := (hk.block g h.lt hg).trans h
structure LookK (w : World) (B g kb : Nat) (H : Option Addr) (hn hc : Nat) (P : Option Addr) (pn pc : Nat) (Q : Option Addr) (on oc : Nat) (s : Shop11) : Prop where
 st : ∃ U uc, Blk w g 138 #[.slice H hn hc, .slice P pn pc, .slice Q on oc, .slice U hn uc, .map (some kb)] ∧ ShopO (fun k => k ≠ kb ∧ k < B) w H hn P pn Q on s ∧ Ints (fun k => k ≠ kb ∧ k < B) w U hn (upL s)
 ne : g ≠ kb
 lt : g < B
 le : B ≤ w.heap.size
section
variable {w w' : World} {B g kb : Nat} {H : Option Addr} {hn hc : Nat} {P : Option Addr} {pn pc : Nat} {Q : Option Addr} {on oc : Nat} {s : Shop11}
theorem LookK.keptM (h : LookK w B g kb H hn hc P pn pc Q on oc s) {M : Foot} (hk : Kept M w w') (hM : ∀ k, k < B → M k → k = kb) : LookK w' B g kb H hn hc P pn pc Q on oc s := by
 obtain ⟨U, uc, h1, h2, h3⟩ := h.st
 have hK : Keeps (fun k => k ≠ kb ∧ k < B) w w' := ⟨hk.size, fun k hs hlt => hk.block k hlt (fun hm => hs.1 (hM k hs.2 hm))⟩
 exact ⟨⟨U, uc, h1.kept hk (fun hm => h.ne (hM _ h.lt hm)), h2.keep hK, h3.keep IntR.good hK⟩, h.ne, h.lt, Nat.le_trans h.le hk.size⟩
theorem LookK.bl (h : LookK w B g kb H hn hc P pn pc Q on oc s) (hk : Below w.heap.size w w') : LookK w' B g kb H hn hc P pn pc Q on oc s := h.keptM (M := fun _ => False) (Kept.of_bl hk) (fun _ _ hm => hm.elim)
theorem LookK.mono (h : LookK w B g kb H hn hc P pn pc Q on oc s) {B' : Nat} (h1 : B ≤ B') (h2 : B' ≤ w.heap.size) : LookK w B' g kb H hn hc P pn pc Q on oc s := by
 obtain ⟨U, uc, h3, h4, h5⟩ := h.st
 exact ⟨⟨U, uc, h3, h4.mono (fun k hk => ⟨hk.1, Nat.lt_of_lt_of_le hk.2 h1⟩), h5.mono IntR.good (fun k hk => ⟨hk.1, Nat.lt_of_lt_of_le hk.2 h1⟩)⟩, h.ne, Nat.lt_of_lt_of_le h.lt h1, h2⟩
theorem MapC.bl {n : Nat} (h : MapC s w kb n) (hk : Below w.heap.size w w') : MapC s w' kb n := h.at (hk.block kb h.lt)
end
theorem sum_bd {l : List Int} (h : ∀ x ∈ l, 0 ≤ x ∧ x ≤ 24) : 0 ≤ l.foldl (· + ·) 0 ∧ l.foldl (· + ·) 0 ≤ 24 * (l.length : Int) := by
 have key : ∀ (l : List Int) (a : Int), (∀ x ∈ l, 0 ≤ x ∧ x ≤ 24) → a ≤ l.foldl (· + ·) a ∧ l.foldl (· + ·) a ≤ a + 24 * (l.length : Int) := by
  intro l
  induction l with
  | nil => intro a _; simp
  | cons x l ih =>
   intro a h
   have h1 := ih (a + x) (fun y hy => h y (by simp [hy]))
   have h2 := h x (by simp)
   rw [List.foldl_cons, List.length_cons]
   constructor
   ·omega
   have := h1.2
   push_cast
   omega
 have := key l 0 h
 omega
set_option maxHeartbeats 2000000 in
set_option maxRecDepth 100000 in
theorem olookU_any {s : Shop11} {H P Q : Option Addr} {hn hc pn pc on oc : Nat} (hok : Ok11 s) (hpc : pn ≤ pc) (w : World) (g : ShopO (fun _ => True) w H hn P pn Q on s) :
  Calls Tryz.prog 61 #[.agg #[.slice H hn hc, .slice P pn pc, .slice Q on oc]] w fun e w' => (∃ g kb U uc, e = .returned (.tuple #[.pointer (some ⟨g, 0, none⟩), .int .i64 0]) ∧ w.heap.size ≤ kb ∧ kb < g ∧ Blk w' g 138 #[.slice H hn hc, .slice P pn pc, .slice Q on oc, .slice U hn uc, .map (some kb)] ∧ Ints (fun k => g < k) w' U hn (upL s) ∧ MapC s w' kb 0) ∧ Below w.heap.size w w' := by
 have hh := g.hs.len
 have nh := hok.nh
 have hhn : 1 ≤ hn ∧ hn ≤ 20 := by omega
 have Hh := Lib.hid hh
 have HHR : Hid (∀ h ∈ s.hours, 0 ≤ h ∧ h ≤ 24) := hok.hours
 obtain ⟨i0, hi0, hz0, hz1, hz2⟩ := info_parts infoInt
 obtain ⟨W, hW⟩ : ∃ W, w.alloc (.cells #[.slice H hn hc, .slice P pn pc, .slice Q on oc] 31) = W := ⟨_, rfl⟩
 have X : Blk W w.heap.size 31 #[.slice H hn hc, .slice P pn pc, .slice Q on oc] := by rw [← hW]; exact Blk.new _ _ _ rfl
 have hBW : Below w.heap.size w W := by rw [← hW]; exact bl_alloc (Below.refl _ _) _ (Nat.le_refl _)
 have HGW : Hid (ShopO (fun _ => True) w H hn P pn Q on s) := g
 have HG : Hid (∀ V, Below W.heap.size W V → ShopO (fun _ => True) V H hn P pn Q on s) := fun V hb => (g.bl hBW).bl hb
 have kk : Hid (∀ V, Below W.heap.size W V → V.cell? ⟨w.heap.size, 0, none⟩ = some (.slice H hn hc) ∧ V.cell? ⟨w.heap.size, 1, none⟩ = some (.slice P pn pc) ∧ V.cell? ⟨w.heap.size, 2, none⟩ = some (.slice Q on oc)) :=
  fun V hb => ⟨(X.bl hb).cell 0, (X.bl hb).cell 1, (X.bl hb).cell 2⟩
 have hle := g.hs.le
 have Hok := Lib.hid hok
 clear hok g X hh nh
 obtain ⟨x0, x1, x2⟩ := kk.out W (Below.refl _ _)
 have hmm := @run_makeMap Tryz.prog
 go_enter Tryz.func61, Tryz.ntmps61
 go_wp2_with fail
 clear hW x0 x1 x2
 refine (ocheck_any Hok.out hpc W (HG.out W (Below.refl _ _))).mono ?_
 rintro e V1 ⟨rfl, b1⟩
 obtain ⟨x0, x1, x2⟩ := kk.out V1 b1
 obtain ⟨gk, hgk⟩ : ∃ q, V1.heap.size = q := ⟨_, rfl⟩
 obtain ⟨V3, hV3⟩ : ∃ V, (V1.alloc (.map #[] 0)).alloc (.cells #[.slice H hn hc, .slice P pn pc, .slice Q on oc, .slice none 0 0, .map (some gk)] 138) = V := ⟨_, rfl⟩
 have M3 : MapC s V3 gk 0 := by rw [← hV3, ← hgk]; exact (MapC.new s V1).bl (bl_alloc (Below.refl _ _) _ (Nat.le_refl _))
 have X3 : Blk V3 (gk + 1) 138 #[.slice H hn hc, .slice P pn pc, .slice Q on oc, .slice none 0 0, .map (some gk)] := by rw [← hV3]; exact Blk.new _ _ _ (by simp [hgk])
 have B3 : Below W.heap.size W V3 := by rw [← hV3]; exact bl_alloc (bl_alloc b1 _ (Nat.le_refl _)) _ (Nat.le_refl _)
 have HS3 : Hid (gk + 2 = V3.heap.size) := by rw [Hid, ← hV3, ← hgk]; simp
 obtain ⟨y0, y1, y2⟩ := kk.out V3 B3
 go_wp2
 clear x0 x1 x2 y0 y1 y2 hV3
 go_loopw [8, 10, 27] (fun sm _ i wr => ∃ (k uc : Nat) (U : Option Addr) (sv : Int), k ≤ hn ∧ i = .int .i64 k ∧ sm = .int .i64 sv ∧ Hid (sv = (s.hours.take k).foldl (· + ·) 0) ∧ Hid (Below W.heap.size W wr) ∧ Hid (Blk wr (gk + 1) 138 #[.slice H hn hc, .slice P pn pc, .slice Q on oc, .slice U k uc, .map (some gk)]) ∧ Hid (OwnL IntR 1 (fun _ => False) wr V3.heap.size 3 (.slice U k uc) ((List.range k).map (upN s))) ∧ Hid (MapC s wr gk 0)) (fun _ _ i _ => hn - (intOf i).toNat)
 case atStart => exact ⟨0, 0, none, 0, Nat.zero_le _, rfl, rfl, rfl, B3, X3, OwnL.nil _ _ _ _ _ _, M3⟩
 case round =>
  obtain ⟨k, uc, U, sv, hk, rfl, rfl, Hsv, HB, HX, HO, HM⟩ := hrel
  by_cases hlt : k < hn
  ·have hki : (k : Int) < hn := by omega
   obtain ⟨b, off, x, rfl, hcx, Hx⟩ := Ints.get (HG.out wr HB.out).hs hlt
   have hxb := HHR.out x (List.mem_of_getElem? Hx.out)
   have hsb := sum_bd (l := s.hours.take k) (fun y hy => HHR.out y (List.mem_of_mem_take hy))
   rw [← Hsv.out, List.length_take, Hh.out] at hsb
   obtain ⟨nv, hnv⟩ : ∃ v, sv + x = v := ⟨_, rfl⟩
   have w1 : IntKind.i64.wrap nv = nv := by rw [← hnv, IntKind.wrap_i64]; omega
   have HNV : Hid (nv = (s.hours.take (k + 1)).foldl (· + ·) 0) := by rw [Hid, take_snoc_get Hx.out, List.foldl_append, ← Hsv.out, ← hnv]; rfl
   have HL : Hid (((List.range k).map (upN s)).length = k) := by simp [Hid]
   have HUP : Hid (upN s k = nv) := by rw [Hid, HNV.out]; rfl
   clear hxb hsb
   have z3 := HX.out.cell 3
   have fz3 := HX.out.frozen 3
   have zlt := HX.out.lt
   go_wp2_with (at_builtin; refine wpList_append_n _ rfl _ _ _ rfl IntR.good V3.heap.size 3 i0 _ 8 Tryz.underlying27 hi0 hz0 hz1 hz2 rfl (by omega) _ _ nv k HL.out rfl (HO.out.alloc IntR.good _) ⟨_, 0, none⟩ 1 [.int .i64 nv] rfl rfl (news_new rfl rfl) ?c1 ?c2 ?c3 (fun h => h) ?_)
   case c1 => simp only [maxLen]; omega
   case c2 => omega
   case c3 => have := HB.out.size; have := B3.size; have := HX.out.lt; simp; rw [← HS3.out]; omega
   intro A2 cap2 w2 hO2 hg2 _
   have hob : ∀ q, (Value.slice U k uc).ownBlock = some q → V3.heap.size ≤ q := fun q hq => (HO.out.block q hq).1
   have hX2 : Blk w2 (gk + 1) 138 #[.slice (some ⟨b, off, none⟩) hn hc, .slice P pn pc, .slice Q on oc, .slice U k uc, .map (some gk)] := (HX.out.alloc _).grown hg2 (fun e => by have := hob _ e.symm; rw [← HS3.out] at this; omega)
   have hM2 : MapC s w2 gk 0 := (HM.out.bl (bl_alloc (Below.refl _ _) _ (Nat.le_refl _))).at (hg2.block gk (by have := HM.out.lt; simp; omega) (fun e => by have := hob _ e.symm; rw [← HS3.out] at this; omega))
   have hB2 : Below W.heap.size W w2 := bl_grown (bl_alloc HB.out _ (Nat.le_refl _)) (HO.out.alloc IntR.good _) hg2 (by have := B3.size; omega) (Nat.le_refl _)
   have HX2 := Lib.hid hX2
   have HM2 := Lib.hid hM2
   have HB2 := Lib.hid hB2
   have HO2 := Lib.hid hO2
   clear hX2 hM2 hB2 hO2 hg2 z3 fz3 zlt hcx hob
   have z3 := HX2.out.cell 3
   have fz3 := HX2.out.frozen 3
   have zlt := HX2.out.lt
   have HWk : Hid (W.heap.size ≤ gk) := by have := b1.size; rw [Hid]; omega
   go_wp2
   go_roundw
   case rel =>
    have hX3 := HX2.out.set_ 3 (.slice (some ⟨A2, 0, none⟩) (k + 1) cap2)
    refine ⟨k + 1, cap2, _, nv, by omega, by go_num, rfl, HNV.out, bl_set HB2.out (by have := HWk.out; show W.heap.size ≤ gk + 1; omega) _, hX3, ?_, HM2.out.at (Below.heap_setCell _ _ _ _ (by show gk ≠ gk + 1; omega))⟩
    rw [List.range_succ, List.map_append, List.map_cons, List.map_nil, HUP.out]
    exact HO2.out.keep IntR.good ⟨by simp [World.setCell], fun j hj hlt => Below.heap_setCell _ _ _ _ (fun e => by
     have h1 : V3.heap.size ≤ j := by
      rcases hj with hj | hj
      ·exact hj.elim
      exact (HO2.out.block j hj).1
     rw [← HS3.out] at h1
     have h2 : j = gk + 1 := e
     omega)⟩
   case measure => simp [intOf]; omega
  obtain rfl : k = hn := by omega
  go_wp2
  go_ret2
  refine ⟨⟨gk + 1, gk, U, uc, rfl, by have := b1.size; have := hBW.size; omega, Nat.lt_succ_self _, HX.out, ?_, HM.out⟩, bl_call hBW HB.out (Nat.le_refl _)⟩
  have h1 := HO.out.slice (T := fun j => gk + 1 < j) IntR.good rfl (by simp only [maxLen]; omega) (fun _ h => h.elim) (fun j h _ => by rw [← HS3.out] at h; omega)
  have h2 : upL s = (List.range k).map (upN s) := by rw [upL, Hh.out]
  rw [h2]
  exact h1
theorem olook_any {s : Shop11} {H P Q : Option Addr} {hn hc pn pc on oc : Nat} (hok : Ok11 s) (hpc : pn ≤ pc) (w : World) (g : ShopO (fun _ => True) w H hn P pn Q on s) :
  Calls Tryz.prog 61 #[.agg #[.slice H hn hc, .slice P pn pc, .slice Q on oc]] w fun e w' => (∃ g kb, e = .returned (.tuple #[.pointer (some ⟨g, 0, none⟩), .int .i64 0]) ∧ w.heap.size ≤ g ∧ w.heap.size ≤ kb ∧ LookK w' w'.heap.size g kb H hn hc P pn pc Q on oc s ∧ MapC s w' kb 0) ∧ Below w.heap.size w w' := by
 refine (olookU_any hok hpc w g).mono ?_
 rintro e w' ⟨⟨q, kb, U, uc, rfl, h1, h2, hX, hU, hM⟩, hb⟩
 have hz := hb.size
 refine ⟨⟨q, kb, rfl, by omega, h1, ⟨⟨U, uc, hX, ?_, (hU.bound IntR.good).mono IntR.good (fun k h => ⟨by have := h.1; omega, h.2⟩)⟩, by omega, hX.lt, Nat.le_refl _⟩, hM⟩, hb⟩
 exact ((g.bound).keep (Keeps.below hb)).mono fun k h => ⟨by have := h.2; omega, by have := h.2; omega⟩
end Go.Proofs.YtkpbchnggdnmaaaGreat
