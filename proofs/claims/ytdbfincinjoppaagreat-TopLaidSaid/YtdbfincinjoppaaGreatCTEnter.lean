/- A part of the proof that TopLaid always answers true. -/
import Derived.Test.YtdbfincinjoppaaGreatCMaps2
import Derived.Test.YtdbfincinjoppaaGreatCTEnter0
set_option linter.all false
namespace Go.Proofs.YtdbfincinjoppaaGreat
open Go.RowKit Go.Shelf
attribute [local go_sem] Oper.semAt_some
structure HBox (w : World) (gh : Nat) (A : Option Addr) (n ca : Nat) (B : Option Addr) (m cb : Nat) (C : Option Addr) (q cc : Nat) (h : Hall) (l : List Seen) : Prop where
 ex : ∃ gm gr gc, Blk w gh 140 #[.int .i64 h.alo, .int .i64 h.ahi, .int .i64 h.most, .slice A n ca, .slice B m cb, .slice C q cc, .map (some gm), .slice (some ⟨gr, 0, none⟩) 2 2] ∧
  Blk w gr 163 #[.int .i64 1, .func (.func 73) #[] #[], .int .i64 2, .func (.func 74) #[] #[.pointer (some ⟨gc, 0, none⟩)]] ∧ w.cell? ⟨gc, 2, none⟩ = some (.int .i64 h.most) ∧ MapOf w gm (knownV h l n)
 hs : HallAt (fun _ => True) w A n B m h
def EnterOk (w0 : World) (A : Option Addr) (n ca : Nat) (B : Option Addr) (m cb : Nat) (C : Option Addr) (q cc : Nat) (h : Hall) (l : List Seen) (e : Ending) (w' : World) : Prop :=
 Below w0.heap.size w0 w' ∧ ∃ p ag, e = .returned (.tuple #[.pointer p, .bool ag, .int .i64 (seen8 h l).2]) ∧ ((seen8 h l).2 = 0 → ag = agree8 h l) ∧ ((seen8 h l).2 = 0 → agree8 h l = true → ∃ gh, p = some ⟨gh, 0, none⟩ ∧ HBox w' gh A n ca B m cb C q cc h l)
set_option maxRecDepth 100000 in
set_option maxHeartbeats 4000000 in
theorem tenter_any {A B C : Option Addr} {n ca m cb q cc : Nat} {h : Hall} {l : List Seen} {alo ahi most : Int} (w : World) (g : HallAt (fun _ => True) w A n B m h) (gs : Seens (fun _ => True) w C q l) (hca : n ≤ ca) (h1 : h.alo = alo) (h2 : h.ahi = ahi) (h3 : h.most = most) :
  Calls Tryz.prog 45 #[.agg #[.int .i64 alo, .int .i64 ahi, .int .i64 most, .slice A n ca, .slice B m cb], .slice C q cc] w (EnterOk w A n ca B m cb C q cc h l) := by
 obtain ⟨W, hW⟩ : ∃ W, w.alloc (.cells #[.int .i64 alo, .int .i64 ahi, .int .i64 most, .slice A n ca, .slice B m cb] 30) = W := ⟨_, rfl⟩
 have X : Blk W w.heap.size 30 #[.int .i64 alo, .int .i64 ahi, .int .i64 most, .slice A n ca, .slice B m cb] := by rw [← hW]; exact Blk.new _ _ _ rfl
 have hc : HallAt (fun _ => True) W A n B m h := by rw [← hW]; exact g.keep (Keeps.alloc _ _)
 have hs : Seens (fun _ => True) W C q l := by rw [← hW]; exact gs.keep SeenR.good (Keeps.alloc _ _)
 have hBW : Below w.heap.size w W := by rw [← hW]; exact bl_alloc (Below.refl _ _) _ (Nat.le_refl _)
 have hWs : w.heap.size ≤ W.heap.size := hBW.size
 have HWs : Hid (w.heap.size + 1 = W.heap.size) := by rw [Hid, ← hW]; simp
 have HW := Lib.hid hW
 have Hn := Lib.hid hc.ts.len
 have Hq := Lib.hid hs.len
 have hlen := hc.ts.le
 have x0 : W.cell? ⟨w.heap.size, 0, none⟩ = some (.int .i64 alo) := X.cell 0
 have x1 : W.cell? ⟨w.heap.size, 1, none⟩ = some (.int .i64 ahi) := X.cell 1
 have x2 : W.cell? ⟨w.heap.size, 2, none⟩ = some (.int .i64 most) := X.cell 2
 have x3 : W.cell? ⟨w.heap.size, 3, none⟩ = some (.slice A n ca) := X.cell 3
 have x4 : W.cell? ⟨w.heap.size, 4, none⟩ = some (.slice B m cb) := X.cell 4
 clear hW g gs X
 refine (callsIn_wide (n := 1)).1 ?_
 refine callsIn_of_wp_marks Tryz.func45 rfl trivial ?_ rfl
 simp only [Tryz.ntmps45, List.size_toArray, List.length_cons, List.length_nil, Nat.reduceAdd, Nat.reduceSub, Array.replicate_succ, Array.replicate_zero, List.push_toArray, List.append_toArray, List.nil_append, List.cons_append]
 refine wpIn_wide.2 ?_
 go_wp2_with fail
 rw [HW.out]
 refine (tseen_any W hc hs hca h1 h2 h3).mono ?_
 rintro e W1 ⟨rfl, b1⟩
 by_cases he : (seen8 h l).2 = 0
 ·have heb : ((seen8 h l).2 != 0) = false := by rw [he]; rfl
  obtain ⟨hc0, hl6, hse⟩ := seen_zero he
  have hokh := okH_of hc0
  have hsn : ∀ (k : Nat) (y : Seen), l[k]? = some y → 0 ≤ y.air ∧ y.air ≤ 40 := fun k y hy => (seen_one hy (hse k (of_getq hy))).2.1
  have HE := Lib.hid he
  obtain ⟨s1, hs1⟩ : ∃ s1, (seen8 h l).1 = s1 := ⟨_, rfl⟩
  rw [he, hs1]
  clear he hs1 hc0 hse
  have y0 := getc b1 x0
  have y1 := getc b1 x1
  have y2 := getc b1 x2
  have y3 := getc b1 x3
  have y4 := getc b1 x4
  have hmk := @run_makeMap Tryz.prog
  have hlw : w.heap.size < W1.heap.size := by have := b1.size; have := HWs.out; omega
  obtain ⟨W2, hW2⟩ : ∃ W2, ((W1.alloc (.map #[] 0)).alloc (.cells #[.int .i64 alo, .int .i64 ahi, .int .i64 most, .slice A n ca, .slice B m cb, .slice C q cc, .map (some W1.heap.size), .slice (some ⟨W1.heap.size + 1 + 1, 0, none⟩) 2 2] 140)).alloc (.cells #[.int .i64 1, .func (.func 73) #[] #[], .int .i64 2, .func (.func 74) #[] #[.pointer (some ⟨w.heap.size, 0, none⟩)]] 163) = W2 := ⟨_, rfl⟩
  have z3 : W2.cell? ⟨w.heap.size, 3, none⟩ = some (.slice A n ca) := by rw [← hW2]; exact oldc (oldc (oldc y3))
  go_wp2_with fail
  clear hmk
  have MH : Blk W2 (W1.heap.size + 1) 140 #[.int .i64 alo, .int .i64 ahi, .int .i64 most, .slice A n ca, .slice B m cb, .slice C q cc, .map (some W1.heap.size), .slice (some ⟨W1.heap.size + 1 + 1, 0, none⟩) 2 2] := by rw [← hW2]; exact (Blk.new _ _ _ (by simp)).alloc _
  have MR : Blk W2 (W1.heap.size + 1 + 1) 163 #[.int .i64 1, .func (.func 73) #[] #[], .int .i64 2, .func (.func 74) #[] #[.pointer (some ⟨w.heap.size, 0, none⟩)]] := by rw [← hW2]; exact Blk.new _ _ _ (by simp)
  have MM : MapOf W2 W1.heap.size [] := by rw [← hW2]; exact (((MapOf.new W1).bl (bl_alloc (Below.refl _ _) _ (Nat.le_refl _))).bl (bl_alloc (Below.refl _ _) _ (Nat.le_refl _)))
  obtain ⟨gr, hgr⟩ : ∃ gr, W1.heap.size + 1 + 1 = gr := ⟨_, rfl⟩
  obtain ⟨gh, hgh⟩ : ∃ gh, W1.heap.size + 1 = gh := ⟨_, rfl⟩
  obtain ⟨gm, hgm⟩ : ∃ gm, W1.heap.size = gm := ⟨_, rfl⟩
  have b2 : Below W.heap.size W W2 := by rw [← hW2]; exact bl_alloc (bl_alloc (bl_alloc b1 _ (Nat.le_refl _)) _ (Nat.le_refl _)) _ (Nat.le_refl _)
  have hsz2 : W2.heap.size = W1.heap.size + 1 + 1 + 1 := by rw [← hW2]; simp
  have z2 := getc b2 x2
  rw [hgr, hgh, hgm] at MH ⊢
  rw [hgr] at MR
  rw [hgm] at MM
  clear hW2 y0 y1 y2 y3 y4
  have hsz2a : gr < W2.heap.size := by omega
  have hWgm : W.heap.size ≤ gm := by have := b1.size; omega
  have hgmh : gm < gh := by omega
  have hghr : gh < gr := by omega
  clear hsz2 hgm hgh hgr
  have hb2 : HallAt (fun k => True ∧ k < W.heap.size) W2 A n B m h := hc.bound.keep (Keeps.below b2)
  have sb2 : Seens (fun k => True ∧ k < W.heap.size) W2 C q l := (hs.bound SeenR.good).keep SeenR.good (Keeps.below b2)
  refine (wpIn_wide (n := 1)).1 ?_
  have hKeep : ∀ w' : World, Kept (fun j => j = gm ∨ W2.heap.size ≤ j) W2 w' → Below w.heap.size w w' := fun _ hK => hBW.trans ((b2.trans (hK.below (B := W.heap.size) b2.size (fun k h => by have := b2.size; omega))).mono hWs)
  have hAG : (∀ t, t < n → twosL h l t ≠ []) → agree8 h l = true := fun hh => by
   unfold agree8
   rw [List.all_eq_true]
   intro t ht
   have := hh t (by rw [← Hn.out]; exact List.mem_range.1 ht)
   simpa using this
  have hAN : (∃ t, t < n ∧ twosL h l t = []) → agree8 h l = false := fun ⟨t, ht, he⟩ => by
   unfold agree8
   rw [← Bool.not_eq_true, List.all_eq_true]
   intro hh
   have := hh t (by rw [List.mem_range, Hn.out]; exact ht)
   rw [he] at this
   cases this
  have HFIN : Hid (∀ (ds : List Nat) (w' w9 : World), DefersAt ds W2.heap.size w' → Kept (fun j => j = gm ∨ W2.heap.size ≤ j) W2 w' → Kept (fun k => k ∈ ds) w' w9 → Kept (fun j => j = gm ∨ W2.heap.size ≤ j) W2 w9) :=
   fun ds w' w9 hD hK hK9 => hK.trans (hK9.mono fun k _ hk => .inr (hD.2 k hk).1)
  have hghlt := MH.lt
  have HBX : Hid (∀ w9, Kept (fun j => j = gm ∨ W2.heap.size ≤ j) W2 w9 → MapOf w9 gm (knownV h l n) → HBox w9 gh A n ca B m cb C q cc h l) := fun w9 hK hM => by
   refine ⟨⟨gm, gr, w.heap.size, ?_, (hK.block _ hsz2a (by omega)).trans MR, ?_, hM⟩, (hb2.keep (hK.keeps (fun j hj e => by have := b2.size; omega))).mono (fun _ _ => trivial)⟩
   ·rw [h1, h2, h3]; exact (hK.block _ hghlt (by omega)).trans MH
   rw [h3]; exact hK.cell z2 (fun e => by have := b2.size; have := HWs.out; dsimp only at e; omega)
  have HAG := Lib.hid hAG
  have HAN := Lib.hid hAN
  have HKP := Lib.hid hKeep
  clear hAG hAN hKeep
  refine enter_loop (A := A) (B := B) (C := C) (n := n) (ca := ca) (m := m) (cb := cb) (q := q) (cc := cc) (h := h) (l := l) (gm := gm) (gh := gh) (B0 := W.heap.size) hokh hl6 hsn Hn.out hWgm hgmh MH MM hb2 sb2 _ _ _ _ _ _ _ _ _ _ _ _ _ _ _ _ _ _ _ _ _ _ _ _ _ _ _ _ _ _ _ _ _ _ _ _ _ _ _ _ _ _ _ _ _ _ _ _ _ _ _ _ _ _ _ _ _ _ _ _ _ _ _ _ _ _ _ _ _ _ _ _ _ _ _ _ _ _ _ _ _ _ _ _ _ ?hexit ?hret
  case hexit =>
   intro ds u w' hD hK hM hT
   have HD := Lib.hid hD
   have HK := Lib.hid hK
   have HM := Lib.hid hM
   have HT := Lib.hid hT
   clear hD hK hM hT
   gi_wp2_with fail
   go_wp2_with fail
   refine leaves_marks ds w' (fun D hD => (HD.out.2 D hD).2) HD.out.1 (fun w9 hK9 hs9 => ⟨.tuple #[.pointer (some ⟨gh, 0, none⟩), .bool true, .int .i64 0], by simp [results, Tryz.results45, go_sem], ?_⟩)
   have hK := HFIN.out ds w' w9 HD.out HK.out hK9
   refine ⟨HKP.out _ hK, some ⟨gh, 0, none⟩, true, by rw [HE.out], fun _ => (HAG.out HT.out).symm, fun _ _ => ⟨gh, rfl, ?_⟩⟩
   have hM9 : MapOf w9 gm (knownV h l n) := HM.out.at (hK9.block _ HM.out.lt (fun hm => by have := (HD.out.2 gm hm).1; have := MM.lt; omega))
   exact HBX.out w9 hK hM9
  intro ds tmps w' hD hK hN hres
  refine leaves_marks ds w' (fun D hD' => (hD.2 D hD').2) hD.1 (fun w9 hK9 hs9 => ⟨_, hres w9, ?_⟩)
  refine ⟨HKP.out _ (HFIN.out ds w' w9 hD hK hK9), some ⟨gh, 0, none⟩, false, by rw [HE.out], fun _ => (HAN.out hN).symm, fun _ h => ?_⟩
  rw [HAN.out hN] at h
  cases h
 have heb : ((seen8 h l).2 != 0) = true := by simpa using he
 go_wp2
 refine ⟨_, results_tmp3 rfl _ _ _, hBW.trans (b1.mono hWs), none, false, by simp [List.getD], fun h => absurd h he, fun h => absurd h he⟩
open Go.RowKit Go.Shelf
theorem ret_span1 {fn : Func} {p : Tmp} (h : fn.results = #[.cell p 23]) {tmps : Array Value} {g : Nat} {lo hi : Int} {w : World} (hp : tmps.getD p undef = .pointer (some ⟨g, 0, none⟩))
  (h0 : w.cell? ⟨g, 0, none⟩ = some (.int .i64 lo)) (h1 : w.cell? ⟨g, 1, none⟩ = some (.int .i64 hi)) : (results fn tmps).run Tryz.prog w = .ok (.agg #[.int .i64 lo, .int .i64 hi]) w := by
 have hp' : tmps[p]?.getD undef = .pointer (some ⟨g, 0, none⟩) := by simpa using hp
 simp [results, h, hp', asAddr, go_sem, h0, h1]
theorem HBox.keep {w w' : World} {gh : Nat} {A : Option Addr} {n ca : Nat} {B : Option Addr} {m cb : Nat} {C : Option Addr} {q cc : Nat} {h : Hall} {l : List Seen} (g : HBox w gh A n ca B m cb C q cc h l) (hb : Below w.heap.size w w') : HBox w' gh A n ca B m cb C q cc h l := by
 obtain ⟨⟨gm, gr, gc, h1, h2, h3, h4⟩, h5⟩ := g
 exact ⟨⟨gm, gr, gc, h1.bl hb, h2.bl hb, getc hb h3, h4.bl hb⟩, h5.keep (Keeps.below hb)⟩
theorem ends_bd {lo hi : Int} : ∀ (l : List Int) (a b : Int), lo ≤ a → a ≤ b → b ≤ hi → (∀ x ∈ l, lo ≤ x ∧ x ≤ hi) → lo ≤ (ends a b l).1 ∧ (ends a b l).1 ≤ (ends a b l).2 ∧ (ends a b l).2 ≤ hi := by
 intro l
 induction l with
 | nil => intro a b h1 h2 h3 _; exact ⟨h1, h2, h3⟩
 | cons x l ih =>
  intro a b h1 h2 h3 hx
  have := hx x List.mem_cons_self
  exact ih (min a x) (max b x) (by omega) (by omega) (by omega) (fun y hy => hx y (List.mem_cons_of_mem _ hy))
theorem endsOf_bd {lo hi : Int} {l : List Int} (hl : l ≠ []) (h : ∀ x ∈ l, lo ≤ x ∧ x ≤ hi) : lo ≤ (endsOf l).1 ∧ (endsOf l).1 ≤ (endsOf l).2 ∧ (endsOf l).2 ≤ hi := by
 cases l with
 | nil => exact absurd rfl hl
 | cons x l =>
  have := h x List.mem_cons_self
  exact ends_bd l x x this.1 (Int.le_refl _) this.2 (fun y hy => h y (List.mem_cons_of_mem _ hy))
theorem wide8_bd {h : Hall} {l : List Seen} {t : Nat} {a : Int} (hk : OkH h) (ht : t < h.tiles.length) (hne : twosL h l t ≠ []) (ha : 0 ≤ a ∧ a ≤ 40) : 0 ≤ (wide8 h l t a).1 ∧ (wide8 h l t a).1 ≤ (wide8 h l t a).2 ∧ (wide8 h l t a).2 ≤ 21300 := by
 unfold wide8 wideOf
 refine endsOf_bd (by simpa using hne) ?_
 intro x hx
 obtain ⟨p, hp, rfl⟩ := List.mem_map.1 hx
 obtain ⟨h1, h2, h3, h4⟩ := twos_bd hk ht hp
 have m1 : 0 ≤ p.2 * a := Int.mul_nonneg h3 ha.1
 have m2 : p.2 * a ≤ 30 * 40 := Int.mul_le_mul h4 ha.2 ha.1 (by decide)
 omega
theorem agree_ne {h : Hall} {l : List Seen} (hag : agree8 h l = true) {t : Nat} (ht : t < h.tiles.length) : twosL h l t ≠ [] := by
 unfold agree8 at hag
 rw [List.all_eq_true] at hag
 have := hag t (List.mem_range.2 ht)
 intro e
 rw [e] at this
 cases this
theorem atUpto_succ {h : Hall} {l : List Seen} {row : Nat} {tl : List Int} {a : Int} {k : Nat} {i : Int} (hx : tl[k]? = some i) :
  atUpto h l row tl a (k + 1) = ((atUpto h l row tl a k).1 - (wide8 h l i.toNat a).2, (atUpto h l row tl a k).2 - (wide8 h l i.toNat a).1) := by
 unfold atUpto; rw [take_snoc_get hx, List.foldl_append]; rfl
theorem rowE_zero {nt : Nat} {l : List RowT} {k : Nat} {a z y : Int} (h : l[k]? = some ⟨a, z, y⟩) (e : rowE nt l k = 0) : 0 ≤ a ∧ a ≤ 200000 ∧ 0 ≤ z ∧ z ≤ 160 ∧ 1 ≤ y ∧ y ≤ nt := by
 unfold rowE at e
 rw [getD_of h] at e
 dsimp only at e
 split at e
 ·cases e
 rename_i g
 simp [inB] at g
 omega
set_option maxRecDepth 100000 in
set_option maxHeartbeats 1000000 in
theorem at_any {S : Foot} {A B C T : Option Addr} {n ca m cb q cc k c gh row a : Nat} {h : Hall} {l : List Seen} {tl : List Int} (w : World) (H : HBox w gh A n ca B m cb C q cc h l) (hk : OkH h) (hag : agree8 h l = true)
  (hr : row < m) (ht : Ints S w T k tl) (hk8 : k ≤ 8) (hT : ∀ i ∈ tl, 0 ≤ i ∧ i < n) (ha : a ≤ 40) :
  Calls Tryz.prog 66 #[.pointer (some ⟨gh, 0, none⟩), .int .i64 row, .slice T k c, .int .i64 a] w fun e w' =>
   e = .returned (.agg #[.int .i64 (at8 h l row tl a).1, .int .i64 (at8 h l row tl a).2]) ∧ Below w.heap.size w w' := by
 obtain ⟨⟨gm, gr, gc, MH, MR, c2, MM⟩, hs⟩ := H
 have Hn := Lib.hid hs.ts.len
 have Hm := Lib.hid hs.rs.len
 have Hk := Lib.hid ht.len
 obtain ⟨b, off, fr, sw, pl, rfl, hbb, r0, r1, r2, Hx⟩ := RowTs.get hs.rs hr
 have hre := hk.row (k := row) (by rw [Hm.out]; exact hr)
 obtain ⟨f1, f2, f3, f4, f5, f6⟩ := rowE_zero Hx.out hre
 have hlm := hs.rs.le
 have hln := hs.ts.le
 have hgh := MH.lt
 have m4 := MH.cell 4
 have m6 := MH.cell 6
 have hri : (row : Int) < m := by omega
 have hm1 : 0 ≤ sw * (a : Int) := Int.mul_nonneg f3 (by omega)
 have hm2 : sw * (a : Int) ≤ 160 * 40 := Int.mul_le_mul f4 (by omega) (by omega) (by decide)
 have hx1 : IntKind.i64.wrap (sw * (a : Int)) = sw * (a : Int) := by rw [IntKind.wrap_i64]; omega
 obtain ⟨nn, hnn⟩ : ∃ nn : Int, fr + sw * (a : Int) = nn := ⟨_, rfl⟩
 have hx2 : IntKind.i64.wrap (fr + sw * (a : Int)) = nn := by rw [hnn, IntKind.wrap_i64]; omega
 have hnb : 0 ≤ nn ∧ nn ≤ 206400 := by omega
 have HN : Hid (atUpto h l row tl a 0 = (nn, nn)) := by
  unfold atUpto
  rw [Hid, getD_of Hx.out, ← hnn]; rfl
 have HAG := Lib.hid hag
 have HKK := Lib.hid hk
 have HT := Lib.hid hT
 clear hnn hre MR c2 r2 hag hk hT
 go_enter Tryz.func66, Tryz.ntmps66
 go_wp2_with fail
 go_quiet (fail)
 clear r0 r1 m4 hx1 hx2 hm1 hm2
 obtain ⟨Wq, hWq⟩ : ∃ Wq, (w.alloc (.cells #[.int .i64 0, .int .i64 0] 23)).drewN nq = Wq := ⟨_, rfl⟩
 have bq : Below w.heap.size w Wq := by rw [← hWq]; exact bl_drewN (bl_alloc (Below.refl _ _) _ (Nat.le_refl _)) _
 have sq : Wq.heap.size = w.heap.size + 1 := by rw [← hWq]; simp
 have R8 : Blk Wq w.heap.size 23 #[.int .i64 0, .int .i64 0] := by rw [← hWq]; exact (Blk.new _ _ _ rfl).drewN _
 rw [hWq]
 clear hWq
 have HSQ := Lib.hid sq
 clear sq
 go_wp2_with fail
 obtain ⟨gg, hgg⟩ : ∃ gg, Wq.heap.size = gg := ⟨_, rfl⟩
 obtain ⟨Wl, hWl⟩ : ∃ Wl, Wq.alloc (.cells #[.int .i64 nn, .int .i64 nn] 23) = Wl := ⟨_, rfl⟩
 have RG : Blk Wl gg 23 #[.int .i64 nn, .int .i64 nn] := by rw [← hWl]; exact Blk.new _ _ _ hgg.symm
 have RE : Blk Wl w.heap.size 23 #[.int .i64 0, .int .i64 0] := by rw [← hWl]; exact R8.alloc _
 have bl : Below w.heap.size w Wl := by rw [← hWl]; exact bl_alloc bq _ (Nat.le_refl _)
 have hg8 : w.heap.size < gg := by have := HSQ.out; omega
 rw [hWl, hgg]
 clear hWl hgg R8 bq m6
 have HBL := Lib.hid bl
 clear bl
 go_loopw [40] (fun i' wr => ∃ (j : Nat) (lo hi : Int), i' = .int .i64 j ∧ j ≤ k ∧ -(21300 * (j : Int)) ≤ lo ∧ lo ≤ hi ∧ hi ≤ 206400 ∧ Hid (atUpto h l row tl a j = (lo, hi)) ∧ Hid (Kept (fun x => x = gg) Wl wr) ∧ Hid (Blk wr gg 23 #[.int .i64 lo, .int .i64 hi])) (fun i' _ => k - (intOf i').toNat)
 case atStart => exact ⟨0, nn, nn, rfl, Nat.zero_le _, by omega, by omega, by omega, HN, Kept.refl _ _, RG⟩
 case round =>
  obtain ⟨j, lo, hi, rfl, hj, hb1, hb2, hb3, HA, HK, HB⟩ := hrel
  have hBl : Below w.heap.size w wr := HBL.out.trans (HK.out.below (B := w.heap.size) HBL.out.size (fun x hx => by omega))
  by_cases hlt : j < k
  ·have hji : (j : Int) < k := by omega
   have htr := ht.keep IntR.good (Keeps.below hBl)
   obtain ⟨bT, oT, x, rfl, hcell, Hxi⟩ := Ints.get htr hlt
   obtain ⟨hx0, hxn⟩ := HT.out x (List.mem_of_getElem? Hxi.out)
   obtain ⟨t, rfl⟩ := Int.eq_ofNat_of_zero_le hx0
   have htn : t < n := by omega
   have htl : t < h.tiles.length := by rw [Hn.out]; exact htn
   obtain ⟨v1, v2, hv⟩ : ∃ v1 v2, wide8 h l t a = (v1, v2) := ⟨_, _, rfl⟩
   have hwb := wide8_bd HKK.out htl (agree_ne HAG.out htl) (a := (a : Int)) (by omega)
   rw [hv] at hwb
   dsimp only at hwb
   have hlk := (MM.bl hBl).look (P := Tryz.prog) Tryz.underlying137 Tryz.underlying3 (knownV_get h l htn)
   have hix : ∀ W, (Instr.index 136 (wideV h l t) (.int .i64 a)).run Tryz.prog W = .ok (.agg #[.int .i64 v1, .int .i64 v2]) W := fun W => by
    have := run_index_spans (P := Tryz.prog) Tryz.underlying136 ⟨_, Tryz.underlying23⟩ (by kernel_rfl) (fun a => wide8 h l t a) (i := a) (by omega) W
    rw [hv] at this
    exact this
   have HA1 : Hid (atUpto h l row tl a (j + 1) = (lo - v2, hi - v1)) := by rw [Hid, atUpto_succ Hxi.out, HA.out]; simp only [Int.toNat_natCast, hv]
   have m6 := (MH.bl hBl).cell 6
   have q0 := HB.out.cell 0
   have q1 := HB.out.cell 1
   have fq0 := HB.out.frozen 0
   have fq1 := HB.out.frozen 1
   have hggl := HB.out.lt
   have hghl : gh < wr.heap.size := (MH.bl hBl).lt
   clear hv hx0 htr
   go_wp2_with fail
   go_roundw
   case rel => exact ⟨j + 1, lo - v2, hi - v1, by go_num, by omega, by omega, by omega, by omega, HA1, ((HK.out.trans (Kept.setCell _ _ _ rfl)).trans (Kept.setCell _ _ _ rfl)).trans (Kept.alloc _ _ _), (HB.out.set2 _ _).alloc _⟩
   case measure => simp [intOf]; omega
  obtain rfl : j = k := by omega
  have hR8 : Blk wr w.heap.size 23 #[.int .i64 0, .int .i64 0] := (HK.out.block _ RE.lt (by omega)).trans RE
  have q0 := HB.out.cell 0
  have q1 := HB.out.cell 1
  have z0 := hR8.cell 0
  have z1 := hR8.cell 1
  have fz0 := hR8.frozen 0
  have fz1 := hR8.frozen 1
  have hHR := Lib.hid hR8
  clear hR8
  go_wp2_with fail
  exact bodyPost_ret (ret_span1 rfl rfl (hHR.out.set2 _ _).c0 (hHR.out.set2 _ _).c1) rfl ⟨by rw [at8, Hk.out, HA.out], bl_set (bl_set hBl (Nat.le_refl _) _) (Nat.le_refl _) _⟩
open Go.RowKit Go.Shelf
set_option maxRecDepth 100000 in
set_option maxHeartbeats 1000000 in
theorem gap_any {S : Foot} {A B C T : Option Addr} {n ca m cb q cc k c gh row : Nat} {h : Hall} {l : List Seen} {tl : List Int} (w : World) (H : HBox w gh A n ca B m cb C q cc h l) (hk : OkH h) (hag : agree8 h l = true)
  (hr : row < m) (ht : Ints S w T k tl) (hk8 : k ≤ 8) (hT : ∀ i ∈ tl, 0 ≤ i ∧ i < n) :
  Calls Tryz.prog 64 #[.pointer (some ⟨gh, 0, none⟩), .int .i64 row, .slice T k c] w fun e w' =>
   e = .returned (.agg #[.int .i64 (gap8 h l row tl).1, .int .i64 (gap8 h l row tl).2]) ∧ Below w.heap.size w w' := by
 obtain ⟨g1, g2, g3, g4⟩ := hk.air
 obtain ⟨a0, ha0⟩ : ∃ a0 : Nat, h.alo = a0 := ⟨h.alo.toNat, by omega⟩
 obtain ⟨a1, ha1⟩ : ∃ a1 : Nat, h.ahi = a1 := ⟨h.ahi.toNat, by omega⟩
 have ha01 : a0 ≤ a1 ∧ a1 ≤ 40 := by omega
 obtain ⟨d, hd⟩ : ∃ d : Nat, a1 = a0 + d := ⟨a1 - a0, by omega⟩
 have hcall : Hid (∀ (W : World) (a : Nat), Below w.heap.size w W → a ≤ 40 → Calls Tryz.prog 66 #[.pointer (some ⟨gh, 0, none⟩), .int .i64 row, .slice T k c, .int .i64 a] W fun e w' =>
   e = .returned (.agg #[.int .i64 (at8 h l row tl a).1, .int .i64 (at8 h l row tl a).2]) ∧ Below W.heap.size W w') :=
  fun W a hb ha => at_any W (H.keep hb) hk hag hr (ht.keep IntR.good (Keeps.below hb)) hk8 hT ha
 have hcell : Hid (∀ W, Below w.heap.size w W → W.cell? ⟨gh, 0, none⟩ = some (.int .i64 a0) ∧ W.cell? ⟨gh, 1, none⟩ = some (.int .i64 a1)) := fun W hb => by
  obtain ⟨⟨gm, gr, gc, MH, _⟩, _⟩ := H
  exact ⟨by rw [← ha0]; exact (MH.bl hb).cell 0, by rw [← ha1]; exact (MH.bl hb).cell 1⟩
 have hghl : gh < w.heap.size := by obtain ⟨⟨gm, gr, gc, MH, _⟩, _⟩ := H; exact MH.lt
 have H0 : Hid (gapUpto h l row tl 0 = at8 h l row tl (a0 : Nat)) := by rw [Hid, gapUpto, ha0]
 have HS : Hid (∀ j : Nat, gapUpto h l row tl (j + 1) = (min (gapUpto h l row tl j).1 (at8 h l row tl ((a0 + 1 + j : Nat) : Int)).1, max (gapUpto h l row tl j).2 (at8 h l row tl ((a0 + 1 + j : Nat) : Int)).2)) := fun j => by
  rw [gapUpto, ha0]; rfl
 have HD : Hid (gap8 h l row tl = gapUpto h l row tl d) := by
  rw [Hid, gap8]; congr 1; omega
 have hw1 : IntKind.i64.wrap ((a1 : Int) - a0) = (d : Int) := by rw [IntKind.wrap_i64]; omega
 have hw2 : IntKind.i64.wrap ((a0 : Int) + 1) = (a0 : Int) + 1 := by rw [IntKind.wrap_i64]; omega
 have had : a0 + d ≤ 40 := by omega
 have hlk := ht.le
 clear H hk hag ht ha0 ha1 hd g1 g2 g3 g4 hT
 go_enter Tryz.func64, Tryz.ntmps64
 have hb0 : Below w.heap.size w (w.alloc (.cells #[.int .i64 0, .int .i64 0] 23)) := bl_alloc (Below.refl _ _) _ (Nat.le_refl _)
 obtain ⟨c0, _⟩ := hcell.out _ hb0
 go_wp2_with fail
 refine (hcall.out _ _ hb0 (by omega)).mono ?_
 rintro e w1 ⟨rfl, hb1⟩
 obtain ⟨x0, x1, hx⟩ : ∃ x0 x1, at8 h l row tl (a0 : Nat) = (x0, x1) := ⟨_, _, rfl⟩
 have R6 : Blk w1 w.heap.size 23 #[.int .i64 0, .int .i64 0] := (Blk.new _ _ _ rfl).bl hb1
 have hB1 : Below w.heap.size w w1 := bl_call hb0 hb1 (Nat.le_refl _)
 have hs1 : w.heap.size < w1.heap.size := R6.lt
 rw [hx]
 have HX : Hid (gapUpto h l row tl 0 = (x0, x1)) := by rw [Hid, H0.out, hx]
 clear hx c0 hb0 hb1 H0
 go_wp2_with fail
 obtain ⟨gg, hgg⟩ : ∃ gg, w1.heap.size = gg := ⟨_, rfl⟩
 obtain ⟨Wa, hWa⟩ : ∃ Wa, w1.alloc (.cells #[.int .i64 x0, .int .i64 x1] 23) = Wa := ⟨_, rfl⟩
 have ba : Below w.heap.size w Wa := by rw [← hWa]; exact bl_alloc hB1 _ (Nat.le_refl _)
 obtain ⟨c0, c1⟩ := hcell.out Wa ba
 rw [hWa, hgg]
 go_quiet (fail)
 go_wp2_with fail
 obtain ⟨Wl, hWl⟩ : ∃ Wl, Wa.drewN nq = Wl := ⟨_, rfl⟩
 have RG : Blk Wl gg 23 #[.int .i64 x0, .int .i64 x1] := by rw [← hWl, ← hWa]; exact (Blk.new _ _ _ hgg.symm).drewN _
 have R6' : Blk Wl w.heap.size 23 #[.int .i64 0, .int .i64 0] := by rw [← hWl, ← hWa]; exact (R6.alloc _).drewN _
 have bl : Below w.heap.size w Wl := by rw [← hWl]; exact bl_drewN ba _
 have hgl : w.heap.size < gg := by omega
 rw [hWl]
 clear hWl hWa ba c0 c1 R6 hB1 hs1 hgg
 have HBL := Lib.hid bl
 have HRG := Lib.hid RG
 have HR6 := Lib.hid R6'
 clear bl RG R6'
 go_loopw [8, 9, 33] (fun _ _ i' wr => ∃ (j : Nat) (y0 y1 : Int), i' = .int .i64 j ∧ j ≤ d ∧ Hid (gapUpto h l row tl j = (y0, y1)) ∧ Hid (Kept (fun x => x = gg) Wl wr) ∧ Hid (Blk wr gg 23 #[.int .i64 y0, .int .i64 y1])) (fun _ _ i' _ => d - (intOf i').toNat)
 case atStart => exact ⟨0, x0, x1, rfl, Nat.zero_le _, HX, Kept.refl _ _, HRG.out⟩
 case round =>
  obtain ⟨j, y0, y1, rfl, hj, HG, HK, HB⟩ := hrel
  have hBl : Below w.heap.size w wr := HBL.out.trans (HK.out.below (B := w.heap.size) HBL.out.size (fun x hx => by omega))
  by_cases hlt : j < d
  ·have hji : (j : Int) < d := by omega
   obtain ⟨c0, _⟩ := hcell.out wr hBl
   have hghr : gh < wr.heap.size := by have := hBl.size; omega
   have hw3 : IntKind.i64.wrap ((a0 : Int) + 1 + (j : Int)) = ((a0 + 1 + j : Nat) : Int) := by rw [IntKind.wrap_i64]; omega
   go_wp2_with fail
   rw [show (a0 : Int) + 1 + (j : Int) = ((a0 + 1 + j : Nat) : Int) by omega]
   refine (hcall.out wr (a0 + 1 + j) hBl (by omega)).mono ?_
   rintro e w2 ⟨rfl, hb2⟩
   obtain ⟨z0, z1, hz⟩ : ∃ z0 z1, at8 h l row tl ((a0 + 1 + j : Nat) : Int) = (z0, z1) := ⟨_, _, rfl⟩
   have HG2 : Hid (gapUpto h l row tl (j + 1) = (min y0 z0, max y1 z1)) := by rw [Hid, HS.out, HG.out, hz]
   rw [hz]
   have hBg := HB.out.bl hb2
   have q0 := hBg.cell 0
   have q1 := hBg.cell 1
   have fq0 := hBg.frozen 0
   have fq1 := hBg.frozen 1
   have hggl := hBg.lt
   have hmin := min_if y0 z0
   have hmax := max_if y1 z1
   have HBG := Lib.hid hBg
   have HK2 : Hid (Kept (fun x => x = gg) Wl w2) := HK.out.trans (Kept.of_bl hb2)
   clear hz c0 hw3 hb2 hBg
   go_wp2
   go_roundw
   case rel => exact ⟨j + 1, min y0 z0, max y1 z1, by go_num, by omega, HG2, ((HK2.out.trans (Kept.setCell _ _ _ rfl)).trans (Kept.setCell _ _ _ rfl)).trans (Kept.alloc _ _ _), (HBG.out.set2 _ _).alloc _⟩
   case measure => simp [intOf]; omega
  obtain rfl : j = d := by omega
  have hR6 : Blk wr w.heap.size 23 #[.int .i64 0, .int .i64 0] := (HK.out.block _ HR6.out.lt (by omega)).trans HR6.out
  have q0 := HB.out.cell 0
  have q1 := HB.out.cell 1
  have z0 := hR6.cell 0
  have z1 := hR6.cell 1
  have fz0 := hR6.frozen 0
  have fz1 := hR6.frozen 1
  have hHR := Lib.hid hR6
  clear hR6
  go_wp2_with fail
  exact bodyPost_ret (ret_span1 rfl rfl (hHR.out.set2 _ _).c0 (hHR.out.set2 _ _).c1) rfl ⟨by rw [HD.out, HG.out], bl_set (bl_set hBl (Nat.le_refl _) _) (Nat.le_refl _) _⟩
open Go.RowKit Go.Shelf
theorem eg_r1 : Enters Tryz.prog 73 := enters_of Tryz.func73 (by kernel_rfl) rfl
theorem eg_r2 : Enters Tryz.prog 74 := enters_of Tryz.func74 (by kernel_rfl) rfl
theorem rule1_any (lo hi : Int) (w : World) : Calls Tryz.prog 73 #[.agg #[.int .i64 lo, .int .i64 hi]] w fun e w' => e = .returned (.bool (decide (lo < 0))) ∧ Below w.heap.size w w' := by
 go_enter Tryz.func73, Tryz.ntmps73
 go_wp2
 go_ret
 exact ⟨rfl, bl_alloc (Below.refl _ _) _ (Nat.le_refl _)⟩
theorem rule2_any (lo hi most : Int) (gc : Nat) (w : World) (hc : w.cell? ⟨gc, 2, none⟩ = some (.int .i64 most)) : Calls Tryz.prog 74 #[.agg #[.int .i64 lo, .int .i64 hi], .pointer (some ⟨gc, 0, none⟩)] w fun e w' => e = .returned (.bool (decide (most < hi))) ∧ Below w.heap.size w w' := by
 have h1 := oldc (o := .cells #[.int .i64 lo, .int .i64 hi] 23) hc
 go_enter Tryz.func74, Tryz.ntmps74
 go_wp2
 go_ret
 exact ⟨rfl, bl_alloc (Below.refl _ _) _ (Nat.le_refl _)⟩
set_option maxHeartbeats 1000000 in
theorem why_any {A B C : Option Addr} {n ca m cb q cc gh : Nat} {h : Hall} {l : List Seen} (lo hi : Int) (w : World) (H : HBox w gh A n ca B m cb C q cc h l) :
  Calls Tryz.prog 65 #[.pointer (some ⟨gh, 0, none⟩), .agg #[.int .i64 lo, .int .i64 hi]] w fun e w' => e = .returned (.int .i64 (wrong8 h.most (lo, hi))) ∧ Below w.heap.size w w' := by
 obtain ⟨⟨gm, gr, gc, MH, MR, c2, MM⟩, hs⟩ := H
 have HW : Hid (wrong8 h.most (lo, hi) = if lo < 0 then 1 else if hi > h.most then 2 else 0) := rfl
 have eg1 : ∀ args w, (callFunc 73 args).run Tryz.prog w = .ok (.enter 73 args) w := eg_r1
 have eg2 : ∀ args w, (callFunc 74 args).run Tryz.prog w = .ok (.enter 74 args) w := eg_r2
 have HE1 := Lib.hid eg1
 have HE2 := Lib.hid eg2
 obtain ⟨w0, hw0⟩ : ∃ w0, w.alloc (.cells #[.int .i64 lo, .int .i64 hi] 23) = w0 := ⟨_, rfl⟩
 have b0 : Below w.heap.size w w0 := by rw [← hw0]; exact bl_alloc (Below.refl _ _) _ (Nat.le_refl _)
 have X0 : Blk w0 w.heap.size 23 #[.int .i64 lo, .int .i64 hi] := by rw [← hw0]; exact Blk.new _ _ _ rfl
 have hcell : Hid (∀ W, Below w0.heap.size w0 W → (W.cell? ⟨gr, 0, none⟩ = some (.int .i64 1) ∧ W.cell? ⟨gr, 1, none⟩ = some (.func (.func 73) #[] #[]) ∧ W.cell? ⟨gr, 2, none⟩ = some (.int .i64 2) ∧ W.cell? ⟨gr, 3, none⟩ = some (.func (.func 74) #[] #[.pointer (some ⟨gc, 0, none⟩)])) ∧ (W.cell? ⟨gc, 2, none⟩ = some (.int .i64 h.most) ∧ W.cell? ⟨w.heap.size, 0, none⟩ = some (.int .i64 lo) ∧ W.cell? ⟨w.heap.size, 1, none⟩ = some (.int .i64 hi))) := fun W hb => by
  have hM := (MR.bl b0).bl hb
  have hX := X0.bl hb
  exact ⟨⟨hM.cell 0, hM.cell 1, hM.cell 2, hM.cell 3⟩, getc hb (getc b0 c2), hX.cell 0, hX.cell 1⟩
 have m7 := (MH.bl b0).cell 7
 have hgh := (MH.bl b0).lt
 have hgr := (MR.bl b0).lt
 have hxs := X0.lt
 have HW0 := Lib.hid hw0
 have HB0 := Lib.hid b0
 clear eg1 eg2 b0 MH MR c2 MM hs X0
 go_enter Tryz.func65, Tryz.ntmps65
 go_wp2_with fail
 clear m7 hw0
 go_loopw [4, 6, 12] (fun u4 _ i' wr => ∃ j : Nat, i' = .int .i64 j ∧ j ≤ 2 ∧ u4 = .int .i64 0 ∧ Hid (Below w0.heap.size w0 wr) ∧ Hid (0 < j → ¬ lo < 0) ∧ Hid (1 < j → ¬ hi > h.most)) (fun _ _ i' _ => 2 - (intOf i').toNat)
 case atStart => exact ⟨0, rfl, by omega, rfl, Below.refl _ _, fun h => by omega, fun h => by omega⟩
 case round =>
  obtain ⟨j, rfl, hj, rfl, HB, H1, H2⟩ := hrel
  obtain ⟨⟨k0, k1, k2, k3⟩, kc, kx0, kx1⟩ := hcell.out wr HB.out
  have hxr : w.heap.size < wr.heap.size := by have := HB.out.size; omega
  have hBt : Below w.heap.size w wr := HB0.out.trans (HB.out.mono HB0.out.size)
  by_cases hj0 : j = 0
  ·subst hj0
   have eg1 := HE1.out
   cases hd : decide (lo < 0)
   ·have HD := Lib.hid (of_decide_eq_false hd)
    have HDB := Lib.hid hd
    clear hd k2 k3
    go_wp2_with fail
    refine (rule1_any lo hi _).mono ?_
    rintro e w2 ⟨rfl, hb2⟩
    rw [HDB.out]
    have HB2 : Hid (Below w0.heap.size w0 w2) := bl_call (bl_alloc HB.out _ (Nat.le_refl _)) hb2 (Nat.le_refl _)
    clear hb2 k0 k1 kc kx0 kx1
    go_wp2_with fail
    go_roundw
    case rel => exact ⟨1, rfl, by omega, rfl, HB2.out, fun _ => by have := HD.out; omega, fun h => by omega⟩
    case measure => simp [intOf]
   have HD := Lib.hid (of_decide_eq_true hd)
   have HDB := Lib.hid hd
   clear hd k2 k3
   go_wp2_with fail
   refine (rule1_any lo hi _).mono ?_
   rintro e w2 ⟨rfl, hb2⟩
   rw [HDB.out]
   have hc := getc hb2 (newc (w := wr) (cs := #[.int .i64 1, .func (.func 73) #[] #[]]) (t := 163) (i := 0) rfl rfl)
   have HB2 : Hid (Below w.heap.size w w2) := bl_call (bl_alloc hBt _ (Nat.le_refl _)) hb2 (Nat.le_refl _)
   have hl2 := hb2.size
   clear k0 k1 kc kx0 kx1
   go_wp2_with fail
   go_ret
   exact ⟨by rw [HW.out, if_pos HD.out]; rfl, HB2.out⟩
  by_cases hj1 : j = 1
  ·subst hj1
   have eg2 := HE2.out
   cases hd : decide (h.most < hi)
   ·have HD := Lib.hid (of_decide_eq_false hd)
    have HDB := Lib.hid hd
    have kc' := oldc (o := .cells #[.int .i64 2, .func (.func 74) #[] #[.pointer (some ⟨gc, 0, none⟩)]] 163) kc
    clear hd k0 k1
    go_wp2_with fail
    refine (rule2_any lo hi h.most gc _ kc').mono ?_
    rintro e w2 ⟨rfl, hb2⟩
    rw [HDB.out]
    have HB2 : Hid (Below w0.heap.size w0 w2) := bl_call (bl_alloc HB.out _ (Nat.le_refl _)) hb2 (Nat.le_refl _)
    clear hb2 k2 k3 kc kc' kx0 kx1
    go_wp2_with fail
    go_roundw
    case rel => exact ⟨2, rfl, by omega, rfl, HB2.out, fun _ => by have := H1.out (by omega); omega, fun _ => by have := HD.out; omega⟩
    case measure => simp [intOf]
   have HD := Lib.hid (of_decide_eq_true hd)
   have HDB := Lib.hid hd
   have kc' := oldc (o := .cells #[.int .i64 2, .func (.func 74) #[] #[.pointer (some ⟨gc, 0, none⟩)]] 163) kc
   clear hd k0 k1
   go_wp2_with fail
   refine (rule2_any lo hi h.most gc _ kc').mono ?_
   rintro e w2 ⟨rfl, hb2⟩
   rw [HDB.out]
   have hc := getc hb2 (newc (w := wr) (cs := #[.int .i64 2, .func (.func 74) #[] #[.pointer (some ⟨gc, 0, none⟩)]]) (t := 163) (i := 0) rfl rfl)
   have HB2 : Hid (Below w.heap.size w w2) := bl_call (bl_alloc hBt _ (Nat.le_refl _)) hb2 (Nat.le_refl _)
   have hl2 := hb2.size
   clear k2 k3 kc kc' kx0 kx1
   go_wp2_with fail
   go_ret
   exact ⟨by rw [HW.out, if_neg (by have := H1.out (by omega); omega), if_pos HD.out]; rfl, HB2.out⟩
  obtain rfl : j = 2 := by omega
  have HBt := Lib.hid hBt
  clear k0 k1 k2 k3 kc kx0 kx1 hBt
  go_wp2_with fail
  go_ret
  exact ⟨by rw [HW.out, if_neg (by have := H1.out (by omega); omega), if_neg (by have := H2.out (by omega); omega)]; rfl, HBt.out⟩
end Go.Proofs.YtdbfincinjoppaaGreat
