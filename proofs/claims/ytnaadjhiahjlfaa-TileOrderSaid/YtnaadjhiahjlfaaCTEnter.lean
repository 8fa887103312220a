/- Walks: a hall that is looked at. -/
import Derived.Test.YtnaadjhiahjlfaaCTEnter2
set_option linter.unusedVariables false
set_option linter.unusedSimpArgs false
set_option linter.all false
namespace Go.Proofs.Ytnaadjhiahjlfaa
open Go.RowKit Go.Shelf
attribute [local go_sem] Oper.semAt_some

/-- a hall that is looked at, as it lies in memory -/
structure HBox (w : World) (gh : Nat) (A : Option Addr) (n ca : Nat) (B : Option Addr) (m cb : Nat) (C : Option Addr) (q cc : Nat) (h : Hall) (l : List Seen) : Prop where
  ex : ∃ gm gr gc, Blk w gh 166 #[.int .i64 h.alo, .int .i64 h.ahi, .int .i64 h.most, .slice A n ca, .slice B m cb, .slice C q cc, .map (some gm), .slice (some ⟨gr, 0, none⟩) 2 2] ∧
    Blk w gr 176 #[.int .i64 1, .func (.func 103) #[] #[], .int .i64 2, .func (.func 104) #[] #[.pointer (some ⟨gc, 0, none⟩)]] ∧ w.cell? ⟨gc, 2, none⟩ = some (.int .i64 h.most) ∧ MapOf w gm (knownV h l n)
  hs : HallAt (fun _ => True) w A n B m h

/-- what enter answers -/
def EnterOk (w0 : World) (A : Option Addr) (n ca : Nat) (B : Option Addr) (m cb : Nat) (C : Option Addr) (q cc : Nat) (h : Hall) (l : List Seen) (e : Ending) (w' : World) : Prop :=
  Below w0.heap.size w0 w' ∧ ∃ p ag, e = .returned (.tuple #[.pointer p, .bool ag, .int .i64 (seen8 h l).2]) ∧ ((seen8 h l).2 = 0 → ag = agree8 h l) ∧ ((seen8 h l).2 = 0 → agree8 h l = true → ∃ gh, p = some ⟨gh, 0, none⟩ ∧ HBox w' gh A n ca B m cb C q cc h l)

set_option maxRecDepth 100000 in
set_option maxHeartbeats 4000000 in
theorem tenter_any {A B C : Option Addr} {n ca m cb q cc : Nat} {h : Hall} {l : List Seen} {alo ahi most : Int} (w : World) (g : HallAt (fun _ => True) w A n B m h) (gs : Seens (fun _ => True) w C q l) (hca : n ≤ ca) (h1 : h.alo = alo) (h2 : h.ahi = ahi) (h3 : h.most = most) :
    Calls Try.prog 60 #[.agg #[.int .i64 alo, .int .i64 ahi, .int .i64 most, .slice A n ca, .slice B m cb], .slice C q cc] w (EnterOk w A n ca B m cb C q cc h l) := by
  obtain ⟨W, hW⟩ : ∃ W, w.alloc (.cells #[.int .i64 alo, .int .i64 ahi, .int .i64 most, .slice A n ca, .slice B m cb] 27) = W := ⟨_, rfl⟩
  have X : Blk W w.heap.size 27 #[.int .i64 alo, .int .i64 ahi, .int .i64 most, .slice A n ca, .slice B m cb] := by rw [← hW]; exact Blk.new _ _ _ rfl
  have hc : HallAt (fun _ => True) W A n B m h := by rw [← hW]; exact g.keep (Keeps.alloc _ _)
  have hs : Seens (fun _ => True) W C q l := by rw [← hW]; exact gs.keep SeenR.good (Keeps.alloc _ _)
  have hBW : Below w.heap.size w W := by rw [← hW]; exact bl_alloc (Below.refl _ _) _ (Nat.le_refl _)
  have hWs : w.heap.size ≤ W.heap.size := hBW.size
  have HWs : Hid (w.heap.size + 1 = W.heap.size) := by rw [Hid, ← hW]; simp
  have HW := Lib.hid hW
  have Hn := Lib.hid hc.ts.len
  have Hq := Lib.hid hs.len
  have hlen := hc.ts.le
  have x0 : W.cell? ⟨w.heap.size, 0, none⟩ = some (.int .i64 alo) := X.cell 0
  have x1 : W.cell? ⟨w.heap.size, 1, none⟩ = some (.int .i64 ahi) := X.cell 1
  have x2 : W.cell? ⟨w.heap.size, 2, none⟩ = some (.int .i64 most) := X.cell 2
  have x3 : W.cell? ⟨w.heap.size, 3, none⟩ = some (.slice A n ca) := X.cell 3
  have x4 : W.cell? ⟨w.heap.size, 4, none⟩ = some (.slice B m cb) := X.cell 4
  clear hW g gs X
  refine (callsIn_wide (n := 1)).1 ?_
  refine callsIn_of_wp_marks Try.func60 rfl trivial ?_ rfl
  simp only [Try.ntmps60, List.size_toArray, List.length_cons, List.length_nil, Nat.reduceAdd, Nat.reduceSub, Array.replicate_succ, Array.replicate_zero, List.push_toArray, List.append_toArray, List.nil_append, List.cons_append]
  refine wpIn_wide.2 ?_
  go_wp2_with fail
  rw [HW.out]
  refine (tseen_any W hc hs hca h1 h2 h3).mono ?_
  rintro e W1 ⟨rfl, b1⟩
  by_cases he : (seen8 h l).2 = 0
  · have heb : ((seen8 h l).2 != 0) = false := by rw [he]; rfl
    obtain ⟨hc0, hl6, hse⟩ := seen_zero he
    have hokh := okH_of hc0
    have hsn : ∀ (k : Nat) (y : Seen), l[k]? = some y → 0 ≤ y.air ∧ y.air ≤ 40 := fun k y hy => (seen_one hy (hse k (of_getq hy))).2.1
    have HE := Lib.hid he
    obtain ⟨s1, hs1⟩ : ∃ s1, (seen8 h l).1 = s1 := ⟨_, rfl⟩
    rw [he, hs1]
    clear he hs1 hc0 hse
    have y0 := getc b1 x0
    have y1 := getc b1 x1
    have y2 := getc b1 x2
    have y3 := getc b1 x3
    have y4 := getc b1 x4
    have hmk := @run_makeMap Try.prog
    have hlw : w.heap.size < W1.heap.size := by have := b1.size; have := HWs.out; omega
    obtain ⟨W2, hW2⟩ : ∃ W2, ((W1.alloc (.map #[] 0)).alloc (.cells #[.int .i64 alo, .int .i64 ahi, .int .i64 most, .slice A n ca, .slice B m cb, .slice C q cc, .map (some W1.heap.size), .slice (some ⟨W1.heap.size + 1 + 1, 0, none⟩) 2 2] 166)).alloc (.cells #[.int .i64 1, .func (.func 103) #[] #[], .int .i64 2, .func (.func 104) #[] #[.pointer (some ⟨w.heap.size, 0, none⟩)]] 176) = W2 := ⟨_, rfl⟩
    have z3 : W2.cell? ⟨w.heap.size, 3, none⟩ = some (.slice A n ca) := by rw [← hW2]; exact oldc (oldc (oldc y3))
    go_wp2_with fail
    clear hmk
    have MH : Blk W2 (W1.heap.size + 1) 166 #[.int .i64 alo, .int .i64 ahi, .int .i64 most, .slice A n ca, .slice B m cb, .slice C q cc, .map (some W1.heap.size), .slice (some ⟨W1.heap.size + 1 + 1, 0, none⟩) 2 2] := by rw [← hW2]; exact (Blk.new _ _ _ (by simp)).alloc _
    have MR : Blk W2 (W1.heap.size + 1 + 1) 176 #[.int .i64 1, .func (.func 103) #[] #[], .int .i64 2, .func (.func 104) #[] #[.pointer (some ⟨w.heap.size, 0, none⟩)]] := by rw [← hW2]; exact Blk.new _ _ _ (by simp)
    have MM : MapOf W2 W1.heap.size [] := by rw [← hW2]; exact (((MapOf.new W1).bl (bl_alloc (Below.refl _ _) _ (Nat.le_refl _))).bl (bl_alloc (Below.refl _ _) _ (Nat.le_refl _)))
    obtain ⟨gr, hgr⟩ : ∃ gr, W1.heap.size + 1 + 1 = gr := ⟨_, rfl⟩
    obtain ⟨gh, hgh⟩ : ∃ gh, W1.heap.size + 1 = gh := ⟨_, rfl⟩
    obtain ⟨gm, hgm⟩ : ∃ gm, W1.heap.size = gm := ⟨_, rfl⟩
    have b2 : Below W.heap.size W W2 := by rw [← hW2]; exact bl_alloc (bl_alloc (bl_alloc b1 _ (Nat.le_refl _)) _ (Nat.le_refl _)) _ (Nat.le_refl _)
    have hsz2 : W2.heap.size = W1.heap.size + 1 + 1 + 1 := by rw [← hW2]; simp
    have z2 := getc b2 x2
    rw [hgr, hgh, hgm] at MH ⊢
    rw [hgr] at MR
    rw [hgm] at MM
    clear hW2 y0 y1 y2 y3 y4
    have hsz2a : gr < W2.heap.size := by omega
    have hWgm : W.heap.size ≤ gm := by have := b1.size; omega
    have hgmh : gm < gh := by omega
    have hghr : gh < gr := by omega
    clear hsz2 hgm hgh hgr
    have hb2 : HallAt (fun k => True ∧ k < W.heap.size) W2 A n B m h := hc.bound.keep (Keeps.below b2)
    have sb2 : Seens (fun k => True ∧ k < W.heap.size) W2 C q l := (hs.bound SeenR.good).keep SeenR.good (Keeps.below b2)
    refine (wpIn_wide (n := 1)).1 ?_
    have hKeep : ∀ w' : World, Kept (fun j => j = gm ∨ W2.heap.size ≤ j) W2 w' → Below w.heap.size w w' := fun _ hK => hBW.trans ((b2.trans (hK.below (B := W.heap.size) b2.size (fun k h => by have := b2.size; omega))).mono hWs)
    have hAG : (∀ t, t < n → twosL h l t ≠ []) → agree8 h l = true := fun hh => by
      unfold agree8
      rw [List.all_eq_true]
      intro t ht
      have := hh t (by rw [← Hn.out]; exact List.mem_range.1 ht)
      simpa using this
    have hAN : (∃ t, t < n ∧ twosL h l t = []) → agree8 h l = false := fun ⟨t, ht, he⟩ => by
      unfold agree8
      rw [← Bool.not_eq_true, List.all_eq_true]
      intro hh
      have := hh t (by rw [List.mem_range, Hn.out]; exact ht)
      rw [he] at this
      cases this
    have HFIN : Hid (∀ (ds : List Nat) (w' w9 : World), DefersAt ds W2.heap.size w' → Kept (fun j => j = gm ∨ W2.heap.size ≤ j) W2 w' → Kept (fun k => k ∈ ds) w' w9 → Kept (fun j => j = gm ∨ W2.heap.size ≤ j) W2 w9) :=
      fun ds w' w9 hD hK hK9 => hK.trans (hK9.mono fun k _ hk => .inr (hD.2 k hk).1)
    have hghlt := MH.lt
    have HBX : Hid (∀ w9, Kept (fun j => j = gm ∨ W2.heap.size ≤ j) W2 w9 → MapOf w9 gm (knownV h l n) → HBox w9 gh A n ca B m cb C q cc h l) := fun w9 hK hM => by
      refine ⟨⟨gm, gr, w.heap.size, ?_, (hK.block _ hsz2a (by omega)).trans MR, ?_, hM⟩, (hb2.keep (hK.keeps (fun j hj e => by have := b2.size; omega))).mono (fun _ _ => trivial)⟩
      · rw [h1, h2, h3]; exact (hK.block _ hghlt (by omega)).trans MH
      · rw [h3]; exact hK.cell z2 (fun e => by have := b2.size; have := HWs.out; dsimp only at e; omega)
    have HAG := Lib.hid hAG
    have HAN := Lib.hid hAN
    have HKP := Lib.hid hKeep
    clear hAG hAN hKeep
    refine enter_loop (A := A) (B := B) (C := C) (n := n) (ca := ca) (m := m) (cb := cb) (q := q) (cc := cc) (h := h) (l := l) (gm := gm) (gh := gh) (B0 := W.heap.size) hokh hl6 hsn Hn.out hWgm hgmh MH MM hb2 sb2 _ _ _ _ _ _ _ _ _ _ _ _ _ _ _ _ _ _ _ _ _ _ _ _ _ _ _ _ _ _ _ _ _ _ _ _ _ _ _ _ _ _ _ _ _ _ _ _ _ _ _ _ _ _ _ _ _ _ _ _ _ _ _ _ _ _ _ _ _ _ _ _ _ _ _ _ _ _ _ _ _ _ _ _ _ ?hexit ?hret
    case hexit =>
      intro ds u w' hD hK hM hT
      have HD := Lib.hid hD
      have HK := Lib.hid hK
      have HM := Lib.hid hM
      have HT := Lib.hid hT
      clear hD hK hM hT
      gi_wp2_with fail
      go_wp2_with fail
      refine leaves_marks ds w' (fun D hD => (HD.out.2 D hD).2) HD.out.1 (fun w9 hK9 hs9 => ⟨.tuple #[.pointer (some ⟨gh, 0, none⟩), .bool true, .int .i64 0], by simp [results, Try.results60, go_sem], ?_⟩)
      have hK := HFIN.out ds w' w9 HD.out HK.out hK9
      refine ⟨HKP.out _ hK, some ⟨gh, 0, none⟩, true, by rw [HE.out], fun _ => (HAG.out HT.out).symm, fun _ _ => ⟨gh, rfl, ?_⟩⟩
      have hM9 : MapOf w9 gm (knownV h l n) := HM.out.at (hK9.block _ HM.out.lt (fun hm => by have := (HD.out.2 gm hm).1; have := MM.lt; omega))
      exact HBX.out w9 hK hM9
    case hret =>
      intro ds tmps w' hD hK hN hres
      refine leaves_marks ds w' (fun D hD' => (hD.2 D hD').2) hD.1 (fun w9 hK9 hs9 => ⟨_, hres w9, ?_⟩)
      refine ⟨HKP.out _ (HFIN.out ds w' w9 hD hK hK9), some ⟨gh, 0, none⟩, false, by rw [HE.out], fun _ => (HAN.out hN).symm, fun _ h => ?_⟩
      rw [HAN.out hN] at h
      cases h
  · have heb : ((seen8 h l).2 != 0) = true := by simpa using he
    go_wp2
    refine ⟨_, results_tmp3 rfl _ _ _, hBW.trans (b1.mono hWs), none, false, by simp [List.getD], fun h => absurd h he, fun h => absurd h he⟩

end Go.Proofs.Ytnaadjhiahjlfaa
