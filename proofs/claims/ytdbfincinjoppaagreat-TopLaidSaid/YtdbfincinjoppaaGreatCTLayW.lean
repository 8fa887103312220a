/- A part of the proof that TopLaid always answers true. -/
import Derived.Test.YtdbfincinjoppaaGreatCKTrueP
import Derived.Test.YtdbfincinjoppaaGreatCTLeast
import Derived.Test.YtdbfincinjoppaaGreatCTopQ
set_option linter.all false
namespace Go.Proofs.YtdbfincinjoppaaGreat
open Go.RowKit Go.Shelf
def KeptOwn (W0 : World) (m : Nat) (x : List (List Int) × Int) (v : Value) (Y : Foot) (A : World) : Prop := ∃ gO T cs, v = .slice (some ⟨gO, 0, none⟩) m m ∧ Y = (fun k => k = gO) ∧ Blk A gO T cs ∧ x.1.length = m ∧ RowsV W0 m cs x.1
theorem kept_enc {W0 : World} {m : Nat} (x : List (List Int) × Int) (args : Array Value) (Y : Foot) (A : World) (h : KeptEnc W0 m x args Y A) : ∃ B n c, args = #[.slice B n c, .int .i64 x.2] ∧ KeptOwn W0 m x (.slice B n c) Y A := by
 obtain ⟨gO, T, cs, ha, hY, hB, hl, hr⟩ := h
 exact ⟨_, _, _, ha, gO, T, cs, rfl, hY, hB, hl, hr⟩
theorem kept_own {W0 : World} {m : Nat} (x : List (List Int) × Int) (v : Value) (Y : Foot) (A B : World) (h : KeptOwn W0 m x v Y A) (hk : Kept (fun k => ¬ Y k) A B) (_ : ∀ k, Y k → k < A.heap.size) : KeptOwn W0 m x v Y B := by
 obtain ⟨gO, T, cs, hv, rfl, hB, hl, hr⟩ := h
 exact ⟨gO, T, cs, hv, rfl, (hk.block _ hB.lt (fun hn => hn rfl)).trans hB, hl, hr⟩
theorem lay_enc {W0 : World} {m : Nat} (x : List (List Int) × Int) (args : Array Value) (Y : Foot) (A : World) (h : LayEnc W0 m x args Y A) : ∃ B n c, args = #[.slice B n c, .int .i64 x.2] ∧ True := by
 obtain ⟨_, gR, T, cs, ha, _⟩ := h
 exact ⟨_, _, _, ha, trivial⟩
theorem KeptOwn.rows {W0 W : World} {m : Nat} {x : List (List Int) × Int} {B : Option Addr} {n c : Nat} {Y : Foot} (h : KeptOwn W0 m x (.slice B n c) Y W) (hb : Below W0.heap.size W0 W) (hm : m ≤ maxLen) : Rows (fun _ => True) W B n x.1 := by
 obtain ⟨gO, T, cs, hv, _, hB, hl, hr⟩ := h
 injection hv with e1 e2 e3
 subst e1 e2
 refine ⟨hl, hm, fun k y hy => ?_⟩
 obtain ⟨v, hv, A, n', c', rfl, hI⟩ := hr.2 k y hy
 refine ⟨gO, 0, [.slice A n' c'], rfl, trivial, hB.lt, ⟨A, n', c', rfl, (hI.keep IntR.good (Keeps.belowB hb (fun k hk => hk))).mono IntR.good (fun _ _ => trivial)⟩, fun j u hu => ?_⟩
 cases j with
 | zero => simp at hu; subst hu; rw [show 0 + k * 1 + 0 = k by omega, hB.cell k]; exact hv
 | succ j => simp at hu
theorem rowP_lt {h : Hall} (hk : OkH h) : ∀ r, r < h.rows.length → rowP h r < 9 := fun r hr => (fitS_row (l := []) hk hr).1
theorem bitL_zero : bitL 0 = [] := by decide
theorem bitL_one : ∀ i : Nat, i < 8 → bitL (2 ^ i) = [(i : Int)] ∧ 2 ^ i < 256 := by decide
theorem least_lay {h : Hall} {l : List Seen} (hk : OkH h) (u : Nat) (hu : u < 256) : leastL (layP h l h.rows.length u 0) = leastL (layL h l h.rows.length (bitL u) 0) := by
 have := hk.nt
 rw [layP_layL (by omega) (rowP_lt hk) _ _ _ (Nat.le_refl _) hu]
section
variable {h : Hall} {l : List Seen}
theorem hallE_bad (e : (seen8 h l).2 ≠ 0) : hallE h l = (seen8 h l).2 := by rw [hallE, if_pos e]
theorem hallE_no (e : (seen8 h l).2 = 0) (a : agree8 h l = false) : hallE h l = 9 := by rw [hallE, if_neg (by simp [e]), if_pos a]
theorem hallE_ok (e : (seen8 h l).2 = 0) (a : agree8 h l = true) : hallE h l = 0 := by rw [hallE, if_neg (by simp [e]), if_neg (by rw [a]; decide)]
theorem layR_bad (e : hallE h l ≠ 0) : layR h l = ([], 0, hallE h l) := by rw [layR, if_pos e]
theorem layR_ok (e : hallE h l = 0) (hk : OkH h) : layR h l = match leastL (layP h l h.rows.length 0 0) with
 | none => ([], 0, 8)
 | some (rows, gap) => (rows, gap, 0) := by
 rw [layR, if_neg (by simp [e]), best_all, least_lay hk 0 (by decide), bitL_zero]; rfl
end
def LayOk (w : World) (r : List (List Int) × Int × Int) (e : Ending) (w' : World) : Prop := Below w.heap.size w w' ∧ ∃ A n c, e = .returned (.tuple #[.slice A n c, .int .i64 r.2.1, .int .i64 r.2.2]) ∧ Rows (fun _ => True) w' A n r.1
set_option maxRecDepth 100000 in
set_option maxHeartbeats 1000000 in
theorem tlay_any {A B C : Option Addr} {n ca m cb q cc : Nat} {h : Hall} {l : List Seen} {alo ahi most : Int} (w : World) (g : HallAt (fun _ => True) w A n B m h) (gs : Seens (fun _ => True) w C q l) (hca : n ≤ ca) (h1 : h.alo = alo) (h2 : h.ahi = ahi) (h3 : h.most = most) :
  Calls Tryz.prog 12 #[.agg #[.int .i64 alo, .int .i64 ahi, .int .i64 most, .slice A n ca, .slice B m cb], .slice C q cc] w (LayOk w (layR h l)) := by
 obtain ⟨W, hW⟩ : ∃ W, w.alloc (.cells #[.int .i64 alo, .int .i64 ahi, .int .i64 most, .slice A n ca, .slice B m cb] 30) = W := ⟨_, rfl⟩
 have hBW : Below w.heap.size w W := by rw [← hW]; exact bl_alloc (Below.refl _ _) _ (Nat.le_refl _)
 have hc : HallAt (fun _ => True) W A n B m h := g.keep (Keeps.below hBW)
 have hs : Seens (fun _ => True) W C q l := gs.keep SeenR.good (Keeps.below hBW)
 have hWs : w.heap.size ≤ W.heap.size := hBW.size
 have HW := Lib.hid hW
 have Hm := Lib.hid hc.rs.len
 clear hW g gs
 go_enter Tryz.func12, Tryz.ntmps12
 go_wp2_with fail
 rw [HW.out]
 refine (tenter_any W hc hs hca h1 h2 h3).mono ?_
 rintro e W1 ⟨b1, p, ag, rfl, hag, hbx⟩
 have B1 : Below w.heap.size w W1 := hBW.trans (b1.mono hWs)
 by_cases he : (seen8 h l).2 = 0
 ·have hag := hag he
  have hbx := hbx he
  obtain ⟨hc0, _, _⟩ := seen_zero he
  have hokh := okH_of hc0
  have hnr := hokh.nr
  have hm1 : 1 ≤ m := by rw [← Hm.out]; exact hnr.1
  have hm3 : m ≤ 3 := by rw [← Hm.out]; exact hnr.2
  have HE := Lib.hid he
  rw [he]
  subst hag
  cases hga : agree8 h l
  ·have HR : Hid (layR h l = ([], 0, 9)) := by rw [Hid, layR_bad (by rw [hallE_no HE.out hga]; decide), hallE_no HE.out hga]
   clear hbx he hnr
   go_wp2_with fail
   go_ret3
   exact ⟨B1, none, 0, 0, by rw [HR.out]; rfl, by rw [HR.out]; exact SliceOf.nil _ _ _ _ _⟩
  obtain ⟨gh, rfl, hbox⟩ := hbx hga
  have HRR := Lib.hid (layR_ok (hallE_ok HE.out hga) hokh)
  have HOK := Lib.hid hokh
  have HAG := Lib.hid hga
  have HBOX := Lib.hid hbox
  clear hbx he hnr hga hokh hbox hc0
  go_wp2_with fail
  refine (layings_any 0 W1 HBOX.out HOK.out HAG.out).mono ?_
  rintro e W2 ⟨⟨g2, g5, g3, gF, base, rfl, lb⟩, b2⟩
  have HLB := Lib.hid lb
  clear lb
  go_wp2_with fail
  refine (kept_call _ _ W2).mono ?_
  rintro e W3 ⟨rfl, hW3⟩
  have b3 : Below W2.heap.size W2 W3 := by rw [hW3]; exact bl_alloc (Below.refl _ _) _ (Nat.le_refl _)
  have hK3 : Blk W3 W2.heap.size 117 #[.func (.func 81) #[] #[.pointer (some ⟨g2, 0, none⟩), .pointer (some ⟨g5, 0, none⟩), .pointer (some ⟨g3, 0, none⟩)]] := by rw [hW3]; exact Blk.new _ _ _ rfl
  have HK3 := Lib.hid hK3
  have HB3 := Lib.hid b3
  clear hW3 hK3 b3
  go_wp2_with fail
  refine (least_any (Own := KeptOwn W2 m) eg_kept kept_enc kept_own (kept_seq (gK := W2.heap.size) eg_layings hm1 hm3 (layings_seq HLB.out HOK.out Hm.out hm3 (by decide))) W3 (fun A hA => ⟨bl_call HB3.out hA (Nat.le_refl _), _, HK3.out.bl hA⟩)).mono ?_
  rintro e W4 ⟨hr, b4⟩
  have B4 : Below w.heap.size w W4 := bl_call (bl_call (bl_call B1 b2 (Nat.le_refl _)) HB3.out (Nat.le_refl _)) b4 (Nat.le_refl _)
  have B24 : Below W2.heap.size W2 W4 := bl_call HB3.out b4 (Nat.le_refl _)
  have HB4 := Lib.hid B4
  have HB24 := Lib.hid B24
  rw [Hm.out] at HRR
  clear B4 B24 b4 b2 B1
  unfold LeastR at hr
  cases hle : leastL (layP h l m 0 0) with
  | none =>
   rw [hle] at hr
   have HR : Hid (layR h l = ([], 0, 8)) := by rw [Hid, HRR.out, hle]
   subst hr
   clear hle HRR
   go_wp2_with fail
   go_ret3
   exact ⟨HB4.out, none, 0, 0, by rw [HR.out]; rfl, by rw [HR.out]; exact SliceOf.nil _ _ _ _ _⟩
  | some x =>
   rw [hle] at hr
   obtain ⟨Ad, nn, c, Y, he4, ho⟩ := hr
   obtain ⟨rows, gp⟩ := x
   have HR : Hid (layR h l = (rows, gp, 0)) := by rw [Hid, HRR.out, hle]
   have HO := Lib.hid (ho.rows HB24.out (by simp only [maxLen]; omega))
   subst he4
   clear hle HRR ho
   go_wp2_with fail
   go_ret3
   exact ⟨HB4.out, Ad, nn, c, by rw [HR.out]; rfl, by rw [HR.out]; exact HO.out⟩
 have HR := Lib.hid (layR_bad (by rw [hallE_bad he]; exact he))
 have HRE := Lib.hid (hallE_bad he)
 have heb : ((seen8 h l).2 != 0) = true := by simpa using he
 clear he hag hbx
 go_wp2_with fail
 go_ret3
 exact ⟨B1, none, 0, 0, by rw [HR.out, HRE.out]; rfl, by rw [HR.out]; exact SliceOf.nil _ _ _ _ _⟩
open Go.RowKit
theorem wpList_append_lit {P : Program} {ops : Array Oper} {rest : List Oper} {o : Oper} {a : Act} {Q : Exit → Act → World → Prop} (w : World) (hgd : o.guard = none) (s x : Operand) (t : TypeId)
  (ho : o.op = .call { callee := .builtin .append, args := #[s, x], argTypes := #[t, t] })
  {α : Type} {R : Rd α} {m : Nat} (g : R.Good m) {T S : Foot} (base : Nat) (e : TypeId) (i : TypeInfo) (z : Value) (bytes : Nat) (ht : P.underlying t = some (.slice e)) (hi : P.info? e = some i) (hz : i.zero = some z)
  (hsize : i.size = m) (hby : i.bytes = bytes) (hzs : z.cells.size = m) (hsz : 0 < m)
  (gl : Nat) (hs : a.eval s = .slice (some ⟨gl, 0, none⟩) 0 0) (hBl : Blk w gl e #[]) (hgl : base ≤ gl)
  (A : Option Addr) (q c : Nat) (ys : List α) (hx : a.eval x = .slice A q c) (hR : SliceOf R m T w A q ys) (hconv : ∀ y vs, R T w y vs → R S w y vs)
  (h63 : q ≤ maxLen) (hbytes : q * bytes ≤ 140737488355328) (hbase : base ≤ w.heap.size) (hS : ¬ S w.heap.size) (hSl : ¬ S gl)
  (h : ∀ A' cap' w', OwnL R m S w' base e (.slice A' q cap') ys → Below w.heap.size w w' → wpList P ops Q rest (a.put o.dst (.slice A' q cap')) w') : wpList P ops Q (o :: rest) a w :=
 wpList_plain hgd fun K hK => wp_append_lit w s x t ho g base e i z bytes ht hi hz hsize hby hzs hsz gl hs hBl hgl A q c ys hx hR hconv h63 hbytes hbase hS hSl fun A' cap' w' h1 h2 => hK _ _ (h A' cap' w' h1 h2)
theorem infoTile : (Tryz.prog.info? 55).map (fun i => (i.zero, i.size, i.bytes)) = some (some (.agg #[.string ByteArray.empty, .int .i64 0, .int .i64 0, .int .i64 0, .int .i64 0]), 5, 48) := by kernel_rfl
def withW (x : Tile) (z : Int × Int) : Tile := { x with wlo := z.1, whi := z.2 }
theorem Tiles.setWidth {S : Foot} {w : World} {gb n k : Nat} {xs : List Tile} (h : Tiles S w (some ⟨gb, 0, none⟩) n xs) (hk : k < n) (a z : Int) :
  Tiles S ((w.setCell ⟨gb, k * 5 + 1, none⟩ (.int .i64 a)).setCell ⟨gb, k * 5 + 2, none⟩ (.int .i64 z)) (some ⟨gb, 0, none⟩) n (xs.set k (withW (xs.getD k dTile) (a, z))) := by
 have hkl : k < xs.length := by rw [h.1]; exact hk
 refine ⟨by rw [List.length_set]; exact h.1, h.2.1, fun i x hx => ?_⟩
 have hil : i < xs.length := by have := of_getq' hx; rwa [List.length_set] at this
 obtain ⟨b, off, vs, hA, h1, h2, ⟨s, h3, h5, h6⟩, h4⟩ := h.2.2 i xs[i] (List.getElem?_eq_getElem hil)
 injection hA with hA
 injection hA with e1 e2
 subst e1; subst e2
 subst h3
 rw [List.getElem?_set] at hx
 by_cases hik : k = i
 ·subst hik
  rw [if_pos rfl, if_pos hil] at hx
  have hx := (Option.some.inj hx).symm
  subst hx
  rw [getD_of (List.getElem?_eq_getElem hil)]
  refine ⟨gb, 0, _, rfl, h1, by simpa using h2, ⟨s, rfl, h5, h6⟩, fun j u hu => ?_⟩
  have hj : j = 0 ∨ j = 1 ∨ j = 2 ∨ j = 3 ∨ j = 4 := by have := of_getq' hu; simp at this; omega
  have hc1 : w.cell? ⟨gb, k * 5 + 1, none⟩ = some (.int .i64 xs[k].wlo) := by simpa using h4 1 _ rfl
  have hc2 : w.cell? ⟨gb, k * 5 + 2, none⟩ = some (.int .i64 xs[k].whi) := by simpa using h4 2 _ rfl
  rcases hj with rfl | rfl | rfl | rfl | rfl
  ·rw [World.cell?_setCell_other (h := by intro e; injection e with _ e; omega), World.cell?_setCell_other (h := by intro e; injection e with _ e; omega)]; exact h4 0 u (by simpa using hu)
  ·simp [withW] at hu; subst hu
   rw [World.cell?_setCell_other (h := by intro e; injection e with _ e; omega)]
   have : (⟨gb, 0 + k * 5 + 1, none⟩ : Addr) = ⟨gb, k * 5 + 1, none⟩ := by simp
   rw [this]
   exact World.cell?_setCell_same (h := hc1) ..
  ·simp [withW] at hu; subst hu
   have : (⟨gb, 0 + k * 5 + 2, none⟩ : Addr) = ⟨gb, k * 5 + 2, none⟩ := by simp
   rw [this]
   exact World.cell?_setCell_same (h := show (w.setCell ⟨gb, k * 5 + 1, none⟩ (.int .i64 a)).cell? ⟨gb, k * 5 + 2, none⟩ = some (.int .i64 xs[k].whi) by rw [World.cell?_setCell_other (h := by intro e; injection e with _ e; omega)]; exact hc2) ..
  ·rw [World.cell?_setCell_other (h := by intro e; injection e with _ e; omega), World.cell?_setCell_other (h := by intro e; injection e with _ e; omega)]; exact h4 3 u (by simpa [withW] using hu)
  rw [World.cell?_setCell_other (h := by intro e; injection e with _ e; omega), World.cell?_setCell_other (h := by intro e; injection e with _ e; omega)]; exact h4 4 u (by simpa [withW] using hu)
 rw [if_neg hik, List.getElem?_eq_getElem hil] at hx
 have hx := (Option.some.inj hx).symm
 subst hx
 refine ⟨gb, 0, _, rfl, h1, by simpa using h2, ⟨s, rfl, h5, h6⟩, fun j u hu => ?_⟩
 have hj : j < 5 := by have := of_getq' hu; simpa using this
 rw [World.cell?_setCell_other (h := by intro e; injection e with _ e; omega), World.cell?_setCell_other (h := by intro e; injection e with _ e; omega)]
 exact h4 j u hu
theorem Tiles.own {S : Foot} {w : World} {gb n : Nat} {xs : List Tile} (h : Tiles S w (some ⟨gb, 0, none⟩) n xs) : Tiles (fun j => j = gb) w (some ⟨gb, 0, none⟩) n xs := by
 refine ⟨h.1, h.2.1, fun k x hx => ?_⟩
 obtain ⟨b, off, vs, hA, h1, h2, ⟨s, h3, h5, h6⟩, h4⟩ := h.2.2 k x hx
 injection hA with hA
 injection hA with e1 e2
 subst e1; subst e2
 exact ⟨gb, 0, vs, rfl, rfl, h2, ⟨s, h3, h5, h6⟩, h4⟩
def wideT (tl : List Tile) (z : Nat → Int × Int) (k : Nat) : List Tile := (List.range tl.length).map fun j => if j < k then withW (tl.getD j dTile) (z j) else tl.getD j dTile
theorem wideT_len (tl : List Tile) (z : Nat → Int × Int) (k : Nat) : (wideT tl z k).length = tl.length := by simp [wideT]
theorem wideT_get {tl : List Tile} {z : Nat → Int × Int} {k j : Nat} (hj : j < tl.length) : (wideT tl z k)[j]? = some (if j < k then withW (tl.getD j dTile) (z j) else tl.getD j dTile) := by
 unfold wideT
 rw [List.getElem?_map, List.getElem?_range hj]; rfl
theorem wideT_zero (tl : List Tile) (z : Nat → Int × Int) : wideT tl z 0 = tl := by
 refine List.ext_getElem? fun j => ?_
 by_cases hj : j < tl.length
 ·rw [wideT_get hj, if_neg (by omega), List.getElem?_eq_getElem hj, getD_of (List.getElem?_eq_getElem hj)]
 rw [List.getElem?_eq_none (by rw [wideT_len]; omega), List.getElem?_eq_none (by omega)]
theorem wideT_succ {tl : List Tile} {z : Nat → Int × Int} {k : Nat} (hk : k < tl.length) : wideT tl z (k + 1) = (wideT tl z k).set k (withW ((wideT tl z k).getD k dTile) (z k)) := by
 have hkk : (wideT tl z k).getD k dTile = tl.getD k dTile := by rw [getD_of (wideT_get hk), if_neg (by omega)]
 rw [hkk]
 refine List.ext_getElem? fun j => ?_
 by_cases hj : j < tl.length
 ·rw [List.getElem?_set, wideT_get hj]
  by_cases hjk : k = j
  ·subst hjk
   rw [if_pos rfl, if_pos (by omega), if_pos (by rw [wideT_len]; exact hj)]
  rw [if_neg hjk, wideT_get hj]
  by_cases h1 : j < k
  ·rw [if_pos h1, if_pos (by omega)]
  rw [if_neg h1, if_neg (by omega)]
 rw [List.getElem?_eq_none (by rw [wideT_len]; omega), List.getElem?_eq_none (by rw [List.length_set, wideT_len]; omega)]
def moT (cs : List Nat) (n j : Nat) : Nat := turnL cs j % n
def caT (s : Shop) (cs : List Nat) (n j : Nat) : Nat := turnL cs j / 4 % castsN s (moT cs n j)
def zT (s : Shop) (l : List SeenC) (cs : List Nat) (n j : Nat) : Int × Int := size7 s l (moT cs n j) (caT s cs n j : Nat)
def reT (s : Shop) (k0 : Int) (tw : List (Int × Int)) (cs : List Nat) (n j : Nat) : Int := madeT k0 tw (moT cs n j) (caT s cs n j)
def reaL (s : Shop) (k0 : Int) (tw : List (Int × Int)) (cs : List Nat) (n k : Nat) : List Int := (List.range k).map (reT s k0 tw cs n)
theorem reaL_succ (s : Shop) (k0 : Int) (tw : List (Int × Int)) (cs : List Nat) (n k : Nat) : reaL s k0 tw cs n (k + 1) = reaL s k0 tw cs n k ++ [reT s k0 tw cs n k] := by unfold reaL; rw [List.range_succ, List.map_append]; rfl
theorem reaL_len (s : Shop) (k0 : Int) (tw : List (Int × Int)) (cs : List Nat) (n k : Nat) : (reaL s k0 tw cs n k).length = k := by simp [reaL]
theorem reaL_get {s : Shop} {k0 : Int} {tw : List (Int × Int)} {cs : List Nat} {n k j : Nat} (hj : j < k) : (reaL s k0 tw cs n k)[j]? = some (reT s k0 tw cs n j) := by unfold reaL; rw [List.getElem?_map, List.getElem?_range hj]; rfl
def laidH (h : Hall) (z : Nat → Int × Int) : Hall := { h with tiles := wideT h.tiles z h.tiles.length }
theorem laidH_get {h : Hall} {z : Nat → Int × Int} {j : Nat} (hj : j < h.tiles.length) : (laidH h z).tiles.getD j dTile = withW (h.tiles.getD j dTile) (z j) := by
 unfold laidH
 dsimp only
 rw [getD_of (wideT_get hj), if_pos hj]
def truthL (re : List Int) (sw : List (Int × Int)) : List (Int × Int) := (List.range re.length).map fun j => (re.getD j 0, (sw.getD j dTwo).2)
theorem truthL_get {re : List Int} {sw : List (Int × Int)} {j : Nat} {x : Int} {y : Int × Int} (h1 : re[j]? = some x) (h2 : sw[j]? = some y) : (truthL re sw)[j]? = some (x, y.2) := by
 unfold truthL
 rw [List.getElem?_map, List.getElem?_range (of_getq' h1), Option.map_some, getD_of h1, getD_of h2]
theorem agree_nil {h : Hall} (hk : OkH h) : agree8 h [] = true := by
 unfold agree8
 rw [List.all_eq_true]
 intro t ht
 have hm : ((h.tiles.getD t dTile).wlo, (h.tiles.getD t dTile).slo) ∈ twosL h [] t := by
  have hx : h.tiles[t]? = some (h.tiles[t]'(List.mem_range.1 ht)) := List.getElem?_eq_getElem (List.mem_range.1 ht)
  have hb := tileE_zero hx (hk.tile (List.mem_range.1 ht))
  rw [getD_of hx]
  exact twos_mem8 (by rw [getD_of hx]; exact ⟨Int.le_refl _, by dsimp only; omega⟩) (by rw [getD_of hx]; exact ⟨Int.le_refl _, by dsimp only; omega⟩) rfl
 cases hl : twosL h [] t with
 | nil => rw [hl] at hm; cases hm
 | cons a l => rfl
theorem tilesE_in {nt : Nat} {pl : Int} {l : List Int} (h : tilesE nt pl l = 0) : (l.length : Int) = pl ∧ ∀ i ∈ l, 0 ≤ i ∧ i < (nt : Int) := by
 unfold tilesE at h
 split at h
 ·cases h
 rename_i h1
 split at h
 ·cases h
 rename_i h2
 refine ⟨by omega, fun i hi => ?_⟩
 have h3 : inB i 0 ((nt : Int) - 1) = true := by
  cases hb : inB i 0 ((nt : Int) - 1) with
  | true => rfl
  | false => exact absurd (List.any_eq_true.2 ⟨i, hi, by rw [hb]; rfl⟩) h2
 simp [inB] at h3
 omega
theorem layR_nil_bad {h : Hall} (e : (check8 h).2.2 ≠ 0) : (layR h []).2.2 = (check8 h).2.2 := by
 have e1 : err8 h ≠ 0 := e
 have e2 : (seen8 h []).2 = (check8 h).2.2 := by unfold seen8; rw [if_pos e1]; rfl
 have e3 : hallE h [] = (check8 h).2.2 := by unfold hallE; rw [if_pos (by rw [e2]; exact e)]; exact e2
 rw [layR_bad (by rw [e3]; exact e)]; exact e3
theorem truthL_len (re : List Int) (sw : List (Int × Int)) : (truthL re sw).length = re.length := by simp [truthL]
theorem truthT_laid {s : Shop} {l : List SeenC} {h : Hall} {k0 : Int} {tw : List (Int × Int)} {cs ws : List Nat} {n tn : Nat} {z : Nat → Int × Int} (hz : zT s l cs n = z) (hn : s.moulds.length = n) (hok : OkS s) (htn : h.tiles.length = tn)
  (hs : ∀ m c : Nat, m < n → c < castsN s m → (size7 s l m c).1 ≤ madeT k0 tw m c ∧ madeT k0 tw m c ≤ (size7 s l m c).2) (hk : OkH (laidH h z)) : TruthT (laidH h z) (truthL (reaL s k0 tw cs n tn) (anyL (laidH h z) ws)) := by
 have hlt : (laidH h z).tiles.length = tn := (wideT_len _ _ _).trans htn
 refine ⟨by rw [truthL_len, reaL_len, hlt], fun k hk2 => ?_⟩
 have hk3 : k < tn := by rw [← hlt]; exact hk2
 have h2 := any_in (xs := ws) hk hk2
 rw [getD_of (truthL_get (reaL_get (s := s) (k0 := k0) (tw := tw) (cs := cs) (n := n) hk3) (anyL_get (xs := ws) hk2))]
 refine ⟨?_, h2.2.1⟩
 rw [laidH_get (by rw [htn]; exact hk3)]
 have hm : moT cs n k < n := Nat.mod_lt _ (by rw [← hn]; exact hok.nm.1)
 have hc : caT s cs n k < castsN s (moT cs n k) := Nat.mod_lt _ (by have := castsN_bd hok (m := moT cs n k) (by rw [hn]; exact hm); omega)
 have := hs _ _ hm hc
 rw [← hz]
 exact this
theorem truthT_bd {h : Hall} {t : List (Int × Int)} (hk : OkH h) (ht : TruthT h t) {k : Nat} (hk2 : k < h.tiles.length) : (0 ≤ (t.getD k dTwo).1 ∧ (t.getD k dTwo).1 ≤ 20000) ∧ 0 ≤ (t.getD k dTwo).2 ∧ (t.getD k dTwo).2 ≤ 20 := by
 obtain ⟨h1, h2⟩ := ht.2 k hk2
 have hx : h.tiles[k]? = some h.tiles[k] := List.getElem?_eq_getElem hk2
 have hb := tileE_zero hx (hk.tile hk2)
 rw [getD_of hx] at h1 h2
 omega
end Go.Proofs.YtdbfincinjoppaaGreat
