/- A part of the proof that TopLaid always answers true. -/
import Derived.Test.YtdbfincinjoppaaGreatCTBits
import Derived.Test.YtdbfincinjoppaaGreatCTLay2
set_option linter.all false
namespace Go.Proofs.YtdbfincinjoppaaGreat
open Go.RowKit Go.Shelf Go.Sort
def RowRd (S : Foot) (W : World) (base : Nat) (v : Value) (xs : List (Nat × Int)) : Prop := ∃ A cap, v = .slice A xs.length cap ∧ ∀ k x, xs[k]? = some x → ∃ g vs, A = some ⟨g, 0, none⟩ ∧ base ≤ g ∧ g < W.heap.size ∧ ¬ S g ∧ SomeR S W x vs ∧ ∀ (j : Nat) (u : Value), vs[j]? = some u → W.cell? ⟨g, k * 3 + j, none⟩ = some u ∧ W.frozen? ⟨g, k * 3 + j, none⟩ = false
theorem RowRd.keep {S : Foot} {W W' : World} {base : Nat} {v : Value} {xs : List (Nat × Int)} (h : RowRd S W base v xs) (hk : Keeps (fun k => S k ∨ v.ownBlock = some k) W W') : RowRd S W' base v xs := by
 obtain ⟨A, cap, rfl, hx⟩ := h
 refine ⟨A, cap, rfl, fun k x hk' => ?_⟩
 obtain ⟨g, vs, rfl, h1, h2, h3, h4, h5⟩ := hx k x hk'
 refine ⟨g, vs, rfl, h1, Nat.lt_of_lt_of_le h2 hk.size, h3, SomeR.good.keep h4 (hk.sub fun _ h => .inl h), fun j u hu => ?_⟩
 obtain ⟨a, b⟩ := h5 j u hu
 exact ⟨(World.cell?_of_block (hk.block g (.inr rfl) h2)).trans a, (World.frozen?_of_block (hk.block g (.inr rfl) h2)).trans b⟩
theorem OwnL.rd {S : Foot} {W : World} {base : Nat} {e : TypeId} {v : Value} {xs : List (Nat × Int)} (h : OwnL SomeR 3 S W base e v xs) : RowRd S W base v xs := by
 obtain ⟨A, cap, hv⟩ := h.form
 subst hv
 refine ⟨A, cap, rfl, fun k x hk => ?_⟩
 obtain ⟨h0, cells, hrow, hc⟩ := h
 obtain ⟨vs, hR, hcc⟩ := hc k x hk
 rcases hrow.2 with ⟨e, e0⟩ | ⟨gb, cap', cur, e, hb, hgg, _, _, _, htake⟩
 ·have := of_getq' hk; omega
 injection e with e1 e2 e3
 subst e1
 refine ⟨gb, vs, rfl, hb, (Array.getElem?_eq_some_iff.1 hgg).1, h0 gb rfl, hR, fun j u hu => ?_⟩
 have h2 := hcc j u hu
 rw [← htake, List.getElem?_take] at h2
 refine ⟨?_, ?_⟩
 ·rw [cell_of_row W gb (k * 3 + j) cur _ (0, 0) hgg]
  split at h2
  ·simpa using h2
  cases h2
 exact Blk.frozen (show Blk W gb _ cur from hgg) _
structure FitRd (W : World) (base gF : Nat) (T0 : TypeId) (m : Nat) (f : Nat → List (Nat × Int)) : Prop where
 lt : gF < base
 bs : base ≤ W.heap.size
 ex : ∃ (cs : Array Value) (S : Foot), Blk W gF T0 cs ∧ cs.size = m ∧ (∀ k, S k → base ≤ k ∧ k < W.heap.size) ∧ (∀ r, r < m → ∃ v, cs[r]? = some v ∧ RowRd S W base v (f r)) ∧
  (∀ (r r' : Nat) (v v' : Value) (k : Nat), r ≠ r' → cs[r]? = some v → cs[r']? = some v' → v.ownBlock = some k → v'.ownBlock ≠ some k)
theorem FitSt.rd {W : World} {base gF : Nat} {T0 e : TypeId} {m : Nat} {f : Nat → List (Nat × Int)} (h : FitSt W base gF T0 e m f) : FitRd W base gF T0 m f := by
 obtain ⟨h1, h2, cs, S, hB, hs, hS, hr, hd⟩ := h
 refine ⟨h1, h2, cs, S, hB, hs, hS, fun r hr' => ?_, hd⟩
 obtain ⟨v, hv, hO⟩ := hr r hr'
 exact ⟨v, hv, hO.rd⟩
theorem FitRd.congr {W : World} {base gF : Nat} {T0 : TypeId} {m : Nat} {f g : Nat → List (Nat × Int)} (h : FitRd W base gF T0 m f) (hfg : ∀ r, r < m → f r = g r) : FitRd W base gF T0 m g := by
 obtain ⟨h1, h2, cs, S, hB, hs, hS, hr, hd⟩ := h
 refine ⟨h1, h2, cs, S, hB, hs, hS, fun r hr' => ?_, hd⟩
 rw [← hfg r hr']; exact hr r hr'
theorem grow_two (w : World) (a b : Obj) : (w.alloc a).alloc b = Sort.grow (w.drewN 0) #[a, b] := by
 have h : (w.heap.push a).push b = w.heap ++ #[a, b] := by apply Array.ext'; simp
 show ({ w with heap := (w.heap.push a).push b } : World) = { w with heap := w.heap ++ #[a, b], drawn := w.drawn + 0 }
 rw [h]; rfl
structure ElH (S : Foot) (w : World) where
 A : Option Addr
 n : Nat
 c : Nat
 x : Nat × Int
 h : Ints S w A n (bitL x.1)
instance (S : Foot) (w : World) : Inhabited (ElH S w) := ⟨⟨none, 0, 0, (0, 0), SliceOf.nil _ _ _ _ _⟩⟩
def encE {S : Foot} {w : World} (r : ElH S w) : List Value := [.slice r.A r.n r.c, .int .i64 r.x.1, .int .i64 r.x.2]
def cmpE {S : Foot} {w : World} (x y : ElH S w) : Int := lexC (bitL x.x.1) (bitL y.x.1)
theorem swoE (S : Foot) (w : World) : SWO (ltOf (cmpE (S := S) (w := w))) := by
 refine ⟨fun x => ?_, fun x y z h1 h2 => ?_, fun x y z h1 h2 => ?_⟩
 ·unfold ltOf cmpE; rw [lexC_refl]; rfl
 ·exact decide_eq_true (lexC_trans _ _ _ (of_decide_eq_true h1) (of_decide_eq_true h2))
 have h1 := of_decide_eq_false h1
 have h2 := of_decide_eq_false h2
 refine decide_eq_false fun h3 => ?_
 unfold cmpE at *
 by_cases e1 : lexC (bitL y.x.1) (bitL x.x.1) < 0
 ·exact h2 (lexC_trans _ _ _ e1 h3)
 have e2 := lexC_tri _ _ h1 e1
 rw [e2] at h3; exact h2 h3
theorem kept_sortK {α : Type} [Inhabited α] {enc : α → List Value} {w : World} {blk n : Nat} {d : Array α} {os : Array Obj} : Kept (fun k => k = blk) w (sortWorldK enc 3 w blk 0 n d os) := by
 refine ⟨rfl, rfl, rfl, size_sortWorldK_c enc 3 w blk 0 n d os, fun k hk hne => ?_⟩
 unfold sortWorldK
 rw [Sort.heap_grow_old _ _ (by simpa [putRowK, putRow, mapBlock, Sort.ahead] using hk)]
 simp only [putRowK, putRow, mapBlock, Sort.ahead]
 rw [Array.getElem?_modify, if_neg (fun e => hne e.symm)]
set_option maxHeartbeats 1000000 in
theorem sort_row {W : World} {base gF : Nat} {T0 : TypeId} {m : Nat} {f : Nat → List (Nat × Int)} (h : FitRd W base gF T0 m f) {r : Nat} (hr : r < m) (hlen : (f r).length ≤ 256) :
  ∃ v, W.cell? ⟨gF, r, none⟩ = some v ∧ Calls Tryz.prog 78 #[v, .func (.func 79) #[] #[]] W fun e w' =>
   e = .returned (.tuple #[]) ∧ ∃ Y : List (Nat × Int), Y.Perm (f r) ∧ (Y.Pairwise fun a b => ¬ lexC (bitL b.1) (bitL a.1) < 0) ∧ FitRd w' base gF T0 m (updL f r Y) ∧ Kept (fun k => base ≤ k) W w' := by
 obtain ⟨h1, h2, cs, S, hB, hs, hS, hrs, hd⟩ := h
 obtain ⟨v, hv, A, cap, hve, hx⟩ := hrs r hr
 refine ⟨v, (hB.cell r).trans hv, ?_⟩
 by_cases hnil : f r = []
 ·rw [hve, hnil]
  refine (AnyF.slices_SortFunc_none Tryz.sortSome A cap _ W).mono ?_
  rintro e w' ⟨he, rfl⟩
  refine ⟨he, [], List.Perm.refl _, List.Pairwise.nil, ⟨h1, h2, cs, S, hB, hs, hS, fun r' hr' => ?_, hd⟩, Kept.refl _ _⟩
  unfold updL
  by_cases e : r' = r
  ·rw [if_pos e, e]
   exact ⟨v, hv, by rw [← hnil]; exact ⟨A, cap, hve, hx⟩⟩
  rw [if_neg e]; exact hrs r' hr'
 obtain ⟨g, hA, hgb, hgl, hSg⟩ : ∃ g, A = some ⟨g, 0, none⟩ ∧ base ≤ g ∧ g < W.heap.size ∧ ¬ S g := by
  cases hf : f r with
  | nil => exact absurd hf hnil
  | cons p t =>
   obtain ⟨g, vs, q1, q2, q3, q4, _⟩ := hx 0 p (by rw [hf]; rfl)
   exact ⟨g, q1, q2, q3, q4⟩
 subst hA
 have hex : ∀ k, ∃ e : ElH S W, k < (f r).length → (f r)[k]? = some e.x ∧ ∀ (j : Nat) (u : Value), (encE e)[j]? = some u → W.cell? ⟨g, k * 3 + j, none⟩ = some u ∧ W.frozen? ⟨g, k * 3 + j, none⟩ = false := fun k => by
  by_cases hk : k < (f r).length
  ·obtain ⟨g', vs, hAe, _, _, _, ⟨A', n', c', hvs, hI⟩, hcell⟩ := hx k (f r)[k] (List.getElem?_eq_getElem hk)
   obtain rfl : g = g' := by injection hAe with hAe; injection hAe
   exact ⟨⟨A', n', c', (f r)[k], hI⟩, fun _ => ⟨List.getElem?_eq_getElem hk, fun j u hu => hcell j u (by rw [hvs]; exact hu)⟩⟩
  exact ⟨default, fun h => absurd h hk⟩
 obtain ⟨F, hF⟩ := Classical.axiomOfChoice hex
 obtain ⟨d, hdd⟩ : ∃ d : Array (ElH S W), d = ((List.range (f r).length).map F).toArray := ⟨_, rfl⟩
 have hds : d.size = (f r).length := by rw [hdd]; simp
 have hget : ∀ j, j < d.size → d[j]! = F j := fun j hj => by rw [getElem!_pos d j hj]; simp [hdd]
 have hdv : d.toList.map (·.x) = f r := by
  rw [hdd]
  apply List.ext_getElem?
  intro k
  simp only [List.map_map, List.getElem?_map]
  by_cases hk : k < (f r).length
  ·rw [List.getElem?_range hk, (hF k hk).1]; rfl
  rw [List.getElem?_eq_none (by simp; omega), List.getElem?_eq_none (by omega)]; rfl
 have hH : HoldsK encE 3 W g 0 d := fun j hj => by
  rw [size_flatK] at hj
  rw [get_flatK _ _ _ _ hj]
  have hj3 : j / 3 < d.size := by omega
  rw [hget _ hj3]
  have h3 : j % 3 < 3 := Nat.mod_lt _ (by decide)
  have hcc := (hF (j / 3) (by omega)).2 (j % 3) ((encE (F (j / 3)))[j % 3]!) (by
   rw [getElem!_pos _ _ (by unfold encE; simpa using h3)]
   exact List.getElem?_eq_getElem _)
  rw [show 0 + j = j / 3 * 3 + j % 3 by omega]
  exact hcc
 have hcon := AnyQ.slices_SortFunc Tryz.sortSome 3 Tryz.isAgg171 Tryz.sizeOf171 (encE (S := S) (w := W)) (fun _ => rfl) (fun x v hv => by
   unfold encE at hv; simp at hv; rcases hv with rfl | rfl | rfl <;> rfl) cmpE (swoE S W) 79 #[] g 0 cap d W eg_cmp
  (fun mm os dk hdk x y => by
   have hkk : Keeps S W (sortWorldK encE 3 W g 0 mm dk os) := (kept_sortK (enc := encE) (d := dk)).keeps (fun k hk e => hSg (e ▸ hk))
   refine (cmp_some _ (x.h.keep IntR.good hkk) (y.h.keep IntR.good hkk)).mono ?_
   rintro e w' ⟨he, rfl⟩
   exact ⟨he, 0, _, grow_two _ _ _⟩) hH hgl (by omega)
 rw [hds] at hcon
 rw [hve]
 refine Calls.mono hcon ?_
 rintro e w' ⟨he, d', q, os, hp, hso, rfl⟩
 obtain ⟨hsz, _, hpm⟩ := hp
 have hsz' : d'.size = (f r).length := by rw [hsz, hds]
 have hpm' : (d'.toList.map (·.x)).Perm (f r) := by
  rw [← hdv]
  refine List.Perm.map _ ?_
  have e1 : d'.extract 0 (f r).length = d' := by rw [← hsz']; simp
  have e2 : d.extract 0 (f r).length = d := by rw [← hds]; simp
  rw [e1, e2] at hpm
  exact hpm
 have hK : Kept (fun k => k = g) W (sortWorldK encE 3 W g 0 q d' os) := kept_sortK
 have hH' := holdsK_sortWorldK_c encE 3 W g 0 d d' q os hH hgl (by rw [hsz', hds])
 refine ⟨he, d'.toList.map (·.x), hpm', ?_, ?_, hK.mono fun k _ e => by rw [e]; exact hgb⟩
 ·rw [List.pairwise_iff_getElem]
  intro i j hi hj hij
  simp only [List.length_map, Array.length_toList] at hi hj
  have h3 := hso i j (Nat.zero_le _) hij (by omega)
  rw [getElem!_pos d' i (by omega), getElem!_pos d' j (by omega)] at h3
  have h3 := of_decide_eq_false h3
  simpa [cmpE] using h3
 have hgF : gF ≠ g := by omega
 refine ⟨h1, Nat.le_trans h2 hK.size, cs, S, (hK.block gF hB.lt hgF).trans hB, hs, fun k hk => ⟨(hS k hk).1, Nat.lt_of_lt_of_le (hS k hk).2 hK.size⟩, fun r' hr' => ?_, hd⟩
 unfold updL
 by_cases e : r' = r
 ·rw [if_pos e, e]
  refine ⟨v, hv, some ⟨g, 0, none⟩, cap, by rw [hve]; simp [hsz'], fun k x hk => ?_⟩
  have hkl : k < d'.size := by have := of_getq' hk; simpa using this
  rw [List.getElem?_map, Array.getElem?_toList, Array.getElem?_eq_getElem hkl] at hk
  have hk : d'[k].x = x := by simpa using hk
  subst hk
  refine ⟨g, encE d'[k], rfl, hgb, Nat.lt_of_lt_of_le hgl hK.size, hSg, ⟨_, _, _, rfl, d'[k].h.keep IntR.good (hK.keeps (fun j hj e => hSg (e ▸ hj)))⟩, fun j u hu => ?_⟩
  have hj3 : j < 3 := by have := of_getq' hu; unfold encE at this; simpa using this
  have hcc := hH'.cell hkl hj3
  rw [getElem!_pos d' k hkl] at hcc
  have hu2 : (encE d'[k])[j]! = u := by
   rw [getElem!_pos (encE d'[k]) j (of_getq' hu)]
   have := List.getElem?_eq_getElem (of_getq' hu)
   rw [hu] at this
   injection this with this
   exact this.symm
  rw [hu2, Nat.zero_add] at hcc
  exact hcc
 rw [if_neg e]
 obtain ⟨u, hu, hR⟩ := hrs r' hr'
 refine ⟨u, hu, hR.keep (hK.keeps (fun k hk e2 => ?_))⟩
 rcases hk with hk | hk
 ·exact hSg (e2 ▸ hk)
 subst e2
 exact hd r r' v u _ (fun h => e h.symm) hv hu (by rw [hve]; rfl) hk
open Go.RowKit Go.Shelf
structure LayBox (W : World) (h : Hall) (l : List Seen) (gh g2 g5 g3 gF base m cb wo : Nat) (B : Option Addr) : Prop where
 c2 : W.cell? ⟨g2, 0, none⟩ = some (.pointer (some ⟨gh, 0, none⟩))
 c5 : W.cell? ⟨g5, 0, none⟩ = some (.slice (some ⟨gF, 0, none⟩) m m)
 c3 : W.cell? ⟨g3, 0, none⟩ = some (.int .i64 wo)
 c4 : W.cell? ⟨gh, 4, none⟩ = some (.slice B m cb)
 fit : FitRd W base gF 169 m (fitS h l)
theorem bit_range : ∀ n : Nat, n < 9 → ∀ s : Nat, s < 2 ^ n → ∀ i ∈ bitL s, 0 ≤ i ∧ i < n := by decide +kernel
theorem pow_wrap : ∀ n : Nat, n < 9 → wrap64 ((2 : Int) ^ n) = ((2 ^ n : Nat) : Int) := by decide +kernel
def fSort (h : Hall) (l : List Seen) (n j : Nat) : Nat → List (Nat × Int) := fun r => if r < j then fitS h l r else fitK h l r (2 ^ n)
set_option maxRecDepth 100000 in
set_option maxHeartbeats 2000000 in
theorem layings_any {A B C : Option Addr} {n ca m cb q cc gh : Nat} {h : Hall} {l : List Seen} (wo : Nat) (w : World) (H : HBox w gh A n ca B m cb C q cc h l) (hk : OkH h) (hag : agree8 h l = true) :
  Calls Tryz.prog 48 #[.pointer (some ⟨gh, 0, none⟩), .int .i64 wo] w fun e w' =>
   (∃ g2 g5 g3 gF base, e = .returned (.func (.func 81) #[] #[.pointer (some ⟨g2, 0, none⟩), .pointer (some ⟨g5, 0, none⟩), .pointer (some ⟨g3, 0, none⟩)]) ∧ LayBox w' h l gh g2 g5 g3 gF base m cb wo B) ∧ Below w.heap.size w w' := by
 have Hn := Lib.hid H.hs.ts.len
 have Hm := Lib.hid H.hs.rs.len
 have hnt := hk.nt
 have hnr := hk.nr
 have hn8 : n ≤ 8 := by rw [← Hn.out]; exact hnt.2
 have hm3 : m ≤ 3 := by rw [← Hm.out]; exact hnr.2
 have hm1 : 1 ≤ m := by rw [← Hm.out]; exact hnr.1
 have hlen := H.hs.ts.le
 have hmk := run_make_row' (P := Tryz.prog) 168 169 (.slice none 0 0) 24 Tryz.underlying168 infoSomes rfl .i64 .i64 m (by omega) (by omega)
 have hcell : Hid (∀ W, Below w.heap.size w W → W.cell? ⟨gh, 3, none⟩ = some (.slice A n ca) ∧ W.cell? ⟨gh, 4, none⟩ = some (.slice B m cb)) := fun W hb => by
  obtain ⟨⟨gm, gr, gc, MH, _⟩, _⟩ := H
  exact ⟨(MH.bl hb).cell 3, (MH.bl hb).cell 4⟩
 have hghl : gh < w.heap.size := by obtain ⟨⟨gm, gr, gc, MH, _⟩, _⟩ := H; exact MH.lt
 have HB := Lib.hid H
 have HKK := Lib.hid hk
 have HAG := Lib.hid hag
 obtain ⟨k3, k4⟩ := hcell.out w (Below.refl _ _)
 have hg1 : gh < w.heap.size + 1 := by omega
 have hg2 : gh < w.heap.size + 1 + 1 := by omega
 have hg3 : gh < w.heap.size + 1 + 1 + 1 := by omega
 clear H hk hag hnt hnr
 go_enter Tryz.func48, Tryz.ntmps48
 go_wp2_with fail
 rw [pow_wrap n (by omega)]
 obtain ⟨N, hN⟩ : ∃ N : Nat, 2 ^ n = N := ⟨_, rfl⟩
 rw [hN]
 have HN := Lib.hid hN
 clear hN
 obtain ⟨W0, hW0⟩ : ∃ W0, (((w.alloc (.cells #[.pointer (some ⟨gh, 0, none⟩)] 111)).alloc (.cells #[.int .i64 wo] 3)).alloc (.cells (madeCells #[.slice none 0 0] m) 169)).alloc (.cells #[.slice (some ⟨w.heap.size + 1 + 1, 0, none⟩) m m] 168) = W0 := ⟨_, rfl⟩
 have b0 : Below w.heap.size w W0 := by rw [← hW0]; exact bl_alloc (bl_alloc (bl_alloc (bl_alloc (Below.refl _ _) _ (Nat.le_refl _)) _ (Nat.le_refl _)) _ (Nat.le_refl _)) _ (Nat.le_refl _)
 have s0 : W0.heap.size = w.heap.size + 4 := by rw [← hW0]; simp
 have X2 : Blk W0 w.heap.size 111 #[.pointer (some ⟨gh, 0, none⟩)] := by rw [← hW0]; exact (((Blk.new _ _ _ rfl).alloc _).alloc _).alloc _
 have X3 : Blk W0 (w.heap.size + 1) 3 #[.int .i64 wo] := by rw [← hW0]; exact ((Blk.new _ _ _ (by simp)).alloc _).alloc _
 have XF : Blk W0 (w.heap.size + 1 + 1) 169 (Array.replicate m (.slice none 0 0)) := by rw [← hW0, ← made_rep]; exact (Blk.new _ _ _ (by simp)).alloc _
 have X5 : Blk W0 (w.heap.size + 1 + 1 + 1) 168 #[.slice (some ⟨w.heap.size + 1 + 1, 0, none⟩) m m] := by rw [← hW0]; exact Blk.new _ _ _ (by simp)
 rw [hW0]
 obtain ⟨g5, eg5⟩ : ∃ g5, w.heap.size + 1 + 1 + 1 = g5 := ⟨_, rfl⟩
 obtain ⟨gF, egF⟩ : ∃ gF, w.heap.size + 1 + 1 = gF := ⟨_, rfl⟩
 obtain ⟨g3, eg3⟩ : ∃ g3, w.heap.size + 1 = g3 := ⟨_, rfl⟩
 obtain ⟨g2, eg2⟩ : ∃ g2, w.heap.size = g2 := ⟨_, rfl⟩
 rw [eg5, egF] at X5
 rw [egF] at XF
 rw [eg3] at X3
 rw [eg2] at X2
 rw [eg5, egF, eg3, eg2]
 have hgs : Hid (g2 = w.heap.size ∧ g3 = w.heap.size + 1 ∧ gF = w.heap.size + 2 ∧ g5 = w.heap.size + 3 ∧ W0.heap.size = w.heap.size + 4 ∧ gh < w.heap.size) := ⟨eg2.symm, eg3.symm, egF.symm, eg5.symm, s0, hghl⟩
 clear hW0 k3 k4 hg1 hg2 hg3 hmk eg5 egF eg3 eg2 s0 hghl
 have hbel : Hid (∀ W, Kept (fun j => j = gF ∨ W0.heap.size ≤ j) W0 W → Below w.heap.size w W) := fun W hK => b0.trans (hK.below (B := w.heap.size) b0.size (fun k hk => by have := hgs.out; omega))
 have hcx : FitCx W0 h l gh g2 g5 gF W0.heap.size n m cb A B := by
  obtain ⟨e1, e2, e3, e4, e5, e6⟩ := hgs.out
  refine ⟨HKK.out, HAG.out, Hn.out, Hm.out, by omega, by omega, by omega, by omega, by omega, by omega, X2.cell 0, X5.cell 0, (hcell.out W0 b0).2, fun r hr => ?_, by omega, ?_, ?_⟩
  ·obtain ⟨b, off, a, z, y, hA, hbl, r0, r1, r2, Hx⟩ := RowTs.get HB.out.hs.rs hr
   exact ⟨b, off, a, z, y, hA, by omega, by omega, getc b0 r0, getc b0 r1, getc b0 r2, Hx⟩
  ·intro W r s T k c S hK hr hs hI
   have hs256 : s < 256 := Nat.lt_of_lt_of_le hs (Nat.pow_le_pow_right (by decide) hn8 : 2 ^ n ≤ 2 ^ 8)
   exact gap_any W (HB.out.keep (hbel.out W hK)) HKK.out HAG.out hr hI (by rw [← hI.len]; exact bitL_len s hs256) (fun i hi => bit_range n (by omega) s hs i hi)
  intro W lo hi hK
  exact why_any lo hi W (HB.out.keep (hbel.out W hK))
 have hfs : FitSt W0 W0.heap.size gF 169 171 m (fun _ => []) := FitSt.new (by have := hgs.out; omega) (Nat.le_refl _) XF
 have HCX := Lib.hid hcx
 have HFS := Lib.hid hfs
 have HX3 := Lib.hid X3
 have HX2 := Lib.hid X2
 have HX5 := Lib.hid X5
 clear hcx hfs X2 X3 X5 XF b0
 refine fit_outer (N := N) HCX.out hn8 hm3 HN.out.symm HFS.out _ _ _ _ _ _ _ _ _ _ _ _ _ _ _ _ _ _ _ _ _ _ _ _ _ _ _ _ _ _ _ _ _ undef _ _ _ _ _ _ _ _ _ _ _ _ _ _ _ _ _ _ _ _ _ _ _ _ _ _ _ _ _ _ _ _ _ _ _ _ _ _ _ _ _ _ _ _ _ ?_
 intro v6 v7 v8 v9 v10 v26 v27 v28 v29 v30 v31 v32 v33 v34 v35 v36 v37 v38 v39 v40 v41 v42 v43 v44 v45 v46 v47 v48 v49 v50 v51 v52 v53 v54 v55 v56 v57 v58 v59 v60 v61 v62 v63 v64 v65 v66 v67 v68 v69 v70 v71 wl hKl hFl
 have HKL := Lib.hid hKl
 have HFL := Lib.hid hFl
 have c5 := hKl.cell (HX5.out.cell 0) (fun e => by have := hgs.out; dsimp only at e; omega)
 clear hKl hFl
 go_wp2_with fail
 clear c5
 go_loopw [11, 74] (fun _ i' wr => ∃ j : Nat, i' = .int .i64 j ∧ j ≤ m ∧ Hid (Kept (fun k => k = gF ∨ W0.heap.size ≤ k) W0 wr) ∧ Hid (FitRd wr W0.heap.size gF 169 m (fSort h l n j))) (fun _ i' _ => m - (intOf i').toNat)
 case atStart => exact ⟨0, rfl, Nat.zero_le _, HKL.out, HFL.out.rd.congr (fun r _ => by simp [fSort])⟩
 case round =>
  obtain ⟨j, rfl, hj, HK, HF⟩ := hrel
  by_cases hlt : j < m
  ·have hji : (j : Int) < m := by omega
   have hfl : (fSort h l n j j).length ≤ 256 := by
    have e : fSort h l n j j = fitK h l j (2 ^ n) := by simp [fSort]
    rw [e]
    exact Nat.le_trans fitK_len (Nat.pow_le_pow_right (by decide) hn8 : 2 ^ n ≤ 2 ^ 8)
   obtain ⟨v, hv, hcall⟩ := sort_row HF.out hlt hfl
   have HCALL := Lib.hid hcall
   clear hcall hfl
   go_wp2_with fail
   refine Calls.mono HCALL.out ?_
   rintro e w2 ⟨rfl, Y, hP, hS, hF2, hK2⟩
   have hrp : rowP h j < 9 := by
    have hx : h.rows[j]? = some ⟨(h.rows[j]'(by rw [Hm.out]; exact hlt)).frame, (h.rows[j]'(by rw [Hm.out]; exact hlt)).swell, (h.rows[j]'(by rw [Hm.out]; exact hlt)).places⟩ := List.getElem?_eq_getElem (by rw [Hm.out]; exact hlt)
    obtain ⟨_, _, _, _, _, f6⟩ := rowE_zero hx (HKK.out.row (by rw [Hm.out]; exact hlt))
    rw [rowP, getD_of hx]
    dsimp only
    rw [Hn.out] at f6
    omega
   have hYe : Y = fitS h l j := sorted_fit (by rw [Hn.out]; omega) hrp (by rw [Hn.out]; exact (by simpa [fSort] using hP)) (hS.imp (fun {a b} h => by omega))
   have HF2 : Hid (FitRd w2 W0.heap.size gF 169 m (fSort h l n (j + 1))) := hF2.congr (fun r hr => by
    unfold updL fSort
    by_cases e : r = j
    ·subst e; simp [hYe]
    rw [if_neg e]
    by_cases e2 : r < j
    ·rw [if_pos e2, if_pos (by omega)]
    rw [if_neg e2, if_neg (by omega)])
   have HK2 : Hid (Kept (fun k => k = gF ∨ W0.heap.size ≤ k) W0 w2) := HK.out.trans (hK2.mono fun _ _ h => .inr h)
   clear hP hS hF2 hK2 hYe hrp hv
   go_wp2_with fail
   go_roundw
   case rel => exact ⟨j + 1, by go_num, by omega, HK2.out, HF2.out⟩
   case measure => simp [intOf]; omega
  obtain rfl : j = m := by omega
  go_wp2_with fail
  go_ret
  have hne : ∀ k, k ≠ gF → k < W0.heap.size → ¬ (k = gF ∨ W0.heap.size ≤ k) := fun k h1 h2 h3 => by omega
  obtain ⟨e1, e2, e3, e4, e5, e6⟩ := hgs.out
  exact ⟨⟨g2, g5, g3, gF, W0.heap.size, rfl, HK.out.cell HCX.out.c2 (hne g2 (by omega) (by omega)), HK.out.cell HCX.out.c5 (hne g5 (by omega) (by omega)), HK.out.cell (HX3.out.cell 0) (hne g3 (by omega) (by omega)), HK.out.cell HCX.out.c4 (hne gh (by omega) (by omega)), HF.out.congr (fun r hr => by unfold fSort; rw [if_pos hr])⟩, hbel.out _ HK.out⟩
theorem mem_bitL (s : Nat) (i : Int) : i ∈ bitL s ↔ ∃ k : Nat, k < 8 ∧ s.testBit k = true ∧ (k : Int) = i := by
 unfold bitL bitU
 simp only [List.mem_map, List.mem_filter, List.mem_range]
 constructor
 ·rintro ⟨k, ⟨h1, h2⟩, h3⟩; exact ⟨k, h1, h2, h3⟩
 rintro ⟨k, h1, h2, h3⟩; exact ⟨k, ⟨h1, h2⟩, h3⟩
theorem and_bitL {u s : Nat} (hu : u < 256) : (u &&& s = 0) ↔ (bitL s).all (fun i => !decide (i ∈ bitL u)) = true := by
 rw [List.all_eq_true]
 constructor
 ·intro h i hi
  simp only [Bool.not_eq_true', decide_eq_false_iff_not]
  intro hj
  obtain ⟨k, hk, hb, rfl⟩ := (mem_bitL s i).1 hi
  obtain ⟨k', hk', hb', e⟩ := (mem_bitL u _).1 hj
  have e2 : k' = k := by omega
  subst e2
  have := Nat.testBit_and u s k'
  rw [h, hb, hb'] at this
  simp at this
 intro h
 refine Nat.eq_of_testBit_eq fun k => ?_
 rw [Nat.testBit_and, Nat.zero_testBit]
 by_cases hk : k < 8
 ·cases hb : s.testBit k
  ·simp
  have := h (k : Int) ((mem_bitL s _).2 ⟨k, hk, hb, rfl⟩)
  simp only [Bool.not_eq_true', decide_eq_false_iff_not] at this
  cases hb' : u.testBit k
  ·rfl
  exact absurd ((mem_bitL u _).2 ⟨k, hk, hb', rfl⟩) this
 have : u.testBit k = false := Nat.testBit_lt_two_pow (Nat.lt_of_lt_of_le hu (Nat.pow_le_pow_right (by decide) (by omega) : 2 ^ 8 ≤ 2 ^ k))
 rw [this]; rfl
theorem or_bitL (u s : Nat) (i : Int) : i ∈ bitL (u ||| s) ↔ i ∈ bitL u ++ bitL s := by
 rw [List.mem_append, mem_bitL, mem_bitL, mem_bitL]
 simp only [Nat.testBit_or, Bool.or_eq_true]
 constructor
 ·rintro ⟨k, h1, h2 | h2, h3⟩
  ·exact .inl ⟨k, h1, h2, h3⟩
  exact .inr ⟨k, h1, h2, h3⟩
 rintro (⟨k, h1, h2, h3⟩ | ⟨k, h1, h2, h3⟩)
 ·exact ⟨k, h1, .inl h2, h3⟩
 exact ⟨k, h1, .inr h2, h3⟩
theorem or_lt256 {u s : Nat} (hu : u < 256) (hs : s < 256) : u ||| s < 256 := Nat.or_lt_two_pow (n := 8) hu hs
def layP (h : Hall) (l : List Seen) : Nat → Nat → Int → List (List (List Int) × Int)
 | 0, _, before => [([], before)]
 | k + 1, u, before => (fitS h l (h.rows.length - (k + 1))).flatMap fun x => if u &&& x.1 = 0 then (layP h l k (u ||| x.1) (max before x.2)).map (headL (bitL x.1)) else []
theorem layL_congr (h : Hall) (l : List Seen) : ∀ (k : Nat) (a b : List Int) (g : Int), (∀ i, i ∈ a ↔ i ∈ b) → layL h l k a g = layL h l k b g := by
 intro k
 induction k with
 | zero => intro a b g _; rfl
 | succ k ih =>
  intro a b g hab
  rw [layL, layL]
  congr 1
  funext x
  have e : (x.all fun i => !decide (i ∈ a)) = (x.all fun i => !decide (i ∈ b)) := by
   congr 1; funext i; rw [decide_eq_decide.2 (hab i)]
  rw [e]
  by_cases hx : (x.all fun i => !decide (i ∈ b)) = true
  ·rw [if_pos hx, if_pos hx, ih (a ++ x) (b ++ x) _ (fun i => by simp [hab i])]
  rw [if_neg hx, if_neg hx]
theorem layP_layL {h : Hall} {l : List Seen} (hn : h.tiles.length < 9) (hp : ∀ r, r < h.rows.length → rowP h r < 9) : ∀ (k u : Nat) (g : Int), k ≤ h.rows.length → u < 256 → layP h l k u g = layL h l k (bitL u) g := by
 have h256 : ∀ s, s < 2 ^ h.tiles.length → s < 256 := fun s hs => Nat.lt_of_lt_of_le hs (Nat.pow_le_pow_right (by decide) (by omega : h.tiles.length ≤ 8) : 2 ^ h.tiles.length ≤ 2 ^ 8)
 intro k
 induction k with
 | zero => intro u g _ _; rfl
 | succ k ih =>
  intro u g hk hu
  rw [layP, layL, fitS, List.flatMap_map]
  have key : ∀ X : List (List Int), (∀ x ∈ X, x ∈ fitL h l (h.rows.length - (k + 1))) → (X.flatMap fun x => if u &&& encL x = 0 then (layP h l k (u ||| encL x) (max g (gap8 h l (h.rows.length - (k + 1)) x).2)).map (headL (bitL (encL x))) else []) =
    X.flatMap fun x => if (x.all fun i => !decide (i ∈ bitL u)) = true then (layL h l k (bitL u ++ x) (max g (gap8 h l (h.rows.length - (k + 1)) x).2)).map (headL x) else [] := by
   intro X
   induction X with
   | nil => intro _; rfl
   | cons x X ihX =>
    intro hX
    rw [List.flatMap_cons, List.flatMap_cons, ihX (fun y hy => hX y (List.mem_cons_of_mem _ hy))]
    congr 1
    obtain ⟨a, b, _, _⟩ := fit_lt hn (hp _ (by omega)) (hX x List.mem_cons_self)
    have hb := and_bitL (s := encL x) hu
    rw [b] at hb
    by_cases h0 : u &&& encL x = 0
    ·rw [if_pos h0, if_pos (hb.1 h0), b, ih _ _ (by omega) (or_lt256 hu (h256 _ a)), layL_congr h l k (bitL (u ||| encL x)) (bitL u ++ x) _ (fun i => by rw [or_bitL, b])]
    rw [if_neg h0, if_neg (fun hh => h0 (hb.2 hh))]
  exact key _ (fun x hx => hx)
end Go.Proofs.YtdbfincinjoppaaGreat
