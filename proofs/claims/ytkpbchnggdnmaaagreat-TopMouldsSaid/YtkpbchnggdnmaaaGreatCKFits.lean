/- A part of the proof that TopMoulds always answers true. -/
import Derived.Test.YtkpbchnggdnmaaaGreatCKFit
import Derived.Test.YtkpbchnggdnmaaaGreatCPure
set_option linter.all false
namespace Go.Proofs.YtkpbchnggdnmaaaGreat
open Go.RowKit Go.Shelf
def fitB (s : Shop) (l : List SeenC) (a z : Int) (p : Nat × Nat) : Bool := !(outB a z (size7 s l p.1 p.2).1 || outB a z (size7 s l p.1 p.2).2)
def fitU (s : Shop) (l : List SeenC) (a z : Int) (m j : Nat) : List (Nat × Nat) := ((((List.range m).flatMap fun m => (List.range (castsN s m)).map fun c => (m, c))) ++ (List.range j).map fun c => (m, c)).filter (fitB s l a z)
theorem fitU_zero (s : Shop) (l : List SeenC) (a z : Int) : fitU s l a z 0 0 = [] := rfl
theorem fitU_yes {s : Shop} {l : List SeenC} {a z : Int} {m j : Nat} (h : fitB s l a z (m, j) = true) : fitU s l a z m (j + 1) = fitU s l a z m j ++ [(m, j)] := by
 unfold fitU; rw [List.range_succ, List.map_append, ← List.append_assoc, List.filter_append, List.map_cons, List.map_nil, List.filter_cons_of_pos h, List.filter_nil]
theorem fitU_no {s : Shop} {l : List SeenC} {a z : Int} {m j : Nat} (h : fitB s l a z (m, j) = false) : fitU s l a z m (j + 1) = fitU s l a z m j := by
 unfold fitU; rw [List.range_succ, List.map_append, ← List.append_assoc, List.filter_append, List.map_cons, List.map_nil, List.filter_cons_of_neg (by rw [h]; decide), List.filter_nil, List.append_nil]
theorem fitU_next (s : Shop) (l : List SeenC) (a z : Int) (m : Nat) : fitU s l a z m (castsN s m) = fitU s l a z (m + 1) 0 := by
 unfold fitU; rw [List.range_succ (n := m), List.flatMap_append, List.flatMap_singleton, List.range_zero, List.map_nil, List.append_nil]
theorem fitU_len {s : Shop} {l : List SeenC} {a z : Int} (hk : OkS s) : ∀ m j, m < s.moulds.length → j ≤ castsN s m → (fitU s l a z m j).length ≤ m * 8 + j := by
 intro m j hm hj
 unfold fitU
 refine Nat.le_trans (List.length_filter_le _ _) ?_
 rw [List.length_append, List.length_map, List.length_range]
 have key : ∀ k, k ≤ m → ((List.range k).flatMap fun m => (List.range (castsN s m)).map fun c => (m, c)).length ≤ k * 8 := by
  intro k
  induction k with
  | zero => intro _; simp
  | succ k ih =>
   intro hk2
   rw [List.range_succ, List.flatMap_append, List.length_append, List.flatMap_singleton, List.length_map, List.length_range]
   have := ih (by omega)
   have := (castsN_bd hk (m := k) (by omega)).2.1
   omega
 have := key m (Nat.le_refl _)
 omega
theorem madeL_ne {s : Shop} {l : List SeenC} {m c : Nat} (hk : known7 s l ≠ []) (hm : m < s.moulds.length) : madeK s l (known7 s l) m c ≠ [] := by
 obtain ⟨k, hk1⟩ := List.exists_mem_of_ne_nil _ hk
 obtain ⟨p, hp⟩ := List.exists_mem_of_ne_nil _ (known7_two (known7_mem hk1).2 hm)
 refine List.ne_nil_of_mem (a := made7 p.1 p.2 c k) ?_
 unfold madeK
 exact List.mem_flatMap.2 ⟨k, hk1, List.mem_map.2 ⟨p, hp, rfl⟩⟩
theorem size7_bd {s : Shop} {l : List SeenC} {m c : Nat} (hok : OkS s) (hk : known7 s l ≠ []) (hm : m < s.moulds.length) (hc : c ≤ 8) : 1 ≤ (size7 s l m c).1 ∧ (size7 s l m c).1 ≤ (size7 s l m c).2 ∧ (size7 s l m c).2 ≤ 20160 := by
 have hne := madeL_ne (c := c) hk hm
 obtain ⟨g1, g2, g3⟩ := endsOfK_bd hne
 have hp := madeK_pos (l := l) (ks := known7 s l) hok hm hc (fun k hk => (known7_mem hk).1)
 have h1 := hp _ g2
 have h2 := hp _ g3
 have h3 := (g1 _ g2).2
 exact ⟨h1.1, h3, h2.2⟩
theorem fitU_all {s : Shop} {l : List SeenC} {a z : Int} (hok : OkS s) (hk : known7 s l ≠ []) : fitU s l a z s.moulds.length 0 = fit7 s l a z := by
 unfold fitU fit7 placesL
 rw [List.range_zero, List.map_nil, List.append_nil]
 refine List.filter_congr fun p hp => ?_
 obtain ⟨m, hm, hp⟩ := List.mem_flatMap.1 hp
 obtain ⟨c, hc, rfl⟩ := List.mem_map.1 hp
 have hm := List.mem_range.1 hm
 have hc := List.mem_range.1 hc
 have hcb := (castsN_bd hok hm).2.1
 have hb := size7_bd (c := c) hok hk hm (by omega)
 unfold fitB
 dsimp only
 unfold outB
 generalize (size7 s l m c).1 = x at *
 generalize (size7 s l m c).2 = y at *
 rw [Bool.eq_iff_iff]
 simp
 omega
theorem infoPl7 : (Tryz.prog.info? 50).map (fun i => (i.zero, i.size, i.bytes)) = some (some (.agg #[.int .i64 0, .int .i64 0]), 2, 16) := by kernel_rfl
theorem blk_news2 {w : World} {g : Nat} {t : TypeId} {x y : Value} (h : Blk w g t #[x, y]) {j : Nat} {v : Value} (hv : [x, y][j]? = some v) : w.cell? ((⟨g, 0, none⟩ : Addr).add j) = some v := by
 rw [add_at, h.cell, Nat.zero_add]
 simpa using hv
def PlsE (B : Nat) (xs : List (Nat × Nat)) (e : Ending) (w' : World) : Prop := ∃ A c, e = .returned (.slice A xs.length c) ∧ Pls (fun k => B ≤ k) w' A xs.length xs
set_option maxRecDepth 100000 in
set_option maxHeartbeats 4000000 in
theorem kfits_any {Ad C : Option Addr} {n ca q cc gh : Nat} {s : Shop} {l : List SeenC} (hok : OkS s) (hk : known7 s l ≠ []) (a z : Int) (w : World) (g : SBox w gh Ad n ca C q cc s l) :
  Calls Tryz.prog 53 #[.pointer (some ⟨gh, 0, none⟩), .agg #[.int .i64 a, .int .i64 z]] w fun e w' => PlsE w.heap.size (fit7 s l a z) e w' ∧ Below w.heap.size w w' := by
 obtain ⟨iP, hiP, hzP0, hzP1, hzP2⟩ := info_parts infoPl7
 obtain ⟨W, hW⟩ : ∃ W, w.alloc (.cells #[.int .i64 a, .int .i64 z] 23) = W := ⟨_, rfl⟩
 obtain ⟨g3, hg3⟩ : ∃ g, w.heap.size = g := ⟨_, rfl⟩
 have X : Blk W g3 23 #[.int .i64 a, .int .i64 z] := by rw [← hW, ← hg3]; exact Blk.new _ _ _ rfl
 have hBW : Below w.heap.size w W := by rw [← hW]; exact bl_alloc (Below.refl _ _) _ (Nat.le_refl _)
 have hWs : w.heap.size ≤ W.heap.size := hBW.size
 have gW := g.bl hBW
 have HG := Lib.hid gW
 have HX := Lib.hid X
 have HBW := Lib.hid hBW
 have Hn := Lib.hid gW.ms.len
 have hle := gW.ms.le
 have hn4 : n ≤ 4 := by have := hok.nm; have := gW.ms.len; omega
 have y2 : W.cell? ⟨gh, 2, none⟩ = some (.slice Ad n ca) := by obtain ⟨⟨D, kc, hB, _⟩, _⟩ := gW; exact (hB.cell 2).trans shopC_2
 have yl : gh < W.heap.size := World.block_lt_of_cell? _ _ y2
 have hsz3 : g3 ≤ w.heap.size ∧ w.heap.size ≤ g3 := by omega
 clear g gW X hBW
 go_enter Tryz.func53, Tryz.ntmps53
 go_wp2_with fail
 clear hW y2 hg3
 go_loopw [4, 5, 6, 7, 8, 15, 22] (fun lv _ _ _ _ i' _ wr => ∃ (m c ln : Nat) (An : Option Addr), i' = .int .i64 m ∧ m ≤ n ∧ lv = .slice An ln c ∧ Hid ((fitU s l a z m 0).length = ln) ∧ Hid (OwnL PlR 2 (fun _ => False) wr W.heap.size 50 (.slice An ln c) (fitU s l a z m 0)) ∧ Hid (Below W.heap.size W wr)) (fun _ _ _ _ _ i' _ _ => n - (intOf i').toNat)
 case atStart => exact ⟨0, 0, 0, none, rfl, Nat.zero_le _, rfl, rfl, by rw [fitU_zero]; exact OwnL.nil _ _ _ _ _ _, Below.refl _ _⟩
 case round =>
  obtain ⟨m, c, ln, An, rfl, hm, rfl, HL, HO, HB⟩ := hrel
  by_cases hlt : m < n
  ·have hmi : (m : Int) < n := by omega
   have hmS : m < s.moulds.length := by rw [Hn.out]; exact hlt
   obtain ⟨b, off, sn, a1, z1, y1, u1, c5, rfl, hb0, hd0, hd1, hd2, hd3, hd4, hd5, hs, Hx⟩ := Moulds.get (HG.out.ms.keep MouldR.good (Keeps.below HB.out)) hlt
   have hcs : (castsN s m : Int) = c5 := by have := (castsN_bd hok hmS).2.2; rw [this, getD_of Hx.out]
   have hcb : castsN s m ≤ 8 := (castsN_bd hok hmS).2.1
   have HCS := Lib.hid hcs
   obtain ⟨V, hV⟩ : ∃ V, wr.alloc (.cells #[.string sn, .int .i64 a1, .int .i64 z1, .int .i64 y1, .int .i64 u1, .int .i64 c5] 44) = V := ⟨_, rfl⟩
   have bV : Below wr.heap.size wr V := by rw [← hV]; exact bl_alloc (Below.refl _ _) _ (Nat.le_refl _)
   have HBV : Hid (Below W.heap.size W V) := bl_call HB.out bV (Nat.le_refl _)
   have HOV : Hid (OwnL PlR 2 (fun _ => False) V W.heap.size 50 (.slice An ln c) (fitU s l a z m 0)) := HO.out.below PlR.good bV
   have hM : Blk V wr.heap.size 44 #[.string sn, .int .i64 a1, .int .i64 z1, .int .i64 y1, .int .i64 u1, .int .i64 c5] := by rw [← hV]; exact Blk.new _ _ _ rfl
   have m5 := hM.cell 5
   have ml := hM.lt
   have hm4 : (m : Int) < 4 := by omega
   clear bV hM HB HO hcs
   go_wp2_with fail
   clear hV m5 ml hd0 hd1 hd2 hd3 hd4 hd5 hb0
   go_loopw [4, 7, 8, 22] (fun lv _ _ i' wr => ∃ (j c ln : Nat) (An : Option Addr), i' = .int .i64 j ∧ j ≤ castsN s m ∧ lv = .slice An ln c ∧ Hid ((fitU s l a z m j).length = ln) ∧ Hid (OwnL PlR 2 (fun _ => False) wr W.heap.size 50 (.slice An ln c) (fitU s l a z m j)) ∧ Hid (Below W.heap.size W wr)) (fun _ _ _ i' _ => castsN s m - (intOf i').toNat)
   case atStart => exact ⟨0, c, ln, An, rfl, Nat.zero_le _, rfl, HL, HOV, HBV⟩
   case round =>
    clear HOV HBV HL
    obtain ⟨j, c, ln, An, rfl, hj, rfl, HL, HO, HB⟩ := hrel
    by_cases hlt2 : j < castsN s m
    ·have hji : (j : Int) < c5 := by have := HCS.out; omega
     have hj8 : (j : Int) < 8 := by omega
     obtain ⟨v1, v2, hv⟩ : ∃ v1 v2, size7 s l m j = (v1, v2) := ⟨_, _, rfl⟩
     obtain ⟨⟨D, kc, hB, _⟩, _⟩ := HG.out.bl HB.out
     have u0 := hB.cell (4 + (m * 8 + j) * 2)
     have u1 := hB.cell (4 + ((m * 8 + j) * 2 + 1))
     rw [shopC_in (cellsS_lo _ (by omega)), sizeF_at hmS hlt2 (by omega), hv] at u0
     rw [shopC_in (cellsS_hi _ (by omega)), sizeF_at hmS hlt2 (by omega), hv] at u1
     rw [show 4 + (m * 8 + j) * 2 = 4 + m * 16 + j * 2 by omega] at u0
     rw [show 4 + ((m * 8 + j) * 2 + 1) = 4 + m * 16 + j * 2 + 1 by omega] at u1
     dsimp only at u0 u1
     have ghl := hB.lt
     obtain ⟨ob, hob⟩ : ∃ ob, (outB a z v1 || outB a z v2) = ob := ⟨_, rfl⟩
     have HF : Hid (fitB s l a z (m, j) = !ob) := by rw [Hid, fitB]; dsimp only; rw [hv, hob]
     obtain ⟨V, hV⟩ : ∃ V, wr.alloc (.cells #[.int .i64 v1, .int .i64 v2] 23) = V := ⟨_, rfl⟩
     obtain ⟨gz, hgz⟩ : ∃ g, wr.heap.size = g := ⟨_, rfl⟩
     have bV : Below wr.heap.size wr V := by rw [← hV]; exact bl_alloc (Below.refl _ _) _ (Nat.le_refl _)
     have HBV : Hid (Below W.heap.size W V) := bl_call HB.out bV (Nat.le_refl _)
     have HOV : Hid (OwnL PlR 2 (fun _ => False) V W.heap.size 50 (.slice An ln c) (fitU s l a z m j)) := HO.out.below PlR.good bV
     have hZ : Blk V gz 23 #[.int .i64 v1, .int .i64 v2] := by rw [← hV, ← hgz]; exact Blk.new _ _ _ rfl
     have k0 := hZ.cell 0
     have k1 := hZ.cell 1
     have kl := hZ.lt
     have x0 := (HX.out.bl HBV.out).cell 0
     have x1 := (HX.out.bl HBV.out).cell 1
     have xl := (HX.out.bl HBV.out).lt
     have hln : (fitU s l a z m j).length ≤ 32 := by have := fitU_len (l := l) (a := a) (z := z) hok m j hmS (by omega); omega
     have HLN := Lib.hid hln
     clear hB bV hZ hv HB HO hln
     go_wp2_with fail
     clear hV hgz u0 u1 k0 k1 x0 x1
     refine (kout2 _ (by exact newc rfl rfl) (by exact newc rfl rfl) hob).mono ?_
     rintro e V2 ⟨rfl, b2⟩
     have b12 : Below V.heap.size V V2 := bl_call (bl_alloc (Below.refl _ _) _ (Nat.le_refl _)) b2 (Nat.le_refl _)
     have HB2 : Hid (Below W.heap.size W V2) := bl_call HBV.out b12 (Nat.le_refl _)
     have HO2 : Hid (OwnL PlR 2 (fun _ => False) V2 W.heap.size 50 (.slice An ln c) (fitU s l a z m j)) := HOV.out.below PlR.good b12
     clear b2 b12 HBV HOV hob kl
     cases ob with
     | true =>
      have HN : Hid (fitU s l a z m (j + 1) = fitU s l a z m j) := fitU_no HF.out
      go_wp2_with fail
      go_roundw
      case rel => exact ⟨j + 1, c, ln, An, by go_num, by omega, rfl, by rw [HN.out]; exact HL, by rw [HN.out]; exact HO2, HB2⟩
      case measure => simp [intOf]; omega
     | false =>
      have HN : Hid (fitU s l a z m (j + 1) = fitU s l a z m j ++ [(m, j)]) := fitU_yes HF.out
      have hl32 : ln ≤ 32 := by rw [← HL.out]; exact HLN.out
      go_wp2_with (at_builtin; refine wpList_append_n _ rfl (.tmp 44) (.tmp 48) _ rfl PlR.good W.heap.size 50 iP _ 16 Tryz.underlying45 hiP hzP0 hzP1 hzP2 rfl (by omega) (.slice An ln c) (fitU s l a z m j) (m, j) ln HL.out rfl (HO2.out.alloc PlR.good _) ⟨_, 0, none⟩ 1 [.int .i64 (m : Int), .int .i64 (j : Int)] rfl rfl (fun j v hv => blk_news2 (Blk.new _ _ _ rfl) hv) ?c1 ?c2 ?c3 (fun h => h) ?_)
      case c1 => simp only [maxLen]; omega
      case c2 => omega
      case c3 => have := HB2.out.size; simp; omega
      intro A' cap' w3 hown2 hg2 hat2
      have hB3 : Below W.heap.size W w3 := bl_grown (bl_alloc HB2.out _ (Nat.le_refl _)) (HO2.out.alloc PlR.good _) hg2 (Nat.le_refl _) (Nat.le_refl _)
      have HO3 : Hid (OwnL PlR 2 (fun _ => False) w3 W.heap.size 50 (.slice (some ⟨A', 0, none⟩) (ln + 1) cap') (fitU s l a z m (j + 1))) := by rw [Hid, HN.out]; exact hown2
      have HL3 : Hid ((fitU s l a z m (j + 1)).length = ln + 1) := by rw [Hid, HN.out, List.length_append, HL.out]; rfl
      have HB3 := Lib.hid hB3
      clear hown2 hg2 hat2 hB3
      go_wp2_with fail
      go_roundw
      case rel => exact ⟨j + 1, cap', ln + 1, some ⟨A', 0, none⟩, by go_num, by omega, by simp, HL3, HO3, HB3⟩
      case measure => simp [intOf]; omega
    obtain rfl : j = castsN s m := by omega
    have hji : ¬ ((castsN s m : Nat) : Int) < c5 := by have := HCS.out; omega
    go_wp2_with fail
    go_roundw
    case rel => exact ⟨m + 1, c, ln, An, by go_num, by omega, rfl, by rw [← fitU_next]; exact HL, by rw [← fitU_next]; exact HO, HB⟩
    case measure => simp [intOf]; omega
  obtain rfl : m = n := by omega
  have hmi : ¬ ((m : Int)) < m := by omega
  have hfl : fitU s l a z m 0 = fit7 s l a z := by rw [← Hn.out]; exact fitU_all hok hk
  rw [hfl] at HL HO
  clear hfl
  go_wp2_with fail
  go_ret
  have hl32 : ln ≤ 40 := by
   rw [← HL.out]
   exact Nat.le_trans (List.length_filter_le _ _) (Nat.le_trans (places_len hok) (by decide))
  have hp : Pls (fun k => w.heap.size ≤ k) wr An ln (fit7 s l a z) := HO.out.slice PlR.good rfl (by simp only [maxLen]; omega) (fun _ h => h.elim) (fun k h1 _ => by omega)
  have hL := HL.out
  subst hL
  exact ⟨⟨An, c, rfl, hp⟩, bl_call HBW.out HB.out (Nat.le_refl _)⟩
def lexL : Nat → List Int → List (List Int)
 | 0, _ => [[]]
 | _ + 1, [] => []
 | k + 1, x :: of => ((lexL k of).map (x :: ·)) ++ lexL (k + 1) of
def numbersL (n : Nat) : List Int := (List.range n).map fun i : Nat => (i : Int)
theorem lex_sub : ∀ (k : Nat) (of : List Int) (x : List Int), x ∈ lexL k of → x.Sublist of ∧ x.length = k := by
 intro k of
 induction of generalizing k with
 | nil =>
  intro x hx
  cases k with
  | zero => simp [lexL] at hx; subst hx; exact ⟨List.Sublist.refl _, rfl⟩
  | succ k => simp [lexL] at hx
 | cons y of ih =>
  intro x hx
  cases k with
  | zero => simp [lexL] at hx; subst hx; exact ⟨List.nil_sublist _, rfl⟩
  | succ k =>
   rw [lexL, List.mem_append] at hx
   rcases hx with hx | hx
   ·obtain ⟨u, hu, rfl⟩ := List.mem_map.1 hx
    obtain ⟨h1, h2⟩ := ih k u hu
    exact ⟨h1.cons_cons y, by simp [h2]⟩
   obtain ⟨h1, h2⟩ := ih (k + 1) x hx
   exact ⟨h1.cons y, h2⟩
abbrev Pl := Nat × Nat
def ofL (f : List (Pl × Int)) (a : Pl) : Option Int := (f.find? fun p => decide (p.1 = a)).map (·.2)
def seekL (o : List (List Pl)) (ok : Pl → Bool) : Nat → List Pl → Nat → List (Pl × Int) → List Pl → Bool × List (Pl × Int) × List Pl
 | 0, _, _, f, met => (false, f, met)
 | _ + 1, [], _, f, met => (false, f, met)
 | n + 1, a :: rest, i, f, met =>
  if !ok a || met.contains a then seekL o ok n rest i f met else
  match ofL f a with
  | none => (true, (a, (i : Int)) :: f, a :: met)
  | some k =>
   if k < 0 then seekL o ok n rest i f (a :: met) else
   if (seekL o ok n (o.getD k.toNat []) k.toNat f (a :: met)).1 then (true, (a, (i : Int)) :: (seekL o ok n (o.getD k.toNat []) k.toNat f (a :: met)).2.1, (seekL o ok n (o.getD k.toNat []) k.toNat f (a :: met)).2.2)
   else seekL o ok n rest i (seekL o ok n (o.getD k.toNat []) k.toNat f (a :: met)).2.1 (seekL o ok n (o.getD k.toNat []) k.toNat f (a :: met)).2.2
def seekF : Nat := 2000
def giveK (o : List (List Pl)) (ok : Pl → Bool) (is : Nat → Bool) (fixed : List Pl) (k : Nat) : Nat × List (Pl × Int) :=
 (List.range k).foldl (fun s i => if is i then (if (seekL o ok seekF (o.getD i []) i s.2 []).1 then (s.1 + 1, (seekL o ok seekF (o.getD i []) i s.2 []).2.1) else (s.1, (seekL o ok seekF (o.getD i []) i s.2 []).2.1)) else s) (0, fixed.map fun a => (a, (-1 : Int)))
def giveR (o : List (List Pl)) (ok : Pl → Bool) (is : Nat → Bool) (fixed : List Pl) : Nat := (giveK o ok is fixed o.length).1
def setsL (n : Nat) : List (List Int) := (List.range (n + 1)).flatMap fun k => lexL k (numbersL n)
def hasN (l : List Int) (i : Nat) : Bool := decide ((i : Int) ∈ l)
def planK (o : List (List Pl)) (set : List Int) (k : Nat) : List Pl :=
 (List.range k).foldl (fun plan i =>
  match (o.getD i []).find? fun a => hasN set a.1 && !plan.contains a && decide (giveR o (fun p => hasN set p.1) (fun j => decide (i < j)) (plan ++ [a]) = o.length - i - 1) with
  | some a => plan ++ [a]
  | none => plan) []
def orderE (s : Shop) (l : List SeenC) (p : List (Int × Int)) : Int :=
 if (seen7 s l).2 ≠ 0 then (seen7 s l).2 else
 if ¬ (1 ≤ p.length ∧ p.length ≤ 6) then 3 else
 match firstErr (fun k => rangeE ⟨(p.getD k (0, 0)).1, (p.getD k (0, 0)).2⟩ 0 20000) p.length with
 | some (_, e) => e
 | none => if known7 s l = [] then 9 else 0
def allL (s : Shop) (l : List SeenC) (p : List (Int × Int)) : List (List Pl) := p.map fun x => fit7 s l x.1 x.2
def planR (s : Shop) (l : List SeenC) (p : List (Int × Int)) : List Pl × List Int × Int :=
 if orderE s l p ≠ 0 then ([], [], orderE s l p) else
 match (setsL s.moulds.length).find? fun set => !decide (giveR (allL s l p) (fun a => hasN set a.1) (fun _ => true) [] < p.length) with
 | some set => (planK (allL s l p) set p.length, set, 0)
 | none => ([], [], 8)
def lacksR (s : Shop) (l : List SeenC) (p : List (Int × Int)) : List Int × Int :=
 if orderE s l p ≠ 0 then ([], orderE s l p) else
 match (setsL p.length).find? fun set => decide (giveR (allL s l p) (fun _ => true) (fun i => hasN set i) [] < set.length) with
 | some set => (set, 0)
 | none => ([], 4)
def someK (o : List (List Pl)) (k : Nat) : List Int :=
 (List.range k).foldl (fun set i => if giveR o (fun _ => true) (fun j => hasN set j || decide (j = i)) [] = set.length + 1 then set ++ [(i : Int)] else set) []
def someR (s : Shop) (l : List SeenC) (p : List (Int × Int)) : List Int × Int :=
 if orderE s l p ≠ 0 then ([], orderE s l p) else (someK (allL s l p) p.length, 0)
def lackB (all : List (List Pl)) (pieces : List Int) : Bool := decide ((pieces.foldl (fun some i => (all.getD i.toNat []).foldl (fun some a => if a ∈ some then some else some ++ [a]) some) ([] : List Pl)).length < pieces.length)
def fewestL (all : List (List Pl)) : Option (List Int) := ((List.range all.length).flatMap fun k => lexL (k + 1) (numbersL all.length)).find? (lackB all)
end Go.Proofs.YtkpbchnggdnmaaaGreat
