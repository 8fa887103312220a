/- A part of the proof that TopMoulds always answers true. -/
import Derived.Test.YtkpbchnggdnmaaaGreatCOrCosts
import Derived.Test.YtkpbchnggdnmaaaGreatCOrP
import Derived.Test.YtkpbchnggdnmaaaGreatCOrPlanF
import Derived.Test.YtkpbchnggdnmaaaGreatCOrProm
set_option linter.all false
namespace Go.Proofs.YtkpbchnggdnmaaaGreat
open Go.RowKit Go.Shelf
theorem ex11_ok : Ok11 exShop11 where
 nh := by decide
 np := by decide
 no := by decide
 hours := by decide
 names := by decide +kernel
 parts := by
  intro p hp
  simp only [exShop11, List.mem_cons, List.not_mem_nil, or_false] at hp
  rcases hp with rfl | rfl <;> (unfold PartOk; decide)
 orders := by
  intro o ho
  simp only [exShop11, List.mem_cons, List.not_mem_nil, or_false] at ho
  rcases ho with rfl | rfl | rfl | rfl <;> (unfold OrdOk; decide)
theorem ex11_taken {t : List Int} (h1 : ∀ i ∈ t, 0 ≤ i ∧ i < 4) (h2 : t.Pairwise (· < ·)) : TakenOk exShop11 t := ⟨fun i hi => by have := h1 i hi; exact ⟨this.1, by show i < ((4 : Nat) : Int); omega⟩, h2⟩
theorem ex11_t4 : TakenOk exShop11 [0, 1, 2, 3] := ex11_taken (by decide) (by decide)
theorem ex11_t3 : TakenOk exShop11 [0, 1, 2] := ex11_taken (by decide) (by decide)
theorem ex11_u3 : TakenOk exShop11 [1, 2, 3] := ex11_taken (by decide) (by decide)
def exL : List (Int × Int) := [(0, 1), (1, 1), (1, 4), (1, 4)]
theorem ex11_list : listP exShop11 (ordsL exShop11 [0, 1, 2]) 5 = exL := by decide +kernel
theorem ex11_plan : planO exShop11 exL = [(0, 0), (1, 1), (1, 1), (1, 3)] := by decide +kernel
theorem ex11_kept : keptR exShop11 (ordsL exShop11 [0, 1, 2]) [(0, 0), (1, 1), (1, 1), (1, 3)] 1 5 = [0, 2, 2, 4, 1] := by decide +kernel
theorem ex11_prom : leastN (fun d => decide ((lateR exShop11 (ordsL exShop11 [1, 2, 3] ++ [⟨1, 3, (d : Int), 0⟩])).2 = 0)) 5 = 4 := by decide +kernel
theorem ex11_down : leastN (fun d => decide ((lateR exShop11 (ordsL exShop11 [1, 2, 3] ++ [⟨0, 3, (d : Int), 0⟩])).2 = 0)) 5 = 5 := by decide +kernel
theorem ex11_best : bestO (setsU exShop11 0 0 (2 ^ 4)) = ([1, 2, 3], 220) := by decide +kernel
theorem ex11_cost : mostW (setsU exShop11 0 2 (2 ^ 4)) - withW 40 (setsU exShop11 2 0 (2 ^ 4)) = 30 ∧ 0 ≤ withW 40 (setsU exShop11 2 0 (2 ^ 4)) := by decide +kernel
theorem and_two : ∀ k : Nat, k < 256 → bits BinOp.and IntKind.i64 (k : Int) ((2 : Nat) : Int) = ((k &&& 2 : Nat) : Int) := by decide +kernel
theorem ex11_in : InO exL := by
 refine ⟨by decide, fun k a b h1 h2 => ?_⟩
 match k, h1, h2 with
 | 0, h1, h2 => injection h1 with h1; injection h2 with h2; subst h1 h2; decide
 | 1, h1, h2 => injection h1 with h1; injection h2 with h2; subst h1 h2; decide
 | 2, h1, h2 => injection h1 with h1; injection h2 with h2; subst h1 h2; decide
 | k + 3, h1, h2 => simp [exL] at h2
open Go.RowKit Go.Shelf
theorem in11_any (n lo hi : Int) (w : World) :
  Calls Tryz.prog 17 #[.int .i64 n, .int .i64 lo, .int .i64 hi] w fun e w' => e = .returned (.bool (inB n lo hi)) ∧ w = w' := by
 go_enter Tryz.func17, Tryz.ntmps17
 go_wp2
 all_goals
  go_ret
  exact ⟨ret_bool (by simp [inB, *]; try omega), rfl⟩
theorem infoStr11 : (Tryz.prog.info? 9).map (fun i => (i.zero, i.size, i.bytes)) = some (some (.string ByteArray.empty), 1, 16) := by kernel_rfl
def Said11 (s : Shop11) (B : World) (e : Ending) (w' : World) : Prop := (∃ p i ev : Int, e = .returned (.tuple #[.int .i64 p, .int .i64 i, .int .i64 ev]) ∧ (ev = 0 → Ok11 s)) ∧ Below B.heap.size B w'
theorem Said11.bad {s : Shop11} {B w' : World} {p i ev : Int} (h : ev ≠ 0) (hb : Below B.heap.size B w') : Said11 s B (.returned (.tuple #[.int .i64 p, .int .i64 i, .int .i64 ev])) w' := ⟨⟨p, i, ev, rfl, fun e => absurd e h⟩, hb⟩
set_option maxHeartbeats 4000000 in
set_option maxRecDepth 100000 in
theorem rcheck11_any {H P Q : Option Addr} {hn hc pn pc on oc : Nat} {s : Shop11} (w : World) (g : ShopO (fun _ => True) w H hn P pn Q on s) :
  Calls Tryz.prog 5 #[.agg #[.slice H hn hc, .slice P pn pc, .slice Q on oc]] w (Said11 s w) := by
 have hlh := g.hs.le
 have hlp := g.ps.le
 have hlq := g.os.le
 have HHn := Lib.hid g.hs.len
 have HPn := Lib.hid g.ps.len
 have HQn := Lib.hid g.os.len
 obtain ⟨i0, hi0, hz0, hz1, hz2⟩ := info_parts infoStr11
 obtain ⟨gc, hgc⟩ : ∃ q, w.heap.size = q := ⟨_, rfl⟩
 obtain ⟨W, hW⟩ : ∃ W, w.alloc (.cells #[.slice H hn hc, .slice P pn pc, .slice Q on oc] 31) = W := ⟨_, rfl⟩
 have X : Blk W gc 31 #[.slice H hn hc, .slice P pn pc, .slice Q on oc] := by rw [← hW]; exact Blk.new _ _ _ hgc.symm
 have hBW : Below w.heap.size w W := by rw [← hW]; exact bl_alloc (Below.refl _ _) _ (Nat.le_refl _)
 have HG : Hid (∀ V, Below W.heap.size W V → ShopO (fun _ => True) V H hn P pn Q on s) := fun V hb => (g.bl hBW).bl hb
 have kk : Hid (∀ V, Below W.heap.size W V → V.cell? ⟨gc, 0, none⟩ = some (.slice H hn hc) ∧ V.cell? ⟨gc, 1, none⟩ = some (.slice P pn pc) ∧ V.cell? ⟨gc, 2, none⟩ = some (.slice Q on oc)) := fun V hb => ⟨(X.bl hb).cell 0, (X.bl hb).cell 1, (X.bl hb).cell 2⟩
 have HBW : Hid (∀ V, Below W.heap.size W V → Below w.heap.size w V) := fun V hb => bl_call hBW hb (Nat.le_refl _)
 have hcl : gc < W.heap.size := X.lt
 obtain ⟨x0, x1, x2⟩ := kk.out W (Below.refl _ _)
 clear g X hBW
 cases h1 : inB (hn : Int) 1 20
 ·go_enter Tryz.func5, Tryz.ntmps5
  go_wp2_with (go_at_call 17; refine (in11_any _ _ _ _).mono ?_; rintro e w' ⟨rfl, rfl⟩; rw [h1])
  go_ret3
  exact Said11.bad (by decide) (HBW.out _ (Below.refl _ _))
 cases h2 : inB (pn : Int) 1 3
 ·go_enter Tryz.func5, Tryz.ntmps5
  go_wp2_with (go_at_call 17; refine (in11_any _ _ _ _).mono ?_; rintro e w' ⟨rfl, rfl⟩; first | rw [h1] | rw [h2])
  go_ret3
  exact Said11.bad (by decide) (HBW.out _ (Below.refl _ _))
 by_cases h3 : (8 : Int) < on
 ·go_enter Tryz.func5, Tryz.ntmps5
  go_wp2_with (go_at_call 17; refine (in11_any _ _ _ _).mono ?_; rintro e w' ⟨rfl, rfl⟩; first | rw [h1] | rw [h2])
  go_ret3
  exact Said11.bad (by decide) (HBW.out _ (Below.refl _ _))
 have H1 := Lib.hid (inB_iff.1 h1)
 have H2 := Lib.hid (inB_iff.1 h2)
 have hp3 : 1 ≤ pn ∧ pn ≤ 3 := by have := H2.out; omega
 have ho8 : on ≤ 8 := by omega
 have hh20 : 1 ≤ hn ∧ hn ≤ 20 := by have := H1.out; omega
 go_enter Tryz.func5, Tryz.ntmps5
 go_wp2_with (go_at_call 17; refine (in11_any _ _ _ _).mono ?_; rintro e w' ⟨rfl, rfl⟩; first | rw [h1] | rw [h2])
 clear h1 h2 h3 x0 x1 x2 hW
 go_loopw [5] (fun i' wr => ∃ k : Nat, k ≤ hn ∧ i' = .int .i64 k ∧ Below W.heap.size W wr ∧ Hid (∀ x ∈ s.hours.take k, 0 ≤ x ∧ x ≤ 24)) (fun i' _ => hn - (intOf i').toNat)
 case atStart => exact ⟨0, Nat.zero_le _, rfl, Below.refl _ _, fun x hx => by simp at hx⟩
 case round =>
  obtain ⟨k, hk, rfl, hB, HK⟩ := hrel
  obtain ⟨x0, x1, x2⟩ := kk.out wr hB
  by_cases hlt : k < hn
  ·have hki : (k : Int) < hn := by omega
   obtain ⟨b, off, x, rfl, hcx, Hx⟩ := Ints.get (HG.out wr hB).hs hlt
   cases h1 : inB x 0 24
   ·go_wp2_with (go_at_call 17; refine (in11_any _ _ _ _).mono ?_; rintro e w' ⟨rfl, rfl⟩; rw [h1])
    go_ret3
    exact Said11.bad (by decide) (HBW.out _ hB)
   have hxb := Lib.hid (inB_iff.1 h1)
   have HK2 : Hid (∀ y ∈ s.hours.take (k + 1), 0 ≤ y ∧ y ≤ 24) := by
    intro y hy
    rw [take_snoc_get Hx.out] at hy
    rcases List.mem_append.1 hy with h | h
    ·exact HK.out y h
    rw [List.mem_singleton.1 h]; exact hxb.out
   go_wp2_with (go_at_call 17; refine (in11_any _ _ _ _).mono ?_; rintro e w' ⟨rfl, rfl⟩; rw [h1])
   go_roundw
   case rel => exact ⟨k + 1, by omega, by go_num, hB, HK2⟩
   case measure => simp [intOf]; omega
  obtain rfl : k = hn := by omega
  have HHR : Hid (∀ x ∈ s.hours, 0 ≤ x ∧ x ≤ 24) := by have := HK.out; rwa [List.take_of_length_le (by rw [HHn.out]; exact Nat.le_refl _)] at this
  go_wp2
  clear x0 x1 x2 HK
  go_loopw [6, 7] (fun nm i' wr => ∃ (j cap : Nat) (An : Option Addr), j ≤ pn ∧ i' = .int .i64 j ∧ nm = .slice An j cap ∧ Below W.heap.size W wr ∧ Hid (OwnL StrR 1 (fun _ => False) wr W.heap.size 9 (.slice An j cap) ((s.parts.take j).map (·.name))) ∧ Hid (∀ i, i < j → fresh (s.parts.getD i dPart).name ((s.parts.take i).map (·.name)) = 0) ∧ Hid (∀ p ∈ s.parts.take j, PartOk p)) (fun _ i' _ => pn - (intOf i').toNat)
  case atStart => exact ⟨0, 0, none, Nat.zero_le _, rfl, rfl, hB, OwnL.nil _ _ _ _ _ _, (fun i h => by omega), fun p hp => by simp at hp⟩
  case round =>
   clear hB
   obtain ⟨j, cap, An, hj, rfl, rfl, hB, HO, HN, HP⟩ := hrel
   obtain ⟨x0, x1, x2⟩ := kk.out wr hB
   by_cases hjt : j < pn
   ·have hji : (j : Int) < pn := by omega
    obtain ⟨b, off, st, a, z, y, rfl, hbb, hc0, hc1, hc2, hc3, hs, Hx⟩ := Parts.get (HG.out wr hB).ps hjt
    have HLn : Hid (((s.parts.take j).map (·.name)).length = j) := by rw [Hid, List.length_map, List.length_take, HPn.out]; omega
    obtain ⟨nms, hnms⟩ : ∃ q, (s.parts.take j).map (·.name) = q := ⟨_, rfl⟩
    rw [hnms] at HO HLn
    have HNM := Lib.hid hnms
    have hstr : Strs (fun _ => True) (wr.alloc (.cells #[.string st, .int .i64 a, .int .i64 z, .int .i64 y] 58)) An j nms := (HO.out.slice StrR.good rfl (by simp only [maxLen]; omega) (fun _ h => h.elim) (fun _ _ _ => trivial)).keep StrR.good (Keeps.alloc _ _)
    obtain ⟨V, hV⟩ : ∃ V, wr.alloc (.cells #[.string st, .int .i64 a, .int .i64 z, .int .i64 y] 58) = V := ⟨_, rfl⟩
    obtain ⟨gx, hgx⟩ : ∃ q, wr.heap.size = q := ⟨_, rfl⟩
    have XV : Blk V gx 58 #[.string st, .int .i64 a, .int .i64 z, .int .i64 y] := by rw [← hV]; exact Blk.new _ _ _ hgx.symm
    rw [hV] at hstr
    have hBV : Below W.heap.size W V := by rw [← hV]; exact bl_alloc hB _ (Nat.le_refl _)
    have HOV : Hid (OwnL StrR 1 (fun _ => False) V W.heap.size 9 (.slice An j cap) nms) := by rw [Hid, ← hV]; exact HO.out.alloc StrR.good _
    have v0 := XV.cell 0
    have v1 := XV.cell 1
    have v2 := XV.cell 2
    have v3 := XV.cell 3
    have HXV := Lib.hid XV
    have hfr := fresh_any (c := cap) st V hstr hs
    obtain ⟨fr, hfe⟩ : ∃ q, fresh st.data.toList nms = q := ⟨_, rfl⟩
    rw [hfe] at hfr
    have HFR := Lib.hid hfr
    have HFE := Lib.hid hfe
    have hzV := hBV.size
    clear hnms hstr XV hfr hfe
    go_wp2_with fail
    clear hc0 hc1 hc2 hc3 hV hgx x0 x1 x2
    refine HFR.out.mono ?_
    rintro e w' ⟨rfl, rfl⟩
    by_cases he : fr = 0
    ·obtain rfl : fr = 0 := he
     cases t1 : inB a 1 10
     ·go_wp2_with (go_at_call 17; refine (in11_any _ _ _ _).mono ?_; rintro e w' ⟨rfl, rfl⟩; rw [t1])
      go_ret3
      exact Said11.bad (by decide) (HBW.out _ hBV)
     cases t2 : inB z 1 48
     ·go_wp2_with (go_at_call 17; refine (in11_any _ _ _ _).mono ?_; rintro e w' ⟨rfl, rfl⟩; first | rw [t1] | rw [t2])
      go_ret3
      exact Said11.bad (by decide) (HBW.out _ hBV)
     cases t3 : inB y 0 50
     ·go_wp2_with (go_at_call 17; refine (in11_any _ _ _ _).mono ?_; rintro e w' ⟨rfl, rfl⟩; first | rw [t1] | rw [t2] | rw [t3])
      go_ret3
      exact Said11.bad (by decide) (HBW.out _ hBV)
     have HPK : Hid (PartOk ⟨st.data.toList, a, z, y⟩) := ⟨inB_iff.1 t1, inB_iff.1 t2, inB_iff.1 t3⟩
     have HP2 : Hid (∀ p ∈ s.parts.take (j + 1), PartOk p) := by
      intro p hp
      rw [take_snoc_get Hx.out] at hp
      rcases List.mem_append.1 hp with h | h
      ·exact HP.out p h
      rw [List.mem_singleton.1 h]; exact HPK.out
     have HN2 : Hid (∀ i, i < j + 1 → fresh (s.parts.getD i dPart).name ((s.parts.take i).map (·.name)) = 0) := by
      intro i hi
      by_cases e : i = j
      ·subst e; rw [getD_of Hx.out, HNM.out]; exact HFE.out
      exact HN.out i (by omega)
     have HTN : Hid ((s.parts.take (j + 1)).map (·.name) = nms ++ [st.data.toList]) := by rw [Hid, take_snoc_get Hx.out, List.map_append, HNM.out]; rfl
     go_wp2_with (first
      | (go_at_call 17; refine (in11_any _ _ _ _).mono ?_; rintro e w' ⟨rfl, rfl⟩; first | rw [t1] | rw [t2] | rw [t3])
      | (at_builtin; refine wpList_append_n _ rfl (.tmp 85) (.tmp 88) _ rfl StrR.good W.heap.size 9 i0 _ 16 Tryz.underlying55 hi0 hz0 hz1 hz2 rfl (by omega) _ nms st.data.toList j HLn.out rfl (HOV.out.alloc StrR.good _) ⟨_, 0, none⟩ 1 [.string st] rfl ⟨st, rfl, rfl, hs⟩ (news_new rfl rfl) ?c1 ?c2 ?c3 (fun h => h) ?_))
     case c1 => simp only [maxLen]; omega
     case c2 => omega
     case c3 => simp; omega
     intro A' cap' w2 hown2 hg2 hat2
     have HB2 : Hid (Below W.heap.size W w2) := bl_grown (bl_alloc hBV _ (Nat.le_refl _)) (HOV.out.alloc StrR.good _) hg2 (Nat.le_refl _) (Nat.le_refl _)
     have HO2 : Hid (OwnL StrR 1 (fun _ => False) w2 W.heap.size 9 (.slice (some ⟨A', 0, none⟩) (j + 1) cap') ((s.parts.take (j + 1)).map (·.name))) := by rw [Hid, HTN.out]; exact hown2
     clear hown2 hg2 hat2 v0 v1 v2 v3 t1 t2 t3
     go_wp2
     go_roundw
     case rel => exact ⟨j + 1, cap', _, by omega, by go_num, rfl, HB2.out, HO2, HN2, HP2⟩
     case measure => simp [intOf]; omega
    have hbe : (fr == 0) = false := by simpa using he
    have hbe2 : (fr != 0) = true := by simpa using he
    have HE := Lib.hid he
    clear he
    go_wp2
    go_ret3
    exact Said11.bad HE.out (HBW.out _ hBV)
   obtain rfl : j = pn := by omega
   have HNN : Hid (∀ i, i < s.parts.length → fresh (s.parts.getD i dPart).name ((s.parts.take i).map (·.name)) = 0) := fun i hi => HN.out i (by have := HPn.out; omega)
   have HPP : Hid (∀ p ∈ s.parts, PartOk p) := by have := HP.out; rwa [List.take_of_length_le (by rw [HPn.out]; exact Nat.le_refl _)] at this
   go_wp2
   clear x0 x1 x2 HN HP HO
   go_loopw [10] (fun i' wr => ∃ q : Nat, q ≤ on ∧ i' = .int .i64 q ∧ Below W.heap.size W wr ∧ Hid (∀ o ∈ s.orders.take q, OrdOk s o)) (fun i' _ => on - (intOf i').toNat)
   case atStart => exact ⟨0, Nat.zero_le _, rfl, hB, fun o ho => by simp at ho⟩
   case round =>
    clear hB
    obtain ⟨q, hq, rfl, hB, HQ⟩ := hrel
    obtain ⟨x0, x1, x2⟩ := kk.out wr hB
    by_cases hqt : q < on
    ·have hqi : (q : Int) < on := by omega
     obtain ⟨b, off, pt, mn, du, wo, rfl, hbb, hc0, hc1, hc2, hc3, Hx⟩ := Ords11.get (HG.out wr hB).os hqt
     obtain ⟨pm, hpm⟩ : ∃ x : Nat, (j : Int) - 1 = x := ⟨j - 1, by omega⟩
     obtain ⟨hm, hhm⟩ : ∃ x : Nat, (k : Int) - 1 = x := ⟨k - 1, by omega⟩
     have wp : IntKind.i64.wrap ((j : Int) - 1) = (pm : Int) := by rw [hpm, IntKind.wrap_i64]; omega
     have wh : IntKind.i64.wrap ((k : Int) - 1) = (hm : Int) := by rw [hhm, IntKind.wrap_i64]; omega
     obtain ⟨V, hV⟩ : ∃ V, wr.alloc (.cells #[.int .i64 pt, .int .i64 mn, .int .i64 du, .int .i64 wo] 61) = V := ⟨_, rfl⟩
     obtain ⟨gx, hgx⟩ : ∃ q, wr.heap.size = q := ⟨_, rfl⟩
     have XV : Blk V gx 61 #[.int .i64 pt, .int .i64 mn, .int .i64 du, .int .i64 wo] := by rw [← hV]; exact Blk.new _ _ _ hgx.symm
     have hBV : Below W.heap.size W V := by rw [← hV]; exact bl_alloc hB _ (Nat.le_refl _)
     have v0 := XV.cell 0
     have v1 := XV.cell 1
     have v2 := XV.cell 2
     have v3 := XV.cell 3
     obtain ⟨y0, y1, y2⟩ := kk.out V hBV
     have HPM := Lib.hid hpm
     have HHM := Lib.hid hhm
     clear hpm hhm XV
     cases t1 : inB pt 0 (pm : Int)
     ·go_wp2_with (go_at_call 17; refine (in11_any _ _ _ _).mono ?_; rintro e w' ⟨rfl, rfl⟩; rw [t1])
      go_ret3
      exact Said11.bad (by decide) (HBW.out _ hBV)
     cases t2 : inB mn 1 50
     ·go_wp2_with (go_at_call 17; refine (in11_any _ _ _ _).mono ?_; rintro e w' ⟨rfl, rfl⟩; first | rw [t1] | rw [t2])
      go_ret3
      exact Said11.bad (by decide) (HBW.out _ hBV)
     cases t3 : inB du 0 (hm : Int)
     ·go_wp2_with (go_at_call 17; refine (in11_any _ _ _ _).mono ?_; rintro e w' ⟨rfl, rfl⟩; first | rw [t1] | rw [t2] | rw [t3])
      go_ret3
      exact Said11.bad (by decide) (HBW.out _ hBV)
     cases t4 : inB wo 0 10000
     ·go_wp2_with (go_at_call 17; refine (in11_any _ _ _ _).mono ?_; rintro e w' ⟨rfl, rfl⟩; first | rw [t1] | rw [t2] | rw [t3] | rw [t4])
      go_ret3
      exact Said11.bad (by decide) (HBW.out _ hBV)
     have HOK : Hid (OrdOk s ⟨pt, mn, du, wo⟩) := by
      have e1 := inB_iff.1 t1
      have e3 := inB_iff.1 t3
      have h1 := HPM.out
      have h3 := HHM.out
      have h4 := HPn.out
      have h5 := HHn.out
      refine ⟨?_, inB_iff.1 t2, ?_, inB_iff.1 t4⟩
      ·show 0 ≤ pt ∧ pt < (s.parts.length : Int); omega
      show 0 ≤ du ∧ du < (s.hours.length : Int); omega
     have HQ2 : Hid (∀ o ∈ s.orders.take (q + 1), OrdOk s o) := by
      intro o ho
      rw [take_snoc_get Hx.out] at ho
      rcases List.mem_append.1 ho with h | h
      ·exact HQ.out o h
      rw [List.mem_singleton.1 h]; exact HOK.out
     go_wp2_with (go_at_call 17; refine (in11_any _ _ _ _).mono ?_; rintro e w' ⟨rfl, rfl⟩; first | rw [t1] | rw [t2] | rw [t3] | rw [t4])
     go_roundw
     case rel => exact ⟨q + 1, by omega, by go_num, hBV, HQ2⟩
     case measure => simp [intOf]; omega
    obtain rfl : q = on := by omega
    have HOR : Hid (∀ o ∈ s.orders, OrdOk s o) := by have := HQ.out; rwa [List.take_of_length_le (by rw [HQn.out]; exact Nat.le_refl _)] at this
    have HOK : Hid (Ok11 s) := ⟨by rw [HHn.out]; exact hh20, by rw [HPn.out]; exact hp3, by rw [HQn.out]; exact ho8, HHR.out, HNN.out, HPP.out, HOR.out⟩
    go_wp2
    go_ret3
    exact ⟨⟨0, 0, 0, rfl, fun _ => HOK.out⟩, HBW.out _ hB⟩
end Go.Proofs.YtkpbchnggdnmaaaGreat
