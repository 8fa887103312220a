/- A part of the proof that TopLaid always answers true. -/
import Derived.Shelf.SlSortCmp.NoneTotal
import Derived.Test.YtdbfincinjoppaaGreatCTAirs
import Derived.Test.YtdbfincinjoppaaGreatCTBits
import Derived.Test.YtdbfincinjoppaaGreatCTLay1
set_option linter.all false
namespace Go.Proofs.YtdbfincinjoppaaGreat
open Go.RowKit Go.Shelf
def fAt (h : Hall) (l : List Seen) (s j : Nat) : Nat → List (Nat × Int) := fun r => if r < j then fitK h l r (s + 1) else fitK h l r s
set_option maxRecDepth 100000 in
set_option maxHeartbeats 2000000 in
theorem fit_inner {W0 wr : World} {h : Hall} {l : List Seen} {gh b2 g5 gF base n m cb : Nat} {A B : Option Addr} (cx : FitCx W0 h l gh b2 g5 gF base n m cb A B) (hn8 : n ≤ 8) (hm3 : m ≤ 3) {s : Nat} (hs : s < 2 ^ n)
  (hK : Kept (fun k => k = gF ∨ base ≤ k) W0 wr) (hF : FitSt wr base gF 169 171 m (fun r => fitK h l r s))
  {Q : Exit → Act → World → Prop} (c0 c1 c3 c4 c11 c12 c13 c14 c15 c16 c17 c18 c19 c20 c21 c22 c23 c24 c25 c26 c27 c28 c29 c30 c31 c32 c71 c72 c73 c74 c75 c76 c77 c78 c79 c80 c81 : Value) (v7 v8 v9 v10 v36 v37 v38 v39 v40 v41 v42 v43 v44 v45 v46 v47 v48 v49 v50 v51 v52 v53 v54 v55 v56 v57 v58 v59 v60 v61 v62 v63 v64 v65 v66 v67 v68 v69 v70 : Value)
  (hexit : ∀ (v7 v8 v9 v10 v36 v37 v38 v39 v40 v41 v42 v43 v44 v45 v46 v47 v48 v49 v50 v51 v52 v53 v54 v55 v56 v57 v58 v59 v60 v61 v62 v63 v64 v65 v66 v67 v68 v69 v70 : Value) (w' : World), Kept (fun k => k = gF ∨ base ≤ k) W0 w' → FitSt w' base gF 169 171 m (fun r => fitK h l r (s + 1)) → Q (.exit 2) { tmps := #[c0, c1, .pointer (some ⟨b2, 0, none⟩), c3, c4, .pointer (some ⟨g5, 0, none⟩), .int .i64 s, v7, v8, v9, v10, c11, c12, c13, c14, c15, c16, c17, c18, c19, c20, c21, c22, c23, c24, c25, c26, c27, c28, c29, c30, c31, c32, .slice B m cb, .int .i64 m, .int .i64 m, v36, v37, v38, v39, v40, v41, v42, v43, v44, v45, v46, v47, v48, v49, v50, v51, v52, v53, v54, v55, v56, v57, v58, v59, v60, v61, v62, v63, v64, v65, v66, v67, v68, v69, v70, c71, c72, c73, c74, c75, c76, c77, c78, c79, c80, c81], defers := [] } w') :
  (Code.loop layInner).wp Tryz.prog Q { tmps := #[c0, c1, .pointer (some ⟨b2, 0, none⟩), c3, c4, .pointer (some ⟨g5, 0, none⟩), .int .i64 s, v7, v8, v9, v10, c11, c12, c13, c14, c15, c16, c17, c18, c19, c20, c21, c22, c23, c24, c25, c26, c27, c28, c29, c30, c31, c32, .slice B m cb, .int .i64 m, .int .i64 0, v36, v37, v38, v39, v40, v41, v42, v43, v44, v45, v46, v47, v48, v49, v50, v51, v52, v53, v54, v55, v56, v57, v58, v59, v60, v61, v62, v63, v64, v65, v66, v67, v68, v69, v70, c71, c72, c73, c74, c75, c76, c77, c78, c79, c80, c81], defers := [] } wr := by
 have HEX := Lib.hid hexit
 clear hexit
 refine wp_loop (fun a' w' => ∃ (j : Nat) (u : Nat → Value), j ≤ m ∧ Hid (Kept (fun k => k = gF ∨ base ≤ k) W0 w') ∧ Hid (FitSt w' base gF 169 171 m (fAt h l s j)) ∧ a' = { tmps := #[c0, c1, .pointer (some ⟨b2, 0, none⟩), c3, c4, .pointer (some ⟨g5, 0, none⟩), .int .i64 s, u 7, u 8, u 9, u 10, c11, c12, c13, c14, c15, c16, c17, c18, c19, c20, c21, c22, c23, c24, c25, c26, c27, c28, c29, c30, c31, c32, .slice B m cb, .int .i64 m, .int .i64 j, u 36, u 37, u 38, u 39, u 40, u 41, u 42, u 43, u 44, u 45, u 46, u 47, u 48, u 49, u 50, u 51, u 52, u 53, u 54, u 55, u 56, u 57, u 58, u 59, u 60, u 61, u 62, u 63, u 64, u 65, u 66, u 67, u 68, u 69, u 70, c71, c72, c73, c74, c75, c76, c77, c78, c79, c80, c81], defers := [] }) (fun a' _ => m - (intOf (a'.tmps.getD 35 undef)).toNat) ?_ ?_
 ·exact ⟨0, (fun i => (#[c0, c1, .pointer (some ⟨b2, 0, none⟩), c3, c4, .pointer (some ⟨g5, 0, none⟩), .int .i64 s, v7, v8, v9, v10, c11, c12, c13, c14, c15, c16, c17, c18, c19, c20, c21, c22, c23, c24, c25, c26, c27, c28, c29, c30, c31, c32, .slice B m cb, .int .i64 m, .int .i64 0, v36, v37, v38, v39, v40, v41, v42, v43, v44, v45, v46, v47, v48, v49, v50, v51, v52, v53, v54, v55, v56, v57, v58, v59, v60, v61, v62, v63, v64, v65, v66, v67, v68, v69, v70, c71, c72, c73, c74, c75, c76, c77, c78, c79, c80, c81] : Array Value).getD i undef), Nat.zero_le _, hK, hF.congr (fun r _ => by simp [fAt]), rfl⟩
 rintro a' w1 ⟨j, u, hj, HK, HF, rfl⟩
 by_cases hlt : j < m
 ·refine fit_round cx hn8 hm3 hs hlt (fAt h l s j) (by simp [fAt]) HK.out HF.out _ _ _ _ _ _ _ _ _ _ _ _ _ _ _ _ _ _ _ _ _ _ _ _ _ _ _ _ _ _ _ _ _ _ _ _ _ u ?_
  intro v7 v8 v9 v10 v36 v37 v38 v39 v40 v41 v42 v43 v44 v45 v46 v47 v48 v49 v50 v51 v52 v53 v54 v55 v56 v57 v58 v59 v60 v61 v62 v63 v64 v65 v66 v67 v68 v69 v70 w2 hK2 hF2
  refine ⟨⟨j + 1, (fun i => (#[c0, c1, .pointer (some ⟨b2, 0, none⟩), c3, c4, .pointer (some ⟨g5, 0, none⟩), .int .i64 s, v7, v8, v9, v10, c11, c12, c13, c14, c15, c16, c17, c18, c19, c20, c21, c22, c23, c24, c25, c26, c27, c28, c29, c30, c31, c32, .slice B m cb, .int .i64 m, .int .i64 ((j + 1 : Nat) : Int), v36, v37, v38, v39, v40, v41, v42, v43, v44, v45, v46, v47, v48, v49, v50, v51, v52, v53, v54, v55, v56, v57, v58, v59, v60, v61, v62, v63, v64, v65, v66, v67, v68, v69, v70, c71, c72, c73, c74, c75, c76, c77, c78, c79, c80, c81] : Array Value).getD i undef), hlt, hK2, hF2.congr (fun r hr => ?_), rfl⟩, by simp [intOf]; omega⟩
  unfold updL fAt
  by_cases e : r = j
  ·subst e; simp
  rw [if_neg e]
  by_cases e2 : r < j
  ·rw [if_pos e2, if_pos (by omega)]
  rw [if_neg e2, if_neg (by omega)]
 obtain rfl : j = m := by omega
 conv => arg 2; whnf
 go_wp2_with fail
 exact HEX.out _ _ _ _ _ _ _ _ _ _ _ _ _ _ _ _ _ _ _ _ _ _ _ _ _ _ _ _ _ _ _ _ _ _ _ _ _ _ _ _ HK.out (HF.out.congr (fun r hr => by unfold fAt; rw [if_pos hr]))
open Go.RowKit Go.Shelf
set_option maxRecDepth 100000 in
set_option maxHeartbeats 2000000 in
theorem fit_outer {W0 : World} {h : Hall} {l : List Seen} {gh b2 g5 gF base n m cb N : Nat} {A B : Option Addr} (cx : FitCx W0 h l gh b2 g5 gF base n m cb A B) (hn8 : n ≤ 8) (hm3 : m ≤ 3) (hN : N = 2 ^ n)
  (hF : FitSt W0 base gF 169 171 m (fun _ => []))
  {Q : Exit → Act → World → Prop} (c0 c1 c3 c4 c11 c12 c13 c14 c15 c16 c17 c18 c19 c20 c21 c22 c23 c24 c72 c73 c74 c75 c76 c77 c78 c79 c80 c81 : Value) (v6 v7 v8 v9 v10 v26 v27 v28 v29 v30 v31 v32 v33 v34 v35 v36 v37 v38 v39 v40 v41 v42 v43 v44 v45 v46 v47 v48 v49 v50 v51 v52 v53 v54 v55 v56 v57 v58 v59 v60 v61 v62 v63 v64 v65 v66 v67 v68 v69 v70 v71 : Value)
  (hexit : ∀ (v6 v7 v8 v9 v10 v26 v27 v28 v29 v30 v31 v32 v33 v34 v35 v36 v37 v38 v39 v40 v41 v42 v43 v44 v45 v46 v47 v48 v49 v50 v51 v52 v53 v54 v55 v56 v57 v58 v59 v60 v61 v62 v63 v64 v65 v66 v67 v68 v69 v70 v71 : Value) (w' : World), Kept (fun k => k = gF ∨ base ≤ k) W0 w' → FitSt w' base gF 169 171 m (fun r => fitK h l r (2 ^ n)) → Q (.exit 0) { tmps := #[c0, c1, .pointer (some ⟨b2, 0, none⟩), c3, c4, .pointer (some ⟨g5, 0, none⟩), v6, v7, v8, v9, v10, c11, c12, c13, c14, c15, c16, c17, c18, c19, c20, c21, c22, c23, c24, .int .i64 N, v26, v27, v28, v29, v30, v31, v32, v33, v34, v35, v36, v37, v38, v39, v40, v41, v42, v43, v44, v45, v46, v47, v48, v49, v50, v51, v52, v53, v54, v55, v56, v57, v58, v59, v60, v61, v62, v63, v64, v65, v66, v67, v68, v69, v70, v71, c72, c73, c74, c75, c76, c77, c78, c79, c80, c81], defers := [] } w') :
  (Code.loop layOuter).wp Tryz.prog Q { tmps := #[c0, c1, .pointer (some ⟨b2, 0, none⟩), c3, c4, .pointer (some ⟨g5, 0, none⟩), v6, v7, v8, v9, v10, c11, c12, c13, c14, c15, c16, c17, c18, c19, c20, c21, c22, c23, c24, .int .i64 N, .int .i64 0, v27, v28, v29, v30, v31, v32, v33, v34, v35, v36, v37, v38, v39, v40, v41, v42, v43, v44, v45, v46, v47, v48, v49, v50, v51, v52, v53, v54, v55, v56, v57, v58, v59, v60, v61, v62, v63, v64, v65, v66, v67, v68, v69, v70, v71, c72, c73, c74, c75, c76, c77, c78, c79, c80, c81], defers := [] } W0 := by
 have HEX := Lib.hid hexit
 have HCX := Lib.hid cx
 have HN := Lib.hid hN
 have hN256 : N ≤ 256 := by rw [hN]; exact (Nat.pow_le_pow_right (by decide) hn8 : 2 ^ n ≤ 2 ^ 8)
 clear hexit cx hN
 refine wp_loop (fun a' w' => ∃ (s : Nat) (u : Nat → Value), s ≤ N ∧ Hid (Kept (fun k => k = gF ∨ base ≤ k) W0 w') ∧ Hid (FitSt w' base gF 169 171 m (fun r => fitK h l r s)) ∧ a' = { tmps := #[c0, c1, .pointer (some ⟨b2, 0, none⟩), c3, c4, .pointer (some ⟨g5, 0, none⟩), u 6, u 7, u 8, u 9, u 10, c11, c12, c13, c14, c15, c16, c17, c18, c19, c20, c21, c22, c23, c24, .int .i64 N, .int .i64 s, u 27, u 28, u 29, u 30, u 31, u 32, u 33, u 34, u 35, u 36, u 37, u 38, u 39, u 40, u 41, u 42, u 43, u 44, u 45, u 46, u 47, u 48, u 49, u 50, u 51, u 52, u 53, u 54, u 55, u 56, u 57, u 58, u 59, u 60, u 61, u 62, u 63, u 64, u 65, u 66, u 67, u 68, u 69, u 70, u 71, c72, c73, c74, c75, c76, c77, c78, c79, c80, c81], defers := [] }) (fun a' _ => N - (intOf (a'.tmps.getD 26 undef)).toNat) ?_ ?_
 ·exact ⟨0, (fun i => (#[c0, c1, .pointer (some ⟨b2, 0, none⟩), c3, c4, .pointer (some ⟨g5, 0, none⟩), v6, v7, v8, v9, v10, c11, c12, c13, c14, c15, c16, c17, c18, c19, c20, c21, c22, c23, c24, .int .i64 N, .int .i64 0, v27, v28, v29, v30, v31, v32, v33, v34, v35, v36, v37, v38, v39, v40, v41, v42, v43, v44, v45, v46, v47, v48, v49, v50, v51, v52, v53, v54, v55, v56, v57, v58, v59, v60, v61, v62, v63, v64, v65, v66, v67, v68, v69, v70, v71, c72, c73, c74, c75, c76, c77, c78, c79, c80, c81] : Array Value).getD i undef), Nat.zero_le _, Kept.refl _ _, hF.congr (fun r _ => rfl), rfl⟩
 rintro a' w1 ⟨s, u, hs, HK, HF, rfl⟩
 conv => arg 2; whnf
 by_cases hlt : s < N
 ·have hsi : (s : Int) < N := by omega
  have c2 := HK.out.cell HCX.out.c2 (fun e => by have := HCX.out.n2; have := HCX.out.h2; dsimp only at e; omega)
  have c4 := HK.out.cell HCX.out.c4 (fun e => by have := HCX.out.nF; have := HCX.out.hg; dsimp only at e; omega)
  go_wp2_with fail
  refine fit_inner HCX.out hn8 hm3 (s := s) (by rw [← HN.out]; exact hlt) HK.out HF.out _ _ _ _ _ _ _ _ _ _ _ _ _ _ _ _ _ _ _ _ _ _ _ _ _ _ _ _ _ _ _ _ _ _ _ _ _ _ _ _ _ _ _ _ _ _ _ _ _ _ _ _ _ _ _ _ _ _ _ _ _ _ _ _ _ _ _ _ _ _ _ _ _ _ _ _ ?_
  intro v7 v8 v9 v10 v36 v37 v38 v39 v40 v41 v42 v43 v44 v45 v46 v47 v48 v49 v50 v51 v52 v53 v54 v55 v56 v57 v58 v59 v60 v61 v62 v63 v64 v65 v66 v67 v68 v69 v70 w2 hK2 hF2
  have HK2 := Lib.hid hK2
  have HF2 := Lib.hid hF2
  clear hK2 hF2 c2 c4
  go_wp2_with fail
  exact ⟨⟨s + 1, (fun i => (#[c0, c1, .pointer (some ⟨b2, 0, none⟩), c3, c4, .pointer (some ⟨g5, 0, none⟩), .int .i64 s, v7, v8, v9, v10, c11, c12, c13, c14, c15, c16, c17, c18, c19, c20, c21, c22, c23, c24, .int .i64 N, .int .i64 ((s : Int) + 1), .bool true, .int .i64 s, .pointer (some ⟨gh, 0, none⟩), .pointer (some ⟨gh, 0, none⟩), .pointer (some ⟨gh, 0, none⟩), .pointer (some ⟨gh, 4, none⟩), .slice B m cb, .int .i64 m, .int .i64 m, v36, v37, v38, v39, v40, v41, v42, v43, v44, v45, v46, v47, v48, v49, v50, v51, v52, v53, v54, v55, v56, v57, v58, v59, v60, v61, v62, v63, v64, v65, v66, v67, v68, v69, v70, .int .i64 ((s : Int) + 1), c72, c73, c74, c75, c76, c77, c78, c79, c80, c81] : Array Value).getD i undef), hlt, HK2.out, HF2.out, rfl⟩, by simp [intOf]; omega⟩
 obtain rfl : s = N := by omega
 go_wp2_with fail
 refine HEX.out _ _ _ _ _ _ _ _ _ _ _ _ _ _ _ _ _ _ _ _ _ _ _ _ _ _ _ _ _ _ _ _ _ _ _ _ _ _ _ _ _ _ _ _ _ _ _ _ _ _ _ _ HK.out ?_
 rw [← HN.out]
 exact HF.out
end Go.Proofs.YtdbfincinjoppaaGreat
namespace Go.Proofs
open Go.Shelf Go.RowKit
def Tryz.sortSome_ren : Go.Shelf.Ren := ⟨fun | 6 => 78 | 15 => 93 | 14 => 108 | 28 => 111 | 29 => 112 | 20 => 122 | 21 => 123 | 22 => 124 | 23 => 125 | 24 => 126 | 25 => 127 | 26 => 128 | 27 => 129 | 46 => 141 | 47 => 142 | 48 => 143 | 49 => 144 | 50 => 145 | 57 => 149 | n => n, fun | 22 => 169 | 24 => 171 | 25 => 174 | 3 => 3 | 39 => 132 | 0 => 0 | 53 => 186 | 55 => 188 | 4 => 4 | 46 => 209 | 45 => 208 | 50 => 183 | 5 => 5 | 9 => 9 | 66 => 221 | 70 => 225 | 76 => 229 | 77 => 230 | n => n, fun n => n⟩
theorem Tryz.sortSome : SlLaysF0.n6 Tryz.prog Tryz.sortSome_ren where
 mixed := by kernel_rfl
 f6 := ⟨Tryz.f78.name, by kernel_rfl, Tryz.func78.trans (congrArg some (by kernel_rfl))⟩
 f14 := ⟨Tryz.f108.name, by kernel_rfl, Tryz.func108.trans (congrArg some (by kernel_rfl))⟩
 f15 := Tryz.func93.trans (congrArg some (by kernel_rfl))
 f20 := ⟨Tryz.f122.name, by kernel_rfl, Tryz.func122.trans (congrArg some (by kernel_rfl))⟩
 f21 := ⟨Tryz.f123.name, by kernel_rfl, Tryz.func123.trans (congrArg some (by kernel_rfl))⟩
 f22 := ⟨Tryz.f124.name, by kernel_rfl, Tryz.func124.trans (congrArg some (by kernel_rfl))⟩
 f23 := ⟨Tryz.f125.name, by kernel_rfl, Tryz.func125.trans (congrArg some (by kernel_rfl))⟩
 f24 := ⟨Tryz.f126.name, by kernel_rfl, Tryz.func126.trans (congrArg some (by kernel_rfl))⟩
 f25 := ⟨Tryz.f127.name, by kernel_rfl, Tryz.func127.trans (congrArg some (by kernel_rfl))⟩
 f26 := ⟨Tryz.f128.name, by kernel_rfl, Tryz.func128.trans (congrArg some (by kernel_rfl))⟩
 f27 := ⟨Tryz.f129.name, by kernel_rfl, Tryz.func129.trans (congrArg some (by kernel_rfl))⟩
 f28 := Tryz.func111.trans (congrArg some (by kernel_rfl))
 f29 := Tryz.func112.trans (congrArg some (by kernel_rfl))
 f46 := ⟨Tryz.f141.name, by kernel_rfl, Tryz.func141.trans (congrArg some (by kernel_rfl))⟩
 f47 := Tryz.func142.trans (congrArg some (by kernel_rfl))
 f48 := Tryz.func143.trans (congrArg some (by kernel_rfl))
 f49 := ⟨Tryz.f144.name, by kernel_rfl, Tryz.func144.trans (congrArg some (by kernel_rfl))⟩
 f50 := ⟨Tryz.f145.name, by kernel_rfl, Tryz.func145.trans (congrArg some (by kernel_rfl))⟩
 f57 := ⟨Tryz.f149.name, by kernel_rfl, Tryz.func149.trans (congrArg some (by kernel_rfl))⟩
 t0 := Tryz.underlying0
 a0 := Tryz.isAgg0
 z0 := Tryz.sizeOf0
 v0 := Tryz.zeroValue0
 t3 := Tryz.underlying3
 a3 := Tryz.isAgg3
 z3 := Tryz.sizeOf3
 v3 := Tryz.zeroValue3
 t4 := Tryz.underlying4
 a4 := Tryz.isAgg4
 z4 := Tryz.sizeOf4
 v4 := Tryz.zeroValue4
 t5 := Tryz.underlying5
 a5 := Tryz.isAgg5
 z5 := Tryz.sizeOf5
 v5 := Tryz.zeroValue5
 t9 := Tryz.underlying9
 a9 := Tryz.isAgg9
 z9 := Tryz.sizeOf9
 v9 := Tryz.zeroValue9
 t22 := Tryz.underlying169
 a22 := Tryz.isAgg169
 z22 := Tryz.sizeOf169
 v22 := Tryz.zeroValue169
 t25 := Tryz.underlying174
 a25 := Tryz.isAgg174
 z25 := Tryz.sizeOf174
 v25 := Tryz.zeroValue174
 t39 := Tryz.underlying132
 a39 := Tryz.isAgg132
 z39 := Tryz.sizeOf132
 v39 := Tryz.zeroValue132
 t45 := Tryz.underlying208
 a45 := Tryz.isAgg208
 z45 := Tryz.sizeOf208
 v45 := Tryz.zeroValue208
 t46 := Tryz.underlying209
 a46 := Tryz.isAgg209
 z46 := Tryz.sizeOf209
 v46 := Tryz.zeroValue209
 t50 := Tryz.underlying183
 a50 := Tryz.isAgg183
 z50 := Tryz.sizeOf183
 v50 := Tryz.zeroValue183
 t53 := Tryz.underlying186
 a53 := Tryz.isAgg186
 z53 := Tryz.sizeOf186
 v53 := Tryz.zeroValue186
 t55 := Tryz.underlying188
 a55 := Tryz.isAgg188
 z55 := Tryz.sizeOf188
 v55 := Tryz.zeroValue188
 t66 := Tryz.underlying221
 a66 := Tryz.isAgg221
 z66 := Tryz.sizeOf221
 v66 := Tryz.zeroValue221
 t70 := Tryz.underlying225
 a70 := Tryz.isAgg225
 z70 := Tryz.sizeOf225
 v70 := Tryz.zeroValue225
 t76 := Tryz.underlying229
 a76 := Tryz.isAgg229
 z76 := Tryz.sizeOf229
 v76 := Tryz.zeroValue229
 t77 := Tryz.underlying230
 a77 := Tryz.isAgg230
 z77 := Tryz.sizeOf230
 v77 := Tryz.zeroValue230
end Go.Proofs
namespace Go.Proofs.YtdbfincinjoppaaGreat
open Go.RowKit Go.Shelf Go.Sort
theorem eg_cmp : Enters Tryz.prog 79 := enters_of Tryz.func79 (by kernel_rfl) rfl
theorem cmp_some {S T : Foot} {A B : Option Addr} {n c m d s t : Nat} {g f : Int} {xs ys : List Int} (w : World) (h : Ints S w A n xs) (k : Ints T w B m ys) :
  Calls Tryz.prog 79 #[.agg #[.slice A n c, .int .i64 s, .int .i64 g], .agg #[.slice B m d, .int .i64 t, .int .i64 f]] w fun e w' => e = .returned (.int .i64 (lexC xs ys)) ∧ w' = (w.alloc (.cells #[.slice A n c, .int .i64 s, .int .i64 g] 171)).alloc (.cells #[.slice B m d, .int .i64 t, .int .i64 f] 171) := by
 have h2 : Ints S ((w.alloc (.cells #[.slice A n c, .int .i64 s, .int .i64 g] 171)).alloc (.cells #[.slice B m d, .int .i64 t, .int .i64 f] 171)) A n xs := (h.keep IntR.good (Keeps.alloc _ _)).keep IntR.good (Keeps.alloc _ _)
 have k2 : Ints T ((w.alloc (.cells #[.slice A n c, .int .i64 s, .int .i64 g] 171)).alloc (.cells #[.slice B m d, .int .i64 t, .int .i64 f] 171)) B m ys := (k.keep IntR.good (Keeps.alloc _ _)).keep IntR.good (Keeps.alloc _ _)
 go_enter Tryz.func79, Tryz.ntmps79
 go_wp2_with fail
 refine (compare_any _ h2 k2).mono ?_
 rintro e w' ⟨rfl, rfl⟩
 go_wp2_with fail
 go_ret
 exact ⟨rfl, rfl⟩
end Go.Proofs.YtdbfincinjoppaaGreat
