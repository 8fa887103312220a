/- The law TopLaid answers true for every input that it may be handed. No condition is added. -/
import Derived.Test.YtdbfincinjoppaaGreatRows
import Derived.ProofKit
import Derived.OpenShut
import Derived.Deep.DeepHandedRow
import Derived.Test.YtdbfincinjoppaaGreatCKOpA
import Derived.Test.YtdbfincinjoppaaGreatCTopLaid
set_option linter.all false
set_option linter.all false
namespace Go.Proofs.YtdbfincinjoppaaGreat.topLaid
open Go.ChangeShapes Go.WideShapes Go.ChangeAt Go.RowKit
theorem laidOutP : laidOutB Tryz.prog = true := by kernel_rfl
theorem laid_nil (P : Program) (w : World) : laidMetH P [] w := by
 show laidMet P [] w
 exact ⟨[], rfl, List.nodup_nil, fun b off h => by cases h⟩
theorem own : ownKnob Tryz.prog.godebug = none := by kernel_rfl
set_option maxRecDepth 100000 in
theorem contract (H : Type) (enc : TypeId × Value → H) (W : World) (base : Nat) (args : Array Value) (ds gs : List (DataW H)) (before : List MemPlace)
  (hval : ∀ (j : Nat) t v, Tryz.f3.params[j]? = some t → args[j]? = some v → Value.okWide Tryz.prog W .any base t v)
  (hW : DataW.Whole enc Tryz.prog Tryz.f3.params.toList Rows.topLaidSpec.vars false W args.toList ds gs before) :
  Calls Tryz.prog 3 args W fun e W' => ∃ v, e = .returned v ∧ Rows.topLaidSpec.post enc Tryz.prog Tryz.f3 false true false false W args v W' := by
 have hW' := hW
 obtain ⟨p, q, hA0, hV, rfl, hfz, hnd⟩ := hW
 have hA : DataW.TrodAll enc Tryz.prog W 0 (fun _ => true) true Tryz.f3.params.toList args.toList ds p := hA0
 rw [Tryz.params3] at hA hval
 obtain ⟨v0, vs0, d0, ds0, p0, q0, hargs, rfl, rfl, h0, r0⟩ := trodAll_cons hA
 obtain ⟨v1, vs1, d1, ds1, p1, q1, rfl, rfl, rfl, h1, r1⟩ := trodAll_cons r0
 obtain ⟨v2, vs2, d2, ds2, p2, q2, rfl, rfl, rfl, h2, r2⟩ := trodAll_cons r1
 obtain ⟨rfl, rfl, rfl⟩ := trodAll_nil r2
 obtain rfl : args = #[v0, v1, v2] := by cases args; simp_all
 obtain ⟨rfl, rfl⟩ := trodVars_none hV
 have k0 := h0
 have k1 := h1
 have k2 := h2
 obtain ⟨cs0, rfl, _⟩ := okWide_struct Tryz.underlying26 (hval 0 _ _ rfl rfl)
 obtain ⟨f0, g0⟩ := h0
 obtain ⟨A, n, ca, s, hcs0, hca, hC⟩ := open_shop g0
 have hcs0' : cs0 = #[.int .i64 s.klo, .int .i64 s.khi, .slice A n ca] := by
  apply Array.ext'
  simpa [Value.cells] using hcs0
 subst hcs0'
 obtain ⟨cs1, rfl, _⟩ := okWide_struct Tryz.underlying30 (hval 1 _ _ rfl rfl)
 obtain ⟨f1, g1⟩ := h1
 obtain ⟨B, tn, tca, R, rm, rc, hl, hcs1, hta, hH⟩ := open_hall g1
 have hcs1' : cs1 = #[.int .i64 hl.alo, .int .i64 hl.ahi, .int .i64 hl.most, .slice B tn tca, .slice R rm rc] := by
  apply Array.ext'
  simpa [Value.cells] using hcs1
 subst hcs1'
 obtain ⟨cs2, rfl, _⟩ := okWide_struct Tryz.underlying35 (hval 2 _ _ rfl rfl)
 obtain ⟨f2, g2⟩ := h2
 obtain ⟨XA, xn, xc, xs, XB, xm, xd, ys, SW, sn, sc, ws, CS, cn, cd, zs, hcs2, hX, hY, hW2, hZ⟩ := open_tiled g2
 have hcs2' : cs2 = #[.slice XA xn xc, .slice XB xm xd, .slice SW sn sc, .slice CS cn cd] := by
  apply Array.ext'
  simpa [Value.cells] using hcs2
 subst hcs2'
 have hlt : ∀ x ∈ (p0 ++ (p1 ++ (p2 ++ []))), x.block < W.heap.size := fun x hx => hW'.lt x (by simpa using hx)
 clear hA0
 refine (topLaid_any W hC hH hX hY hW2 hZ hca hta rfl rfl rfl rfl rfl).mono ?_
 rintro e W' ⟨rfl, hB⟩
 exact ⟨_, rfl, _, _, _, [], _, [], hW', trodAll_cons_mk (shut_bool Tryz.underlying4 _) trodAll_mk0,
  (trodAll_cons_mk (Below.trod laidOutP (by kernel_rfl) (of_decide_eq_true (by kernel_rfl)) k0 hB (fun x hx => hlt x (List.mem_append_left _ hx)))
   (trodAll_cons_mk (Below.trod laidOutP (by kernel_rfl) (of_decide_eq_true (by kernel_rfl)) k1 hB (fun x hx => hlt x (List.mem_append_right _ (List.mem_append_left _ hx))))
   (trodAll_cons_mk (Below.trod laidOutP (by kernel_rfl) (of_decide_eq_true (by kernel_rfl)) k2 hB (fun x hx => hlt x (List.mem_append_right _ (List.mem_append_right _ (List.mem_append_left _ hx)))))
   trodAll_mk0))), rfl, hB.frame _, fun h => by cases h⟩
noncomputable def world0 (os : Os) : World := World.holding Tryz.prog os ⟨#[], #[], []⟩
theorem reads (os : Os) {H : Type} (enc : TypeId × Value → H) : ∃ places, DataW.whole enc Tryz.prog ((world0 os).forCall (fun _ _ => 0) ⟨#[], #[.agg #[.int .i64 0, .int .i64 0, .slice none 0 0], .agg #[.int .i64 0, .int .i64 0, .int .i64 0, .slice none 0 0, .slice none 0 0], .agg #[.slice none 0 0, .slice none 0 0, .slice none 0 0, .slice none 0 0]], []⟩).memory Tryz.f3.params.toList Rows.topLaidSpec.vars false (#[.agg #[.int .i64 0, .int .i64 0, .slice none 0 0], .agg #[.int .i64 0, .int .i64 0, .int .i64 0, .slice none 0 0, .slice none 0 0], .agg #[.slice none 0 0, .slice none 0 0, .slice none 0 0, .slice none 0 0]] : Array Value).toList 8 = some ([.agg [.agg [.lit (.int .i64 0), .lit (.int .i64 0)], .nil], .agg [.agg [.lit (.int .i64 0), .lit (.int .i64 0)], .lit (.int .i64 0), .nil, .nil], .agg [.agg [.nil, .nil], .nil, .nil]], [], places) :=
 ⟨[], by kernel_rfl⟩
set_option maxRecDepth 100000 in
theorem lifted (os : Os) (started : os.Started) (H : Type) (enc : TypeId × Value → H) (F : Stop.Interp) :
  ReturnsInHanded {} Tryz.checked os 3 .any ((OpenSpec.ofChange Rows.topLaidSpec).preRow enc Tryz.prog Tryz.f3 Rows.topLaidRow.domain false Rows.topLaidRow.laid) (((OpenSpec.ofChange Rows.topLaidSpec).at F).post enc Tryz.prog Tryz.f3 false true false false) := by
 obtain ⟨places, hx⟩ := reads os enc
 refine returnsInHanded_of_row (C := Tryz.checked) (s := OpenSpec.ofChange Rows.topLaidSpec) own started (by kernel_rfl) Tryz.func3
  (witness_row_at (enc := enc) (C := Tryz.checked) false (world0 os) #[.agg #[.int .i64 0, .int .i64 0, .slice none 0 0], .agg #[.int .i64 0, .int .i64 0, .int .i64 0, .slice none 0 0, .slice none 0 0], .agg #[.slice none 0 0, .slice none 0 0, .slice none 0 0, .slice none 0 0]] rfl (by kernel_rfl) (by kernel_rfl) (by kernel_rfl)
   (OpenSpec.preRow_of_cond 8 hx (by kernel_rfl) (fun k hk => by cases hk) (by kernel_rfl) (by unfold Rows.topLaidRow; exact laid_nil _ _))) ?_
 intro W base args ds gs before hval hW _ _ _ hL _ _
 exact contract H enc W base args ds gs before hval hW
theorem said : Rows.TopLaidSaid :=
 OpenClaim.holds_of_cond 3 Tryz.f3 rfl rfl rfl rfl rfl rfl rfl ⟨rfl, rfl, rfl, rfl, rfl⟩ rfl rfl rfl rfl rfl (by kernel_rfl) Tryz.func3 (by kernel_rfl)
  (of_decide_eq_true (by kernel_rfl)) (by unfold Func.isWrapper; first | (rw [if_pos (by decide +kernel)]; kernel_rfl) | (rw [if_neg (by decide +kernel)]; exact ⟨rfl, rfl⟩))
  (fun os started H enc _ F => by rw [OpenClaim.pre_eq_preRow]; exact lifted os started H enc F)
end Go.Proofs.YtdbfincinjoppaaGreat.topLaid
