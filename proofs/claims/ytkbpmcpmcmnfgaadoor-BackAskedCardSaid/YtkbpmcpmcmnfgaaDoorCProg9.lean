/- Walks: the program's iterators over all truths, over untrue measures, over the truths that agree. -/
import Derived.Laws.EntriesVeiled
import Derived.Test.YtkbpmcpmcmnfgaaDoorCProg8
set_option linter.unusedVariables false
set_option linter.unusedSimpArgs false
set_option linter.all false
namespace Go.Proofs.YtkbpmcpmcmnfgaaDoor
open Go.RowKit Go.Shelf
attribute [local go_sem] Oper.semAt_some

theorem eg_all : Enters Tryd.prog 95 := enters_of Tryd.func95 (by kernel_rfl) rfl

set_option maxRecDepth 100000 in
set_option maxHeartbeats 2000000 in
theorem all_seq {A0 B0 C0 : Option Addr} {n ca mm cb q cc : Nat} {c : Claim} (hok : OkC c) (gc : Nat) :
    SeqL Tryd.prog 95 #[.pointer (some ⟨gc, 0, none⟩)] (fun t => #[tv t]) (allT c.causes) (fun A => BoxAt A gc A0 n ca B0 mm cb C0 q cc c) := by
  intro l O0 J Jx W hO0 hInv hJ hJx hR h0
  have hfill := fun W1 ts h1 h2 h3 h4 h5 => fill_in (A0 := A0) (B0 := B0) (C0 := C0) (n := n) (ca := ca) (mm := mm) (cb := cb) (q := q) (cc := cc) hok l gc W.heap.size (W.heap.size + 1) (W.heap.size + 1 + 1) O0 J Jx W (allT c.causes) hInv (by omega) (fun i O A B => hJ i O A B) hR c.causes [] 0 0 O0 W1 ts rfl rfl (Nat.zero_le _) h1 (fun j u hu => by rw [allT_exts, Nat.zero_add, hu]; rfl) h2 h3 (fun k hk => .inl hk) h4 h5
  have HFILL := Lib.hid hfill
  clear hfill
  rw [app11]
  refine (callsIn_wide (n := 0)).1 ?_
  refine callsIn_of_wp Tryd.func95 rfl trivial ?_ rfl
  simp only [Tryd.ntmps95, List.size_toArray, List.length_cons, List.length_nil, Nat.reduceAdd, Nat.reduceSub, Array.replicate_succ, Array.replicate_zero, List.push_toArray, List.append_toArray, List.nil_append, List.cons_append]
  gi_wp2_with fail
  refine ⟨trivial, rfl, ?_⟩
  have hK1 : Kept (fun _ => False) W (((W.alloc (.cells #[.func (.yield l) #[] #[]] 120)).alloc (.cells #[.int .i64 0, .int .i64 0, .int .i64 0, .int .i64 0, .int .i64 0] 96)).alloc (.cells #[.func (.func 96) #[] #[.pointer (some ⟨gc, 0, none⟩), .pointer (some ⟨W.heap.size, 0, none⟩), .pointer (some ⟨W.heap.size + 1, 0, none⟩), .pointer (some ⟨W.heap.size + 1 + 1, 0, none⟩)]] 115)) := ((Kept.alloc _ _ _).trans (Kept.alloc _ _ _)).trans (Kept.alloc _ _ _)
  refine (HFILL.out _ [0, 0, 0, 0, 0] ⟨rfl, rfl, ?f⟩ (hJ _ _ _ _ h0 hO0 hK1.any) ?lt hK1.any ⟨?zy, ?zf, ?zt, ?zoy, ?zof, ?zot, by omega, by omega⟩ _).mono ?_
  case f =>
    intro j _
    rcases j with _ | _ | _ | _ | _ | j <;> rfl
  case lt => intro k hk; have := hO0 k hk; simp; omega
  case zy => exact ((Blk.new _ _ _ rfl).alloc _).alloc _
  case zf => exact Blk.new _ _ _ (by simp)
  case zt => exact (Blk.new _ _ _ (by simp)).alloc _
  case zoy => exact fun h => by have := hO0 _ h; omega
  case zof => exact fun h => by have := hO0 _ h; omega
  case zot => exact fun h => by have := hO0 _ h; omega
  rintro e B ⟨O1, hO1, hKB, _, hcase⟩
  have hsz := hKB.size
  simp at hsz
  have HK2 : Hid (Kept (fun k => O0 k ∨ W.heap.size ≤ k) W B) := hK1.any.seq hKB (fun k _ h => h.elim .inl (fun e => .inr (by omega)))
  have HO2 : Hid (∀ k, O1 k → O0 k ∨ (W.heap.size ≤ k ∧ k < B.heap.size)) := fun k hk => (hO1 k hk).imp id (fun h => ⟨by have := h.1; simp at this; omega, h.2⟩)
  clear hK1 hKB hO1 HFILL
  rcases hcase with ⟨rfl, hj'⟩ | ⟨rfl, hx'⟩
  · gi_wp2
    go_end0
    exact ⟨⟨_, rfl⟩, HK2.out, O1, HO2.out, .inl (by rw [allT_exts]; simpa using hj')⟩
  · gi_wp2
    go_end0
    exact ⟨⟨_, rfl⟩, HK2.out, O1, HO2.out, .inr hx'⟩

theorem ball_any {A0 B0 C0 : Option Addr} {n ca m cb q cc : Nat} (w : World) :
    Calls Tryd.prog 70 #[.agg #[.slice A0 n ca, .slice B0 m cb, .slice C0 q cc]] w fun e w' => e = .returned (.func (.func 95) #[] #[.pointer (some ⟨w.heap.size, 0, none⟩)]) ∧ w' = w.alloc (.cells #[.slice A0 n ca, .slice B0 m cb, .slice C0 q cc] 93) := by
  go_enter Tryd.func70, Tryd.ntmps70
  go_wp2
  go_ret
  exact ⟨rfl, rfl⟩
theorem btruths_any {A0 B0 C0 : Option Addr} {n ca m cb q cc : Nat} (w : World) :
    Calls Tryd.prog 62 #[.agg #[.slice A0 n ca, .slice B0 m cb, .slice C0 q cc]] w fun e w' => e = .returned (.func (.func 90) #[] #[.pointer (some ⟨w.heap.size, 0, none⟩)]) ∧ w' = w.alloc (.cells #[.slice A0 n ca, .slice B0 m cb, .slice C0 q cc] 93) := by
  go_enter Tryd.func62, Tryd.ntmps62
  go_wp2
  go_ret
  exact ⟨rfl, rfl⟩
theorem buntrue_any {A0 B0 C0 : Option Addr} {n ca m cb q cc : Nat} {a0 a1 a2 a3 a4 : Int} (w : World) :
    Calls Tryd.prog 72 #[.agg #[.slice A0 n ca, .slice B0 m cb, .slice C0 q cc], .agg #[.int .i64 a0, .int .i64 a1, .int .i64 a2, .int .i64 a3, .int .i64 a4]] w fun e w' => e = .returned (.func (.func 98) #[] #[.pointer (some ⟨w.heap.size, 0, none⟩), .pointer (some ⟨w.heap.size + 1, 0, none⟩)]) ∧ w' = (w.alloc (.cells #[.slice A0 n ca, .slice B0 m cb, .slice C0 q cc] 93)).alloc (.cells #[.int .i64 a0, .int .i64 a1, .int .i64 a2, .int .i64 a3, .int .i64 a4] 96) := by
  go_enter Tryd.func72, Tryd.ntmps72
  go_wp2
  go_ret
  exact ⟨rfl, rfl⟩

end Go.Proofs.YtkbpmcpmcmnfgaaDoor
