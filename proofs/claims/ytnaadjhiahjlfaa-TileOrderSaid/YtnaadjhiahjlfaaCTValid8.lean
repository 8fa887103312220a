/- Walks: what the outright laws of layer 8 call first: valid, turn. -/
import Derived.Test.YtnaadjhiahjlfaaCTRefsE
import Derived.Test.YtnaadjhiahjlfaaCTTurP
set_option linter.unusedVariables false
set_option linter.unusedSimpArgs false
set_option linter.all false
namespace Go.Proofs.Ytnaadjhiahjlfaa
open Go.RowKit

/-- a byte -/
def ByteR : Rd Nat := fun _ _ x vs => vs = [.int .u8 (x : Int)] ∧ x < 256
theorem ByteR.good : ByteR.Good 1 where
  len := by rintro S w x vs ⟨rfl, _⟩; rfl
  one := by rintro S w x vs ⟨rfl, _⟩ v hv; simp at hv; subst hv; rfl
  keep := by rintro S w w' x vs h hk; exact h
  mono := by rintro S T w x vs h hk; exact h
  bound := by rintro S w x vs h; exact h
abbrev Bytes := SliceOf ByteR 1
theorem Bytes.get {S : Foot} {w : World} {A : Option Addr} {n : Nat} {xs : List Nat} {k : Nat} (h : Bytes S w A n xs) (hk : k < n) :
    ∃ b off x, A = some ⟨b, off, none⟩ ∧ w.cell? ⟨b, off + k, none⟩ = some (.int .u8 ((x : Nat) : Int)) ∧ Hid (xs[k]? = some x) ∧ x < 256 := by
  have hlt : k < xs.length := by rw [h.1]; exact hk
  obtain ⟨b, off, vs, hA, _, _, ⟨rfl, hx⟩, hc⟩ := h.2.2 k xs[k] (List.getElem?_eq_getElem hlt)
  exact ⟨b, off, xs[k], hA, by simpa using hc 0 _ rfl, List.getElem?_eq_getElem hlt, hx⟩

theorem valid_any {A B : Option Addr} {n ca m cb : Nat} {h : Hall} {alo ahi most : Int} (w : World) (g : HallAt (fun _ => True) w A n B m h) (h1 : h.alo = alo) (h2 : h.ahi = ahi) (h3 : h.most = most) :
    Calls Try.prog 11 #[.agg #[.int .i64 alo, .int .i64 ahi, .int .i64 most, .slice A n ca, .slice B m cb]] w fun e w' => e = .returned (.bool (decide ((check8 h).2.2 = 0))) ∧ Below w.heap.size w w' := by
  obtain ⟨W, hW⟩ : ∃ W, w.alloc (.cells #[.int .i64 alo, .int .i64 ahi, .int .i64 most, .slice A n ca, .slice B m cb] 27) = W := ⟨_, rfl⟩
  have X : Blk W w.heap.size 27 #[.int .i64 alo, .int .i64 ahi, .int .i64 most, .slice A n ca, .slice B m cb] := by rw [← hW]; exact Blk.new _ _ _ rfl
  have hBW : Below w.heap.size w W := by rw [← hW]; exact bl_alloc (Below.refl _ _) _ (Nat.le_refl _)
  have x0 := X.cell 0
  have x1 := X.cell 1
  have x2 := X.cell 2
  have x3 := X.cell 3
  have x4 := X.cell 4
  have hcall := rcheck_any (ca := ca) (cb := cb) W (g.keep (Keeps.below hBW)) h1 h2 h3
  generalize (check8 h).1 = p1 at hcall
  generalize (check8 h).2.1 = p2 at hcall
  obtain ⟨E, hE⟩ : ∃ E, (check8 h).2.2 = E := ⟨_, rfl⟩
  rw [hE] at hcall ⊢
  clear hE g
  go_enter Try.func11, Try.ntmps11
  go_wp2_with fail
  refine hcall.mono ?_
  rintro e W1 ⟨rfl, b1⟩
  have hB := bl_call hBW b1 (Nat.le_refl _)
  clear hcall hW x0 x1 x2 x3 x4 X b1
  go_wp2
  go_ret
  exact ⟨ret_bool (by by_cases h0 : E = 0 <;> simp [h0]), hB⟩

theorem turn_any {S : Foot} {A : Option Addr} {n c : Nat} {xs : List Nat} (k : Nat) (w : World) (h : Bytes S w A n xs) :
    Calls Try.prog 13 #[.slice A n c, .int .i64 k] w fun e w' => e = .returned (.int .i64 (turnL xs k)) ∧ w' = w := by
  have hle := h.le
  have Hl := Lib.hid h.len
  by_cases h0 : n = 0
  · subst h0
    have HR : Hid (turnL xs k = 0) := by rw [Hid, turnL, if_pos Hl.out]
    go_enter Try.func13, Try.ntmps13
    go_wp2
    go_ret
    exact ⟨ret_int (by rw [HR.out]; rfl), rfl⟩
  · obtain ⟨r, hr⟩ : ∃ r, k % n = r := ⟨_, rfl⟩
    have hrn : r < n := by rw [← hr]; exact Nat.mod_lt _ (by omega)
    obtain ⟨b, off, x, rfl, hcell, Hx, hx⟩ := Bytes.get h hrn
    have HR : Hid (turnL xs k = x) := by rw [Hid, turnL, if_neg (by rw [Hl.out]; exact h0), Hl.out, hr, getD_of Hx.out]
    have hmod : ((k : Int)).tmod (n : Int) = (r : Int) := by rw [Int.tmod_eq_emod_of_nonneg (by omega), ← hr]; rfl
    have hnz : ¬ (n : Int) = 0 := by omega
    have hnz2 : ((n : Int) == 0) = false := by simp; omega
    have hrni : (r : Int) < n := by omega
    have hcv : IntKind.i64.wrap (x : Int) = x := by rw [IntKind.wrap_i64]; omega
    clear hr h
    go_enter Try.func13, Try.ntmps13
    go_wp2
    go_ret
    exact ⟨ret_int (by rw [HR.out]), rfl⟩

end Go.Proofs.Ytnaadjhiahjlfaa
