/- Walks, layer 7: truths and what is told of them, as promises of a drawn region. -/
import Derived.Test.YtpdldmichpmgmaaGreatCKOuts
set_option linter.unusedVariables false
set_option linter.unusedSimpArgs false
set_option linter.all false
namespace Go.Proofs.YtpdldmichpmgmaaGreat
open Go.RowKit Go.Shelf

def TruthV (B : Nat) (k : Int) (tw : List (Int × Int)) (v : Value) (W : World) : Prop := ∃ (A : Option Addr) (c : Nat), v = .agg #[.int .i64 k, .slice A tw.length c] ∧ Pairs (fun j => B ≤ j) W A tw.length tw
theorem TruthV.bl {B : Nat} {k : Int} {tw : List (Int × Int)} {v : Value} {W V : World} (h : TruthV B k tw v W) (hb : Below W.heap.size W V) : TruthV B k tw v V := by
  obtain ⟨A, c, h1, h2⟩ := h
  exact ⟨A, c, h1, h2.keep PairR.good (Keeps.below hb)⟩
theorem TruthV.low {B B' : Nat} {k : Int} {tw : List (Int × Int)} {v : Value} {W : World} (h : TruthV B k tw v W) (hb : B' ≤ B) : TruthV B' k tw v W := by
  obtain ⟨A, c, h1, h2⟩ := h
  exact ⟨A, c, h1, h2.mono PairR.good (fun j h => Nat.le_trans hb h)⟩
theorem TruthV.of {B : Nat} {k : Int} {tw : List (Int × Int)} {e : Ending} {W : World} (h : IsTruth B k tw e W) : ∃ v, e = .returned v ∧ TruthV B k tw v W := by
  obtain ⟨A, c, h1, h2⟩ := h
  exact ⟨_, h1, A, c, rfl, h2⟩
def SeensV (B : Nat) (l : List SeenC) (v : Value) (W : World) : Prop := ∃ (A : Option Addr) (c : Nat), v = .slice A l.length c ∧ SeenCs (fun j => B ≤ j) W A l.length l
theorem SeensV.bl {B : Nat} {l : List SeenC} {v : Value} {W V : World} (h : SeensV B l v W) (hb : Below W.heap.size W V) : SeensV B l v V := by
  obtain ⟨A, c, h1, h2⟩ := h
  exact ⟨A, c, h1, h2.keep SeenCR.good (Keeps.below hb)⟩
theorem SeensV.low {B B' : Nat} {l : List SeenC} {v : Value} {W : World} (h : SeensV B l v W) (hb : B' ≤ B) : SeensV B' l v W := by
  obtain ⟨A, c, h1, h2⟩ := h
  exact ⟨A, c, h1, h2.mono SeenCR.good (fun j h => Nat.le_trans hb h)⟩
theorem SeensV.of {B : Nat} {l : List SeenC} {e : Ending} {W : World} (h : IsSeensC B l e W) : ∃ v, e = .returned v ∧ SeensV B l v W := by
  obtain ⟨A, c, h1, h2⟩ := h
  exact ⟨_, h1, A, c, rfl, h2⟩
def SeensW (B : Nat) (l : List SeenC) (v : Value) (W : World) : Prop := ∃ (A : Option Addr) (c : Nat), v = .slice A l.length c ∧ SeenCs (fun j => B ≤ j) W A l.length l ∧ l.length ≤ c
theorem SeensW.bl {B : Nat} {l : List SeenC} {v : Value} {W V : World} (h : SeensW B l v W) (hb : Below W.heap.size W V) : SeensW B l v V := by
  obtain ⟨A, c, h1, h2, h3⟩ := h
  exact ⟨A, c, h1, h2.keep SeenCR.good (Keeps.below hb), h3⟩
theorem SeensW.low {B B' : Nat} {l : List SeenC} {v : Value} {W : World} (h : SeensW B l v W) (hb : B' ≤ B) : SeensW B' l v W := by
  obtain ⟨A, c, h1, h2, h3⟩ := h
  exact ⟨A, c, h1, h2.mono SeenCR.good (fun j h => Nat.le_trans hb h), h3⟩
theorem SeensW.of {B : Nat} {l : List SeenC} {e : Ending} {W : World} (h : IsSeensD B l e W) : ∃ v, e = .returned v ∧ SeensW B l v W := by
  obtain ⟨A, c, h1, h2, h3⟩ := h
  exact ⟨_, h1, A, c, rfl, h2, h3⟩
theorem infoSp7 : (Tryz.prog.info? 23).map (fun i => (i.zero, i.size, i.bytes)) = some (some (.agg #[.int .i64 0, .int .i64 0]), 2, 16) := by kernel_rfl
/-- a span in a new slice of one -/
def IsSp (p : Int × Int) (v : Value) (W : World) : Prop := ∃ g : Nat, v = .slice (some ⟨g, 0, none⟩) 1 1 ∧ Blk W g 23 #[.int .i64 p.1, .int .i64 p.2]
theorem IsSp.bl {p : Int × Int} {v : Value} {W V : World} (h : IsSp p v W) (hb : Below W.heap.size W V) : IsSp p v V := by
  obtain ⟨g, h1, h2⟩ := h
  exact ⟨g, h1, h2.bl hb⟩
theorem blk_newsP {w : World} {g : Nat} {t : TypeId} {x y : Value} (h : Blk w g t #[x, y]) {j : Nat} {v : Value} (hv : [x, y][j]? = some v) : w.cell? ((⟨g, 0, none⟩ : Addr).add j) = some v := by
  have hadd : (⟨g, 0, none⟩ : Addr).add j = ⟨g, j, none⟩ := by unfold Addr.add; split <;> simp_all
  rw [hadd, h.cell]
  simpa using hv
end Go.Proofs.YtpdldmichpmgmaaGreat
