/- Layer 7, plain: what Check, CheckSeen, Sizes, Shrinks and Fits of the document return. Nothing of a program stands here. -/
import Derived.Test.YtpdldmichpmgmaaGreatCTilePure
set_option linter.unusedVariables false
set_option linter.unusedSimpArgs false
set_option linter.all false
namespace Go.Proofs.YtpdldmichpmgmaaGreat

/-- a mould: its name, its size as it is new, its wear, how many casts it gives -/
structure Mould where
  name : List UInt8
  slo : Int
  shi : Int
  wlo : Int
  whi : Int
  casts : Int
/-- a shop: by how much plaster shrinks, and moulds -/
structure Shop where
  klo : Int
  khi : Int
  moulds : List Mould
/-- a cast that was measured -/
structure SeenC where
  mould : Int
  cast : Int
  lo : Int
  hi : Int
def dMould : Mould := ⟨[], 0, 0, 0, 0, 0⟩
def dSeenC : SeenC := ⟨0, 0, 0, 0⟩

def mouldN (x : Mould) : Int :=
  if !inB x.slo 1 20000 || !inB x.shi 1 20000 || !inB x.wlo 0 20 || !inB x.whi 0 20 || !inB x.casts 1 8 then 7
  else if !inB x.shi x.slo (x.slo + 12) || !inB x.whi x.wlo (x.wlo + 3) then 2 else 0
def mouldE (l : List Mould) (k : Nat) : Int :=
  let x := l.getD k dMould
  let e := fresh x.name ((l.take k).map (·.name))
  if e ≠ 0 then e else mouldN x
/-- P7.1 -/
def check7 (s : Shop) : Int × Int × Int :=
  if !inB s.klo 0 100 || !inB s.khi 0 100 then (1, 0, 7)
  else if !inB s.khi s.klo (s.klo + 6) then (1, 0, 2)
  else if ¬ (1 ≤ s.moulds.length ∧ s.moulds.length ≤ 4) then (1, 0, 3)
  else match firstErr (mouldE s.moulds) s.moulds.length with
  | some (k, e) => (2, k, e)
  | none => (0, 0, 0)
def err7 (s : Shop) : Int := (check7 s).2.2
/-- is there a cast -/
def there7 (s : Shop) (m c : Int) : Bool := inB m 0 ((s.moulds.length : Int) - 1) && inB c 0 ((s.moulds.getD m.toNat dMould).casts - 1)
def seenE7 (s : Shop) (l : List SeenC) (k : Nat) : Int :=
  let x := l.getD k dSeenC
  if !there7 s x.mould x.cast then 4 else rangeE ⟨x.lo, x.hi⟩ 0 20000
/-- P7.2 -/
def seen7 (s : Shop) (l : List SeenC) : Int × Int :=
  if err7 s ≠ 0 then (0, err7 s) else if 6 < l.length then (0, 3) else
  match firstErr (seenE7 s l) l.length with
  | some (k, e) => (k, e)
  | none => (0, 0)

/-- the size of a cast -/
def made7 (size wear cast shrink : Int) : Int := (size + wear * cast) - ((size + wear * cast) * shrink).tdiv 1000
/-- does a size and a wear of a mould agree with what is seen -/
def twoOk7 (l : List SeenC) (m : Nat) (k a w : Int) : Bool := l.all fun y => !(y.mould == (m : Int)) || inB (made7 a w y.cast k) y.lo y.hi
def sizeN (x : Mould) : Nat := (x.shi - x.slo + 1).toNat
def wearN (x : Mould) : Nat := (x.whi - x.wlo + 1).toNat
def pairC (x : Mould) (i : Nat) : Int × Int := (x.slo + ((i / wearN x : Nat) : Int), x.wlo + ((i % wearN x : Nat) : Int))
def twosC (s : Shop) (l : List SeenC) (m : Nat) (k : Int) : List (Int × Int) := ((List.range (sizeN (s.moulds.getD m dMould) * wearN (s.moulds.getD m dMould))).map (pairC (s.moulds.getD m dMould))).filter fun p => twoOk7 l m k p.1 p.2
/-- does a number of Shrink agree -/
def knownB (s : Shop) (l : List SeenC) (k : Int) : Bool := (List.range s.moulds.length).all fun m => !(twosC s l m k).isEmpty
def shrinkL (s : Shop) : List Int := (List.range (s.khi - s.klo + 1).toNat).map fun i : Nat => s.klo + (i : Int)
def known7 (s : Shop) (l : List SeenC) : List Int := (shrinkL s).filter (knownB s l)
/-- all sizes of a cast in truths that agree, one by one -/
def madeL (s : Shop) (l : List SeenC) (m : Nat) (c : Int) : List Int := (known7 s l).flatMap fun k => (twosC s l m k).map fun p => made7 p.1 p.2 c k
/-- P7.3 -/
def size7 (s : Shop) (l : List SeenC) (m : Nat) (c : Int) : Int × Int := endsOf (madeL s l m c)
def agreeE7 (s : Shop) (l : List SeenC) (e : Int) : Int := if e = 0 ∧ known7 s l = [] then 9 else e
def sizesR (s : Shop) (l : List SeenC) (m c : Int) : (Int × Int) × Int :=
  if (seen7 s l).2 ≠ 0 then ((0, 0), (seen7 s l).2) else
  if !there7 s m c then ((0, 0), 4) else
  if known7 s l = [] then ((0, 0), 9) else (size7 s l m.toNat c, 0)
def shrinksR (s : Shop) (l : List SeenC) : List Int × Int :=
  if (seen7 s l).2 ≠ 0 then ([], (seen7 s l).2) else
  if known7 s l = [] then ([], 9) else (known7 s l, 0)
/-- the casts of a shop, in order -/
def placesL (s : Shop) : List (Nat × Nat) := (List.range s.moulds.length).flatMap fun m => (List.range (s.moulds.getD m dMould).casts.toNat).map fun c => (m, c)
/-- P7.4 -/
def fit7 (s : Shop) (l : List SeenC) (a z : Int) : List (Nat × Nat) := (placesL s).filter fun p => decide (a ≤ (size7 s l p.1 p.2).1) && decide ((size7 s l p.1 p.2).2 ≤ z)
def fitsR (s : Shop) (l : List SeenC) (a z : Int) : List (Nat × Nat) × Int :=
  if (seen7 s l).2 ≠ 0 then ([], (seen7 s l).2) else
  if rangeE ⟨a, z⟩ 0 20000 ≠ 0 then ([], rangeE ⟨a, z⟩ 0 20000) else
  if known7 s l = [] then ([], 9) else (fit7 s l a z, 0)

end Go.Proofs.YtpdldmichpmgmaaGreat
