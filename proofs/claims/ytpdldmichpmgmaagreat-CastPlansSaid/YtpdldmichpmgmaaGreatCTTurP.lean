/- Plain: the n-th number of a list, by turns. Nothing of a program stands here. -/
import Derived.Test.YtpdldmichpmgmaaGreatCTilePure2
set_option linter.unusedVariables false
set_option linter.unusedSimpArgs false
set_option linter.all false
namespace Go.Proofs.YtpdldmichpmgmaaGreat

def turnL (l : List Nat) (n : Nat) : Nat := if l.length = 0 then 0 else l.getD (n % l.length) 0

end Go.Proofs.YtpdldmichpmgmaaGreat
