/- Plain facts on lists that the walks of library functions end in. -/
import Derived.Test.YtdhhimfcjoclfaaKG
set_option linter.unusedVariables false
namespace Go.K
open Go
def idxOf {α : Type} (p : α → Bool) (xs : List α) : Int :=
  match xs.findIdx? p with
  | some i => i
  | none => -1
end Go.K
