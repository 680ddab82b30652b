/- Structs of numbers and truths that are compared; no program is named here. -/
import Derived.Test.YtdhhimfcjoclfaaKI
import Derived.Laws.StructEq
import Derived.ChangeKeysEq
set_option linter.unusedVariables false
set_option linter.unusedSimpArgs false
namespace Go.K
open Go
def flatOk (P : Program) : Nat → List Field → List Bool → Bool
  | _, [], [] => true
  | o, f :: fs, k :: ks => (f.name != "_") && ((f.offset == o) && (P.plainKey f.type && ((match P.underlying f.type with | some (.int .i64) => k | some .bool => !k | _ => false) && flatOk P (o + 1) fs ks)))
  | _, _, _ => false
def flatB (P : Program) (t : TypeId) (ks : List Bool) : Bool :=
  (match P.underlying t with | some (.struct fs) => flatOk P 0 fs.toList ks | _ => false) && (!P.stoodInHeld t && !P.eqGuardType P.depth t)
inductive EqC : List Bool → List Value → List Value → Bool → Prop
  | nil : EqC [] [] [] true
  | int {ks xs ys b} (a c : Int) (h : EqC ks xs ys b) : EqC (true :: ks) (.int .i64 a :: xs) (.int .i64 c :: ys) (decide (a = c) && b)
  | bool {ks xs ys b} (a c : Bool) (h : EqC ks xs ys b) : EqC (false :: ks) (.bool a :: xs) (.bool c :: ys) ((a == c) && b)
section
variable {P : Program} {S : World → Prop} {ρ : Operand → Value} {d : Option Nat} {ty : TypeId} {pos : String} {af : Array Edge} {g : Option (Nat × Bool)}
end
end Go.K
