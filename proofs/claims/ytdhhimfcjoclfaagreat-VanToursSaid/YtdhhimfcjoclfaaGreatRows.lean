/-
  No cell of these rows narrows 'for every input' (looked for: loops, veiled, ifaces, maps, wideKeys, modest, calm, conditions, laid).
  DERIVED. THE GIVEN ROWS OF THIS SEAT. 3 by the template 'for every input the law returns true; each argument reads behind the call as it read before'; 0 by the template 'total and deterministic' (their statements: YtdhhimfcjoclfaaGreatTotals.lean).
  GIVEN WITH THE SEED: the statements are not yours to turn. If you find one false, say at which input.
  Laid BY PROGRAM, IN A SANDBOX (cutbox-rows.mjs): the forced cells as the released guide's own fill.sh prints them over the translation 4762115150290d64… (all of the seat's roots in one cut). By AI agents, Wed Nov 11 2026. No macro, syntax, notation, axiom, sorry.
-/
import Derived.Test.YtdhhimfcjoclfaaGreatChecked
import GoSem.Claim
import GoSem.ClaimJoined
import GoSem.ClaimMapViews
import Derived.JoinedTies
import Derived.KernelRfl
namespace Go.Proofs.YtdhhimfcjoclfaaGreat
/- THE CELL 'sum', in the pinned program and in every row, IS THE sha256 OF THE DUMP (.gsa) THAT YtdhhimfcjoclfaaGreatProg.lean LOADS. Nothing in Lean hashes anything: it is a label: what it is worth is what the hold of that sum in a sandbox is worth. -/
noncomputable def Tryz.pinned : Pinned := { name := "ytdhhimfcjoclfaagreat", sum := "4762115150290d648b01ea340c75dc370cf125cc551aafebc2c125a6cf90bc20", checked := Tryz.checked }
namespace Rows
def none {H : Type} : Left H := { results := [], args := [] }

/-- 'foldhouselaw10.VanTours': WHATEVER THE INPUT: true; the input reads as it did. -/
def vanToursSpec : ChangeSpec := { name := "vanTours", fn := fun _ => fun
  | [d1, d2] => { results := [.lit (.bool true)], args := [d1, d2] }
  | _ => none }
def vanToursRow : OpenClaim := { program := "ytdhhimfcjoclfaagreat", sum := "4762115150290d648b01ea340c75dc370cf125cc551aafebc2c125a6cf90bc20", func := "foldhouse/foldhouselaw10.VanTours", spec := "vanTours", unfollowed := true, recurses := true, apart := false }
def VanToursSaid : Prop := vanToursRow.holds Tryz.pinned (OpenSpec.ofChange vanToursSpec)

/-- ITS FALSE NEIGHBOUR: 'it returns false'. Refute it at one input. -/
def vanToursWrong : ChangeSpec := { name := "vanTours", fn := fun _ => fun
  | [d1, d2] => { results := [.lit (.bool false)], args := [d1, d2] }
  | _ => none }
def VanToursWrongFalsely : Prop := vanToursRow.holds Tryz.pinned (OpenSpec.ofChange vanToursWrong)

/-- 'foldhouselaw10.VanPlans': WHATEVER THE INPUT: true; the input reads as it did. -/
def vanPlansSpec : ChangeSpec := { name := "vanPlans", fn := fun _ => fun
  | [d1, d2, d3, d4] => { results := [.lit (.bool true)], args := [d1, d2, d3, d4] }
  | _ => none }
def vanPlansRow : OpenClaim := { program := "ytdhhimfcjoclfaagreat", sum := "4762115150290d648b01ea340c75dc370cf125cc551aafebc2c125a6cf90bc20", func := "foldhouse/foldhouselaw10.VanPlans", spec := "vanPlans", unfollowed := true, recurses := true, apart := false }
def VanPlansSaid : Prop := vanPlansRow.holds Tryz.pinned (OpenSpec.ofChange vanPlansSpec)

/-- ITS FALSE NEIGHBOUR: 'it returns false'. Refute it at one input. -/
def vanPlansWrong : ChangeSpec := { name := "vanPlans", fn := fun _ => fun
  | [d1, d2, d3, d4] => { results := [.lit (.bool false)], args := [d1, d2, d3, d4] }
  | _ => none }
def VanPlansWrongFalsely : Prop := vanPlansRow.holds Tryz.pinned (OpenSpec.ofChange vanPlansWrong)

/-- 'foldhouselaw10.VanSmall': WHATEVER THE INPUT: true; the input reads as it did. -/
def vanSmallSpec : ChangeSpec := { name := "vanSmall", fn := fun _ => fun
  | [] => { results := [.lit (.bool true)], args := [] }
  | _ => none }
def vanSmallRow : OpenClaim := { program := "ytdhhimfcjoclfaagreat", sum := "4762115150290d648b01ea340c75dc370cf125cc551aafebc2c125a6cf90bc20", func := "foldhouse/foldhouselaw10.VanSmall", spec := "vanSmall", unfollowed := true, recurses := true, apart := false }
def VanSmallSaid : Prop := vanSmallRow.holds Tryz.pinned (OpenSpec.ofChange vanSmallSpec)

/-- ITS FALSE NEIGHBOUR: 'it returns false'. Refute it at one input. -/
def vanSmallWrong : ChangeSpec := { name := "vanSmall", fn := fun _ => fun
  | [] => { results := [.lit (.bool false)], args := [] }
  | _ => none }
def VanSmallWrongFalsely : Prop := vanSmallRow.holds Tryz.pinned (OpenSpec.ofChange vanSmallWrong)

/- THE SECOND FORM. 'bulk': how many values and letters a reading holds, each counted each time it is reached (what is shared counts as often as it is met; a slice's spare places count too). A statement '..UptoSaid' is the law's where the arguments, and the package variables that the reading takes, are together of bulk at most 1048576: NARROWER than '..Said'. Prove '..Said' where nothing that the law and all that it calls make is longer than what came in: it says more and counts as full. Else prove '..UptoSaid'. A law counts once. -/
mutual
def uptoBulk {H : Type} : DataW H → Nat
  | .lit (.string bytes) => bytes.length + 1
  | .lit _ => 1
  | .nil => 1
  | .ptr d => uptoBulk d + 1
  | .slice elems spare => uptoBulkAll elems + uptoBulkAll spare + 1
  | .agg parts => uptoBulkAll parts + 1
  | .iface _ d => uptoBulk d + 1
  | .map entries => uptoBulkEntries entries + 1
  | .held _ => 1
def uptoBulkAll {H : Type} : List (DataW H) → Nat
  | [] => 0
  | d :: r => uptoBulk d + uptoBulkAll r
def uptoBulkEntries {H : Type} : List (Lit × DataW H) → Nat
  | [] => 0
  | x :: r => uptoBulkEntry x + uptoBulkEntries r
def uptoBulkEntry {H : Type} : Lit × DataW H → Nat
  | (.string bytes, d) => bytes.length + uptoBulk d + 1
  | (_, d) => uptoBulk d + 1
 end
def uptoSmall : (H : Type) → List (DataW H) → Bool := fun _ ds => decide (uptoBulkAll ds ≤ 1048576)
def OpenSpec.upto (s : _root_.Go.ChangeSpec) : _root_.Go.OpenSpec := { _root_.Go.OpenSpec.ofChange s with cond := some uptoSmall }

/-- 'foldhouselaw10.VanTours', WHERE WHAT IT READS IS OF BULK AT MOST 1048576: true; the input reads as it did. -/
def vanToursUptoRow : OpenClaim := { program := "ytdhhimfcjoclfaagreat", sum := "4762115150290d648b01ea340c75dc370cf125cc551aafebc2c125a6cf90bc20", func := "foldhouse/foldhouselaw10.VanTours", spec := "vanTours", unfollowed := true, recurses := true, apart := false, narrowed := true }
def VanToursUptoSaid : Prop := vanToursUptoRow.holds Tryz.pinned (OpenSpec.upto vanToursSpec)

/-- 'foldhouselaw10.VanPlans', WHERE WHAT IT READS IS OF BULK AT MOST 1048576: true; the input reads as it did. -/
def vanPlansUptoRow : OpenClaim := { program := "ytdhhimfcjoclfaagreat", sum := "4762115150290d648b01ea340c75dc370cf125cc551aafebc2c125a6cf90bc20", func := "foldhouse/foldhouselaw10.VanPlans", spec := "vanPlans", unfollowed := true, recurses := true, apart := false, narrowed := true }
def VanPlansUptoSaid : Prop := vanPlansUptoRow.holds Tryz.pinned (OpenSpec.upto vanPlansSpec)

/-- 'foldhouselaw10.VanSmall', WHERE WHAT IT READS IS OF BULK AT MOST 1048576: true; the input reads as it did. -/
def vanSmallUptoRow : OpenClaim := { program := "ytdhhimfcjoclfaagreat", sum := "4762115150290d648b01ea340c75dc370cf125cc551aafebc2c125a6cf90bc20", func := "foldhouse/foldhouselaw10.VanSmall", spec := "vanSmall", unfollowed := true, recurses := true, apart := false, narrowed := true }
def VanSmallUptoSaid : Prop := vanSmallUptoRow.holds Tryz.pinned (OpenSpec.upto vanSmallSpec)

end Rows
end Go.Proofs.YtdhhimfcjoclfaaGreat
