/-
  No cell of these rows narrows 'for every input' (looked for: loops, veiled, ifaces, maps, wideKeys, modest, calm, conditions, laid).
  DERIVED. THE GIVEN ROWS OF THIS SEAT. 3 by the template 'for every input the law returns true; each argument reads behind the call as it read before'; 0 by the template 'total and deterministic' (their statements: YtdhhimfcjoclfaaTotals.lean).
  GIVEN WITH THE SEED: the statements are not yours to turn. If you find one false, say at which input.
  Laid BY PROGRAM, IN A SANDBOX (cutbox-rows.mjs): the forced cells as the released guide's own fill.sh prints them over the translation 970f026aad2acd3f… (all of the seat's roots in one cut). By AI agents, Wed Nov 11 2026. No macro, syntax, notation, axiom, sorry.
-/
import Derived.Test.YtdhhimfcjoclfaaChecked
import GoSem.Claim
import GoSem.ClaimJoined
import GoSem.ClaimMapViews
import Derived.JoinedTies
import Derived.KernelRfl
namespace Go.Proofs.Ytdhhimfcjoclfaa
/- THE CELL 'sum', in the pinned program and in every row, IS THE sha256 OF THE DUMP (.gsa) THAT YtdhhimfcjoclfaaProg.lean LOADS. Nothing in Lean hashes anything: it is a label: what it is worth is what the hold of that sum in a sandbox is worth. -/
noncomputable def Try.pinned : Pinned := { name := "ytdhhimfcjoclfaa", sum := "970f026aad2acd3ffe1057b2a02dbcb1544669dbc9527908c3e1fb4be5633595", checked := Try.checked }
namespace Rows
def none {H : Type} : Left H := { results := [], args := [] }

/-- 'foldhouselaw10.VanWider': WHATEVER THE INPUT: true; the input reads as it did. -/
def vanWiderSpec : ChangeSpec := { name := "vanWider", fn := fun _ => fun
  | [d1, d2, d3] => { results := [.lit (.bool true)], args := [d1, d2, d3] }
  | _ => none }
def vanWiderRow : OpenClaim := { program := "ytdhhimfcjoclfaa", sum := "970f026aad2acd3ffe1057b2a02dbcb1544669dbc9527908c3e1fb4be5633595", func := "foldhouse/foldhouselaw10.VanWider", spec := "vanWider", inPlace := ["slices.overlaps[int]"], unfollowed := true, recurses := true, apart := false }
def VanWiderSaid : Prop := vanWiderRow.holds Try.pinned (OpenSpec.ofChange vanWiderSpec)

/-- ITS FALSE NEIGHBOUR: 'it returns false'. Refute it at one input. -/
def vanWiderWrong : ChangeSpec := { name := "vanWider", fn := fun _ => fun
  | [d1, d2, d3] => { results := [.lit (.bool false)], args := [d1, d2, d3] }
  | _ => none }
def VanWiderWrongFalsely : Prop := vanWiderRow.holds Try.pinned (OpenSpec.ofChange vanWiderWrong)

/-- 'foldhouselaw10.VanSlack': WHATEVER THE INPUT: true; the input reads as it did. -/
def vanSlackSpec : ChangeSpec := { name := "vanSlack", fn := fun _ => fun
  | [d1, d2] => { results := [.lit (.bool true)], args := [d1, d2] }
  | _ => none }
def vanSlackRow : OpenClaim := { program := "ytdhhimfcjoclfaa", sum := "970f026aad2acd3ffe1057b2a02dbcb1544669dbc9527908c3e1fb4be5633595", func := "foldhouse/foldhouselaw10.VanSlack", spec := "vanSlack", inPlace := ["slices.overlaps[int]"], unfollowed := true, recurses := true, apart := false }
def VanSlackSaid : Prop := vanSlackRow.holds Try.pinned (OpenSpec.ofChange vanSlackSpec)

/-- ITS FALSE NEIGHBOUR: 'it returns false'. Refute it at one input. -/
def vanSlackWrong : ChangeSpec := { name := "vanSlack", fn := fun _ => fun
  | [d1, d2] => { results := [.lit (.bool false)], args := [d1, d2] }
  | _ => none }
def VanSlackWrongFalsely : Prop := vanSlackRow.holds Try.pinned (OpenSpec.ofChange vanSlackWrong)

/-- 'foldhouselaw10.VanLeast': WHATEVER THE INPUT: true; the input reads as it did. -/
def vanLeastSpec : ChangeSpec := { name := "vanLeast", fn := fun _ => fun
  | [d1, d2] => { results := [.lit (.bool true)], args := [d1, d2] }
  | _ => none }
def vanLeastRow : OpenClaim := { program := "ytdhhimfcjoclfaa", sum := "970f026aad2acd3ffe1057b2a02dbcb1544669dbc9527908c3e1fb4be5633595", func := "foldhouse/foldhouselaw10.VanLeast", spec := "vanLeast", inPlace := ["slices.overlaps[int]"], unfollowed := true, recurses := true, apart := false }
def VanLeastSaid : Prop := vanLeastRow.holds Try.pinned (OpenSpec.ofChange vanLeastSpec)

/-- ITS FALSE NEIGHBOUR: 'it returns false'. Refute it at one input. -/
def vanLeastWrong : ChangeSpec := { name := "vanLeast", fn := fun _ => fun
  | [d1, d2] => { results := [.lit (.bool false)], args := [d1, d2] }
  | _ => none }
def VanLeastWrongFalsely : Prop := vanLeastRow.holds Try.pinned (OpenSpec.ofChange vanLeastWrong)

/- THE SECOND FORM. 'bulk': how many values and letters a reading holds, each counted each time it is reached (what is shared counts as often as it is met; a slice's spare places count too). A statement '..UptoSaid' is the law's where the arguments, and the package variables that the reading takes, are together of bulk at most 1048576: NARROWER than '..Said'. Prove '..Said' where nothing that the law and all that it calls make is longer than what came in: it says more and counts as full. Else prove '..UptoSaid'. A law counts once. -/
mutual
def uptoBulk {H : Type} : DataW H → Nat
  | .lit (.string bytes) => bytes.length + 1
  | .lit _ => 1
  | .nil => 1
  | .ptr d => uptoBulk d + 1
  | .slice elems spare => uptoBulkAll elems + uptoBulkAll spare + 1
  | .agg parts => uptoBulkAll parts + 1
  | .iface _ d => uptoBulk d + 1
  | .map entries => uptoBulkEntries entries + 1
  | .held _ => 1
def uptoBulkAll {H : Type} : List (DataW H) → Nat
  | [] => 0
  | d :: r => uptoBulk d + uptoBulkAll r
def uptoBulkEntries {H : Type} : List (Lit × DataW H) → Nat
  | [] => 0
  | x :: r => uptoBulkEntry x + uptoBulkEntries r
def uptoBulkEntry {H : Type} : Lit × DataW H → Nat
  | (.string bytes, d) => bytes.length + uptoBulk d + 1
  | (_, d) => uptoBulk d + 1
 end
def uptoSmall : (H : Type) → List (DataW H) → Bool := fun _ ds => decide (uptoBulkAll ds ≤ 1048576)
def OpenSpec.upto (s : _root_.Go.ChangeSpec) : _root_.Go.OpenSpec := { _root_.Go.OpenSpec.ofChange s with cond := some uptoSmall }

/-- 'foldhouselaw10.VanWider', WHERE WHAT IT READS IS OF BULK AT MOST 1048576: true; the input reads as it did. -/
def vanWiderUptoRow : OpenClaim := { program := "ytdhhimfcjoclfaa", sum := "970f026aad2acd3ffe1057b2a02dbcb1544669dbc9527908c3e1fb4be5633595", func := "foldhouse/foldhouselaw10.VanWider", spec := "vanWider", inPlace := ["slices.overlaps[int]"], unfollowed := true, recurses := true, apart := false, narrowed := true }
def VanWiderUptoSaid : Prop := vanWiderUptoRow.holds Try.pinned (OpenSpec.upto vanWiderSpec)

/-- 'foldhouselaw10.VanSlack', WHERE WHAT IT READS IS OF BULK AT MOST 1048576: true; the input reads as it did. -/
def vanSlackUptoRow : OpenClaim := { program := "ytdhhimfcjoclfaa", sum := "970f026aad2acd3ffe1057b2a02dbcb1544669dbc9527908c3e1fb4be5633595", func := "foldhouse/foldhouselaw10.VanSlack", spec := "vanSlack", inPlace := ["slices.overlaps[int]"], unfollowed := true, recurses := true, apart := false, narrowed := true }
def VanSlackUptoSaid : Prop := vanSlackUptoRow.holds Try.pinned (OpenSpec.upto vanSlackSpec)

/-- 'foldhouselaw10.VanLeast', WHERE WHAT IT READS IS OF BULK AT MOST 1048576: true; the input reads as it did. -/
def vanLeastUptoRow : OpenClaim := { program := "ytdhhimfcjoclfaa", sum := "970f026aad2acd3ffe1057b2a02dbcb1544669dbc9527908c3e1fb4be5633595", func := "foldhouse/foldhouselaw10.VanLeast", spec := "vanLeast", inPlace := ["slices.overlaps[int]"], unfollowed := true, recurses := true, apart := false, narrowed := true }
def VanLeastUptoSaid : Prop := vanLeastUptoRow.holds Try.pinned (OpenSpec.upto vanLeastSpec)

end Rows
end Go.Proofs.Ytdhhimfcjoclfaa
