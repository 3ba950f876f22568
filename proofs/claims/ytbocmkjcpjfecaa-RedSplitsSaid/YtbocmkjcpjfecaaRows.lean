/-
  No cell of these rows narrows 'for every input' (looked for: loops, veiled, ifaces, maps, wideKeys, modest, calm, conditions, laid).
  DERIVED. THE GIVEN ROWS OF THIS SEAT. 4 by the template 'for every input the law returns true; each argument reads behind the call as it read before'; 0 by the template 'total and deterministic' (their statements: YtbocmkjcpjfecaaTotals.lean).
  GIVEN WITH THE SEED: the statements are not yours to turn. If you find one false, say at which input.
  Laid BY PROGRAM, IN A SANDBOX (cutbox-rows.mjs): the forced cells as the released guide's own fill.sh prints them over the translation 28a1efdd8b38e98b… (all of the seat's roots in one cut). By AI agents, Wed Nov 11 2026. No macro, syntax, notation, axiom, sorry.
-/
import Derived.Test.YtbocmkjcpjfecaaChecked
import GoSem.Claim
import GoSem.ClaimJoined
import GoSem.ClaimMapViews
import Derived.JoinedTies
import Derived.KernelRfl
namespace Go.Proofs.Ytbocmkjcpjfecaa
/- THE CELL 'sum', in the pinned program and in every row, IS THE sha256 OF THE DUMP (.gsa) THAT YtbocmkjcpjfecaaProg.lean LOADS. Nothing in Lean hashes anything: it is a label: what it is worth is what the hold of that sum in a sandbox is worth. -/
noncomputable def Try.pinned : Pinned := { name := "ytbocmkjcpjfecaa", sum := "28a1efdd8b38e98b01057c09071beb75c96586f2cf4a907283f52ab1d96c0f01", checked := Try.checked }
namespace Rows
def none {H : Type} : Left H := { results := [], args := [] }

/-- 'outriderlaw14.RedJoins': WHATEVER THE INPUT: true; the input reads as it did. -/
def redJoinsSpec : ChangeSpec := { name := "redJoins", fn := fun _ => fun
  | [d1, d2, d3] => { results := [.lit (.bool true)], args := [d1, d2, d3] }
  | _ => none }
def redJoinsRow : OpenClaim := { program := "ytbocmkjcpjfecaa", sum := "28a1efdd8b38e98b01057c09071beb75c96586f2cf4a907283f52ab1d96c0f01", func := "outrider/outriderlaw14.RedJoins", spec := "redJoins", apart := false }
def RedJoinsSaid : Prop := redJoinsRow.holds Try.pinned (OpenSpec.ofChange redJoinsSpec)

/-- ITS FALSE NEIGHBOUR: 'it returns false'. Refute it at one input. -/
def redJoinsWrong : ChangeSpec := { name := "redJoins", fn := fun _ => fun
  | [d1, d2, d3] => { results := [.lit (.bool false)], args := [d1, d2, d3] }
  | _ => none }
def RedJoinsWrongFalsely : Prop := redJoinsRow.holds Try.pinned (OpenSpec.ofChange redJoinsWrong)

/-- 'outriderlaw14.RedLaws': WHATEVER THE INPUT: true; the input reads as it did. -/
def redLawsSpec : ChangeSpec := { name := "redLaws", fn := fun _ => fun
  | [d] => { results := [.lit (.bool true)], args := [d] }
  | _ => none }
def redLawsRow : OpenClaim := { program := "ytbocmkjcpjfecaa", sum := "28a1efdd8b38e98b01057c09071beb75c96586f2cf4a907283f52ab1d96c0f01", func := "outrider/outriderlaw14.RedLaws", spec := "redLaws", apart := false }
def RedLawsSaid : Prop := redLawsRow.holds Try.pinned (OpenSpec.ofChange redLawsSpec)

/-- ITS FALSE NEIGHBOUR: 'it returns false'. Refute it at one input. -/
def redLawsWrong : ChangeSpec := { name := "redLaws", fn := fun _ => fun
  | [d] => { results := [.lit (.bool false)], args := [d] }
  | _ => none }
def RedLawsWrongFalsely : Prop := redLawsRow.holds Try.pinned (OpenSpec.ofChange redLawsWrong)

/-- 'outriderlaw14.RedFolds': WHATEVER THE INPUT: true; the input reads as it did. -/
def redFoldsSpec : ChangeSpec := { name := "redFolds", fn := fun _ => fun
  | [d1, d2, d3] => { results := [.lit (.bool true)], args := [d1, d2, d3] }
  | _ => none }
def redFoldsRow : OpenClaim := { program := "ytbocmkjcpjfecaa", sum := "28a1efdd8b38e98b01057c09071beb75c96586f2cf4a907283f52ab1d96c0f01", func := "outrider/outriderlaw14.RedFolds", spec := "redFolds", apart := false }
def RedFoldsSaid : Prop := redFoldsRow.holds Try.pinned (OpenSpec.ofChange redFoldsSpec)

/-- ITS FALSE NEIGHBOUR: 'it returns false'. Refute it at one input. -/
def redFoldsWrong : ChangeSpec := { name := "redFolds", fn := fun _ => fun
  | [d1, d2, d3] => { results := [.lit (.bool false)], args := [d1, d2, d3] }
  | _ => none }
def RedFoldsWrongFalsely : Prop := redFoldsRow.holds Try.pinned (OpenSpec.ofChange redFoldsWrong)

/-- 'outriderlaw14.RedSplits': WHATEVER THE INPUT: true; the input reads as it did. -/
def redSplitsSpec : ChangeSpec := { name := "redSplits", fn := fun _ => fun
  | [d1, d2, d3] => { results := [.lit (.bool true)], args := [d1, d2, d3] }
  | _ => none }
def redSplitsRow : OpenClaim := { program := "ytbocmkjcpjfecaa", sum := "28a1efdd8b38e98b01057c09071beb75c96586f2cf4a907283f52ab1d96c0f01", func := "outrider/outriderlaw14.RedSplits", spec := "redSplits", apart := false }
def RedSplitsSaid : Prop := redSplitsRow.holds Try.pinned (OpenSpec.ofChange redSplitsSpec)

/-- ITS FALSE NEIGHBOUR: 'it returns false'. Refute it at one input. -/
def redSplitsWrong : ChangeSpec := { name := "redSplits", fn := fun _ => fun
  | [d1, d2, d3] => { results := [.lit (.bool false)], args := [d1, d2, d3] }
  | _ => none }
def RedSplitsWrongFalsely : Prop := redSplitsRow.holds Try.pinned (OpenSpec.ofChange redSplitsWrong)

/- THE SECOND FORM. 'bulk': how many values and letters a reading holds, each counted each time it is reached (what is shared counts as often as it is met; a slice's spare places count too). A statement '..UptoSaid' is the law's where the arguments, and the package variables that the reading takes, are together of bulk at most 1048576: NARROWER than '..Said'. Prove '..Said' where nothing that the law and all that it calls make is longer than what came in: it says more and counts as full. Else prove '..UptoSaid'. A law counts once. -/
mutual
def uptoBulk {H : Type} : DataW H → Nat
  | .lit (.string bytes) => bytes.length + 1
  | .lit _ => 1
  | .nil => 1
  | .ptr d => uptoBulk d + 1
  | .slice elems spare => uptoBulkAll elems + uptoBulkAll spare + 1
  | .agg parts => uptoBulkAll parts + 1
  | .iface _ d => uptoBulk d + 1
  | .map entries => uptoBulkEntries entries + 1
  | .held _ => 1
def uptoBulkAll {H : Type} : List (DataW H) → Nat
  | [] => 0
  | d :: r => uptoBulk d + uptoBulkAll r
def uptoBulkEntries {H : Type} : List (Lit × DataW H) → Nat
  | [] => 0
  | x :: r => uptoBulkEntry x + uptoBulkEntries r
def uptoBulkEntry {H : Type} : Lit × DataW H → Nat
  | (.string bytes, d) => bytes.length + uptoBulk d + 1
  | (_, d) => uptoBulk d + 1
 end
def uptoSmall : (H : Type) → List (DataW H) → Bool := fun _ ds => decide (uptoBulkAll ds ≤ 1048576)
def OpenSpec.upto (s : _root_.Go.ChangeSpec) : _root_.Go.OpenSpec := { _root_.Go.OpenSpec.ofChange s with cond := some uptoSmall }

/-- 'outriderlaw14.RedJoins', WHERE WHAT IT READS IS OF BULK AT MOST 1048576: true; the input reads as it did. -/
def redJoinsUptoRow : OpenClaim := { program := "ytbocmkjcpjfecaa", sum := "28a1efdd8b38e98b01057c09071beb75c96586f2cf4a907283f52ab1d96c0f01", func := "outrider/outriderlaw14.RedJoins", spec := "redJoins", apart := false, narrowed := true }
def RedJoinsUptoSaid : Prop := redJoinsUptoRow.holds Try.pinned (OpenSpec.upto redJoinsSpec)

/-- 'outriderlaw14.RedLaws', WHERE WHAT IT READS IS OF BULK AT MOST 1048576: true; the input reads as it did. -/
def redLawsUptoRow : OpenClaim := { program := "ytbocmkjcpjfecaa", sum := "28a1efdd8b38e98b01057c09071beb75c96586f2cf4a907283f52ab1d96c0f01", func := "outrider/outriderlaw14.RedLaws", spec := "redLaws", apart := false, narrowed := true }
def RedLawsUptoSaid : Prop := redLawsUptoRow.holds Try.pinned (OpenSpec.upto redLawsSpec)

/-- 'outriderlaw14.RedFolds', WHERE WHAT IT READS IS OF BULK AT MOST 1048576: true; the input reads as it did. -/
def redFoldsUptoRow : OpenClaim := { program := "ytbocmkjcpjfecaa", sum := "28a1efdd8b38e98b01057c09071beb75c96586f2cf4a907283f52ab1d96c0f01", func := "outrider/outriderlaw14.RedFolds", spec := "redFolds", apart := false, narrowed := true }
def RedFoldsUptoSaid : Prop := redFoldsUptoRow.holds Try.pinned (OpenSpec.upto redFoldsSpec)

/-- 'outriderlaw14.RedSplits', WHERE WHAT IT READS IS OF BULK AT MOST 1048576: true; the input reads as it did. -/
def redSplitsUptoRow : OpenClaim := { program := "ytbocmkjcpjfecaa", sum := "28a1efdd8b38e98b01057c09071beb75c96586f2cf4a907283f52ab1d96c0f01", func := "outrider/outriderlaw14.RedSplits", spec := "redSplits", apart := false, narrowed := true }
def RedSplitsUptoSaid : Prop := redSplitsUptoRow.holds Try.pinned (OpenSpec.upto redSplitsSpec)

end Rows
end Go.Proofs.Ytbocmkjcpjfecaa
