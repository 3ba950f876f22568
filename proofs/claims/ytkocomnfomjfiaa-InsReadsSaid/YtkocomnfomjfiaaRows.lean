/-
  No cell of these rows narrows 'for every input' (looked for: loops, veiled, ifaces, maps, wideKeys, modest, calm, conditions, laid).
  DERIVED. THE GIVEN ROWS OF THIS SEAT. 8 by the template 'for every input the law returns true; each argument reads behind the call as it read before'; 0 by the template 'total and deterministic' (their statements: YtkocomnfomjfiaaTotals.lean).
  GIVEN WITH THE SEED: the statements are not yours to turn. If you find one false, say at which input.
  Laid BY PROGRAM, IN A SANDBOX (cutbox-rows.mjs): the forced cells as the released guide's own fill.sh prints them over the translation c8cbb851ca86718c… (all of the seat's roots in one cut). By AI agents, Wed Nov 11 2026. No macro, syntax, notation, axiom, sorry.
-/
import Derived.Test.YtkocomnfomjfiaaChecked
import GoSem.Claim
import GoSem.ClaimJoined
import GoSem.ClaimMapViews
import Derived.JoinedTies
import Derived.KernelRfl
namespace Go.Proofs.Ytkocomnfomjfiaa
/- THE CELL 'sum', in the pinned program and in every row, IS THE sha256 OF THE DUMP (.gsa) THAT YtkocomnfomjfiaaProg.lean LOADS. Nothing in Lean hashes anything: it is a label: what it is worth is what the hold of that sum in a sandbox is worth. -/
noncomputable def Try.pinned : Pinned := { name := "ytkocomnfomjfiaa", sum := "c8cbb851ca86718c8370749280f08f319bfc891c9e9221486a472fef7ba00520", checked := Try.checked }
namespace Rows
def none {H : Type} : Left H := { results := [], args := [] }

/-- 'outriderlaw08.InsOnes': WHATEVER THE INPUT: true; the input reads as it did. -/
def insOnesSpec : ChangeSpec := { name := "insOnes", fn := fun _ => fun
  | [d1, d2, d3] => { results := [.lit (.bool true)], args := [d1, d2, d3] }
  | _ => none }
def insOnesRow : OpenClaim := { program := "ytkocomnfomjfiaa", sum := "c8cbb851ca86718c8370749280f08f319bfc891c9e9221486a472fef7ba00520", func := "outrider/outriderlaw08.InsOnes", spec := "insOnes", apart := false }
def InsOnesSaid : Prop := insOnesRow.holds Try.pinned (OpenSpec.ofChange insOnesSpec)

/-- ITS FALSE NEIGHBOUR: 'it returns false'. Refute it at one input. -/
def insOnesWrong : ChangeSpec := { name := "insOnes", fn := fun _ => fun
  | [d1, d2, d3] => { results := [.lit (.bool false)], args := [d1, d2, d3] }
  | _ => none }
def InsOnesWrongFalsely : Prop := insOnesRow.holds Try.pinned (OpenSpec.ofChange insOnesWrong)

/-- 'outriderlaw08.InsChecks': WHATEVER THE INPUT: true; the input reads as it did. -/
def insChecksSpec : ChangeSpec := { name := "insChecks", fn := fun _ => fun
  | [d1, d2] => { results := [.lit (.bool true)], args := [d1, d2] }
  | _ => none }
def insChecksRow : OpenClaim := { program := "ytkocomnfomjfiaa", sum := "c8cbb851ca86718c8370749280f08f319bfc891c9e9221486a472fef7ba00520", func := "outrider/outriderlaw08.InsChecks", spec := "insChecks", apart := false }
def InsChecksSaid : Prop := insChecksRow.holds Try.pinned (OpenSpec.ofChange insChecksSpec)

/-- ITS FALSE NEIGHBOUR: 'it returns false'. Refute it at one input. -/
def insChecksWrong : ChangeSpec := { name := "insChecks", fn := fun _ => fun
  | [d1, d2] => { results := [.lit (.bool false)], args := [d1, d2] }
  | _ => none }
def InsChecksWrongFalsely : Prop := insChecksRow.holds Try.pinned (OpenSpec.ofChange insChecksWrong)

/-- 'outriderlaw08.InsBytes': WHATEVER THE INPUT: true; the input reads as it did. -/
def insBytesSpec : ChangeSpec := { name := "insBytes", fn := fun _ => fun
  | [d1, d2] => { results := [.lit (.bool true)], args := [d1, d2] }
  | _ => none }
def insBytesRow : OpenClaim := { program := "ytkocomnfomjfiaa", sum := "c8cbb851ca86718c8370749280f08f319bfc891c9e9221486a472fef7ba00520", func := "outrider/outriderlaw08.InsBytes", spec := "insBytes", apart := false }
def InsBytesSaid : Prop := insBytesRow.holds Try.pinned (OpenSpec.ofChange insBytesSpec)

/-- ITS FALSE NEIGHBOUR: 'it returns false'. Refute it at one input. -/
def insBytesWrong : ChangeSpec := { name := "insBytes", fn := fun _ => fun
  | [d1, d2] => { results := [.lit (.bool false)], args := [d1, d2] }
  | _ => none }
def InsBytesWrongFalsely : Prop := insBytesRow.holds Try.pinned (OpenSpec.ofChange insBytesWrong)

/-- 'outriderlaw08.InsMore': WHATEVER THE INPUT: true; the input reads as it did. -/
def insMoreSpec : ChangeSpec := { name := "insMore", fn := fun _ => fun
  | [d1, d2, d3] => { results := [.lit (.bool true)], args := [d1, d2, d3] }
  | _ => none }
def insMoreRow : OpenClaim := { program := "ytkocomnfomjfiaa", sum := "c8cbb851ca86718c8370749280f08f319bfc891c9e9221486a472fef7ba00520", func := "outrider/outriderlaw08.InsMore", spec := "insMore", apart := false }
def InsMoreSaid : Prop := insMoreRow.holds Try.pinned (OpenSpec.ofChange insMoreSpec)

/-- ITS FALSE NEIGHBOUR: 'it returns false'. Refute it at one input. -/
def insMoreWrong : ChangeSpec := { name := "insMore", fn := fun _ => fun
  | [d1, d2, d3] => { results := [.lit (.bool false)], args := [d1, d2, d3] }
  | _ => none }
def InsMoreWrongFalsely : Prop := insMoreRow.holds Try.pinned (OpenSpec.ofChange insMoreWrong)

/-- 'outriderlaw08.InsTargets': WHATEVER THE INPUT: true; the input reads as it did. -/
def insTargetsSpec : ChangeSpec := { name := "insTargets", fn := fun _ => fun
  | [d1, d2] => { results := [.lit (.bool true)], args := [d1, d2] }
  | _ => none }
def insTargetsRow : OpenClaim := { program := "ytkocomnfomjfiaa", sum := "c8cbb851ca86718c8370749280f08f319bfc891c9e9221486a472fef7ba00520", func := "outrider/outriderlaw08.InsTargets", spec := "insTargets", apart := false }
def InsTargetsSaid : Prop := insTargetsRow.holds Try.pinned (OpenSpec.ofChange insTargetsSpec)

/-- ITS FALSE NEIGHBOUR: 'it returns false'. Refute it at one input. -/
def insTargetsWrong : ChangeSpec := { name := "insTargets", fn := fun _ => fun
  | [d1, d2] => { results := [.lit (.bool false)], args := [d1, d2] }
  | _ => none }
def InsTargetsWrongFalsely : Prop := insTargetsRow.holds Try.pinned (OpenSpec.ofChange insTargetsWrong)

/-- 'outriderlaw08.InsCanon': WHATEVER THE INPUT: true; the input reads as it did. -/
def insCanonSpec : ChangeSpec := { name := "insCanon", fn := fun _ => fun
  | [d1, d2] => { results := [.lit (.bool true)], args := [d1, d2] }
  | _ => none }
def insCanonRow : OpenClaim := { program := "ytkocomnfomjfiaa", sum := "c8cbb851ca86718c8370749280f08f319bfc891c9e9221486a472fef7ba00520", func := "outrider/outriderlaw08.InsCanon", spec := "insCanon", apart := false }
def InsCanonSaid : Prop := insCanonRow.holds Try.pinned (OpenSpec.ofChange insCanonSpec)

/-- ITS FALSE NEIGHBOUR: 'it returns false'. Refute it at one input. -/
def insCanonWrong : ChangeSpec := { name := "insCanon", fn := fun _ => fun
  | [d1, d2] => { results := [.lit (.bool false)], args := [d1, d2] }
  | _ => none }
def InsCanonWrongFalsely : Prop := insCanonRow.holds Try.pinned (OpenSpec.ofChange insCanonWrong)

/-- 'outriderlaw08.InsReads': WHATEVER THE INPUT: true; the input reads as it did. -/
def insReadsSpec : ChangeSpec := { name := "insReads", fn := fun _ => fun
  | [d1, d2] => { results := [.lit (.bool true)], args := [d1, d2] }
  | _ => none }
def insReadsRow : OpenClaim := { program := "ytkocomnfomjfiaa", sum := "c8cbb851ca86718c8370749280f08f319bfc891c9e9221486a472fef7ba00520", func := "outrider/outriderlaw08.InsReads", spec := "insReads", apart := false }
def InsReadsSaid : Prop := insReadsRow.holds Try.pinned (OpenSpec.ofChange insReadsSpec)

/-- ITS FALSE NEIGHBOUR: 'it returns false'. Refute it at one input. -/
def insReadsWrong : ChangeSpec := { name := "insReads", fn := fun _ => fun
  | [d1, d2] => { results := [.lit (.bool false)], args := [d1, d2] }
  | _ => none }
def InsReadsWrongFalsely : Prop := insReadsRow.holds Try.pinned (OpenSpec.ofChange insReadsWrong)

/-- 'outriderlaw08.InsBack': WHATEVER THE INPUT: true; the input reads as it did. -/
def insBackSpec : ChangeSpec := { name := "insBack", fn := fun _ => fun
  | [d1, d2] => { results := [.lit (.bool true)], args := [d1, d2] }
  | _ => none }
def insBackRow : OpenClaim := { program := "ytkocomnfomjfiaa", sum := "c8cbb851ca86718c8370749280f08f319bfc891c9e9221486a472fef7ba00520", func := "outrider/outriderlaw08.InsBack", spec := "insBack", apart := false }
def InsBackSaid : Prop := insBackRow.holds Try.pinned (OpenSpec.ofChange insBackSpec)

/-- ITS FALSE NEIGHBOUR: 'it returns false'. Refute it at one input. -/
def insBackWrong : ChangeSpec := { name := "insBack", fn := fun _ => fun
  | [d1, d2] => { results := [.lit (.bool false)], args := [d1, d2] }
  | _ => none }
def InsBackWrongFalsely : Prop := insBackRow.holds Try.pinned (OpenSpec.ofChange insBackWrong)

/- THE SECOND FORM. 'bulk': how many values and letters a reading holds, each counted each time it is reached (what is shared counts as often as it is met; a slice's spare places count too). A statement '..UptoSaid' is the law's where the arguments, and the package variables that the reading takes, are together of bulk at most 1048576: NARROWER than '..Said'. Prove '..Said' where nothing that the law and all that it calls make is longer than what came in: it says more and counts as full. Else prove '..UptoSaid'. A law counts once. -/
mutual
def uptoBulk {H : Type} : DataW H → Nat
  | .lit (.string bytes) => bytes.length + 1
  | .lit _ => 1
  | .nil => 1
  | .ptr d => uptoBulk d + 1
  | .slice elems spare => uptoBulkAll elems + uptoBulkAll spare + 1
  | .agg parts => uptoBulkAll parts + 1
  | .iface _ d => uptoBulk d + 1
  | .map entries => uptoBulkEntries entries + 1
  | .held _ => 1
def uptoBulkAll {H : Type} : List (DataW H) → Nat
  | [] => 0
  | d :: r => uptoBulk d + uptoBulkAll r
def uptoBulkEntries {H : Type} : List (Lit × DataW H) → Nat
  | [] => 0
  | x :: r => uptoBulkEntry x + uptoBulkEntries r
def uptoBulkEntry {H : Type} : Lit × DataW H → Nat
  | (.string bytes, d) => bytes.length + uptoBulk d + 1
  | (_, d) => uptoBulk d + 1
 end
def uptoSmall : (H : Type) → List (DataW H) → Bool := fun _ ds => decide (uptoBulkAll ds ≤ 1048576)
def OpenSpec.upto (s : _root_.Go.ChangeSpec) : _root_.Go.OpenSpec := { _root_.Go.OpenSpec.ofChange s with cond := some uptoSmall }

/-- 'outriderlaw08.InsOnes', WHERE WHAT IT READS IS OF BULK AT MOST 1048576: true; the input reads as it did. -/
def insOnesUptoRow : OpenClaim := { program := "ytkocomnfomjfiaa", sum := "c8cbb851ca86718c8370749280f08f319bfc891c9e9221486a472fef7ba00520", func := "outrider/outriderlaw08.InsOnes", spec := "insOnes", apart := false, narrowed := true }
def InsOnesUptoSaid : Prop := insOnesUptoRow.holds Try.pinned (OpenSpec.upto insOnesSpec)

/-- 'outriderlaw08.InsChecks', WHERE WHAT IT READS IS OF BULK AT MOST 1048576: true; the input reads as it did. -/
def insChecksUptoRow : OpenClaim := { program := "ytkocomnfomjfiaa", sum := "c8cbb851ca86718c8370749280f08f319bfc891c9e9221486a472fef7ba00520", func := "outrider/outriderlaw08.InsChecks", spec := "insChecks", apart := false, narrowed := true }
def InsChecksUptoSaid : Prop := insChecksUptoRow.holds Try.pinned (OpenSpec.upto insChecksSpec)

/-- 'outriderlaw08.InsBytes', WHERE WHAT IT READS IS OF BULK AT MOST 1048576: true; the input reads as it did. -/
def insBytesUptoRow : OpenClaim := { program := "ytkocomnfomjfiaa", sum := "c8cbb851ca86718c8370749280f08f319bfc891c9e9221486a472fef7ba00520", func := "outrider/outriderlaw08.InsBytes", spec := "insBytes", apart := false, narrowed := true }
def InsBytesUptoSaid : Prop := insBytesUptoRow.holds Try.pinned (OpenSpec.upto insBytesSpec)

/-- 'outriderlaw08.InsMore', WHERE WHAT IT READS IS OF BULK AT MOST 1048576: true; the input reads as it did. -/
def insMoreUptoRow : OpenClaim := { program := "ytkocomnfomjfiaa", sum := "c8cbb851ca86718c8370749280f08f319bfc891c9e9221486a472fef7ba00520", func := "outrider/outriderlaw08.InsMore", spec := "insMore", apart := false, narrowed := true }
def InsMoreUptoSaid : Prop := insMoreUptoRow.holds Try.pinned (OpenSpec.upto insMoreSpec)

/-- 'outriderlaw08.InsTargets', WHERE WHAT IT READS IS OF BULK AT MOST 1048576: true; the input reads as it did. -/
def insTargetsUptoRow : OpenClaim := { program := "ytkocomnfomjfiaa", sum := "c8cbb851ca86718c8370749280f08f319bfc891c9e9221486a472fef7ba00520", func := "outrider/outriderlaw08.InsTargets", spec := "insTargets", apart := false, narrowed := true }
def InsTargetsUptoSaid : Prop := insTargetsUptoRow.holds Try.pinned (OpenSpec.upto insTargetsSpec)

/-- 'outriderlaw08.InsCanon', WHERE WHAT IT READS IS OF BULK AT MOST 1048576: true; the input reads as it did. -/
def insCanonUptoRow : OpenClaim := { program := "ytkocomnfomjfiaa", sum := "c8cbb851ca86718c8370749280f08f319bfc891c9e9221486a472fef7ba00520", func := "outrider/outriderlaw08.InsCanon", spec := "insCanon", apart := false, narrowed := true }
def InsCanonUptoSaid : Prop := insCanonUptoRow.holds Try.pinned (OpenSpec.upto insCanonSpec)

/-- 'outriderlaw08.InsReads', WHERE WHAT IT READS IS OF BULK AT MOST 1048576: true; the input reads as it did. -/
def insReadsUptoRow : OpenClaim := { program := "ytkocomnfomjfiaa", sum := "c8cbb851ca86718c8370749280f08f319bfc891c9e9221486a472fef7ba00520", func := "outrider/outriderlaw08.InsReads", spec := "insReads", apart := false, narrowed := true }
def InsReadsUptoSaid : Prop := insReadsUptoRow.holds Try.pinned (OpenSpec.upto insReadsSpec)

/-- 'outriderlaw08.InsBack', WHERE WHAT IT READS IS OF BULK AT MOST 1048576: true; the input reads as it did. -/
def insBackUptoRow : OpenClaim := { program := "ytkocomnfomjfiaa", sum := "c8cbb851ca86718c8370749280f08f319bfc891c9e9221486a472fef7ba00520", func := "outrider/outriderlaw08.InsBack", spec := "insBack", apart := false, narrowed := true }
def InsBackUptoSaid : Prop := insBackUptoRow.holds Try.pinned (OpenSpec.upto insBackSpec)

end Rows
end Go.Proofs.Ytkocomnfomjfiaa
