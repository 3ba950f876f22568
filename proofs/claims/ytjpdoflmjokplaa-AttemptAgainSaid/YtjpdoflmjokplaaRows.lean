/-
  No cell of these rows narrows 'for every input' (looked for: loops, veiled, ifaces, maps, wideKeys, modest, calm, conditions, laid).
  DERIVED. THE GIVEN ROWS OF THIS SEAT. 3 by the template 'for every input the law returns true; each argument reads behind the call as it read before'; 0 by the template 'total and deterministic' (their statements: YtjpdoflmjokplaaTotals.lean).
  GIVEN WITH THE SEED: the statements are not yours to turn. If you find one false, say at which input.
  Laid BY PROGRAM, IN A SANDBOX (cutbox-rows.mjs): the forced cells as the released guide's own fill.sh prints them over the translation f6ff678137b766a9… (all of the seat's roots in one cut). By AI agents, Wed Nov 11 2026. No macro, syntax, notation, axiom, sorry.
-/
import Derived.Test.YtjpdoflmjokplaaChecked
import GoSem.Claim
import GoSem.ClaimJoined
import GoSem.ClaimMapViews
import Derived.JoinedTies
import Derived.KernelRfl
namespace Go.Proofs.Ytjpdoflmjokplaa
/- THE CELL 'sum', in the pinned program and in every row, IS THE sha256 OF THE DUMP (.gsa) THAT YtjpdoflmjokplaaProg.lean LOADS. Nothing in Lean hashes anything: it is a label: what it is worth is what the hold of that sum in a sandbox is worth. -/
noncomputable def Try.pinned : Pinned := { name := "ytjpdoflmjokplaa", sum := "f6ff678137b766a906456af00a82bbb1469e1e6173b5dc78913836c3f3ebb17a", checked := Try.checked }
namespace Rows
def none {H : Type} : Left H := { results := [], args := [] }

/-- 'outriderlaw22.AttemptHolds': WHATEVER THE INPUT: true; the input reads as it did. -/
def attemptHoldsSpec : ChangeSpec := { name := "attemptHolds", fn := fun _ => fun
  | [d1, d2, d3] => { results := [.lit (.bool true)], args := [d1, d2, d3] }
  | _ => none }
def attemptHoldsRow : OpenClaim := { program := "ytjpdoflmjokplaa", sum := "f6ff678137b766a906456af00a82bbb1469e1e6173b5dc78913836c3f3ebb17a", func := "outrider/outriderlaw22.AttemptHolds", spec := "attemptHolds", unfollowed := true, recurses := true, apart := false }
def AttemptHoldsSaid : Prop := attemptHoldsRow.holds Try.pinned (OpenSpec.ofChange attemptHoldsSpec)

/-- ITS FALSE NEIGHBOUR: 'it returns false'. Refute it at one input. -/
def attemptHoldsWrong : ChangeSpec := { name := "attemptHolds", fn := fun _ => fun
  | [d1, d2, d3] => { results := [.lit (.bool false)], args := [d1, d2, d3] }
  | _ => none }
def AttemptHoldsWrongFalsely : Prop := attemptHoldsRow.holds Try.pinned (OpenSpec.ofChange attemptHoldsWrong)

/-- 'outriderlaw22.AttemptPlays': WHATEVER THE INPUT: true; the input reads as it did. -/
def attemptPlaysSpec : ChangeSpec := { name := "attemptPlays", fn := fun _ => fun
  | [d1, d2, d3] => { results := [.lit (.bool true)], args := [d1, d2, d3] }
  | _ => none }
def attemptPlaysRow : OpenClaim := { program := "ytjpdoflmjokplaa", sum := "f6ff678137b766a906456af00a82bbb1469e1e6173b5dc78913836c3f3ebb17a", func := "outrider/outriderlaw22.AttemptPlays", spec := "attemptPlays", unfollowed := true, recurses := true, apart := false }
def AttemptPlaysSaid : Prop := attemptPlaysRow.holds Try.pinned (OpenSpec.ofChange attemptPlaysSpec)

/-- ITS FALSE NEIGHBOUR: 'it returns false'. Refute it at one input. -/
def attemptPlaysWrong : ChangeSpec := { name := "attemptPlays", fn := fun _ => fun
  | [d1, d2, d3] => { results := [.lit (.bool false)], args := [d1, d2, d3] }
  | _ => none }
def AttemptPlaysWrongFalsely : Prop := attemptPlaysRow.holds Try.pinned (OpenSpec.ofChange attemptPlaysWrong)

/-- 'outriderlaw22.AttemptAgain': WHATEVER THE INPUT: true; the input reads as it did. -/
def attemptAgainSpec : ChangeSpec := { name := "attemptAgain", fn := fun _ => fun
  | [d1, d2, d3] => { results := [.lit (.bool true)], args := [d1, d2, d3] }
  | _ => none }
def attemptAgainRow : OpenClaim := { program := "ytjpdoflmjokplaa", sum := "f6ff678137b766a906456af00a82bbb1469e1e6173b5dc78913836c3f3ebb17a", func := "outrider/outriderlaw22.AttemptAgain", spec := "attemptAgain", unfollowed := true, recurses := true, apart := false }
def AttemptAgainSaid : Prop := attemptAgainRow.holds Try.pinned (OpenSpec.ofChange attemptAgainSpec)

/-- ITS FALSE NEIGHBOUR: 'it returns false'. Refute it at one input. -/
def attemptAgainWrong : ChangeSpec := { name := "attemptAgain", fn := fun _ => fun
  | [d1, d2, d3] => { results := [.lit (.bool false)], args := [d1, d2, d3] }
  | _ => none }
def AttemptAgainWrongFalsely : Prop := attemptAgainRow.holds Try.pinned (OpenSpec.ofChange attemptAgainWrong)

/- THE SECOND FORM. 'bulk': how many values and letters a reading holds, each counted each time it is reached (what is shared counts as often as it is met; a slice's spare places count too). A statement '..UptoSaid' is the law's where the arguments, and the package variables that the reading takes, are together of bulk at most 1048576: NARROWER than '..Said'. Prove '..Said' where nothing that the law and all that it calls make is longer than what came in: it says more and counts as full. Else prove '..UptoSaid'. A law counts once. -/
mutual
def uptoBulk {H : Type} : DataW H → Nat
  | .lit (.string bytes) => bytes.length + 1
  | .lit _ => 1
  | .nil => 1
  | .ptr d => uptoBulk d + 1
  | .slice elems spare => uptoBulkAll elems + uptoBulkAll spare + 1
  | .agg parts => uptoBulkAll parts + 1
  | .iface _ d => uptoBulk d + 1
  | .map entries => uptoBulkEntries entries + 1
  | .held _ => 1
def uptoBulkAll {H : Type} : List (DataW H) → Nat
  | [] => 0
  | d :: r => uptoBulk d + uptoBulkAll r
def uptoBulkEntries {H : Type} : List (Lit × DataW H) → Nat
  | [] => 0
  | x :: r => uptoBulkEntry x + uptoBulkEntries r
def uptoBulkEntry {H : Type} : Lit × DataW H → Nat
  | (.string bytes, d) => bytes.length + uptoBulk d + 1
  | (_, d) => uptoBulk d + 1
 end
def uptoSmall : (H : Type) → List (DataW H) → Bool := fun _ ds => decide (uptoBulkAll ds ≤ 1048576)
def OpenSpec.upto (s : _root_.Go.ChangeSpec) : _root_.Go.OpenSpec := { _root_.Go.OpenSpec.ofChange s with cond := some uptoSmall }

/-- 'outriderlaw22.AttemptHolds', WHERE WHAT IT READS IS OF BULK AT MOST 1048576: true; the input reads as it did. -/
def attemptHoldsUptoRow : OpenClaim := { program := "ytjpdoflmjokplaa", sum := "f6ff678137b766a906456af00a82bbb1469e1e6173b5dc78913836c3f3ebb17a", func := "outrider/outriderlaw22.AttemptHolds", spec := "attemptHolds", unfollowed := true, recurses := true, apart := false, narrowed := true }
def AttemptHoldsUptoSaid : Prop := attemptHoldsUptoRow.holds Try.pinned (OpenSpec.upto attemptHoldsSpec)

/-- 'outriderlaw22.AttemptPlays', WHERE WHAT IT READS IS OF BULK AT MOST 1048576: true; the input reads as it did. -/
def attemptPlaysUptoRow : OpenClaim := { program := "ytjpdoflmjokplaa", sum := "f6ff678137b766a906456af00a82bbb1469e1e6173b5dc78913836c3f3ebb17a", func := "outrider/outriderlaw22.AttemptPlays", spec := "attemptPlays", unfollowed := true, recurses := true, apart := false, narrowed := true }
def AttemptPlaysUptoSaid : Prop := attemptPlaysUptoRow.holds Try.pinned (OpenSpec.upto attemptPlaysSpec)

/-- 'outriderlaw22.AttemptAgain', WHERE WHAT IT READS IS OF BULK AT MOST 1048576: true; the input reads as it did. -/
def attemptAgainUptoRow : OpenClaim := { program := "ytjpdoflmjokplaa", sum := "f6ff678137b766a906456af00a82bbb1469e1e6173b5dc78913836c3f3ebb17a", func := "outrider/outriderlaw22.AttemptAgain", spec := "attemptAgain", unfollowed := true, recurses := true, apart := false, narrowed := true }
def AttemptAgainUptoSaid : Prop := attemptAgainUptoRow.holds Try.pinned (OpenSpec.upto attemptAgainSpec)

end Rows
end Go.Proofs.Ytjpdoflmjokplaa
