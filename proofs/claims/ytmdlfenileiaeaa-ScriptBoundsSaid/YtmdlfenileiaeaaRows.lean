/-
  No cell of these rows narrows 'for every input' (looked for: loops, veiled, ifaces, maps, wideKeys, modest, calm, conditions, laid).
  DERIVED. THE GIVEN ROWS OF THIS SEAT. 5 by the template 'for every input the law returns true; each argument reads behind the call as it read before'; 0 by the template 'total and deterministic' (their statements: YtmdlfenileiaeaaTotals.lean).
  GIVEN WITH THE SEED: the statements are not yours to turn. If you find one false, say at which input.
  Laid BY PROGRAM, IN A SANDBOX (cutbox-rows.mjs): the forced cells as the released guide's own fill.sh prints them over the translation b58800a5bb7d94ed… (all of the seat's roots in one cut). By AI agents, Wed Nov 11 2026. No macro, syntax, notation, axiom, sorry.
-/
import Derived.Test.YtmdlfenileiaeaaChecked
import GoSem.Claim
import GoSem.ClaimJoined
import GoSem.ClaimMapViews
import Derived.JoinedTies
import Derived.KernelRfl
namespace Go.Proofs.Ytmdlfenileiaeaa
/- THE CELL 'sum', in the pinned program and in every row, IS THE sha256 OF THE DUMP (.gsa) THAT YtmdlfenileiaeaaProg.lean LOADS. Nothing in Lean hashes anything: it is a label: what it is worth is what the hold of that sum in a sandbox is worth. -/
noncomputable def Try.pinned : Pinned := { name := "ytmdlfenileiaeaa", sum := "b58800a5bb7d94ed752b7b301b0bf4fb146b8f00882c58c91b1b01aa26fdc11f", checked := Try.checked }
namespace Rows
def none {H : Type} : Left H := { results := [], args := [] }

/-- 'outriderlaw25.ScriptReads': WHATEVER THE INPUT: true; the input reads as it did. -/
def scriptReadsSpec : ChangeSpec := { name := "scriptReads", fn := fun _ => fun
  | [d] => { results := [.lit (.bool true)], args := [d] }
  | _ => none }
def scriptReadsRow : OpenClaim := { program := "ytmdlfenileiaeaa", sum := "b58800a5bb7d94ed752b7b301b0bf4fb146b8f00882c58c91b1b01aa26fdc11f", func := "outrider/outriderlaw25.ScriptReads", spec := "scriptReads", unfollowed := true, recurses := true, apart := false }
def ScriptReadsSaid : Prop := scriptReadsRow.holds Try.pinned (OpenSpec.ofChange scriptReadsSpec)

/-- ITS FALSE NEIGHBOUR: 'it returns false'. Refute it at one input. -/
def scriptReadsWrong : ChangeSpec := { name := "scriptReads", fn := fun _ => fun
  | [d] => { results := [.lit (.bool false)], args := [d] }
  | _ => none }
def ScriptReadsWrongFalsely : Prop := scriptReadsRow.holds Try.pinned (OpenSpec.ofChange scriptReadsWrong)

/-- 'outriderlaw25.ScriptRounds': WHATEVER THE INPUT: true; the input reads as it did. -/
def scriptRoundsSpec : ChangeSpec := { name := "scriptRounds", fn := fun _ => fun
  | [d1, d2, d3] => { results := [.lit (.bool true)], args := [d1, d2, d3] }
  | _ => none }
def scriptRoundsRow : OpenClaim := { program := "ytmdlfenileiaeaa", sum := "b58800a5bb7d94ed752b7b301b0bf4fb146b8f00882c58c91b1b01aa26fdc11f", func := "outrider/outriderlaw25.ScriptRounds", spec := "scriptRounds", unfollowed := true, recurses := true, apart := false }
def ScriptRoundsSaid : Prop := scriptRoundsRow.holds Try.pinned (OpenSpec.ofChange scriptRoundsSpec)

/-- ITS FALSE NEIGHBOUR: 'it returns false'. Refute it at one input. -/
def scriptRoundsWrong : ChangeSpec := { name := "scriptRounds", fn := fun _ => fun
  | [d1, d2, d3] => { results := [.lit (.bool false)], args := [d1, d2, d3] }
  | _ => none }
def ScriptRoundsWrongFalsely : Prop := scriptRoundsRow.holds Try.pinned (OpenSpec.ofChange scriptRoundsWrong)

/-- 'outriderlaw25.ScriptFair': WHATEVER THE INPUT: true; the input reads as it did. -/
def scriptFairSpec : ChangeSpec := { name := "scriptFair", fn := fun _ => fun
  | [d1, d2] => { results := [.lit (.bool true)], args := [d1, d2] }
  | _ => none }
def scriptFairRow : OpenClaim := { program := "ytmdlfenileiaeaa", sum := "b58800a5bb7d94ed752b7b301b0bf4fb146b8f00882c58c91b1b01aa26fdc11f", func := "outrider/outriderlaw25.ScriptFair", spec := "scriptFair", unfollowed := true, recurses := true, apart := false }
def ScriptFairSaid : Prop := scriptFairRow.holds Try.pinned (OpenSpec.ofChange scriptFairSpec)

/-- ITS FALSE NEIGHBOUR: 'it returns false'. Refute it at one input. -/
def scriptFairWrong : ChangeSpec := { name := "scriptFair", fn := fun _ => fun
  | [d1, d2] => { results := [.lit (.bool false)], args := [d1, d2] }
  | _ => none }
def ScriptFairWrongFalsely : Prop := scriptFairRow.holds Try.pinned (OpenSpec.ofChange scriptFairWrong)

/-- 'outriderlaw25.ScriptWrites': WHATEVER THE INPUT: true; the input reads as it did. -/
def scriptWritesSpec : ChangeSpec := { name := "scriptWrites", fn := fun _ => fun
  | [d] => { results := [.lit (.bool true)], args := [d] }
  | _ => none }
def scriptWritesRow : OpenClaim := { program := "ytmdlfenileiaeaa", sum := "b58800a5bb7d94ed752b7b301b0bf4fb146b8f00882c58c91b1b01aa26fdc11f", func := "outrider/outriderlaw25.ScriptWrites", spec := "scriptWrites", unfollowed := true, recurses := true, apart := false }
def ScriptWritesSaid : Prop := scriptWritesRow.holds Try.pinned (OpenSpec.ofChange scriptWritesSpec)

/-- ITS FALSE NEIGHBOUR: 'it returns false'. Refute it at one input. -/
def scriptWritesWrong : ChangeSpec := { name := "scriptWrites", fn := fun _ => fun
  | [d] => { results := [.lit (.bool false)], args := [d] }
  | _ => none }
def ScriptWritesWrongFalsely : Prop := scriptWritesRow.holds Try.pinned (OpenSpec.ofChange scriptWritesWrong)

/-- 'outriderlaw25.ScriptBounds': WHATEVER THE INPUT: true; the input reads as it did. -/
def scriptBoundsSpec : ChangeSpec := { name := "scriptBounds", fn := fun _ => fun
  | [d1, d2] => { results := [.lit (.bool true)], args := [d1, d2] }
  | _ => none }
def scriptBoundsRow : OpenClaim := { program := "ytmdlfenileiaeaa", sum := "b58800a5bb7d94ed752b7b301b0bf4fb146b8f00882c58c91b1b01aa26fdc11f", func := "outrider/outriderlaw25.ScriptBounds", spec := "scriptBounds", unfollowed := true, recurses := true, apart := false }
def ScriptBoundsSaid : Prop := scriptBoundsRow.holds Try.pinned (OpenSpec.ofChange scriptBoundsSpec)

/-- ITS FALSE NEIGHBOUR: 'it returns false'. Refute it at one input. -/
def scriptBoundsWrong : ChangeSpec := { name := "scriptBounds", fn := fun _ => fun
  | [d1, d2] => { results := [.lit (.bool false)], args := [d1, d2] }
  | _ => none }
def ScriptBoundsWrongFalsely : Prop := scriptBoundsRow.holds Try.pinned (OpenSpec.ofChange scriptBoundsWrong)

/- THE SECOND FORM. 'bulk': how many values and letters a reading holds, each counted each time it is reached (what is shared counts as often as it is met; a slice's spare places count too). A statement '..UptoSaid' is the law's where the arguments, and the package variables that the reading takes, are together of bulk at most 1048576: NARROWER than '..Said'. Prove '..Said' where nothing that the law and all that it calls make is longer than what came in: it says more and counts as full. Else prove '..UptoSaid'. A law counts once. -/
mutual
def uptoBulk {H : Type} : DataW H → Nat
  | .lit (.string bytes) => bytes.length + 1
  | .lit _ => 1
  | .nil => 1
  | .ptr d => uptoBulk d + 1
  | .slice elems spare => uptoBulkAll elems + uptoBulkAll spare + 1
  | .agg parts => uptoBulkAll parts + 1
  | .iface _ d => uptoBulk d + 1
  | .map entries => uptoBulkEntries entries + 1
  | .held _ => 1
def uptoBulkAll {H : Type} : List (DataW H) → Nat
  | [] => 0
  | d :: r => uptoBulk d + uptoBulkAll r
def uptoBulkEntries {H : Type} : List (Lit × DataW H) → Nat
  | [] => 0
  | x :: r => uptoBulkEntry x + uptoBulkEntries r
def uptoBulkEntry {H : Type} : Lit × DataW H → Nat
  | (.string bytes, d) => bytes.length + uptoBulk d + 1
  | (_, d) => uptoBulk d + 1
 end
def uptoSmall : (H : Type) → List (DataW H) → Bool := fun _ ds => decide (uptoBulkAll ds ≤ 1048576)
def OpenSpec.upto (s : _root_.Go.ChangeSpec) : _root_.Go.OpenSpec := { _root_.Go.OpenSpec.ofChange s with cond := some uptoSmall }

/-- 'outriderlaw25.ScriptReads', WHERE WHAT IT READS IS OF BULK AT MOST 1048576: true; the input reads as it did. -/
def scriptReadsUptoRow : OpenClaim := { program := "ytmdlfenileiaeaa", sum := "b58800a5bb7d94ed752b7b301b0bf4fb146b8f00882c58c91b1b01aa26fdc11f", func := "outrider/outriderlaw25.ScriptReads", spec := "scriptReads", unfollowed := true, recurses := true, apart := false, narrowed := true }
def ScriptReadsUptoSaid : Prop := scriptReadsUptoRow.holds Try.pinned (OpenSpec.upto scriptReadsSpec)

/-- 'outriderlaw25.ScriptRounds', WHERE WHAT IT READS IS OF BULK AT MOST 1048576: true; the input reads as it did. -/
def scriptRoundsUptoRow : OpenClaim := { program := "ytmdlfenileiaeaa", sum := "b58800a5bb7d94ed752b7b301b0bf4fb146b8f00882c58c91b1b01aa26fdc11f", func := "outrider/outriderlaw25.ScriptRounds", spec := "scriptRounds", unfollowed := true, recurses := true, apart := false, narrowed := true }
def ScriptRoundsUptoSaid : Prop := scriptRoundsUptoRow.holds Try.pinned (OpenSpec.upto scriptRoundsSpec)

/-- 'outriderlaw25.ScriptFair', WHERE WHAT IT READS IS OF BULK AT MOST 1048576: true; the input reads as it did. -/
def scriptFairUptoRow : OpenClaim := { program := "ytmdlfenileiaeaa", sum := "b58800a5bb7d94ed752b7b301b0bf4fb146b8f00882c58c91b1b01aa26fdc11f", func := "outrider/outriderlaw25.ScriptFair", spec := "scriptFair", unfollowed := true, recurses := true, apart := false, narrowed := true }
def ScriptFairUptoSaid : Prop := scriptFairUptoRow.holds Try.pinned (OpenSpec.upto scriptFairSpec)

/-- 'outriderlaw25.ScriptWrites', WHERE WHAT IT READS IS OF BULK AT MOST 1048576: true; the input reads as it did. -/
def scriptWritesUptoRow : OpenClaim := { program := "ytmdlfenileiaeaa", sum := "b58800a5bb7d94ed752b7b301b0bf4fb146b8f00882c58c91b1b01aa26fdc11f", func := "outrider/outriderlaw25.ScriptWrites", spec := "scriptWrites", unfollowed := true, recurses := true, apart := false, narrowed := true }
def ScriptWritesUptoSaid : Prop := scriptWritesUptoRow.holds Try.pinned (OpenSpec.upto scriptWritesSpec)

/-- 'outriderlaw25.ScriptBounds', WHERE WHAT IT READS IS OF BULK AT MOST 1048576: true; the input reads as it did. -/
def scriptBoundsUptoRow : OpenClaim := { program := "ytmdlfenileiaeaa", sum := "b58800a5bb7d94ed752b7b301b0bf4fb146b8f00882c58c91b1b01aa26fdc11f", func := "outrider/outriderlaw25.ScriptBounds", spec := "scriptBounds", unfollowed := true, recurses := true, apart := false, narrowed := true }
def ScriptBoundsUptoSaid : Prop := scriptBoundsUptoRow.holds Try.pinned (OpenSpec.upto scriptBoundsSpec)

end Rows
end Go.Proofs.Ytmdlfenileiaeaa
