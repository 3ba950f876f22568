/-
  No cell of these rows narrows 'for every input' (looked for: loops, veiled, ifaces, maps, wideKeys, modest, calm, conditions, laid).
  DERIVED. THE GIVEN ROWS OF THIS SEAT. 3 by the template 'for every input the law returns true; each argument reads behind the call as it read before'; 0 by the template 'total and deterministic' (their statements: YthclcdboialfnaaTotals.lean).
  GIVEN WITH THE SEED: the statements are not yours to turn. If you find one false, say at which input.
  Laid BY PROGRAM, IN A SANDBOX (cutbox-rows.mjs): the forced cells as the released guide's own fill.sh prints them over the translation 2856521b20a5d288… (all of the seat's roots in one cut). By AI agents, Wed Nov 11 2026. No macro, syntax, notation, axiom, sorry.
-/
import Derived.Test.YthclcdboialfnaaChecked
import GoSem.Claim
import GoSem.ClaimJoined
import GoSem.ClaimMapViews
import Derived.JoinedTies
import Derived.KernelRfl
namespace Go.Proofs.Ythclcdboialfnaa
/- THE CELL 'sum', in the pinned program and in every row, IS THE sha256 OF THE DUMP (.gsa) THAT YthclcdboialfnaaProg.lean LOADS. Nothing in Lean hashes anything: it is a label: what it is worth is what the hold of that sum in a sandbox is worth. -/
noncomputable def Try.pinned : Pinned := { name := "ythclcdboialfnaa", sum := "2856521b20a5d288d4d2e4e6142784a6f9b03ab92837e57f1bb383d995ad8d67", checked := Try.checked }
namespace Rows
def none {H : Type} : Left H := { results := [], args := [] }

/-- 'outriderlaw21.VerReads': WHATEVER THE INPUT: true; the input reads as it did. -/
def verReadsSpec : ChangeSpec := { name := "verReads", fn := fun _ => fun
  | [d1, d2, d3] => { results := [.lit (.bool true)], args := [d1, d2, d3] }
  | _ => none }
def verReadsRow : OpenClaim := { program := "ythclcdboialfnaa", sum := "2856521b20a5d288d4d2e4e6142784a6f9b03ab92837e57f1bb383d995ad8d67", func := "outrider/outriderlaw21.VerReads", spec := "verReads", unfollowed := true, recurses := true, apart := false }
def VerReadsSaid : Prop := verReadsRow.holds Try.pinned (OpenSpec.ofChange verReadsSpec)

/-- ITS FALSE NEIGHBOUR: 'it returns false'. Refute it at one input. -/
def verReadsWrong : ChangeSpec := { name := "verReads", fn := fun _ => fun
  | [d1, d2, d3] => { results := [.lit (.bool false)], args := [d1, d2, d3] }
  | _ => none }
def VerReadsWrongFalsely : Prop := verReadsRow.holds Try.pinned (OpenSpec.ofChange verReadsWrong)

/-- 'outriderlaw21.VerApart': WHATEVER THE INPUT: true; the input reads as it did. -/
def verApartSpec : ChangeSpec := { name := "verApart", fn := fun _ => fun
  | [d1, d2] => { results := [.lit (.bool true)], args := [d1, d2] }
  | _ => none }
def verApartRow : OpenClaim := { program := "ythclcdboialfnaa", sum := "2856521b20a5d288d4d2e4e6142784a6f9b03ab92837e57f1bb383d995ad8d67", func := "outrider/outriderlaw21.VerApart", spec := "verApart", unfollowed := true, recurses := true, apart := false }
def VerApartSaid : Prop := verApartRow.holds Try.pinned (OpenSpec.ofChange verApartSpec)

/-- ITS FALSE NEIGHBOUR: 'it returns false'. Refute it at one input. -/
def verApartWrong : ChangeSpec := { name := "verApart", fn := fun _ => fun
  | [d1, d2] => { results := [.lit (.bool false)], args := [d1, d2] }
  | _ => none }
def VerApartWrongFalsely : Prop := verApartRow.holds Try.pinned (OpenSpec.ofChange verApartWrong)

/-- 'outriderlaw21.VerPlays': WHATEVER THE INPUT: true; the input reads as it did. -/
def verPlaysSpec : ChangeSpec := { name := "verPlays", fn := fun _ => fun
  | [d1, d2, d3] => { results := [.lit (.bool true)], args := [d1, d2, d3] }
  | _ => none }
def verPlaysRow : OpenClaim := { program := "ythclcdboialfnaa", sum := "2856521b20a5d288d4d2e4e6142784a6f9b03ab92837e57f1bb383d995ad8d67", func := "outrider/outriderlaw21.VerPlays", spec := "verPlays", unfollowed := true, recurses := true, apart := false }
def VerPlaysSaid : Prop := verPlaysRow.holds Try.pinned (OpenSpec.ofChange verPlaysSpec)

/-- ITS FALSE NEIGHBOUR: 'it returns false'. Refute it at one input. -/
def verPlaysWrong : ChangeSpec := { name := "verPlays", fn := fun _ => fun
  | [d1, d2, d3] => { results := [.lit (.bool false)], args := [d1, d2, d3] }
  | _ => none }
def VerPlaysWrongFalsely : Prop := verPlaysRow.holds Try.pinned (OpenSpec.ofChange verPlaysWrong)

/- THE SECOND FORM. 'bulk': how many values and letters a reading holds, each counted each time it is reached (what is shared counts as often as it is met; a slice's spare places count too). A statement '..UptoSaid' is the law's where the arguments, and the package variables that the reading takes, are together of bulk at most 1048576: NARROWER than '..Said'. Prove '..Said' where nothing that the law and all that it calls make is longer than what came in: it says more and counts as full. Else prove '..UptoSaid'. A law counts once. -/
mutual
def uptoBulk {H : Type} : DataW H → Nat
  | .lit (.string bytes) => bytes.length + 1
  | .lit _ => 1
  | .nil => 1
  | .ptr d => uptoBulk d + 1
  | .slice elems spare => uptoBulkAll elems + uptoBulkAll spare + 1
  | .agg parts => uptoBulkAll parts + 1
  | .iface _ d => uptoBulk d + 1
  | .map entries => uptoBulkEntries entries + 1
  | .held _ => 1
def uptoBulkAll {H : Type} : List (DataW H) → Nat
  | [] => 0
  | d :: r => uptoBulk d + uptoBulkAll r
def uptoBulkEntries {H : Type} : List (Lit × DataW H) → Nat
  | [] => 0
  | x :: r => uptoBulkEntry x + uptoBulkEntries r
def uptoBulkEntry {H : Type} : Lit × DataW H → Nat
  | (.string bytes, d) => bytes.length + uptoBulk d + 1
  | (_, d) => uptoBulk d + 1
 end
def uptoSmall : (H : Type) → List (DataW H) → Bool := fun _ ds => decide (uptoBulkAll ds ≤ 1048576)
def OpenSpec.upto (s : _root_.Go.ChangeSpec) : _root_.Go.OpenSpec := { _root_.Go.OpenSpec.ofChange s with cond := some uptoSmall }

/-- 'outriderlaw21.VerReads', WHERE WHAT IT READS IS OF BULK AT MOST 1048576: true; the input reads as it did. -/
def verReadsUptoRow : OpenClaim := { program := "ythclcdboialfnaa", sum := "2856521b20a5d288d4d2e4e6142784a6f9b03ab92837e57f1bb383d995ad8d67", func := "outrider/outriderlaw21.VerReads", spec := "verReads", unfollowed := true, recurses := true, apart := false, narrowed := true }
def VerReadsUptoSaid : Prop := verReadsUptoRow.holds Try.pinned (OpenSpec.upto verReadsSpec)

/-- 'outriderlaw21.VerApart', WHERE WHAT IT READS IS OF BULK AT MOST 1048576: true; the input reads as it did. -/
def verApartUptoRow : OpenClaim := { program := "ythclcdboialfnaa", sum := "2856521b20a5d288d4d2e4e6142784a6f9b03ab92837e57f1bb383d995ad8d67", func := "outrider/outriderlaw21.VerApart", spec := "verApart", unfollowed := true, recurses := true, apart := false, narrowed := true }
def VerApartUptoSaid : Prop := verApartUptoRow.holds Try.pinned (OpenSpec.upto verApartSpec)

/-- 'outriderlaw21.VerPlays', WHERE WHAT IT READS IS OF BULK AT MOST 1048576: true; the input reads as it did. -/
def verPlaysUptoRow : OpenClaim := { program := "ythclcdboialfnaa", sum := "2856521b20a5d288d4d2e4e6142784a6f9b03ab92837e57f1bb383d995ad8d67", func := "outrider/outriderlaw21.VerPlays", spec := "verPlays", unfollowed := true, recurses := true, apart := false, narrowed := true }
def VerPlaysUptoSaid : Prop := verPlaysUptoRow.holds Try.pinned (OpenSpec.upto verPlaysSpec)

end Rows
end Go.Proofs.Ythclcdboialfnaa
