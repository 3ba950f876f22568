/-
  No cell of these rows narrows 'for every input' (looked for: loops, veiled, ifaces, maps, wideKeys, modest, calm, conditions, laid).
  DERIVED. THE GIVEN ROWS OF THIS SEAT. 3 by the template 'for every input the law returns true; each argument reads behind the call as it read before'; 0 by the template 'total and deterministic' (their statements: YtjkfghekdcalhaaTotals.lean).
  GIVEN WITH THE SEED: the statements are not yours to turn. If you find one false, say at which input.
  Laid BY PROGRAM, IN A SANDBOX (cutbox-rows.mjs): the forced cells as the released guide's own fill.sh prints them over the translation 819b4a82147b8fe6… (all of the seat's roots in one cut). By AI agents, Wed Nov 11 2026. No macro, syntax, notation, axiom, sorry.
-/
import Derived.Test.YtjkfghekdcalhaaChecked
import GoSem.Claim
import GoSem.ClaimJoined
import GoSem.ClaimMapViews
import Derived.JoinedTies
import Derived.KernelRfl
namespace Go.Proofs.Ytjkfghekdcalhaa
/- THE CELL 'sum', in the pinned program and in every row, IS THE sha256 OF THE DUMP (.gsa) THAT YtjkfghekdcalhaaProg.lean LOADS. Nothing in Lean hashes anything: it is a label: what it is worth is what the hold of that sum in a sandbox is worth. -/
noncomputable def Try.pinned : Pinned := { name := "ytjkfghekdcalhaa", sum := "819b4a82147b8fe63c397ef584d6429e44381fa4aa69c08b4ee96584ec909caa", checked := Try.checked }
namespace Rows
def none {H : Type} : Left H := { results := [], args := [] }

/-- 'outriderlaw27.TraceCuts': WHATEVER THE INPUT: true; the input reads as it did. -/
def traceCutsSpec : ChangeSpec := { name := "traceCuts", fn := fun _ => fun
  | [d1, d2, d3] => { results := [.lit (.bool true)], args := [d1, d2, d3] }
  | _ => none }
def traceCutsRow : OpenClaim := { program := "ytjkfghekdcalhaa", sum := "819b4a82147b8fe63c397ef584d6429e44381fa4aa69c08b4ee96584ec909caa", func := "outrider/outriderlaw27.TraceCuts", spec := "traceCuts", unfollowed := true, recurses := true, apart := false }
def TraceCutsSaid : Prop := traceCutsRow.holds Try.pinned (OpenSpec.ofChange traceCutsSpec)

/-- ITS FALSE NEIGHBOUR: 'it returns false'. Refute it at one input. -/
def traceCutsWrong : ChangeSpec := { name := "traceCuts", fn := fun _ => fun
  | [d1, d2, d3] => { results := [.lit (.bool false)], args := [d1, d2, d3] }
  | _ => none }
def TraceCutsWrongFalsely : Prop := traceCutsRow.holds Try.pinned (OpenSpec.ofChange traceCutsWrong)

/-- 'outriderlaw27.TraceTrue': WHATEVER THE INPUT: true; the input reads as it did. -/
def traceTrueSpec : ChangeSpec := { name := "traceTrue", fn := fun _ => fun
  | [d1, d2] => { results := [.lit (.bool true)], args := [d1, d2] }
  | _ => none }
def traceTrueRow : OpenClaim := { program := "ytjkfghekdcalhaa", sum := "819b4a82147b8fe63c397ef584d6429e44381fa4aa69c08b4ee96584ec909caa", func := "outrider/outriderlaw27.TraceTrue", spec := "traceTrue", unfollowed := true, recurses := true, apart := false }
def TraceTrueSaid : Prop := traceTrueRow.holds Try.pinned (OpenSpec.ofChange traceTrueSpec)

/-- ITS FALSE NEIGHBOUR: 'it returns false'. Refute it at one input. -/
def traceTrueWrong : ChangeSpec := { name := "traceTrue", fn := fun _ => fun
  | [d1, d2] => { results := [.lit (.bool false)], args := [d1, d2] }
  | _ => none }
def TraceTrueWrongFalsely : Prop := traceTrueRow.holds Try.pinned (OpenSpec.ofChange traceTrueWrong)

/-- 'outriderlaw27.TraceShows': WHATEVER THE INPUT: true; the input reads as it did. -/
def traceShowsSpec : ChangeSpec := { name := "traceShows", fn := fun _ => fun
  | [d] => { results := [.lit (.bool true)], args := [d] }
  | _ => none }
def traceShowsRow : OpenClaim := { program := "ytjkfghekdcalhaa", sum := "819b4a82147b8fe63c397ef584d6429e44381fa4aa69c08b4ee96584ec909caa", func := "outrider/outriderlaw27.TraceShows", spec := "traceShows", unfollowed := true, recurses := true, apart := false }
def TraceShowsSaid : Prop := traceShowsRow.holds Try.pinned (OpenSpec.ofChange traceShowsSpec)

/-- ITS FALSE NEIGHBOUR: 'it returns false'. Refute it at one input. -/
def traceShowsWrong : ChangeSpec := { name := "traceShows", fn := fun _ => fun
  | [d] => { results := [.lit (.bool false)], args := [d] }
  | _ => none }
def TraceShowsWrongFalsely : Prop := traceShowsRow.holds Try.pinned (OpenSpec.ofChange traceShowsWrong)

/- THE SECOND FORM. 'bulk': how many values and letters a reading holds, each counted each time it is reached (what is shared counts as often as it is met; a slice's spare places count too). A statement '..UptoSaid' is the law's where the arguments, and the package variables that the reading takes, are together of bulk at most 1048576: NARROWER than '..Said'. Prove '..Said' where nothing that the law and all that it calls make is longer than what came in: it says more and counts as full. Else prove '..UptoSaid'. A law counts once. -/
mutual
def uptoBulk {H : Type} : DataW H → Nat
  | .lit (.string bytes) => bytes.length + 1
  | .lit _ => 1
  | .nil => 1
  | .ptr d => uptoBulk d + 1
  | .slice elems spare => uptoBulkAll elems + uptoBulkAll spare + 1
  | .agg parts => uptoBulkAll parts + 1
  | .iface _ d => uptoBulk d + 1
  | .map entries => uptoBulkEntries entries + 1
  | .held _ => 1
def uptoBulkAll {H : Type} : List (DataW H) → Nat
  | [] => 0
  | d :: r => uptoBulk d + uptoBulkAll r
def uptoBulkEntries {H : Type} : List (Lit × DataW H) → Nat
  | [] => 0
  | x :: r => uptoBulkEntry x + uptoBulkEntries r
def uptoBulkEntry {H : Type} : Lit × DataW H → Nat
  | (.string bytes, d) => bytes.length + uptoBulk d + 1
  | (_, d) => uptoBulk d + 1
 end
def uptoSmall : (H : Type) → List (DataW H) → Bool := fun _ ds => decide (uptoBulkAll ds ≤ 1048576)
def OpenSpec.upto (s : _root_.Go.ChangeSpec) : _root_.Go.OpenSpec := { _root_.Go.OpenSpec.ofChange s with cond := some uptoSmall }

/-- 'outriderlaw27.TraceCuts', WHERE WHAT IT READS IS OF BULK AT MOST 1048576: true; the input reads as it did. -/
def traceCutsUptoRow : OpenClaim := { program := "ytjkfghekdcalhaa", sum := "819b4a82147b8fe63c397ef584d6429e44381fa4aa69c08b4ee96584ec909caa", func := "outrider/outriderlaw27.TraceCuts", spec := "traceCuts", unfollowed := true, recurses := true, apart := false, narrowed := true }
def TraceCutsUptoSaid : Prop := traceCutsUptoRow.holds Try.pinned (OpenSpec.upto traceCutsSpec)

/-- 'outriderlaw27.TraceTrue', WHERE WHAT IT READS IS OF BULK AT MOST 1048576: true; the input reads as it did. -/
def traceTrueUptoRow : OpenClaim := { program := "ytjkfghekdcalhaa", sum := "819b4a82147b8fe63c397ef584d6429e44381fa4aa69c08b4ee96584ec909caa", func := "outrider/outriderlaw27.TraceTrue", spec := "traceTrue", unfollowed := true, recurses := true, apart := false, narrowed := true }
def TraceTrueUptoSaid : Prop := traceTrueUptoRow.holds Try.pinned (OpenSpec.upto traceTrueSpec)

/-- 'outriderlaw27.TraceShows', WHERE WHAT IT READS IS OF BULK AT MOST 1048576: true; the input reads as it did. -/
def traceShowsUptoRow : OpenClaim := { program := "ytjkfghekdcalhaa", sum := "819b4a82147b8fe63c397ef584d6429e44381fa4aa69c08b4ee96584ec909caa", func := "outrider/outriderlaw27.TraceShows", spec := "traceShows", unfollowed := true, recurses := true, apart := false, narrowed := true }
def TraceShowsUptoSaid : Prop := traceShowsUptoRow.holds Try.pinned (OpenSpec.upto traceShowsSpec)

end Rows
end Go.Proofs.Ytjkfghekdcalhaa
