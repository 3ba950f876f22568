/-
  No cell of these rows narrows 'for every input' (looked for: loops, veiled, ifaces, maps, wideKeys, modest, calm, conditions, laid).
  DERIVED. THE GIVEN ROWS OF THIS SEAT. 3 by the template 'for every input the law returns true; each argument reads behind the call as it read before'; 0 by the template 'total and deterministic' (their statements: YtadegahkgpedgaaTotals.lean).
  GIVEN WITH THE SEED: the statements are not yours to turn. If you find one false, say at which input.
  Laid BY PROGRAM, IN A SANDBOX (cutbox-rows.mjs): the forced cells as the released guide's own fill.sh prints them over the translation 99a7182010014b55… (all of the seat's roots in one cut). By AI agents, Wed Nov 11 2026. No macro, syntax, notation, axiom, sorry.
-/
import Derived.Test.YtadegahkgpedgaaChecked
import GoSem.Claim
import GoSem.ClaimJoined
import GoSem.ClaimMapViews
import Derived.JoinedTies
import Derived.KernelRfl
namespace Go.Proofs.Ytadegahkgpedgaa
/- THE CELL 'sum', in the pinned program and in every row, IS THE sha256 OF THE DUMP (.gsa) THAT YtadegahkgpedgaaProg.lean LOADS. Nothing in Lean hashes anything: it is a label: what it is worth is what the hold of that sum in a sandbox is worth. -/
noncomputable def Try.pinned : Pinned := { name := "ytadegahkgpedgaa", sum := "99a7182010014b558261854788a51dccc6a02c73857ecca4226febf91251ca3f", checked := Try.checked }
namespace Rows
def none {H : Type} : Left H := { results := [], args := [] }

/-- 'outriderlaw23.GraphRoom': WHATEVER THE INPUT: true; the input reads as it did. -/
def graphRoomSpec : ChangeSpec := { name := "graphRoom", fn := fun _ => fun
  | [d] => { results := [.lit (.bool true)], args := [d] }
  | _ => none }
def graphRoomRow : OpenClaim := { program := "ytadegahkgpedgaa", sum := "99a7182010014b558261854788a51dccc6a02c73857ecca4226febf91251ca3f", func := "outrider/outriderlaw23.GraphRoom", spec := "graphRoom", unfollowed := true, recurses := true, apart := false }
def GraphRoomSaid : Prop := graphRoomRow.holds Try.pinned (OpenSpec.ofChange graphRoomSpec)

/-- ITS FALSE NEIGHBOUR: 'it returns false'. Refute it at one input. -/
def graphRoomWrong : ChangeSpec := { name := "graphRoom", fn := fun _ => fun
  | [d] => { results := [.lit (.bool false)], args := [d] }
  | _ => none }
def GraphRoomWrongFalsely : Prop := graphRoomRow.holds Try.pinned (OpenSpec.ofChange graphRoomWrong)

/-- 'outriderlaw23.GraphFalls': WHATEVER THE INPUT: true; the input reads as it did. -/
def graphFallsSpec : ChangeSpec := { name := "graphFalls", fn := fun _ => fun
  | [d1, d2] => { results := [.lit (.bool true)], args := [d1, d2] }
  | _ => none }
def graphFallsRow : OpenClaim := { program := "ytadegahkgpedgaa", sum := "99a7182010014b558261854788a51dccc6a02c73857ecca4226febf91251ca3f", func := "outrider/outriderlaw23.GraphFalls", spec := "graphFalls", unfollowed := true, recurses := true, apart := false }
def GraphFallsSaid : Prop := graphFallsRow.holds Try.pinned (OpenSpec.ofChange graphFallsSpec)

/-- ITS FALSE NEIGHBOUR: 'it returns false'. Refute it at one input. -/
def graphFallsWrong : ChangeSpec := { name := "graphFalls", fn := fun _ => fun
  | [d1, d2] => { results := [.lit (.bool false)], args := [d1, d2] }
  | _ => none }
def GraphFallsWrongFalsely : Prop := graphFallsRow.holds Try.pinned (OpenSpec.ofChange graphFallsWrong)

/-- 'outriderlaw23.GraphPlays': WHATEVER THE INPUT: true; the input reads as it did. -/
def graphPlaysSpec : ChangeSpec := { name := "graphPlays", fn := fun _ => fun
  | [d1, d2, d3] => { results := [.lit (.bool true)], args := [d1, d2, d3] }
  | _ => none }
def graphPlaysRow : OpenClaim := { program := "ytadegahkgpedgaa", sum := "99a7182010014b558261854788a51dccc6a02c73857ecca4226febf91251ca3f", func := "outrider/outriderlaw23.GraphPlays", spec := "graphPlays", unfollowed := true, recurses := true, apart := false }
def GraphPlaysSaid : Prop := graphPlaysRow.holds Try.pinned (OpenSpec.ofChange graphPlaysSpec)

/-- ITS FALSE NEIGHBOUR: 'it returns false'. Refute it at one input. -/
def graphPlaysWrong : ChangeSpec := { name := "graphPlays", fn := fun _ => fun
  | [d1, d2, d3] => { results := [.lit (.bool false)], args := [d1, d2, d3] }
  | _ => none }
def GraphPlaysWrongFalsely : Prop := graphPlaysRow.holds Try.pinned (OpenSpec.ofChange graphPlaysWrong)

/- THE SECOND FORM. 'bulk': how many values and letters a reading holds, each counted each time it is reached (what is shared counts as often as it is met; a slice's spare places count too). A statement '..UptoSaid' is the law's where the arguments, and the package variables that the reading takes, are together of bulk at most 1048576: NARROWER than '..Said'. Prove '..Said' where nothing that the law and all that it calls make is longer than what came in: it says more and counts as full. Else prove '..UptoSaid'. A law counts once. -/
mutual
def uptoBulk {H : Type} : DataW H → Nat
  | .lit (.string bytes) => bytes.length + 1
  | .lit _ => 1
  | .nil => 1
  | .ptr d => uptoBulk d + 1
  | .slice elems spare => uptoBulkAll elems + uptoBulkAll spare + 1
  | .agg parts => uptoBulkAll parts + 1
  | .iface _ d => uptoBulk d + 1
  | .map entries => uptoBulkEntries entries + 1
  | .held _ => 1
def uptoBulkAll {H : Type} : List (DataW H) → Nat
  | [] => 0
  | d :: r => uptoBulk d + uptoBulkAll r
def uptoBulkEntries {H : Type} : List (Lit × DataW H) → Nat
  | [] => 0
  | x :: r => uptoBulkEntry x + uptoBulkEntries r
def uptoBulkEntry {H : Type} : Lit × DataW H → Nat
  | (.string bytes, d) => bytes.length + uptoBulk d + 1
  | (_, d) => uptoBulk d + 1
 end
def uptoSmall : (H : Type) → List (DataW H) → Bool := fun _ ds => decide (uptoBulkAll ds ≤ 1048576)
def OpenSpec.upto (s : _root_.Go.ChangeSpec) : _root_.Go.OpenSpec := { _root_.Go.OpenSpec.ofChange s with cond := some uptoSmall }

/-- 'outriderlaw23.GraphRoom', WHERE WHAT IT READS IS OF BULK AT MOST 1048576: true; the input reads as it did. -/
def graphRoomUptoRow : OpenClaim := { program := "ytadegahkgpedgaa", sum := "99a7182010014b558261854788a51dccc6a02c73857ecca4226febf91251ca3f", func := "outrider/outriderlaw23.GraphRoom", spec := "graphRoom", unfollowed := true, recurses := true, apart := false, narrowed := true }
def GraphRoomUptoSaid : Prop := graphRoomUptoRow.holds Try.pinned (OpenSpec.upto graphRoomSpec)

/-- 'outriderlaw23.GraphFalls', WHERE WHAT IT READS IS OF BULK AT MOST 1048576: true; the input reads as it did. -/
def graphFallsUptoRow : OpenClaim := { program := "ytadegahkgpedgaa", sum := "99a7182010014b558261854788a51dccc6a02c73857ecca4226febf91251ca3f", func := "outrider/outriderlaw23.GraphFalls", spec := "graphFalls", unfollowed := true, recurses := true, apart := false, narrowed := true }
def GraphFallsUptoSaid : Prop := graphFallsUptoRow.holds Try.pinned (OpenSpec.upto graphFallsSpec)

/-- 'outriderlaw23.GraphPlays', WHERE WHAT IT READS IS OF BULK AT MOST 1048576: true; the input reads as it did. -/
def graphPlaysUptoRow : OpenClaim := { program := "ytadegahkgpedgaa", sum := "99a7182010014b558261854788a51dccc6a02c73857ecca4226febf91251ca3f", func := "outrider/outriderlaw23.GraphPlays", spec := "graphPlays", unfollowed := true, recurses := true, apart := false, narrowed := true }
def GraphPlaysUptoSaid : Prop := graphPlaysUptoRow.holds Try.pinned (OpenSpec.upto graphPlaysSpec)

end Rows
end Go.Proofs.Ytadegahkgpedgaa
