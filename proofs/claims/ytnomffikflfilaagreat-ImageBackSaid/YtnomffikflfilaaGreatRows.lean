/-
  No cell of these rows narrows 'for every input' (looked for: loops, veiled, ifaces, maps, wideKeys, modest, calm, conditions, laid).
  DERIVED. THE GIVEN ROWS OF THIS SEAT. 6 by the template 'for every input the law returns true; each argument reads behind the call as it read before'; 0 by the template 'total and deterministic' (their statements: YtnomffikflfilaaGreatTotals.lean).
  GIVEN WITH THE SEED: the statements are not yours to turn. If you find one false, say at which input.
  Laid BY PROGRAM, IN A SANDBOX (cutbox-rows.mjs): the forced cells as the released guide's own fill.sh prints them over the translation c74be44f63d35638… (all of the seat's roots in one cut). By AI agents, Wed Nov 11 2026. No macro, syntax, notation, axiom, sorry.
-/
import Derived.Test.YtnomffikflfilaaGreatChecked
import GoSem.Claim
import GoSem.ClaimJoined
import GoSem.ClaimMapViews
import Derived.JoinedTies
import Derived.KernelRfl
namespace Go.Proofs.YtnomffikflfilaaGreat
/- THE CELL 'sum', in the pinned program and in every row, IS THE sha256 OF THE DUMP (.gsa) THAT YtnomffikflfilaaGreatProg.lean LOADS. Nothing in Lean hashes anything: it is a label: what it is worth is what the hold of that sum in a sandbox is worth. -/
noncomputable def Tryz.pinned : Pinned := { name := "ytnomffikflfilaagreat", sum := "c74be44f63d35638674560ccf06d558442d67a080f2a1e54181e1fba0f4f3cd4", checked := Tryz.checked }
namespace Rows
def none {H : Type} : Left H := { results := [], args := [] }

/-- 'outriderlaw26.ImagePacks': WHATEVER THE INPUT: true; the input reads as it did. -/
def imagePacksSpec : ChangeSpec := { name := "imagePacks", fn := fun _ => fun
  | [d] => { results := [.lit (.bool true)], args := [d] }
  | _ => none }
def imagePacksRow : OpenClaim := { program := "ytnomffikflfilaagreat", sum := "c74be44f63d35638674560ccf06d558442d67a080f2a1e54181e1fba0f4f3cd4", func := "outrider/outriderlaw26.ImagePacks", spec := "imagePacks", unfollowed := true, recurses := true, apart := false }
def ImagePacksSaid : Prop := imagePacksRow.holds Tryz.pinned (OpenSpec.ofChange imagePacksSpec)

/-- ITS FALSE NEIGHBOUR: 'it returns false'. Refute it at one input. -/
def imagePacksWrong : ChangeSpec := { name := "imagePacks", fn := fun _ => fun
  | [d] => { results := [.lit (.bool false)], args := [d] }
  | _ => none }
def ImagePacksWrongFalsely : Prop := imagePacksRow.holds Tryz.pinned (OpenSpec.ofChange imagePacksWrong)

/-- 'outriderlaw26.ImageBack': WHATEVER THE INPUT: true; the input reads as it did. -/
def imageBackSpec : ChangeSpec := { name := "imageBack", fn := fun _ => fun
  | [d] => { results := [.lit (.bool true)], args := [d] }
  | _ => none }
def imageBackRow : OpenClaim := { program := "ytnomffikflfilaagreat", sum := "c74be44f63d35638674560ccf06d558442d67a080f2a1e54181e1fba0f4f3cd4", func := "outrider/outriderlaw26.ImageBack", spec := "imageBack", unfollowed := true, recurses := true, apart := false }
def ImageBackSaid : Prop := imageBackRow.holds Tryz.pinned (OpenSpec.ofChange imageBackSpec)

/-- ITS FALSE NEIGHBOUR: 'it returns false'. Refute it at one input. -/
def imageBackWrong : ChangeSpec := { name := "imageBack", fn := fun _ => fun
  | [d] => { results := [.lit (.bool false)], args := [d] }
  | _ => none }
def ImageBackWrongFalsely : Prop := imageBackRow.holds Tryz.pinned (OpenSpec.ofChange imageBackWrong)

/-- 'outriderlaw26.ImageOne': WHATEVER THE INPUT: true; the input reads as it did. -/
def imageOneSpec : ChangeSpec := { name := "imageOne", fn := fun _ => fun
  | [d1, d2] => { results := [.lit (.bool true)], args := [d1, d2] }
  | _ => none }
def imageOneRow : OpenClaim := { program := "ytnomffikflfilaagreat", sum := "c74be44f63d35638674560ccf06d558442d67a080f2a1e54181e1fba0f4f3cd4", func := "outrider/outriderlaw26.ImageOne", spec := "imageOne", unfollowed := true, recurses := true, apart := false }
def ImageOneSaid : Prop := imageOneRow.holds Tryz.pinned (OpenSpec.ofChange imageOneSpec)

/-- ITS FALSE NEIGHBOUR: 'it returns false'. Refute it at one input. -/
def imageOneWrong : ChangeSpec := { name := "imageOne", fn := fun _ => fun
  | [d1, d2] => { results := [.lit (.bool false)], args := [d1, d2] }
  | _ => none }
def ImageOneWrongFalsely : Prop := imageOneRow.holds Tryz.pinned (OpenSpec.ofChange imageOneWrong)

/-- 'outriderlaw26.ImageTurned': WHATEVER THE INPUT: true; the input reads as it did. -/
def imageTurnedSpec : ChangeSpec := { name := "imageTurned", fn := fun _ => fun
  | [d1, d2, d3] => { results := [.lit (.bool true)], args := [d1, d2, d3] }
  | _ => none }
def imageTurnedRow : OpenClaim := { program := "ytnomffikflfilaagreat", sum := "c74be44f63d35638674560ccf06d558442d67a080f2a1e54181e1fba0f4f3cd4", func := "outrider/outriderlaw26.ImageTurned", spec := "imageTurned", unfollowed := true, recurses := true, apart := false }
def ImageTurnedSaid : Prop := imageTurnedRow.holds Tryz.pinned (OpenSpec.ofChange imageTurnedSpec)

/-- ITS FALSE NEIGHBOUR: 'it returns false'. Refute it at one input. -/
def imageTurnedWrong : ChangeSpec := { name := "imageTurned", fn := fun _ => fun
  | [d1, d2, d3] => { results := [.lit (.bool false)], args := [d1, d2, d3] }
  | _ => none }
def ImageTurnedWrongFalsely : Prop := imageTurnedRow.holds Tryz.pinned (OpenSpec.ofChange imageTurnedWrong)

/-- 'outriderlaw26.ImageResumes': WHATEVER THE INPUT: true; the input reads as it did. -/
def imageResumesSpec : ChangeSpec := { name := "imageResumes", fn := fun _ => fun
  | [d1, d2] => { results := [.lit (.bool true)], args := [d1, d2] }
  | _ => none }
def imageResumesRow : OpenClaim := { program := "ytnomffikflfilaagreat", sum := "c74be44f63d35638674560ccf06d558442d67a080f2a1e54181e1fba0f4f3cd4", func := "outrider/outriderlaw26.ImageResumes", spec := "imageResumes", unfollowed := true, recurses := true, apart := false }
def ImageResumesSaid : Prop := imageResumesRow.holds Tryz.pinned (OpenSpec.ofChange imageResumesSpec)

/-- ITS FALSE NEIGHBOUR: 'it returns false'. Refute it at one input. -/
def imageResumesWrong : ChangeSpec := { name := "imageResumes", fn := fun _ => fun
  | [d1, d2] => { results := [.lit (.bool false)], args := [d1, d2] }
  | _ => none }
def ImageResumesWrongFalsely : Prop := imageResumesRow.holds Tryz.pinned (OpenSpec.ofChange imageResumesWrong)

/-- 'outriderlaw26.ImageRests': WHATEVER THE INPUT: true; the input reads as it did. -/
def imageRestsSpec : ChangeSpec := { name := "imageRests", fn := fun _ => fun
  | [d] => { results := [.lit (.bool true)], args := [d] }
  | _ => none }
def imageRestsRow : OpenClaim := { program := "ytnomffikflfilaagreat", sum := "c74be44f63d35638674560ccf06d558442d67a080f2a1e54181e1fba0f4f3cd4", func := "outrider/outriderlaw26.ImageRests", spec := "imageRests", unfollowed := true, recurses := true, apart := false }
def ImageRestsSaid : Prop := imageRestsRow.holds Tryz.pinned (OpenSpec.ofChange imageRestsSpec)

/-- ITS FALSE NEIGHBOUR: 'it returns false'. Refute it at one input. -/
def imageRestsWrong : ChangeSpec := { name := "imageRests", fn := fun _ => fun
  | [d] => { results := [.lit (.bool false)], args := [d] }
  | _ => none }
def ImageRestsWrongFalsely : Prop := imageRestsRow.holds Tryz.pinned (OpenSpec.ofChange imageRestsWrong)

/- THE SECOND FORM. 'bulk': how many values and letters a reading holds, each counted each time it is reached (what is shared counts as often as it is met; a slice's spare places count too). A statement '..UptoSaid' is the law's where the arguments, and the package variables that the reading takes, are together of bulk at most 1048576: NARROWER than '..Said'. Prove '..Said' where nothing that the law and all that it calls make is longer than what came in: it says more and counts as full. Else prove '..UptoSaid'. A law counts once. -/
mutual
def uptoBulk {H : Type} : DataW H → Nat
  | .lit (.string bytes) => bytes.length + 1
  | .lit _ => 1
  | .nil => 1
  | .ptr d => uptoBulk d + 1
  | .slice elems spare => uptoBulkAll elems + uptoBulkAll spare + 1
  | .agg parts => uptoBulkAll parts + 1
  | .iface _ d => uptoBulk d + 1
  | .map entries => uptoBulkEntries entries + 1
  | .held _ => 1
def uptoBulkAll {H : Type} : List (DataW H) → Nat
  | [] => 0
  | d :: r => uptoBulk d + uptoBulkAll r
def uptoBulkEntries {H : Type} : List (Lit × DataW H) → Nat
  | [] => 0
  | x :: r => uptoBulkEntry x + uptoBulkEntries r
def uptoBulkEntry {H : Type} : Lit × DataW H → Nat
  | (.string bytes, d) => bytes.length + uptoBulk d + 1
  | (_, d) => uptoBulk d + 1
 end
def uptoSmall : (H : Type) → List (DataW H) → Bool := fun _ ds => decide (uptoBulkAll ds ≤ 1048576)
def OpenSpec.upto (s : _root_.Go.ChangeSpec) : _root_.Go.OpenSpec := { _root_.Go.OpenSpec.ofChange s with cond := some uptoSmall }

/-- 'outriderlaw26.ImagePacks', WHERE WHAT IT READS IS OF BULK AT MOST 1048576: true; the input reads as it did. -/
def imagePacksUptoRow : OpenClaim := { program := "ytnomffikflfilaagreat", sum := "c74be44f63d35638674560ccf06d558442d67a080f2a1e54181e1fba0f4f3cd4", func := "outrider/outriderlaw26.ImagePacks", spec := "imagePacks", unfollowed := true, recurses := true, apart := false, narrowed := true }
def ImagePacksUptoSaid : Prop := imagePacksUptoRow.holds Tryz.pinned (OpenSpec.upto imagePacksSpec)

/-- 'outriderlaw26.ImageBack', WHERE WHAT IT READS IS OF BULK AT MOST 1048576: true; the input reads as it did. -/
def imageBackUptoRow : OpenClaim := { program := "ytnomffikflfilaagreat", sum := "c74be44f63d35638674560ccf06d558442d67a080f2a1e54181e1fba0f4f3cd4", func := "outrider/outriderlaw26.ImageBack", spec := "imageBack", unfollowed := true, recurses := true, apart := false, narrowed := true }
def ImageBackUptoSaid : Prop := imageBackUptoRow.holds Tryz.pinned (OpenSpec.upto imageBackSpec)

/-- 'outriderlaw26.ImageOne', WHERE WHAT IT READS IS OF BULK AT MOST 1048576: true; the input reads as it did. -/
def imageOneUptoRow : OpenClaim := { program := "ytnomffikflfilaagreat", sum := "c74be44f63d35638674560ccf06d558442d67a080f2a1e54181e1fba0f4f3cd4", func := "outrider/outriderlaw26.ImageOne", spec := "imageOne", unfollowed := true, recurses := true, apart := false, narrowed := true }
def ImageOneUptoSaid : Prop := imageOneUptoRow.holds Tryz.pinned (OpenSpec.upto imageOneSpec)

/-- 'outriderlaw26.ImageTurned', WHERE WHAT IT READS IS OF BULK AT MOST 1048576: true; the input reads as it did. -/
def imageTurnedUptoRow : OpenClaim := { program := "ytnomffikflfilaagreat", sum := "c74be44f63d35638674560ccf06d558442d67a080f2a1e54181e1fba0f4f3cd4", func := "outrider/outriderlaw26.ImageTurned", spec := "imageTurned", unfollowed := true, recurses := true, apart := false, narrowed := true }
def ImageTurnedUptoSaid : Prop := imageTurnedUptoRow.holds Tryz.pinned (OpenSpec.upto imageTurnedSpec)

/-- 'outriderlaw26.ImageResumes', WHERE WHAT IT READS IS OF BULK AT MOST 1048576: true; the input reads as it did. -/
def imageResumesUptoRow : OpenClaim := { program := "ytnomffikflfilaagreat", sum := "c74be44f63d35638674560ccf06d558442d67a080f2a1e54181e1fba0f4f3cd4", func := "outrider/outriderlaw26.ImageResumes", spec := "imageResumes", unfollowed := true, recurses := true, apart := false, narrowed := true }
def ImageResumesUptoSaid : Prop := imageResumesUptoRow.holds Tryz.pinned (OpenSpec.upto imageResumesSpec)

/-- 'outriderlaw26.ImageRests', WHERE WHAT IT READS IS OF BULK AT MOST 1048576: true; the input reads as it did. -/
def imageRestsUptoRow : OpenClaim := { program := "ytnomffikflfilaagreat", sum := "c74be44f63d35638674560ccf06d558442d67a080f2a1e54181e1fba0f4f3cd4", func := "outrider/outriderlaw26.ImageRests", spec := "imageRests", unfollowed := true, recurses := true, apart := false, narrowed := true }
def ImageRestsUptoSaid : Prop := imageRestsUptoRow.holds Tryz.pinned (OpenSpec.upto imageRestsSpec)

end Rows
end Go.Proofs.YtnomffikflfilaaGreat
