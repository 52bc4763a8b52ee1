/-
  No cell of these rows narrows 'for every input' (looked for: loops, veiled, ifaces, maps, wideKeys, modest, calm, conditions, laid).
  DERIVED. THE GIVEN ROWS OF THIS SEAT. 2 by the template 'for every input the law returns true; each argument reads behind the call as it read before'; 0 by the template 'total and deterministic' (their statements: YbzaawGreatTotals.lean).
  GIVEN WITH THE SEED: the statements are not yours to turn. If you find one false, say at which input.
  Laid BY PROGRAM, IN A SANDBOX (cutbox-rows.mjs): the forced cells as the released guide's own fill.sh prints them over the translation 83a8912daad2f40d… (all of the seat's roots in one cut). By AI agents, Wed Nov 11 2026. No macro, syntax, notation, axiom, sorry.
-/
import Derived.Test.YbzaawGreatChecked
import GoSem.Claim
import GoSem.ClaimJoined
import GoSem.ClaimMapViews
import Derived.JoinedTies
import Derived.KernelRfl
namespace Go.Proofs.YbzaawGreat
/- THE CELL 'sum', in the pinned program and in every row, IS THE sha256 OF THE DUMP (.gsa) THAT YbzaawGreatProg.lean LOADS. Nothing in Lean hashes anything: it is a label: what it is worth is what the hold of that sum in a sandbox is worth. -/
noncomputable def Yaao.pinned : Pinned := { name := "ybzaawgreat", sum := "83a8912daad2f40da5640e4fa5b3a93def80c080a1f74eea4d053e24d04e993d", checked := Yaao.checked }
namespace Rows
def none {H : Type} : Left H := { results := [], args := [] }

/-- 'laws.FnTop': WHATEVER THE INPUT: true; the input reads as it did. -/
def fnTopSpec : ChangeSpec := { name := "fnTop", fn := fun _ => fun
  | [d1, d2] => { results := [.lit (.bool true)], args := [d1, d2] }
  | _ => none }
def fnTopRow : OpenClaim := { program := "ybzaawgreat", sum := "83a8912daad2f40da5640e4fa5b3a93def80c080a1f74eea4d053e24d04e993d", func := "loop.example/c036/laws.FnTop", spec := "fnTop", recurses := true, apart := false }
def FnTopSaid : Prop := fnTopRow.holds Yaao.pinned (OpenSpec.ofChange fnTopSpec)

/-- ITS FALSE NEIGHBOUR: 'it returns false'. Refute it at one input. -/
def fnTopWrong : ChangeSpec := { name := "fnTop", fn := fun _ => fun
  | [d1, d2] => { results := [.lit (.bool false)], args := [d1, d2] }
  | _ => none }
def FnTopWrongFalsely : Prop := fnTopRow.holds Yaao.pinned (OpenSpec.ofChange fnTopWrong)

/-- 'laws.FnBuiltAccepted': WHATEVER THE INPUT: true; the input reads as it did. -/
def fnBuiltAcceptedSpec : ChangeSpec := { name := "fnBuiltAccepted", fn := fun _ => fun
  | [d] => { results := [.lit (.bool true)], args := [d] }
  | _ => none }
def fnBuiltAcceptedRow : OpenClaim := { program := "ybzaawgreat", sum := "83a8912daad2f40da5640e4fa5b3a93def80c080a1f74eea4d053e24d04e993d", func := "loop.example/c036/laws.FnBuiltAccepted", spec := "fnBuiltAccepted", recurses := true, apart := false }
def FnBuiltAcceptedSaid : Prop := fnBuiltAcceptedRow.holds Yaao.pinned (OpenSpec.ofChange fnBuiltAcceptedSpec)

/-- ITS FALSE NEIGHBOUR: 'it returns false'. Refute it at one input. -/
def fnBuiltAcceptedWrong : ChangeSpec := { name := "fnBuiltAccepted", fn := fun _ => fun
  | [d] => { results := [.lit (.bool false)], args := [d] }
  | _ => none }
def FnBuiltAcceptedWrongFalsely : Prop := fnBuiltAcceptedRow.holds Yaao.pinned (OpenSpec.ofChange fnBuiltAcceptedWrong)

end Rows
end Go.Proofs.YbzaawGreat
