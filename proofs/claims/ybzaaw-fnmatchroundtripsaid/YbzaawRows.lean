/-
  No cell of these rows narrows 'for every input' (looked for: loops, veiled, ifaces, maps, wideKeys, modest, calm, conditions, laid).
  DERIVED. THE GIVEN ROWS OF THIS SEAT. 10 by the template 'for every input the law returns true; each argument reads behind the call as it read before'; 0 by the template 'total and deterministic' (their statements: YbzaawTotals.lean).
  GIVEN WITH THE SEED: the statements are not yours to turn. If you find one false, say at which input.
  Laid BY PROGRAM, IN A SANDBOX (cutbox-rows.mjs): the forced cells as the released guide's own fill.sh prints them over the translation 36dbff970b7802bc… (all of the seat's roots in one cut). By AI agents, Wed Nov 11 2026. No macro, syntax, notation, axiom, sorry.
-/
import Derived.Test.YbzaawChecked
import GoSem.Claim
import GoSem.ClaimJoined
import GoSem.ClaimMapViews
import Derived.JoinedTies
import Derived.KernelRfl
namespace Go.Proofs.Ybzaaw
/- THE CELL 'sum', in the pinned program and in every row, IS THE sha256 OF THE DUMP (.gsa) THAT YbzaawProg.lean LOADS. Nothing in Lean hashes anything: it is a label: what it is worth is what the hold of that sum in a sandbox is worth. -/
noncomputable def Yaao.pinned : Pinned := { name := "ybzaaw", sum := "36dbff970b7802bca3dd94213c2245bcf8cefcf38a649bb732059b476a4909d5", checked := Yaao.checked }
namespace Rows
def none {H : Type} : Left H := { results := [], args := [] }

/-- 'laws.FnLexModel': WHATEVER THE INPUT: true; the input reads as it did. -/
def fnLexModelSpec : ChangeSpec := { name := "fnLexModel", fn := fun _ => fun
  | [d] => { results := [.lit (.bool true)], args := [d] }
  | _ => none }
def fnLexModelRow : OpenClaim := { program := "ybzaaw", sum := "36dbff970b7802bca3dd94213c2245bcf8cefcf38a649bb732059b476a4909d5", func := "loop.example/c036/laws.FnLexModel", spec := "fnLexModel", apart := false }
def FnLexModelSaid : Prop := fnLexModelRow.holds Yaao.pinned (OpenSpec.ofChange fnLexModelSpec)

/-- ITS FALSE NEIGHBOUR: 'it returns false'. Refute it at one input. -/
def fnLexModelWrong : ChangeSpec := { name := "fnLexModel", fn := fun _ => fun
  | [d] => { results := [.lit (.bool false)], args := [d] }
  | _ => none }
def FnLexModelWrongFalsely : Prop := fnLexModelRow.holds Yaao.pinned (OpenSpec.ofChange fnLexModelWrong)

/-- 'laws.FnLexCover': WHATEVER THE INPUT: true; the input reads as it did. -/
def fnLexCoverSpec : ChangeSpec := { name := "fnLexCover", fn := fun _ => fun
  | [d] => { results := [.lit (.bool true)], args := [d] }
  | _ => none }
def fnLexCoverRow : OpenClaim := { program := "ybzaaw", sum := "36dbff970b7802bca3dd94213c2245bcf8cefcf38a649bb732059b476a4909d5", func := "loop.example/c036/laws.FnLexCover", spec := "fnLexCover", apart := false }
def FnLexCoverSaid : Prop := fnLexCoverRow.holds Yaao.pinned (OpenSpec.ofChange fnLexCoverSpec)

/-- ITS FALSE NEIGHBOUR: 'it returns false'. Refute it at one input. -/
def fnLexCoverWrong : ChangeSpec := { name := "fnLexCover", fn := fun _ => fun
  | [d] => { results := [.lit (.bool false)], args := [d] }
  | _ => none }
def FnLexCoverWrongFalsely : Prop := fnLexCoverRow.holds Yaao.pinned (OpenSpec.ofChange fnLexCoverWrong)

/-- 'laws.FnParseModel': WHATEVER THE INPUT: true; the input reads as it did. -/
def fnParseModelSpec : ChangeSpec := { name := "fnParseModel", fn := fun _ => fun
  | [d] => { results := [.lit (.bool true)], args := [d] }
  | _ => none }
def fnParseModelRow : OpenClaim := { program := "ybzaaw", sum := "36dbff970b7802bca3dd94213c2245bcf8cefcf38a649bb732059b476a4909d5", func := "loop.example/c036/laws.FnParseModel", spec := "fnParseModel", recurses := true, apart := false }
def FnParseModelSaid : Prop := fnParseModelRow.holds Yaao.pinned (OpenSpec.ofChange fnParseModelSpec)

/-- ITS FALSE NEIGHBOUR: 'it returns false'. Refute it at one input. -/
def fnParseModelWrong : ChangeSpec := { name := "fnParseModel", fn := fun _ => fun
  | [d] => { results := [.lit (.bool false)], args := [d] }
  | _ => none }
def FnParseModelWrongFalsely : Prop := fnParseModelRow.holds Yaao.pinned (OpenSpec.ofChange fnParseModelWrong)

/-- 'laws.FnShowRoundTrip': WHATEVER THE INPUT: true; the input reads as it did. -/
def fnShowRoundTripSpec : ChangeSpec := { name := "fnShowRoundTrip", fn := fun _ => fun
  | [d] => { results := [.lit (.bool true)], args := [d] }
  | _ => none }
def fnShowRoundTripRow : OpenClaim := { program := "ybzaaw", sum := "36dbff970b7802bca3dd94213c2245bcf8cefcf38a649bb732059b476a4909d5", func := "loop.example/c036/laws.FnShowRoundTrip", spec := "fnShowRoundTrip", recurses := true, apart := false }
def FnShowRoundTripSaid : Prop := fnShowRoundTripRow.holds Yaao.pinned (OpenSpec.ofChange fnShowRoundTripSpec)

/-- ITS FALSE NEIGHBOUR: 'it returns false'. Refute it at one input. -/
def fnShowRoundTripWrong : ChangeSpec := { name := "fnShowRoundTrip", fn := fun _ => fun
  | [d] => { results := [.lit (.bool false)], args := [d] }
  | _ => none }
def FnShowRoundTripWrongFalsely : Prop := fnShowRoundTripRow.holds Yaao.pinned (OpenSpec.ofChange fnShowRoundTripWrong)

/-- 'laws.FnWellFormedModel': WHATEVER THE INPUT: true; the input reads as it did. -/
def fnWellFormedModelSpec : ChangeSpec := { name := "fnWellFormedModel", fn := fun _ => fun
  | [d] => { results := [.lit (.bool true)], args := [d] }
  | _ => none }
def fnWellFormedModelRow : OpenClaim := { program := "ybzaaw", sum := "36dbff970b7802bca3dd94213c2245bcf8cefcf38a649bb732059b476a4909d5", func := "loop.example/c036/laws.FnWellFormedModel", spec := "fnWellFormedModel", recurses := true, apart := false }
def FnWellFormedModelSaid : Prop := fnWellFormedModelRow.holds Yaao.pinned (OpenSpec.ofChange fnWellFormedModelSpec)

/-- ITS FALSE NEIGHBOUR: 'it returns false'. Refute it at one input. -/
def fnWellFormedModelWrong : ChangeSpec := { name := "fnWellFormedModel", fn := fun _ => fun
  | [d] => { results := [.lit (.bool false)], args := [d] }
  | _ => none }
def FnWellFormedModelWrongFalsely : Prop := fnWellFormedModelRow.holds Yaao.pinned (OpenSpec.ofChange fnWellFormedModelWrong)

/-- 'laws.FnSubstTruth': WHATEVER THE INPUT: true; the input reads as it did. -/
def fnSubstTruthSpec : ChangeSpec := { name := "fnSubstTruth", fn := fun _ => fun
  | [d1, d2, d3, d4, d5] => { results := [.lit (.bool true)], args := [d1, d2, d3, d4, d5] }
  | _ => none }
def fnSubstTruthRow : OpenClaim := { program := "ybzaaw", sum := "36dbff970b7802bca3dd94213c2245bcf8cefcf38a649bb732059b476a4909d5", func := "loop.example/c036/laws.FnSubstTruth", spec := "fnSubstTruth", recurses := true, apart := false }
def FnSubstTruthSaid : Prop := fnSubstTruthRow.holds Yaao.pinned (OpenSpec.ofChange fnSubstTruthSpec)

/-- ITS FALSE NEIGHBOUR: 'it returns false'. Refute it at one input. -/
def fnSubstTruthWrong : ChangeSpec := { name := "fnSubstTruth", fn := fun _ => fun
  | [d1, d2, d3, d4, d5] => { results := [.lit (.bool false)], args := [d1, d2, d3, d4, d5] }
  | _ => none }
def FnSubstTruthWrongFalsely : Prop := fnSubstTruthRow.holds Yaao.pinned (OpenSpec.ofChange fnSubstTruthWrong)

/-- 'laws.FnMatchRoundTrip': WHATEVER THE INPUT: true; the input reads as it did. -/
def fnMatchRoundTripSpec : ChangeSpec := { name := "fnMatchRoundTrip", fn := fun _ => fun
  | [d1, d2] => { results := [.lit (.bool true)], args := [d1, d2] }
  | _ => none }
def fnMatchRoundTripRow : OpenClaim := { program := "ybzaaw", sum := "36dbff970b7802bca3dd94213c2245bcf8cefcf38a649bb732059b476a4909d5", func := "loop.example/c036/laws.FnMatchRoundTrip", spec := "fnMatchRoundTrip", recurses := true, apart := false }
def FnMatchRoundTripSaid : Prop := fnMatchRoundTripRow.holds Yaao.pinned (OpenSpec.ofChange fnMatchRoundTripSpec)

/-- ITS FALSE NEIGHBOUR: 'it returns false'. Refute it at one input. -/
def fnMatchRoundTripWrong : ChangeSpec := { name := "fnMatchRoundTrip", fn := fun _ => fun
  | [d1, d2] => { results := [.lit (.bool false)], args := [d1, d2] }
  | _ => none }
def FnMatchRoundTripWrongFalsely : Prop := fnMatchRoundTripRow.holds Yaao.pinned (OpenSpec.ofChange fnMatchRoundTripWrong)

/-- 'laws.FnMatchModel': WHATEVER THE INPUT: true; the input reads as it did. -/
def fnMatchModelSpec : ChangeSpec := { name := "fnMatchModel", fn := fun _ => fun
  | [d1, d2, d3] => { results := [.lit (.bool true)], args := [d1, d2, d3] }
  | _ => none }
def fnMatchModelRow : OpenClaim := { program := "ybzaaw", sum := "36dbff970b7802bca3dd94213c2245bcf8cefcf38a649bb732059b476a4909d5", func := "loop.example/c036/laws.FnMatchModel", spec := "fnMatchModel", recurses := true, apart := false }
def FnMatchModelSaid : Prop := fnMatchModelRow.holds Yaao.pinned (OpenSpec.ofChange fnMatchModelSpec)

/-- ITS FALSE NEIGHBOUR: 'it returns false'. Refute it at one input. -/
def fnMatchModelWrong : ChangeSpec := { name := "fnMatchModel", fn := fun _ => fun
  | [d1, d2, d3] => { results := [.lit (.bool false)], args := [d1, d2, d3] }
  | _ => none }
def FnMatchModelWrongFalsely : Prop := fnMatchModelRow.holds Yaao.pinned (OpenSpec.ofChange fnMatchModelWrong)

/-- 'laws.FnLinesModel': WHATEVER THE INPUT: true; the input reads as it did. -/
def fnLinesModelSpec : ChangeSpec := { name := "fnLinesModel", fn := fun _ => fun
  | [d] => { results := [.lit (.bool true)], args := [d] }
  | _ => none }
def fnLinesModelRow : OpenClaim := { program := "ybzaaw", sum := "36dbff970b7802bca3dd94213c2245bcf8cefcf38a649bb732059b476a4909d5", func := "loop.example/c036/laws.FnLinesModel", spec := "fnLinesModel", recurses := true, apart := false }
def FnLinesModelSaid : Prop := fnLinesModelRow.holds Yaao.pinned (OpenSpec.ofChange fnLinesModelSpec)

/-- ITS FALSE NEIGHBOUR: 'it returns false'. Refute it at one input. -/
def fnLinesModelWrong : ChangeSpec := { name := "fnLinesModel", fn := fun _ => fun
  | [d] => { results := [.lit (.bool false)], args := [d] }
  | _ => none }
def FnLinesModelWrongFalsely : Prop := fnLinesModelRow.holds Yaao.pinned (OpenSpec.ofChange fnLinesModelWrong)

/-- 'laws.FnJudgeModel': WHATEVER THE INPUT: true; the input reads as it did. -/
def fnJudgeModelSpec : ChangeSpec := { name := "fnJudgeModel", fn := fun _ => fun
  | [d] => { results := [.lit (.bool true)], args := [d] }
  | _ => none }
def fnJudgeModelRow : OpenClaim := { program := "ybzaaw", sum := "36dbff970b7802bca3dd94213c2245bcf8cefcf38a649bb732059b476a4909d5", func := "loop.example/c036/laws.FnJudgeModel", spec := "fnJudgeModel", recurses := true, apart := false }
def FnJudgeModelSaid : Prop := fnJudgeModelRow.holds Yaao.pinned (OpenSpec.ofChange fnJudgeModelSpec)

/-- ITS FALSE NEIGHBOUR: 'it returns false'. Refute it at one input. -/
def fnJudgeModelWrong : ChangeSpec := { name := "fnJudgeModel", fn := fun _ => fun
  | [d] => { results := [.lit (.bool false)], args := [d] }
  | _ => none }
def FnJudgeModelWrongFalsely : Prop := fnJudgeModelRow.holds Yaao.pinned (OpenSpec.ofChange fnJudgeModelWrong)

end Rows
end Go.Proofs.Ybzaaw
