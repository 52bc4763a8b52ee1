/-
  No cell of these rows narrows 'for every input' (looked for: loops, veiled, ifaces, maps, wideKeys, modest, calm, conditions, laid).
  DERIVED. THE GIVEN ROWS OF THIS SEAT. 5 by the template 'for every input the law returns true; each argument reads behind the call as it read before'; 0 by the template 'total and deterministic' (their statements: YbzacwTotals.lean).
  GIVEN WITH THE SEED: the statements are not yours to turn. If you find one false, say at which input.
  Laid BY PROGRAM, IN A SANDBOX (cutbox-rows.mjs): the forced cells as the released guide's own fill.sh prints them over the translation 731d4d958f0fdaeb… (all of the seat's roots in one cut). By AI agents, Wed Nov 11 2026. No macro, syntax, notation, axiom, sorry.
-/
import Derived.Test.YbzacwChecked
import GoSem.Claim
import GoSem.ClaimJoined
import GoSem.ClaimMapViews
import Derived.JoinedTies
import Derived.KernelRfl
namespace Go.Proofs.Ybzacw
/- THE CELL 'sum', in the pinned program and in every row, IS THE sha256 OF THE DUMP (.gsa) THAT YbzacwProg.lean LOADS. Nothing in Lean hashes anything: it is a label: what it is worth is what the hold of that sum in a sandbox is worth. -/
noncomputable def Yaco.pinned : Pinned := { name := "ybzacw", sum := "731d4d958f0fdaeb396d7a2a50d40ff45b0656925a70d2a48cd9d502a52b2960", checked := Yaco.checked }
namespace Rows
def none {H : Type} : Left H := { results := [], args := [] }

/-- 'laws.FnExactRuleCode': WHATEVER THE INPUT: true; the input reads as it did. -/
def fnExactRuleCodeSpec : ChangeSpec := { name := "fnExactRuleCode", fn := fun _ => fun
  | [d] => { results := [.lit (.bool true)], args := [d] }
  | _ => none }
def fnExactRuleCodeRow : OpenClaim := { program := "ybzacw", sum := "731d4d958f0fdaeb396d7a2a50d40ff45b0656925a70d2a48cd9d502a52b2960", func := "loop.example/c036/laws.FnExactRuleCode", spec := "fnExactRuleCode", apart := false }
def FnExactRuleCodeSaid : Prop := fnExactRuleCodeRow.holds Yaco.pinned (OpenSpec.ofChange fnExactRuleCodeSpec)

/-- ITS FALSE NEIGHBOUR: 'it returns false'. Refute it at one input. -/
def fnExactRuleCodeWrong : ChangeSpec := { name := "fnExactRuleCode", fn := fun _ => fun
  | [d] => { results := [.lit (.bool false)], args := [d] }
  | _ => none }
def FnExactRuleCodeWrongFalsely : Prop := fnExactRuleCodeRow.holds Yaco.pinned (OpenSpec.ofChange fnExactRuleCodeWrong)

/-- 'laws.FnExactParseLine': WHATEVER THE INPUT: true; the input reads as it did. -/
def fnExactParseLineSpec : ChangeSpec := { name := "fnExactParseLine", fn := fun _ => fun
  | [d] => { results := [.lit (.bool true)], args := [d] }
  | _ => none }
def fnExactParseLineRow : OpenClaim := { program := "ybzacw", sum := "731d4d958f0fdaeb396d7a2a50d40ff45b0656925a70d2a48cd9d502a52b2960", func := "loop.example/c036/laws.FnExactParseLine", spec := "fnExactParseLine", recurses := true, apart := false }
def FnExactParseLineSaid : Prop := fnExactParseLineRow.holds Yaco.pinned (OpenSpec.ofChange fnExactParseLineSpec)

/-- ITS FALSE NEIGHBOUR: 'it returns false'. Refute it at one input. -/
def fnExactParseLineWrong : ChangeSpec := { name := "fnExactParseLine", fn := fun _ => fun
  | [d] => { results := [.lit (.bool false)], args := [d] }
  | _ => none }
def FnExactParseLineWrongFalsely : Prop := fnExactParseLineRow.holds Yaco.pinned (OpenSpec.ofChange fnExactParseLineWrong)

/-- 'laws.FnExactParseText': WHATEVER THE INPUT: true; the input reads as it did. -/
def fnExactParseTextSpec : ChangeSpec := { name := "fnExactParseText", fn := fun _ => fun
  | [d] => { results := [.lit (.bool true)], args := [d] }
  | _ => none }
def fnExactParseTextRow : OpenClaim := { program := "ybzacw", sum := "731d4d958f0fdaeb396d7a2a50d40ff45b0656925a70d2a48cd9d502a52b2960", func := "loop.example/c036/laws.FnExactParseText", spec := "fnExactParseText", recurses := true, apart := false }
def FnExactParseTextSaid : Prop := fnExactParseTextRow.holds Yaco.pinned (OpenSpec.ofChange fnExactParseTextSpec)

/-- ITS FALSE NEIGHBOUR: 'it returns false'. Refute it at one input. -/
def fnExactParseTextWrong : ChangeSpec := { name := "fnExactParseText", fn := fun _ => fun
  | [d] => { results := [.lit (.bool false)], args := [d] }
  | _ => none }
def FnExactParseTextWrongFalsely : Prop := fnExactParseTextRow.holds Yaco.pinned (OpenSpec.ofChange fnExactParseTextWrong)

/-- 'laws.FnExactJudge': WHATEVER THE INPUT: true; the input reads as it did. -/
def fnExactJudgeSpec : ChangeSpec := { name := "fnExactJudge", fn := fun _ => fun
  | [d] => { results := [.lit (.bool true)], args := [d] }
  | _ => none }
def fnExactJudgeRow : OpenClaim := { program := "ybzacw", sum := "731d4d958f0fdaeb396d7a2a50d40ff45b0656925a70d2a48cd9d502a52b2960", func := "loop.example/c036/laws.FnExactJudge", spec := "fnExactJudge", recurses := true, apart := false }
def FnExactJudgeSaid : Prop := fnExactJudgeRow.holds Yaco.pinned (OpenSpec.ofChange fnExactJudgeSpec)

/-- ITS FALSE NEIGHBOUR: 'it returns false'. Refute it at one input. -/
def fnExactJudgeWrong : ChangeSpec := { name := "fnExactJudge", fn := fun _ => fun
  | [d] => { results := [.lit (.bool false)], args := [d] }
  | _ => none }
def FnExactJudgeWrongFalsely : Prop := fnExactJudgeRow.holds Yaco.pinned (OpenSpec.ofChange fnExactJudgeWrong)

/-- 'laws.FnExactJudgeText': WHATEVER THE INPUT: true; the input reads as it did. -/
def fnExactJudgeTextSpec : ChangeSpec := { name := "fnExactJudgeText", fn := fun _ => fun
  | [d] => { results := [.lit (.bool true)], args := [d] }
  | _ => none }
def fnExactJudgeTextRow : OpenClaim := { program := "ybzacw", sum := "731d4d958f0fdaeb396d7a2a50d40ff45b0656925a70d2a48cd9d502a52b2960", func := "loop.example/c036/laws.FnExactJudgeText", spec := "fnExactJudgeText", recurses := true, apart := false }
def FnExactJudgeTextSaid : Prop := fnExactJudgeTextRow.holds Yaco.pinned (OpenSpec.ofChange fnExactJudgeTextSpec)

/-- ITS FALSE NEIGHBOUR: 'it returns false'. Refute it at one input. -/
def fnExactJudgeTextWrong : ChangeSpec := { name := "fnExactJudgeText", fn := fun _ => fun
  | [d] => { results := [.lit (.bool false)], args := [d] }
  | _ => none }
def FnExactJudgeTextWrongFalsely : Prop := fnExactJudgeTextRow.holds Yaco.pinned (OpenSpec.ofChange fnExactJudgeTextWrong)

end Rows
end Go.Proofs.Ybzacw
