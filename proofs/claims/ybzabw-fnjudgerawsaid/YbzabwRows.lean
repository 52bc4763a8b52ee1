/-
  No cell of these rows narrows 'for every input' (looked for: loops, veiled, ifaces, maps, wideKeys, modest, calm, conditions, laid).
  DERIVED. THE GIVEN ROWS OF THIS SEAT. 12 by the template 'for every input the law returns true; each argument reads behind the call as it read before'; 0 by the template 'total and deterministic' (their statements: YbzabwTotals.lean).
  GIVEN WITH THE SEED: the statements are not yours to turn. If you find one false, say at which input.
  Laid BY PROGRAM, IN A SANDBOX (cutbox-rows.mjs): the forced cells as the released guide's own fill.sh prints them over the translation dcdde721e3cd252c… (all of the seat's roots in one cut). By AI agents, Wed Nov 11 2026. No macro, syntax, notation, axiom, sorry.
-/
import Derived.Test.YbzabwChecked
import GoSem.Claim
import GoSem.ClaimJoined
import GoSem.ClaimMapViews
import Derived.JoinedTies
import Derived.KernelRfl
namespace Go.Proofs.Ybzabw
/- THE CELL 'sum', in the pinned program and in every row, IS THE sha256 OF THE DUMP (.gsa) THAT YbzabwProg.lean LOADS. Nothing in Lean hashes anything: it is a label: what it is worth is what the hold of that sum in a sandbox is worth. -/
noncomputable def Yabo.pinned : Pinned := { name := "ybzabw", sum := "dcdde721e3cd252c0b8f9d0d66917d658a1125581a1ff9d519d363466bea0e3f", checked := Yabo.checked }
namespace Rows
def none {H : Type} : Left H := { results := [], args := [] }

/-- 'laws.FnJudgeRaw': WHATEVER THE INPUT: true; the input reads as it did. -/
def fnJudgeRawSpec : ChangeSpec := { name := "fnJudgeRaw", fn := fun _ => fun
  | [d] => { results := [.lit (.bool true)], args := [d] }
  | _ => none }
def fnJudgeRawRow : OpenClaim := { program := "ybzabw", sum := "dcdde721e3cd252c0b8f9d0d66917d658a1125581a1ff9d519d363466bea0e3f", func := "loop.example/c036/laws.FnJudgeRaw", spec := "fnJudgeRaw", recurses := true, apart := false }
def FnJudgeRawSaid : Prop := fnJudgeRawRow.holds Yabo.pinned (OpenSpec.ofChange fnJudgeRawSpec)

/-- ITS FALSE NEIGHBOUR: 'it returns false'. Refute it at one input. -/
def fnJudgeRawWrong : ChangeSpec := { name := "fnJudgeRaw", fn := fun _ => fun
  | [d] => { results := [.lit (.bool false)], args := [d] }
  | _ => none }
def FnJudgeRawWrongFalsely : Prop := fnJudgeRawRow.holds Yabo.pinned (OpenSpec.ofChange fnJudgeRawWrong)

/-- 'laws.FnExactConstants': WHATEVER THE INPUT: true; the input reads as it did. -/
def fnExactConstantsSpec : ChangeSpec := { name := "fnExactConstants", fn := fun _ => fun
  | [] => { results := [.lit (.bool true)], args := [] }
  | _ => none }
def fnExactConstantsRow : OpenClaim := { program := "ybzabw", sum := "dcdde721e3cd252c0b8f9d0d66917d658a1125581a1ff9d519d363466bea0e3f", func := "loop.example/c036/laws.FnExactConstants", spec := "fnExactConstants", apart := false }
def FnExactConstantsSaid : Prop := fnExactConstantsRow.holds Yabo.pinned (OpenSpec.ofChange fnExactConstantsSpec)

/-- ITS FALSE NEIGHBOUR: 'it returns false'. Refute it at one input. -/
def fnExactConstantsWrong : ChangeSpec := { name := "fnExactConstants", fn := fun _ => fun
  | [] => { results := [.lit (.bool false)], args := [] }
  | _ => none }
def FnExactConstantsWrongFalsely : Prop := fnExactConstantsRow.holds Yabo.pinned (OpenSpec.ofChange fnExactConstantsWrong)

/-- 'laws.FnExactLex': WHATEVER THE INPUT: true; the input reads as it did. -/
def fnExactLexSpec : ChangeSpec := { name := "fnExactLex", fn := fun _ => fun
  | [d] => { results := [.lit (.bool true)], args := [d] }
  | _ => none }
def fnExactLexRow : OpenClaim := { program := "ybzabw", sum := "dcdde721e3cd252c0b8f9d0d66917d658a1125581a1ff9d519d363466bea0e3f", func := "loop.example/c036/laws.FnExactLex", spec := "fnExactLex", apart := false }
def FnExactLexSaid : Prop := fnExactLexRow.holds Yabo.pinned (OpenSpec.ofChange fnExactLexSpec)

/-- ITS FALSE NEIGHBOUR: 'it returns false'. Refute it at one input. -/
def fnExactLexWrong : ChangeSpec := { name := "fnExactLex", fn := fun _ => fun
  | [d] => { results := [.lit (.bool false)], args := [d] }
  | _ => none }
def FnExactLexWrongFalsely : Prop := fnExactLexRow.holds Yabo.pinned (OpenSpec.ofChange fnExactLexWrong)

/-- 'laws.FnExactParseFormula': WHATEVER THE INPUT: true; the input reads as it did. -/
def fnExactParseFormulaSpec : ChangeSpec := { name := "fnExactParseFormula", fn := fun _ => fun
  | [d] => { results := [.lit (.bool true)], args := [d] }
  | _ => none }
def fnExactParseFormulaRow : OpenClaim := { program := "ybzabw", sum := "dcdde721e3cd252c0b8f9d0d66917d658a1125581a1ff9d519d363466bea0e3f", func := "loop.example/c036/laws.FnExactParseFormula", spec := "fnExactParseFormula", recurses := true, apart := false }
def FnExactParseFormulaSaid : Prop := fnExactParseFormulaRow.holds Yabo.pinned (OpenSpec.ofChange fnExactParseFormulaSpec)

/-- ITS FALSE NEIGHBOUR: 'it returns false'. Refute it at one input. -/
def fnExactParseFormulaWrong : ChangeSpec := { name := "fnExactParseFormula", fn := fun _ => fun
  | [d] => { results := [.lit (.bool false)], args := [d] }
  | _ => none }
def FnExactParseFormulaWrongFalsely : Prop := fnExactParseFormulaRow.holds Yabo.pinned (OpenSpec.ofChange fnExactParseFormulaWrong)

/-- 'laws.FnExactParseFormulaText': WHATEVER THE INPUT: true; the input reads as it did. -/
def fnExactParseFormulaTextSpec : ChangeSpec := { name := "fnExactParseFormulaText", fn := fun _ => fun
  | [d] => { results := [.lit (.bool true)], args := [d] }
  | _ => none }
def fnExactParseFormulaTextRow : OpenClaim := { program := "ybzabw", sum := "dcdde721e3cd252c0b8f9d0d66917d658a1125581a1ff9d519d363466bea0e3f", func := "loop.example/c036/laws.FnExactParseFormulaText", spec := "fnExactParseFormulaText", recurses := true, apart := false }
def FnExactParseFormulaTextSaid : Prop := fnExactParseFormulaTextRow.holds Yabo.pinned (OpenSpec.ofChange fnExactParseFormulaTextSpec)

/-- ITS FALSE NEIGHBOUR: 'it returns false'. Refute it at one input. -/
def fnExactParseFormulaTextWrong : ChangeSpec := { name := "fnExactParseFormulaText", fn := fun _ => fun
  | [d] => { results := [.lit (.bool false)], args := [d] }
  | _ => none }
def FnExactParseFormulaTextWrongFalsely : Prop := fnExactParseFormulaTextRow.holds Yabo.pinned (OpenSpec.ofChange fnExactParseFormulaTextWrong)

/-- 'laws.FnExactShow': WHATEVER THE INPUT: true; the input reads as it did. -/
def fnExactShowSpec : ChangeSpec := { name := "fnExactShow", fn := fun _ => fun
  | [d] => { results := [.lit (.bool true)], args := [d] }
  | _ => none }
def fnExactShowRow : OpenClaim := { program := "ybzabw", sum := "dcdde721e3cd252c0b8f9d0d66917d658a1125581a1ff9d519d363466bea0e3f", func := "loop.example/c036/laws.FnExactShow", spec := "fnExactShow", recurses := true, apart := false }
def FnExactShowSaid : Prop := fnExactShowRow.holds Yabo.pinned (OpenSpec.ofChange fnExactShowSpec)

/-- ITS FALSE NEIGHBOUR: 'it returns false'. Refute it at one input. -/
def fnExactShowWrong : ChangeSpec := { name := "fnExactShow", fn := fun _ => fun
  | [d] => { results := [.lit (.bool false)], args := [d] }
  | _ => none }
def FnExactShowWrongFalsely : Prop := fnExactShowRow.holds Yabo.pinned (OpenSpec.ofChange fnExactShowWrong)

/-- 'laws.FnExactWellFormed': WHATEVER THE INPUT: true; the input reads as it did. -/
def fnExactWellFormedSpec : ChangeSpec := { name := "fnExactWellFormed", fn := fun _ => fun
  | [d] => { results := [.lit (.bool true)], args := [d] }
  | _ => none }
def fnExactWellFormedRow : OpenClaim := { program := "ybzabw", sum := "dcdde721e3cd252c0b8f9d0d66917d658a1125581a1ff9d519d363466bea0e3f", func := "loop.example/c036/laws.FnExactWellFormed", spec := "fnExactWellFormed", recurses := true, apart := false }
def FnExactWellFormedSaid : Prop := fnExactWellFormedRow.holds Yabo.pinned (OpenSpec.ofChange fnExactWellFormedSpec)

/-- ITS FALSE NEIGHBOUR: 'it returns false'. Refute it at one input. -/
def fnExactWellFormedWrong : ChangeSpec := { name := "fnExactWellFormed", fn := fun _ => fun
  | [d] => { results := [.lit (.bool false)], args := [d] }
  | _ => none }
def FnExactWellFormedWrongFalsely : Prop := fnExactWellFormedRow.holds Yabo.pinned (OpenSpec.ofChange fnExactWellFormedWrong)

/-- 'laws.FnExactEqual': WHATEVER THE INPUT: true; the input reads as it did. -/
def fnExactEqualSpec : ChangeSpec := { name := "fnExactEqual", fn := fun _ => fun
  | [d1, d2] => { results := [.lit (.bool true)], args := [d1, d2] }
  | _ => none }
def fnExactEqualRow : OpenClaim := { program := "ybzabw", sum := "dcdde721e3cd252c0b8f9d0d66917d658a1125581a1ff9d519d363466bea0e3f", func := "loop.example/c036/laws.FnExactEqual", spec := "fnExactEqual", apart := false }
def FnExactEqualSaid : Prop := fnExactEqualRow.holds Yabo.pinned (OpenSpec.ofChange fnExactEqualSpec)

/-- ITS FALSE NEIGHBOUR: 'it returns false'. Refute it at one input. -/
def fnExactEqualWrong : ChangeSpec := { name := "fnExactEqual", fn := fun _ => fun
  | [d1, d2] => { results := [.lit (.bool false)], args := [d1, d2] }
  | _ => none }
def FnExactEqualWrongFalsely : Prop := fnExactEqualRow.holds Yabo.pinned (OpenSpec.ofChange fnExactEqualWrong)

/-- 'laws.FnExactAtoms': WHATEVER THE INPUT: true; the input reads as it did. -/
def fnExactAtomsSpec : ChangeSpec := { name := "fnExactAtoms", fn := fun _ => fun
  | [d] => { results := [.lit (.bool true)], args := [d] }
  | _ => none }
def fnExactAtomsRow : OpenClaim := { program := "ybzabw", sum := "dcdde721e3cd252c0b8f9d0d66917d658a1125581a1ff9d519d363466bea0e3f", func := "loop.example/c036/laws.FnExactAtoms", spec := "fnExactAtoms", recurses := true, apart := false }
def FnExactAtomsSaid : Prop := fnExactAtomsRow.holds Yabo.pinned (OpenSpec.ofChange fnExactAtomsSpec)

/-- ITS FALSE NEIGHBOUR: 'it returns false'. Refute it at one input. -/
def fnExactAtomsWrong : ChangeSpec := { name := "fnExactAtoms", fn := fun _ => fun
  | [d] => { results := [.lit (.bool false)], args := [d] }
  | _ => none }
def FnExactAtomsWrongFalsely : Prop := fnExactAtomsRow.holds Yabo.pinned (OpenSpec.ofChange fnExactAtomsWrong)

/-- 'laws.FnExactTruth': WHATEVER THE INPUT: true; the input reads as it did. -/
def fnExactTruthSpec : ChangeSpec := { name := "fnExactTruth", fn := fun _ => fun
  | [d1, d2, d3] => { results := [.lit (.bool true)], args := [d1, d2, d3] }
  | _ => none }
def fnExactTruthRow : OpenClaim := { program := "ybzabw", sum := "dcdde721e3cd252c0b8f9d0d66917d658a1125581a1ff9d519d363466bea0e3f", func := "loop.example/c036/laws.FnExactTruth", spec := "fnExactTruth", recurses := true, apart := false }
def FnExactTruthSaid : Prop := fnExactTruthRow.holds Yabo.pinned (OpenSpec.ofChange fnExactTruthSpec)

/-- ITS FALSE NEIGHBOUR: 'it returns false'. Refute it at one input. -/
def fnExactTruthWrong : ChangeSpec := { name := "fnExactTruth", fn := fun _ => fun
  | [d1, d2, d3] => { results := [.lit (.bool false)], args := [d1, d2, d3] }
  | _ => none }
def FnExactTruthWrongFalsely : Prop := fnExactTruthRow.holds Yabo.pinned (OpenSpec.ofChange fnExactTruthWrong)

/-- 'laws.FnExactSubst': WHATEVER THE INPUT: true; the input reads as it did. -/
def fnExactSubstSpec : ChangeSpec := { name := "fnExactSubst", fn := fun _ => fun
  | [d1, d2] => { results := [.lit (.bool true)], args := [d1, d2] }
  | _ => none }
def fnExactSubstRow : OpenClaim := { program := "ybzabw", sum := "dcdde721e3cd252c0b8f9d0d66917d658a1125581a1ff9d519d363466bea0e3f", func := "loop.example/c036/laws.FnExactSubst", spec := "fnExactSubst", recurses := true, apart := false }
def FnExactSubstSaid : Prop := fnExactSubstRow.holds Yabo.pinned (OpenSpec.ofChange fnExactSubstSpec)

/-- ITS FALSE NEIGHBOUR: 'it returns false'. Refute it at one input. -/
def fnExactSubstWrong : ChangeSpec := { name := "fnExactSubst", fn := fun _ => fun
  | [d1, d2] => { results := [.lit (.bool false)], args := [d1, d2] }
  | _ => none }
def FnExactSubstWrongFalsely : Prop := fnExactSubstRow.holds Yabo.pinned (OpenSpec.ofChange fnExactSubstWrong)

/-- 'laws.FnExactMatch': WHATEVER THE INPUT: true; the input reads as it did. -/
def fnExactMatchSpec : ChangeSpec := { name := "fnExactMatch", fn := fun _ => fun
  | [d1, d2, d3] => { results := [.lit (.bool true)], args := [d1, d2, d3] }
  | _ => none }
def fnExactMatchRow : OpenClaim := { program := "ybzabw", sum := "dcdde721e3cd252c0b8f9d0d66917d658a1125581a1ff9d519d363466bea0e3f", func := "loop.example/c036/laws.FnExactMatch", spec := "fnExactMatch", recurses := true, apart := false }
def FnExactMatchSaid : Prop := fnExactMatchRow.holds Yabo.pinned (OpenSpec.ofChange fnExactMatchSpec)

/-- ITS FALSE NEIGHBOUR: 'it returns false'. Refute it at one input. -/
def fnExactMatchWrong : ChangeSpec := { name := "fnExactMatch", fn := fun _ => fun
  | [d1, d2, d3] => { results := [.lit (.bool false)], args := [d1, d2, d3] }
  | _ => none }
def FnExactMatchWrongFalsely : Prop := fnExactMatchRow.holds Yabo.pinned (OpenSpec.ofChange fnExactMatchWrong)

end Rows
end Go.Proofs.Ybzabw
