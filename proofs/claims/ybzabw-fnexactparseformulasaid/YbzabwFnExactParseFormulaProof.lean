/-  'Rows.FnExactParseFormulaSaid': the row's step is the kit's template; the walk is ours.  -/
import Derived.Test.YbzabwRows
import Derived.Test.YbzabwExParse
import Derived.Test.YbzabwTkOpen
import Derived.ProofKit
import Derived.OpenShut
import Derived.ShutString
namespace Go.Proofs.Ybzabw.fnExactParseFormula
open Go.ChangeShapes Go.WideShapes Go.ChangeAt Go.RowKit Go.Wf
set_option linter.unusedVariables false

theorem own : ownKnob Yabo.prog.godebug = none := by kernel_rfl
theorem laidOut : laidOutB Yabo.prog = true := by kernel_rfl

theorem walk {W : World} {a : Option Addr} {n c : Nat} {xs : List Nd} (tA : NdH (allH W) a n xs) (hn : n ≤ maxLen) (hnm : ∀ i, (xs.getD i nd0).name.size ≤ maxLen) :
    Calls Yabo.prog 6 #[.slice a n c] W fun e w' => e = .returned (.bool true) ∧ Fr noB W w' := by
  have hk := (exactParse_ok (allH_HS W) (c := c) tA (by unfold maxLen at hn; omega) (fun i => by have := hnm i; unfold maxLen at this; omega) (fun v w' => v = .bool true ∧ Fr noB W w') (fun w' hf => ⟨rfl, hf⟩)).out
  exact hk.mono (fun e w' ⟨v, he, hv, hg⟩ => ⟨by rw [he, hv], hg⟩)

set_option maxRecDepth 100000 in
theorem lifted (os : Os) (started : os.Started) (H : Type) (enc : TypeId × Value → H) :
    ReturnsInHanded {} Yabo.checked os 6 .any (Rows.fnExactParseFormulaSpec.pre6 enc Yabo.prog Yabo.f6 Rows.fnExactParseFormulaRow.domain false) (Rows.fnExactParseFormulaSpec.post enc Yabo.prog Yabo.f6 false true false false) := by
  refine returnsInHanded_of_change (C := Yabo.checked) own started (by kernel_rfl) Yabo.func6
    (ChangeSpec.witness6 (enc := enc) (C := Yabo.checked) false ⟨#[], #[.slice none 0 0], []⟩ 8 (by kernel_rfl) (by kernel_rfl) (by kernel_rfl) (by kernel_rfl)) ?_
  intro W base args ds gs before hval0 hW hcnd _
  have hval : ∀ (j : Nat) t v, Yabo.f6.params[j]? = some t → args[j]? = some v → Value.okWide Yabo.prog W .any base t v := hval0
  have hW' := hW
  obtain ⟨p, q, hA0, hV, rfl, hfz, hnd⟩ := hW
  have hA : DataW.TrodAll enc Yabo.prog W 0 (fun _ => true) true Yabo.f6.params.toList args.toList ds p := hA0
  rw [Yabo.params6] at hA hval
  obtain ⟨v0, d0, rfl, rfl, h0⟩ := trodAll_one hA
  obtain ⟨rfl, rfl⟩ := trodVars_none hV
  clear hA0 hval0
  simp only [List.append_nil] at hW'
  have hlt0 : ∀ x ∈ p, x.block < W.heap.size := fun x hx => hW'.lt x hx
  obtain ⟨a, n, c, xs, rfl, tA, hn, hnm⟩ := open_toks (hval 0 43 v0 rfl rfl) h0
  refine (walk tA hn hnm).mono fun e W' ⟨he, hg⟩ => ?_
  subst he
  refine ⟨_, rfl, post_of_same (pa := p) (pv := []) hW' (fun _ _ _ => (trodAll_cons_mk (shut_bool Yabo.underlying4 _) trodAll_mk0)) (fun sp hsp => ?_) (fun _ _ => rfl) (by simp)
    (hg.grown.frame _) hg.fz (ok_one (by kernel_rfl) rfl (okWide_bool_mk Yabo.underlying4 _))⟩
  exact trodAll_mk1 (WideElems.Trod_stays laidOut (by kernel_rfl) (of_decide_eq_true (by kernel_rfl)) h0 (fun x hx => Fr.sameAt hg (hlt0 x hx)) (fun x hx => hsp x hx))

theorem over : Rows.fnExactParseFormulaRow.holds Yabo.pinned (OpenSpec.ofChange Rows.fnExactParseFormulaSpec) :=
  OpenClaim.holds_of_wide 6 Yabo.f6 rfl rfl rfl rfl rfl rfl rfl ⟨rfl, rfl, rfl, rfl, rfl⟩ rfl rfl rfl rfl rfl (by kernel_rfl) Yabo.func6 (by kernel_rfl)
    (of_decide_eq_true (by kernel_rfl)) (by unfold Func.isWrapper; first | (rw [if_pos (by decide +kernel)]; kernel_rfl) | (rw [if_neg (by decide +kernel)]; exact ⟨rfl, rfl⟩))
    (fun os started H enc _ => lifted os started H enc)

theorem proved : Rows.FnExactParseFormulaSaid :=
  over
end Go.Proofs.Ybzabw.fnExactParseFormula
