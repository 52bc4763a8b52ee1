/-  'Rows.FnExactParseTextSaid': the row's step is the kit's template; the walk is ours.  -/
import Derived.Test.YbzacwRows
import Derived.Test.YbzacwExText
import Derived.ProofKit
import Derived.OpenShut
import Derived.ShutString
namespace Go.Proofs.Ybzacw.fnExactParseText
open Go.ChangeShapes Go.WideShapes Go.ChangeAt Go.RowKit
open Go.ChangeMaps (open_string shut_string)
set_option linter.unusedVariables false      -- a walk need not use every 'w<i>' (that an integer argument fits its kind)

theorem own : ownKnob Yaco.prog.godebug = none := by kernel_rfl

theorem walk (a0 : ByteArray) (w0 : a0.size ≤ maxLen) (w : World) :
    Calls Yaco.prog 5 #[.string a0] w fun e w' => e = .returned (.bool true) ∧ Grown w w' := by
  have hk := (Go.Proofs.Ybzacw.exactText_ok a0 w (fun v w' => v = .bool true ∧ Grown w w') (fun w' hf => ⟨rfl, hf.grown⟩)).out
  exact hk.mono (fun e w' ⟨v, he, hv, hg⟩ => ⟨by rw [he, hv], hg⟩)

/-! ### THE ROW's STEP: WRITTEN OUT: LEAVE IT -/
set_option maxRecDepth 100000 in
theorem lifted (os : Os) (started : os.Started) (H : Type) (enc : TypeId × Value → H) :
    ReturnsInHanded {} Yaco.checked os 5 .any (Rows.fnExactParseTextSpec.pre6 enc Yaco.prog Yaco.f5 Rows.fnExactParseTextRow.domain false) (Rows.fnExactParseTextSpec.post enc Yaco.prog Yaco.f5 false true false false) := by
  refine returnsInHanded_of_change (C := Yaco.checked) own started (by kernel_rfl) Yaco.func5
    (ChangeSpec.witness6 (enc := enc) (C := Yaco.checked) false ⟨#[], #[.string ByteArray.empty], []⟩ 8 (by kernel_rfl) (by kernel_rfl) (by kernel_rfl) (by kernel_rfl)) ?_
  intro W base args ds gs before hval0 hW hcnd _
  have hval : ∀ (j : Nat) t v, Yaco.f5.params[j]? = some t → args[j]? = some v → Value.okWide Yaco.prog W .any base t v := hval0
  have hW' := hW
  obtain ⟨p, q, hA0, hV, rfl, hfz, hnd⟩ := hW
  have hA : DataW.TrodAll enc Yaco.prog W 0 (fun _ => true) true Yaco.f5.params.toList args.toList ds p := hA0
  rw [Yaco.params5] at hA hval
  obtain ⟨v0, vs0, d0, ds0, p0, q0, hargs, rfl, rfl, h0, r0⟩ := trodAll_cons hA
  obtain ⟨rfl, rfl, rfl⟩ := trodAll_nil r0
  obtain rfl : args = #[v0] := by cases args; simp_all
  obtain ⟨rfl, rfl⟩ := trodVars_none hV
  obtain ⟨a0, rfl, rfl, rfl, w0⟩ := open_string Yaco.underlying9 (hval 0 9 v0 rfl rfl) h0
  clear hA0 hval0
  simp only [List.append_nil] at hW'
  refine (walk a0 w0 W).mono fun e W' ⟨he, hg⟩ => ?_
  subst he
  exact ⟨_, rfl, post_of_same (pa := []) (pv := []) hW' (fun _ _ _ => (trodAll_cons_mk (shut_bool Yaco.underlying4 _) trodAll_mk0)) (fun sp _ => (trodAll_cons_mk (shut_string Yaco.underlying9 w0) trodAll_mk0)) (fun _ _ => rfl) rfl
    (hg.frame _) hg.2.1 (ok_one (by kernel_rfl) rfl (okWide_bool_mk Yaco.underlying4 _))⟩

theorem over : Rows.fnExactParseTextRow.holds Yaco.pinned (OpenSpec.ofChange Rows.fnExactParseTextSpec) :=
  OpenClaim.holds_of_wide 5 Yaco.f5 rfl rfl rfl rfl rfl rfl rfl ⟨rfl, rfl, rfl, rfl, rfl⟩ rfl rfl rfl rfl rfl (by kernel_rfl) Yaco.func5 (by kernel_rfl)
    (of_decide_eq_true (by kernel_rfl)) (by unfold Func.isWrapper; first | (rw [if_pos (by decide +kernel)]; kernel_rfl) | (rw [if_neg (by decide +kernel)]; exact ⟨rfl, rfl⟩))
    (fun os started H enc _ => lifted os started H enc)

/-- ████ THE STATEMENT ████ -/
theorem proved : Rows.FnExactParseTextSaid :=
  over
end Go.Proofs.Ybzacw.fnExactParseText
