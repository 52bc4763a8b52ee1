/-  'Rows.FnExactJudgeSaid': the row's step is the kit's template; the walk is ours.  -/
import Derived.Test.YbzacwRows
import Derived.Test.YbzacwExJ
import Derived.Test.YbzacwLnOpen
import Derived.ProofKit
import Derived.OpenShut
import Derived.ShutString
namespace Go.Proofs.Ybzacw.fnExactJudge
open Go.ChangeShapes Go.WideShapes Go.ChangeAt Go.RowKit Go.Wf
set_option linter.unusedVariables false

theorem own : ownKnob Yaco.prog.godebug = none := by kernel_rfl
theorem laidOut : laidOutB Yaco.prog = true := by kernel_rfl

theorem walk {W : World} {a : Option Addr} {n c : Nat} {xs : List LnA} (tA : LsH (allH W) a n xs) (hn : n ≤ maxLen) (hx : ∀ x ∈ xs, x.ln.f.length ≤ maxLen ∧ x.ln.refs.length ≤ maxLen ∧ ∀ i, (x.ln.f.getD i nd0).name.size ≤ maxLen) :
    Calls Yaco.prog 6 #[.slice a n c] W fun e w' => e = .returned (.bool true) ∧ Fr noB W w' := by
  have hl := tA.len
  have hb : ∀ i, i < n → (xs.getD i la0).ln.f.length ≤ 9223372036854775807 ∧ (xs.getD i la0).ln.refs.length ≤ 9223372036854775807 := fun i hi => by
    have hi' : i < xs.length := by omega
    have e : xs.getD i la0 = xs[i] := by simp [hi']
    have := hx xs[i] (List.getElem_mem hi')
    unfold maxLen at this
    rw [e]; omega
  have hk := (exactJudge_ok (allH_HS W) (c := c) tA (by unfold maxLen at hn; omega) hb (fun x hm i => by have := (hx x hm).2.2 i; unfold maxLen at this; omega) (fun v w' => v = .bool true ∧ Fr noB W w') (fun w' hf => ⟨rfl, hf⟩)).out
  exact hk.mono (fun e w' ⟨v, he, hv, hg⟩ => ⟨by rw [he, hv], hg⟩)

set_option maxRecDepth 100000 in
theorem lifted (os : Os) (started : os.Started) (H : Type) (enc : TypeId × Value → H) :
    ReturnsInHanded {} Yaco.checked os 6 .any (Rows.fnExactJudgeSpec.pre6 enc Yaco.prog Yaco.f6 Rows.fnExactJudgeRow.domain false) (Rows.fnExactJudgeSpec.post enc Yaco.prog Yaco.f6 false true false false) := by
  refine returnsInHanded_of_change (C := Yaco.checked) own started (by kernel_rfl) Yaco.func6
    (ChangeSpec.witness6 (enc := enc) (C := Yaco.checked) false ⟨#[], #[.slice none 0 0], []⟩ 8 (by kernel_rfl) (by kernel_rfl) (by kernel_rfl) (by kernel_rfl)) ?_
  intro W base args ds gs before hval0 hW hcnd _
  have hval : ∀ (j : Nat) t v, Yaco.f6.params[j]? = some t → args[j]? = some v → Value.okWide Yaco.prog W .any base t v := hval0
  have hW' := hW
  obtain ⟨p, q, hA0, hV, rfl, hfz, hnd⟩ := hW
  have hA : DataW.TrodAll enc Yaco.prog W 0 (fun _ => true) true Yaco.f6.params.toList args.toList ds p := hA0
  rw [Yaco.params6] at hA hval
  obtain ⟨v0, d0, rfl, rfl, h0⟩ := trodAll_one hA
  obtain ⟨rfl, rfl⟩ := trodVars_none hV
  clear hA0 hval0
  simp only [List.append_nil] at hW'
  have hlt0 : ∀ x ∈ p, x.block < W.heap.size := fun x hx => hW'.lt x hx
  obtain ⟨a, n, c, xs, rfl, tA, hn, hnm⟩ := open_lines (hval 0 48 v0 rfl rfl) h0
  refine (walk tA hn hnm).mono fun e W' ⟨he, hg⟩ => ?_
  subst he
  refine ⟨_, rfl, post_of_same (pa := p) (pv := []) hW' (fun _ _ _ => (trodAll_cons_mk (shut_bool Yaco.underlying4 _) trodAll_mk0)) (fun sp hsp => ?_) (fun _ _ => rfl) (by simp)
    (hg.grown.frame _) hg.fz (ok_one (by kernel_rfl) rfl (okWide_bool_mk Yaco.underlying4 _))⟩
  exact trodAll_mk1 (WideElems.Trod_stays laidOut (by kernel_rfl) (of_decide_eq_true (by kernel_rfl)) h0 (fun x hx => Fr.sameAt hg (hlt0 x hx)) (fun x hx => hsp x hx))

theorem over : Rows.fnExactJudgeRow.holds Yaco.pinned (OpenSpec.ofChange Rows.fnExactJudgeSpec) :=
  OpenClaim.holds_of_wide 6 Yaco.f6 rfl rfl rfl rfl rfl rfl rfl ⟨rfl, rfl, rfl, rfl, rfl⟩ rfl rfl rfl rfl rfl (by kernel_rfl) Yaco.func6 (by kernel_rfl)
    (of_decide_eq_true (by kernel_rfl)) (by unfold Func.isWrapper; first | (rw [if_pos (by decide +kernel)]; kernel_rfl) | (rw [if_neg (by decide +kernel)]; exact ⟨rfl, rfl⟩))
    (fun os started H enc _ => lifted os started H enc)

theorem proved : Rows.FnExactJudgeSaid :=
  over
end Go.Proofs.Ybzacw.fnExactJudge
