/-  'Rows.FnExactEqualSaid': the row's step is the kit's template; the walk is ours.  -/
import Derived.Test.YbzabwRows
import Derived.Test.YbzabwExEq
import Derived.Test.YbzabwNdOpen
import Derived.ProofKit
import Derived.OpenShut
import Derived.ShutString
namespace Go.Proofs.Ybzabw.fnExactEqual
open Go.ChangeShapes Go.WideShapes Go.ChangeAt Go.RowKit Go.Wf
set_option linter.unusedVariables false

theorem own : ownKnob Yabo.prog.godebug = none := by kernel_rfl
theorem laidOut : laidOutB Yabo.prog = true := by kernel_rfl

theorem walk {W : World} {a b : Option Addr} {n c m d : Nat} {xs ys : List Nd} (tA : NdH (allH W) a n xs) (tB : NdH (allH W) b m ys) (hn : n ≤ maxLen) (hm : m ≤ maxLen) :
    Calls Yabo.prog 10 #[.slice a n c, .slice b m d] W fun e w' => e = .returned (.bool true) ∧ Fr noB W w' := by
  have hk := (exactEqual_ok (allH_HS W) (c := c) (d := d) tA tB (by unfold maxLen at hn; omega) (by unfold maxLen at hm; omega) (fun v w' => v = .bool true ∧ Fr noB W w') (fun w' hf => ⟨rfl, hf⟩)).out
  exact hk.mono (fun e w' ⟨v, he, hv, hg⟩ => ⟨by rw [he, hv], hg⟩)

set_option maxRecDepth 100000 in
theorem lifted (os : Os) (started : os.Started) (H : Type) (enc : TypeId × Value → H) :
    ReturnsInHanded {} Yabo.checked os 10 .any (Rows.fnExactEqualSpec.pre6 enc Yabo.prog Yabo.f10 Rows.fnExactEqualRow.domain false) (Rows.fnExactEqualSpec.post enc Yabo.prog Yabo.f10 false true false false) := by
  refine returnsInHanded_of_change (C := Yabo.checked) own started (by kernel_rfl) Yabo.func10
    (ChangeSpec.witness6 (enc := enc) (C := Yabo.checked) false ⟨#[], #[.slice none 0 0, .slice none 0 0], []⟩ 8 (by kernel_rfl) (by kernel_rfl) (by kernel_rfl) (by kernel_rfl)) ?_
  intro W base args ds gs before hval0 hW hcnd _
  have hval : ∀ (j : Nat) t v, Yabo.f10.params[j]? = some t → args[j]? = some v → Value.okWide Yabo.prog W .any base t v := hval0
  have hW' := hW
  obtain ⟨p, q, hA0, hV, rfl, hfz, hnd⟩ := hW
  have hA : DataW.TrodAll enc Yabo.prog W 0 (fun _ => true) true Yabo.f10.params.toList args.toList ds p := hA0
  rw [Yabo.params10] at hA hval
  obtain ⟨v0, v1, d0, d1, p0, p1, rfl, rfl, rfl, h0, h1⟩ := trodAll_two hA
  obtain ⟨rfl, rfl⟩ := trodVars_none hV
  clear hA0 hval0
  simp only [List.append_nil] at hW'
  have hlt0 : ∀ x ∈ p0, x.block < W.heap.size := fun x hx => hW'.lt x (List.mem_append_left _ hx)
  have hlt1 : ∀ x ∈ p1, x.block < W.heap.size := fun x hx => hW'.lt x (List.mem_append_right _ hx)
  obtain ⟨a, n, c, xs, rfl, tA, hn⟩ := open_nodes (hval 0 28 v0 rfl rfl) h0
  obtain ⟨b, m, d, ys, rfl, tB, hm⟩ := open_nodes (hval 1 28 v1 rfl rfl) h1
  refine (walk tA tB hn hm).mono fun e W' ⟨he, hg⟩ => ?_
  subst he
  refine ⟨_, rfl, post_of_same (pa := p0 ++ p1) (pv := []) hW' (fun _ _ _ => (trodAll_cons_mk (shut_bool Yabo.underlying4 _) trodAll_mk0)) (fun sp hsp => ?_) (fun _ _ => rfl) (by simp)
    (hg.grown.frame _) hg.fz (ok_one (by kernel_rfl) rfl (okWide_bool_mk Yabo.underlying4 _))⟩
  exact trodAll_mk2 (WideElems.Trod_stays laidOut (by kernel_rfl) (of_decide_eq_true (by kernel_rfl)) h0 (fun x hx => Fr.sameAt hg (hlt0 x hx)) (fun x hx => hsp x (List.mem_append_left _ hx)))
    (WideElems.Trod_stays laidOut (by kernel_rfl) (of_decide_eq_true (by kernel_rfl)) h1 (fun x hx => Fr.sameAt hg (hlt1 x hx)) (fun x hx => hsp x (List.mem_append_right _ hx)))

theorem over : Rows.fnExactEqualRow.holds Yabo.pinned (OpenSpec.ofChange Rows.fnExactEqualSpec) :=
  OpenClaim.holds_of_wide 10 Yabo.f10 rfl rfl rfl rfl rfl rfl rfl ⟨rfl, rfl, rfl, rfl, rfl⟩ rfl rfl rfl rfl rfl (by kernel_rfl) Yabo.func10 (by kernel_rfl)
    (of_decide_eq_true (by kernel_rfl)) (by unfold Func.isWrapper; first | (rw [if_pos (by decide +kernel)]; kernel_rfl) | (rw [if_neg (by decide +kernel)]; exact ⟨rfl, rfl⟩))
    (fun os started H enc _ => lifted os started H enc)

theorem proved : Rows.FnExactEqualSaid :=
  over
end Go.Proofs.Ybzabw.fnExactEqual
