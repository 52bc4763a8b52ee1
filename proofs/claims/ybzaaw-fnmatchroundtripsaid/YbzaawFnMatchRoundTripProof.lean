/-  'Rows.FnMatchRoundTripSaid': the row's step is the kit's template; the walk is ours.  -/
import Derived.Test.YbzaawRows
import Derived.Test.YbzaawMatchRT
import Derived.Test.YbzaawStOpen
import Derived.ChangeOld
import Derived.ProofKit
import Derived.OpenShut
import Derived.ShutString
namespace Go.Proofs.Ybzaaw.fnMatchRoundTrip
open Go.ChangeShapes Go.WideShapes Go.ChangeAt Go.RowKit Go.Wf Go.Deep
open Go.ChangeMaps (open_string shut_string)
set_option linter.unusedVariables false

theorem own : ownKnob Yaao.prog.godebug = none := by kernel_rfl
theorem laidOut : laidOutB Yaao.prog = true := by kernel_rfl

theorem walk {W : World} (f : ByteArray) {na : Option Addr} {nn nc : Nat} {ss : List ByteArray} (tS : StH (allH W) na nn ss) (hn : nn ≤ maxLen) :
    Calls Yaao.prog 9 #[.string f, .slice na nn nc] W fun e w' => e = .returned (.bool true) ∧ Fr noB W w' := by
  have hk := (matchRT_ok (allH_HS W) f (nc := nc) tS (by unfold maxLen at hn; omega) (fun v w' => v = .bool true ∧ Fr noB W w') (fun w' hf => ⟨rfl, hf⟩)).out
  exact hk.mono (fun e w' ⟨v, he, hv, hg⟩ => ⟨by rw [he, hv], hg⟩)

set_option maxRecDepth 100000 in
theorem lifted (os : Os) (started : os.Started) (H : Type) (enc : TypeId × Value → H) :
    ReturnsInHanded {} Yaao.checked os 9 .any (Rows.fnMatchRoundTripSpec.pre6 enc Yaao.prog Yaao.f9 Rows.fnMatchRoundTripRow.domain false) (Rows.fnMatchRoundTripSpec.post enc Yaao.prog Yaao.f9 false true false false) := by
  refine returnsInHanded_of_change (C := Yaao.checked) own started (by kernel_rfl) Yaao.func9
    (ChangeSpec.witness6 (enc := enc) (C := Yaao.checked) false ⟨#[], #[.string ByteArray.empty, .slice none 0 0], []⟩ 8 (by kernel_rfl) (by kernel_rfl) (by kernel_rfl) (by kernel_rfl)) ?_
  intro W base args ds gs before hval0 hW hcnd _
  have hval : ∀ (j : Nat) t v, Yaao.f9.params[j]? = some t → args[j]? = some v → Value.okWide Yaao.prog W .any base t v := hval0
  have hW' := hW
  obtain ⟨p, q, hA0, hV, rfl, hfz, hnd⟩ := hW
  have hA : DataW.TrodAll enc Yaao.prog W 0 (fun _ => true) true Yaao.f9.params.toList args.toList ds p := hA0
  rw [Yaao.params9] at hA hval
  obtain ⟨v0, vs0, d0, ds0, p0, q0, hargs, rfl, rfl, h0, r0⟩ := trodAll_cons hA
  obtain ⟨v1, vs1, d1, ds1, p1, q1, rfl, rfl, rfl, h1, r1⟩ := trodAll_cons r0
  obtain ⟨rfl, rfl, rfl⟩ := trodAll_nil r1
  obtain rfl : args = #[v0, v1] := by cases args; simp_all
  obtain ⟨rfl, rfl⟩ := trodVars_none hV
  obtain ⟨a0, rfl, rfl, rfl, w0⟩ := open_string Yaao.underlying9 (hval 0 9 v0 rfl rfl) h0
  obtain ⟨na, nn, nc, ss, rfl, tS, hnn, _⟩ := open_strs (hval 1 42 v1 rfl rfl) h1
  clear hA0 hval0
  simp only [List.append_nil, List.nil_append] at hW'
  have hlt : ∀ x ∈ p1, x.block < W.heap.size := fun x hx => hW'.lt x hx
  refine (walk a0 tS hnn).mono fun e W' ⟨he, hg⟩ => ?_
  subst he
  refine ⟨_, rfl, post_of_same (pa := p1) (pv := []) hW' (fun _ _ _ => (trodAll_cons_mk (shut_bool Yaao.underlying4 _) trodAll_mk0)) (fun sp hsp => ?_) (fun _ _ => rfl) (by simp)
    (hg.grown.frame _) hg.fz (ok_one (by kernel_rfl) rfl (okWide_bool_mk Yaao.underlying4 _))⟩
  have s1 := WideElems.Trod_stays laidOut (by kernel_rfl) (of_decide_eq_true (by kernel_rfl)) h1 (fun x hx => Fr.sameAt hg (hlt x hx)) (fun x hx => hsp x hx)
  have k1 := trodAll_mk1 s1
  have k2 := trodAll_cons_mk (shut_string Yaao.underlying9 w0) k1
  exact k2

theorem over : Rows.fnMatchRoundTripRow.holds Yaao.pinned (OpenSpec.ofChange Rows.fnMatchRoundTripSpec) :=
  OpenClaim.holds_of_wide 9 Yaao.f9 rfl rfl rfl rfl rfl rfl rfl ⟨rfl, rfl, rfl, rfl, rfl⟩ rfl rfl rfl rfl rfl (by kernel_rfl) Yaao.func9 (by kernel_rfl)
    (of_decide_eq_true (by kernel_rfl)) (by unfold Func.isWrapper; first | (rw [if_pos (by decide +kernel)]; kernel_rfl) | (rw [if_neg (by decide +kernel)]; exact ⟨rfl, rfl⟩))
    (fun os started H enc _ => lifted os started H enc)

theorem proved : Rows.FnMatchRoundTripSaid :=
  over
end Go.Proofs.Ybzaaw.fnMatchRoundTrip
