/-  'Rows.FnSubstTruthSaid': the row's step is the kit's template; the walk is ours.  -/
import Derived.Test.YbzaawRows
import Derived.Test.YbzaawSubstLaw
import Derived.Test.YbzaawStOpen
import Derived.ChangeOld
import Derived.ProofKit
import Derived.OpenShut
import Derived.ShutString
namespace Go.Proofs.Ybzaaw.fnSubstTruth
open Go.ChangeShapes Go.WideShapes Go.ChangeAt Go.RowKit Go.Wf Go.Deep
open Go.ChangeMaps (open_string shut_string)
set_option linter.unusedVariables false

theorem own : ownKnob Yaao.prog.godebug = none := by kernel_rfl
theorem laidOut : laidOutB Yaao.prog = true := by kernel_rfl

theorem walk {W : World} (f g x : ByteArray) {na va : Option Addr} {nn nc vn vc : Nat} {ss : List ByteArray} {vs : List Bool} (tS : StH (allH W) na nn ss) (tV : BoH (allH W) va vn vs) (hn : nn ≤ maxLen) (hv : vn ≤ maxLen) (hz : ∀ i, (ss.getD i emp).size ≤ maxLen) :
    Calls Yaao.prog 8 #[.string f, .string g, .string x, .slice na nn nc, .slice va vn vc] W fun e w' => e = .returned (.bool true) ∧ Fr noB W w' := by
  have hk := (substTruth_ok (allH_HS W) f g x (nc := nc) (vc := vc) tS tV (by unfold maxLen at hn; omega) (by unfold maxLen at hv; omega) (fun v w' => v = .bool true ∧ Fr noB W w') (fun w' hf => ⟨rfl, hf⟩)).out
  exact hk.mono (fun e w' ⟨v, he, hv, hg⟩ => ⟨by rw [he, hv], hg⟩)

set_option maxRecDepth 100000 in
theorem lifted (os : Os) (started : os.Started) (H : Type) (enc : TypeId × Value → H) :
    ReturnsInHanded {} Yaao.checked os 8 .any (Rows.fnSubstTruthSpec.pre6 enc Yaao.prog Yaao.f8 Rows.fnSubstTruthRow.domain false) (Rows.fnSubstTruthSpec.post enc Yaao.prog Yaao.f8 false true false false) := by
  refine returnsInHanded_of_change (C := Yaao.checked) own started (by kernel_rfl) Yaao.func8
    (ChangeSpec.witness6 (enc := enc) (C := Yaao.checked) false ⟨#[], #[.string ByteArray.empty, .string ByteArray.empty, .string ByteArray.empty, .slice none 0 0, .slice none 0 0], []⟩ 8 (by kernel_rfl) (by kernel_rfl) (by kernel_rfl) (by kernel_rfl)) ?_
  intro W base args ds gs before hval0 hW hcnd _
  have hval : ∀ (j : Nat) t v, Yaao.f8.params[j]? = some t → args[j]? = some v → Value.okWide Yaao.prog W .any base t v := hval0
  have hW' := hW
  obtain ⟨p, q, hA0, hV, rfl, hfz, hnd⟩ := hW
  have hA : DataW.TrodAll enc Yaao.prog W 0 (fun _ => true) true Yaao.f8.params.toList args.toList ds p := hA0
  rw [Yaao.params8] at hA hval
  obtain ⟨v0, vs0, d0, ds0, p0, q0, hargs, rfl, rfl, h0, r0⟩ := trodAll_cons hA
  obtain ⟨v1, vs1, d1, ds1, p1, q1, rfl, rfl, rfl, h1, r1⟩ := trodAll_cons r0
  obtain ⟨v2, vs2, d2, ds2, p2, q2, rfl, rfl, rfl, h2, r2⟩ := trodAll_cons r1
  obtain ⟨v3, vs3, d3, ds3, p3, q3, rfl, rfl, rfl, h3, r3⟩ := trodAll_cons r2
  obtain ⟨v4, vs4, d4, ds4, p4, q4, rfl, rfl, rfl, h4, r4⟩ := trodAll_cons r3
  obtain ⟨rfl, rfl, rfl⟩ := trodAll_nil r4
  obtain rfl : args = #[v0, v1, v2, v3, v4] := by cases args; simp_all
  obtain ⟨rfl, rfl⟩ := trodVars_none hV
  obtain ⟨a0, rfl, rfl, rfl, w0⟩ := open_string Yaao.underlying9 (hval 0 9 v0 rfl rfl) h0
  obtain ⟨a1, rfl, rfl, rfl, w1⟩ := open_string Yaao.underlying9 (hval 1 9 v1 rfl rfl) h1
  obtain ⟨a2, rfl, rfl, rfl, w2⟩ := open_string Yaao.underlying9 (hval 2 9 v2 rfl rfl) h2
  obtain ⟨na, nn, nc, ss, rfl, tS, hnn, hsz⟩ := open_strs (hval 3 42 v3 rfl rfl) h3
  obtain ⟨va, vn, vc, vs, rfl, tV, hvn⟩ := open_bos (hval 4 27 v4 rfl rfl) h4
  clear hA0 hval0
  simp only [List.append_nil, List.nil_append] at hW'
  have hlt : ∀ x ∈ p3 ++ p4, x.block < W.heap.size := fun x hx => hW'.lt x hx
  refine (walk a0 a1 a2 tS tV hnn hvn hsz).mono fun e W' ⟨he, hg⟩ => ?_
  subst he
  refine ⟨_, rfl, post_of_same (pa := p3 ++ p4) (pv := []) hW' (fun _ _ _ => (trodAll_cons_mk (shut_bool Yaao.underlying4 _) trodAll_mk0)) (fun sp hsp => ?_) (fun _ _ => rfl) (by simp)
    (hg.grown.frame _) hg.fz (ok_one (by kernel_rfl) rfl (okWide_bool_mk Yaao.underlying4 _))⟩
  have s3 := WideElems.Trod_stays laidOut (by kernel_rfl) (of_decide_eq_true (by kernel_rfl)) h3 (fun x hx => Fr.sameAt hg (hlt x (List.mem_append_left _ hx))) (fun x hx => hsp x (by simp; exact .inl hx))
  have s4 := WideElems.Trod_stays laidOut (by kernel_rfl) (of_decide_eq_true (by kernel_rfl)) h4 (fun x hx => Fr.sameAt hg (hlt x (List.mem_append_right _ hx))) (fun x hx => hsp x (by simp; exact .inr hx))
  have k2 := trodAll_mk2 s3 s4
  have k3 := trodAll_cons_mk (shut_string Yaao.underlying9 w2) k2
  have k4 := trodAll_cons_mk (shut_string Yaao.underlying9 w1) k3
  have k5 := trodAll_cons_mk (shut_string Yaao.underlying9 w0) k4
  exact k5

theorem over : Rows.fnSubstTruthRow.holds Yaao.pinned (OpenSpec.ofChange Rows.fnSubstTruthSpec) :=
  OpenClaim.holds_of_wide 8 Yaao.f8 rfl rfl rfl rfl rfl rfl rfl ⟨rfl, rfl, rfl, rfl, rfl⟩ rfl rfl rfl rfl rfl (by kernel_rfl) Yaao.func8 (by kernel_rfl)
    (of_decide_eq_true (by kernel_rfl)) (by unfold Func.isWrapper; first | (rw [if_pos (by decide +kernel)]; kernel_rfl) | (rw [if_neg (by decide +kernel)]; exact ⟨rfl, rfl⟩))
    (fun os started H enc _ => lifted os started H enc)

theorem proved : Rows.FnSubstTruthSaid :=
  over
end Go.Proofs.Ybzaaw.fnSubstTruth
