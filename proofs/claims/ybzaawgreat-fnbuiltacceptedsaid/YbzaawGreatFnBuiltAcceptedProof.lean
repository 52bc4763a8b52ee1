/-  'Rows.FnBuiltAcceptedSaid': the row's step is the kit's template; the walk is ours.  -/
import Derived.Test.YbzaawGreatRows
import Derived.Test.YbzaawGreatBLaw
import Derived.Deep.Slices
import Derived.WideKeyArgs
import Derived.ChangeOld
import Derived.ProofKit
import Derived.OpenShut
import Derived.ShutString
namespace Go.Proofs.YbzaawGreat.fnBuiltAccepted
open Go.ChangeShapes Go.WideShapes Go.ChangeAt Go.RowKit Go.Wf Go.Deep
set_option linter.unusedVariables false

theorem own : ownKnob Yaao.prog.godebug = none := by kernel_rfl
theorem laidOut : laidOutB Yaao.prog = true := by kernel_rfl

theorem Fr.sameAt {W W' : World} (h : Fr noB W W') {p : MemPlace} (hp : p.block < W.heap.size) : W.sameAt W' p := by
  cases p with
  | cell b o => exact World.cell?_of_block (w := W) (h.block b hp (fun e => e))
  | map b => exact h.block b hp (fun e => e)
theorem spot_none {W : World} {a : Addr} {v : Value} (h : W.cell? a = some v) : a = ⟨a.block, a.off, none⟩ := by
  obtain ⟨b, o, s⟩ := a
  cases s with
  | none => rfl
  | some x => exfalso; unfold World.cell? at h; simp at h; split at h <;> simp at h
/-- The bytes of an argument. -/
theorem open_bytes {W : World} {x : Addr} {len cap : Nat} {zs : List Int} (hl : len ≤ cap) (hz : zs.length = cap) (hcell : ∀ i, i < zs.length → W.cell? (x.add i) = some (.int .u8 (zs.getD i 0))) (hw : ∀ n ∈ zs, (Lit.int .u8 n).wf = true) : ∃ l, BcH (allH W) (some x) len l := by
  refine ⟨(zs.take len).map fun n => UInt8.ofNat n.toNat, ⟨by simp; omega, by simp [bc_len]; omega, ?_, ?_⟩⟩
  · by_cases h0 : len = 0
    · exact .inl h0
    · have := spot_none (hcell 0 (by omega))
      simp [Addr.add] at this
      exact .inr (by rw [this]; rfl)
  · intro j v hv
    have hj : j < len := by have := (List.getElem?_eq_some_iff.1 hv).1; simp [bc] at this; omega
    have hjz : j < zs.length := by omega
    have hm : zs.getD j 0 ∈ zs := by rw [show zs.getD j 0 = zs[j] from by simp [List.getD, hjz]]; exact List.getElem_mem _
    have hb := hw _ hm
    have hgd : zs.getD j 0 = zs[j] := by simp [List.getD, hjz]
    rw [hgd] at hb
    simp [Lit.wf, IntKind.min, IntKind.max, IntKind.bits, IntKind.signed] at hb
    have hv2 : v = .int .u8 (zs.getD j 0) := by
      rw [hgd]
      simp [bc, hj, List.getElem?_eq_getElem hjz] at hv
      rw [← hv]
      congr 1
      have : zs[j].toNat < 256 := by omega
      omega
    have hc := hcell j hjz
    have e : x = ⟨x.block, x.off, none⟩ := by have := spot_none (hcell 0 (by omega)); simpa [Addr.add] using this
    have : x.add j = ⟨x.block, x.off + j, none⟩ := by
      unfold Addr.add
      by_cases hj0 : j = 0
      · rw [if_pos hj0, hj0]; exact e
      · rw [if_neg hj0]
    rw [this] at hc
    rw [hv2]; exact hc

theorem walk {W : World} {a : Option Addr} {n c : Nat} {l : List UInt8} (tA : BcH (allH W) a n l) (hn : n ≤ maxLen) :
    Calls Yaao.prog 4 #[.slice a n c] W fun e w' => e = .returned (.bool true) ∧ Fr noB W w' := by
  have hk := (builtAccepted_ok (allH_HS W) (cc := c) tA (fun v w' => v = .bool true ∧ Fr noB W w') (fun w' hf => ⟨rfl, hf⟩)).out
  exact hk.mono (fun e w' ⟨v, he, hv, hg⟩ => ⟨by rw [he, hv], hg⟩)

set_option maxRecDepth 100000 in
theorem lifted (os : Os) (started : os.Started) (H : Type) (enc : TypeId × Value → H) :
    ReturnsInHanded {} Yaao.checked os 4 .any (Rows.fnBuiltAcceptedSpec.pre6 enc Yaao.prog Yaao.f4 Rows.fnBuiltAcceptedRow.domain false) (Rows.fnBuiltAcceptedSpec.post enc Yaao.prog Yaao.f4 false true false false) := by
  refine returnsInHanded_of_change (C := Yaao.checked) own started (by kernel_rfl) Yaao.func4
    (ChangeSpec.witness6 (enc := enc) (C := Yaao.checked) false ⟨#[], #[.slice none 0 0], []⟩ 8 (by kernel_rfl) (by kernel_rfl) (by kernel_rfl) (by kernel_rfl)) ?_
  intro W base args ds gs before hval0 hW hcnd _
  have hval : ∀ (j : Nat) t v, Yaao.f4.params[j]? = some t → args[j]? = some v → Value.okWide Yaao.prog W .any base t v := hval0
  have hW' := hW
  obtain ⟨p, q, hA0, hV, rfl, hfz, hnd⟩ := hW
  have hA : DataW.TrodAll enc Yaao.prog W 0 (fun _ => true) true Yaao.f4.params.toList args.toList ds p := hA0
  rw [Yaao.params4] at hA hval
  obtain ⟨v0, d0, rfl, rfl, h0⟩ := trodAll_one hA
  obtain ⟨rfl, rfl⟩ := trodVars_none hV
  clear hA0 hval0
  simp only [List.append_nil] at hW'
  have hlt0 : ∀ x ∈ p, x.block < W.heap.size := fun x hx => hW'.lt x hx
  obtain ⟨a, n, c, rfl⟩ := okWide_slice Yaao.underlying39 (hval 0 39 v0 rfl rfl)
  obtain ⟨l, tA, hn⟩ : ∃ l, BcH (allH W) a n l ∧ n ≤ maxLen := by
    obtain ⟨fuel, hf⟩ := h0
    rcases open_ints Yaao.underlying39 Yaao.underlying5 (by kernel_rfl) hf with ⟨hcs, _⟩ | ⟨x, l, c, zs, hcs, _, hl, hm, hz, _, hcell, hwz⟩
    · simp [Value.cells] at hcs
      obtain ⟨rfl, rfl, rfl⟩ := hcs
      exact ⟨[], ⟨rfl, SlH.nil _ _ _⟩, Nat.zero_le _⟩
    · simp [Value.cells] at hcs
      obtain ⟨rfl, rfl, rfl⟩ := hcs
      obtain ⟨l, hl2⟩ := open_bytes hl (by simpa using hz) hcell hwz
      exact ⟨l, hl2, Nat.le_trans hl hm⟩
  refine (walk tA hn).mono fun e W' ⟨he, hg⟩ => ?_
  subst he
  refine ⟨_, rfl, post_of_same (pa := p) (pv := []) hW' (fun _ _ _ => (trodAll_cons_mk (shut_bool Yaao.underlying4 _) trodAll_mk0)) (fun sp hsp => ?_) (fun _ _ => rfl) (by simp)
    (hg.grown.frame _) hg.fz (ok_one (by kernel_rfl) rfl (okWide_bool_mk Yaao.underlying4 _))⟩
  exact trodAll_mk1 (WideElems.Trod_stays laidOut (by kernel_rfl) (of_decide_eq_true (by kernel_rfl)) h0 (fun x hx => Fr.sameAt hg (hlt0 x hx)) (fun x hx => hsp x hx))

theorem over : Rows.fnBuiltAcceptedRow.holds Yaao.pinned (OpenSpec.ofChange Rows.fnBuiltAcceptedSpec) :=
  OpenClaim.holds_of_wide 4 Yaao.f4 rfl rfl rfl rfl rfl rfl rfl ⟨rfl, rfl, rfl, rfl, rfl⟩ rfl rfl rfl rfl rfl (by kernel_rfl) Yaao.func4 (by kernel_rfl)
    (of_decide_eq_true (by kernel_rfl)) (by unfold Func.isWrapper; first | (rw [if_pos (by decide +kernel)]; kernel_rfl) | (rw [if_neg (by decide +kernel)]; exact ⟨rfl, rfl⟩))
    (fun os started H enc _ => lifted os started H enc)

theorem proved : Rows.FnBuiltAcceptedSaid :=
  over
end Go.Proofs.YbzaawGreat.fnBuiltAccepted
