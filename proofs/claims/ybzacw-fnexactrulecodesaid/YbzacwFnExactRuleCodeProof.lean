/-  The law 'FnExactRuleCode': the rule names and their codes.  -/
import Derived.Test.YbzacwRows
import Derived.WalkKit
import Derived.ProofKit
import Derived.OpenShut
import Derived.ShutString
namespace Go.Proofs.Ybzacw.fnExactRuleCode
open Go.ChangeShapes Go.WideShapes Go.ChangeAt Go.RowKit
open Go.ChangeMaps (open_string shut_string)
set_option linter.unusedVariables false

theorem own : ownKnob Yaco.prog.godebug = none := by kernel_rfl

/-- The name of rule c. -/
def rnl (c : Nat) : List UInt8 :=
  if c = 1 then [99, 111, 112, 121] else
  if c = 2 then [97, 110, 100, 105] else
  if c = 3 then [97, 110, 100, 101, 49] else
  if c = 4 then [97, 110, 100, 101, 50] else
  if c = 5 then [111, 114, 105, 49] else
  if c = 6 then [111, 114, 105, 50] else
  if c = 7 then [111, 114, 101] else
  if c = 8 then [105, 109, 112, 105] else
  if c = 9 then [105, 109, 112, 101] else
  if c = 10 then [110, 111, 116, 105] else
  if c = 11 then [110, 111, 116, 101] else
  if c = 12 then [98, 111, 116, 101] else
  if c = 13 then [114, 97, 97] else
  if c = 14 then [105, 102, 102, 105] else
  if c = 15 then [105, 102, 102, 101, 49] else
  if c = 16 then [105, 102, 102, 101, 50] else
  if c = 17 then [117, 115, 101] else
  []

/-- The code of a name. -/
def rcl (l : List UInt8) : Nat :=
  if l == [99, 111, 112, 121] then 1 else
  if l == [97, 110, 100, 105] then 2 else
  if l == [97, 110, 100, 101, 49] then 3 else
  if l == [97, 110, 100, 101, 50] then 4 else
  if l == [111, 114, 105, 49] then 5 else
  if l == [111, 114, 105, 50] then 6 else
  if l == [111, 114, 101] then 7 else
  if l == [105, 109, 112, 105] then 8 else
  if l == [105, 109, 112, 101] then 9 else
  if l == [110, 111, 116, 105] then 10 else
  if l == [110, 111, 116, 101] then 11 else
  if l == [98, 111, 116, 101] then 12 else
  if l == [114, 97, 97] then 13 else
  if l == [105, 102, 102, 105] then 14 else
  if l == [105, 102, 102, 101, 49] then 15 else
  if l == [105, 102, 102, 101, 50] then 16 else
  if l == [117, 115, 101] then 17 else
  0


set_option maxRecDepth 100000 in
theorem code_calls (s : ByteArray) (w : World) : Calls Yaco.prog 9 #[.string s] w fun e w' => e = .returned (.int .i64 (rcl s.toList)) ∧ w' = w := by
  go_enter Yaco.func9, Yaco.ntmps9
  go_wp2
  all_goals go_ret
  all_goals exact ⟨by simp [rcl, *], rfl⟩

set_option maxRecDepth 100000 in
theorem name_calls (c : Nat) (hc : 1 ≤ c ∧ c ≤ 17) (w : World) : Calls Yaco.prog 32 #[.int .i64 c] w fun e w' => e = .returned (.string ⟨(rnl c).toArray⟩) ∧ w' = w := by
  obtain ⟨h1, h2⟩ := hc
  have : c = 1 ∨ c = 2 ∨ c = 3 ∨ c = 4 ∨ c = 5 ∨ c = 6 ∨ c = 7 ∨ c = 8 ∨ c = 9 ∨ c = 10 ∨ c = 11 ∨ c = 12 ∨ c = 13 ∨ c = 14 ∨ c = 15 ∨ c = 16 ∨ c = 17 := by omega
  clear h1 h2
  rcases this with rfl | rfl | rfl | rfl | rfl | rfl | rfl | rfl | rfl | rfl | rfl | rfl | rfl | rfl | rfl | rfl | rfl
  all_goals
    go_enter Yaco.func32, Yaco.ntmps32
    go_wp2
    go_ret
    exact ⟨by simp [rnl], rfl⟩

theorem rc_rn (s : List UInt8) (k : Nat) (h : rnl k = s) (hk : 1 ≤ k ∧ k ≤ 17) : rcl s = k := by
  have : k = 1 ∨ k = 2 ∨ k = 3 ∨ k = 4 ∨ k = 5 ∨ k = 6 ∨ k = 7 ∨ k = 8 ∨ k = 9 ∨ k = 10 ∨ k = 11 ∨ k = 12 ∨ k = 13 ∨ k = 14 ∨ k = 15 ∨ k = 16 ∨ k = 17 := by omega
  subst h
  rcases this with rfl | rfl | rfl | rfl | rfl | rfl | rfl | rfl | rfl | rfl | rfl | rfl | rfl | rfl | rfl | rfl | rfl <;> decide +kernel

theorem rc_none (s : List UInt8) (h : ∀ k, 1 ≤ k → k ≤ 17 → rnl k ≠ s) : rcl s = 0 := by

  have h1 : (s == [99, 111, 112, 121]) = false := by simpa [rnl, beq_eq_false_iff_ne, ne_comm] using h 1 (by omega) (by omega)
  have h2 : (s == [97, 110, 100, 105]) = false := by simpa [rnl, beq_eq_false_iff_ne, ne_comm] using h 2 (by omega) (by omega)
  have h3 : (s == [97, 110, 100, 101, 49]) = false := by simpa [rnl, beq_eq_false_iff_ne, ne_comm] using h 3 (by omega) (by omega)
  have h4 : (s == [97, 110, 100, 101, 50]) = false := by simpa [rnl, beq_eq_false_iff_ne, ne_comm] using h 4 (by omega) (by omega)
  have h5 : (s == [111, 114, 105, 49]) = false := by simpa [rnl, beq_eq_false_iff_ne, ne_comm] using h 5 (by omega) (by omega)
  have h6 : (s == [111, 114, 105, 50]) = false := by simpa [rnl, beq_eq_false_iff_ne, ne_comm] using h 6 (by omega) (by omega)
  have h7 : (s == [111, 114, 101]) = false := by simpa [rnl, beq_eq_false_iff_ne, ne_comm] using h 7 (by omega) (by omega)
  have h8 : (s == [105, 109, 112, 105]) = false := by simpa [rnl, beq_eq_false_iff_ne, ne_comm] using h 8 (by omega) (by omega)
  have h9 : (s == [105, 109, 112, 101]) = false := by simpa [rnl, beq_eq_false_iff_ne, ne_comm] using h 9 (by omega) (by omega)
  have h10 : (s == [110, 111, 116, 105]) = false := by simpa [rnl, beq_eq_false_iff_ne, ne_comm] using h 10 (by omega) (by omega)
  have h11 : (s == [110, 111, 116, 101]) = false := by simpa [rnl, beq_eq_false_iff_ne, ne_comm] using h 11 (by omega) (by omega)
  have h12 : (s == [98, 111, 116, 101]) = false := by simpa [rnl, beq_eq_false_iff_ne, ne_comm] using h 12 (by omega) (by omega)
  have h13 : (s == [114, 97, 97]) = false := by simpa [rnl, beq_eq_false_iff_ne, ne_comm] using h 13 (by omega) (by omega)
  have h14 : (s == [105, 102, 102, 105]) = false := by simpa [rnl, beq_eq_false_iff_ne, ne_comm] using h 14 (by omega) (by omega)
  have h15 : (s == [105, 102, 102, 101, 49]) = false := by simpa [rnl, beq_eq_false_iff_ne, ne_comm] using h 15 (by omega) (by omega)
  have h16 : (s == [105, 102, 102, 101, 50]) = false := by simpa [rnl, beq_eq_false_iff_ne, ne_comm] using h 16 (by omega) (by omega)
  have h17 : (s == [117, 115, 101]) = false := by simpa [rnl, beq_eq_false_iff_ne, ne_comm] using h 17 (by omega) (by omega)
  simp only [rcl, h1, h2, h3, h4, h5, h6, h7, h8, h9, h10, h11, h12, h13, h14, h15, h16, h17, Bool.false_eq_true, if_false]


set_option maxRecDepth 100000 in
theorem model_calls (s : ByteArray) (w : World) : Calls Yaco.prog 8 #[.string s] w fun e w' => e = .returned (.int .i64 (rcl s.toList)) ∧ w' = w := by
  generalize hl : s.toList = l
  have HL : Hid (s.toList = l) := hl
  clear hl
  go_enter Yaco.func8, Yaco.ntmps8
  go_wp2
  go_loop [3] (fun c => ∃ k : Nat, 1 ≤ k ∧ k ≤ 18 ∧ c = .int .i64 k ∧ ∀ j, 1 ≤ j → j < k → rnl j ≠ l) (fun c => 18 - (intOf c).toNat)
  case atStart => exact ⟨1, by omega, by omega, rfl, fun j h1 h2 => by omega⟩
  case round =>
    obtain ⟨k, hk1, hk2, rfl, hno⟩ := hrel
    by_cases hlt : k ≤ 17
    · have HN : Hid (∀ j, 1 ≤ j → j < k → rnl j ≠ l) := hno
      clear hno
      generalize hr : rnl k = r
      have HR : Hid (rnl k = r) := hr
      by_cases he : r = l
      · have HC : Hid (rcl l = k) := rc_rn l k (hr.trans he) ⟨hk1, hlt⟩
        have hb : (r == s.toList) = true := by rw [HL.out]; simp [he]
        clear hr he
        go_wp2_with (go_at_call 32; refine (name_calls k ⟨hk1, hlt⟩ _).mono ?_; rintro e w' ⟨rfl, rfl⟩; rw [HR.out])
        go_ret
        exact ⟨by simp [HC.out], rfl⟩
      · clear hr
        have hb : (r == s.toList) = false := by rw [HL.out]; simp [he]
        go_wp2_with (go_at_call 32; refine (name_calls k ⟨hk1, hlt⟩ _).mono ?_; rintro e w' ⟨rfl, rfl⟩; rw [HR.out])
        go_round
        case rel =>
          refine ⟨k + 1, by omega, by omega, by go_num, fun j h1 h2 => ?_⟩
          by_cases hj : j = k
          · subst hj; rw [HR.out]; exact he
          · exact HN.out j h1 (by omega)
        case measure => simp [intOf]; omega
    · have HC : Hid (rcl l = 0) := rc_none l (fun j h1 h2 => hno j h1 (by omega))
      clear hno
      have : k = 18 := by omega
      subst this
      go_wp2
      go_ret
      exact ⟨by simp [HC.out], rfl⟩

theorem walk (a0 : ByteArray) (w0 : a0.size ≤ maxLen) (w : World) :
    Calls Yaco.prog 3 #[.string a0] w fun e w' => e = .returned (.bool true) ∧ Grown w w' := by
  unfold maxLen at w0
  by_cases hl : 1048576 < a0.size
  · go_enter Yaco.func3, Yaco.ntmps3
    go_wp2
    go_ret
    exact ⟨rfl, Grown.refl _⟩
  · go_enter Yaco.func3, Yaco.ntmps3
    generalize HR : rcl a0.toList = r
    have HR' : Hid (rcl a0.toList = r) := HR
    clear HR
    go_wp2_with (first
      | (go_at_call 8; refine (model_calls a0 _).mono ?_; rintro e w' ⟨rfl, rfl⟩; rw [HR'.out])
      | (go_at_call 9; refine (code_calls a0 _).mono ?_; rintro e w' ⟨rfl, rfl⟩; rw [HR'.out]))
    go_ret
    exact ⟨by simp, Grown.refl _⟩

/-! ### THE ROW's STEP: WRITTEN OUT: LEAVE IT -/
set_option maxRecDepth 100000 in
theorem lifted (os : Os) (started : os.Started) (H : Type) (enc : TypeId × Value → H) :
    ReturnsInHanded {} Yaco.checked os 3 .any (Rows.fnExactRuleCodeSpec.pre6 enc Yaco.prog Yaco.f3 Rows.fnExactRuleCodeRow.domain false) (Rows.fnExactRuleCodeSpec.post enc Yaco.prog Yaco.f3 false true false false) := by
  refine returnsInHanded_of_change (C := Yaco.checked) own started (by kernel_rfl) Yaco.func3
    (ChangeSpec.witness6 (enc := enc) (C := Yaco.checked) false ⟨#[], #[.string ByteArray.empty], []⟩ 8 (by kernel_rfl) (by kernel_rfl) (by kernel_rfl) (by kernel_rfl)) ?_
  intro W base args ds gs before hval0 hW hcnd _
  have hval : ∀ (j : Nat) t v, Yaco.f3.params[j]? = some t → args[j]? = some v → Value.okWide Yaco.prog W .any base t v := hval0
  have hW' := hW
  obtain ⟨p, q, hA0, hV, rfl, hfz, hnd⟩ := hW
  have hA : DataW.TrodAll enc Yaco.prog W 0 (fun _ => true) true Yaco.f3.params.toList args.toList ds p := hA0
  rw [Yaco.params3] at hA hval
  obtain ⟨v0, vs0, d0, ds0, p0, q0, hargs, rfl, rfl, h0, r0⟩ := trodAll_cons hA
  obtain ⟨rfl, rfl, rfl⟩ := trodAll_nil r0
  obtain rfl : args = #[v0] := by cases args; simp_all
  obtain ⟨rfl, rfl⟩ := trodVars_none hV
  obtain ⟨a0, rfl, rfl, rfl, w0⟩ := open_string Yaco.underlying9 (hval 0 9 v0 rfl rfl) h0
  clear hA0 hval0
  simp only [List.append_nil] at hW'
  refine (walk a0 w0 W).mono fun e W' ⟨he, hg⟩ => ?_
  subst he
  exact ⟨_, rfl, post_of_same (pa := []) (pv := []) hW' (fun _ _ _ => (trodAll_cons_mk (shut_bool Yaco.underlying4 _) trodAll_mk0)) (fun sp _ => (trodAll_cons_mk (shut_string Yaco.underlying9 w0) trodAll_mk0)) (fun _ _ => rfl) rfl
    (hg.frame _) hg.2.1 (ok_one (by kernel_rfl) rfl (okWide_bool_mk Yaco.underlying4 _))⟩

theorem over : Rows.fnExactRuleCodeRow.holds Yaco.pinned (OpenSpec.ofChange Rows.fnExactRuleCodeSpec) :=
  OpenClaim.holds_of_wide 3 Yaco.f3 rfl rfl rfl rfl rfl rfl rfl ⟨rfl, rfl, rfl, rfl, rfl⟩ rfl rfl rfl rfl rfl (by kernel_rfl) Yaco.func3 (by kernel_rfl)
    (of_decide_eq_true (by kernel_rfl)) (by unfold Func.isWrapper; first | (rw [if_pos (by decide +kernel)]; kernel_rfl) | (rw [if_neg (by decide +kernel)]; exact ⟨rfl, rfl⟩))
    (fun os started H enc _ => lifted os started H enc)

/-- ████ THE STATEMENT ████ -/
theorem proved : Rows.FnExactRuleCodeSaid :=
  over
end Go.Proofs.Ybzacw.fnExactRuleCode
