/-  The walk's steps through the code.  -/
import Derived.Test.YbzaawGreatOps
namespace Go.Wf

theorem WRes_mono {P : Program} {d : Option Tmp} {ρ : Env} {K K' : Env → World → Prop} (h : ∀ ρ w, K ρ w → K' ρ w) {r : Result Next} (hh : WRes P d ρ K r) : WRes P d ρ K' r := by
  cases r with
  | halt x w => exact hh
  | ok n w =>
    cases n <;> simp only [WRes] at hh ⊢ <;> first
      | exact h _ _ hh
      | exact CallsV.mono hh fun _ _ hv => h _ _ hv
theorem WOps_mono {P : Program} {gs : List (Option Tmp)} {k k' : Env → World → Prop} (h : ∀ ρ w, k ρ w → k' ρ w) : ∀ (l : List Oper) (ρ : Env) (w : World), WOps P gs k l ρ w → WOps P gs k' l ρ w
  | [], _, _, hh => h _ _ hh
  | o :: l, ρ, w, hh => by
    simp only [WOps] at hh ⊢
    split
    · rename_i hw; rw [if_pos hw] at hh; exact WRes_mono (fun ρ w => WOps_mono h l ρ w) hh
    · rename_i hw; rw [if_neg hw] at hh; exact WOps_mono h l _ _ hh
theorem WOp_mono {P : Program} {ops : Array Oper} {i : Nat} {K K' : Env → World → Prop} (h : ∀ ρ w, K ρ w → K' ρ w) {ρ : Env} {w : World} (hh : WOp P ops i K ρ w) : WOp P ops i K' ρ w := by
  unfold WOp at hh ⊢
  split
  · rename_i ho; simp only [ho] at hh; exact h _ _ hh
  · rename_i o ho
    simp only [ho] at hh
    split
    · rename_i hw; rw [if_pos hw] at hh; exact WRes_mono h hh
    · rename_i hw; rw [if_neg hw] at hh; exact h _ _ hh
theorem WAny_mono {P : Program} {ops : Array Oper} {k k' : Env → World → Prop} (h : ∀ ρ w, k ρ w → k' ρ w) : ∀ (n : Nat) (l : Array Bool) (ρ : Env) (w : World), WAny P ops k n l ρ w → WAny P ops k' n l ρ w
  | 0, _, _, _, hh => ⟨hh.1, h _ _ hh.2⟩
  | n + 1, _, _, _, hh => ⟨fun e => h _ _ (hh.1 e), fun i hi => WOp_mono (fun ρ w => WAny_mono h n _ ρ w) (hh.2 i hi)⟩
theorem W_mono {P : Program} : ∀ (c : Code) {k k' : Exit → Env → World → Prop} (ρ : Env) (w : World), (∀ e ρ w, k e ρ w → k' e ρ w) → W P c k ρ w → W P c k' ρ w := by
  intro c
  induction c with
  | skip => intro k k' ρ w h hh; exact h _ _ _ hh
  | exit id => intro k k' ρ w h hh; exact h _ _ _ hh
  | ret => intro k k' ρ w h hh; exact h _ _ _ hh
  | region id ops draw =>
    intro k k' ρ w h hh
    cases draw with
    | false => exact WOps_mono (h _) _ _ _ hh
    | true => exact WAny_mono (h _) _ _ _ _ hh
  | seq a b iha ihb =>
    intro k k' ρ w h hh
    refine iha ρ w (fun e ρ w he => ?_) hh
    cases e <;> first | exact ihb _ _ h he | exact h _ _ _ he
  | cond c a b iha ihb =>
    intro k k' ρ w h hh
    obtain ⟨t, h0, h1, h2⟩ := hh
    exact ⟨t, h0, fun e => iha _ _ h (h1 e), fun e => ihb _ _ h (h2 e)⟩
  | block id c ih =>
    intro k k' ρ w h hh
    refine ih ρ w (fun e ρ w he => ?_) hh
    cases e <;> first
      | exact h _ _ _ he
      | (simp only [blockK] at he ⊢
         split
         · rename_i e; rw [if_pos e] at he; exact h _ _ _ he
         · rename_i e; rw [if_neg e] at he; exact h _ _ _ he)
  | loop c ih =>
    intro k k' ρ w h hh
    obtain ⟨I, μ, h0, hr⟩ := hh
    refine ⟨I, μ, h0, fun ρ w hi => ih ρ w (fun e ρ w he => ?_) (hr ρ w hi)⟩
    cases e <;> first | exact he | exact h _ _ _ he
  | rangeFunc => intro k k' ρ w _ hh; exact hh.elim
  | scope => intro k k' ρ w _ hh; exact hh.elim
  | label => intro k k' ρ w _ hh; exact hh.elim
  | goto => intro k k' ρ w _ hh; exact hh.elim
  | refuse => intro k k' ρ w _ hh; exact hh.elim

/-! Behind a structure, so that the code is not laid open where two of them do not match. -/
structure VO (P : Program) (gs : List (Option Tmp)) (k : Env → World → Prop) (l : List Oper) (ρ : Env) (w : World) : Prop where
  out : WOps P gs k l ρ w
structure VR (P : Program) (d : Option Tmp) (ρ : Env) (next : Env → World → Prop) (r : Result Next) : Prop where
  out : WRes P d ρ next r

section step
variable (P : Program) (gs : List (Option Tmp)) (k : Env → World → Prop)

theorem s_nil (ρ : Env) (w : World) : VO P gs k [] ρ w = k ρ w := propext ⟨fun h => h.out, fun h => ⟨h⟩⟩

theorem s_none (dst : Option Tmp) (op : Op) (ty : TypeId) (pos : String) (aft : Array Edge) (rest : List Oper) (ρ : Env) (w : World) :
    VO P gs k (⟨dst, op, ty, pos, aft, none⟩ :: rest) ρ w = VR P dst ρ (VO P gs k rest) (rop P ty op ρ w) := by
  have e : WOps P gs k (⟨dst, op, ty, pos, aft, none⟩ :: rest) ρ w = WRes P dst ρ (WOps P gs k rest) (rop P ty op ρ w) := by
    show WRes P dst ρ (WOps P gs k rest) _ = _
    rw [execOp_only (dst' := none) (pos' := "") (aft' := #[]) (g' := none)]
    rfl
  refine propext ⟨fun h => ⟨WRes_mono (fun _ _ h => ⟨h⟩) (e ▸ h.out)⟩, fun h => ⟨?_⟩⟩
  rw [e]
  exact WRes_mono (fun _ _ h => h.out) h.out

theorem s_some (dst : Option Tmp) (op : Op) (ty : TypeId) (pos : String) (aft : Array Edge) (g : Nat × Bool) (rest : List Oper) (ρ : Env) (w : World) :
    VO P gs k (⟨dst, op, ty, pos, aft, some g⟩ :: rest) ρ w =
      if wantE gs ρ (some g) = true then VR P dst ρ (VO P gs k rest) (rop P ty op ρ w) else VO P gs k rest (put ρ dst undef) w := by
  have e : WOps P gs k (⟨dst, op, ty, pos, aft, some g⟩ :: rest) ρ w =
      if wantE gs ρ (some g) = true then WRes P dst ρ (WOps P gs k rest) (rop P ty op ρ w) else WOps P gs k rest (put ρ dst undef) w := by
    show (if wantE gs ρ (some g) = true then WRes P dst ρ (WOps P gs k rest) _ else _) = _
    rw [execOp_only (dst' := none) (pos' := "") (aft' := #[]) (g' := none)]
    rfl
  by_cases hw : wantE gs ρ (some g) = true
  · rw [if_pos hw] at e ⊢
    refine propext ⟨fun h => ⟨WRes_mono (fun _ _ h => ⟨h⟩) (e ▸ h.out)⟩, fun h => ⟨?_⟩⟩
    rw [e]
    exact WRes_mono (fun _ _ h => h.out) h.out
  · rw [if_neg hw] at e ⊢
    exact propext ⟨fun h => ⟨e ▸ h.out⟩, fun h => ⟨by rw [e]; exact h.out⟩⟩
end step

section res
variable (P : Program) (d : Tmp) (ρ : Env) (next : Env → World → Prop) (w : World)
theorem r_value (v : Value) : VR P (some d) ρ next (.ok (.value v) w) = next (upd ρ d v) w := propext ⟨fun h => h.out, fun h => ⟨h⟩⟩
theorem r_valueN (v : Value) : VR P none ρ next (.ok (.value v) w) = next ρ w := propext ⟨fun h => h.out, fun h => ⟨h⟩⟩
theorem r_skip : VR P none ρ next (.ok .skip w) = next ρ w := propext ⟨fun h => h.out, fun h => ⟨h⟩⟩
theorem r_enter (f : FuncId) (args : Array Value) : VR P (some d) ρ next (.ok (.enter f args) w) = CallsV P f args w fun v w'' => next (upd ρ d v) w'' := propext ⟨fun h => h.out, fun h => ⟨h⟩⟩
end res

section
variable {P : Program} {k : Exit → Env → World → Prop} {ρ : Env} {w : World}

theorem W_seq {a b : Code} (h : ∀ K : Env → World → Prop, (∀ ρ w, VC P b k ρ w → K ρ w) → VC P a (thenK K k) ρ w) : VC P (.seq a b) k ρ w :=
  ⟨(h _ fun _ _ h => h.out).out⟩
/-- A cut between two statements: what holds there. -/
theorem W_cut {a b : Code} (I : Env → World → Prop) (h : VC P a (thenK I k) ρ w) (h2 : ∀ ρ w, I ρ w → VC P b k ρ w) : VC P (.seq a b) k ρ w := by
  refine ⟨W_mono a ρ w (fun e ρ w he => ?_) h.out⟩
  cases e <;> first | exact (h2 _ _ he).out | exact he
theorem W_region {id : Nat} {l : List Oper} (h : VO P (l.map Oper.dst) (k .normal) l ρ w) : VC P (.region id l.toArray false) k ρ w := by
  refine ⟨?_⟩
  show WOps P (l.toArray.toList.map (·.dst)) (k .normal) l.toArray.toList ρ w
  exact h.out
theorem W_cond {c : Operand} {a b : Code} {t : Bool} (hc : ev ρ c = .bool t) (ht : t = true → VC P a k ρ w) (hf : t = false → VC P b k ρ w) : VC P (.cond c a b) k ρ w :=
  ⟨⟨t, hc, fun e => (ht e).out, fun e => (hf e).out⟩⟩
theorem W_condT {c : Operand} {a b : Code} (hc : ev ρ c = .bool true) (h : VC P a k ρ w) : VC P (.cond c a b) k ρ w :=
  W_cond hc (fun _ => h) (fun e => by cases e)
theorem W_condF {c : Operand} {a b : Code} (hc : ev ρ c = .bool false) (h : VC P b k ρ w) : VC P (.cond c a b) k ρ w :=
  W_cond hc (fun e => by cases e) (fun _ => h)
theorem W_condD {c : Operand} {a b : Code} {p : Prop} [Decidable p] (hc : ev ρ c = .bool (decide p)) (ht : p → VC P a k ρ w) (hf : ¬ p → VC P b k ρ w) : VC P (.cond c a b) k ρ w :=
  W_cond hc (fun e => ht (of_decide_eq_true e)) (fun e => hf (of_decide_eq_false e))
theorem W_condN {c : Operand} {a b : Code} {p : Prop} [Decidable p] (hc : ev ρ c = .bool (!decide p)) (ht : ¬ p → VC P a k ρ w) (hf : p → VC P b k ρ w) : VC P (.cond c a b) k ρ w :=
  W_cond hc (fun e => ht (by simpa using e)) (fun e => hf (by simpa using e))
theorem W_block {id : Nat} {c : Code} (h : VC P c (blockK id k) ρ w) : VC P (.block id c) k ρ w := ⟨h.out⟩
theorem W_skip (h : k .normal ρ w) : VC P .skip k ρ w := ⟨h⟩
theorem W_exit {id : Nat} (h : k (.exit id) ρ w) : VC P (.exit id) k ρ w := ⟨h⟩
theorem W_ret (h : k .ret ρ w) : VC P .ret k ρ w := ⟨h⟩
theorem W_loop {c : Code} (I : Env → World → Prop) (μ : Env → World → Nat) (h0 : I ρ w)
    (hr : ∀ ρ w, I ρ w → VC P c (thenK (fun ρ' w' => I ρ' w' ∧ μ ρ' w' < μ ρ w) k) ρ w) : VC P (.loop c) k ρ w := ⟨⟨I, μ, h0, fun ρ w hi => (hr ρ w hi).out⟩⟩
end

/-- What closes a round. -/
structure Round (I : Env → World → Prop) (m : Env → World → Nat) (n : Nat) (L : Env → World → Prop) : Prop where
  fin : ∀ ρ' w', I ρ' w' → m ρ' w' < n → L ρ' w'
/-- The loop's rule, what the round owes behind a name. -/
theorem W_loopK {P : Program} {k : Exit → Env → World → Prop} {ρ : Env} {w : World} {c : Code} (I : Env → World → Prop) (m : Env → World → Nat) (h0 : I ρ w)
    (hr : ∀ ρ w, I ρ w → ∀ L : Env → World → Prop, Round I m (m ρ w) L → VC P c (thenK L k) ρ w) : VC P (.loop c) k ρ w :=
  W_loop I m h0 fun ρ w hi => hr ρ w hi _ ⟨fun _ _ h1 h2 => ⟨h1, h2⟩⟩
/-- The number in an int's slot. -/
def vint : Value → Int
  | .int _ n => n
  | _ => 0
theorem vint_int (k : IntKind) (n : Int) : vint (.int k n) = n := rfl

section
variable (K : Env → World → Prop) (k : Exit → Env → World → Prop) (ρ : Env) (w : World)
theorem t_normal : thenK K k .normal = K := rfl
theorem t_ret : thenK K k .ret = k .ret := rfl
theorem t_exit (i : Nat) : thenK K k (.exit i) = k (.exit i) := rfl
theorem b_normal (i : Nat) : blockK i k .normal = k .normal := rfl
theorem b_ret (i : Nat) : blockK i k .ret = k .ret := rfl
theorem b_exit (i : Nat) : blockK i k (.exit i) = k .normal := by funext ρ w; simp [blockK]
theorem b_exitN (i j : Nat) (h : j ≠ i) : blockK i k (.exit j) = k (.exit j) := by funext ρ w; simp [blockK, h]
end

section
variable {P : Program} {fn : Func} {R : Value → World → Prop} {ρ : Env} {w : World}
theorem ret1 {t : Tmp} (h : fn.results = #[.tmp t]) (hr : R (ρ t) w) : retK P fn R .ret ρ w :=
  ⟨ρ t, by simp [resultsE, h], hr⟩
theorem end1 {t : Tmp} (h : fn.results = #[.tmp t]) (hr : R (ρ t) w) : retK P fn R .normal ρ w :=
  ⟨ρ t, by simp [resultsE, h], hr⟩
theorem ret2 {t u : Tmp} (h : fn.results = #[.tmp t, .tmp u]) (hr : R (.tuple #[ρ t, ρ u]) w) : retK P fn R .ret ρ w :=
  ⟨.tuple #[ρ t, ρ u], by simp [resultsE, h], hr⟩
theorem end0 (h : fn.results = #[]) (hr : R (.tuple #[]) w) : retK P fn R .normal ρ w :=
  ⟨.tuple #[], by simp [resultsE, h], hr⟩
theorem ret0 (h : fn.results = #[]) (hr : R (.tuple #[]) w) : retK P fn R .ret ρ w :=
  ⟨.tuple #[], by simp [resultsE, h], hr⟩
end

theorem init1 (a : Value) : initEnv #[a] 0 = a := rfl
theorem init2a (a b : Value) : initEnv #[a, b] 0 = a := rfl
theorem init2b (a b : Value) : initEnv #[a, b] 1 = b := rfl
theorem init3a (a b c : Value) : initEnv #[a, b, c] 0 = a := rfl
theorem init3b (a b c : Value) : initEnv #[a, b, c] 1 = b := rfl
theorem init3c (a b c : Value) : initEnv #[a, b, c] 2 = c := rfl

section
variable (gs : List (Option Tmp)) (ρ : Env)
theorem want_some (j : Nat) (t : Bool) : wantE gs ρ (some (j, t)) = (match (gs[j]?).join with | some d => (match ρ d with | .bool b => b == t | _ => false) | none => false) := rfl
end

theorem upd_self (ρ : Env) (d : Nat) (v : Value) (h : ρ d = v) : upd ρ d v = ρ := by
  funext j; unfold upd; split
  · rename_i e; rw [e, h]
  · rfl
section
variable {P : Program} {gs : List (Option Tmp)} {k : Env → World → Prop} {rest : List Oper} {ρ : Env} {w : World} {dst : Option Tmp} {op : Op} {ty : TypeId} {pos : String} {aft : Array Edge} {j d : Nat} {want : Bool}
theorem s_someT (g : Nat × Bool) (h : wantE gs ρ (some g) = true) : VO P gs k (⟨dst, op, ty, pos, aft, some g⟩ :: rest) ρ w = VR P dst ρ (VO P gs k rest) (rop P ty op ρ w) := by
  rw [s_some, if_pos h]
theorem s_someF (g : Nat × Bool) (h : wantE gs ρ (some g) = false) : VO P gs k (⟨dst, op, ty, pos, aft, some g⟩ :: rest) ρ w = VO P gs k rest (put ρ dst undef) w := by
  rw [s_some, if_neg (by rw [h]; simp)]
/-- At a guard whose test is not yet decided. -/
theorem G_split {b : Bool} (_ : (gs[j]?).join = some d) (hb : ρ d = .bool b) (ht : b = true → VO P gs k (⟨dst, op, ty, pos, aft, some (j, want)⟩ :: rest) (upd ρ d (.bool true)) w)
    (hf : b = false → VO P gs k (⟨dst, op, ty, pos, aft, some (j, want)⟩ :: rest) (upd ρ d (.bool false)) w) : VO P gs k (⟨dst, op, ty, pos, aft, some (j, want)⟩ :: rest) ρ w := by
  cases b
  · have := hf rfl; rwa [upd_self ρ d _ hb] at this
  · have := ht rfl; rwa [upd_self ρ d _ hb] at this
theorem G_splitD {p : Prop} [Decidable p] (hg : (gs[j]?).join = some d) (hb : ρ d = .bool (decide p)) (ht : p → VO P gs k (⟨dst, op, ty, pos, aft, some (j, want)⟩ :: rest) (upd ρ d (.bool true)) w)
    (hf : ¬ p → VO P gs k (⟨dst, op, ty, pos, aft, some (j, want)⟩ :: rest) (upd ρ d (.bool false)) w) : VO P gs k (⟨dst, op, ty, pos, aft, some (j, want)⟩ :: rest) ρ w :=
  G_split hg hb (fun e => ht (of_decide_eq_true e)) (fun e => hf (of_decide_eq_false e))
theorem G_splitN {p : Prop} [Decidable p] (hg : (gs[j]?).join = some d) (hb : ρ d = .bool (!decide p)) (ht : ¬ p → VO P gs k (⟨dst, op, ty, pos, aft, some (j, want)⟩ :: rest) (upd ρ d (.bool true)) w)
    (hf : p → VO P gs k (⟨dst, op, ty, pos, aft, some (j, want)⟩ :: rest) (upd ρ d (.bool false)) w) : VO P gs k (⟨dst, op, ty, pos, aft, some (j, want)⟩ :: rest) ρ w :=
  G_split hg hb (fun e => ht (by simpa using e)) (fun e => hf (by simpa using e))
end
theorem upd_app (ρ : Env) (i j : Nat) (v : Value) : upd ρ i v j = if j = i then v else ρ j := rfl
theorem e_bt (b : Bool) : (b == true) = b := by cases b <;> rfl
theorem e_bf (b : Bool) : (b == false) = !b := by cases b <;> rfl

section
variable {R : Value → World → Prop} {w : World}
theorem rB {a b : Bool} (h : R (.bool b) w) (e : a = b) : R (.bool a) w := e ▸ h
theorem rI {k : IntKind} {a b : Int} (h : R (.int k b) w) (e : a = b) : R (.int k a) w := e ▸ h
theorem rS {a b : ByteArray} (h : R (.string b) w) (e : a = b) : R (.string a) w := e ▸ h
theorem rV {a b : Value} (h : R b w) (e : a = b) : R a w := e ▸ h
end
theorem iEq {k : IntKind} {a b : Int} (h : a = b) : Value.int k a = .int k b := by rw [h]
theorem tn1 (i : Nat) : ((i : Int) + 1).toNat = i + 1 := by omega
theorem tn2 (i : Nat) : ((i : Int) + 2).toNat = i + 2 := by omega
theorem tn3 (i : Nat) : ((i : Int) + 3).toNat = i + 3 := by omega
/-- int's sums do not wrap here. -/
theorem wrapS {x : Int} (h1 : -9223372036854775808 ≤ x) (h2 : x < 9223372036854775808) : IntKind.i64.wrap x = x := by
  unfold IntKind.wrap
  have e1 : (2 ^ IntKind.i64.bits : Int) = 18446744073709551616 := rfl
  have e2 : (2 ^ (IntKind.i64.bits - 1) : Int) = 9223372036854775808 := rfl
  have e3 : IntKind.i64.signed = true := rfl
  rw [e1, e2, e3]
  by_cases h : 0 ≤ x
  · have : x % 18446744073709551616 = x := Int.emod_eq_of_lt h (by omega)
    simp only [this]
    rw [if_neg (by simp; omega)]
  · have : x % 18446744073709551616 = x + 18446744073709551616 := by omega
    simp only [this]
    rw [if_pos (by simp; omega)]
    omega
theorem wrapU {x : Int} (h1 : 0 ≤ x) (h2 : x < 18446744073709551616) : IntKind.u64.wrap x = x := by
  unfold IntKind.wrap
  have e1 : (2 ^ IntKind.u64.bits : Int) = 18446744073709551616 := rfl
  have e3 : IntKind.u64.signed = false := rfl
  rw [e1, e3]
  simp only [Bool.false_and, Bool.false_eq_true, if_false]
  exact Int.emod_eq_of_lt h1 h2
theorem wrapB {x : Int} (h1 : 0 ≤ x) (h2 : x < 256) : IntKind.u8.wrap x = x := by
  unfold IntKind.wrap
  have e1 : (2 ^ IntKind.u8.bits : Int) = 256 := rfl
  have e3 : IntKind.u8.signed = false := rfl
  rw [e1, e3]
  simp only [Bool.false_and, Bool.false_eq_true, if_false]
  exact Int.emod_eq_of_lt h1 h2

end Go.Wf
