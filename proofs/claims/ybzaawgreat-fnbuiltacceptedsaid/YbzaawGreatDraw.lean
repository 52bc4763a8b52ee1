/-  Regions that draw their order: one walk in the text's order serves every order, if what only reads finds the same in every world of a class that the other operations keep.  -/
import Derived.Test.YbzaawGreatApp
import Derived.Still
namespace Go.Wf

/-- Operations that only read. -/
def isQ : Op → Bool
  | .move _ | .assign _ | .pick .. | .load .. | .binOp .. | .unOp .. | .convert .. | .fieldAddr .. | .indexAddr .. | .index .. | .nilCheck _ | .extract .. | .slice .. | .build .. => true
  | .call { callee := .builtin .len, .. } => true
  | _ => false

section
variable (P : Program) (C : World → Prop) (gs : List (Option Tmp))
/-- One operation, in a class of worlds. -/
def CO (last : Prop) (o : Oper) (K : Env → World → Prop) (ρ : Env) (w : World) : Prop :=
  if wantE gs ρ o.guard = true then
    (if isQ o.op = true then ∃ v, (∀ w', C w' → rop P o.type o.op ρ w' = .ok (.value v) w') ∧ K (put ρ o.dst v) w
     else WRes P o.dst ρ (fun ρ' w' => (C w' ∨ last) ∧ K ρ' w') (rop P o.type o.op ρ w))
  else K (put ρ o.dst undef) w
def WD (k : Env → World → Prop) : List Oper → Env → World → Prop
  | [], ρ, w => k ρ w
  | o :: rest, ρ, w => CO P C gs (rest = []) o (WD k rest) ρ w
end

section
variable {P : Program} {C : World → Prop} {ops : Array Oper}

def gsOf (ops : Array Oper) : List (Option Tmp) := ops.toList.map (·.dst)
def COp (P : Program) (C : World → Prop) (ops : Array Oper) (i : Nat) (K : Env → World → Prop) (ρ : Env) (w : World) : Prop :=
  match ops[i]? with
  | none => K ρ w
  | some o => CO P C (gsOf ops) (i + 1 = ops.size) o K ρ w
def WCAny (P : Program) (C : World → Prop) (ops : Array Oper) (k : Env → World → Prop) : Nat → Array Bool → Env → World → Prop
  | 0, listed, ρ, w => Region.ready .any ops listed = [] ∧ k ρ w
  | n + 1, listed, ρ, w => (Region.ready .any ops listed = [] → k ρ w) ∧ ∀ i ∈ Region.ready .any ops listed, COp P C ops i (WCAny P C ops k n (listed.setIfInBounds i true)) ρ w

theorem CO_mono {gs : List (Option Tmp)} {last last' : Prop} {o : Oper} {K K' : Env → World → Prop} {ρ : Env} {w : World} (hl : last → last') (h : ∀ ρ w, K ρ w → K' ρ w) (hh : CO P C gs last o K ρ w) : CO P C gs last' o K' ρ w := by
  unfold CO at hh ⊢
  split
  · rename_i hw
    rw [if_pos hw] at hh
    split
    · rename_i hq; rw [if_pos hq] at hh; obtain ⟨v, h1, h2⟩ := hh; exact ⟨v, h1, h _ _ h2⟩
    · rename_i hq; rw [if_neg hq] at hh; exact WRes_mono (fun ρ w hk => ⟨hk.1.imp id hl, h _ _ hk.2⟩) hh
  · rename_i hw; rw [if_neg hw] at hh; exact h _ _ hh
theorem CO_mono2 {gs : List (Option Tmp)} {last last' : Prop} {o : Oper} {K K' : Env → World → Prop} {ρ : Env} {w : World} (hl : last → last') (h : ∀ ρ' w', (isQ o.op = false → wantE gs ρ o.guard = true → C w' ∨ last) → (isQ o.op = true ∨ wantE gs ρ o.guard = false → w' = w) → K ρ' w' → K' ρ' w') (hh : CO P C gs last o K ρ w) : CO P C gs last' o K' ρ w := by
  unfold CO at hh ⊢
  split
  · rename_i hw
    rw [if_pos hw] at hh
    split
    · rename_i hq; rw [if_pos hq] at hh; obtain ⟨v, h1, h2⟩ := hh
      exact ⟨v, h1, h _ _ (fun e => by rw [hq] at e; cases e) (fun _ => rfl) h2⟩
    · rename_i hq; rw [if_neg hq] at hh
      exact WRes_mono (fun ρ w hk => ⟨hk.1.imp id hl, h _ _ (fun _ _ => hk.1) (fun e => by rcases e with e | e <;> simp_all) hk.2⟩) hh
  · rename_i hw; rw [if_neg hw] at hh; exact h _ _ (fun _ e => absurd e hw) (fun _ => rfl) hh
theorem COp_mono {i : Nat} {K K' : Env → World → Prop} {ρ : Env} {w : World} (h : ∀ ρ w, K ρ w → K' ρ w) (hh : COp P C ops i K ρ w) : COp P C ops i K' ρ w := by
  unfold COp at hh ⊢
  split
  · rename_i ho; simp only [ho] at hh; exact h _ _ hh
  · rename_i o ho; simp only [ho] at hh; exact CO_mono id h hh
theorem WRes_some {d : Option Tmp} {ρ : Env} {K : Env → World → Prop} {r : Result Next} (h : WRes P d ρ K r) : ∃ v w', K (put ρ d v) w' := by
  cases r with
  | halt x w => exact h.elim
  | ok n w =>
    cases n <;> simp only [WRes] at h <;> first
      | exact ⟨_, _, h⟩
      | (obtain ⟨e, w', fr, ⟨v, he, hk⟩, _⟩ := h.out []
         exact ⟨v, w', hk⟩)

/-- It is a walk of every order, from a world of the class. -/
theorem WAny_of_WC {k : Env → World → Prop} (hlast : ∀ i listed o, listed.size = ops.size → ops[i]? = some o → isQ o.op = false → i + 1 = ops.size → i ∈ Region.ready .any ops listed → Region.ready .any ops (listed.setIfInBounds i true) = []) :
    ∀ (n : Nat) (listed : Array Bool) (ρ : Env) (w : World), listed.size = ops.size → (C w ∨ Region.ready .any ops listed = []) → WCAny P C ops k n listed ρ w → WAny P ops k n listed ρ w
  | 0, _, _, _, _, _, h => h
  | n + 1, listed, ρ, w, hsz, hC, h => by
    refine ⟨h.1, fun i hi => ?_⟩
    have hCw : C w := hC.resolve_right (fun e => by rw [e] at hi; cases hi)
    have hsz' : (listed.setIfInBounds i true).size = ops.size := by simpa using hsz
    have hh := h.2 i hi
    unfold COp at hh
    unfold WOp
    split at hh
    · rename_i ho; simp only [ho]; exact WAny_of_WC hlast n _ _ _ hsz' (.inl hCw) hh
    · rename_i o ho
      simp only [ho]
      have e : execOp (ev ρ) o = execOp (ev ρ) ⟨none, o.op, o.type, "", #[], none⟩ := by cases o; exact execOp_only _ _ _ _ _ _ _ _ _ _ _
      rw [e]
      show (if wantE (gsOf ops) ρ o.guard = true then WRes P o.dst ρ _ (rop P o.type o.op ρ w) else _)
      unfold CO at hh
      split
      · rename_i hw
        rw [if_pos hw] at hh
        split at hh
        · obtain ⟨v, h1, h2⟩ := hh
          rw [h1 w hCw]
          exact WAny_of_WC hlast n _ _ _ hsz' (.inl hCw) h2
        · rename_i hq
          refine WRes_mono (fun ρ' w' hk => WAny_of_WC hlast n _ _ _ hsz' ?_ hk.2) hh
          rcases hk.1 with h1 | h1
          · exact .inl h1
          · exact .inr (hlast i listed o hsz ho (by simpa using hq) h1 hi)
      · rename_i hw
        rw [if_neg hw] at hh
        exact WAny_of_WC hlast n _ _ _ hsz' (.inl hCw) hh

/-! ### Operations apart -/
theorem ev_put {ρ : Env} {d : Option Tmp} {v : Value} {x : Operand} (h : ∀ t, d = some t → x ≠ .tmp t) : ev (put ρ d v) x = ev ρ x := by
  cases d with
  | none => rfl
  | some t =>
    cases x with
    | tmp u => have : u ≠ t := fun e => h t rfl (e ▸ rfl); simp [ev, put, upd, this]
    | _ => rfl
theorem put_comm (ρ : Env) {x y : Option Tmp} (v u : Value) (h : ∀ d, x = some d → y ≠ some d) : put (put ρ x v) y u = put (put ρ y u) x v := by
  cases x with
  | none => rfl
  | some d =>
    cases y with
    | none => rfl
    | some e =>
      have hne : d ≠ e := fun he => h d rfl (he ▸ rfl)
      funext j
      simp only [put, upd]
      by_cases h1 : j = d <;> by_cases h2 : j = e <;> simp_all
theorem rop_put (o : Oper) (hs : ∀ cs b, o.op ≠ .select cs b) (ρ : Env) (d : Option Tmp) (v : Value) (w : World) (h : ∀ t, d = some t → t ∉ o.looksAt ops) : rop P o.type o.op (put ρ d v) w = rop P o.type o.op ρ w := by
  unfold rop
  rw [execOp_congr (ρ := ev (put ρ d v)) (ρ' := ev ρ) ⟨none, o.op, o.type, "", #[], none⟩ hs (fun x hx => ev_put fun t ht hxt => h t ht (by
    subst hxt
    exact List.mem_append_left _ (List.mem_filterMap.2 ⟨.tmp t, by simpa using hx, rfl⟩)))]
theorem wantE_put (o : Oper) (ρ : Env) (d : Option Tmp) (v : Value) (h : ∀ t, d = some t → t ∉ o.looksAt ops) : wantE (gsOf ops) (put ρ d v) o.guard = wantE (gsOf ops) ρ o.guard := by
  cases d with
  | none => rfl
  | some t =>
    unfold wantE
    cases hg : o.guard with
    | none => rfl
    | some gw =>
      obtain ⟨g, want⟩ := gw
      simp only [gsOf, List.getElem?_map, Array.getElem?_toList]
      cases ho : ops[g]? with
      | none => simp
      | some og =>
        cases hd : og.dst with
        | none => simp [hd]
        | some u =>
          have hne : u ≠ t := fun e => h t rfl (by subst e; simp [Oper.looksAt, hg, ho, hd])
          simp [hd, put, upd, hne]

/-- In this frame the operation yields v in every world of the class, or is passed over. -/
def YC (P : Program) (C : World → Prop) (ops : Array Oper) (o : Oper) (v : Value) (ρ : Env) : Prop :=
  (wantE (gsOf ops) ρ o.guard = true ∧ isQ o.op = true ∧ ∀ w, C w → rop P o.type o.op ρ w = .ok (.value v) w) ∨ (wantE (gsOf ops) ρ o.guard = false ∧ v = undef)
theorem YC.CO {o : Oper} {v : Value} {ρ : Env} {K : Env → World → Prop} {w : World} {last : Prop} (h : YC P C ops o v ρ) (hk : K (put ρ o.dst v) w) : CO P C (gsOf ops) last o K ρ w := by
  unfold Wf.CO
  rcases h with ⟨h1, h2, h3⟩ | ⟨h1, rfl⟩
  · rw [if_pos h1, if_pos h2]; exact ⟨v, h3, hk⟩
  · rw [if_neg (by rw [h1]; simp)]; exact hk
theorem YC.put {o : Oper} (hs : ∀ cs b, o.op ≠ .select cs b) {v u : Value} {ρ : Env} {d : Option Tmp} (h : ∀ t, d = some t → t ∉ o.looksAt ops) : YC P C ops o v (put ρ d u) ↔ YC P C ops o v ρ := by
  unfold YC
  rw [wantE_put o ρ d u h]
  simp only [rop_put o hs ρ d u _ h]
theorem CO_put {last : Prop} {oi oj : Oper} {v : Value} (hap : oi.apart ops oj = true) (hsi : ∀ cs b, oi.op ≠ .select cs b) (hsj : ∀ cs b, oj.op ≠ .select cs b) {K : Env → World → Prop} {ρ : Env} {w : World}
    (hy : YC P C ops oi v ρ) (h : CO P C (gsOf ops) last oj K (put ρ oi.dst v) w) : CO P C (gsOf ops) last oj (fun ρ' w' => YC P C ops oi v ρ' ∧ K (put ρ' oi.dst v) w') ρ w := by
  obtain ⟨h1, h2, h3⟩ := Oper.apart_spec hap
  unfold CO at h ⊢
  rw [wantE_put oj ρ oi.dst v h1] at h
  simp only [rop_put oj hsj ρ oi.dst v _ h1] at h
  split
  · rename_i hw
    rw [if_pos hw] at h
    split
    · rename_i hq; rw [if_pos hq] at h
      obtain ⟨u, h4, h5⟩ := h
      exact ⟨u, h4, (YC.put hsi h3).2 hy, by rw [← put_comm ρ v u h2]; exact h5⟩
    · rename_i hq; rw [if_neg hq] at h
      generalize rop P oj.type oj.op ρ w = r at *
      cases r with
      | halt x w' => exact h.elim
      | ok n w' =>
        cases n <;> simp only [WRes] at h ⊢ <;> first
          | exact ⟨h.1, (YC.put hsi h3).2 hy, by rw [← put_comm ρ v _ h2]; exact h.2⟩
          | exact CallsV.mono h fun u w'' hk => ⟨hk.1, (YC.put hsi h3).2 hy, by rw [← put_comm ρ v _ h2]; exact hk.2⟩
  · rename_i hw; rw [if_neg hw] at h
    exact ⟨(YC.put hsi h3).2 hy, by rw [← put_comm ρ v _ h2]; exact h⟩

theorem WCAny_first {k : Env → World → Prop} {i : Nat} {oi : Oper} {v : Value} (hi : ops[i]? = some oi) (hsel : ∀ (j : Nat) (o : Oper) cs b, ops[j]? = some o → o.op ≠ .select cs b) :
    ∀ (n : Nat) (listed : Array Bool) (ρ : Env) (w : World),
      (∀ j oj, ops[j]? = some oj → j ≠ i → listed.getD j true = false → (∀ e ∈ oj.after, Region.binds .any e = true → e.on ≠ i) → oi.apart ops oj = true) →
      i ∈ Region.ready .any ops listed → YC P C ops oi v ρ → WCAny P C ops k n (listed.setIfInBounds i true) (put ρ oi.dst v) w → WCAny P C ops k (n + 1) listed ρ w := by
  intro n
  induction n with
  | zero =>
    intro listed ρ w _ hr hy H
    refine ⟨fun h => (by rw [h] at hr; cases hr), fun j hj => ?_⟩
    by_cases hji : j = i
    · subst hji; unfold COp; simp only [hi]; exact hy.CO H
    · have := ready_mono hj hji
      rw [H.1] at this; cases this
  | succ n ih =>
    intro listed ρ w hfree hr hy H
    refine ⟨fun h => (by rw [h] at hr; cases hr), fun j hj => ?_⟩
    by_cases hji : j = i
    · subst hji; unfold COp; simp only [hi]; exact hy.CO H
    · have h1 := H.2 j (ready_mono hj hji)
      obtain ⟨hjun, oj, hoj, hall⟩ := mem_ready.1 hj
      have hnot : ∀ e ∈ oj.after, Region.binds .any e = true → e.on ≠ i := fun e he hb heq => by
        have h1 := hall e he hb
        have h0 := (mem_ready.1 hr).1
        rw [heq] at h1
        rcases Nat.lt_or_ge i listed.size with h' | h'
        · simp [h'] at h0 h1; rw [h0] at h1; cases h1
        · simp [Array.getElem?_eq_none h'] at h1
      unfold COp at h1 ⊢
      simp only [hoj] at h1 ⊢
      have h2 := CO_put (hfree j oj hoj hji hjun hnot) (fun cs b => hsel i oi cs b hi) (fun cs b => hsel j oj cs b hoj) hy h1
      have hfree' : ∀ k ok, ops[k]? = some ok → k ≠ i → (listed.setIfInBounds j true).getD k true = false → (∀ e ∈ ok.after, Region.binds .any e = true → e.on ≠ i) → oi.apart ops ok = true := fun k ok hk hki hun hno => by
        refine hfree k ok hk hki ?_ hno
        by_cases hjk : j = k
        · subst hjk; exact hjun
        · rw [getD_set_ne true hjk] at hun; exact hun
      refine CO_mono id (fun ρ' w' h3 => ih (listed.setIfInBounds j true) ρ' w' hfree' (ready_mono hr (Ne.symm hji)) h3.1 ?_) h2
      rw [Array.setIfInBounds_comm _ _ hji]
      exact h3.2

/-- What an operation of that kind yields is settled by the frame. -/
theorem YC.same {o : Oper} {v v' : Value} {ρ : Env} {w : World} (hC : C w) (h : YC P C ops o v ρ) (h' : YC P C ops o v' ρ) : v' = v := by
  rcases h with ⟨h1, _, h3⟩ | ⟨h1, rfl⟩ <;> rcases h' with ⟨h1', _, h3'⟩ | ⟨h1', rfl⟩
  · have := (h3 w hC).symm.trans (h3' w hC); simpa using this.symm
  · rw [h1] at h1'; cases h1'
  · rw [h1] at h1'; cases h1'
  · rfl
theorem YC_of_CO {o : Oper} (hq : isQ o.op = true) {K : Env → World → Prop} {ρ : Env} {w : World} {last : Prop} (h : CO P C (gsOf ops) last o K ρ w) : ∃ v, YC P C ops o v ρ ∧ K (put ρ o.dst v) w := by
  unfold CO at h
  by_cases hw : wantE (gsOf ops) ρ o.guard = true
  · rw [if_pos hw, if_pos hq] at h
    obtain ⟨v, h1, h2⟩ := h
    exact ⟨v, .inl ⟨hw, hq, h1⟩, h2⟩
  · rw [if_neg hw] at h
    exact ⟨undef, .inr ⟨by simpa using hw, rfl⟩, h⟩

/-- An operation that acts, with nothing else that acts before it. -/
theorem WCAny_loud {k : Env → World → Prop} {i : Nat} {oi : Oper} (hi : ops[i]? = some oi) (hsel : ∀ (j : Nat) (o : Oper) cs b, ops[j]? = some o → o.op ≠ .select cs b) (hqi : isQ oi.op = false) :
    ∀ (n : Nat) (listed : Array Bool) (ρ : Env) (w : World), C w →
      (∀ j oj, ops[j]? = some oj → j ≠ i → listed.getD j true = false → (∀ e ∈ oj.after, Region.binds .any e = true → e.on ≠ i) → oi.apart ops oj = true) →
      (∀ j oj, ops[j]? = some oj → j ≠ i → listed.getD j true = false → isQ oj.op = false → ∃ e ∈ oj.after, Region.binds .any e = true ∧ listed.getD e.on false = false ∧ ∃ om, ops[e.on]? = some om ∧ isQ om.op = false) →
      i ∈ Region.ready .any ops listed → wantE (gsOf ops) ρ oi.guard = true → COp P C ops i (WCAny P C ops k n (listed.setIfInBounds i true)) ρ w → WCAny P C ops k (n + 1) listed ρ w := by
  intro n
  induction n with
  | zero =>
    intro listed ρ w _ _ _ hr hwi H
    refine ⟨fun h => (by rw [h] at hr; cases hr), fun j hj => ?_⟩
    by_cases hji : j = i
    · subst hji; exact H
    · have h1 := ready_mono hj hji
      unfold COp at H
      simp only [hi] at H
      unfold CO at H
      rw [if_pos hwi, if_neg (by rw [hqi]; simp)] at H
      obtain ⟨v, w', hk⟩ := WRes_some H
      have h2 : Region.ready .any ops (listed.setIfInBounds i true) = [] := hk.2.1
      rw [h2] at h1; cases h1
  | succ n ih =>
    intro listed ρ w hC hfree hch hr hwi H
    refine ⟨fun h => (by rw [h] at hr; cases hr), fun j hj => ?_⟩
    by_cases hji : j = i
    · subst hji; exact H
    · obtain ⟨hjun, oj, hoj, hall⟩ := mem_ready.1 hj
      have hqj : isQ oj.op = true := by
        cases hq : isQ oj.op with
        | true => rfl
        | false =>
          obtain ⟨e, he, hb, hl, _⟩ := hch j oj hoj hji hjun hq
          have := hall e he hb
          rw [hl] at this; cases this
      have hnot : ∀ e ∈ oj.after, Region.binds .any e = true → e.on ≠ i := fun e he hb heq => by
        have h1 := hall e he hb
        have h0 := (mem_ready.1 hr).1
        rw [heq] at h1
        rcases Nat.lt_or_ge i listed.size with h' | h'
        · simp [h'] at h0 h1; rw [h0] at h1; cases h1
        · simp [Array.getElem?_eq_none h'] at h1
      have hap := hfree j oj hoj hji hjun hnot
      obtain ⟨a1, a2, a3⟩ := Oper.apart_spec hap
      have hsi := fun cs b => hsel i oi cs b hi
      have hsj := fun cs b => hsel j oj cs b hoj
      -- what j yields once i has been carried out
      have part : ∀ u w', WCAny P C ops k (n + 1) (listed.setIfInBounds i true) (put ρ oi.dst u) w' → ∃ v, YC P C ops oj v ρ ∧ WCAny P C ops k n ((listed.setIfInBounds i true).setIfInBounds j true) (put (put ρ oi.dst u) oj.dst v) w' := by
        intro u w' h
        have h1 := h.2 j (ready_mono hj hji)
        unfold COp at h1
        simp only [hoj] at h1
        obtain ⟨v, h2, h3⟩ := YC_of_CO hqj h1
        exact ⟨v, (YC.put hsj a1).1 h2, h3⟩
      unfold COp at H
      simp only [hi] at H
      have H' := H
      unfold CO at H'
      rw [if_pos hwi, if_neg (by rw [hqi]; simp)] at H'
      obtain ⟨u0, w0, hk0⟩ := WRes_some H'
      obtain ⟨vj, hyj, _⟩ := part u0 w0 hk0.2
      unfold COp
      simp only [hoj]
      refine hyj.CO ?_
      refine ih (listed.setIfInBounds j true) (put ρ oj.dst vj) w hC ?_ ?_ (ready_mono hr (Ne.symm hji)) (by rw [wantE_put oi ρ oj.dst vj a3]; exact hwi) ?_
      · intro m om hm hmi hun hno
        refine hfree m om hm hmi ?_ hno
        by_cases hjm : j = m
        · subst hjm; exact hjun
        · rw [getD_set_ne true hjm] at hun; exact hun
      · intro m om hm hmi hun hq
        have hmj : j ≠ m := fun e => by subst e; rw [hoj] at hm; injection hm with hm; subst hm; rw [hqj] at hq; cases hq
        obtain ⟨e, he, hb, hl, om', hom', hq'⟩ := hch m om hm hmi (by rw [getD_set_ne true hmj] at hun; exact hun) hq
        refine ⟨e, he, hb, ?_, om', hom', hq'⟩
        have : j ≠ e.on := fun eq => by rw [← eq, hoj] at hom'; injection hom' with hom'; subst hom'; rw [hqj] at hq'; cases hq'
        rw [getD_set_ne false this]; exact hl
      · unfold COp
        simp only [hi]
        unfold CO
        rw [wantE_put oi ρ oj.dst vj a3, if_pos hwi, if_neg (by rw [hqi]; simp), rop_put oi hsi ρ oj.dst vj w a3]
        have fin : ∀ u w', (C w' ∨ i + 1 = ops.size) ∧ WCAny P C ops k (n + 1) (listed.setIfInBounds i true) (put ρ oi.dst u) w' →
            (C w' ∨ i + 1 = ops.size) ∧ WCAny P C ops k n ((listed.setIfInBounds j true).setIfInBounds i true) (put (put ρ oj.dst vj) oi.dst u) w' := fun u w' hk => by
          obtain ⟨v', hy', hw'⟩ := part u w' hk.2
          rw [YC.same hC hyj hy'] at hw'
          refine ⟨hk.1, ?_⟩
          rw [Array.setIfInBounds_comm _ _ hji, ← put_comm ρ u vj a2]
          exact hw'
        generalize rop P oi.type oi.op ρ w = r at *
        cases r with
        | halt x w' => exact H'.elim
        | ok nx w' =>
          cases nx <;> simp only [WRes] at H' ⊢ <;> first
            | exact fin _ _ H'
            | exact CallsV.mono H' fun u w'' hk => fin u w'' hk

/-! ### The text's order -/
def chainB (ops : Array Oper) (k : Nat) (listed : Array Bool) : Bool :=
  (List.range ops.size).all fun j => match ops[j]? with
    | none => true
    | some oj => j == k || listed.getD j true || isQ oj.op || oj.after.toList.any fun e => Region.binds .any e && !listed.getD e.on false && (match ops[e.on]? with | some om => !isQ om.op | none => false)
def lexC (ops : Array Oper) : Nat → Nat → Array Bool → Bool
  | 0, _, listed => (Region.ready .any ops listed).isEmpty
  | n + 1, k, listed => (Region.ready .any ops listed).contains k && Region.free .any ops listed k && ((match ops[k]? with | some o => isQ o.op | none => true) || chainB ops k listed) && lexC ops n (k + 1) (listed.setIfInBounds k true)
/-- The last operation is ready only when all others are done. -/
def lastB (ops : Array Oper) : Bool :=
  match ops[ops.size - 1]? with
  | none => true
  | some o => isQ o.op || (List.range (ops.size - 1)).all fun j => o.after.toList.any fun e => e.on == j && Region.binds .any e
def drawB (ops : Array Oper) : Bool := Region.noSelect ops && lexC ops ops.size 0 (Array.replicate ops.size false)

theorem chain_spec {k : Nat} {listed : Array Bool} (h : chainB ops k listed = true) (j : Nat) (oj : Oper) (hj : ops[j]? = some oj) (hne : j ≠ k) (hun : listed.getD j true = false) (hq : isQ oj.op = false) :
    ∃ e ∈ oj.after, Region.binds .any e = true ∧ listed.getD e.on false = false ∧ ∃ om, ops[e.on]? = some om ∧ isQ om.op = false := by
  unfold chainB at h
  rw [List.all_eq_true] at h
  have h1 := h j (List.mem_range.2 (Array.getElem?_eq_some_iff.1 hj).1)
  simp only [hj, Bool.or_eq_true, beq_iff_eq, hne, hun, hq, false_or, Bool.false_eq_true, List.any_eq_true, Bool.and_eq_true, Bool.not_eq_true'] at h1
  obtain ⟨e, he, ⟨hb, hl⟩, hm⟩ := h1
  refine ⟨e, by simpa using he, hb, hl, ?_⟩
  cases ho : ops[e.on]? with
  | none => simp [ho] at hm
  | some om => simp [ho] at hm; exact ⟨om, rfl, hm⟩

theorem WC_lex {k : Env → World → Prop} (hs : Region.noSelect ops = true) : ∀ (l : List Oper) (m : Nat) (listed : Array Bool) (ρ : Env) (w : World), C w → (∀ j, l[j]? = ops[m + j]?) →
    lexC ops l.length m listed = true → WD P C (gsOf ops) k l ρ w → WCAny P C ops k l.length listed ρ w
  | [], _, _, _, _, _, _, hB, h => ⟨by simpa [lexC] using hB, h⟩
  | o :: l, m, listed, ρ, w, hC, hl, hB, h => by
    have h0 : ops[m]? = some o := by simpa using (hl 0).symm
    simp only [List.length_cons, lexC, Bool.and_eq_true, h0] at hB
    obtain ⟨⟨⟨hr, hf⟩, hch⟩, hB'⟩ := hB
    have hnext : ∀ ρ' w', C w' → WD P C (gsOf ops) k l ρ' w' → WCAny P C ops k l.length (listed.setIfInBounds m true) ρ' w' := fun ρ' w' hC' h' => WC_lex hs l (m + 1) (listed.setIfInBounds m true) ρ' w' hC' (fun j => by have := hl (j + 1); simpa [Nat.add_assoc, Nat.add_comm 1 j] using this) hB' h'
    have h' : CO P C (gsOf ops) (l = []) o (WD P C (gsOf ops) k l) ρ w := h
    by_cases hw : wantE (gsOf ops) ρ o.guard = true
    · cases hq : isQ o.op with
      | true =>
        obtain ⟨v, hy, hk⟩ := YC_of_CO hq h'
        exact WCAny_first h0 (Region.noSelect_spec hs) l.length listed ρ w (Region.free_spec h0 hf) (by simpa using hr) hy (hnext _ _ hC hk)
      | false =>
        rw [hq, Bool.false_or] at hch
        refine WCAny_loud h0 (Region.noSelect_spec hs) hq l.length listed ρ w hC (Region.free_spec h0 hf) (chain_spec hch) (by simpa using hr) hw ?_
        unfold COp
        simp only [h0]
        have hsz : l = [] → m + 1 = ops.size := fun e => by
          have h1 := hl 1
          subst e
          simp at h1
          have := (Array.getElem?_eq_some_iff.1 h0).1
          omega
        refine CO_mono2 hsz (fun ρ' w' hcl _ hk => ?_) h'
        rcases hcl hq hw with hC' | he
        · exact hnext _ _ hC' hk
        · subst he
          exact ⟨by simpa [lexC] using hB', hk⟩
    · have hw' : wantE (gsOf ops) ρ o.guard = false := by simpa using hw
      unfold CO at h'
      rw [if_neg hw] at h'
      exact WCAny_first h0 (Region.noSelect_spec hs) l.length listed ρ w (Region.free_spec h0 hf) (by simpa using hr) (.inr ⟨hw', rfl⟩) (hnext _ _ hC h')

theorem last_spec (h : lastB ops = true) (i : Nat) (listed : Array Bool) (hsz : listed.size = ops.size) (hi : i + 1 = ops.size) (hr : i ∈ Region.ready .any ops listed) (hq : ∀ o, ops[i]? = some o → isQ o.op = false) : Region.ready .any ops (listed.setIfInBounds i true) = [] := by
  obtain ⟨_, o, ho, hall⟩ := mem_ready.1 hr
  unfold lastB at h
  rw [show ops.size - 1 = i by omega, ho] at h
  simp only [hq o ho, Bool.false_or, List.all_eq_true, List.mem_range, List.any_eq_true, Bool.and_eq_true, beq_iff_eq] at h
  rw [List.eq_nil_iff_forall_not_mem]
  intro j hj
  obtain ⟨hun, oj, hoj, _⟩ := mem_ready.1 hj
  have hjl : j < ops.size := (Array.getElem?_eq_some_iff.1 hoj).1
  by_cases hji : i = j
  · subst hji
    simp [hsz, hjl] at hun
  · rw [getD_set_ne true hji] at hun
    obtain ⟨e, he, heq, hb⟩ := h j (by omega)
    have := hall e (by simpa using he) hb
    rw [heq] at this
    have hjs : j < listed.size := by omega
    simp [hjs] at hun this
    rw [hun] at this; cases this
end

structure VD (P : Program) (C : World → Prop) (gs : List (Option Tmp)) (k : Env → World → Prop) (l : List Oper) (ρ : Env) (w : World) : Prop where
  out : WD P C gs k l ρ w
/-- An operation that acts, in the class: what it leaves must be of the class, but for the last. -/
structure VL (P : Program) (C : World → Prop) (last : Prop) (d : Option Tmp) (ρ : Env) (next : Env → World → Prop) (r : Result Next) : Prop where
  out : WRes P d ρ (fun ρ' w' => (C w' ∨ last) ∧ next ρ' w') r

theorem W_draw {P : Program} {id : Nat} {l : List Oper} {k : Exit → Env → World → Prop} {ρ : Env} {w : World} (C : World → Prop) (hB : drawB l.toArray = true) (hl : lastB l.toArray = true) (hC : C { w with drawn := w.drawn + 1 })
    (h : VD P C (l.map Oper.dst) (k .normal) l ρ { w with drawn := w.drawn + 1 }) : VC P (.region id l.toArray true) k ρ w := by
  refine ⟨?_⟩
  show WAny P l.toArray (k .normal) l.toArray.size (Array.replicate l.toArray.size false) ρ { w with drawn := w.drawn + 1 }
  simp only [drawB, Bool.and_eq_true] at hB
  refine WAny_of_WC (C := C) (fun i listed o hsz ho hq hi hr => last_spec hl i listed hsz hi hr (fun o' ho' => by rw [ho] at ho'; injection ho' with e; rw [← e]; exact hq)) _ _ _ _ (by simp) (.inl hC) ?_
  have := WC_lex (P := P) (C := C) (ops := l.toArray) (k := k .normal) hB.1 l 0 (Array.replicate l.toArray.size false) ρ { w with drawn := w.drawn + 1 } hC (by simp) (by simpa using hB.2) h.out
  simpa using this

section
variable (P : Program) (C : World → Prop) (gs : List (Option Tmp)) (k : Env → World → Prop)
theorem d_nil (ρ : Env) (w : World) : VD P C gs k [] ρ w = k ρ w := propext ⟨fun h => h.out, fun h => ⟨h⟩⟩
end
end Go.Wf
