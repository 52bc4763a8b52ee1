/-  Regions that draw: an operation may wait on another by way of others.  -/
import Derived.Test.YbzaawGreatDraw2
namespace Go.Wf
open Region
/-- The operation waits, by way of others perhaps, on one that acts. -/
inductive Held (ops : Array Oper) (listed : Array Bool) : Nat → Prop
  | loud (j : Nat) (e) (oj om : Oper) (h0 : ops[j]? = some oj) (h1 : e ∈ oj.after) (h2 : Region.binds .any e = true) (h3 : listed.getD e.on false = false) (h4 : ops[e.on]? = some om) (h5 : isQ om.op = false) : Held ops listed j
  | step (j : Nat) (e) (oj : Oper) (h0 : ops[j]? = some oj) (h1 : e ∈ oj.after) (h2 : Region.binds .any e = true) (h3 : listed.getD e.on false = false) (h4 : Held ops listed e.on) : Held ops listed j
theorem Held.noR {ops : Array Oper} {listed : Array Bool} {j : Nat} (h : Held ops listed j) : ¬ j ∈ Region.ready .any ops listed := by
  intro hr
  obtain ⟨_, o, ho, hall⟩ := mem_ready.1 hr
  cases h with
  | loud _ e oj om h0 h1 h2 h3 h4 h5 =>
    rw [ho] at h0; injection h0 with h0; subst h0
    have := hall e h1 h2
    rw [h3] at this; cases this
  | step _ e oj h0 h1 h2 h3 h4 =>
    rw [ho] at h0; injection h0 with h0; subst h0
    have := hall e h1 h2
    rw [h3] at this; cases this
theorem Held.list {ops : Array Oper} {listed : Array Bool} {m q : Nat} {oq : Oper} (h : Held ops listed m) (hr : q ∈ Region.ready .any ops listed) (ho : ops[q]? = some oq) (hq : isQ oq.op = true) : Held ops (listed.setIfInBounds q true) m := by
  induction h with
  | loud j e oj om h0 h1 h2 h3 h4 h5 =>
    refine .loud j e oj om h0 h1 h2 ?_ h4 h5
    have : q ≠ e.on := fun eq => by rw [← eq, ho] at h4; injection h4 with h4; subst h4; rw [hq] at h5; cases h5
    rw [getD_set_ne false this]; exact h3
  | step j e oj h0 h1 h2 h3 h4 ih =>
    refine .step j e oj h0 h1 h2 ?_ ih
    have : q ≠ e.on := fun eq => h4.noR (eq ▸ hr)
    rw [getD_set_ne false this]; exact h3
def heldB (ops : Array Oper) (listed : Array Bool) : Nat → Nat → Bool
  | 0, _ => false
  | n + 1, j => match ops[j]? with
    | none => false
    | some oj => oj.after.toList.any fun e => Region.binds .any e && !listed.getD e.on false && ((match ops[e.on]? with | some om => !isQ om.op | none => false) || heldB ops listed n e.on)
theorem heldB_spec {ops : Array Oper} {listed : Array Bool} : ∀ (n j : Nat), heldB ops listed n j = true → Held ops listed j
  | 0, _, h => by cases h
  | n + 1, j, h => by
    unfold heldB at h
    cases ho : ops[j]? with
    | none => rw [ho] at h; cases h
    | some oj =>
      rw [ho] at h
      simp only [List.any_eq_true, Bool.and_eq_true, Bool.or_eq_true, Bool.not_eq_true'] at h
      obtain ⟨e, he, ⟨hb, hl⟩, hor⟩ := h
      rcases hor with h1 | h1
      · cases hm : ops[e.on]? with
        | none => rw [hm] at h1; cases h1
        | some om => rw [hm] at h1; exact .loud j e oj om ho (by simpa using he) hb hl hm (by simpa using h1)
      · exact .step j e oj ho (by simpa using he) hb hl (heldB_spec n e.on h1)
def chainB3 (ops : Array Oper) (k : Nat) (listed : Array Bool) : Bool :=
  (List.range ops.size).all fun j => match ops[j]? with
    | none => true
    | some oj => j == k || listed.getD j true || isQ oj.op || heldB ops listed 3 j
def lexC3 (ops : Array Oper) : Nat → Nat → Array Bool → Bool
  | 0, _, listed => (Region.ready .any ops listed).isEmpty
  | n + 1, k, listed => (Region.ready .any ops listed).contains k && Region.free .any ops listed k && ((match ops[k]? with | some o => isQ o.op | none => true) || chainB3 ops k listed) && lexC3 ops n (k + 1) (listed.setIfInBounds k true)
def drawB3 (ops : Array Oper) : Bool := Region.noSelect ops && lexC3 ops ops.size 0 (Array.replicate ops.size false)
section
variable {P : Program} {C : World → Prop} {ops : Array Oper}
theorem chain_spec3 {k : Nat} {listed : Array Bool} (h : chainB3 ops k listed = true) (j : Nat) (oj : Oper) (hj : ops[j]? = some oj) (hne : j ≠ k) (hun : listed.getD j true = false) (hq : isQ oj.op = false) : Held ops listed j := by
  unfold chainB3 at h
  rw [List.all_eq_true] at h
  have h1 := h j (List.mem_range.2 (Array.getElem?_eq_some_iff.1 hj).1)
  simp only [hj, Bool.or_eq_true, beq_iff_eq, hne, hun, hq, false_or, Bool.false_eq_true] at h1
  exact heldB_spec 3 j h1
/-- An operation that acts, with nothing else that acts before it. -/
theorem WCAny_loud3 {k : Env → World → Prop} {i : Nat} {oi : Oper} (hi : ops[i]? = some oi) (hsel : ∀ (j : Nat) (o : Oper) cs b, ops[j]? = some o → o.op ≠ .select cs b) (hqi : isQ oi.op = false) :
    ∀ (n : Nat) (listed : Array Bool) (ρ : Env) (w : World), C w →
      (∀ j oj, ops[j]? = some oj → j ≠ i → listed.getD j true = false → (∀ e ∈ oj.after, Region.binds .any e = true → e.on ≠ i) → oi.apart ops oj = true) →
      (∀ j oj, ops[j]? = some oj → j ≠ i → listed.getD j true = false → isQ oj.op = false → Held ops listed j) →
      i ∈ Region.ready .any ops listed → wantE (gsOf ops) ρ oi.guard = true → COp P C ops i (WCAny P C ops k n (listed.setIfInBounds i true)) ρ w → WCAny P C ops k (n + 1) listed ρ w := by
  intro n
  induction n with
  | zero =>
    intro listed ρ w _ _ _ hr hwi H
    refine ⟨fun h => (by rw [h] at hr; cases hr), fun j hj => ?_⟩
    by_cases hji : j = i
    · subst hji; exact H
    · have h1 := ready_mono hj hji
      unfold COp at H
      simp only [hi] at H
      unfold CO at H
      rw [if_pos hwi, if_neg (by rw [hqi]; simp)] at H
      obtain ⟨v, w', hk⟩ := WRes_some H
      have h2 : Region.ready .any ops (listed.setIfInBounds i true) = [] := hk.2.1
      rw [h2] at h1; cases h1
  | succ n ih =>
    intro listed ρ w hC hfree hch hr hwi H
    refine ⟨fun h => (by rw [h] at hr; cases hr), fun j hj => ?_⟩
    by_cases hji : j = i
    · subst hji; exact H
    · obtain ⟨hjun, oj, hoj, hall⟩ := mem_ready.1 hj
      have hqj : isQ oj.op = true := by
        cases hq : isQ oj.op with
        | true => rfl
        | false =>
          exact absurd hj (hch j oj hoj hji hjun hq).noR
      have hnot : ∀ e ∈ oj.after, Region.binds .any e = true → e.on ≠ i := fun e he hb heq => by
        have h1 := hall e he hb
        have h0 := (mem_ready.1 hr).1
        rw [heq] at h1
        rcases Nat.lt_or_ge i listed.size with h' | h'
        · simp [h'] at h0 h1; rw [h0] at h1; cases h1
        · simp [Array.getElem?_eq_none h'] at h1
      have hap := hfree j oj hoj hji hjun hnot
      obtain ⟨a1, a2, a3⟩ := Oper.apart_spec hap
      have hsi := fun cs b => hsel i oi cs b hi
      have hsj := fun cs b => hsel j oj cs b hoj
      -- what j yields once i has been carried out
      have part : ∀ u w', WCAny P C ops k (n + 1) (listed.setIfInBounds i true) (put ρ oi.dst u) w' → ∃ v, YC P C ops oj v ρ ∧ WCAny P C ops k n ((listed.setIfInBounds i true).setIfInBounds j true) (put (put ρ oi.dst u) oj.dst v) w' := by
        intro u w' h
        have h1 := h.2 j (ready_mono hj hji)
        unfold COp at h1
        simp only [hoj] at h1
        obtain ⟨v, h2, h3⟩ := YC_of_CO hqj h1
        exact ⟨v, (YC.put hsj a1).1 h2, h3⟩
      unfold COp at H
      simp only [hi] at H
      have H' := H
      unfold CO at H'
      rw [if_pos hwi, if_neg (by rw [hqi]; simp)] at H'
      obtain ⟨u0, w0, hk0⟩ := WRes_some H'
      obtain ⟨vj, hyj, _⟩ := part u0 w0 hk0.2
      unfold COp
      simp only [hoj]
      refine hyj.CO ?_
      refine ih (listed.setIfInBounds j true) (put ρ oj.dst vj) w hC ?_ ?_ (ready_mono hr (Ne.symm hji)) (by rw [wantE_put oi ρ oj.dst vj a3]; exact hwi) ?_
      · intro m om hm hmi hun hno
        refine hfree m om hm hmi ?_ hno
        by_cases hjm : j = m
        · subst hjm; exact hjun
        · rw [getD_set_ne true hjm] at hun; exact hun
      · intro m om hm hmi hun hq
        have hmj : j ≠ m := fun e => by subst e; rw [hoj] at hm; injection hm with hm; subst hm; rw [hqj] at hq; cases hq
        exact (hch m om hm hmi (by rw [getD_set_ne true hmj] at hun; exact hun) hq).list hj hoj hqj
      · unfold COp
        simp only [hi]
        unfold CO
        rw [wantE_put oi ρ oj.dst vj a3, if_pos hwi, if_neg (by rw [hqi]; simp), rop_put oi hsi ρ oj.dst vj w a3]
        have fin : ∀ u w', (C w' ∨ i + 1 = ops.size) ∧ WCAny P C ops k (n + 1) (listed.setIfInBounds i true) (put ρ oi.dst u) w' →
            (C w' ∨ i + 1 = ops.size) ∧ WCAny P C ops k n ((listed.setIfInBounds j true).setIfInBounds i true) (put (put ρ oj.dst vj) oi.dst u) w' := fun u w' hk => by
          obtain ⟨v', hy', hw'⟩ := part u w' hk.2
          rw [YC.same hC hyj hy'] at hw'
          refine ⟨hk.1, ?_⟩
          rw [Array.setIfInBounds_comm _ _ hji, ← put_comm ρ u vj a2]
          exact hw'
        generalize rop P oi.type oi.op ρ w = r at *
        cases r with
        | halt x w' => exact H'.elim
        | ok nx w' =>
          cases nx <;> simp only [WRes] at H' ⊢ <;> first
            | exact fin _ _ H'
            | exact CallsV.mono H' fun u w'' hk => fin u w'' hk

theorem WC_lex3 {k : Env → World → Prop} (hs : Region.noSelect ops = true) : ∀ (l : List Oper) (m : Nat) (listed : Array Bool) (ρ : Env) (w : World), C w → (∀ j, l[j]? = ops[m + j]?) →
    lexC3 ops l.length m listed = true → WD P C (gsOf ops) k l ρ w → WCAny P C ops k l.length listed ρ w
  | [], _, _, _, _, _, _, hB, h => ⟨by simpa [lexC3] using hB, h⟩
  | o :: l, m, listed, ρ, w, hC, hl, hB, h => by
    have h0 : ops[m]? = some o := by simpa using (hl 0).symm
    simp only [List.length_cons, lexC3, Bool.and_eq_true, h0] at hB
    obtain ⟨⟨⟨hr, hf⟩, hch⟩, hB'⟩ := hB
    have hnext : ∀ ρ' w', C w' → WD P C (gsOf ops) k l ρ' w' → WCAny P C ops k l.length (listed.setIfInBounds m true) ρ' w' := fun ρ' w' hC' h' => WC_lex3 hs l (m + 1) (listed.setIfInBounds m true) ρ' w' hC' (fun j => by have := hl (j + 1); simpa [Nat.add_assoc, Nat.add_comm 1 j] using this) hB' h'
    have h' : CO P C (gsOf ops) (l = []) o (WD P C (gsOf ops) k l) ρ w := h
    by_cases hw : wantE (gsOf ops) ρ o.guard = true
    · cases hq : isQ o.op with
      | true =>
        obtain ⟨v, hy, hk⟩ := YC_of_CO hq h'
        exact WCAny_first h0 (Region.noSelect_spec hs) l.length listed ρ w (Region.free_spec h0 hf) (by simpa using hr) hy (hnext _ _ hC hk)
      | false =>
        rw [hq, Bool.false_or] at hch
        refine WCAny_loud3 h0 (Region.noSelect_spec hs) hq l.length listed ρ w hC (Region.free_spec h0 hf) (chain_spec3 hch) (by simpa using hr) hw ?_
        unfold COp
        simp only [h0]
        have hsz : l = [] → m + 1 = ops.size := fun e => by
          have h1 := hl 1
          subst e
          simp at h1
          have := (Array.getElem?_eq_some_iff.1 h0).1
          omega
        refine CO_mono2 hsz (fun ρ' w' hcl _ hk => ?_) h'
        rcases hcl hq hw with hC' | he
        · exact hnext _ _ hC' hk
        · subst he
          exact ⟨by simpa [lexC3] using hB', hk⟩
    · have hw' : wantE (gsOf ops) ρ o.guard = false := by simpa using hw
      unfold CO at h'
      rw [if_neg hw] at h'
      exact WCAny_first h0 (Region.noSelect_spec hs) l.length listed ρ w (Region.free_spec h0 hf) (by simpa using hr) (.inr ⟨hw', rfl⟩) (hnext _ _ hC h')

end
theorem W_draw3 {P : Program} {id : Nat} {l : List Oper} {k : Exit → Env → World → Prop} {ρ : Env} {w : World} (C : World → Prop) (hB : drawB3 l.toArray = true) (hl : lastB2 l.toArray = true) (hC : C { w with drawn := w.drawn + 1 })
    (h : VD P C (l.map Oper.dst) (k .normal) l ρ { w with drawn := w.drawn + 1 }) : VC P (.region id l.toArray true) k ρ w := by
  refine ⟨?_⟩
  show WAny P l.toArray (k .normal) l.toArray.size (Array.replicate l.toArray.size false) ρ { w with drawn := w.drawn + 1 }
  simp only [drawB3, Bool.and_eq_true] at hB
  refine WAny_of_WC2 (C := C) (fun i listed o hsz hS ho hq hi hr => last_spec2 hl i listed hsz hS hi hr (fun o' ho' => by rw [ho] at ho'; injection ho' with e; rw [← e]; exact hq)) _ _ _ _ (by simp) (fun j oj hj hl => by
    exfalso
    by_cases hlt : j < l.length <;> simp [Array.getD, hlt] at hl) (.inl hC) ?_
  have := WC_lex3 (P := P) (C := C) (ops := l.toArray) (k := k .normal) hB.1 l 0 (Array.replicate l.toArray.size false) ρ { w with drawn := w.drawn + 1 } hC (by simp) (by simpa using hB.2) h.out
  simpa using this
theorem W_drawH3 {P : Program} {id : Nat} {l : List Oper} {k : Exit → Env → World → Prop} {ρ : Env} {w : World} {H : Heap} (hH : HS H w) (hB : drawB3 l.toArray = true) (hl : lastB2 l.toArray = true)
    (h : ∀ w1, Fr noB w w1 → HS H w1 → VD P (HS H) (l.map Oper.dst) (k .normal) l ρ w1) : VC P (.region id l.toArray true) k ρ w :=
  W_draw3 (HS H) hB hl hH.drew (h _ (Fr.refl noB w).drew hH.drew)
end Go.Wf
