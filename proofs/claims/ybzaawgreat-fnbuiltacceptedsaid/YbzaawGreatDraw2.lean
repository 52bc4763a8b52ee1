/-  Regions that draw: the last operation is last by way of others.  -/
import Derived.Test.YbzaawGreatData
namespace Go.Wf
open Region

def Shut (ops : Array Oper) (listed : Array Bool) : Prop := ∀ j oj, ops[j]? = some oj → listed.getD j false = true → ∀ e ∈ oj.after, Region.binds .any e = true → listed.getD e.on false = true
theorem Shut.step {ops : Array Oper} {listed : Array Bool} (h : Shut ops listed) {i : Nat} (hr : i ∈ Region.ready .any ops listed) : Shut ops (listed.setIfInBounds i true) := by
  have up : ∀ k, listed.getD k false = true → (listed.setIfInBounds i true).getD k false = true := fun k hk => by
    by_cases e : i = k
    · subst e
      by_cases hlt : i < listed.size
      · simp [hlt]
      · simp [Array.getD, hlt] at hk
    · rw [getD_set_ne false e]; exact hk
  obtain ⟨_, o, ho, hall⟩ := mem_ready.1 hr
  intro j oj hj hl e he hb
  by_cases hji : i = j
  · subst hji
    rw [ho] at hj
    injection hj with hj
    subst hj
    exact up _ (hall e he hb)
  · rw [getD_set_ne false hji] at hl
    exact up _ (h j oj hj hl e he hb)
def lastB2 (ops : Array Oper) : Bool :=
  match ops[ops.size - 1]? with
  | none => true
  | some o => isQ o.op || (List.range (ops.size - 1)).all fun j => o.after.toList.any fun e => Region.binds .any e && (e.on == j || (match ops[e.on]? with | some o2 => o2.after.toList.any fun e2 => e2.on == j && Region.binds .any e2 | none => false))
theorem last_spec2 {ops : Array Oper} (h : lastB2 ops = true) (i : Nat) (listed : Array Bool) (hsz : listed.size = ops.size) (hS : Shut ops listed) (hi : i + 1 = ops.size) (hr : i ∈ Region.ready .any ops listed) (hq : ∀ o, ops[i]? = some o → isQ o.op = false) : Region.ready .any ops (listed.setIfInBounds i true) = [] := by
  obtain ⟨_, o, ho, hall⟩ := mem_ready.1 hr
  unfold lastB2 at h
  rw [show ops.size - 1 = i by omega, ho] at h
  simp only [hq o ho, Bool.false_or, List.all_eq_true, List.mem_range, List.any_eq_true, Bool.and_eq_true, Bool.or_eq_true, beq_iff_eq] at h
  rw [List.eq_nil_iff_forall_not_mem]
  intro j hj
  obtain ⟨hun, oj, hoj, _⟩ := mem_ready.1 hj
  have hjl : j < ops.size := (Array.getElem?_eq_some_iff.1 hoj).1
  by_cases hji : i = j
  · subst hji
    simp [hsz, hjl] at hun
  · rw [getD_set_ne true hji] at hun
    obtain ⟨e, he, hb, hor⟩ := h j (by omega)
    have hthis := hall e (by simpa using he) hb
    have hjs : j < listed.size := by omega
    have key : listed.getD j false = true := by
      rcases hor with heq | h2
      · rw [heq] at hthis; exact hthis
      · cases ho2 : ops[e.on]? with
        | none => rw [ho2] at h2; simp at h2
        | some o2 =>
          rw [ho2] at h2
          simp only [List.any_eq_true, Bool.and_eq_true, beq_iff_eq] at h2
          obtain ⟨e2, he2, heq2, hb2⟩ := h2
          have := hS e.on o2 ho2 hthis e2 (by simpa using he2) hb2
          rw [heq2] at this; exact this
    simp [hjs] at hun key
    rw [hun] at key; cases key
section
variable {P : Program} {C : World → Prop} {ops : Array Oper}
theorem WAny_of_WC2 {k : Env → World → Prop} (hlast : ∀ i listed o, listed.size = ops.size → Shut ops listed → ops[i]? = some o → isQ o.op = false → i + 1 = ops.size → i ∈ Region.ready .any ops listed → Region.ready .any ops (listed.setIfInBounds i true) = []) :
    ∀ (n : Nat) (listed : Array Bool) (ρ : Env) (w : World), listed.size = ops.size → Shut ops listed → (C w ∨ Region.ready .any ops listed = []) → WCAny P C ops k n listed ρ w → WAny P ops k n listed ρ w
  | 0, _, _, _, _, _, _, h => h
  | n + 1, listed, ρ, w, hsz, hS, hC, h => by
    refine ⟨h.1, fun i hi => ?_⟩
    have hCw : C w := hC.resolve_right (fun e => by rw [e] at hi; cases hi)
    have hsz' : (listed.setIfInBounds i true).size = ops.size := by simpa using hsz
    have hS' := hS.step hi
    have hh := h.2 i hi
    unfold COp at hh
    unfold WOp
    split at hh
    · rename_i ho; simp only [ho]; exact WAny_of_WC2 hlast n _ _ _ hsz' hS' (.inl hCw) hh
    · rename_i o ho
      simp only [ho]
      have e : execOp (ev ρ) o = execOp (ev ρ) ⟨none, o.op, o.type, "", #[], none⟩ := by cases o; exact execOp_only _ _ _ _ _ _ _ _ _ _ _
      rw [e]
      show (if wantE (gsOf ops) ρ o.guard = true then WRes P o.dst ρ _ (rop P o.type o.op ρ w) else _)
      unfold CO at hh
      split
      · rename_i hw
        rw [if_pos hw] at hh
        split at hh
        · obtain ⟨v, h1, h2⟩ := hh
          rw [h1 w hCw]
          exact WAny_of_WC2 hlast n _ _ _ hsz' hS' (.inl hCw) h2
        · rename_i hq
          refine WRes_mono (fun ρ' w' hk => WAny_of_WC2 hlast n _ _ _ hsz' hS' ?_ hk.2) hh
          rcases hk.1 with h1 | h1
          · exact .inl h1
          · exact .inr (hlast i listed o hsz hS ho (by simpa using hq) h1 hi)
      · rename_i hw
        rw [if_neg hw] at hh
        exact WAny_of_WC2 hlast n _ _ _ hsz' hS' (.inl hCw) hh
end
theorem W_draw2 {P : Program} {id : Nat} {l : List Oper} {k : Exit → Env → World → Prop} {ρ : Env} {w : World} (C : World → Prop) (hB : drawB l.toArray = true) (hl : lastB2 l.toArray = true) (hC : C { w with drawn := w.drawn + 1 })
    (h : VD P C (l.map Oper.dst) (k .normal) l ρ { w with drawn := w.drawn + 1 }) : VC P (.region id l.toArray true) k ρ w := by
  refine ⟨?_⟩
  show WAny P l.toArray (k .normal) l.toArray.size (Array.replicate l.toArray.size false) ρ { w with drawn := w.drawn + 1 }
  simp only [drawB, Bool.and_eq_true] at hB
  refine WAny_of_WC2 (C := C) (fun i listed o hsz hS ho hq hi hr => last_spec2 hl i listed hsz hS hi hr (fun o' ho' => by rw [ho] at ho'; injection ho' with e; rw [← e]; exact hq)) _ _ _ _ (by simp) (fun j oj hj hl => by
    exfalso
    by_cases hlt : j < l.length <;> simp [Array.getD, hlt] at hl) (.inl hC) ?_
  have := WC_lex (P := P) (C := C) (ops := l.toArray) (k := k .normal) hB.1 l 0 (Array.replicate l.toArray.size false) ρ { w with drawn := w.drawn + 1 } hC (by simp) (by simpa using hB.2) h.out
  simpa using this
theorem W_drawH2 {P : Program} {id : Nat} {l : List Oper} {k : Exit → Env → World → Prop} {ρ : Env} {w : World} {H : Heap} (hH : HS H w) (hB : drawB l.toArray = true) (hl : lastB2 l.toArray = true)
    (h : ∀ w1, Fr noB w w1 → HS H w1 → VD P (HS H) (l.map Oper.dst) (k .normal) l ρ w1) : VC P (.region id l.toArray true) k ρ w :=
  W_draw2 (HS H) hB hl hH.drew (h _ (Fr.refl noB w).drew hH.drew)
end Go.Wf
