/-  Regions that draw and end in a call, a new block and a store: the block may be laid before the call.  -/
import Derived.Test.YbzaawGreatDraw3
namespace Go.Wf
open Region
def init3 : List Oper → List Oper
  | x :: y :: z :: t :: r => x :: init3 (y :: z :: t :: r)
  | _ => []
def tail3 : List Oper → List Oper
  | _ :: y :: z :: t :: r => tail3 (y :: z :: t :: r)
  | l => l
def swap2 : List Oper → List Oper
  | x :: y :: r => y :: x :: r
  | l => l
theorem init_tail : ∀ l, init3 l ++ tail3 l = l
  | [] => rfl
  | [_] => rfl
  | [_, _] => rfl
  | [_, _, _] => rfl
  | x :: y :: z :: t :: r => by simp only [init3, tail3, List.cons_append]; rw [init_tail]
def preC (ops : Array Oper) : Nat → Nat → Array Bool → Bool
  | 0, _, _ => true
  | n + 1, k, listed => (Region.ready .any ops listed).contains k && Region.free .any ops listed k && (match ops[k]? with | some o => isQ o.op | none => false) && preC ops n (k + 1) (listed.setIfInBounds k true)
def doneC : Nat → Nat → Array Bool → Array Bool
  | 0, _, listed => listed
  | n + 1, k, listed => doneC n (k + 1) (listed.setIfInBounds k true)
def endC (ops : Array Oper) (m : Nat) (L : Array Bool) : Bool :=
  decide (ops.size = m + 3) && decide (Region.ready .any ops L = [m, m + 1]) && decide (Region.ready .any ops (L.setIfInBounds m true) = [m + 1]) && decide (Region.ready .any ops (L.setIfInBounds (m + 1) true) = [m]) &&
    decide (Region.ready .any ops ((L.setIfInBounds m true).setIfInBounds (m + 1) true) = [m + 2]) && decide (Region.ready .any ops ((L.setIfInBounds (m + 1) true).setIfInBounds m true) = [m + 2]) &&
    decide (Region.ready .any ops (((L.setIfInBounds m true).setIfInBounds (m + 1) true).setIfInBounds (m + 2) true) = []) && decide (Region.ready .any ops (((L.setIfInBounds (m + 1) true).setIfInBounds m true).setIfInBounds (m + 2) true) = [])
def drawB4 (ops : Array Oper) : Bool := Region.noSelect ops && (preC ops (ops.size - 3) 0 (Array.replicate ops.size false) && endC ops (ops.size - 3) (doneC (ops.size - 3) 0 (Array.replicate ops.size false)))
section
variable {P : Program} {C : World → Prop} {ops : Array Oper}
theorem WC_pre {k k' : Env → World → Prop} {r : Nat} (hs : Region.noSelect ops = true) : ∀ (l : List Oper) (m : Nat) (listed : Array Bool) (ρ : Env) (w : World), (∀ j, j < l.length → l[j]? = ops[m + j]?) →
    preC ops l.length m listed = true → (∀ ρ' w', k' ρ' w' → WCAny P C ops k r (doneC l.length m listed) ρ' w') → WD P C (gsOf ops) k' l ρ w → WCAny P C ops k (r + l.length) listed ρ w
  | [], _, _, _, _, _, _, hk, h => hk _ _ h
  | o :: l, m, listed, ρ, w, hl, hB, hk, h => by
    have h0 : ops[m]? = some o := by simpa using (hl 0 (by simp)).symm
    simp only [List.length_cons, preC, Bool.and_eq_true, h0] at hB
    obtain ⟨⟨⟨hr, hf⟩, hq⟩, hB'⟩ := hB
    have h' : CO P C (gsOf ops) (l = []) o (WD P C (gsOf ops) k' l) ρ w := h
    obtain ⟨v, hy, h2⟩ := YC_of_CO hq h'
    have ih := WC_pre hs l (m + 1) (listed.setIfInBounds m true) (put ρ o.dst v) w (fun j hj => by have := hl (j + 1) (by simpa using hj); simpa [Nat.add_assoc, Nat.add_comm 1 j] using this) hB' hk h2
    exact WCAny_first h0 (Region.noSelect_spec hs) (r + l.length) listed ρ w (Region.free_spec h0 hf) (by simpa using hr) hy ih
theorem WC_end {k : Env → World → Prop} {m : Nat} {L : Array Bool} {oc oa os : Oper} (hc : ops[m]? = some oc) (ha : ops[m + 1]? = some oa) (hst : ops[m + 2]? = some os) (hB : endC ops m L = true) {ρ : Env} {w : World}
    (h1 : WD P C (gsOf ops) k [oc, oa, os] ρ w) (h2 : WD P C (gsOf ops) k [oa, oc, os] ρ w) : WCAny P C ops k 3 L ρ w := by
  simp only [endC, Bool.and_eq_true, decide_eq_true_eq] at hB
  obtain ⟨⟨⟨⟨⟨⟨⟨hz, r0⟩, r1⟩, r2⟩, r3⟩, r4⟩, r5⟩, r6⟩ := hB
  refine ⟨fun e => (by rw [r0] at e; cases e), fun i hi => ?_⟩
  rw [r0] at hi
  have hi' : i = m ∨ i = m + 1 := by simpa using hi
  rcases hi' with rfl | rfl
  · unfold COp
    simp only [hc]
    refine CO_mono (fun e => (by cases e)) (fun ρ1 w1 k1 => ?_) h1
    refine ⟨fun e => (by rw [r1] at e; cases e), fun j hj => ?_⟩
    rw [r1] at hj
    obtain rfl : j = i + 1 := by simpa using hj
    unfold COp
    simp only [ha]
    refine CO_mono (fun e => (by cases e)) (fun ρ2 w2 k2 => ?_) k1
    refine ⟨fun e => (by rw [r3] at e; cases e), fun j hj => ?_⟩
    rw [r3] at hj
    obtain rfl : j = i + 2 := by simpa using hj
    unfold COp
    simp only [hst]
    exact CO_mono (fun _ => hz.symm) (fun ρ3 w3 k3 => ⟨r5, k3⟩) k2
  · unfold COp
    simp only [ha]
    refine CO_mono (fun e => (by cases e)) (fun ρ1 w1 k1 => ?_) h2
    refine ⟨fun e => (by rw [r2] at e; cases e), fun j hj => ?_⟩
    rw [r2] at hj
    obtain rfl : j = m := by simpa using hj
    unfold COp
    simp only [hc]
    refine CO_mono (fun e => (by cases e)) (fun ρ2 w2 k2 => ?_) k1
    refine ⟨fun e => (by rw [r4] at e; cases e), fun i hj => ?_⟩
    rw [r4] at hj
    obtain rfl : i = j + 2 := by simpa using hj
    unfold COp
    simp only [hst]
    exact CO_mono (fun _ => hz.symm) (fun ρ3 w3 k3 => ⟨r6, k3⟩) k2
end
theorem tail3_len : ∀ (l : List Oper), 3 ≤ l.length → ∃ a b c, tail3 l = [a, b, c]
  | [], h => by simp at h
  | [_], h => by simp at h
  | [_, _], h => by simp at h
  | [a, b, c], _ => ⟨a, b, c, rfl⟩
  | x :: y :: z :: t :: r, _ => by
    obtain ⟨a, b, c, e⟩ := tail3_len (y :: z :: t :: r) (by simp)
    exact ⟨a, b, c, by rw [tail3]; exact e⟩
theorem W_draw4 {P : Program} {id : Nat} {l : List Oper} {k : Exit → Env → World → Prop} {ρ : Env} {w : World} (C : World → Prop) (hB : drawB4 l.toArray = true) (hl : lastB l.toArray = true) (hC : C { w with drawn := w.drawn + 1 })
    (h : VD P C (l.map Oper.dst) (fun ρ' w' => VD P C (l.map Oper.dst) (k .normal) (tail3 l) ρ' w' ∧ VD P C (l.map Oper.dst) (k .normal) (swap2 (tail3 l)) ρ' w') (init3 l) ρ { w with drawn := w.drawn + 1 }) : VC P (.region id l.toArray true) k ρ w := by
  refine ⟨?_⟩
  show WAny P l.toArray (k .normal) l.toArray.size (Array.replicate l.toArray.size false) ρ { w with drawn := w.drawn + 1 }
  simp only [drawB4, Bool.and_eq_true] at hB
  obtain ⟨hs, hp, he⟩ := hB
  refine WAny_of_WC (C := C) (fun i listed o hsz ho hq hi hr => last_spec hl i listed hsz hi hr (fun o' ho' => by rw [ho] at ho'; injection ho' with e; rw [← e]; exact hq)) _ _ _ _ (by simp) (.inl hC) ?_
  have hz : l.toArray.size = l.toArray.size - 3 + 3 := by
    have := he
    simp only [endC, Bool.and_eq_true, decide_eq_true_eq] at this
    exact this.1.1.1.1.1.1.1
  have h3 : 3 ≤ l.length := by simp at hz; omega
  obtain ⟨a, b, c, ht⟩ := tail3_len l h3
  have hit := init_tail l
  rw [ht] at hit
  have hil : (init3 l).length = l.toArray.size - 3 := by
    have := congrArg List.length hit
    simp at this
    simp; omega
  have hget : ∀ j : Nat, l.toArray[j]? = (init3 l ++ [a, b, c])[j]? := fun j => by have := congrArg (fun z : List Oper => z[j]?) hit; rw [List.getElem?_toArray]; exact this.symm
  have hat : ∀ q : Nat, l.toArray[l.toArray.size - 3 + q]? = [a, b, c][q]? := fun q => by
    rw [hget, List.getElem?_append_right (by omega), hil, Nat.add_sub_cancel_left]
  rw [ht] at h
  have key := WC_pre (P := P) (C := C) (ops := l.toArray) (k := k .normal) (r := 3) hs (init3 l) 0 (Array.replicate l.toArray.size false) ρ { w with drawn := w.drawn + 1 }
    (fun j hj => by rw [Nat.zero_add, hget, List.getElem?_append_left hj]) (by rw [hil]; exact hp) (fun ρ' w' hk => by
      rw [hil]
      exact WC_end (oc := a) (oa := b) (os := c) (by have := hat 0; simpa using this) (by have := hat 1; simpa using this) (by have := hat 2; simpa using this) he hk.1.out hk.2.out) h.out
  rw [hil, Nat.add_comm, ← hz] at key
  exact key
theorem W_drawH4 {P : Program} {id : Nat} {l : List Oper} {k : Exit → Env → World → Prop} {ρ : Env} {w : World} {H : Heap} (hH : HS H w) (hB : drawB4 l.toArray = true) (hl : lastB l.toArray = true)
    (h : ∀ w1, Fr noB w w1 → HS H w1 → VD P (HS H) (l.map Oper.dst) (fun ρ' w' => VD P (HS H) (l.map Oper.dst) (k .normal) (tail3 l) ρ' w' ∧ VD P (HS H) (l.map Oper.dst) (k .normal) (swap2 (tail3 l)) ρ' w') (init3 l) ρ w1) : VC P (.region id l.toArray true) k ρ w :=
  W_draw4 (HS H) hB hl hH.drew (h _ (Fr.refl noB w).drew hH.drew)
end Go.Wf
