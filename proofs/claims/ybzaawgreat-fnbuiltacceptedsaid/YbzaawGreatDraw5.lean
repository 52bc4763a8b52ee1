/-  Regions that draw where two operations that act may come in either order: a tree of orders.  -/
import Derived.Test.YbzaawGreatDraw3
namespace Go.Wf
open Region
inductive OT where
  | nil
  | one (i : Nat) (r : OT)
  | two (i : Nat) (r : OT) (j : Nat) (s : OT)
def OT.sz : OT → Nat
  | .nil => 0
  | .one _ r => r.sz + 1
  | .two _ r _ _ => r.sz + 1
def OT.chk (ops : Array Oper) : OT → Array Bool → Bool
  | .nil, listed => decide (Region.ready .any ops listed = [])
  | .one i r, listed => (((match ops[i]? with | some o => isQ o.op | none => false) && (Region.ready .any ops listed).contains i && Region.free .any ops listed i) || decide (Region.ready .any ops listed = [i])) && r.chk ops (listed.setIfInBounds i true)
  | .two i r j s, listed => decide (Region.ready .any ops listed = [i, j]) && decide (r.sz = s.sz) && r.chk ops (listed.setIfInBounds i true) && s.chk ops (listed.setIfInBounds j true)
section
variable {P : Program} {C : World → Prop} {ops : Array Oper} {k : Env → World → Prop}
def OT.WT (P : Program) (C : World → Prop) (ops : Array Oper) (k : Env → World → Prop) : OT → Env → World → Prop
  | .nil => k
  | .one i r => COp P C ops i (r.WT P C ops k)
  | .two i r j s => fun ρ w => COp P C ops i (r.WT P C ops k) ρ w ∧ COp P C ops j (s.WT P C ops k) ρ w
theorem OT.sound (hs : Region.noSelect ops = true) : ∀ (t : OT) (listed : Array Bool) (ρ : Env) (w : World), t.chk ops listed = true → t.WT P C ops k ρ w → WCAny P C ops k t.sz listed ρ w
  | .nil, listed, ρ, w, hB, h => ⟨by simpa [OT.chk] using hB, h⟩
  | .one i r, listed, ρ, w, hB, h => by
    simp only [OT.chk, Bool.and_eq_true, Bool.or_eq_true] at hB
    obtain ⟨h1, h2⟩ := hB
    have ih := fun ρ w => OT.sound hs r (listed.setIfInBounds i true) ρ w h2
    rcases h1 with ⟨⟨hq, hr⟩, hf⟩ | h1
    · cases ho : ops[i]? with
      | none => simp [ho] at hq
      | some o =>
        simp only [ho] at hq
        have h' : CO P C (gsOf ops) (i + 1 = ops.size) o (r.WT P C ops k) ρ w := by
          have := h
          unfold OT.WT COp at this
          simpa only [ho] using this
        obtain ⟨v, hy, hk⟩ := YC_of_CO hq h'
        exact WCAny_first ho (Region.noSelect_spec hs) r.sz listed ρ w (Region.free_spec ho hf) (by simpa using hr) hy (ih _ _ hk)
    · have h1 := of_decide_eq_true h1
      refine ⟨fun e => (by rw [h1] at e; cases e), fun j hj => ?_⟩
      rw [h1] at hj
      obtain rfl : j = i := by simpa using hj
      exact COp_mono (fun ρ w hk => ih ρ w hk) h
  | .two i r j s, listed, ρ, w, hB, h => by
    simp only [OT.chk, Bool.and_eq_true] at hB
    obtain ⟨⟨⟨h1, hz⟩, h2⟩, h3⟩ := hB
    have h1 := of_decide_eq_true h1
    have hz := of_decide_eq_true hz
    have ih1 := fun ρ w => OT.sound hs r (listed.setIfInBounds i true) ρ w h2
    have ih2 := fun ρ w => OT.sound hs s (listed.setIfInBounds j true) ρ w h3
    rw [← hz] at ih2
    refine ⟨fun e => (by rw [h1] at e; cases e), fun q hq => ?_⟩
    rw [h1] at hq
    have hq' : q = i ∨ q = j := by simpa using hq
    rcases hq' with rfl | rfl
    · exact COp_mono (fun ρ w hk => ih1 ρ w hk) h.1
    · exact COp_mono (fun ρ w hk => ih2 ρ w hk) h.2
end
def OT.of : List Nat → OT → OT
  | [], t => t
  | i :: l, t => .one i (OT.of l t)
def pickO (l : List Oper) (is : List Nat) : List Oper := is.filterMap fun i => l[i]?
def dum : Oper := ⟨none, .move (.const (.bool true)), 0, "", #[], none⟩
def lstB (n : Nat) : List Nat → Bool
  | [] => true
  | [i] => i + 1 == n
  | i :: r => decide (i < n) && lstB n r
def inB (n : Nat) (is : List Nat) : Bool := is.all fun i => decide (i < n)
section
variable {P : Program} {C : World → Prop} {l : List Oper} {k : Env → World → Prop}
theorem pick_cons {i : Nat} {r : List Nat} (hi : i < l.length) : pickO l (i :: r) = l[i] :: pickO l r := by
  unfold pickO; rw [List.filterMap_cons]; simp [hi]
theorem gs_of (l : List Oper) : gsOf l.toArray = l.map Oper.dst := rfl
theorem op_at {i : Nat} (hi : i < l.length) : l.toArray[i]? = some l[i] := by simp [hi]
theorem WT_list : ∀ (is : List Nat) (ρ : Env) (w : World), lstB l.length is = true → WD P C (gsOf l.toArray) k (pickO l is) ρ w → (OT.of is .nil).WT P C l.toArray k ρ w
  | [], ρ, w, _, h => h
  | [i], ρ, w, hB, h => by
    have hi : i + 1 = l.length := by simpa [lstB] using hB
    rw [pick_cons (by omega)] at h
    show COp P C l.toArray i k ρ w
    unfold COp
    simp only [op_at (show i < l.length by omega)]
    exact CO_mono (fun _ => by simpa using hi) (fun ρ w hk => hk) h
  | i :: j :: r, ρ, w, hB, h => by
    have hB' : i < l.length ∧ lstB l.length (j :: r) = true := by simpa [lstB] using hB
    rw [pick_cons hB'.1] at h
    have hj : j < l.length := by
      have := hB'.2
      cases r with
      | nil => have : j + 1 = l.length := by simpa [lstB] using this
               omega
      | cons a b => have : j < l.length ∧ lstB l.length (a :: b) = true := by simpa [lstB] using this
                    exact this.1
    show COp P C l.toArray i ((OT.of (j :: r) .nil).WT P C l.toArray k) ρ w
    unfold COp
    simp only [op_at hB'.1]
    exact CO_mono (fun e => by rw [pick_cons hj] at e; cases e) (fun ρ w hk => WT_list (j :: r) ρ w hB'.2 hk) h
theorem WT_pre (t : OT) : ∀ (is : List Nat) (ρ : Env) (w : World), inB l.length is = true → C w → WD P C (gsOf l.toArray) (fun ρ w => t.WT P C l.toArray k ρ w) (pickO l is ++ [dum]) ρ w → (OT.of is t).WT P C l.toArray k ρ w
  | [], ρ, w, _, hC, h => by
    have h' : ∃ v, (∀ w', C w' → rop P 0 (.move (.const (.bool true))) ρ w' = .ok (.value v) w') ∧ t.WT P C l.toArray k ρ w := h
    obtain ⟨v, _, h2⟩ := h'
    exact h2
  | i :: r, ρ, w, hB, hC, h => by
    have hB' : i < l.length ∧ inB l.length r = true := by simpa [inB] using hB
    rw [pick_cons hB'.1, List.cons_append] at h
    show COp P C l.toArray i ((OT.of r t).WT P C l.toArray k) ρ w
    unfold COp
    simp only [op_at hB'.1]
    have h' : CO P C (gsOf l.toArray) (pickO l r ++ [dum] = []) l[i] (WD P C (gsOf l.toArray) (fun ρ w => t.WT P C l.toArray k ρ w) (pickO l r ++ [dum])) ρ w := h
    refine CO_mono2 (fun e => by simp at e) (fun ρ' w' h1 h2 hk => WT_pre t r ρ' w' hB'.2 ?_ hk) h'
    cases hq : isQ l[i].op with
    | true => rw [h2 (.inl hq)]; exact hC
    | false =>
      cases hw : wantE (gsOf l.toArray) ρ l[i].guard with
      | true => exact (h1 hq hw).resolve_right (by simp)
      | false => rw [h2 (.inr hw)]; exact hC
end
theorem WD_mono2 {P : Program} {C : World → Prop} {gs : List (Option Tmp)} {k k' : Env → World → Prop} (hk : ∀ ρ w, k ρ w → k' ρ w) : ∀ {l : List Oper} {ρ : Env} {w : World}, WD P C gs k l ρ w → WD P C gs k' l ρ w
  | [], ρ, w, h => hk _ _ h
  | o :: l, ρ, w, h => by
    have h' : CO P C gs (l = []) o (WD P C gs k l) ρ w := h
    show CO P C gs (l = []) o (WD P C gs k' l) ρ w
    exact CO_mono id (fun ρ w h => WD_mono2 hk h) h'
theorem WD_mono3 {P : Program} {C : World → Prop} {gs : List (Option Tmp)} {k k' : Env → World → Prop} (hk : ∀ ρ w, C w → k ρ w → k' ρ w) : ∀ {l : List Oper} {ρ : Env} {w : World}, C w → (∀ o, l.getLast? = some o → isQ o.op = true) → WD P C gs k l ρ w → WD P C gs k' l ρ w
  | [], ρ, w, hC, _, h => hk _ _ hC h
  | o :: l, ρ, w, hC, hq, h => by
    have h' : CO P C gs (l = []) o (WD P C gs k l) ρ w := h
    show CO P C gs (l = []) o (WD P C gs k' l) ρ w
    refine CO_mono2 id (fun ρ' w' h1 h2 hh => WD_mono3 hk ?_ (fun o' ho' => hq o' (by cases l with | nil => simp at ho' | cons a b => simpa using ho')) hh) h'
    cases hqo : isQ o.op with
    | true => rw [h2 (.inl hqo)]; exact hC
    | false =>
      cases hw : wantE gs ρ o.guard with
      | true =>
        rcases h1 hqo hw with h3 | h3
        · exact h3
        · subst h3
          have := hq o (by simp)
          rw [hqo] at this; cases this
      | false => rw [h2 (.inr hw)]; exact hC
theorem dum_q (l : List Oper) : ∀ o, (l ++ [dum]).getLast? = some o → isQ o.op = true := fun o h => by
  rw [List.getLast?_append] at h
  simp at h
  subst h; rfl
theorem OT.run {P : Program} {id : Nat} {l : List Oper} {k : Exit → Env → World → Prop} {ρ : Env} {w : World} {H : Heap} (t : OT) (hH : HS H w) (hB : (Region.noSelect l.toArray && t.chk l.toArray (Array.replicate l.toArray.size false) && decide (t.sz = l.toArray.size)) = true) (hl : lastB l.toArray = true)
    (h : ∀ w1, Fr noB w w1 → HS H w1 → t.WT P (HS H) l.toArray (k .normal) ρ w1) : VC P (.region id l.toArray true) k ρ w := by
  refine ⟨?_⟩
  show WAny P l.toArray (k .normal) l.toArray.size (Array.replicate l.toArray.size false) ρ { w with drawn := w.drawn + 1 }
  simp only [Bool.and_eq_true] at hB
  obtain ⟨⟨hs, hc⟩, hz⟩ := hB
  have hz := of_decide_eq_true hz
  refine WAny_of_WC (C := HS H) (fun i listed o hsz ho hq hi hr => last_spec hl i listed hsz hi hr (fun o' ho' => by rw [ho] at ho'; injection ho' with e; rw [← e]; exact hq)) _ _ _ _ (by simp) (.inl hH.drew) ?_
  have := OT.sound (P := P) (C := HS H) (k := k .normal) hs t _ ρ { w with drawn := w.drawn + 1 } hc (h _ (Fr.refl noB w).drew hH.drew)
  rw [hz] at this
  exact this
/-- Reads, then two orders. -/
theorem W_drawT1 {P : Program} {id : Nat} {l : List Oper} {k : Exit → Env → World → Prop} {ρ : Env} {w : World} {H : Heap} (p : List Nat) (i : Nat) (a : List Nat) (j : Nat) (b : List Nat) (hH : HS H w)
    (hB : (Region.noSelect l.toArray && (OT.of p (.two i (OT.of a .nil) j (OT.of b .nil))).chk l.toArray (Array.replicate l.toArray.size false) && decide ((OT.of p (.two i (OT.of a .nil) j (OT.of b .nil))).sz = l.toArray.size)) = true) (hl : lastB l.toArray = true)
    (hc : (lstB l.length (i :: a) && lstB l.length (j :: b) && inB l.length p) = true)
    (h : ∀ w1, Fr noB w w1 → HS H w1 → VD P (HS H) (l.map Oper.dst) (fun ρ' w' => VD P (HS H) (l.map Oper.dst) (k .normal) (pickO l (i :: a)) ρ' w' ∧ VD P (HS H) (l.map Oper.dst) (k .normal) (pickO l (j :: b)) ρ' w') (pickO l p ++ [dum]) ρ w1) : VC P (.region id l.toArray true) k ρ w := by
  simp only [Bool.and_eq_true] at hc
  refine OT.run _ hH hB hl (fun w1 f1 h1 => WT_pre _ p ρ w1 hc.2 h1 ?_)
  have key : ∀ ρ w, VD P (HS H) (l.map Oper.dst) (k .normal) (pickO l (i :: a)) ρ w ∧ VD P (HS H) (l.map Oper.dst) (k .normal) (pickO l (j :: b)) ρ w → (OT.two i (OT.of a .nil) j (OT.of b .nil)).WT P (HS H) l.toArray (k .normal) ρ w := fun ρ w hk => ⟨WT_list (i :: a) ρ w hc.1.1 hk.1.out, WT_list (j :: b) ρ w hc.1.2 hk.2.out⟩
  exact WD_mono2 key (h w1 f1 h1).out
/-- Reads, a call and a block in either order, or the call, then another call and the block in either order. -/
theorem W_drawT2 {P : Program} {id : Nat} {l : List Oper} {k : Exit → Env → World → Prop} {ρ : Env} {w : World} {H : Heap} (p : List Nat) (i m j s : Nat) (hH : HS H w)
    (hB : (Region.noSelect l.toArray && (OT.of p (.two i (.two m (OT.of [j, s] .nil) j (OT.of [m, s] .nil)) j (OT.of [i, m, s] .nil))).chk l.toArray (Array.replicate l.toArray.size false) && decide ((OT.of p (.two i (.two m (OT.of [j, s] .nil) j (OT.of [m, s] .nil)) j (OT.of [i, m, s] .nil))).sz = l.toArray.size)) = true) (hl : lastB l.toArray = true)
    (hc : (lstB l.length [j, i, m, s] && lstB l.length [m, j, s] && lstB l.length [j, m, s] && inB l.length [i] && inB l.length p) = true)
    (h : ∀ w1, Fr noB w w1 → HS H w1 → VD P (HS H) (l.map Oper.dst) (fun ρ' w' => VD P (HS H) (l.map Oper.dst) (fun ρ2 w2 => HS H w2 → VD P (HS H) (l.map Oper.dst) (k .normal) (pickO l [m, j, s]) ρ2 w2 ∧ VD P (HS H) (l.map Oper.dst) (k .normal) (pickO l [j, m, s]) ρ2 w2) (pickO l [i] ++ [dum]) ρ' w' ∧ VD P (HS H) (l.map Oper.dst) (k .normal) (pickO l [j, i, m, s]) ρ' w') (pickO l p ++ [dum]) ρ w1) : VC P (.region id l.toArray true) k ρ w := by
  simp only [Bool.and_eq_true] at hc
  obtain ⟨⟨⟨⟨c1, c2⟩, c3⟩, c4⟩, c5⟩ := hc
  refine OT.run _ hH hB hl (fun w1 f1 h1 => WT_pre _ p ρ w1 c5 h1 ?_)
  refine WD_mono3 (fun ρ' w' hw' hk => ?_) h1 (dum_q _) (h w1 f1 h1).out
  refine ⟨?_, WT_list [j, i, m, s] ρ' w' c1 hk.2.out⟩
  have := WT_pre (P := P) (C := HS H) (k := k .normal) (OT.two m (OT.of [j, s] .nil) j (OT.of [m, s] .nil)) [i] ρ' w' c4 hw' (WD_mono3 (fun ρ2 w2 hw2 hk2 => ⟨WT_list [m, j, s] ρ2 w2 c2 (hk2 hw2).1.out, WT_list [j, m, s] ρ2 w2 c3 (hk2 hw2).2.out⟩) hw' (dum_q _) hk.1.out)
  exact this
end Go.Wf
