/-  The judge inside a theorem: the plain steps.  -/
import Derived.Test.YbzaawGreatJudgeB0
namespace Go.Proofs.YbzaawGreat
open Go.Wf Go.Deep
set_option linter.unusedSimpArgs false
set_option linter.unusedVariables false

theorem JS.cur_nil {st : JS} (h : st.stack = []) : st.cur = -1 := by unfold JS.cur; rw [h]; rfl
theorem JS.cur_last {st : JS} {b : Nat} (h : st.stack.getLast? = some b) : st.cur = b := by unfold JS.cur; rw [h]
theorem JOk.cur {st : JS} (h : JOk st) : -1 ≤ st.cur ∧ st.cur < st.boxes.length := by
  unfold JS.cur
  cases e : st.stack.getLast? with
  | none => exact ⟨by simp, by simp; omega⟩
  | some b =>
    have := h.stk b (List.mem_of_getLast? e)
    exact ⟨by show (-1 : Int) ≤ (b : Int); omega, by show (b : Int) < _; omega⟩
theorem JOk.nil : JOk js0 := ⟨fun _ h => (by cases h), fun _ h => (by cases h), fun _ h => (by cases h), fun _ h => (by cases h), fun _ h => (by cases h), Nat.le_refl _⟩
theorem JOk.prem {st : JS} (h : JOk st) (f : List Nd) (ps : List FT) : JOk ⟨st.nums ++ [⟨f, 2, -1⟩], st.boxes, st.stack, ps⟩ := by
  refine ⟨fun x hx => ?_, fun x hx h3 => ?_, h.par, fun b hb => ?_, h.stk, ?_⟩
  · rcases List.mem_append.1 hx with hx | hx
    · exact h.box x hx
    · simp at hx; subst hx; exact ⟨by simp, by simp; omega⟩
  · rcases List.mem_append.1 hx with hx | hx
    · exact h.k3 x hx h3
    · simp at hx; subst hx; simp at h3
  · have := h.last b hb
    simp only [List.length_append, List.length_cons, List.length_nil]
    omega
  · have := h.nb
    simp only [List.length_append, List.length_cons, List.length_nil]
    omega
theorem JOk.ass {st : JS} (h : JOk st) (f : List Nd) (ps : List FT) : JOk ⟨st.nums ++ [⟨f, 3, st.boxes.length⟩], st.boxes ++ [⟨st.cur, true, st.nums.length + 1, st.nums.length + 1⟩], st.stack ++ [st.boxes.length], ps⟩ := by
  have hcur := h.cur
  have hnb := h.nb
  refine ⟨fun x hx => ?_, fun x hx h3 => ?_, fun b hb => ?_, fun b hb => ?_, fun s hs => ?_, ?_⟩
  · simp only [List.length_append, List.length_cons, List.length_nil]
    rcases List.mem_append.1 hx with hx | hx
    · have := h.box x hx; omega
    · simp at hx; subst hx; exact ⟨by show (-1 : Int) ≤ (st.boxes.length : Int); omega, by show (st.boxes.length : Int) < _; omega⟩
  · rcases List.mem_append.1 hx with hx | hx
    · exact h.k3 x hx h3
    · simp at hx; subst hx; simp
  · simp only [List.length_append, List.length_cons, List.length_nil]
    rcases List.mem_append.1 hb with hb | hb
    · have := h.par b hb; omega
    · simp at hb; subst hb; simp only; omega
  · simp only [List.length_append, List.length_cons, List.length_nil]
    rcases List.mem_append.1 hb with hb | hb
    · have := h.last b hb; omega
    · simp at hb; subst hb; simp only; omega
  · simp only [List.length_append, List.length_cons, List.length_nil]
    rcases List.mem_append.1 hs with hs | hs
    · have := h.stk s hs; omega
    · simp at hs; omega
  · simp only [List.length_append, List.length_cons, List.length_nil]; omega
theorem mem_set_or {α : Type} {l : List α} {i : Nat} {a x : α} (h : x ∈ l.set i a) : x ∈ l ∨ x = a := by
  rcases List.mem_or_eq_of_mem_set h with h | h
  · exact .inl h
  · exact .inr h
theorem getD_mem {α : Type} {l : List α} {i : Nat} (d : α) (h : i < l.length) : l.getD i d ∈ l := by
  rw [show l.getD i d = l[i] by simp [h]]; exact List.getElem_mem _
theorem JOk.fin {st : JS} (h : JOk st) (hc : 0 ≤ st.cur) (ps : List FT) : JOk ⟨st.nums, setOpen st.boxes st.cur.toNat, st.stack.dropLast, ps⟩ := by
  have hcur := h.cur
  have hm := getD_mem bx0 (show st.cur.toNat < st.boxes.length by omega)
  have hl : (setOpen st.boxes st.cur.toNat).length = st.boxes.length := by simp [setOpen]
  refine ⟨fun x hx => by rw [hl]; exact h.box x hx, h.k3, fun b hb => ?_, fun b hb => ?_, fun s hs => ?_, by rw [hl]; exact h.nb⟩
  · rw [hl]
    rcases mem_set_or hb with hb | hb
    · exact h.par b hb
    · have := h.par _ hm; rw [hb]; exact this
  · rcases mem_set_or hb with hb | hb
    · exact h.last b hb
    · have := h.last _ hm; rw [hb]; exact this
  · rw [hl]; exact h.stk s (List.dropLast_sublist _ |>.subset hs)
theorem JOk.step {st : JS} (h : JOk st) (f : List Nd) (ps : List FT) : JOk ⟨st.nums ++ [⟨f, 4, st.cur⟩], setLast st.boxes st.cur (st.nums.length + 1), st.stack, ps⟩ := by
  have hcur := h.cur
  have hnb := h.nb
  have hl : (setLast st.boxes st.cur (st.nums.length + 1)).length = st.boxes.length := by unfold setLast; split <;> simp
  have hmem : ∀ b ∈ setLast st.boxes st.cur (st.nums.length + 1), (-1 ≤ b.parent ∧ b.parent < st.boxes.length) ∧ 1 ≤ b.last ∧ b.last ≤ st.nums.length + 1 := fun b hb => by
    unfold setLast at hb
    split at hb
    · have := h.last b hb
      exact ⟨h.par b hb, by omega⟩
    · rcases mem_set_or hb with hb | hb
      · have := h.last b hb
        exact ⟨h.par b hb, by omega⟩
      · have hm := getD_mem bx0 (show st.cur.toNat < st.boxes.length by omega)
        have := h.par _ hm
        rw [hb]
        exact ⟨this, by simp⟩
  refine ⟨fun x hx => ?_, fun x hx h3 => ?_, fun b hb => by rw [hl]; exact (hmem b hb).1, fun b hb => by simpa using (hmem b hb).2, fun s hs => by rw [hl]; exact h.stk s hs, by rw [hl]; simp; omega⟩
  · rw [hl]
    rcases List.mem_append.1 hx with hx | hx
    · exact h.box x hx
    · simp at hx; subst hx; exact hcur
  · rcases List.mem_append.1 hx with hx | hx
    · exact h.k3 x hx h3
    · simp at hx; subst hx; simp at h3
theorem setLast_len (bs : List Bx) (b : Int) (n : Nat) : (setLast bs b n).length = bs.length := by unfold setLast; split <;> simp
theorem setOpen_len (bs : List Bx) (b : Nat) : (setOpen bs b).length = bs.length := by simp [setOpen]
section
variable {P : List Vd} {st : JS} {l : Ln}
theorem lj_bad (h : lnBad l) : lineJ P st l = .inl 1 := by unfold lineJ; rw [if_pos h]
theorem lj_1 (h : ¬ lnBad l) (h2 : l.kind ≠ 2) (h3 : l.kind ≠ 3) (h4 : l.kind ≠ 4) (h5 : l.kind ≠ 5) : lineJ P st l = .inr st := by unfold lineJ; rw [if_neg h, if_neg h2, if_neg h3, if_neg h5, if_neg h4]
theorem lj_2a (h : ¬ lnBad l) (hk : l.kind = 2) (hcur : 0 ≤ st.cur) : lineJ P st l = .inl 4 := by unfold lineJ; rw [if_neg h, if_pos hk, if_pos hcur]
theorem lj_2b (h : ¬ lnBad l) (hk : l.kind = 2) (hcur : ¬ 0 ≤ st.cur) : lineJ P st l = .inr ⟨st.nums ++ [⟨l.f, 2, -1⟩], st.boxes, st.stack, st.prem ++ [trOf l.f]⟩ := by unfold lineJ; rw [if_neg h, if_pos hk, if_neg hcur]
theorem lj_3 (h : ¬ lnBad l) (hk : l.kind = 3) : lineJ P st l = .inr ⟨st.nums ++ [⟨l.f, 3, st.boxes.length⟩], st.boxes ++ [⟨st.cur, true, st.nums.length + 1, st.nums.length + 1⟩], st.stack ++ [st.boxes.length], st.prem⟩ := by unfold lineJ; rw [if_neg h, if_neg (by omega), if_pos hk]
theorem lj_5a (h : ¬ lnBad l) (hk : l.kind = 5) (hcur : st.cur < 0) : lineJ P st l = .inl 5 := by unfold lineJ; rw [if_neg h, if_neg (by omega), if_neg (by omega), if_pos hk, if_pos hcur]
theorem lj_5b (h : ¬ lnBad l) (hk : l.kind = 5) (hcur : ¬ st.cur < 0) : lineJ P st l = .inr ⟨st.nums, setOpen st.boxes st.cur.toNat, st.stack.dropLast, st.prem⟩ := by unfold lineJ; rw [if_neg h, if_neg (by omega), if_neg (by omega), if_pos hk, if_neg hcur]
theorem lj_4a (h : ¬ lnBad l) (hk : l.kind = 4) (hc : checkF P st l ≠ 0) : lineJ P st l = .inl (checkF P st l) := by unfold lineJ; rw [if_neg h, if_neg (by omega), if_neg (by omega), if_neg (by omega), if_pos hk, if_pos hc]
theorem lj_4b (h : ¬ lnBad l) (hk : l.kind = 4) (hc : checkF P st l = 0) : lineJ P st l = .inr ⟨st.nums ++ [⟨l.f, 4, st.cur⟩], setLast st.boxes st.cur (st.nums.length + 1), st.stack, st.prem⟩ := by unfold lineJ; rw [if_neg h, if_neg (by omega), if_neg (by omega), if_neg (by omega), if_pos hk, if_neg (fun e => e hc)]
/-- The verdict, from where the judge stands and the lines to come. -/
noncomputable def resJ (P : List Vd) (src : Int) (st : JS) (r : List Ln) : Vd := match linesJ P st r with | .inl (c, s) => failF c s | .inr st => endJ src st
theorem resJ_nil (src : Int) : resJ P src st [] = endJ src st := rfl
theorem resJ_inl {src : Int} {r : List Ln} {c : Int} (h : lineJ P st l = .inl c) : resJ P src st (l :: r) = failF c l.src := by unfold resJ linesJ; rw [h]
theorem resJ_inr {src : Int} {r : List Ln} {st' : JS} (h : lineJ P st l = .inr st') : resJ P src st (l :: r) = resJ P src st' r := by unfold resJ; rw [linesJ, h]
theorem resJ_0 (src : Int) (r : List Ln) : blockJ P src r = resJ P src js0 r := rfl
end
theorem wf_of {l : Ln} (h : ¬ lnBad l) (hk : l.kind = 2 ∨ l.kind = 3 ∨ l.kind = 4) : ∃ t, WF l.f t := Classical.byContradiction fun e => h (.inr (.inr (.inl ⟨hk, e⟩)))
theorem rule_of {l : Ln} (h : ¬ lnBad l) (hk : l.kind = 4) : 1 ≤ l.rule ∧ l.rule ≤ 17 ∧ fitsF l.rule l.refs.length = true := by
  refine ⟨Int.not_lt.1 fun e => h (.inr (.inr (.inr ⟨hk, .inl e⟩))), Int.not_lt.1 fun e => h (.inr (.inr (.inr ⟨hk, .inr (.inl e)⟩))), ?_⟩
  cases e : fitsF l.rule l.refs.length with
  | true => rfl
  | false => exact absurd (.inr (.inr (.inr ⟨hk, .inr (.inr e)⟩))) h
theorem kind_of {l : Ln} (h : ¬ lnBad l) : 1 ≤ l.kind ∧ l.kind < 6 := ⟨Int.not_lt.1 fun e => h (.inl e), Int.not_le.1 fun e => h (.inr (.inl e))⟩
theorem drop_at (L : List Ln) (i : Nat) (d : Ln) (h : i < L.length) : L.drop i = L.getD i d :: L.drop (i + 1) := by
  rw [List.drop_eq_getElem_cons h]; simp [h]
/-- The last line outside of boxes, counted from one, or -1. -/
def gI (ns : List Num) (n : Nat) : Int := if goalAt ns n < 0 then -1 else goalAt ns n + 1
theorem goalAt_bd (ns : List Num) : ∀ n, -1 ≤ goalAt ns n ∧ goalAt ns n < n
  | 0 => by simp [goalAt]
  | n + 1 => by
    have := goalAt_bd ns n
    unfold goalAt
    split <;> omega
theorem gI_succ (ns : List Num) (n : Nat) : gI ns (n + 1) = if (ns.getD n num0).box < 0 then (n : Int) + 1 else gI ns n := by
  unfold gI
  rw [goalAt]
  by_cases h : (ns.getD n num0).box < 0
  · rw [if_pos h, if_pos h, if_neg (by omega)]
  · rw [if_neg h, if_neg h]
end Go.Proofs.YbzaawGreat
