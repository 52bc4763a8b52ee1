/-  The builder's text: joined lines, read and judged.  -/
import Derived.Test.YbzaawGreatBTx
import Derived.Test.YbzaawGreatMatchP
namespace Go.Proofs.YbzaawGreat
open Go.Wf Go.Deep
set_option linter.unusedSimpArgs false
set_option linter.unusedVariables false

def tailB (ls : List LT) : List UInt8 := ls.flatMap fun l => 10 :: l.tx
/-- The lines joined. -/
def joinB : List LT → List UInt8
  | [] => []
  | l :: r => l.tx ++ tailB r
theorem tailB_cons (l : LT) (r : List LT) : tailB (l :: r) = 10 :: (l.tx ++ tailB r) := by simp [tailB]
theorem tailB_snoc (r : List LT) (l : LT) : tailB (r ++ [l]) = tailB r ++ 10 :: l.tx := by simp [tailB]
theorem joinB_snoc {ls : List LT} (h : ls ≠ []) (l : LT) : joinB (ls ++ [l]) = joinB ls ++ 10 :: l.tx := by
  cases ls with
  | nil => exact absurd rfl h
  | cons x r => simp [joinB, tailB_snoc]
theorem joinB_len {l : LT} : ∀ {ls : List LT}, l ∈ ls → l.tx.length ≤ (joinB ls).length := by
  have key : ∀ r : List LT, l ∈ r → l.tx.length ≤ (tailB r).length := by
    intro r
    induction r with
    | nil => intro h; cases h
    | cons y m ih =>
      intro h
      rw [tailB_cons]
      rcases List.mem_cons.1 h with rfl | h
      · simp; omega
      · have := ih h; simp; omega
  intro ls h
  cases ls with
  | nil => cases h
  | cons x r =>
    rcases List.mem_cons.1 h with rfl | h
    · simp [joinB]
    · have := key r h; simp [joinB]; omega
theorem joinB_cnt : ∀ ls : List LT, ls.length ≤ (joinB ls).length + 1 := by
  have key : ∀ r : List LT, r.length ≤ (tailB r).length := by
    intro r
    induction r with
    | nil => simp [tailB]
    | cons y m ih => rw [tailB_cons]; simp; omega
  intro ls
  cases ls with
  | nil => simp
  | cons x r => have := key r; simp [joinB]; omega
theorem word_no10 {c : Nat} (h : wordB c = true) : c ≠ 10 := by rintro rfl; revert h; decide
theorem dig_no10 {c : Nat} (h : digB c = true) : c ≠ 10 := by rintro rfl; revert h; decide
theorem name_no10 {x : ByteArray} (hx : nameB x = true) : ∀ c ∈ x.data.toList, c.toNat ≠ 10 := by
  intro c hc
  obtain ⟨k, hk, rfl⟩ := List.getElem_of_mem hc
  have hks : k < x.size := by simpa using hk
  have hl0 : lowB (byteAt x 0) = true := by
    simp only [nameB, Bool.and_eq_true, decide_eq_true_eq] at hx; exact hx.1.2
  have hw : wordB (byteAt x k) = true := by
    by_cases e : k = 0
    · subst e; simp [wordB, hl0]
    · cases hq : wordB (byteAt x k) with
      | true => rfl
      | false => rw [nameB_false (by omega) hks hq] at hx; cases hx
  have := word_no10 hw
  unfold byteAt at this
  simpa [Array.getD, hks] using this
theorem opB_no10 (op : Int) : ∀ c ∈ opB op, c.toNat ≠ 10 := by
  unfold opB
  split
  · decide
  · split
    · decide
    · split <;> decide
theorem show_no10 : ∀ t, Shape okName t → ∀ c ∈ showB t, c.toNat ≠ 10 := by
  refine Shape.ind ?_ ?_ ?_ ?_
  · intro s hs; rw [show_A]; exact name_no10 hs
  · rw [show_B0]; decide
  · intro t _ ih c hc
    rw [show_N] at hc
    rcases List.mem_cons.1 hc with rfl | hc
    · decide
    · exact ih c hc
  · intro op l r h4 h7 _ _ ihl ihr c hc
    rw [show_B h4] at hc
    simp only [List.mem_cons, List.mem_append, List.not_mem_nil, or_false] at hc
    rcases hc with rfl | hc | hc | hc | rfl
    · decide
    · exact ihl c hc
    · exact opB_no10 op c hc
    · exact ihr c hc
    · decide
theorem tx_no10 {l : LT} (hg : l.good) : ∀ c ∈ l.tx, c.toNat ≠ 10 := by
  cases l with
  | thm => decide
  | bl1 => decide
  | bl2 => decide
  | en => decide
  | bad => decide
  | pr t =>
    intro c hc
    simp only [LT.tx, List.mem_append, List.mem_cons] at hc
    rcases hc with hc | rfl | hc
    · exact name_no10 (x := sPrem) (by decide) c hc
    · decide
    · exact show_no10 t (BF.sh hg) c hc
  | as_ t =>
    intro c hc
    simp only [LT.tx, List.mem_append, List.mem_cons] at hc
    rcases hc with hc | rfl | hc
    · exact name_no10 (x := sAss) (by decide) c hc
    · decide
    · exact show_no10 t (BF.sh hg) c hc
  | st d r refs =>
    obtain ⟨hd, h1, h17, _, hr, _⟩ := hg
    intro c hc
    simp only [LT.tx, List.mem_append, List.mem_cons] at hc
    rcases hc with hc | rfl | hc | rfl | hc | hc
    · exact show_no10 d hd.sh c hc
    · decide
    · exact name_no10 (x := sBy) (by decide) c hc
    · decide
    · exact name_no10 (ruleNm_name r h1 h17).1 c hc
    · unfold refsB at hc
      obtain ⟨x, hx, hc⟩ := List.mem_flatMap.1 hc
      rcases List.mem_cons.1 hc with rfl | hc
      · decide
      · exact dig_no10 ((decB_digs x (hr x hx)).2.1 c hc)
theorem restP_run {s : ByteArray} {st : Nat} {l : List UInt8} (h : TxAt s st l) (hno : ∀ c ∈ l, c.toNat ≠ 10) : ∀ k, k ≤ l.length → restP s st st = restP s (st + k) st
  | 0, _ => rfl
  | k + 1, hk => by
    rw [restP_run h hno k (by omega)]
    have h1 := h.1
    refine restP_no st (by omega) ?_
    unfold byteAt
    rw [h.2 k (by omega), show l.getD k 0 = l[k]'(by omega) by simp [List.getD, show k < l.length by omega]]
    exact hno _ (List.getElem_mem _)
def LT.ba (l : LT) : ByteArray := ⟨l.tx.toArray⟩
theorem pieces_join {s : ByteArray} : ∀ (r : List LT) (l : LT) (st : Nat), (∀ x ∈ l :: r, x.good) → TxAt s st (l.tx ++ tailB r) → st + (l.tx ++ tailB r).length = s.size → restP s st st = (l :: r).map LT.ba := by
  intro r
  induction r with
  | nil =>
    intro l st hg h he
    rw [show tailB [] = [] from rfl, List.append_nil] at h he
    rw [restP_run h (tx_no10 (hg l (by simp))) _ (Nat.le_refl _), he, restP_end]
    have := bb_ext (s := s) (i := st) (x := l.ba) (by simpa [LT.ba] using h)
    rw [show st + l.ba.size = s.size by unfold LT.ba; rw [size_mk]; omega] at this
    rw [this]; rfl
  | cons y m ih =>
    intro l st hg h he
    obtain ⟨h1, h2⟩ := h.app
    rw [tailB_cons] at h2 he
    obtain ⟨g1, e1, h3⟩ := h2.cons
    rw [restP_run h1 (tx_no10 (hg l (by simp))) _ (Nat.le_refl _), restP_nl st g1 e1]
    have := bb_ext (s := s) (i := st) (x := l.ba) (by simpa [LT.ba] using h1)
    rw [show st + l.ba.size = st + l.tx.length by unfold LT.ba; rw [size_mk]] at this
    rw [this, ih y _ (fun x hx => hg x (by simp [List.mem_cons.1 hx])) h3 (by simp at he ⊢; omega)]; rfl
/-- The lines as the judge sees them. -/
def lnsOf : List LT → Nat → List Ln
  | [], _ => []
  | l :: r, k => match l.ln k with | none => lnsOf r (k + 1) | some x => x :: lnsOf r (k + 1)
theorem lnsOf_app : ∀ (a b : List LT) (k : Nat), lnsOf (a ++ b) k = lnsOf a k ++ lnsOf b (k + a.length)
  | [], b, k => by simp [lnsOf]
  | l :: r, b, k => by
    simp only [List.cons_append, lnsOf, List.length_cons]
    rw [lnsOf_app r b (k + 1), show k + 1 + r.length = k + (r.length + 1) by omega]
    cases l.ln k <;> rfl
theorem lnsOf_len : ∀ (a : List LT) (k : Nat), (lnsOf a k).length ≤ a.length
  | [], k => by simp [lnsOf]
  | l :: r, k => by
    have := lnsOf_len r (k + 1)
    simp only [lnsOf]
    cases l.ln k <;> simp <;> omega
section
variable {P : PP} (hP : ∀ ts, Ans ts (P ts).1 (P ts).2)
include hP
theorem linesF_lt : ∀ (ls : List LT) (k : Nat), (∀ l ∈ ls, l.good ∧ l.tx.length ≤ 65536) → linesF P (ls.map LT.ba) k = lnsOf ls k
  | [], k, _ => rfl
  | l :: r, k, h => by
    obtain ⟨h1, h2⟩ := h l (by simp)
    have ih := linesF_lt r (k + 1) (fun x hx => h x (by simp [hx]))
    have e := lt_read hP h1 h2 k
    rw [List.map_cons]
    simp only [lnsOf]
    cases hl : l.ln k with
    | none => rw [hl] at e; rw [linesF_blank (p := l.ba) _ _ e, ih]
    | some x => rw [hl] at e; rw [linesF_line (p := l.ba) _ _ e.1, ih, show (lineF P (toksOf l.ba)).at_ k = x from e.2]
theorem textF_join {ls : List LT} (hne : ls ≠ []) (hg : ∀ l ∈ ls, l.good) (hs : (joinB ls).length ≤ 65536) : textF P ⟨(joinB ls).toArray⟩ = lnsOf ls 1 := by
  unfold textF pieces
  rw [if_neg (by rw [size_mk]; omega)]
  cases ls with
  | nil => exact absurd rfl hne
  | cons l r =>
    rw [show joinB (l :: r) = l.tx ++ tailB r from rfl, pieces_join r l 0 hg (TxAt.self _) (by rw [size_mk (l.tx ++ tailB r)]; simp)]
    exact linesF_lt hP _ 1 (fun x hx => ⟨hg x hx, Nat.le_trans (joinB_len hx) hs⟩)
end
/-- A block that the judge takes. -/
structure BOk (vs : List Vd) (body : List LT) (v : Vd) : Prop where
  good : ∀ l ∈ body, l.good
  noT : ∀ l ∈ body, ∀ k x, l.ln k = some x → x.kind ≠ 1
  len : body.length ≤ 30
  ok : v.ok = true
  pf : ∀ t ∈ v.prem, BF t
  gf : BF v.goal
  pn : v.prem.length ≤ 3
  acc : ∀ k, Acc vs js0 (lnsOf body k) v
/-- What the builder has built. -/
inductive BR : List LT → List Vd → Prop
  | nil : BR [] []
  | add {ls : List LT} {vs : List Vd} (h : BR ls vs) (bl : List LT) (hbl : bl = [] ∨ bl = [.bl1, .bl2]) {body : List LT} {v : Vd} (hb : BOk vs body v) : BR (ls ++ .thm :: (bl ++ body)) (vs ++ [v])
theorem BR.good {ls : List LT} {vs : List Vd} (h : BR ls vs) : ∀ l ∈ ls, l.good := by
  induction h with
  | nil => intro l hl; cases hl
  | add h bl hbl hb ih =>
    intro l hl
    simp only [List.mem_append, List.mem_cons] at hl
    rcases hl with hl | rfl | hl | hl
    · exact ih l hl
    · trivial
    · rcases hbl with rfl | rfl
      · cases hl
      · simp at hl; rcases hl with rfl | rfl <;> trivial
    · exact hb.good l hl
theorem BR.len {ls : List LT} {vs : List Vd} (h : BR ls vs) : vs.length ≤ ls.length := by
  induction h with
  | nil => simp
  | add h bl hbl hb ih => simp; omega
theorem BR.vs {ls : List LT} {vs : List Vd} (h : BR ls vs) : ∀ v ∈ vs, v.ok = true ∧ (∀ t ∈ v.prem, BF t) ∧ BF v.goal ∧ v.prem.length ≤ 3 := by
  induction h with
  | nil => intro v hv; cases hv
  | add h bl hbl hb ih =>
    intro v hv
    rcases List.mem_append.1 hv with hv | hv
    · exact ih v hv
    · rw [List.mem_singleton] at hv; subst hv; exact ⟨hb.ok, hb.pf, hb.gf, hb.pn⟩
theorem noT_all : ∀ {body : List LT}, (∀ l ∈ body, ∀ k x, l.ln k = some x → x.kind ≠ 1) → ∀ k, ∀ x ∈ lnsOf body k, x.kind ≠ 1
  | [], _, k, x, hx => by cases hx
  | l :: r, h, k, x, hx => by
    have ih := noT_all (body := r) (fun y hy => h y (by simp [hy])) (k + 1)
    simp only [lnsOf] at hx
    cases hl : l.ln k with
    | none => rw [hl] at hx; exact ih x hx
    | some y =>
      rw [hl] at hx
      rcases List.mem_cons.1 hx with rfl | hx
      · exact h l (by simp) k _ hl
      · exact ih x hx
theorem tw_all2 {α : Type} {p : α → Bool} : ∀ {l r : List α}, (∀ x ∈ l, p x = true) → (l ++ r).takeWhile p = l ++ r.takeWhile p
  | [], r, _ => rfl
  | x :: l, r, h => by
    rw [List.cons_append, List.takeWhile_cons_of_pos (h x (by simp)), tw_all2 fun y hy => h y (by simp [hy]), List.cons_append]
theorem blks_skips : ∀ {B : List Ln} (rest : List Ln), (∀ x ∈ B, x.kind ≠ 1) → blks (B ++ rest) = blks rest
  | [], rest, _ => rfl
  | x :: B, rest, h => by
    rw [List.cons_append, blks, if_neg (h x (by simp))]
    exact blks_skips rest (fun y hy => h y (by simp [hy]))
theorem blks_one {T : Ln} {B rest : List Ln} (hT : T.kind = 1) (hB : ∀ x ∈ B, x.kind ≠ 1) (hr : rest = [] ∨ ∃ x m, rest = x :: m ∧ x.kind = 1) : blks (T :: (B ++ rest)) = (T.src, B) :: blks rest := by
  rw [blks, if_pos hT, blks_skips rest hB, tw_all2 (fun x hx => by simpa using hB x hx)]
  have : rest.takeWhile (fun x => decide (x.kind ≠ 1)) = [] := by
    rcases hr with rfl | ⟨x, m, rfl, hx⟩
    · rfl
    · rw [List.takeWhile_cons_of_neg (by simp [hx])]
  rw [this, List.append_nil]
theorem acc_block {prev : List Vd} {ls : List Ln} {v : Vd} (h : Acc prev js0 ls v) (s : Int) : blockJ prev s ls = v := by
  obtain ⟨st, h1, h2⟩ := h
  unfold blockJ
  rw [h1]; exact h2 s
/-- A block's lines: the theorem's line, and the body. -/
theorem lnsOf_blk {bl body : List LT} (hbl : bl = [] ∨ bl = [.bl1, .bl2]) (k : Nat) : ∃ k2, lnsOf (.thm :: (bl ++ body)) k = ⟨1, [], 0, [], k⟩ :: lnsOf body k2 := by
  rcases hbl with rfl | rfl
  · exact ⟨k + 1, rfl⟩
  · exact ⟨k + 3, rfl⟩
theorem BR.judge {ls : List LT} {vs : List Vd} (h : BR ls vs) : ∀ (k : Nat) (rest : List Ln), (rest = [] ∨ ∃ x m, rest = x :: m ∧ x.kind = 1) → judgeB [] (blks (lnsOf ls k ++ rest)) = judgeB vs (blks rest) := by
  induction h with
  | nil => intro k rest _; rfl
  | @add ls vs h bl hbl body v hb ih =>
    intro k rest hr
    rw [lnsOf_app, List.append_assoc]
    obtain ⟨k2, e⟩ := lnsOf_blk (body := body) hbl (k + ls.length)
    rw [e, List.cons_append, ih k _ (.inr ⟨_, _, rfl, rfl⟩), blks_one rfl (noT_all hb.noT k2) hr]
    show judgeB (vs ++ [blockJ vs _ _]) _ = _
    rw [acc_block (hb.acc k2)]
theorem BR.judgeF {ls : List LT} {vs : List Vd} (h : BR ls vs) : judgeF (lnsOf ls 1) = vs := by
  have := h.judge 1 [] (.inl rfl)
  rw [List.append_nil] at this
  exact this
/-- The line spoils the theorem. -/
def Spoils (f : Ln) : Prop := f.kind ≠ 1 ∧ ∀ (prev : List Vd) (st : JS), prev.length < 99999 → st.stack = [] → st.nums.length ≤ 1000 → (∃ c, lineJ prev st f = .inl c) ∨ (∃ st', lineJ prev st f = .inr st' ∧ st'.stack ≠ [])
theorem linesJ_app {prev : List Vd} : ∀ {ls : List Ln} {st st' : JS} (r : List Ln), linesJ prev st ls = .inr st' → linesJ prev st (ls ++ r) = linesJ prev st' r
  | [], st, st', r, h => by cases h; rfl
  | l :: m, st, st', r, h => by
    rw [List.cons_append]
    simp only [linesJ] at h ⊢
    cases hl : lineJ prev st l with
    | inl c => rw [hl] at h; cases h
    | inr s2 => rw [hl] at h; exact linesJ_app r h
theorem lineJ_nums {prev : List Vd} {st st' : JS} {l : Ln} (h : lineJ prev st l = .inr st') : st'.nums.length ≤ st.nums.length + 1 := by
  unfold lineJ at h
  split at h
  · cases h
  · split at h
    · split at h
      · cases h
      · cases h; simp
    · split at h
      · cases h; simp
      · split at h
        · split at h
          · cases h
          · cases h; simp
        · split at h
          · split at h
            · cases h
            · cases h; simp
          · cases h; omega
theorem linesJ_nums {prev : List Vd} : ∀ {ls : List Ln} {st st' : JS}, linesJ prev st ls = .inr st' → st'.nums.length ≤ st.nums.length + ls.length
  | [], st, st', h => by cases h; simp
  | l :: r, st, st', h => by
    unfold linesJ at h
    split at h
    · cases h
    · rename_i st2 e
      have h1 := lineJ_nums e
      have h2 := linesJ_nums h
      rw [List.length_cons]
      omega
theorem spoil_block {prev : List Vd} {ls : List Ln} {v : Vd} (h : Acc prev js0 ls v) (hv : v.ok = true) (hl : ls.length ≤ 30) (hp : prev.length < 99999) {f : Ln} (hf : Spoils f) (s : Int) : (blockJ prev s (ls ++ [f])).ok = false := by
  obtain ⟨st, h1, h2⟩ := h
  have hn := linesJ_nums h1
  have hstk : st.stack = [] := by
    apply Classical.byContradiction
    intro e
    have := h2 s
    unfold endJ at this
    rw [if_pos e] at this
    rw [← this] at hv
    cases hv
  unfold blockJ
  rw [linesJ_app [f] h1]
  rcases hf.2 prev st hp hstk (by simp [js0] at hn; omega) with ⟨c, e⟩ | ⟨st', e, h3⟩
  · simp only [linesJ, e]; rfl
  · simp only [linesJ, e, endJ, if_pos h3]; rfl
theorem BR.spoilt {ls : List LT} {vs : List Vd} (h : BR ls vs) (hne : vs ≠ []) (hl : vs.length < 99999) {fl : LT} {f : Nat → Ln} (hfl : ∀ k : Nat, fl.ln k = some (f k)) (hf : ∀ k, Spoils (f k)) : ∃ u, u.ok = false ∧ Go.Proofs.YbzaawGreat.judgeF (lnsOf (ls ++ [fl]) 1) = vs.dropLast ++ [u] := by
  cases h with
  | nil => exact absurd rfl hne
  | @add ls vs h bl hbl body v hb =>
    rw [List.length_append] at hl
    obtain ⟨k2, e⟩ := lnsOf_blk (body := body) hbl (1 + ls.length)
    have e2 : lnsOf [fl] (1 + (ls ++ LT.thm :: (bl ++ body)).length) = [f (1 + (ls ++ LT.thm :: (bl ++ body)).length)] := by
      simp only [lnsOf, hfl]
    refine ⟨blockJ vs ((1 + ls.length : Nat) : Int) (lnsOf body k2 ++ [f (1 + (ls ++ LT.thm :: (bl ++ body)).length)]), ?_, ?_⟩
    · exact spoil_block (hb.acc k2) hb.ok (Nat.le_trans (lnsOf_len _ _) hb.len) (by omega) (hf _) _
    · unfold Go.Proofs.YbzaawGreat.judgeF
      rw [lnsOf_app, e2, lnsOf_app, e, List.append_assoc, List.cons_append, h.judge 1 _ (.inr ⟨_, _, rfl, rfl⟩)]
      have hB : ∀ x ∈ lnsOf body k2 ++ [f (1 + (ls ++ LT.thm :: (bl ++ body)).length)], x.kind ≠ 1 := fun x hx => by
        rcases List.mem_append.1 hx with hx | hx
        · exact noT_all hb.noT k2 x hx
        · rw [List.mem_singleton] at hx; subst hx; exact (hf _).1
      have := blks_one (T := ⟨1, [], 0, [], ((1 + ls.length : Nat) : Int)⟩) rfl hB (.inl rfl)
      rw [List.append_nil] at this
      rw [this, List.dropLast_concat]
      rfl
/-- The five lines that spoil. -/
inductive FaultL : LT → Prop
  | copy : FaultL (.st (tA ⟨#[112]⟩) 1 [1000000000])
  | en : FaultL .en
  | ass : FaultL (.as_ (tA ⟨#[112]⟩))
  | bad : FaultL .bad
  | use : FaultL (.st (tA ⟨#[112]⟩) 17 [99999])
theorem bfP : BF (tA ⟨#[112]⟩) := ⟨shA (by unfold bName; decide), by rw [sz_A]; omega⟩
theorem FaultL.good {l : LT} (h : FaultL l) : l.good := by
  cases h with
  | copy => exact ⟨bfP, by decide, by decide, by decide, by decide, by decide⟩
  | en => trivial
  | ass => exact bfP
  | bad => trivial
  | use => exact ⟨bfP, by decide, by decide, by decide, by decide, by decide⟩
theorem FaultL.spoils {l : LT} (h : FaultL l) : ∃ f : Nat → Ln, (∀ k : Nat, l.ln k = some (f k)) ∧ ∀ k, Spoils (f k) := by
  cases h with
  | copy =>
    refine ⟨_, fun k => rfl, fun k => ⟨by simp [lnS], fun prev st hp hs hn => .inl ?_⟩⟩
    unfold lineJ
    split
    · exact ⟨_, rfl⟩
    · rw [if_neg (by simp [lnS]), if_neg (by simp [lnS]), if_neg (by simp [lnS]), if_pos (by simp [lnS]), if_pos ?_]
      · exact ⟨_, rfl⟩
      · unfold checkF
        rw [if_neg (by simp [lnS]), if_pos ⟨0, by simp [startR, lnS], by simp [lnS], by simp [refOK, lnS]; omega⟩]
        decide
  | en =>
    refine ⟨_, fun k => rfl, fun k => ⟨by simp [lnE], fun prev st hp hs hn => .inl ?_⟩⟩
    unfold lineJ
    rw [if_neg bad5, if_neg (by simp [lnE]), if_neg (by simp [lnE]), if_pos (by simp [lnE]), if_pos (by simp [JS.cur, hs])]
    exact ⟨_, rfl⟩
  | ass =>
    refine ⟨_, fun k => rfl, fun k => ⟨by simp [lnA], fun prev st hp hs hn => .inr ?_⟩⟩
    exact ⟨_, j_ass bfP.tg, by simp⟩
  | bad =>
    refine ⟨_, fun k => rfl, fun k => ⟨by simp [badL, Ln.at_], fun prev st hp hs hn => .inl ?_⟩⟩
    unfold lineJ
    rw [if_pos (.inr (.inl (by simp [badL, Ln.at_])))]
    exact ⟨_, rfl⟩
  | use =>
    refine ⟨_, fun k => rfl, fun k => ⟨by simp [lnS], fun prev st hp hs hn => .inl ?_⟩⟩
    unfold lineJ
    split
    · exact ⟨_, rfl⟩
    · rw [if_neg (by simp [lnS]), if_neg (by simp [lnS]), if_neg (by simp [lnS]), if_pos (by simp [lnS]), if_pos ?_]
      · exact ⟨_, rfl⟩
      · unfold checkF
        rw [if_pos ⟨by simp [lnS], by simp [useOK, lnS]; omega⟩]
        decide
/-- The premises of a block, one after the other. -/
theorem prems_J {prev : List Vd} : ∀ (ts : List FT) (N : List Num) (Q : List FT) (k : Nat) (r : List Ln), (∀ t ∈ ts, BF t) → linesJ prev ⟨N, [], [], Q⟩ (lnsOf (ts.map LT.pr) k ++ r) = linesJ prev ⟨N ++ ts.map (fun t => ⟨lay 0 t, 2, -1⟩), [], [], Q ++ ts⟩ r
  | [], N, Q, k, r, _ => by simp [lnsOf]
  | t :: ts, N, Q, k, r, h => by
    rw [List.map_cons, show lnsOf (LT.pr t :: ts.map LT.pr) k = lnP t k :: lnsOf (ts.map LT.pr) (k + 1) from rfl, List.cons_append, js_cons (j_prem (h t (by simp)).tg rfl)]
    rw [prems_J ts _ _ (k + 1) r (fun u hu => h u (by simp [hu]))]
    simp
theorem foldM_back (bs : List BdA) : ∀ (ps : List FT) (ls : List KB), (∀ p ∈ ps, BF p) → (∀ s g, lookK ls s = some g → g = lookF bs s) → ∃ ls', foldM ps (ps.map (substF bs)) ls = some ls' ∧ ∀ s g, lookK ls' s = some g → g = lookF bs s
  | [], ls, _, h => ⟨ls, rfl, h⟩
  | p :: ps, ls, hp, h => by
    obtain ⟨l1, e1, h1⟩ := match_back bs (hp p (by simp)).1 ls h
    obtain ⟨l2, e2, h2⟩ := foldM_back bs ps l1 (fun q hq => hp q (by simp [hq])) h1
    refine ⟨l2, ?_, h2⟩
    simp only [foldM, List.map_cons, List.headD_cons, List.tail_cons, e1]
    exact e2
/-- The use of a theorem is taken. -/
theorem acc7 {vs : List Vd} {k : Nat} (hk1 : 1 ≤ k) (hk : k ≤ vs.length) {v : Vd} (hv : vs.getD (k - 1) vd0 = v) (hok : v.ok = true) (hp : ∀ t ∈ v.prem, BF t) (hg : BF v.goal) (bs : List BdA) {ts : List FT} (hts : ts = v.prem.map (substF bs)) {gt : FT} (hgt : gt = substF bs v.goal) (hbt : ∀ t ∈ ts, BF t) (hbg : BF gt) (j : Nat) :
    Acc vs js0 (lnsOf (ts.map LT.pr ++ [LT.st gt 17 (k :: (List.range ts.length).map (· + 1))]) j) ⟨true, 0, 0, ts, gt⟩ := by
  have htl : ts.length = v.prem.length := by rw [hts]; simp
  obtain ⟨N, hN⟩ : ∃ N : List Num, N = ts.map (fun t => ⟨lay 0 t, 2, -1⟩) := ⟨_, rfl⟩
  have hNl : N.length = ts.length := by rw [hN]; simp
  have hNat : ∀ q, q < ts.length → N.getD q num0 = ⟨lay 0 (ts.getD q .nil), 2, -1⟩ := fun q hq => by rw [hN]; simp [List.getD, hq]
  obtain ⟨st, hst⟩ : ∃ st : JS, st = ⟨N, [], [], ts⟩ := ⟨_, rfl⟩
  have hlin : ∀ r, linesJ vs js0 (lnsOf (ts.map LT.pr) j ++ r) = linesJ vs st r := fun r => by
    have := prems_J (prev := vs) ts [] [] j r hbt
    rw [hst, hN]; simpa [js0] using this
  obtain ⟨R, hR⟩ : ∃ R : List Int, R = ((k :: (List.range ts.length).map (· + 1)).map fun x : Nat => (x : Int)) := ⟨_, rfl⟩
  have hRl : R.length = ts.length + 1 := by rw [hR]; simp
  have hR0 : R.getD 0 0 = (k : Int) := by rw [hR]; simp
  have hRi : ∀ q, q < ts.length → R.getD (q + 1) 0 = ((q + 1 : Nat) : Int) := fun q hq => by rw [hR]; simp [List.getD, hq]
  have hX : ∀ q, q < ts.length → st.X R (q + 1) = ts.getD q .nil := fun q hq => by
    unfold JS.X JS.num
    rw [hRi q hq, hst]
    show trOf ((N.getD ((((q + 1 : Nat) : Int)).toNat - 1) num0).f) = _
    rw [show (((q + 1 : Nat) : Int)).toNat - 1 = q by omega, hNat q hq]
    refine (hbt _ ?_).tg.tr
    rw [show ts.getD q .nil = ts[q] by simp [List.getD, hq]]
    exact List.getElem_mem _
  have hlist : (List.range (R.length - 1)).map (fun q => st.X R (q + 1)) = ts := by
    rw [hRl, Nat.add_sub_cancel]
    apply List.ext_getElem
    · simp
    · intro q h1 h2
      simp only [List.getElem_map, List.getElem_range]
      rw [hX q h2]; simp [List.getD, h2]
  have hchk : checkF vs st (lnS gt 17 R (j + ts.length : Nat)) = 0 := by
    unfold checkF
    rw [if_neg, if_neg, if_pos]
    · show stepP 17 _ _ _ _
      rw [st17]
      unfold useOf
      show useP (vs.getD ((R.getD 0 0).toNat - 1) vd0) (trOf (lay 0 gt)) ((List.range (R.length - 1)).map fun q => st.X R (q + 1))
      rw [hlist, hR0, show ((k : Int)).toNat - 1 = k - 1 by omega, hv, hbg.tg.tr]
      refine ⟨htl, ?_⟩
      obtain ⟨l1, e1, h1⟩ := foldM_back bs v.prem [] hp (fun s g e => by simp [lookK] at e)
      obtain ⟨l2, e2, h2⟩ := match_back bs hg.1 l1 h1
      rw [hts, hgt]
      exact ⟨l1, e1, by rw [e2]; simp⟩
    · rintro ⟨i, h1, h2, h3⟩
      have h1' : 1 ≤ i := by simpa [startR, lnS] using h1
      have h2' : i < R.length := h2
      obtain ⟨q, rfl⟩ : ∃ q, i = q + 1 := ⟨i - 1, by omega⟩
      apply h3
      show refOK st 17 _ (R.getD (q + 1) 0)
      rw [hRi q (by omega)]
      refine ⟨by omega, ?_, ?_⟩
      · rw [hst]; show ((q + 1 : Nat) : Int) ≤ N.length; omega
      · rw [if_neg (by simp [boxPos])]
        unfold JS.num
        rw [hst]
        show JS.isOpen _ ((N.getD ((((q + 1 : Nat) : Int)).toNat - 1) num0).box)
        rw [show (((q + 1 : Nat) : Int)).toNat - 1 = q by omega, hNat q (by omega)]
        exact .inl (show (-1 : Int) < 0 by decide)
    · rintro ⟨_, h⟩
      apply h
      show useOK vs (R.getD 0 0)
      rw [hR0]
      refine ⟨by omega, by omega, ?_⟩
      rw [show ((k : Int)).toNat - 1 = k - 1 by omega, hv]; exact hok
  have hstep := j_step (prev := vs) (st := st) (c := gt) (k := (j + ts.length : Nat)) (rule := 17) (refs := R) hbg.tg (by decide) (by decide) (by rw [hRl]; simp [fitsF]; omega) hchk
  refine ⟨⟨N ++ [⟨lay 0 gt, 4, -1⟩], [], [], ts⟩, ?_, fun s => ?_⟩
  · rw [lnsOf_app, hlin, List.length_map]
    show linesJ vs st [lnS gt 17 _ (j + ts.length : Nat)] = _
    rw [← hR, js_cons hstep, hst]
    simp [linesJ, JS.cur, setLast]
  · unfold endJ
    have hga : goalAt (N ++ [⟨lay 0 gt, 4, -1⟩]) (N ++ [(⟨lay 0 gt, 4, -1⟩ : Num)]).length = (N.length : Int) := by
      rw [List.length_append, List.length_singleton]
      unfold goalAt
      rw [show (N ++ [(⟨lay 0 gt, 4, -1⟩ : Num)]).getD N.length num0 = ⟨lay 0 gt, 4, -1⟩ by simp [List.getD], if_pos (show (-1 : Int) < 0 by decide)]
    rw [if_neg (by simp)]
    show (if goalAt (N ++ [⟨lay 0 gt, 4, -1⟩]) (N ++ [(⟨lay 0 gt, 4, -1⟩ : Num)]).length < 0 then _ else _) = _
    rw [hga, if_neg (by omega)]
    show (⟨true, 0, 0, ts, trOf ((N ++ [(⟨lay 0 gt, 4, -1⟩ : Num)]).getD _ num0).f⟩ : Vd) = _
    rw [show ((N.length : Int)).toNat = N.length by omega, show (N ++ [(⟨lay 0 gt, 4, -1⟩ : Num)]).getD N.length num0 = ⟨lay 0 gt, 4, -1⟩ by simp [List.getD], hbg.tg.tr]
end Go.Proofs.YbzaawGreat
