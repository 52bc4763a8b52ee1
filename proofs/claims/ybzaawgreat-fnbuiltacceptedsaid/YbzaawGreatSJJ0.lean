/-  spec: what the judge holds inside a theorem; spec.failV.  -/
import Derived.Test.YbzaawGreatSJC
import Derived.Test.YbzaawGreatJudgeB
import Derived.Test.YbzaawGreatCopyN
namespace Go.Proofs.YbzaawGreat
open Go.Wf Go.Deep
set_option linter.unusedSimpArgs false
set_option linter.unusedVariables false

/-- The three lists that the model's judge holds, each a block of its own. -/
structure SM (H : Heap) (w0 w : World) (xs : List NumA) (bs : List Bx) (ss : List Nat) (na ba sa : Option Addr) (nc bc sc : Nat) : Prop where
  hs : HS H w
  fr : Fr noB w0 w
  on : Own w 145 3 na xs.length nc (encNums xs)
  ob : Own w 147 2 ba bs.length bc (encBr bs)
  os : Own w 3 1 sa ss.length sc (stkC ss)
  wn : ∀ k, blkO na k → w0.heap.size ≤ k ∧ ∀ o, H k o = none
  wb : ∀ k, blkO ba k → w0.heap.size ≤ k ∧ ∀ o, H k o = none
  ws : ∀ k, blkO sa k → w0.heap.size ≤ k ∧ ∀ o, H k o = none
section
variable {H H' : Heap} {w0 w w' : World} {xs : List NumA} {bs : List Bx} {ss : List Nat} {na ba sa : Option Addr} {nc bc sc : Nat}
theorem SM.frN (h : SM H w0 w xs bs ss na ba sa nc bc sc) (hf : Fr noB w w') : SM H w0 w' xs bs ss na ba sa nc bc sc :=
  ⟨h.hs.frN hf, h.fr.no hf, h.on.frN hf, h.ob.frN hf, h.os.frN hf, h.wn, h.wb, h.ws⟩
theorem SM.up (h : SM H w0 w xs bs ss na ba sa nc bc sc) (hf : Fr noB w w') (hH : HS H' w') (he : ∀ k, k < w.heap.size → ∀ o, H' k o = H k o) : SM H' w0 w' xs bs ss na ba sa nc bc sc :=
  ⟨hH, h.fr.no hf, h.on.frN hf, h.ob.frN hf, h.os.frN hf, fun k e => ⟨(h.wn k e).1, fun o => (he k (h.on.lt e) o).trans ((h.wn k e).2 o)⟩, fun k e => ⟨(h.wb k e).1, fun o => (he k (h.ob.lt e) o).trans ((h.wb k e).2 o)⟩, fun k e => ⟨(h.ws k e).1, fun o => (he k (h.os.lt e) o).trans ((h.ws k e).2 o)⟩⟩
theorem SM.down (h : SM H' w0 w xs bs ss na ba sa nc bc sc) (hl : HLe H H') : SM H w0 w xs bs ss na ba sa nc bc sc := by
  have key : ∀ k, (∀ o, H' k o = none) → ∀ o, H k o = none := fun k hk o => by
    cases e : H k o with
    | none => rfl
    | some v => have := hl _ _ _ e; rw [hk o] at this; cases this
  exact ⟨HS.down h.hs hl, h.fr, h.on, h.ob, h.os, fun k e => ⟨(h.wn k e).1, key k (h.wn k e).2⟩, fun k e => ⟨(h.wb k e).1, key k (h.wb k e).2⟩, fun k e => ⟨(h.ws k e).1, key k (h.ws k e).2⟩⟩
theorem SM.new (h : SM H w0 w xs bs ss na ba sa nc bc sc) {k : Nat} (hk : w.heap.size ≤ k) : w0.heap.size ≤ k ∧ ∀ o, H k o = none := ⟨Nat.le_trans h.fr.size hk, fun o => h.hs.off hk o⟩
theorem SM.addN (h : SM H w0 w xs bs ss na ba sa nc bc sc) (y : NumA) {a : Option Addr} {c : Nat} (ho : Own w' 145 3 a (xs.length + 1) c (encNums xs ++ y.enc)) (hf : Fr (blkO na) w w') (hn : ∀ k, blkO a k → blkO na k ∨ w.heap.size ≤ k) : SM H w0 w' (xs ++ [y]) bs ss a ba sa c bc sc :=
  ⟨h.hs.fr hf (fun k e => (h.wn k e).2), h.fr.trans hf (fun k hk e => absurd (h.wn k e).1 (Nat.not_le.2 hk)), by rw [encNums_snoc, List.length_append]; exact ho, h.ob.fr hf (own_own h.ob h.on (by decide)), h.os.fr hf (own_own h.os h.on (by decide)), fun k e => (hn k e).elim (h.wn k) h.new, h.wb, h.ws⟩
theorem SM.setB (h : SM H w0 w xs bs ss na ba sa nc bc sc) {ys : List Bx} {a : Option Addr} {c : Nat} (ho : Own w' 147 2 a ys.length c (encBr ys)) (hf : Fr (blkO ba) w w') (hn : ∀ k, blkO a k → blkO ba k ∨ w.heap.size ≤ k) : SM H w0 w' xs ys ss na a sa nc c sc :=
  ⟨h.hs.fr hf (fun k e => (h.wb k e).2), h.fr.trans hf (fun k hk e => absurd (h.wb k e).1 (Nat.not_le.2 hk)), h.on.fr hf (own_own h.on h.ob (by decide)), ho, h.os.fr hf (own_own h.os h.ob (by decide)), h.wn, fun k e => (hn k e).elim (h.wb k) h.new, h.ws⟩
theorem SM.addB (h : SM H w0 w xs bs ss na ba sa nc bc sc) (y : Bx) {a : Option Addr} {c : Nat} (ho : Own w' 147 2 a (bs.length + 1) c (encBr bs ++ brE y)) (hf : Fr (blkO ba) w w') (hn : ∀ k, blkO a k → blkO ba k ∨ w.heap.size ≤ k) : SM H w0 w' xs (bs ++ [y]) ss na a sa nc c sc := by
  refine h.setB ?_ hf hn
  rw [encBr_snoc, List.length_append]
  exact ho
theorem SM.setS (h : SM H w0 w xs bs ss na ba sa nc bc sc) {ys : List Nat} {a : Option Addr} {c : Nat} (ho : Own w' 3 1 a ys.length c (stkC ys)) (hf : Fr (blkO sa) w w') (hn : ∀ k, blkO a k → blkO sa k ∨ w.heap.size ≤ k) : SM H w0 w' xs bs ys na ba a nc bc c :=
  ⟨h.hs.fr hf (fun k e => (h.ws k e).2), h.fr.trans hf (fun k hk e => absurd (h.ws k e).1 (Nat.not_le.2 hk)), h.on.fr hf (own_own h.on h.os (by decide)), h.ob.fr hf (own_own h.ob h.os (by decide)), ho, h.wn, h.wb, fun k e => (hn k e).elim (h.ws k) h.new⟩
theorem SM.addS (h : SM H w0 w xs bs ss na ba sa nc bc sc) (b : Nat) {a : Option Addr} {c : Nat} (ho : Own w' 3 1 a (ss.length + 1) c (stkC ss ++ [.int .i64 b])) (hf : Fr (blkO sa) w w') (hn : ∀ k, blkO a k → blkO sa k ∨ w.heap.size ≤ k) : SM H w0 w' xs bs (ss ++ [b]) na ba a nc bc c := by
  refine h.setS ?_ hf hn
  rw [stkC_snoc, List.length_append]
  exact ho
theorem SM.cutS (h : SM H w0 w xs bs ss na ba sa nc bc sc) (hne : ss ≠ []) : SM H w0 w xs bs ss.dropLast na ba sa nc bc sc := by
  refine ⟨h.hs, h.fr, h.on, h.ob, ?_, h.wn, h.wb, h.ws⟩
  have := h.os.cut (ss.length - 1) (by omega)
  rw [stkC_drop ss hne] at this
  rw [List.length_dropLast]; exact this
theorem SM.same (h : SM H w0 w xs bs ss na ba sa nc bc sc) {ys : List Bx} (e : encBr ys = encBr bs) (el : ys.length = bs.length) : SM H w0 w xs ys ss na ba sa nc bc sc :=
  ⟨h.hs, h.fr, h.on, by rw [e, el]; exact h.ob, h.os, h.wn, h.wb, h.ws⟩
theorem SM.keep (h : SM H w0 w xs bs ss na ba sa nc bc sc) (hfm : ∀ x ∈ xs, FmH H x.fa x.n.f.length (trOf x.n.f)) (hnm : ∀ x ∈ xs, NmOk (trOf x.n.f)) : ∃ H', HLe H H' ∧ HS H' w ∧ NrH H' na xs.length xs ∧ BrH H' ba bs.length bs ∧ SlH H' 1 sa ss.length (stkC ss) := by
  obtain ⟨H1, l1, hH1, t1, x1⟩ := h.on.keep h.hs (fun k e => (h.wn k e).2)
  obtain ⟨H2, l2, hH2, t2, x2⟩ := h.ob.keep hH1 (fun k e o => (x1 k (fun e2 => own_own h.on h.ob (by decide) k e2 e) o).trans ((h.wb k e).2 o))
  obtain ⟨H3, l3, hH3, t3, x3⟩ := h.os.keep hH2 (fun k e o => ((x2 k (fun e2 => own_own h.ob h.os (by decide) k e2 e) o).trans (x1 k (fun e2 => own_own h.on h.os (by decide) k e2 e) o)).trans ((h.ws k e).2 o))
  exact ⟨H3, (l1.trans l2).trans l3, hH3, ⟨rfl, (t1.mono l2).mono l3, fun x hx => ((hfm x hx).mono (l1.trans l2)).mono l3, hnm⟩, ⟨rfl, t2.mono l3⟩, t3⟩
end
theorem SM.init {H : Heap} {w0 : World} (hH : HS H w0) : SM H w0 (((w0.alloc (.cells #[] 145)).alloc (.cells #[] 147)).alloc (.cells #[] 3)) [] [] []
    (some ⟨w0.heap.size, 0, none⟩) (some ⟨(w0.alloc (.cells #[] 145)).heap.size, 0, none⟩) (some ⟨((w0.alloc (.cells #[] 145)).alloc (.cells #[] 147)).heap.size, 0, none⟩) 0 0 0 := by
  have fA : Fr noB w0 (w0.alloc (.cells #[] 145)) := Fr.alloc _ _ _ _
  have oA : Own (w0.alloc (.cells #[] 145)) 145 3 (some ⟨w0.heap.size, 0, none⟩) 0 0 (encNums []) := Own.mk' rfl (heap_alloc_new w0 _) (Nat.le_refl _) (by decide) rfl rfl
  generalize w0.alloc (.cells #[] 145) = wA at fA oA ⊢
  have fB : Fr noB wA (wA.alloc (.cells #[] 147)) := Fr.alloc _ _ _ _
  have oB : Own (wA.alloc (.cells #[] 147)) 147 2 (some ⟨wA.heap.size, 0, none⟩) 0 0 (encBr []) := Own.mk' rfl (heap_alloc_new wA _) (Nat.le_refl _) (by decide) rfl rfl
  generalize wA.alloc (.cells #[] 147) = wB at fB oB ⊢
  have fC : Fr noB wB (wB.alloc (.cells #[] 3)) := Fr.alloc _ _ _ _
  have oC : Own (wB.alloc (.cells #[] 3)) 3 1 (some ⟨wB.heap.size, 0, none⟩) 0 0 (stkC []) := Own.mk' rfl (heap_alloc_new wB _) (Nat.le_refl _) (by decide) rfl rfl
  generalize wB.alloc (.cells #[] 3) = wC at fC oC ⊢
  have zA := fA.size
  have zB := fB.size
  have key : ∀ (b k : Nat), w0.heap.size ≤ b → blkO (some ⟨b, 0, none⟩) k → w0.heap.size ≤ k ∧ ∀ o, H k o = none := fun b k hb e => by
    have e : b = k := by simpa [blkO] using e
    exact ⟨by omega, fun o => hH.off (by omega) o⟩
  exact ⟨((hH.frN fA).frN fB).frN fC, (fA.no fB).no fC, (oA.frN fB).frN fC, oB.frN fC, oC, fun k e => key _ k (Nat.le_refl _) e, fun k e => key _ k zA e, fun k e => key _ k (by omega) e⟩
theorem encBr_at (l : List Bx) (b j : Nat) (hb : b < l.length) (v : Value) (y : Bx) (hj : j < 2) (hy : brE y = (brE (l.getD b bx0)).set j v) : encBr (l.set b y) = (encBr l).set (b * 2 + j) v := by
  induction l generalizing b with
  | nil => simp at hb
  | cons x r ih =>
    have h4 : (brE x).length = 2 := rfl
    cases b with
    | zero =>
      have hy : brE y = (brE x).set j v := by simpa using hy
      simp only [List.set_cons_zero, encBr, List.flatMap_cons, Nat.zero_mul, Nat.zero_add, hy]
      rw [List.set_append_left _ _ (by omega)]
    | succ b =>
      have := ih b (by simpa using hb) (by simpa using hy)
      simp only [List.set_cons_succ, encBr, List.flatMap_cons] at this ⊢
      rw [this, List.set_append_right _ _ (by omega), h4]
      congr 2; omega
theorem encBr_open (l : List Bx) (b : Nat) (hb : b < l.length) : encBr (setOpen l b) = (encBr l).set (b * 2 + 1) (.bool false) := encBr_at l b 1 hb _ _ (by omega) rfl
theorem encBr_same (l : List Bx) (b : Nat) (y : Bx) (hy : brE y = brE (l.getD b bx0)) : encBr (l.set b y) = encBr l := by
  induction l generalizing b with
  | nil => simp
  | cons x r ih =>
    cases b with
    | zero =>
      have hy : brE y = brE x := by simpa using hy
      simp only [List.set_cons_zero, encBr, List.flatMap_cons, hy]
    | succ b =>
      have := ih b (by simpa using hy)
      simp only [List.set_cons_succ, encBr, List.flatMap_cons] at this ⊢
      rw [this]
theorem encBr_last (l : List Bx) (b : Int) (n : Nat) : encBr (setLast l b n) = encBr l := by
  unfold setLast
  split
  · rfl
  · exact encBr_same l _ _ rfl
/-- The premises are the lines of kind 2. -/
noncomputable def premsOf (ns : List Num) : List FT := (ns.filter fun x => decide (x.kind = 2)).map fun x => trOf x.f
theorem premsOf_snoc (ns : List Num) (x : Num) : premsOf (ns ++ [x]) = premsOf ns ++ (if x.kind = 2 then [trOf x.f] else []) := by
  unfold premsOf
  rw [List.filter_append, List.map_append]
  congr 1
  by_cases h : x.kind = 2 <;> simp [h]
/-- What stands, beside the memory. -/
structure SF (H : Heap) (st : JS) (xs : List NumA) (i : Nat) : Prop where
  hn : st.nums = xs.map NumA.n
  pe : st.prem = premsOf st.nums
  fm : ∀ x ∈ xs, FmH H x.fa x.n.f.length (trOf x.n.f)
  jo : JOk st
  la : LastOk st
  lx : xs.length ≤ i
  ls : st.stack.length ≤ i
  tk : ∀ x ∈ xs, TOk (trOf x.n.f)
theorem SF.nil (H : Heap) : SF H js0 [] 0 := ⟨rfl, rfl, fun _ h => (by cases h), JOk.nil, LastOk.nil, Nat.le_refl _, Nat.le_refl _, fun _ h => (by cases h)⟩
theorem SF.next {H : Heap} {st : JS} {xs : List NumA} {i : Nat} (h : SF H st xs i) : SF H st xs (i + 1) := ⟨h.hn, h.pe, h.fm, h.jo, h.la, by have := h.lx; omega, by have := h.ls; omega, h.tk⟩
theorem SF.addN {H : Heap} {st st' : JS} {xs : List NumA} {i : Nat} (h : SF H st xs i) (y : NumA) (hy : FmH H y.fa y.n.f.length (trOf y.n.f)) (ht : TOk (trOf y.n.f)) (e1 : st'.nums = st.nums ++ [y.n]) (e2 : st'.prem = st.prem ++ (if y.n.kind = 2 then [trOf y.n.f] else [])) (jo : JOk st') (la : LastOk st') (ls : st'.stack.length ≤ i + 1) : SF H st' (xs ++ [y]) (i + 1) := by
  refine ⟨by rw [e1, h.hn]; simp, by rw [e2, e1, premsOf_snoc, h.pe], fun z hz => ?_, jo, la, ?_, ls, fun z hz => ?_⟩
  · rcases List.mem_append.1 hz with hz | hz
    · exact h.fm z hz
    · simp at hz; subst hz; exact hy
  · have := h.lx
    rw [List.length_append]
    simp only [List.length_cons, List.length_nil]
    omega
  · rcases List.mem_append.1 hz with hz | hz
    · exact h.tk z hz
    · simp at hz; subst hz; exact ht
-- spec.failV
set_option maxRecDepth 20000 in
theorem mfailV_ok (code at_ : Int) (w : World) (R : Value → World → Prop) (h : ∀ w' x, VdA.v x = failF code at_ → GotVd w w' x → R (.agg x.enc.toArray) w') : CallsV Yaao.prog 73 #[.int .i64 code, .int .i64 at_] w R := by
  refine ent73 (by simp) ?_
  repeat' (first | with_reducible refine VC_stop _ ?_ | refine W_seq (fun K hK => ?_) | refine W_block ?_ | refine W_skip ?_ | refine W_exit ?_ | refine W_ret ?_ | refine W_region ?_ | simp (disch := first | (simp only [undef, want_some, upd_app, List.getElem?_cons_succ, List.getElem?_cons_zero, Option.join_some, e_bt, e_bf, Nat.reduceEqDiff, ↓reduceIte, Bool.not_true, Bool.not_false, ne_eq, not_false_eq_true]; done) | ((with_reducible refine pkE ?_); with_unfolding_all rfl) | ((with_reducible refine cszE ?_); with_unfolding_all rfl) | ((with_reducible refine isQE ?_); with_unfolding_all rfl) | assumption | omega) only [List.map_cons, List.map_nil, List.set_cons_succ, List.set_cons_zero, Nat.reduceEqDiff, b_exit, b_exitN, b_normal, b_ret, e_alloc _ _ _ _ z30, e_stn _ _ i30 s30, ev_const, ev_tmp, fe_build _ bl30, fo_build, fo_move, init1, init2a, init2b, init3a, init3b, init3c, o_alloc, o_store, put_none, put_some, r_skip, r_value, s_nil, s_none, sp_cons, sp_nil, t_exit, t_normal, t_ret, upd_app, ↓reduceIte] | (refine W_cond rfl (fun hc => ?_) (fun hc => ?_) <;> (try simp only [decide_eq_true_eq, decide_eq_false_iff_not, Bool.not_eq_true', Bool.not_eq_false', Int.not_lt, Int.not_le, Decidable.not_not] at hc) <;> (try contradiction) <;> (try (exfalso; omega))) | (refine G_split rfl rfl (fun hc => ?_) (fun hc => ?_) <;> (try simp only [decide_eq_true_eq, decide_eq_false_iff_not, Bool.not_eq_true', Bool.not_eq_false', Int.not_lt, Int.not_le, Decidable.not_not] at hc) <;> (try contradiction) <;> (try (exfalso; omega))) | (with_reducible (refine hK _ _ ?_); clear hK K) | go_step)
  refine ⟨?_⟩
  have hB : Blk (w.alloc (.cells [.bool false, .int .i64 0, .int .i64 0, .slice none 0 0, .slice none 0 0].toArray 30)) w.heap.size 30 [.bool false, .int .i64 0, .int .i64 0, .slice none 0 0, .slice none 0 0] := Blk.new _ _ _
  have f0 : Fr noB w (w.alloc (.cells [.bool false, .int .i64 0, .int .i64 0, .slice none 0 0, .slice none 0 0].toArray 30)) := Fr.alloc _ _ _ _
  obtain ⟨b, hb⟩ : ∃ b, b = w.heap.size := ⟨_, rfl⟩
  rw [← hb] at hB ⊢
  generalize w.alloc (.cells [.bool false, .int .i64 0, .int .i64 0, .slice none 0 0, .slice none 0 0].toArray 30) = w1 at hB f0 ⊢
  repeat' (first | refine W_seq (fun K hK => ?_) | refine W_block ?_ | refine W_skip ?_ | refine W_exit ?_ | refine W_ret ?_ | refine W_region ?_ | simp (disch := first | (simp only [undef, want_some, upd_app, List.getElem?_cons_succ, List.getElem?_cons_zero, Option.join_some, e_bt, e_bf, Nat.reduceEqDiff, ↓reduceIte, Bool.not_true, Bool.not_false, ne_eq, not_false_eq_true]; done) | ((with_reducible refine pkE ?_); with_unfolding_all rfl) | ((with_reducible refine cszE ?_); with_unfolding_all rfl) | ((with_reducible refine isQE ?_); with_unfolding_all rfl) | assumption | omega) only [List.map_cons, List.map_nil, List.set_cons_succ, List.set_cons_zero, Nat.reduceEqDiff, b_exit, b_exitN, b_normal, b_ret, e_alloc _ _ _ _ z30, e_stn _ _ i30 s30, ev_const, ev_tmp, fe_build _ bl30, fo_build, fo_move, init1, init2a, init2b, init3a, init3b, init3c, o_alloc, o_store, put_none, put_some, r_skip, r_value, s_nil, s_none, sp_cons, sp_nil, t_exit, t_normal, t_ret, upd_app, ↓reduceIte] | refine V_store5 i30 s30 hB rfl rfl rfl rfl rfl (fun w2 hB2 hf2 => ?_) | (refine W_cond rfl (fun hc => ?_) (fun hc => ?_) <;> (try simp only [decide_eq_true_eq, decide_eq_false_iff_not, Bool.not_eq_true', Bool.not_eq_false', Int.not_lt, Int.not_le, Decidable.not_not] at hc) <;> (try contradiction) <;> (try (exfalso; omega))) | (refine G_split rfl rfl (fun hc => ?_) (fun hc => ?_) <;> (try simp only [decide_eq_true_eq, decide_eq_false_iff_not, Bool.not_eq_true', Bool.not_eq_false', Int.not_lt, Int.not_le, Decidable.not_not] at hc) <;> (try contradiction) <;> (try (exfalso; omega))) | (with_reducible (refine hK _ _ ?_); clear hK K) | go_step)
  have z1 := f0.size
  have g : GotVd w w2 ⟨false, code, at_, none, 0, [], ⟨none, 0, .nil⟩⟩ := by
    refine GotVd.mk1 (f0.trans hf2 (fun k hk e => by omega)) (Own.nil _ _ _) (fun k e => absurd e (blkO_none k)) ⟨fun x hx => ?_, fun x hx k e => ?_, List.pairwise_singleton _ _⟩ ⟨Nat.zero_le _, fun p hp => (by cases hp), fun e => (by cases e)⟩
    · rw [List.nil_append, List.mem_singleton] at hx; subst hx; exact Own.nil _ _ _
    · rw [List.nil_append, List.mem_singleton] at hx; subst hx; exact absurd e (blkO_none k)
  exact retC rfl (by (first | (simp (disch := first | (simp only [undef, want_some, upd_app, List.getElem?_cons_succ, List.getElem?_cons_zero, Option.join_some, e_bt, e_bf, Nat.reduceEqDiff, ↓reduceIte, Bool.not_true, Bool.not_false, ne_eq, not_false_eq_true]; done) | ((with_reducible refine pkE ?_); with_unfolding_all rfl) | ((with_reducible refine cszE ?_); with_unfolding_all rfl) | ((with_reducible refine isQE ?_); with_unfolding_all rfl) | assumption | omega) only [List.map_cons, List.map_nil, List.set_cons_succ, List.set_cons_zero, Nat.reduceEqDiff, b_exit, b_exitN, b_normal, b_ret, e_alloc _ _ _ _ z30, e_stn _ _ i30 s30, ev_const, ev_tmp, fe_build _ bl30, fo_build, fo_move, init1, init2a, init2b, init3a, init3b, init3c, o_alloc, o_store, put_none, put_some, r_skip, r_value, s_nil, s_none, sp_cons, sp_nil, t_exit, t_normal, t_ret, upd_app, ↓reduceIte]; done) | (simp (disch := first | (simp only [undef, want_some, upd_app, List.getElem?_cons_succ, List.getElem?_cons_zero, Option.join_some, e_bt, e_bf, Nat.reduceEqDiff, ↓reduceIte, Bool.not_true, Bool.not_false, ne_eq, not_false_eq_true]; done) | ((with_reducible refine pkE ?_); with_unfolding_all rfl) | ((with_reducible refine cszE ?_); with_unfolding_all rfl) | ((with_reducible refine isQE ?_); with_unfolding_all rfl) | assumption | omega) only [List.map_cons, List.map_nil, List.set_cons_succ, List.set_cons_zero, Nat.reduceEqDiff, b_exit, b_exitN, b_normal, b_ret, e_alloc _ _ _ _ z30, e_stn _ _ i30 s30, ev_const, ev_tmp, fe_build _ bl30, fo_build, fo_move, init1, init2a, init2b, init3a, init3b, init3c, o_alloc, o_store, put_none, put_some, r_skip, r_value, s_nil, s_none, sp_cons, sp_nil, t_exit, t_normal, t_ret, upd_app, ↓reduceIte]; assumption) | (simp (disch := first | (simp only [undef, want_some, upd_app, List.getElem?_cons_succ, List.getElem?_cons_zero, Option.join_some, e_bt, e_bf, Nat.reduceEqDiff, ↓reduceIte, Bool.not_true, Bool.not_false, ne_eq, not_false_eq_true]; done) | ((with_reducible refine pkE ?_); with_unfolding_all rfl) | ((with_reducible refine cszE ?_); with_unfolding_all rfl) | ((with_reducible refine isQE ?_); with_unfolding_all rfl) | assumption | omega) only [List.map_cons, List.map_nil, List.set_cons_succ, List.set_cons_zero, Nat.reduceEqDiff, b_exit, b_exitN, b_normal, b_ret, e_alloc _ _ _ _ z30, e_stn _ _ i30 s30, ev_const, ev_tmp, fe_build _ bl30, fo_build, fo_move, init1, init2a, init2b, init3a, init3b, init3c, o_alloc, o_store, put_none, put_some, r_skip, r_value, s_nil, s_none, sp_cons, sp_nil, t_exit, t_normal, t_ret, upd_app, ↓reduceIte]; exact iEq (by omega)) | (simp (disch := first | (simp only [undef, want_some, upd_app, List.getElem?_cons_succ, List.getElem?_cons_zero, Option.join_some, e_bt, e_bf, Nat.reduceEqDiff, ↓reduceIte, Bool.not_true, Bool.not_false, ne_eq, not_false_eq_true]; done) | ((with_reducible refine pkE ?_); with_unfolding_all rfl) | ((with_reducible refine cszE ?_); with_unfolding_all rfl) | ((with_reducible refine isQE ?_); with_unfolding_all rfl) | assumption | omega) only [List.map_cons, List.map_nil, List.set_cons_succ, List.set_cons_zero, Nat.reduceEqDiff, b_exit, b_exitN, b_normal, b_ret, e_alloc _ _ _ _ z30, e_stn _ _ i30 s30, ev_const, ev_tmp, fe_build _ bl30, fo_build, fo_move, init1, init2a, init2b, init3a, init3b, init3c, o_alloc, o_store, put_none, put_some, r_skip, r_value, s_nil, s_none, sp_cons, sp_nil, t_exit, t_normal, t_ret, upd_app, ↓reduceIte]; simp; done) | assumption)) k30 i30 (by rw [s30]; rfl) hB2 (h w2 _ rfl g)
end Go.Proofs.YbzaawGreat
