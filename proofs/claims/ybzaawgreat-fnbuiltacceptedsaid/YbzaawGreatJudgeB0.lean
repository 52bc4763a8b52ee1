/-  Verdicts made anew; stores into owned lists; impl.failV.  -/
import Derived.Test.YbzaawGreatJudgeC
import Derived.Test.YbzaawGreatCut
import Derived.Test.YbzaawGreatStO
namespace Go.Wf
/-- Owned lists of one kind become part of what stays. -/
theorem keepFam {α : Type} {w : World} (E sz : Nat) (ad : α → Option Addr) (n c : α → Nat) (cs : α → List Value) : ∀ (zs : List α) {H : Heap}, HS H w → (∀ z ∈ zs, Own w E sz (ad z) (n z) (c z) (cs z)) → zs.Pairwise (fun x y => ∀ k, blkO (ad x) k → ¬ blkO (ad y) k) → (∀ z ∈ zs, ∀ k, blkO (ad z) k → ∀ o, H k o = none) →
    ∃ H', HLe H H' ∧ HS H' w ∧ (∀ z ∈ zs, SlH H' sz (ad z) (n z) (cs z)) ∧ ∀ k, (∀ z ∈ zs, ¬ blkO (ad z) k) → ∀ o, H' k o = H k o
  | [], H, hH, _, _, _ => ⟨H, HLe.refl H, hH, fun _ h => (by cases h), fun _ _ _ => rfl⟩
  | x :: zs, H, hH, ho, hd, hn => by
    have hx : x ∈ x :: zs := by simp
    have hr : ∀ y ∈ zs, y ∈ x :: zs := fun y hy => by simp [hy]
    obtain ⟨H1, l1, hH1, t1, m1⟩ := (ho x hx).keep hH (hn x hx)
    have hd := List.pairwise_cons.1 hd
    obtain ⟨H2, l2, hH2, t2, m2⟩ := keepFam E sz ad n c cs zs hH1 (fun y hy => ho y (hr y hy)) hd.2 (fun y hy k hk o => (m1 k (fun e => hd.1 y hy k e hk) o).trans (hn y (hr y hy) k hk o))
    refine ⟨H2, l1.trans l2, hH2, fun y hy => ?_, fun k hk o => (m2 k (fun y hy => hk y (hr y hy)) o).trans (m1 k (hk x hx) o)⟩
    rcases List.mem_cons.1 hy with rfl | hy
    · exact t1.mono l2
    · exact t2 y hy
end Go.Wf
namespace Go.Proofs.YbzaawGreat
open Go.Wf Go.Deep
set_option linter.unusedSimpArgs false
set_option linter.unusedVariables false

/-- Formulas' lists of nodes, each a block of its own, from lo on. -/
structure Fms (lo : Nat) (w : World) (zs : List FmA) : Prop where
  f : ∀ z ∈ zs, Own w 113 4 z.fa (tsize z.t) z.fc (encNds (lay 0 z.t))
  nf : ∀ z ∈ zs, ∀ k, blkO z.fa k → lo ≤ k
  df : zs.Pairwise fun x y => ∀ k, blkO x.fa k → ¬ blkO y.fa k
section
variable {lo : Nat} {w w' : World} {zs : List FmA}
theorem Fms.nil : Fms lo w [] := ⟨fun _ h => (by cases h), fun _ h => (by cases h), .nil⟩
theorem Fms.fr {S : Nat → Prop} (h : Fms lo w zs) (hf : Fr S w w') (h1 : ∀ x ∈ zs, ∀ k, blkO x.fa k → ¬ S k) : Fms lo w' zs := ⟨fun x hx => (h.f x hx).fr hf (h1 x hx), h.nf, h.df⟩
theorem Fms.frN (h : Fms lo w zs) (hf : Fr noB w w') : Fms lo w' zs := h.fr hf (fun _ _ _ _ e => e)
theorem Fms.frO {T sz n c : Nat} {a : Option Addr} {cs : List Value} (h : Fms lo w zs) (o : Own w T sz a n c cs) (hE : 113 ≠ T) (hf : Fr (blkO a) w w') : Fms lo w' zs := h.fr hf (fun x hx => own_own (h.f x hx) o hE)
theorem Fms.frB {T b : Nat} {cs : List Value} (h : Fms lo w zs) (o : Blk w b T cs) (hE : 113 ≠ T) (hf : Fr (fun k => k = b) w w') : Fms lo w' zs := h.fr hf (fun x hx k e e2 => own_blkNe (h.f x hx) o hE (e2 ▸ e))
theorem Fms.app {w1 : World} {ys : List FmA} (h : Fms lo w zs) (hf : Fr noB w w1) (g : Fms w.heap.size w1 ys) (hlo : lo ≤ w.heap.size) : Fms lo w1 (zs ++ ys) := by
  have hh := h.frN hf
  refine ⟨fun x hx => ?_, fun x hx => ?_, List.pairwise_append.2 ⟨h.df, g.df, fun x hx y hy k e1 e2 => ?_⟩⟩
  · rcases List.mem_append.1 hx with hx | hx
    · exact hh.f x hx
    · exact g.f x hx
  · rcases List.mem_append.1 hx with hx | hx
    · exact h.nf x hx
    · exact fun k hk => Nat.le_trans hlo (g.nf x hx k hk)
  · have := (h.f x hx).lt e1
    have := g.nf y hy k e2
    omega
theorem Fms.one {a : Option Addr} {n c : Nat} {t : FT} (g : GotNds 113 w w' a n c (lay 0 t)) : Fms w.heap.size w' [⟨a, c, t⟩] := by
  have hn := g.len
  rw [lay_len] at hn
  subst hn
  exact ⟨fun x hx => by simp at hx; subst hx; exact g.own, fun x hx => by simp at hx; subst hx; exact g.new, List.pairwise_singleton _ _⟩
theorem Fms.keep {H : Heap} (h : Fms lo w zs) (hH : HS H w) (hn : ∀ k, lo ≤ k → ∀ o, H k o = none) : ∃ H', HLe H H' ∧ HS H' w ∧ (∀ z ∈ zs, NdH H' z.fa (tsize z.t) (lay 0 z.t)) ∧ ∀ k, (∀ z ∈ zs, ¬ blkO z.fa k) → ∀ o, H' k o = H k o := by
  obtain ⟨H', h1, h2, h3, h4⟩ := keepFam 113 4 FmA.fa (fun z => tsize z.t) FmA.fc (fun z => encNds (lay 0 z.t)) zs hH h.f h.df (fun z hz k hk => hn k (h.nf z hz k hk))
  exact ⟨H', h1, h2, fun z hz => ⟨by rw [lay_len], h3 z hz⟩, h4⟩
end
def nodesOf (xs : List VdA) : List FmA := xs.flatMap fun x => x.ps ++ [x.g]
theorem nodesOf_append (xs ys : List VdA) : nodesOf (xs ++ ys) = nodesOf xs ++ nodesOf ys := by simp [nodesOf]
theorem nodesOf_ps {xs : List VdA} {x : VdA} (hx : x ∈ xs) {p : FmA} (hp : p ∈ x.ps) : p ∈ nodesOf xs := List.mem_flatMap.2 ⟨x, hx, by simp [hp]⟩
theorem nodesOf_g {xs : List VdA} {x : VdA} (hx : x ∈ xs) : x.g ∈ nodesOf xs := List.mem_flatMap.2 ⟨x, hx, by simp⟩
/-- A formula's tree is in order. -/
def TOk (t : FT) : Prop := WF (lay 0 t) t ∧ tsize t ≤ 1048576 ∧ ∀ i, ((lay 0 t).getD i nd0).name.size ≤ 9223372036854775807
structure VdOk (x : VdA) : Prop where
  n : x.ps.length ≤ 1048576
  ps : ∀ p ∈ x.ps, TOk p.t
  g : x.ok = true → TOk x.g.t
/-- The verdicts' own lists lie in w, from lo on, each apart from the others. -/
structure Vds (lo : Nat) (w : World) (xs : List VdA) : Prop where
  p : ∀ x ∈ xs, Own w 32 1 x.pa x.ps.length x.pc (x.ps.map FmA.cell)
  np : ∀ x ∈ xs, ∀ k, blkO x.pa k → lo ≤ k
  dp : xs.Pairwise fun x y => ∀ k, blkO x.pa k → ¬ blkO y.pa k
  fm : Fms lo w (nodesOf xs)
  ok : ∀ x ∈ xs, VdOk x
section
variable {lo : Nat} {w w' : World} {xs : List VdA}
theorem Vds.nil : Vds lo w [] := ⟨fun _ h => (by cases h), fun _ h => (by cases h), .nil, Fms.nil, fun _ h => (by cases h)⟩
theorem Vds.frN (h : Vds lo w xs) (hf : Fr noB w w') : Vds lo w' xs := ⟨fun x hx => (h.p x hx).frN hf, h.np, h.dp, h.fm.frN hf, h.ok⟩
theorem Vds.frO {T sz n c : Nat} {a : Option Addr} {cs : List Value} (h : Vds lo w xs) (o : Own w T sz a n c cs) (hE : 113 ≠ T) (hF : 32 ≠ T) (hf : Fr (blkO a) w w') : Vds lo w' xs :=
  ⟨fun x hx => (h.p x hx).fr hf (own_own (h.p x hx) o hF), h.np, h.dp, h.fm.frO o hE hf, h.ok⟩
theorem Vds.frB {T b : Nat} {cs : List Value} (h : Vds lo w xs) (o : Blk w b T cs) (hE : 113 ≠ T) (hF : 32 ≠ T) (hf : Fr (fun k => k = b) w w') : Vds lo w' xs :=
  ⟨fun x hx => (h.p x hx).fr hf (fun k e e2 => own_blkNe (h.p x hx) o hF (e2 ▸ e)), h.np, h.dp, h.fm.frB o hE hf, h.ok⟩
theorem Vds.app {w1 : World} {ys : List VdA} (h : Vds lo w xs) (hf : Fr noB w w1) (g : Vds w.heap.size w1 ys) (hlo : lo ≤ w.heap.size) : Vds lo w1 (xs ++ ys) := by
  have hh := h.frN hf
  refine ⟨fun x hx => ?_, fun x hx => ?_, List.pairwise_append.2 ⟨h.dp, g.dp, fun x hx y hy k e1 e2 => ?_⟩, by rw [nodesOf_append]; exact h.fm.app hf g.fm hlo, fun x hx => ?_⟩
  · rcases List.mem_append.1 hx with hx | hx
    · exact hh.p x hx
    · exact g.p x hx
  · rcases List.mem_append.1 hx with hx | hx
    · exact h.np x hx
    · exact fun k hk => Nat.le_trans hlo (g.np x hx k hk)
  · have := (h.p x hx).lt e1
    have := g.np y hy k e2
    omega
  · rcases List.mem_append.1 hx with hx | hx
    · exact h.ok x hx
    · exact g.ok x hx
theorem Vds.low {lo' : Nat} (h : Vds lo w xs) (hl : lo' ≤ lo) : Vds lo' w xs := ⟨h.p, fun x hx k hk => Nat.le_trans hl (h.np x hx k hk), h.dp, ⟨h.fm.f, fun x hx k hk => Nat.le_trans hl (h.fm.nf x hx k hk), h.fm.df⟩, h.ok⟩
theorem Vds.keep {H : Heap} (h : Vds lo w xs) (hH : HS H w) (hn : ∀ k, lo ≤ k → ∀ o, H k o = none) : ∃ H', HLe H H' ∧ HS H' w ∧ (∀ x ∈ xs, VdH H' x) ∧ ∀ k, (∀ x ∈ xs, ¬ blkO x.pa k) → (∀ z ∈ nodesOf xs, ¬ blkO z.fa k) → ∀ o, H' k o = H k o := by
  obtain ⟨H1, l1, hH1, t1, m1⟩ := h.fm.keep hH hn
  obtain ⟨H2, l2, hH2, t2, m2⟩ := keepFam 32 1 VdA.pa (fun x => x.ps.length) VdA.pc (fun x => x.ps.map FmA.cell) xs hH1 h.p h.dp (fun x hx k hk o => (m1 k (fun z hz e => own_own (h.fm.f z hz) (h.p x hx) (by decide) k e hk) o).trans (hn k (h.np x hx k hk) o))
  refine ⟨H2, l1.trans l2, hH2, fun x hx => ?_, fun k h1 h2 o => (m2 k h1 o).trans (m1 k h2 o)⟩
  have hk := h.ok x hx
  exact ⟨t2 x hx, fun p hp => ⟨(t1 p (nodesOf_ps hx hp)).mono l2, (hk.ps p hp).1, (hk.ps p hp).2.1⟩, fun e => ⟨(t1 x.g (nodesOf_g hx)).mono l2, (hk.g e).1, (hk.g e).2.1⟩, hk.n⟩
end
/-- What the caller gets of a verdict that was made anew. -/
structure GotVd (w w' : World) (x : VdA) : Prop where
  fr : Fr noB w w'
  vd : Vds w.heap.size w' [x]
theorem GotVd.keep {H : Heap} {w w' : World} {x : VdA} (g : GotVd w w' x) (hH : HS H w) : ∃ H', Ext H H' w w' ∧ VdH H' x := by
  obtain ⟨H', h1, h2, h3, h4⟩ := g.vd.keep (hH.frN g.fr) (fun k hk o => hH.off hk o)
  refine ⟨H', ⟨h1, h2, fun k hk o => h4 k (fun y hy e => ?_) (fun z hz e => ?_) o⟩, h3 x (by simp)⟩
  · have := g.vd.np y hy k e; omega
  · have := g.vd.fm.nf z hz k e; omega
theorem GotVd.base {w0 w w' : World} {x : VdA} (g : GotVd w w' x) (hf : Fr noB w0 w) : GotVd w0 w' x := ⟨hf.no g.fr, g.vd.low hf.size⟩
theorem GotVd.mk1 {w w' : World} {x : VdA} (hf : Fr noB w w') (hp : Own w' 32 1 x.pa x.ps.length x.pc (x.ps.map FmA.cell)) (np : ∀ k, blkO x.pa k → w.heap.size ≤ k) (fm : Fms w.heap.size w' (x.ps ++ [x.g])) (ok : VdOk x) : GotVd w w' x :=
  ⟨hf, fun y hy => by simp at hy; subst hy; exact hp, fun y hy => by simp at hy; subst hy; exact np, List.pairwise_singleton _ _, by simpa [nodesOf] using fm, fun y hy => by simp at hy; subst hy; exact ok⟩
-- impl.failV
set_option maxRecDepth 20000 in
theorem failV_ok (code at_ : Int) (w : World) (R : Value → World → Prop) (h : ∀ w' x, VdA.v x = failF code at_ → GotVd w w' x → R (.agg x.enc.toArray) w') : CallsV Yaao.prog 60 #[.int .i64 code, .int .i64 at_] w R := by
  refine ent60 (by simp) ?_
  repeat' (first | with_reducible refine VC_stop _ ?_ | refine W_seq (fun K hK => ?_) | refine W_block ?_ | refine W_skip ?_ | refine W_exit ?_ | refine W_ret ?_ | refine W_region ?_ | simp (disch := first | (simp only [undef, want_some, upd_app, List.getElem?_cons_succ, List.getElem?_cons_zero, Option.join_some, e_bt, e_bf, Nat.reduceEqDiff, ↓reduceIte, Bool.not_true, Bool.not_false, ne_eq, not_false_eq_true]; done) | ((with_reducible refine pkE ?_); with_unfolding_all rfl) | ((with_reducible refine cszE ?_); with_unfolding_all rfl) | ((with_reducible refine isQE ?_); with_unfolding_all rfl) | assumption | omega) only [List.map_cons, List.map_nil, List.set_cons_succ, List.set_cons_zero, Nat.reduceEqDiff, b_exit, b_exitN, b_normal, b_ret, c_agg, c_bool, c_int, c_sl, c_str, e27, e28, e_alloc _ _ _ _ z30, e_bs0 _ _ k27 ie27 ze27 se27, e_bs0 _ _ k28 ie28 ze28 se28, e_bs1 _ _ k27 ie27 ze27 se27 (by decide), e_bs1 _ _ k28 ie28 ze28 se28 (by decide), e_stn _ _ i30 s30, ev_const, ev_tmp, fe_build _ bl30, fo_build, fo_move, init1, init2a, init2b, init3a, init3b, init3c, o_alloc, o_buildSlice, o_store, put_none, put_some, r_skip, r_value, s_nil, s_none, sp_cons, sp_nil, t_exit, t_normal, t_ret, upd_app, ↓reduceIte] | (refine W_cond rfl (fun hc => ?_) (fun hc => ?_) <;> (try simp only [decide_eq_true_eq, decide_eq_false_iff_not, Bool.not_eq_true', Bool.not_eq_false', Int.not_lt, Int.not_le, Decidable.not_not] at hc) <;> (try contradiction) <;> (try (exfalso; omega))) | (refine G_split rfl rfl (fun hc => ?_) (fun hc => ?_) <;> (try simp only [decide_eq_true_eq, decide_eq_false_iff_not, Bool.not_eq_true', Bool.not_eq_false', Int.not_lt, Int.not_le, Decidable.not_not] at hc) <;> (try contradiction) <;> (try (exfalso; omega))) | (with_reducible (refine hK _ _ ?_); clear hK K) | go_step)
  refine ⟨?_⟩
  have hB : Blk (w.alloc (.cells [.bool false, .int .i64 0, .int .i64 0, .slice none 0 0, .slice none 0 0].toArray 30)) w.heap.size 30 [.bool false, .int .i64 0, .int .i64 0, .slice none 0 0, .slice none 0 0] := Blk.new _ _ _
  have f0 : Fr noB w (w.alloc (.cells [.bool false, .int .i64 0, .int .i64 0, .slice none 0 0, .slice none 0 0].toArray 30)) := Fr.alloc _ _ _ _
  obtain ⟨b, hb⟩ : ∃ b, b = w.heap.size := ⟨_, rfl⟩
  rw [← hb] at hB ⊢
  generalize w.alloc (.cells [.bool false, .int .i64 0, .int .i64 0, .slice none 0 0, .slice none 0 0].toArray 30) = w1 at hB f0 ⊢
  repeat' (first | refine W_seq (fun K hK => ?_) | refine W_block ?_ | refine W_skip ?_ | refine W_exit ?_ | refine W_ret ?_ | refine W_region ?_ | simp (disch := first | (simp only [undef, want_some, upd_app, List.getElem?_cons_succ, List.getElem?_cons_zero, Option.join_some, e_bt, e_bf, Nat.reduceEqDiff, ↓reduceIte, Bool.not_true, Bool.not_false, ne_eq, not_false_eq_true]; done) | ((with_reducible refine pkE ?_); with_unfolding_all rfl) | ((with_reducible refine cszE ?_); with_unfolding_all rfl) | ((with_reducible refine isQE ?_); with_unfolding_all rfl) | assumption | omega) only [List.map_cons, List.map_nil, List.set_cons_succ, List.set_cons_zero, Nat.reduceEqDiff, b_exit, b_exitN, b_normal, b_ret, c_agg, c_bool, c_int, c_sl, c_str, e27, e28, e_alloc _ _ _ _ z30, e_bs0 _ _ k27 ie27 ze27 se27, e_bs0 _ _ k28 ie28 ze28 se28, e_bs1 _ _ k27 ie27 ze27 se27 (by decide), e_bs1 _ _ k28 ie28 ze28 se28 (by decide), e_stn _ _ i30 s30, ev_const, ev_tmp, fe_build _ bl30, fo_build, fo_move, init1, init2a, init2b, init3a, init3b, init3c, o_alloc, o_buildSlice, o_store, put_none, put_some, r_skip, r_value, s_nil, s_none, sp_cons, sp_nil, t_exit, t_normal, t_ret, upd_app, ↓reduceIte] | refine V_store5 i30 s30 ((hB.frN (Fr.alloc _ _ _ _)).frN (Fr.alloc _ _ _ _)) rfl rfl rfl rfl rfl (fun w2 hB2 hf2 => ?_) | (refine W_cond rfl (fun hc => ?_) (fun hc => ?_) <;> (try simp only [decide_eq_true_eq, decide_eq_false_iff_not, Bool.not_eq_true', Bool.not_eq_false', Int.not_lt, Int.not_le, Decidable.not_not] at hc) <;> (try contradiction) <;> (try (exfalso; omega))) | (refine G_split rfl rfl (fun hc => ?_) (fun hc => ?_) <;> (try simp only [decide_eq_true_eq, decide_eq_false_iff_not, Bool.not_eq_true', Bool.not_eq_false', Int.not_lt, Int.not_le, Decidable.not_not] at hc) <;> (try contradiction) <;> (try (exfalso; omega))) | (with_reducible (refine hK _ _ ?_); clear hK K) | go_step)
  have z1 := f0.size
  have f1 : Fr noB w ((w1.alloc (.cells #[] 32)).alloc (.cells #[] 113)) := (f0.no (Fr.alloc _ _ _ _)).no (Fr.alloc _ _ _ _)
  have o1 : Own ((w1.alloc (.cells #[] 32)).alloc (.cells #[] 113)) 32 1 (some ⟨w1.heap.size, 0, none⟩) 0 0 [] := (Own.mk' (by rfl) (heap_alloc_new w1 _) (Nat.le_refl _) (Nat.zero_le _) rfl rfl).frN (Fr.alloc _ _ _ _)
  have o2 : Own ((w1.alloc (.cells #[] 32)).alloc (.cells #[] 113)) 113 4 (some ⟨(w1.alloc (.cells #[] 32)).heap.size, 0, none⟩) 0 0 [] := Own.mk' (by rfl) (heap_alloc_new (w1.alloc (.cells #[] 32)) _) (Nat.le_refl _) (Nat.zero_le _) rfl rfl
  have hB1 := (hB.frN (Fr.alloc noB w1 #[] 32)).frN (Fr.alloc noB _ #[] 113)
  have g : GotVd w w2 ⟨false, code, at_, some ⟨w1.heap.size, 0, none⟩, 0, [], ⟨some ⟨(w1.alloc (.cells #[] 32)).heap.size, 0, none⟩, 0, .nil⟩⟩ := by
    refine GotVd.mk1 (f1.trans hf2 (fun k hk e => by omega)) (o1.fr hf2 (fun k e e2 => own_blkNe o1 hB1 (by decide) (e2 ▸ e))) (fun k e => by simp [blkO] at e; omega) ⟨fun x hx => ?_, fun x hx k e => ?_, List.pairwise_singleton _ _⟩ ⟨Nat.zero_le _, fun p hp => (by cases hp), fun e => (by cases e)⟩
    · rw [List.nil_append, List.mem_singleton] at hx; subst hx; exact o2.fr hf2 (fun k e e2 => own_blkNe o2 hB1 (by decide) (e2 ▸ e))
    · simp at hx; subst hx; simp [blkO] at e; omega
  exact retC rfl (by (first | (simp (disch := first | (simp only [undef, want_some, upd_app, List.getElem?_cons_succ, List.getElem?_cons_zero, Option.join_some, e_bt, e_bf, Nat.reduceEqDiff, ↓reduceIte, Bool.not_true, Bool.not_false, ne_eq, not_false_eq_true]; done) | ((with_reducible refine pkE ?_); with_unfolding_all rfl) | ((with_reducible refine cszE ?_); with_unfolding_all rfl) | ((with_reducible refine isQE ?_); with_unfolding_all rfl) | assumption | omega) only [List.map_cons, List.map_nil, List.set_cons_succ, List.set_cons_zero, Nat.reduceEqDiff, b_exit, b_exitN, b_normal, b_ret, c_agg, c_bool, c_int, c_sl, c_str, e27, e28, e_alloc _ _ _ _ z30, e_bs0 _ _ k27 ie27 ze27 se27, e_bs0 _ _ k28 ie28 ze28 se28, e_bs1 _ _ k27 ie27 ze27 se27 (by decide), e_bs1 _ _ k28 ie28 ze28 se28 (by decide), e_stn _ _ i30 s30, ev_const, ev_tmp, fe_build _ bl30, fo_build, fo_move, init1, init2a, init2b, init3a, init3b, init3c, o_alloc, o_buildSlice, o_store, put_none, put_some, r_skip, r_value, s_nil, s_none, sp_cons, sp_nil, t_exit, t_normal, t_ret, upd_app, ↓reduceIte]; done) | (simp (disch := first | (simp only [undef, want_some, upd_app, List.getElem?_cons_succ, List.getElem?_cons_zero, Option.join_some, e_bt, e_bf, Nat.reduceEqDiff, ↓reduceIte, Bool.not_true, Bool.not_false, ne_eq, not_false_eq_true]; done) | ((with_reducible refine pkE ?_); with_unfolding_all rfl) | ((with_reducible refine cszE ?_); with_unfolding_all rfl) | ((with_reducible refine isQE ?_); with_unfolding_all rfl) | assumption | omega) only [List.map_cons, List.map_nil, List.set_cons_succ, List.set_cons_zero, Nat.reduceEqDiff, b_exit, b_exitN, b_normal, b_ret, c_agg, c_bool, c_int, c_sl, c_str, e27, e28, e_alloc _ _ _ _ z30, e_bs0 _ _ k27 ie27 ze27 se27, e_bs0 _ _ k28 ie28 ze28 se28, e_bs1 _ _ k27 ie27 ze27 se27 (by decide), e_bs1 _ _ k28 ie28 ze28 se28 (by decide), e_stn _ _ i30 s30, ev_const, ev_tmp, fe_build _ bl30, fo_build, fo_move, init1, init2a, init2b, init3a, init3b, init3c, o_alloc, o_buildSlice, o_store, put_none, put_some, r_skip, r_value, s_nil, s_none, sp_cons, sp_nil, t_exit, t_normal, t_ret, upd_app, ↓reduceIte]; assumption) | (simp (disch := first | (simp only [undef, want_some, upd_app, List.getElem?_cons_succ, List.getElem?_cons_zero, Option.join_some, e_bt, e_bf, Nat.reduceEqDiff, ↓reduceIte, Bool.not_true, Bool.not_false, ne_eq, not_false_eq_true]; done) | ((with_reducible refine pkE ?_); with_unfolding_all rfl) | ((with_reducible refine cszE ?_); with_unfolding_all rfl) | ((with_reducible refine isQE ?_); with_unfolding_all rfl) | assumption | omega) only [List.map_cons, List.map_nil, List.set_cons_succ, List.set_cons_zero, Nat.reduceEqDiff, b_exit, b_exitN, b_normal, b_ret, c_agg, c_bool, c_int, c_sl, c_str, e27, e28, e_alloc _ _ _ _ z30, e_bs0 _ _ k27 ie27 ze27 se27, e_bs0 _ _ k28 ie28 ze28 se28, e_bs1 _ _ k27 ie27 ze27 se27 (by decide), e_bs1 _ _ k28 ie28 ze28 se28 (by decide), e_stn _ _ i30 s30, ev_const, ev_tmp, fe_build _ bl30, fo_build, fo_move, init1, init2a, init2b, init3a, init3b, init3c, o_alloc, o_buildSlice, o_store, put_none, put_some, r_skip, r_value, s_nil, s_none, sp_cons, sp_nil, t_exit, t_normal, t_ret, upd_app, ↓reduceIte]; exact iEq (by omega)) | (simp (disch := first | (simp only [undef, want_some, upd_app, List.getElem?_cons_succ, List.getElem?_cons_zero, Option.join_some, e_bt, e_bf, Nat.reduceEqDiff, ↓reduceIte, Bool.not_true, Bool.not_false, ne_eq, not_false_eq_true]; done) | ((with_reducible refine pkE ?_); with_unfolding_all rfl) | ((with_reducible refine cszE ?_); with_unfolding_all rfl) | ((with_reducible refine isQE ?_); with_unfolding_all rfl) | assumption | omega) only [List.map_cons, List.map_nil, List.set_cons_succ, List.set_cons_zero, Nat.reduceEqDiff, b_exit, b_exitN, b_normal, b_ret, c_agg, c_bool, c_int, c_sl, c_str, e27, e28, e_alloc _ _ _ _ z30, e_bs0 _ _ k27 ie27 ze27 se27, e_bs0 _ _ k28 ie28 ze28 se28, e_bs1 _ _ k27 ie27 ze27 se27 (by decide), e_bs1 _ _ k28 ie28 ze28 se28 (by decide), e_stn _ _ i30 s30, ev_const, ev_tmp, fe_build _ bl30, fo_build, fo_move, init1, init2a, init2b, init3a, init3b, init3c, o_alloc, o_buildSlice, o_store, put_none, put_some, r_skip, r_value, s_nil, s_none, sp_cons, sp_nil, t_exit, t_normal, t_ret, upd_app, ↓reduceIte]; simp; done) | assumption)) k30 i30 (by rw [s30]; rfl) hB2 (h w2 _ rfl g)
theorem encBx_at (l : List Bx) (b j : Nat) (hb : b < l.length) (hj : j < 4) (v : Value) (y : Bx) (hy : y.enc = (l.getD b bx0).enc.set j v) : encBx (l.set b y) = (encBx l).set (b * 4 + j) v := by
  induction l generalizing b with
  | nil => simp at hb
  | cons x r ih =>
    have h4 : x.enc.length = 4 := rfl
    cases b with
    | zero =>
      have hy : y.enc = x.enc.set j v := by simpa using hy
      simp only [List.set_cons_zero, encBx, List.flatMap_cons, Nat.zero_mul, Nat.zero_add, hy]
      rw [List.set_append_left _ _ (by omega)]
    | succ b =>
      have := ih b (by simpa using hb) (by simpa using hy)
      simp only [List.set_cons_succ, encBx, List.flatMap_cons] at this ⊢
      rw [this, List.set_append_right _ _ (by omega), h4]
      congr 2; omega
theorem encBx_open (l : List Bx) (b : Nat) (hb : b < l.length) : encBx (setOpen l b) = (encBx l).set (b * 4 + 1) (.bool false) := encBx_at l b 1 hb (by omega) _ _ rfl
theorem encBx_last (l : List Bx) (b : Nat) (n : Nat) (hb : b < l.length) : encBx (setLast l b n) = (encBx l).set (b * 4 + 3) (.int .i64 n) := by
  unfold setLast
  rw [if_neg (by omega), Int.toNat_natCast]
  exact encBx_at l b 3 hb (by omega) _ _ rfl
end Go.Proofs.YbzaawGreat
