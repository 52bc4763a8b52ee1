/-  (*parts).own: what its walks share.  -/
import Derived.Test.YbzaawGreatFam
import Derived.Test.YbzaawGreatNdBase
import Derived.Test.YbzaawGreatRetC
import Derived.Test.YbzaawGreatEq4
namespace Go.Wf
/-- The row of an owned slice. -/
theorem Own.rowOf {w : World} {E sz n c : Nat} {a : Option Addr} {xs : List Value} (h : Own w E sz a n c xs) : n = 0 ∨ ∃ g cur, a = some ⟨g, 0, none⟩ ∧ Blk w g E cur ∧ n * sz ≤ cur.length := by
  rcases h.form.2 with ⟨_, h1, _⟩ | ⟨g, cur, rfl, h1, h2, _, h4, _⟩
  · exact .inl h1
  · exact .inr ⟨g, cur.toList, rfl, ⟨h1⟩, by simp [h4]; exact Nat.mul_le_mul_right _ h2⟩
theorem ablk_blkO {a : Option Addr} {n : Nat} (ha : IsA a n) (hn : n ≠ 0) : blkO a (ablk a) := by
  rcases ha with h | h
  · exact absurd h hn
  · rw [h]; simp [blkO, ablk]
theorem Own.isA {w : World} {E sz n c : Nat} {a : Option Addr} {xs : List Value} (h : Own w E sz a n c xs) : IsA a n := by
  rcases h.rowOf with h | ⟨g, cur, rfl, _, _⟩
  · exact .inl h
  · exact IsA.some _ _ _
theorem Blk.inj {w : World} {b E E' : Nat} {cs cs' : List Value} (h : Blk w b E cs) (h' : Blk w b E' cs') : E = E' := by
  have := h.row.symm.trans h'.row
  simp at this; exact this.2
theorem fam_ne {w : World} {E E' sz b : Nat} {qs : List SlT} {cs : List Value} (h : FamOk w E sz qs) (hb : famB qs b) (hB : Blk w b E' cs) (hne : E ≠ E') : False := by
  obtain ⟨x, hx, hn, rfl⟩ := hb
  obtain ⟨k, hk⟩ := List.getElem?_of_mem hx
  rcases h.row k x hk with h0 | ⟨g, cur, e, hB2, _⟩
  · exact hn h0
  · rw [e] at hB; exact hne (hB2.inj hB)
end Go.Wf
namespace Go.Proofs.YbzaawGreat
open Go.Wf
set_option linter.unusedSimpArgs false
set_option linter.unusedVariables false

def sl0 : SlT := ⟨none, 0, 0⟩
/-- A field of the parts' struct: the spine of a family of slices. -/
structure Spine (H : Heap) (pb q : Nat) (a : Option Addr) (c : Nat) (qs : List SlT) : Prop where
  fld : H pb q = some (.slice a qs.length c)
  row : SlH H 1 a qs.length (qs.map SlT.val)
theorem Spine.at_ {H : Heap} {pb q c : Nat} {a : Option Addr} {qs : List SlT} (h : Spine H pb q a c qs) (k : Nat) (hk : k < qs.length) : H (ablk a) (aoff a + k) = some (.slice (qs.getD k sl0).a (qs.getD k sl0).n (qs.getD k sl0).c) := by
  refine h.row.cell _ _ ?_
  simp [hk, SlT.val]
theorem getD_at {qs : List SlT} {k : Nat} (hk : k < qs.length) : qs[k]? = some (qs.getD k sl0) := by simp [hk]
structure OwnI (H : Heap) (w w' : World) (S : Nat → Prop) (F : World → Prop) : Prop where
  hs : HS H w'
  fr : Fr S w w'
  fam : F w'

-- laws.mkN
set_option maxRecDepth 20000 in
theorem mkN_ok (k i : Nat) (w : World) (R : Value → World → Prop) (h : ∀ w', Fr noB w w' → R (.agg #[.int .i64 (-1000 - (k : Int)), .string ⟨#[35]⟩, .int .i64 k, .int .i64 i]) w') (hk : k ≤ 1000000000 := by omega) : CallsV Yaao.prog 51 #[.int .i64 k, .int .i64 i] w R := by
  refine ent51 (by simp) ?_
  repeat' (first | refine W_seq (fun K hK => ?_) | refine W_block ?_ | refine W_skip ?_ | refine W_exit ?_ | refine W_ret ?_ | refine W_region ?_ | simp (disch := first | (simp only [undef, want_some, upd_app, List.getElem?_cons_succ, List.getElem?_cons_zero, Option.join_some, e_bt, e_bf, Nat.reduceEqDiff, ↓reduceIte, Bool.not_true, Bool.not_false, ne_eq, not_false_eq_true]; done) | ((with_reducible refine pkE ?_); with_unfolding_all rfl) | ((with_reducible refine cszE ?_); with_unfolding_all rfl) | ((with_reducible refine isQE ?_); with_unfolding_all rfl) | assumption | omega) only [List.map_cons, List.map_nil, List.set_cons_succ, List.set_cons_zero, Nat.reduceEqDiff, b_exit, b_exitN, b_normal, b_ret, e_alloc _ _ _ _ z113, e_stn _ _ i113 s113, ev_const, ev_tmp, fe_build _ bl113, fe_sub, fo_bin, fo_build, fo_move, init1, init2a, init2b, init3a, init3b, init3c, o_alloc, o_store, put_none, put_some, r_skip, r_value, s_nil, s_none, sp_cons, sp_nil, t_exit, t_normal, t_ret, upd_app, wrapS, ↓reduceIte] | (refine W_cond rfl (fun hc => ?_) (fun hc => ?_) <;> (try simp only [decide_eq_true_eq, decide_eq_false_iff_not, Bool.not_eq_true', Bool.not_eq_false', Int.not_lt, Int.not_le, Decidable.not_not] at hc) <;> (try contradiction) <;> (try (exfalso; omega))) | (refine G_split rfl rfl (fun hc => ?_) (fun hc => ?_) <;> (try simp only [decide_eq_true_eq, decide_eq_false_iff_not, Bool.not_eq_true', Bool.not_eq_false', Int.not_lt, Int.not_le, Decidable.not_not] at hc) <;> (try contradiction) <;> (try (exfalso; omega))) | (with_reducible (refine hK _ _ ?_); clear hK K) | go_step)
  refine retC rfl (by (first | (simp (disch := first | (simp only [undef, want_some, upd_app, List.getElem?_cons_succ, List.getElem?_cons_zero, Option.join_some, e_bt, e_bf, Nat.reduceEqDiff, ↓reduceIte, Bool.not_true, Bool.not_false, ne_eq, not_false_eq_true]; done) | ((with_reducible refine pkE ?_); with_unfolding_all rfl) | ((with_reducible refine cszE ?_); with_unfolding_all rfl) | ((with_reducible refine isQE ?_); with_unfolding_all rfl) | assumption | omega) only [List.map_cons, List.map_nil, List.set_cons_succ, List.set_cons_zero, Nat.reduceEqDiff, b_exit, b_exitN, b_normal, b_ret, e_alloc _ _ _ _ z113, e_stn _ _ i113 s113, ev_const, ev_tmp, fe_build _ bl113, fe_sub, fo_bin, fo_build, fo_move, init1, init2a, init2b, init3a, init3b, init3c, o_alloc, o_store, put_none, put_some, r_skip, r_value, s_nil, s_none, sp_cons, sp_nil, t_exit, t_normal, t_ret, upd_app, wrapS, ↓reduceIte]; done) | (simp (disch := first | (simp only [undef, want_some, upd_app, List.getElem?_cons_succ, List.getElem?_cons_zero, Option.join_some, e_bt, e_bf, Nat.reduceEqDiff, ↓reduceIte, Bool.not_true, Bool.not_false, ne_eq, not_false_eq_true]; done) | ((with_reducible refine pkE ?_); with_unfolding_all rfl) | ((with_reducible refine cszE ?_); with_unfolding_all rfl) | ((with_reducible refine isQE ?_); with_unfolding_all rfl) | assumption | omega) only [List.map_cons, List.map_nil, List.set_cons_succ, List.set_cons_zero, Nat.reduceEqDiff, b_exit, b_exitN, b_normal, b_ret, e_alloc _ _ _ _ z113, e_stn _ _ i113 s113, ev_const, ev_tmp, fe_build _ bl113, fe_sub, fo_bin, fo_build, fo_move, init1, init2a, init2b, init3a, init3b, init3c, o_alloc, o_store, put_none, put_some, r_skip, r_value, s_nil, s_none, sp_cons, sp_nil, t_exit, t_normal, t_ret, upd_app, wrapS, ↓reduceIte]; assumption) | (simp (disch := first | (simp only [undef, want_some, upd_app, List.getElem?_cons_succ, List.getElem?_cons_zero, Option.join_some, e_bt, e_bf, Nat.reduceEqDiff, ↓reduceIte, Bool.not_true, Bool.not_false, ne_eq, not_false_eq_true]; done) | ((with_reducible refine pkE ?_); with_unfolding_all rfl) | ((with_reducible refine cszE ?_); with_unfolding_all rfl) | ((with_reducible refine isQE ?_); with_unfolding_all rfl) | assumption | omega) only [List.map_cons, List.map_nil, List.set_cons_succ, List.set_cons_zero, Nat.reduceEqDiff, b_exit, b_exitN, b_normal, b_ret, e_alloc _ _ _ _ z113, e_stn _ _ i113 s113, ev_const, ev_tmp, fe_build _ bl113, fe_sub, fo_bin, fo_build, fo_move, init1, init2a, init2b, init3a, init3b, init3c, o_alloc, o_store, put_none, put_some, r_skip, r_value, s_nil, s_none, sp_cons, sp_nil, t_exit, t_normal, t_ret, upd_app, wrapS, ↓reduceIte]; exact iEq (by omega)) | (simp (disch := first | (simp only [undef, want_some, upd_app, List.getElem?_cons_succ, List.getElem?_cons_zero, Option.join_some, e_bt, e_bf, Nat.reduceEqDiff, ↓reduceIte, Bool.not_true, Bool.not_false, ne_eq, not_false_eq_true]; done) | ((with_reducible refine pkE ?_); with_unfolding_all rfl) | ((with_reducible refine cszE ?_); with_unfolding_all rfl) | ((with_reducible refine isQE ?_); with_unfolding_all rfl) | assumption | omega) only [List.map_cons, List.map_nil, List.set_cons_succ, List.set_cons_zero, Nat.reduceEqDiff, b_exit, b_exitN, b_normal, b_ret, e_alloc _ _ _ _ z113, e_stn _ _ i113 s113, ev_const, ev_tmp, fe_build _ bl113, fe_sub, fo_bin, fo_build, fo_move, init1, init2a, init2b, init3a, init3b, init3c, o_alloc, o_store, put_none, put_some, r_skip, r_value, s_nil, s_none, sp_cons, sp_nil, t_exit, t_normal, t_ret, upd_app, wrapS, ↓reduceIte]; simp; done) | assumption)) k113 i113 (by rw [s113]; rfl) (Blk.new _ _ _) (h _ (Fr.alloc _ _ _ _))
end Go.Proofs.YbzaawGreat
