/-  The builder's kinds of statements (written by tools/gen_bw.py).  -/
import Derived.Test.YbzaawGreatBW1
import Derived.Test.YbzaawGreatTreeMem2
import Derived.Test.YbzaawGreatDraw3
namespace Go.Wf
theorem e_bs3 (P : Program) (w : World) {T sz : Nat} {zl : List Value} (k6 : kindT P T = 6) (hi : infoT P (elT P T) = true) (hz : zeroT P (elT P T) = some zl) (hs : szT P (elT P T) = sz) (hsm : sz ≤ 4194304) (u v x : Value) (hu : csz u = sz) (hv : csz v = sz) (hx : csz x = sz) :
    rBS P T 3 [(0, u), (1, v), (2, x)] w = .ok (.value (.slice (some ⟨w.heap.size, 0, none⟩) 3 3)) (w.alloc (.cells (u.cells.toList ++ (v.cells.toList ++ x.cells.toList)).toArray (elT P T))) := by
  have := e_bs P w (T := T) (sz := sz) [u, v, x] k6 hi (by rw [hz]; rfl) hs (by simpa [csz] using ⟨hu, hv, hx⟩) (by simp; omega)
  simpa [partsFrom, rowCells] using this
/-- Two statements, one after the other. -/
theorem W_sq {P : Program} {k : Exit → Env → World → Prop} {ρ : Env} {w : World} {a b : Code} (h : VC P a (thenK (fun ρ w => VC P b k ρ w) k) ρ w) : VC P (.seq a b) k ρ w := W_cut _ h (fun _ _ h => h)
end Go.Wf
namespace Go.Proofs.YbzaawGreat
open Go.Wf Go.Deep
set_option linter.unusedSimpArgs false
set_option linter.unusedVariables false

theorem show_len0 : ∀ t, Shape bName t → (showB t).length ≤ 10 * tsize t := by
  refine Shape.ind ?_ ?_ ?_ ?_
  · intro s hs; rw [show_A, sz_A, len_data]; exact hs.2.1
  · rw [show_B0, sz_B0]; simp
  · intro t _ ih; rw [show_N, sz_N]; simp; omega
  · intro op l r h4 _ _ _ ihl ihr
    have := opB_len op
    rw [show_B h4, sz_B]; simp; omega
theorem show_len {t : FT} (h : BF t) : (showB t).length ≤ 3000 := by have := show_len0 t h.1; have := h.2; omega
theorem bfB : BF tB0 := ⟨shB0, by rw [sz_B0]; omega⟩
theorem ba_eq {l : LT} {c : ByteArray} {m : List UInt8} (h : l.tx = c.data.toList ++ m) : c ++ ⟨m.toArray⟩ = l.ba := by
  unfold LT.ba
  rw [h]
  apply ByteArray.ext
  apply Array.ext'
  simp [ByteArray.data_append]
theorem ba_eq0 {l : LT} {c : ByteArray} (h : l.tx = c.data.toList) : c = l.ba := by
  unfold LT.ba
  rw [h]
theorem ownL {w : World} {a : Option Addr} {c : Nat} {ls : List LT} {l : LT} {s : ByteArray} (h : Own w 9 1 a (ls.length + 1) c (strsC (ls.map LT.ba) ++ [.string s])) (e : s = l.ba) : Own w 9 1 a (ls ++ [l]).length c (strsC ((ls ++ [l]).map LT.ba)) := by
  subst e; simpa [strsC] using h
theorem stepLine_okA {H : Heap} {w : World} (hH : HS H w) {c : FT} {V : ByteArray → Prop} (hs : Shape V c) (c0 c1 c2 : Value) (hT : TreeC H c [c0, c1, c2]) (hb : (showB c).length ≤ 100000000) {rc : Nat} {rule : ByteArray} {zs : List Int} {refs : List Nat} (hrl : rule.size ≤ 100) (hz : zs = refs.map fun x : Nat => (x : Int)) (hr : ∀ x ∈ refs, x ≤ cap) (hn : zs.length ≤ 1000) (R : Value → World → Prop)
    (h : ∀ w', Fr noB w w' → R (.string ⟨(showB c ++ 32 :: (sBy.data.toList ++ 32 :: (rule.data.toList ++ refsB refs))).toArray⟩) w') : CallsV Yaao.prog 30 #[.agg #[c0, c1, c2], .string rule, .slice (some ⟨w.heap.size, 0, none⟩) zs.length rc] (w.alloc (.cells (intC zs).toArray 3)) R := by
  have fA : Fr noB w (w.alloc (.cells (intC zs).toArray 3)) := Fr.alloc _ _ _ _
  obtain ⟨H1, l1, hH1, k1, x1⟩ := (Blk.new w 3 (intC zs)).keep (hH.frN fA) (fun o => hH.off (Nat.le_refl _) o)
  refine stepLine_ok hH1 hs c0 c1 c2 (hT.mono l1) hb hrl (refs := refs) ⟨by rw [hz, List.length_map], ⟨by rw [hz]; simp [intC], IsA.some _ _ _, fun j v e => ?_⟩⟩ hr hn R (fun w' f => h w' (fA.no f))
  rw [ablk_some, aoff_some, Nat.zero_add, k1 j, hz]; exact e
/-- Trees in a row. -/
theorem TsL.nil {H : Heap} : Trees H [] [] := ⟨rfl, fun i hi => by simp at hi⟩
theorem TsL.cons {H : Heap} {t : FT} {a b c : Value} {ts : List FT} {us : List V3} (h : TreeC H t [a, b, c]) (hs : Trees H ts us) : Trees H (t :: ts) ((a, b, c) :: us) := by
  refine ⟨by simp [hs.len], fun i hi => ?_⟩
  cases i with
  | zero => exact h
  | succ i => have := hs.at_ i (by simpa using hi); simpa using this
theorem encV3_len3 : ∀ us : List V3, (encV3 us).length = us.length * 3
  | [] => rfl
  | x :: r => by
    have := encV3_len3 r
    unfold encV3 at *
    rw [List.flatMap_cons, List.length_append, this, List.length_cons]
    show 3 + _ = _
    omega
theorem okVerdict_okA {H : Heap} {w : World} (hH : HS H w) {c : Nat} {us : List V3} {ts : List FT} (tP : Trees H ts us) (hp : ∀ t ∈ ts, BF t) (hn : us.length ≤ 1000) {goal : FT} (hg : BF goal) (c0 c1 c2 : Value) (hT : TreeC H goal [c0, c1, c2]) (R : Value → World → Prop)
    (h : ∀ w' H' x, Ext H H' w w' → Fr noB w w' → VdA.v x = ⟨true, 0, 0, ts, goal⟩ → VdH H' x → VdN H' x → R (.agg x.enc.toArray) w') : CallsV Yaao.prog 31 #[.slice (some ⟨w.heap.size, 0, none⟩) us.length c, .agg #[c0, c1, c2]] (w.alloc (.cells (encV3 us).toArray 51)) R := by
  have fA : Fr noB w (w.alloc (.cells (encV3 us).toArray 51)) := Fr.alloc _ _ _ _
  obtain ⟨H1, l1, hH1, k1, x1⟩ := (Blk.new w 51 (encV3 us)).keep (hH.frN fA) (fun o => hH.off (Nat.le_refl _) o)
  have hlen : (encV3 us).length = us.length * 3 := encV3_len3 us
  refine okVerdict_ok hH1 (ts := ts) ⟨us, tP.mono l1, rfl, ⟨hlen, IsA.some _ _ _, fun j v e => ?_⟩⟩ hp hn hg c0 c1 c2 (hT.mono l1) R (fun w' H' x hE f hv h1 h2 => h w' H' x ⟨l1.trans hE.le, hE.hs, fun k hk o => ?_⟩ (fA.no f) hv h1 h2)
  · rw [ablk_some, aoff_some, Nat.zero_add, k1 j]; exact e
  · rw [hE.lo k (by have := fA.size; omega) o, x1 k (by omega) o]
-- spec.BuildProof
set_option maxHeartbeats 2000000 in
set_option maxRecDepth 20000 in
theorem R_pr {H0 Hq : Heap} {w0 w : World} {gb rb : Nat} {ca : Option Addr} {n cc p : Nat} {ex : List ExO} {ρ : Env} {ls : List LT} {xs : List VdA} {k : Exit → Env → World → Prop} {id d0 d1 d2 d3 d4 d5 X : Nat} {ty0 ty1 ty2 ty3 ty4 ty5 ty6 : TypeId} {ps0 ps1 ps2 ps3 ps4 ps5 ps6 : String} {af0 af1 af2 af3 af4 af5 af6 : Array Edge} {cst : ByteArray} {t : FT} {l : LT} (S : BM H0 Hq w0 w gb rb ca n cc p ex ρ ls xs) (hd : 58 ≤ d0 ∧ d0 < d1 ∧ d1 < d2 ∧ d2 < d3 ∧ d3 < d4 ∧ d4 < d5) (hX : X < 58) (TX : TV Hq (ρ X) t) (hX0 : BF t) (hc : cst.size ≤ 100) (hl : l.tx = cst.data.toList ++ showB t) (hb : ls.length ≤ 1000000000)
    (h : ∀ ρ' w', BM H0 Hq w0 w' gb rb ca n cc p ex ρ' (ls ++ [l]) xs → (∀ r, r < 58 → r ≠ 4 → ρ' r = ρ r) → k .normal ρ' w') : VC Yaao.prog (.region id #[⟨some d0, .move (.tmp 4), ty0, ps0, af0, none⟩, ⟨some d1, .load 51 (.tmp X), ty1, ps1, af1, none⟩, ⟨some d2, .call { callee := .value (.func 29), args := #[.tmp d1], argTypes := #[51] }, ty2, ps2, af2, none⟩, ⟨some d3, .binOp .add 9 (.const (.string cst)) (.tmp d2) 9, ty3, ps3, af3, none⟩, ⟨some d4, .buildSlice 26 1 #[(0, .tmp d3)], ty4, ps4, af4, none⟩, ⟨some d5, .call { callee := .builtin .append, args := #[.tmp d0, .tmp d4], argTypes := #[26, 26] }, ty5, ps5, af5, none⟩, ⟨some 4, .assign (.tmp d5), ty6, ps6, af6, none⟩] false) k ρ w := by
  have m0_1 : d0 ≠ d1 := by omega
  have m0_2 : d0 ≠ d2 := by omega
  have m0_3 : d0 ≠ d3 := by omega
  have m0_4 : d0 ≠ d4 := by omega
  have m0_5 : d0 ≠ d5 := by omega
  have mxX_0 : X ≠ d0 := by omega
  have myX_0 : d0 ≠ X := by omega
  have mx2_0 : 2 ≠ d0 := by omega
  have my2_0 : d0 ≠ 2 := by omega
  have mx3_0 : 3 ≠ d0 := by omega
  have my3_0 : d0 ≠ 3 := by omega
  have mx4_0 : 4 ≠ d0 := by omega
  have my4_0 : d0 ≠ 4 := by omega
  have mx5_0 : 5 ≠ d0 := by omega
  have my5_0 : d0 ≠ 5 := by omega
  have m1_0 : d1 ≠ d0 := by omega
  have m1_2 : d1 ≠ d2 := by omega
  have m1_3 : d1 ≠ d3 := by omega
  have m1_4 : d1 ≠ d4 := by omega
  have m1_5 : d1 ≠ d5 := by omega
  have mxX_1 : X ≠ d1 := by omega
  have myX_1 : d1 ≠ X := by omega
  have mx2_1 : 2 ≠ d1 := by omega
  have my2_1 : d1 ≠ 2 := by omega
  have mx3_1 : 3 ≠ d1 := by omega
  have my3_1 : d1 ≠ 3 := by omega
  have mx4_1 : 4 ≠ d1 := by omega
  have my4_1 : d1 ≠ 4 := by omega
  have mx5_1 : 5 ≠ d1 := by omega
  have my5_1 : d1 ≠ 5 := by omega
  have m2_0 : d2 ≠ d0 := by omega
  have m2_1 : d2 ≠ d1 := by omega
  have m2_3 : d2 ≠ d3 := by omega
  have m2_4 : d2 ≠ d4 := by omega
  have m2_5 : d2 ≠ d5 := by omega
  have mxX_2 : X ≠ d2 := by omega
  have myX_2 : d2 ≠ X := by omega
  have mx2_2 : 2 ≠ d2 := by omega
  have my2_2 : d2 ≠ 2 := by omega
  have mx3_2 : 3 ≠ d2 := by omega
  have my3_2 : d2 ≠ 3 := by omega
  have mx4_2 : 4 ≠ d2 := by omega
  have my4_2 : d2 ≠ 4 := by omega
  have mx5_2 : 5 ≠ d2 := by omega
  have my5_2 : d2 ≠ 5 := by omega
  have m3_0 : d3 ≠ d0 := by omega
  have m3_1 : d3 ≠ d1 := by omega
  have m3_2 : d3 ≠ d2 := by omega
  have m3_4 : d3 ≠ d4 := by omega
  have m3_5 : d3 ≠ d5 := by omega
  have mxX_3 : X ≠ d3 := by omega
  have myX_3 : d3 ≠ X := by omega
  have mx2_3 : 2 ≠ d3 := by omega
  have my2_3 : d3 ≠ 2 := by omega
  have mx3_3 : 3 ≠ d3 := by omega
  have my3_3 : d3 ≠ 3 := by omega
  have mx4_3 : 4 ≠ d3 := by omega
  have my4_3 : d3 ≠ 4 := by omega
  have mx5_3 : 5 ≠ d3 := by omega
  have my5_3 : d3 ≠ 5 := by omega
  have m4_0 : d4 ≠ d0 := by omega
  have m4_1 : d4 ≠ d1 := by omega
  have m4_2 : d4 ≠ d2 := by omega
  have m4_3 : d4 ≠ d3 := by omega
  have m4_5 : d4 ≠ d5 := by omega
  have mxX_4 : X ≠ d4 := by omega
  have myX_4 : d4 ≠ X := by omega
  have mx2_4 : 2 ≠ d4 := by omega
  have my2_4 : d4 ≠ 2 := by omega
  have mx3_4 : 3 ≠ d4 := by omega
  have my3_4 : d4 ≠ 3 := by omega
  have mx4_4 : 4 ≠ d4 := by omega
  have my4_4 : d4 ≠ 4 := by omega
  have mx5_4 : 5 ≠ d4 := by omega
  have my5_4 : d4 ≠ 5 := by omega
  have m5_0 : d5 ≠ d0 := by omega
  have m5_1 : d5 ≠ d1 := by omega
  have m5_2 : d5 ≠ d2 := by omega
  have m5_3 : d5 ≠ d3 := by omega
  have m5_4 : d5 ≠ d4 := by omega
  have mxX_5 : X ≠ d5 := by omega
  have myX_5 : d5 ≠ X := by omega
  have mx2_5 : 2 ≠ d5 := by omega
  have my2_5 : d5 ≠ 2 := by omega
  have mx3_5 : 3 ≠ d5 := by omega
  have my3_5 : d5 ≠ 3 := by omega
  have mx4_5 : 4 ≠ d5 := by omega
  have my4_5 : d5 ≠ 4 := by omega
  have mx5_5 : 5 ≠ d5 := by omega
  have my5_5 : d5 ≠ 5 := by omega
  obtain ⟨la, lc, l1, l2, l3⟩ := S.ol
  have hH := S.hs
  obtain ⟨bx, x0, x1, x2, eX, g0, g1, g2, hTx⟩ := TX.ex
  obtain ⟨ox0, ox1, ox2⟩ := hTx.one
  have hsz := show_len hX0
  have hz1 := size_mk (showB t)
  repeat' (first | refine W_seq (fun K hK => ?_) | refine W_block ?_ | refine W_skip ?_ | refine W_exit ?_ | refine W_ret ?_ | refine W_region ?_ | simp (disch := first | (simp only [undef, want_some, upd_app, List.getElem?_cons_succ, List.getElem?_cons_zero, Option.join_some, e_bt, e_bf, Nat.reduceEqDiff, ↓reduceIte, Bool.not_true, Bool.not_false, ne_eq, not_false_eq_true]; done) | ((with_reducible refine pkE ?_); with_unfolding_all rfl) | ((with_reducible refine cszE ?_); with_unfolding_all rfl) | ((with_reducible refine isQE ?_); with_unfolding_all rfl) | assumption | omega) only [List.map_cons, List.map_nil, List.map_toArray, Nat.reduceEqDiff, b_exit, b_exitN, b_normal, b_ret, c_agg, c_bool, c_int, c_sl, c_str, e26, e_bs0 _ _ k26 ie26 ze26 se26, e_bs1 _ _ k26 ie26 ze26 se26 (by decide), ev_const, ev_tmp, fe_addS, fo_assign, fo_bin, fo_load, fo_move, init1, init2a, init2b, init3a, init3b, init3c, o_append, o_buildSlice, o_call _ _ _ _ _ _ _ c29, put_some, r_enter, r_value, s_nil, s_none, t_exit, t_normal, t_ret, upd_app, ↓reduceIte, eX, l1, g0, g1, g2, m0_1, m0_2, m0_3, m0_4, m0_5, mxX_0, myX_0, mx2_0, my2_0, mx3_0, my3_0, mx4_0, my4_0, mx5_0, my5_0, m1_0, m1_2, m1_3, m1_4, m1_5, mxX_1, myX_1, mx2_1, my2_1, mx3_1, my3_1, mx4_1, my4_1, mx5_1, my5_1, m2_0, m2_1, m2_3, m2_4, m2_5, mxX_2, myX_2, mx2_2, my2_2, mx3_2, my3_2, mx4_2, my4_2, mx5_2, my5_2, m3_0, m3_1, m3_2, m3_4, m3_5, mxX_3, myX_3, mx2_3, my2_3, mx3_3, my3_3, mx4_3, my4_3, mx5_3, my5_3, m4_0, m4_1, m4_2, m4_3, m4_5, mxX_4, myX_4, mx2_4, my2_4, mx3_4, my3_4, mx4_4, my4_4, mx5_4, my5_4, m5_0, m5_1, m5_2, m5_3, m5_4, mxX_5, myX_5, mx2_5, my2_5, mx3_5, my3_5, mx4_5, my4_5, mx5_5, my5_5, Nat.zero_add, List.map_cons, List.map_nil, cells1, cells2, cells3, cells4, cells5, d_loud, d_nil, d_quiet, d_someF, d_someT, e_ldaH k51 i51 s51 hH, l_enter, l_skip, l_val, q_lda k51 i51 s51 hH, q_val hH] | refine showTree_ok hX0.1 hH _ _ _ hTx (by omega) _ (fun w2 f2 => ?_) | refine V_app k26 e26 ze26 rfl se26 be26 (l2.frN f2) rfl (by simp [oneC]) (by unfold maxLen; omega) (by omega) (fun a9 d9 w9 ho9 hf9 hn9 => ?_) | refine W_drawH hH (by kernel_rfl) (by kernel_rfl) (fun w1 hw1 hH => ?_) | (refine D_split rfl rfl (fun hc => ?_) (fun hc => ?_) <;> (try simp only [decide_eq_true_eq, decide_eq_false_iff_not, Bool.not_eq_true', Bool.not_eq_false', Int.not_lt, Int.not_le, Decidable.not_not] at hc) <;> (try contradiction) <;> (try (exfalso; omega))) | (refine W_cond rfl (fun hc => ?_) (fun hc => ?_) <;> (try simp only [decide_eq_true_eq, decide_eq_false_iff_not, Bool.not_eq_true', Bool.not_eq_false', Int.not_lt, Int.not_le, Decidable.not_not] at hc) <;> (try contradiction) <;> (try (exfalso; omega))) | (refine G_split rfl rfl (fun hc => ?_) (fun hc => ?_) <;> (try simp only [decide_eq_true_eq, decide_eq_false_iff_not, Bool.not_eq_true', Bool.not_eq_false', Int.not_lt, Int.not_le, Decidable.not_not] at hc) <;> (try contradiction) <;> (try (exfalso; omega))) | (with_reducible (refine hK _ _ ?_); clear hK K) | go_step)
  have fin : ∀ ρ' : Env, (∀ r, r < 58 → r ≠ 4 → ρ' r = ρ r) → ρ' 4 = .slice a9 (ls.length + 1) d9 → k .normal ρ' w9 := fun ρ' K e4 => h ρ' _ ((S.frN f2).setL l1 hf9 (ownL ho9 (ba_eq hl)) hn9 (K 2 (by omega) (by omega)) (K 3 (by omega) (by omega)) (by rw [e4, List.length_append]; rfl) (K 5 (by omega) (by omega))) K
  exact fin _ (fun r h1 h2 => by simp only [upd_app, if_neg (show ¬ r = d0 by omega), if_neg (show ¬ r = d1 by omega), if_neg (show ¬ r = d2 by omega), if_neg (show ¬ r = d3 by omega), if_neg (show ¬ r = d4 by omega), if_neg (show ¬ r = d5 by omega), if_neg h2]) (by simp only [upd_app, if_true])

-- spec.BuildProof
set_option maxHeartbeats 2000000 in
set_option maxRecDepth 20000 in
theorem R_prN {H0 Hq : Heap} {w0 w : World} {gb rb : Nat} {ca : Option Addr} {n cc p : Nat} {ex : List ExO} {ρ : Env} {ls : List LT} {xs : List VdA} {k : Exit → Env → World → Prop} {id d0 d1 d6 d2 d3 d4 d5 X : Nat} {ty0 ty1 ty2 ty3 ty4 ty5 ty6 ty7 : TypeId} {ps0 ps1 ps2 ps3 ps4 ps5 ps6 ps7 : String} {af0 af1 af2 af3 af4 af5 af6 af7 : Array Edge} {cst : ByteArray} {t : FT} {l : LT} (S : BM H0 Hq w0 w gb rb ca n cc p ex ρ ls xs) (hd : 58 ≤ d0 ∧ d0 < d1 ∧ d1 < d6 ∧ d6 < d2 ∧ d2 < d3 ∧ d3 < d4 ∧ d4 < d5) (hX : X < 58) (TX : TV Hq (ρ X) t) (hX0 : BF t) (hn : tsize t < 300) (hc : cst.size ≤ 100) (hl : l.tx = cst.data.toList ++ showB (tN t)) (hb : ls.length ≤ 1000000000)
    (h : ∀ ρ' w', BM H0 Hq w0 w' gb rb ca n cc p ex ρ' (ls ++ [l]) xs → (∀ r, r < 58 → r ≠ 4 → ρ' r = ρ r) → k .normal ρ' w') : VC Yaao.prog (.region id #[⟨some d0, .move (.tmp 4), ty0, ps0, af0, none⟩, ⟨some d1, .load 51 (.tmp X), ty1, ps1, af1, none⟩, ⟨some d6, .call { callee := .value (.func 32), args := #[.tmp d1], argTypes := #[51] }, ty2, ps2, af2, none⟩, ⟨some d2, .call { callee := .value (.func 29), args := #[.tmp d6], argTypes := #[51] }, ty3, ps3, af3, none⟩, ⟨some d3, .binOp .add 9 (.const (.string cst)) (.tmp d2) 9, ty4, ps4, af4, none⟩, ⟨some d4, .buildSlice 26 1 #[(0, .tmp d3)], ty5, ps5, af5, none⟩, ⟨some d5, .call { callee := .builtin .append, args := #[.tmp d0, .tmp d4], argTypes := #[26, 26] }, ty6, ps6, af6, none⟩, ⟨some 4, .assign (.tmp d5), ty7, ps7, af7, none⟩] false) k ρ w := by
  have m0_1 : d0 ≠ d1 := by omega
  have m0_2 : d0 ≠ d6 := by omega
  have m0_3 : d0 ≠ d2 := by omega
  have m0_4 : d0 ≠ d3 := by omega
  have m0_5 : d0 ≠ d4 := by omega
  have m0_6 : d0 ≠ d5 := by omega
  have mxX_0 : X ≠ d0 := by omega
  have myX_0 : d0 ≠ X := by omega
  have mx2_0 : 2 ≠ d0 := by omega
  have my2_0 : d0 ≠ 2 := by omega
  have mx3_0 : 3 ≠ d0 := by omega
  have my3_0 : d0 ≠ 3 := by omega
  have mx4_0 : 4 ≠ d0 := by omega
  have my4_0 : d0 ≠ 4 := by omega
  have mx5_0 : 5 ≠ d0 := by omega
  have my5_0 : d0 ≠ 5 := by omega
  have m1_0 : d1 ≠ d0 := by omega
  have m1_2 : d1 ≠ d6 := by omega
  have m1_3 : d1 ≠ d2 := by omega
  have m1_4 : d1 ≠ d3 := by omega
  have m1_5 : d1 ≠ d4 := by omega
  have m1_6 : d1 ≠ d5 := by omega
  have mxX_1 : X ≠ d1 := by omega
  have myX_1 : d1 ≠ X := by omega
  have mx2_1 : 2 ≠ d1 := by omega
  have my2_1 : d1 ≠ 2 := by omega
  have mx3_1 : 3 ≠ d1 := by omega
  have my3_1 : d1 ≠ 3 := by omega
  have mx4_1 : 4 ≠ d1 := by omega
  have my4_1 : d1 ≠ 4 := by omega
  have mx5_1 : 5 ≠ d1 := by omega
  have my5_1 : d1 ≠ 5 := by omega
  have m2_0 : d6 ≠ d0 := by omega
  have m2_1 : d6 ≠ d1 := by omega
  have m2_3 : d6 ≠ d2 := by omega
  have m2_4 : d6 ≠ d3 := by omega
  have m2_5 : d6 ≠ d4 := by omega
  have m2_6 : d6 ≠ d5 := by omega
  have mxX_2 : X ≠ d6 := by omega
  have myX_2 : d6 ≠ X := by omega
  have mx2_2 : 2 ≠ d6 := by omega
  have my2_2 : d6 ≠ 2 := by omega
  have mx3_2 : 3 ≠ d6 := by omega
  have my3_2 : d6 ≠ 3 := by omega
  have mx4_2 : 4 ≠ d6 := by omega
  have my4_2 : d6 ≠ 4 := by omega
  have mx5_2 : 5 ≠ d6 := by omega
  have my5_2 : d6 ≠ 5 := by omega
  have m3_0 : d2 ≠ d0 := by omega
  have m3_1 : d2 ≠ d1 := by omega
  have m3_2 : d2 ≠ d6 := by omega
  have m3_4 : d2 ≠ d3 := by omega
  have m3_5 : d2 ≠ d4 := by omega
  have m3_6 : d2 ≠ d5 := by omega
  have mxX_3 : X ≠ d2 := by omega
  have myX_3 : d2 ≠ X := by omega
  have mx2_3 : 2 ≠ d2 := by omega
  have my2_3 : d2 ≠ 2 := by omega
  have mx3_3 : 3 ≠ d2 := by omega
  have my3_3 : d2 ≠ 3 := by omega
  have mx4_3 : 4 ≠ d2 := by omega
  have my4_3 : d2 ≠ 4 := by omega
  have mx5_3 : 5 ≠ d2 := by omega
  have my5_3 : d2 ≠ 5 := by omega
  have m4_0 : d3 ≠ d0 := by omega
  have m4_1 : d3 ≠ d1 := by omega
  have m4_2 : d3 ≠ d6 := by omega
  have m4_3 : d3 ≠ d2 := by omega
  have m4_5 : d3 ≠ d4 := by omega
  have m4_6 : d3 ≠ d5 := by omega
  have mxX_4 : X ≠ d3 := by omega
  have myX_4 : d3 ≠ X := by omega
  have mx2_4 : 2 ≠ d3 := by omega
  have my2_4 : d3 ≠ 2 := by omega
  have mx3_4 : 3 ≠ d3 := by omega
  have my3_4 : d3 ≠ 3 := by omega
  have mx4_4 : 4 ≠ d3 := by omega
  have my4_4 : d3 ≠ 4 := by omega
  have mx5_4 : 5 ≠ d3 := by omega
  have my5_4 : d3 ≠ 5 := by omega
  have m5_0 : d4 ≠ d0 := by omega
  have m5_1 : d4 ≠ d1 := by omega
  have m5_2 : d4 ≠ d6 := by omega
  have m5_3 : d4 ≠ d2 := by omega
  have m5_4 : d4 ≠ d3 := by omega
  have m5_6 : d4 ≠ d5 := by omega
  have mxX_5 : X ≠ d4 := by omega
  have myX_5 : d4 ≠ X := by omega
  have mx2_5 : 2 ≠ d4 := by omega
  have my2_5 : d4 ≠ 2 := by omega
  have mx3_5 : 3 ≠ d4 := by omega
  have my3_5 : d4 ≠ 3 := by omega
  have mx4_5 : 4 ≠ d4 := by omega
  have my4_5 : d4 ≠ 4 := by omega
  have mx5_5 : 5 ≠ d4 := by omega
  have my5_5 : d4 ≠ 5 := by omega
  have m6_0 : d5 ≠ d0 := by omega
  have m6_1 : d5 ≠ d1 := by omega
  have m6_2 : d5 ≠ d6 := by omega
  have m6_3 : d5 ≠ d2 := by omega
  have m6_4 : d5 ≠ d3 := by omega
  have m6_5 : d5 ≠ d4 := by omega
  have mxX_6 : X ≠ d5 := by omega
  have myX_6 : d5 ≠ X := by omega
  have mx2_6 : 2 ≠ d5 := by omega
  have my2_6 : d5 ≠ 2 := by omega
  have mx3_6 : 3 ≠ d5 := by omega
  have my3_6 : d5 ≠ 3 := by omega
  have mx4_6 : 4 ≠ d5 := by omega
  have my4_6 : d5 ≠ 4 := by omega
  have mx5_6 : 5 ≠ d5 := by omega
  have my5_6 : d5 ≠ 5 := by omega
  obtain ⟨la, lc, l1, l2, l3⟩ := S.ol
  have hH := S.hs
  obtain ⟨bx, x0, x1, x2, eX, g0, g1, g2, hTx⟩ := TX.ex
  obtain ⟨ox0, ox1, ox2⟩ := hTx.one
  have hsz := show_len hX0
  have hN : BF (tN t) := ⟨shN hX0.1, by rw [sz_N]; omega⟩
  have hsN := show_len hN
  have hz1 := size_mk (showB (tN t))
  repeat' (first | refine W_seq (fun K hK => ?_) | refine W_block ?_ | refine W_skip ?_ | refine W_exit ?_ | refine W_ret ?_ | refine W_region ?_ | simp (disch := first | (simp only [undef, want_some, upd_app, List.getElem?_cons_succ, List.getElem?_cons_zero, Option.join_some, e_bt, e_bf, Nat.reduceEqDiff, ↓reduceIte, Bool.not_true, Bool.not_false, ne_eq, not_false_eq_true]; done) | ((with_reducible refine pkE ?_); with_unfolding_all rfl) | ((with_reducible refine cszE ?_); with_unfolding_all rfl) | ((with_reducible refine isQE ?_); with_unfolding_all rfl) | assumption | omega) only [List.map_cons, List.map_nil, List.map_toArray, Nat.reduceEqDiff, b_exit, b_exitN, b_normal, b_ret, c_agg, c_bool, c_int, c_sl, c_str, e26, e_bs0 _ _ k26 ie26 ze26 se26, e_bs1 _ _ k26 ie26 ze26 se26 (by decide), ev_const, ev_tmp, fe_addS, fo_assign, fo_bin, fo_load, fo_move, init1, init2a, init2b, init3a, init3b, init3c, o_append, o_buildSlice, o_call _ _ _ _ _ _ _ c29, o_call _ _ _ _ _ _ _ c32, put_some, r_enter, r_value, s_nil, s_none, t_exit, t_normal, t_ret, upd_app, ↓reduceIte, eX, l1, g0, g1, g2, m0_1, m0_2, m0_3, m0_4, m0_5, m0_6, mxX_0, myX_0, mx2_0, my2_0, mx3_0, my3_0, mx4_0, my4_0, mx5_0, my5_0, m1_0, m1_2, m1_3, m1_4, m1_5, m1_6, mxX_1, myX_1, mx2_1, my2_1, mx3_1, my3_1, mx4_1, my4_1, mx5_1, my5_1, m2_0, m2_1, m2_3, m2_4, m2_5, m2_6, mxX_2, myX_2, mx2_2, my2_2, mx3_2, my3_2, mx4_2, my4_2, mx5_2, my5_2, m3_0, m3_1, m3_2, m3_4, m3_5, m3_6, mxX_3, myX_3, mx2_3, my2_3, mx3_3, my3_3, mx4_3, my4_3, mx5_3, my5_3, m4_0, m4_1, m4_2, m4_3, m4_5, m4_6, mxX_4, myX_4, mx2_4, my2_4, mx3_4, my3_4, mx4_4, my4_4, mx5_4, my5_4, m5_0, m5_1, m5_2, m5_3, m5_4, m5_6, mxX_5, myX_5, mx2_5, my2_5, mx3_5, my3_5, mx4_5, my4_5, mx5_5, my5_5, m6_0, m6_1, m6_2, m6_3, m6_4, m6_5, mxX_6, myX_6, mx2_6, my2_6, mx3_6, my3_6, mx4_6, my4_6, mx5_6, my5_6, Nat.zero_add, List.map_cons, List.map_nil, cells1, cells2, cells3, cells4, cells5, d_loud, d_nil, d_quiet, d_someF, d_someT, e_ldaH k51 i51 s51 hH, l_enter, l_skip, l_val, q_lda k51 i51 s51 hH, q_val hH] | refine notT_ok2 hH x0 x1 x2 ⟨ox0, ox1, ox2⟩ _ (fun w3 a3 H3 hE3 sl3 f3 => ?_) | refine showTree_ok hN.1 hE3.hs _ _ _ ((hTx.mono hE3.le).N sl3) (by omega) _ (fun w2 f2 => ?_) | refine V_app k26 e26 ze26 rfl se26 be26 (l2.frN (f3.no f2)) rfl (by simp [oneC]) (by unfold maxLen; omega) (by omega) (fun a9 d9 w9 ho9 hf9 hn9 => ?_) | refine W_drawH hH (by kernel_rfl) (by kernel_rfl) (fun w1 hw1 hH => ?_) | (refine D_split rfl rfl (fun hc => ?_) (fun hc => ?_) <;> (try simp only [decide_eq_true_eq, decide_eq_false_iff_not, Bool.not_eq_true', Bool.not_eq_false', Int.not_lt, Int.not_le, Decidable.not_not] at hc) <;> (try contradiction) <;> (try (exfalso; omega))) | (refine W_cond rfl (fun hc => ?_) (fun hc => ?_) <;> (try simp only [decide_eq_true_eq, decide_eq_false_iff_not, Bool.not_eq_true', Bool.not_eq_false', Int.not_lt, Int.not_le, Decidable.not_not] at hc) <;> (try contradiction) <;> (try (exfalso; omega))) | (refine G_split rfl rfl (fun hc => ?_) (fun hc => ?_) <;> (try simp only [decide_eq_true_eq, decide_eq_false_iff_not, Bool.not_eq_true', Bool.not_eq_false', Int.not_lt, Int.not_le, Decidable.not_not] at hc) <;> (try contradiction) <;> (try (exfalso; omega))) | (with_reducible (refine hK _ _ ?_); clear hK K) | go_step)
  have fin : ∀ ρ' : Env, (∀ r, r < 58 → r ≠ 4 → ρ' r = ρ r) → ρ' 4 = .slice a9 (ls.length + 1) d9 → k .normal ρ' w9 := fun ρ' K e4 => h ρ' _ ((S.frN (f3.no f2)).setL l1 hf9 (ownL ho9 (ba_eq hl)) hn9 (K 2 (by omega) (by omega)) (K 3 (by omega) (by omega)) (by rw [e4, List.length_append]; rfl) (K 5 (by omega) (by omega))) K
  exact fin _ (fun r h1 h2 => by simp only [upd_app, if_neg (show ¬ r = d0 by omega), if_neg (show ¬ r = d1 by omega), if_neg (show ¬ r = d6 by omega), if_neg (show ¬ r = d2 by omega), if_neg (show ¬ r = d3 by omega), if_neg (show ¬ r = d4 by omega), if_neg (show ¬ r = d5 by omega), if_neg h2]) (by simp only [upd_app, if_true])

-- spec.BuildProof
set_option maxHeartbeats 2000000 in
set_option maxRecDepth 20000 in
theorem R_lit {H0 Hq : Heap} {w0 w : World} {gb rb : Nat} {ca : Option Addr} {n cc p : Nat} {ex : List ExO} {ρ : Env} {ls : List LT} {xs : List VdA} {k : Exit → Env → World → Prop} {id d0 d1 d2 : Nat} {ty0 ty1 ty2 ty3 : TypeId} {ps0 ps1 ps2 ps3 : String} {af0 af1 af2 af3 : Array Edge} {cst : ByteArray} {l : LT} (S : BM H0 Hq w0 w gb rb ca n cc p ex ρ ls xs) (hd : 58 ≤ d0 ∧ d0 < d1 ∧ d1 < d2)  (hl : l.tx = cst.data.toList) (hb : ls.length ≤ 1000000000)
    (h : ∀ ρ' w', BM H0 Hq w0 w' gb rb ca n cc p ex ρ' (ls ++ [l]) xs → (∀ r, r < 58 → r ≠ 4 → ρ' r = ρ r) → k .normal ρ' w') : VC Yaao.prog (.region id #[⟨some d0, .move (.tmp 4), ty0, ps0, af0, none⟩, ⟨some d1, .buildSlice 26 1 #[(0, .const (.string cst))], ty1, ps1, af1, none⟩, ⟨some d2, .call { callee := .builtin .append, args := #[.tmp d0, .tmp d1], argTypes := #[26, 26] }, ty2, ps2, af2, none⟩, ⟨some 4, .assign (.tmp d2), ty3, ps3, af3, none⟩] false) k ρ w := by
  have m0_1 : d0 ≠ d1 := by omega
  have m0_2 : d0 ≠ d2 := by omega
  have mx2_0 : 2 ≠ d0 := by omega
  have my2_0 : d0 ≠ 2 := by omega
  have mx3_0 : 3 ≠ d0 := by omega
  have my3_0 : d0 ≠ 3 := by omega
  have mx4_0 : 4 ≠ d0 := by omega
  have my4_0 : d0 ≠ 4 := by omega
  have mx5_0 : 5 ≠ d0 := by omega
  have my5_0 : d0 ≠ 5 := by omega
  have m1_0 : d1 ≠ d0 := by omega
  have m1_2 : d1 ≠ d2 := by omega
  have mx2_1 : 2 ≠ d1 := by omega
  have my2_1 : d1 ≠ 2 := by omega
  have mx3_1 : 3 ≠ d1 := by omega
  have my3_1 : d1 ≠ 3 := by omega
  have mx4_1 : 4 ≠ d1 := by omega
  have my4_1 : d1 ≠ 4 := by omega
  have mx5_1 : 5 ≠ d1 := by omega
  have my5_1 : d1 ≠ 5 := by omega
  have m2_0 : d2 ≠ d0 := by omega
  have m2_1 : d2 ≠ d1 := by omega
  have mx2_2 : 2 ≠ d2 := by omega
  have my2_2 : d2 ≠ 2 := by omega
  have mx3_2 : 3 ≠ d2 := by omega
  have my3_2 : d2 ≠ 3 := by omega
  have mx4_2 : 4 ≠ d2 := by omega
  have my4_2 : d2 ≠ 4 := by omega
  have mx5_2 : 5 ≠ d2 := by omega
  have my5_2 : d2 ≠ 5 := by omega
  obtain ⟨la, lc, l1, l2, l3⟩ := S.ol
  have hH := S.hs
  repeat' (first | refine W_seq (fun K hK => ?_) | refine W_block ?_ | refine W_skip ?_ | refine W_exit ?_ | refine W_ret ?_ | refine W_region ?_ | simp (disch := first | (simp only [undef, want_some, upd_app, List.getElem?_cons_succ, List.getElem?_cons_zero, Option.join_some, e_bt, e_bf, Nat.reduceEqDiff, ↓reduceIte, Bool.not_true, Bool.not_false, ne_eq, not_false_eq_true]; done) | ((with_reducible refine pkE ?_); with_unfolding_all rfl) | ((with_reducible refine cszE ?_); with_unfolding_all rfl) | ((with_reducible refine isQE ?_); with_unfolding_all rfl) | assumption | omega) only [List.map_cons, List.map_nil, Nat.reduceEqDiff, b_exit, b_exitN, b_normal, b_ret, c_agg, c_bool, c_int, c_sl, c_str, e26, e_bs0 _ _ k26 ie26 ze26 se26, e_bs1 _ _ k26 ie26 ze26 se26 (by decide), ev_const, ev_tmp, fo_assign, fo_move, init1, init2a, init2b, init3a, init3b, init3c, o_append, o_buildSlice, put_some, r_value, s_nil, s_none, t_exit, t_normal, t_ret, upd_app, ↓reduceIte, l1, m0_1, m0_2, mx2_0, my2_0, mx3_0, my3_0, mx4_0, my4_0, mx5_0, my5_0, m1_0, m1_2, mx2_1, my2_1, mx3_1, my3_1, mx4_1, my4_1, mx5_1, my5_1, m2_0, m2_1, mx2_2, my2_2, mx3_2, my3_2, mx4_2, my4_2, mx5_2, my5_2, Nat.zero_add, List.map_cons, List.map_nil, d_loud, d_nil, d_quiet, d_someF, d_someT, l_enter, l_skip, l_val, q_val hH] | refine V_app k26 e26 ze26 rfl se26 be26 (l2.frN (Fr.refl noB w)) rfl (by simp [oneC]) (by unfold maxLen; omega) (by omega) (fun a9 d9 w9 ho9 hf9 hn9 => ?_) | refine W_drawH hH (by kernel_rfl) (by kernel_rfl) (fun w1 hw1 hH => ?_) | (refine D_split rfl rfl (fun hc => ?_) (fun hc => ?_) <;> (try simp only [decide_eq_true_eq, decide_eq_false_iff_not, Bool.not_eq_true', Bool.not_eq_false', Int.not_lt, Int.not_le, Decidable.not_not] at hc) <;> (try contradiction) <;> (try (exfalso; omega))) | (refine W_cond rfl (fun hc => ?_) (fun hc => ?_) <;> (try simp only [decide_eq_true_eq, decide_eq_false_iff_not, Bool.not_eq_true', Bool.not_eq_false', Int.not_lt, Int.not_le, Decidable.not_not] at hc) <;> (try contradiction) <;> (try (exfalso; omega))) | (refine G_split rfl rfl (fun hc => ?_) (fun hc => ?_) <;> (try simp only [decide_eq_true_eq, decide_eq_false_iff_not, Bool.not_eq_true', Bool.not_eq_false', Int.not_lt, Int.not_le, Decidable.not_not] at hc) <;> (try contradiction) <;> (try (exfalso; omega))) | (with_reducible (refine hK _ _ ?_); clear hK K) | go_step)
  have fin : ∀ ρ' : Env, (∀ r, r < 58 → r ≠ 4 → ρ' r = ρ r) → ρ' 4 = .slice a9 (ls.length + 1) d9 → k .normal ρ' w9 := fun ρ' K e4 => h ρ' _ ((S.frN (Fr.refl noB w)).setL l1 hf9 (ownL ho9 (ba_eq0 hl)) hn9 (K 2 (by omega) (by omega)) (K 3 (by omega) (by omega)) (by rw [e4, List.length_append]; rfl) (K 5 (by omega) (by omega))) K
  exact fin _ (fun r h1 h2 => by simp only [upd_app, if_neg (show ¬ r = d0 by omega), if_neg (show ¬ r = d1 by omega), if_neg (show ¬ r = d2 by omega), if_neg h2]) (by simp only [upd_app, if_true])

-- spec.BuildProof
set_option maxHeartbeats 2000000 in
set_option maxRecDepth 20000 in
theorem R_st1 {H0 Hq : Heap} {w0 w : World} {gb rb : Nat} {ca : Option Addr} {n cc p : Nat} {ex : List ExO} {ρ : Env} {ls : List LT} {xs : List VdA} {k : Exit → Env → World → Prop} {id d0 d1 e1 e2 e3 e4 X : Nat} {ty0 ty1 ty2 ty3 ty4 ty5 ty6 : TypeId} {ps0 ps1 ps2 ps3 ps4 ps5 ps6 : String} {af0 af1 af2 af3 af4 af5 af6 : Array Edge} {rl : ByteArray} {rule : Int} {zr1 : Int} {t : FT} (S : BM H0 Hq w0 w gb rb ca n cc p ex ρ ls xs) (hd : 58 ≤ d0 ∧ d0 < d1 ∧ d1 < e1 ∧ e1 < e2 ∧ e2 < e3 ∧ e3 < e4) (hX : X < 58) (TX : TV Hq (ρ X) t) (hX0 : BF t) (hrl : rl = ruleNm rule) (hrs : rl.size ≤ 100) (hz : 0 ≤ zr1 ∧ zr1 ≤ 1000) (hb : ls.length ≤ 1000000000)
    (h : ∀ ρ' w', BM H0 Hq w0 w' gb rb ca n cc p ex ρ' (ls ++ [.st t rule [zr1.toNat]]) xs → (∀ r, r < 58 → r ≠ 4 → ρ' r = ρ r) → k .normal ρ' w') : VC Yaao.prog (.region id #[⟨some d0, .move (.tmp 4), ty0, ps0, af0, none⟩, ⟨some d1, .load 51 (.tmp X), ty1, ps1, af1, none⟩, ⟨some e1, .buildSlice 76 1 #[(0, .const (.int .i64 zr1))], ty2, ps2, af2, none⟩, ⟨some e2, .call { callee := .value (.func 30), args := #[.tmp d1, .const (.string rl), .tmp e1], argTypes := #[51, 9, 76] }, ty3, ps3, af3, none⟩, ⟨some e3, .buildSlice 26 1 #[(0, .tmp e2)], ty4, ps4, af4, none⟩, ⟨some e4, .call { callee := .builtin .append, args := #[.tmp d0, .tmp e3], argTypes := #[26, 26] }, ty5, ps5, af5, none⟩, ⟨some 4, .assign (.tmp e4), ty6, ps6, af6, none⟩] false) k ρ w := by
  have m0_1 : d0 ≠ d1 := by omega
  have m0_2 : d0 ≠ e1 := by omega
  have m0_3 : d0 ≠ e2 := by omega
  have m0_4 : d0 ≠ e3 := by omega
  have m0_5 : d0 ≠ e4 := by omega
  have mxX_0 : X ≠ d0 := by omega
  have myX_0 : d0 ≠ X := by omega
  have mx2_0 : 2 ≠ d0 := by omega
  have my2_0 : d0 ≠ 2 := by omega
  have mx3_0 : 3 ≠ d0 := by omega
  have my3_0 : d0 ≠ 3 := by omega
  have mx4_0 : 4 ≠ d0 := by omega
  have my4_0 : d0 ≠ 4 := by omega
  have mx5_0 : 5 ≠ d0 := by omega
  have my5_0 : d0 ≠ 5 := by omega
  have m1_0 : d1 ≠ d0 := by omega
  have m1_2 : d1 ≠ e1 := by omega
  have m1_3 : d1 ≠ e2 := by omega
  have m1_4 : d1 ≠ e3 := by omega
  have m1_5 : d1 ≠ e4 := by omega
  have mxX_1 : X ≠ d1 := by omega
  have myX_1 : d1 ≠ X := by omega
  have mx2_1 : 2 ≠ d1 := by omega
  have my2_1 : d1 ≠ 2 := by omega
  have mx3_1 : 3 ≠ d1 := by omega
  have my3_1 : d1 ≠ 3 := by omega
  have mx4_1 : 4 ≠ d1 := by omega
  have my4_1 : d1 ≠ 4 := by omega
  have mx5_1 : 5 ≠ d1 := by omega
  have my5_1 : d1 ≠ 5 := by omega
  have m2_0 : e1 ≠ d0 := by omega
  have m2_1 : e1 ≠ d1 := by omega
  have m2_3 : e1 ≠ e2 := by omega
  have m2_4 : e1 ≠ e3 := by omega
  have m2_5 : e1 ≠ e4 := by omega
  have mxX_2 : X ≠ e1 := by omega
  have myX_2 : e1 ≠ X := by omega
  have mx2_2 : 2 ≠ e1 := by omega
  have my2_2 : e1 ≠ 2 := by omega
  have mx3_2 : 3 ≠ e1 := by omega
  have my3_2 : e1 ≠ 3 := by omega
  have mx4_2 : 4 ≠ e1 := by omega
  have my4_2 : e1 ≠ 4 := by omega
  have mx5_2 : 5 ≠ e1 := by omega
  have my5_2 : e1 ≠ 5 := by omega
  have m3_0 : e2 ≠ d0 := by omega
  have m3_1 : e2 ≠ d1 := by omega
  have m3_2 : e2 ≠ e1 := by omega
  have m3_4 : e2 ≠ e3 := by omega
  have m3_5 : e2 ≠ e4 := by omega
  have mxX_3 : X ≠ e2 := by omega
  have myX_3 : e2 ≠ X := by omega
  have mx2_3 : 2 ≠ e2 := by omega
  have my2_3 : e2 ≠ 2 := by omega
  have mx3_3 : 3 ≠ e2 := by omega
  have my3_3 : e2 ≠ 3 := by omega
  have mx4_3 : 4 ≠ e2 := by omega
  have my4_3 : e2 ≠ 4 := by omega
  have mx5_3 : 5 ≠ e2 := by omega
  have my5_3 : e2 ≠ 5 := by omega
  have m4_0 : e3 ≠ d0 := by omega
  have m4_1 : e3 ≠ d1 := by omega
  have m4_2 : e3 ≠ e1 := by omega
  have m4_3 : e3 ≠ e2 := by omega
  have m4_5 : e3 ≠ e4 := by omega
  have mxX_4 : X ≠ e3 := by omega
  have myX_4 : e3 ≠ X := by omega
  have mx2_4 : 2 ≠ e3 := by omega
  have my2_4 : e3 ≠ 2 := by omega
  have mx3_4 : 3 ≠ e3 := by omega
  have my3_4 : e3 ≠ 3 := by omega
  have mx4_4 : 4 ≠ e3 := by omega
  have my4_4 : e3 ≠ 4 := by omega
  have mx5_4 : 5 ≠ e3 := by omega
  have my5_4 : e3 ≠ 5 := by omega
  have m5_0 : e4 ≠ d0 := by omega
  have m5_1 : e4 ≠ d1 := by omega
  have m5_2 : e4 ≠ e1 := by omega
  have m5_3 : e4 ≠ e2 := by omega
  have m5_4 : e4 ≠ e3 := by omega
  have mxX_5 : X ≠ e4 := by omega
  have myX_5 : e4 ≠ X := by omega
  have mx2_5 : 2 ≠ e4 := by omega
  have my2_5 : e4 ≠ 2 := by omega
  have mx3_5 : 3 ≠ e4 := by omega
  have my3_5 : e4 ≠ 3 := by omega
  have mx4_5 : 4 ≠ e4 := by omega
  have my4_5 : e4 ≠ 4 := by omega
  have mx5_5 : 5 ≠ e4 := by omega
  have my5_5 : e4 ≠ 5 := by omega
  obtain ⟨la, lc, l1, l2, l3⟩ := S.ol
  have hH := S.hs
  obtain ⟨bx, x0, x1, x2, eX, g0, g1, g2, hTx⟩ := TX.ex
  obtain ⟨ox0, ox1, ox2⟩ := hTx.one
  have hsz := show_len hX0
  have eY := S.e2
  have j0 := S.e2
  have j1 := S.e2
  have j2 := S.e2
  have hrf : ∀ x ∈ ([zr1.toNat] : List Nat), x ≤ cap := by
    intro x hx; simp at hx; unfold cap; omega
  have hzm : ([zr1] : List Int) = ([zr1.toNat] : List Nat).map (fun x : Nat => (x : Int)) := by
    simp; omega
  repeat' (first | refine W_seq (fun K hK => ?_) | refine W_block ?_ | refine W_skip ?_ | refine W_exit ?_ | refine W_ret ?_ | refine W_region ?_ | simp (disch := first | (simp only [undef, want_some, upd_app, List.getElem?_cons_succ, List.getElem?_cons_zero, Option.join_some, e_bt, e_bf, Nat.reduceEqDiff, ↓reduceIte, Bool.not_true, Bool.not_false, ne_eq, not_false_eq_true]; done) | ((with_reducible refine pkE ?_); with_unfolding_all rfl) | ((with_reducible refine cszE ?_); with_unfolding_all rfl) | ((with_reducible refine isQE ?_); with_unfolding_all rfl) | assumption | omega) only [List.map_cons, List.map_nil, List.map_toArray, Nat.reduceEqDiff, b_exit, b_exitN, b_normal, b_ret, c_agg, c_bool, c_int, c_sl, c_str, e26, e76, e_bs0 _ _ k26 ie26 ze26 se26, e_bs0 _ _ k76 ie76 ze76 se76, e_bs1 _ _ k26 ie26 ze26 se26 (by decide), e_bs1 _ _ k76 ie76 ze76 se76 (by decide), ev_const, ev_tmp, fe_addS, fo_assign, fo_bin, fo_load, fo_move, init1, init2a, init2b, init3a, init3b, init3c, o_append, o_buildSlice, o_call _ _ _ _ _ _ _ c29, o_call _ _ _ _ _ _ _ c30, put_some, r_enter, r_value, s_nil, s_none, t_exit, t_normal, t_ret, upd_app, ↓reduceIte, eX, eY, l1, g0, g1, g2, j0, j1, j2, m0_1, m0_2, m0_3, m0_4, m0_5, mxX_0, myX_0, mx2_0, my2_0, mx3_0, my3_0, mx4_0, my4_0, mx5_0, my5_0, m1_0, m1_2, m1_3, m1_4, m1_5, mxX_1, myX_1, mx2_1, my2_1, mx3_1, my3_1, mx4_1, my4_1, mx5_1, my5_1, m2_0, m2_1, m2_3, m2_4, m2_5, mxX_2, myX_2, mx2_2, my2_2, mx3_2, my3_2, mx4_2, my4_2, mx5_2, my5_2, m3_0, m3_1, m3_2, m3_4, m3_5, mxX_3, myX_3, mx2_3, my2_3, mx3_3, my3_3, mx4_3, my4_3, mx5_3, my5_3, m4_0, m4_1, m4_2, m4_3, m4_5, mxX_4, myX_4, mx2_4, my2_4, mx3_4, my3_4, mx4_4, my4_4, mx5_4, my5_4, m5_0, m5_1, m5_2, m5_3, m5_4, mxX_5, myX_5, mx2_5, my2_5, mx3_5, my3_5, mx4_5, my4_5, mx5_5, my5_5, e_bs3 _ _ k76 ie76 ze76 se76 (by decide), Nat.zero_add, List.map_cons, List.map_nil, cells1, cells2, cells3, cells4, cells5, d_loud, d_nil, d_quiet, d_someF, d_someT, e_ldaH k51 i51 s51 hH, l_enter, l_skip, l_val, q_lda k51 i51 s51 hH, q_val hH] | refine stepLine_okA (zs := [zr1]) hH hX0.1 _ _ _ hTx (by omega) hrs hzm hrf (by simp) _ (fun w2 f2 => ?_) | refine V_app k26 e26 ze26 rfl se26 be26 (l2.frN f2) rfl (by simp [oneC]) (by unfold maxLen; omega) (by omega) (fun a9 d9 w9 ho9 hf9 hn9 => ?_) | refine W_drawH hH (by kernel_rfl) (by kernel_rfl) (fun w1 hw1 hH => ?_) | (refine D_split rfl rfl (fun hc => ?_) (fun hc => ?_) <;> (try simp only [decide_eq_true_eq, decide_eq_false_iff_not, Bool.not_eq_true', Bool.not_eq_false', Int.not_lt, Int.not_le, Decidable.not_not] at hc) <;> (try contradiction) <;> (try (exfalso; omega))) | (refine W_cond rfl (fun hc => ?_) (fun hc => ?_) <;> (try simp only [decide_eq_true_eq, decide_eq_false_iff_not, Bool.not_eq_true', Bool.not_eq_false', Int.not_lt, Int.not_le, Decidable.not_not] at hc) <;> (try contradiction) <;> (try (exfalso; omega))) | (refine G_split rfl rfl (fun hc => ?_) (fun hc => ?_) <;> (try simp only [decide_eq_true_eq, decide_eq_false_iff_not, Bool.not_eq_true', Bool.not_eq_false', Int.not_lt, Int.not_le, Decidable.not_not] at hc) <;> (try contradiction) <;> (try (exfalso; omega))) | (with_reducible (refine hK _ _ ?_); clear hK K) | go_step)
  have fin : ∀ ρ' : Env, (∀ r, r < 58 → r ≠ 4 → ρ' r = ρ r) → ρ' 4 = .slice a9 (ls.length + 1) d9 → k .normal ρ' w9 := fun ρ' K e4 => h ρ' _ ((S.frN f2).setL l1 hf9 (ownL ho9 (by rw [hrl]; rfl)) hn9 (K 2 (by omega) (by omega)) (K 3 (by omega) (by omega)) (by rw [e4, List.length_append]; rfl) (K 5 (by omega) (by omega))) K
  exact fin _ (fun r h1 h2 => by simp only [upd_app, if_neg (show ¬ r = d0 by omega), if_neg (show ¬ r = d1 by omega), if_neg (show ¬ r = e1 by omega), if_neg (show ¬ r = e2 by omega), if_neg (show ¬ r = e3 by omega), if_neg (show ¬ r = e4 by omega), if_neg h2]) (by simp only [upd_app, if_true])

-- spec.BuildProof
set_option maxHeartbeats 2000000 in
set_option maxRecDepth 20000 in
theorem R_st2 {H0 Hq : Heap} {w0 w : World} {gb rb : Nat} {ca : Option Addr} {n cc p : Nat} {ex : List ExO} {ρ : Env} {ls : List LT} {xs : List VdA} {k : Exit → Env → World → Prop} {id d0 d1 e1 e2 e3 e4 X : Nat} {ty0 ty1 ty2 ty3 ty4 ty5 ty6 : TypeId} {ps0 ps1 ps2 ps3 ps4 ps5 ps6 : String} {af0 af1 af2 af3 af4 af5 af6 : Array Edge} {rl : ByteArray} {rule : Int} {zr1 zr2 : Int} {t : FT} (S : BM H0 Hq w0 w gb rb ca n cc p ex ρ ls xs) (hd : 58 ≤ d0 ∧ d0 < d1 ∧ d1 < e1 ∧ e1 < e2 ∧ e2 < e3 ∧ e3 < e4) (hX : X < 58) (TX : TV Hq (ρ X) t) (hX0 : BF t) (hrl : rl = ruleNm rule) (hrs : rl.size ≤ 100) (hz : 0 ≤ zr1 ∧ zr1 ≤ 1000 ∧ 0 ≤ zr2 ∧ zr2 ≤ 1000) (hb : ls.length ≤ 1000000000)
    (h : ∀ ρ' w', BM H0 Hq w0 w' gb rb ca n cc p ex ρ' (ls ++ [.st t rule [zr1.toNat, zr2.toNat]]) xs → (∀ r, r < 58 → r ≠ 4 → ρ' r = ρ r) → k .normal ρ' w') : VC Yaao.prog (.region id #[⟨some d0, .move (.tmp 4), ty0, ps0, af0, none⟩, ⟨some d1, .load 51 (.tmp X), ty1, ps1, af1, none⟩, ⟨some e1, .buildSlice 76 2 #[(0, .const (.int .i64 zr1)), (1, .const (.int .i64 zr2))], ty2, ps2, af2, none⟩, ⟨some e2, .call { callee := .value (.func 30), args := #[.tmp d1, .const (.string rl), .tmp e1], argTypes := #[51, 9, 76] }, ty3, ps3, af3, none⟩, ⟨some e3, .buildSlice 26 1 #[(0, .tmp e2)], ty4, ps4, af4, none⟩, ⟨some e4, .call { callee := .builtin .append, args := #[.tmp d0, .tmp e3], argTypes := #[26, 26] }, ty5, ps5, af5, none⟩, ⟨some 4, .assign (.tmp e4), ty6, ps6, af6, none⟩] false) k ρ w := by
  have m0_1 : d0 ≠ d1 := by omega
  have m0_2 : d0 ≠ e1 := by omega
  have m0_3 : d0 ≠ e2 := by omega
  have m0_4 : d0 ≠ e3 := by omega
  have m0_5 : d0 ≠ e4 := by omega
  have mxX_0 : X ≠ d0 := by omega
  have myX_0 : d0 ≠ X := by omega
  have mx2_0 : 2 ≠ d0 := by omega
  have my2_0 : d0 ≠ 2 := by omega
  have mx3_0 : 3 ≠ d0 := by omega
  have my3_0 : d0 ≠ 3 := by omega
  have mx4_0 : 4 ≠ d0 := by omega
  have my4_0 : d0 ≠ 4 := by omega
  have mx5_0 : 5 ≠ d0 := by omega
  have my5_0 : d0 ≠ 5 := by omega
  have m1_0 : d1 ≠ d0 := by omega
  have m1_2 : d1 ≠ e1 := by omega
  have m1_3 : d1 ≠ e2 := by omega
  have m1_4 : d1 ≠ e3 := by omega
  have m1_5 : d1 ≠ e4 := by omega
  have mxX_1 : X ≠ d1 := by omega
  have myX_1 : d1 ≠ X := by omega
  have mx2_1 : 2 ≠ d1 := by omega
  have my2_1 : d1 ≠ 2 := by omega
  have mx3_1 : 3 ≠ d1 := by omega
  have my3_1 : d1 ≠ 3 := by omega
  have mx4_1 : 4 ≠ d1 := by omega
  have my4_1 : d1 ≠ 4 := by omega
  have mx5_1 : 5 ≠ d1 := by omega
  have my5_1 : d1 ≠ 5 := by omega
  have m2_0 : e1 ≠ d0 := by omega
  have m2_1 : e1 ≠ d1 := by omega
  have m2_3 : e1 ≠ e2 := by omega
  have m2_4 : e1 ≠ e3 := by omega
  have m2_5 : e1 ≠ e4 := by omega
  have mxX_2 : X ≠ e1 := by omega
  have myX_2 : e1 ≠ X := by omega
  have mx2_2 : 2 ≠ e1 := by omega
  have my2_2 : e1 ≠ 2 := by omega
  have mx3_2 : 3 ≠ e1 := by omega
  have my3_2 : e1 ≠ 3 := by omega
  have mx4_2 : 4 ≠ e1 := by omega
  have my4_2 : e1 ≠ 4 := by omega
  have mx5_2 : 5 ≠ e1 := by omega
  have my5_2 : e1 ≠ 5 := by omega
  have m3_0 : e2 ≠ d0 := by omega
  have m3_1 : e2 ≠ d1 := by omega
  have m3_2 : e2 ≠ e1 := by omega
  have m3_4 : e2 ≠ e3 := by omega
  have m3_5 : e2 ≠ e4 := by omega
  have mxX_3 : X ≠ e2 := by omega
  have myX_3 : e2 ≠ X := by omega
  have mx2_3 : 2 ≠ e2 := by omega
  have my2_3 : e2 ≠ 2 := by omega
  have mx3_3 : 3 ≠ e2 := by omega
  have my3_3 : e2 ≠ 3 := by omega
  have mx4_3 : 4 ≠ e2 := by omega
  have my4_3 : e2 ≠ 4 := by omega
  have mx5_3 : 5 ≠ e2 := by omega
  have my5_3 : e2 ≠ 5 := by omega
  have m4_0 : e3 ≠ d0 := by omega
  have m4_1 : e3 ≠ d1 := by omega
  have m4_2 : e3 ≠ e1 := by omega
  have m4_3 : e3 ≠ e2 := by omega
  have m4_5 : e3 ≠ e4 := by omega
  have mxX_4 : X ≠ e3 := by omega
  have myX_4 : e3 ≠ X := by omega
  have mx2_4 : 2 ≠ e3 := by omega
  have my2_4 : e3 ≠ 2 := by omega
  have mx3_4 : 3 ≠ e3 := by omega
  have my3_4 : e3 ≠ 3 := by omega
  have mx4_4 : 4 ≠ e3 := by omega
  have my4_4 : e3 ≠ 4 := by omega
  have mx5_4 : 5 ≠ e3 := by omega
  have my5_4 : e3 ≠ 5 := by omega
  have m5_0 : e4 ≠ d0 := by omega
  have m5_1 : e4 ≠ d1 := by omega
  have m5_2 : e4 ≠ e1 := by omega
  have m5_3 : e4 ≠ e2 := by omega
  have m5_4 : e4 ≠ e3 := by omega
  have mxX_5 : X ≠ e4 := by omega
  have myX_5 : e4 ≠ X := by omega
  have mx2_5 : 2 ≠ e4 := by omega
  have my2_5 : e4 ≠ 2 := by omega
  have mx3_5 : 3 ≠ e4 := by omega
  have my3_5 : e4 ≠ 3 := by omega
  have mx4_5 : 4 ≠ e4 := by omega
  have my4_5 : e4 ≠ 4 := by omega
  have mx5_5 : 5 ≠ e4 := by omega
  have my5_5 : e4 ≠ 5 := by omega
  obtain ⟨la, lc, l1, l2, l3⟩ := S.ol
  have hH := S.hs
  obtain ⟨bx, x0, x1, x2, eX, g0, g1, g2, hTx⟩ := TX.ex
  obtain ⟨ox0, ox1, ox2⟩ := hTx.one
  have hsz := show_len hX0
  have eY := S.e2
  have j0 := S.e2
  have j1 := S.e2
  have j2 := S.e2
  have hrf : ∀ x ∈ ([zr1.toNat, zr2.toNat] : List Nat), x ≤ cap := by
    intro x hx; simp at hx; unfold cap; omega
  have hzm : ([zr1, zr2] : List Int) = ([zr1.toNat, zr2.toNat] : List Nat).map (fun x : Nat => (x : Int)) := by
    simp; omega
  repeat' (first | refine W_seq (fun K hK => ?_) | refine W_block ?_ | refine W_skip ?_ | refine W_exit ?_ | refine W_ret ?_ | refine W_region ?_ | simp (disch := first | (simp only [undef, want_some, upd_app, List.getElem?_cons_succ, List.getElem?_cons_zero, Option.join_some, e_bt, e_bf, Nat.reduceEqDiff, ↓reduceIte, Bool.not_true, Bool.not_false, ne_eq, not_false_eq_true]; done) | ((with_reducible refine pkE ?_); with_unfolding_all rfl) | ((with_reducible refine cszE ?_); with_unfolding_all rfl) | ((with_reducible refine isQE ?_); with_unfolding_all rfl) | assumption | omega) only [List.map_cons, List.map_nil, List.map_toArray, Nat.reduceEqDiff, b_exit, b_exitN, b_normal, b_ret, c_agg, c_bool, c_int, c_sl, c_str, e26, e76, e_bs0 _ _ k26 ie26 ze26 se26, e_bs0 _ _ k76 ie76 ze76 se76, e_bs1 _ _ k26 ie26 ze26 se26 (by decide), e_bs1 _ _ k76 ie76 ze76 se76 (by decide), e_bs2 _ _ k76 ie76 ze76 se76 (by decide), ev_const, ev_tmp, fe_addS, fo_assign, fo_bin, fo_load, fo_move, init1, init2a, init2b, init3a, init3b, init3c, o_append, o_buildSlice, o_call _ _ _ _ _ _ _ c29, o_call _ _ _ _ _ _ _ c30, put_some, r_enter, r_value, s_nil, s_none, t_exit, t_normal, t_ret, upd_app, ↓reduceIte, eX, eY, l1, g0, g1, g2, j0, j1, j2, m0_1, m0_2, m0_3, m0_4, m0_5, mxX_0, myX_0, mx2_0, my2_0, mx3_0, my3_0, mx4_0, my4_0, mx5_0, my5_0, m1_0, m1_2, m1_3, m1_4, m1_5, mxX_1, myX_1, mx2_1, my2_1, mx3_1, my3_1, mx4_1, my4_1, mx5_1, my5_1, m2_0, m2_1, m2_3, m2_4, m2_5, mxX_2, myX_2, mx2_2, my2_2, mx3_2, my3_2, mx4_2, my4_2, mx5_2, my5_2, m3_0, m3_1, m3_2, m3_4, m3_5, mxX_3, myX_3, mx2_3, my2_3, mx3_3, my3_3, mx4_3, my4_3, mx5_3, my5_3, m4_0, m4_1, m4_2, m4_3, m4_5, mxX_4, myX_4, mx2_4, my2_4, mx3_4, my3_4, mx4_4, my4_4, mx5_4, my5_4, m5_0, m5_1, m5_2, m5_3, m5_4, mxX_5, myX_5, mx2_5, my2_5, mx3_5, my3_5, mx4_5, my4_5, mx5_5, my5_5, e_bs3 _ _ k76 ie76 ze76 se76 (by decide), Nat.zero_add, List.map_cons, List.map_nil, cells1, cells2, cells3, cells4, cells5, d_loud, d_nil, d_quiet, d_someF, d_someT, e_ldaH k51 i51 s51 hH, l_enter, l_skip, l_val, q_lda k51 i51 s51 hH, q_val hH] | refine stepLine_okA (zs := [zr1, zr2]) hH hX0.1 _ _ _ hTx (by omega) hrs hzm hrf (by simp) _ (fun w2 f2 => ?_) | refine V_app k26 e26 ze26 rfl se26 be26 (l2.frN f2) rfl (by simp [oneC]) (by unfold maxLen; omega) (by omega) (fun a9 d9 w9 ho9 hf9 hn9 => ?_) | refine W_drawH hH (by kernel_rfl) (by kernel_rfl) (fun w1 hw1 hH => ?_) | (refine D_split rfl rfl (fun hc => ?_) (fun hc => ?_) <;> (try simp only [decide_eq_true_eq, decide_eq_false_iff_not, Bool.not_eq_true', Bool.not_eq_false', Int.not_lt, Int.not_le, Decidable.not_not] at hc) <;> (try contradiction) <;> (try (exfalso; omega))) | (refine W_cond rfl (fun hc => ?_) (fun hc => ?_) <;> (try simp only [decide_eq_true_eq, decide_eq_false_iff_not, Bool.not_eq_true', Bool.not_eq_false', Int.not_lt, Int.not_le, Decidable.not_not] at hc) <;> (try contradiction) <;> (try (exfalso; omega))) | (refine G_split rfl rfl (fun hc => ?_) (fun hc => ?_) <;> (try simp only [decide_eq_true_eq, decide_eq_false_iff_not, Bool.not_eq_true', Bool.not_eq_false', Int.not_lt, Int.not_le, Decidable.not_not] at hc) <;> (try contradiction) <;> (try (exfalso; omega))) | (with_reducible (refine hK _ _ ?_); clear hK K) | go_step)
  have fin : ∀ ρ' : Env, (∀ r, r < 58 → r ≠ 4 → ρ' r = ρ r) → ρ' 4 = .slice a9 (ls.length + 1) d9 → k .normal ρ' w9 := fun ρ' K e4 => h ρ' _ ((S.frN f2).setL l1 hf9 (ownL ho9 (by rw [hrl]; rfl)) hn9 (K 2 (by omega) (by omega)) (K 3 (by omega) (by omega)) (by rw [e4, List.length_append]; rfl) (K 5 (by omega) (by omega))) K
  exact fin _ (fun r h1 h2 => by simp only [upd_app, if_neg (show ¬ r = d0 by omega), if_neg (show ¬ r = d1 by omega), if_neg (show ¬ r = e1 by omega), if_neg (show ¬ r = e2 by omega), if_neg (show ¬ r = e3 by omega), if_neg (show ¬ r = e4 by omega), if_neg h2]) (by simp only [upd_app, if_true])

-- spec.BuildProof
set_option maxHeartbeats 2000000 in
set_option maxRecDepth 20000 in
theorem R_st3 {H0 Hq : Heap} {w0 w : World} {gb rb : Nat} {ca : Option Addr} {n cc p : Nat} {ex : List ExO} {ρ : Env} {ls : List LT} {xs : List VdA} {k : Exit → Env → World → Prop} {id d0 d1 e1 e2 e3 e4 X : Nat} {ty0 ty1 ty2 ty3 ty4 ty5 ty6 : TypeId} {ps0 ps1 ps2 ps3 ps4 ps5 ps6 : String} {af0 af1 af2 af3 af4 af5 af6 : Array Edge} {rl : ByteArray} {rule : Int} {zr1 zr2 zr3 : Int} {t : FT} (S : BM H0 Hq w0 w gb rb ca n cc p ex ρ ls xs) (hd : 58 ≤ d0 ∧ d0 < d1 ∧ d1 < e1 ∧ e1 < e2 ∧ e2 < e3 ∧ e3 < e4) (hX : X < 58) (TX : TV Hq (ρ X) t) (hX0 : BF t) (hrl : rl = ruleNm rule) (hrs : rl.size ≤ 100) (hz : 0 ≤ zr1 ∧ zr1 ≤ 1000 ∧ 0 ≤ zr2 ∧ zr2 ≤ 1000 ∧ 0 ≤ zr3 ∧ zr3 ≤ 1000) (hb : ls.length ≤ 1000000000)
    (h : ∀ ρ' w', BM H0 Hq w0 w' gb rb ca n cc p ex ρ' (ls ++ [.st t rule [zr1.toNat, zr2.toNat, zr3.toNat]]) xs → (∀ r, r < 58 → r ≠ 4 → ρ' r = ρ r) → k .normal ρ' w') : VC Yaao.prog (.region id #[⟨some d0, .move (.tmp 4), ty0, ps0, af0, none⟩, ⟨some d1, .load 51 (.tmp X), ty1, ps1, af1, none⟩, ⟨some e1, .buildSlice 76 3 #[(0, .const (.int .i64 zr1)), (1, .const (.int .i64 zr2)), (2, .const (.int .i64 zr3))], ty2, ps2, af2, none⟩, ⟨some e2, .call { callee := .value (.func 30), args := #[.tmp d1, .const (.string rl), .tmp e1], argTypes := #[51, 9, 76] }, ty3, ps3, af3, none⟩, ⟨some e3, .buildSlice 26 1 #[(0, .tmp e2)], ty4, ps4, af4, none⟩, ⟨some e4, .call { callee := .builtin .append, args := #[.tmp d0, .tmp e3], argTypes := #[26, 26] }, ty5, ps5, af5, none⟩, ⟨some 4, .assign (.tmp e4), ty6, ps6, af6, none⟩] false) k ρ w := by
  have m0_1 : d0 ≠ d1 := by omega
  have m0_2 : d0 ≠ e1 := by omega
  have m0_3 : d0 ≠ e2 := by omega
  have m0_4 : d0 ≠ e3 := by omega
  have m0_5 : d0 ≠ e4 := by omega
  have mxX_0 : X ≠ d0 := by omega
  have myX_0 : d0 ≠ X := by omega
  have mx2_0 : 2 ≠ d0 := by omega
  have my2_0 : d0 ≠ 2 := by omega
  have mx3_0 : 3 ≠ d0 := by omega
  have my3_0 : d0 ≠ 3 := by omega
  have mx4_0 : 4 ≠ d0 := by omega
  have my4_0 : d0 ≠ 4 := by omega
  have mx5_0 : 5 ≠ d0 := by omega
  have my5_0 : d0 ≠ 5 := by omega
  have m1_0 : d1 ≠ d0 := by omega
  have m1_2 : d1 ≠ e1 := by omega
  have m1_3 : d1 ≠ e2 := by omega
  have m1_4 : d1 ≠ e3 := by omega
  have m1_5 : d1 ≠ e4 := by omega
  have mxX_1 : X ≠ d1 := by omega
  have myX_1 : d1 ≠ X := by omega
  have mx2_1 : 2 ≠ d1 := by omega
  have my2_1 : d1 ≠ 2 := by omega
  have mx3_1 : 3 ≠ d1 := by omega
  have my3_1 : d1 ≠ 3 := by omega
  have mx4_1 : 4 ≠ d1 := by omega
  have my4_1 : d1 ≠ 4 := by omega
  have mx5_1 : 5 ≠ d1 := by omega
  have my5_1 : d1 ≠ 5 := by omega
  have m2_0 : e1 ≠ d0 := by omega
  have m2_1 : e1 ≠ d1 := by omega
  have m2_3 : e1 ≠ e2 := by omega
  have m2_4 : e1 ≠ e3 := by omega
  have m2_5 : e1 ≠ e4 := by omega
  have mxX_2 : X ≠ e1 := by omega
  have myX_2 : e1 ≠ X := by omega
  have mx2_2 : 2 ≠ e1 := by omega
  have my2_2 : e1 ≠ 2 := by omega
  have mx3_2 : 3 ≠ e1 := by omega
  have my3_2 : e1 ≠ 3 := by omega
  have mx4_2 : 4 ≠ e1 := by omega
  have my4_2 : e1 ≠ 4 := by omega
  have mx5_2 : 5 ≠ e1 := by omega
  have my5_2 : e1 ≠ 5 := by omega
  have m3_0 : e2 ≠ d0 := by omega
  have m3_1 : e2 ≠ d1 := by omega
  have m3_2 : e2 ≠ e1 := by omega
  have m3_4 : e2 ≠ e3 := by omega
  have m3_5 : e2 ≠ e4 := by omega
  have mxX_3 : X ≠ e2 := by omega
  have myX_3 : e2 ≠ X := by omega
  have mx2_3 : 2 ≠ e2 := by omega
  have my2_3 : e2 ≠ 2 := by omega
  have mx3_3 : 3 ≠ e2 := by omega
  have my3_3 : e2 ≠ 3 := by omega
  have mx4_3 : 4 ≠ e2 := by omega
  have my4_3 : e2 ≠ 4 := by omega
  have mx5_3 : 5 ≠ e2 := by omega
  have my5_3 : e2 ≠ 5 := by omega
  have m4_0 : e3 ≠ d0 := by omega
  have m4_1 : e3 ≠ d1 := by omega
  have m4_2 : e3 ≠ e1 := by omega
  have m4_3 : e3 ≠ e2 := by omega
  have m4_5 : e3 ≠ e4 := by omega
  have mxX_4 : X ≠ e3 := by omega
  have myX_4 : e3 ≠ X := by omega
  have mx2_4 : 2 ≠ e3 := by omega
  have my2_4 : e3 ≠ 2 := by omega
  have mx3_4 : 3 ≠ e3 := by omega
  have my3_4 : e3 ≠ 3 := by omega
  have mx4_4 : 4 ≠ e3 := by omega
  have my4_4 : e3 ≠ 4 := by omega
  have mx5_4 : 5 ≠ e3 := by omega
  have my5_4 : e3 ≠ 5 := by omega
  have m5_0 : e4 ≠ d0 := by omega
  have m5_1 : e4 ≠ d1 := by omega
  have m5_2 : e4 ≠ e1 := by omega
  have m5_3 : e4 ≠ e2 := by omega
  have m5_4 : e4 ≠ e3 := by omega
  have mxX_5 : X ≠ e4 := by omega
  have myX_5 : e4 ≠ X := by omega
  have mx2_5 : 2 ≠ e4 := by omega
  have my2_5 : e4 ≠ 2 := by omega
  have mx3_5 : 3 ≠ e4 := by omega
  have my3_5 : e4 ≠ 3 := by omega
  have mx4_5 : 4 ≠ e4 := by omega
  have my4_5 : e4 ≠ 4 := by omega
  have mx5_5 : 5 ≠ e4 := by omega
  have my5_5 : e4 ≠ 5 := by omega
  obtain ⟨la, lc, l1, l2, l3⟩ := S.ol
  have hH := S.hs
  obtain ⟨bx, x0, x1, x2, eX, g0, g1, g2, hTx⟩ := TX.ex
  obtain ⟨ox0, ox1, ox2⟩ := hTx.one
  have hsz := show_len hX0
  have eY := S.e2
  have j0 := S.e2
  have j1 := S.e2
  have j2 := S.e2
  have hrf : ∀ x ∈ ([zr1.toNat, zr2.toNat, zr3.toNat] : List Nat), x ≤ cap := by
    intro x hx; simp at hx; unfold cap; omega
  have hzm : ([zr1, zr2, zr3] : List Int) = ([zr1.toNat, zr2.toNat, zr3.toNat] : List Nat).map (fun x : Nat => (x : Int)) := by
    simp; omega
  repeat' (first | refine W_seq (fun K hK => ?_) | refine W_block ?_ | refine W_skip ?_ | refine W_exit ?_ | refine W_ret ?_ | refine W_region ?_ | simp (disch := first | (simp only [undef, want_some, upd_app, List.getElem?_cons_succ, List.getElem?_cons_zero, Option.join_some, e_bt, e_bf, Nat.reduceEqDiff, ↓reduceIte, Bool.not_true, Bool.not_false, ne_eq, not_false_eq_true]; done) | ((with_reducible refine pkE ?_); with_unfolding_all rfl) | ((with_reducible refine cszE ?_); with_unfolding_all rfl) | ((with_reducible refine isQE ?_); with_unfolding_all rfl) | assumption | omega) only [List.map_cons, List.map_nil, List.map_toArray, Nat.reduceEqDiff, b_exit, b_exitN, b_normal, b_ret, c_agg, c_bool, c_int, c_sl, c_str, e26, e76, e_bs0 _ _ k26 ie26 ze26 se26, e_bs0 _ _ k76 ie76 ze76 se76, e_bs1 _ _ k26 ie26 ze26 se26 (by decide), e_bs1 _ _ k76 ie76 ze76 se76 (by decide), ev_const, ev_tmp, fe_addS, fo_assign, fo_bin, fo_load, fo_move, init1, init2a, init2b, init3a, init3b, init3c, o_append, o_buildSlice, o_call _ _ _ _ _ _ _ c29, o_call _ _ _ _ _ _ _ c30, put_some, r_enter, r_value, s_nil, s_none, t_exit, t_normal, t_ret, upd_app, ↓reduceIte, eX, eY, l1, g0, g1, g2, j0, j1, j2, m0_1, m0_2, m0_3, m0_4, m0_5, mxX_0, myX_0, mx2_0, my2_0, mx3_0, my3_0, mx4_0, my4_0, mx5_0, my5_0, m1_0, m1_2, m1_3, m1_4, m1_5, mxX_1, myX_1, mx2_1, my2_1, mx3_1, my3_1, mx4_1, my4_1, mx5_1, my5_1, m2_0, m2_1, m2_3, m2_4, m2_5, mxX_2, myX_2, mx2_2, my2_2, mx3_2, my3_2, mx4_2, my4_2, mx5_2, my5_2, m3_0, m3_1, m3_2, m3_4, m3_5, mxX_3, myX_3, mx2_3, my2_3, mx3_3, my3_3, mx4_3, my4_3, mx5_3, my5_3, m4_0, m4_1, m4_2, m4_3, m4_5, mxX_4, myX_4, mx2_4, my2_4, mx3_4, my3_4, mx4_4, my4_4, mx5_4, my5_4, m5_0, m5_1, m5_2, m5_3, m5_4, mxX_5, myX_5, mx2_5, my2_5, mx3_5, my3_5, mx4_5, my4_5, mx5_5, my5_5, e_bs3 _ _ k76 ie76 ze76 se76 (by decide), Nat.zero_add, List.map_cons, List.map_nil, cells1, cells2, cells3, cells4, cells5, d_loud, d_nil, d_quiet, d_someF, d_someT, e_ldaH k51 i51 s51 hH, l_enter, l_skip, l_val, q_lda k51 i51 s51 hH, q_val hH] | refine stepLine_okA (zs := [zr1, zr2, zr3]) hH hX0.1 _ _ _ hTx (by omega) hrs hzm hrf (by simp) _ (fun w2 f2 => ?_) | refine V_app k26 e26 ze26 rfl se26 be26 (l2.frN f2) rfl (by simp [oneC]) (by unfold maxLen; omega) (by omega) (fun a9 d9 w9 ho9 hf9 hn9 => ?_) | refine W_drawH hH (by kernel_rfl) (by kernel_rfl) (fun w1 hw1 hH => ?_) | (refine D_split rfl rfl (fun hc => ?_) (fun hc => ?_) <;> (try simp only [decide_eq_true_eq, decide_eq_false_iff_not, Bool.not_eq_true', Bool.not_eq_false', Int.not_lt, Int.not_le, Decidable.not_not] at hc) <;> (try contradiction) <;> (try (exfalso; omega))) | (refine W_cond rfl (fun hc => ?_) (fun hc => ?_) <;> (try simp only [decide_eq_true_eq, decide_eq_false_iff_not, Bool.not_eq_true', Bool.not_eq_false', Int.not_lt, Int.not_le, Decidable.not_not] at hc) <;> (try contradiction) <;> (try (exfalso; omega))) | (refine G_split rfl rfl (fun hc => ?_) (fun hc => ?_) <;> (try simp only [decide_eq_true_eq, decide_eq_false_iff_not, Bool.not_eq_true', Bool.not_eq_false', Int.not_lt, Int.not_le, Decidable.not_not] at hc) <;> (try contradiction) <;> (try (exfalso; omega))) | (with_reducible (refine hK _ _ ?_); clear hK K) | go_step)
  have fin : ∀ ρ' : Env, (∀ r, r < 58 → r ≠ 4 → ρ' r = ρ r) → ρ' 4 = .slice a9 (ls.length + 1) d9 → k .normal ρ' w9 := fun ρ' K e4 => h ρ' _ ((S.frN f2).setL l1 hf9 (ownL ho9 (by rw [hrl]; rfl)) hn9 (K 2 (by omega) (by omega)) (K 3 (by omega) (by omega)) (by rw [e4, List.length_append]; rfl) (K 5 (by omega) (by omega))) K
  exact fin _ (fun r h1 h2 => by simp only [upd_app, if_neg (show ¬ r = d0 by omega), if_neg (show ¬ r = d1 by omega), if_neg (show ¬ r = e1 by omega), if_neg (show ¬ r = e2 by omega), if_neg (show ¬ r = e3 by omega), if_neg (show ¬ r = e4 by omega), if_neg h2]) (by simp only [upd_app, if_true])

-- spec.BuildProof
set_option maxHeartbeats 2000000 in
set_option maxRecDepth 20000 in
theorem R_stB {H0 Hq : Heap} {w0 w : World} {gb rb : Nat} {ca : Option Addr} {n cc p : Nat} {ex : List ExO} {ρ : Env} {ls : List LT} {xs : List VdA} {k : Exit → Env → World → Prop} {id d0 d1 e1 e2 e3 e4 : Nat} {ty0 ty1 ty2 ty3 ty4 ty5 ty6 : TypeId} {ps0 ps1 ps2 ps3 ps4 ps5 ps6 : String} {af0 af1 af2 af3 af4 af5 af6 : Array Edge} {rl : ByteArray} {rule : Int} {zr1 zr2 : Int} (S : BM H0 Hq w0 w gb rb ca n cc p ex ρ ls xs) (hd : 58 ≤ d0 ∧ d0 < d1 ∧ d1 < e1 ∧ e1 < e2 ∧ e2 < e3 ∧ e3 < e4)   (hrl : rl = ruleNm rule) (hrs : rl.size ≤ 100) (hz : 0 ≤ zr1 ∧ zr1 ≤ 1000 ∧ 0 ≤ zr2 ∧ zr2 ≤ 1000) (hb : ls.length ≤ 1000000000)
    (h : ∀ ρ' w', BM H0 Hq w0 w' gb rb ca n cc p ex ρ' (ls ++ [.st tB0 rule [zr1.toNat, zr2.toNat]]) xs → (∀ r, r < 58 → r ≠ 4 → ρ' r = ρ r) → k .normal ρ' w') : VC Yaao.prog (.region id #[⟨some d0, .move (.tmp 4), ty0, ps0, af0, none⟩, ⟨some d1, .call { callee := .value (.func 33), args := #[], argTypes := #[] }, ty1, ps1, af1, none⟩, ⟨some e1, .buildSlice 76 2 #[(0, .const (.int .i64 zr1)), (1, .const (.int .i64 zr2))], ty2, ps2, af2, none⟩, ⟨some e2, .call { callee := .value (.func 30), args := #[.tmp d1, .const (.string rl), .tmp e1], argTypes := #[51, 9, 76] }, ty3, ps3, af3, none⟩, ⟨some e3, .buildSlice 26 1 #[(0, .tmp e2)], ty4, ps4, af4, none⟩, ⟨some e4, .call { callee := .builtin .append, args := #[.tmp d0, .tmp e3], argTypes := #[26, 26] }, ty5, ps5, af5, none⟩, ⟨some 4, .assign (.tmp e4), ty6, ps6, af6, none⟩] false) k ρ w := by
  have m0_1 : d0 ≠ d1 := by omega
  have m0_2 : d0 ≠ e1 := by omega
  have m0_3 : d0 ≠ e2 := by omega
  have m0_4 : d0 ≠ e3 := by omega
  have m0_5 : d0 ≠ e4 := by omega
  have mx2_0 : 2 ≠ d0 := by omega
  have my2_0 : d0 ≠ 2 := by omega
  have mx3_0 : 3 ≠ d0 := by omega
  have my3_0 : d0 ≠ 3 := by omega
  have mx4_0 : 4 ≠ d0 := by omega
  have my4_0 : d0 ≠ 4 := by omega
  have mx5_0 : 5 ≠ d0 := by omega
  have my5_0 : d0 ≠ 5 := by omega
  have m1_0 : d1 ≠ d0 := by omega
  have m1_2 : d1 ≠ e1 := by omega
  have m1_3 : d1 ≠ e2 := by omega
  have m1_4 : d1 ≠ e3 := by omega
  have m1_5 : d1 ≠ e4 := by omega
  have mx2_1 : 2 ≠ d1 := by omega
  have my2_1 : d1 ≠ 2 := by omega
  have mx3_1 : 3 ≠ d1 := by omega
  have my3_1 : d1 ≠ 3 := by omega
  have mx4_1 : 4 ≠ d1 := by omega
  have my4_1 : d1 ≠ 4 := by omega
  have mx5_1 : 5 ≠ d1 := by omega
  have my5_1 : d1 ≠ 5 := by omega
  have m2_0 : e1 ≠ d0 := by omega
  have m2_1 : e1 ≠ d1 := by omega
  have m2_3 : e1 ≠ e2 := by omega
  have m2_4 : e1 ≠ e3 := by omega
  have m2_5 : e1 ≠ e4 := by omega
  have mx2_2 : 2 ≠ e1 := by omega
  have my2_2 : e1 ≠ 2 := by omega
  have mx3_2 : 3 ≠ e1 := by omega
  have my3_2 : e1 ≠ 3 := by omega
  have mx4_2 : 4 ≠ e1 := by omega
  have my4_2 : e1 ≠ 4 := by omega
  have mx5_2 : 5 ≠ e1 := by omega
  have my5_2 : e1 ≠ 5 := by omega
  have m3_0 : e2 ≠ d0 := by omega
  have m3_1 : e2 ≠ d1 := by omega
  have m3_2 : e2 ≠ e1 := by omega
  have m3_4 : e2 ≠ e3 := by omega
  have m3_5 : e2 ≠ e4 := by omega
  have mx2_3 : 2 ≠ e2 := by omega
  have my2_3 : e2 ≠ 2 := by omega
  have mx3_3 : 3 ≠ e2 := by omega
  have my3_3 : e2 ≠ 3 := by omega
  have mx4_3 : 4 ≠ e2 := by omega
  have my4_3 : e2 ≠ 4 := by omega
  have mx5_3 : 5 ≠ e2 := by omega
  have my5_3 : e2 ≠ 5 := by omega
  have m4_0 : e3 ≠ d0 := by omega
  have m4_1 : e3 ≠ d1 := by omega
  have m4_2 : e3 ≠ e1 := by omega
  have m4_3 : e3 ≠ e2 := by omega
  have m4_5 : e3 ≠ e4 := by omega
  have mx2_4 : 2 ≠ e3 := by omega
  have my2_4 : e3 ≠ 2 := by omega
  have mx3_4 : 3 ≠ e3 := by omega
  have my3_4 : e3 ≠ 3 := by omega
  have mx4_4 : 4 ≠ e3 := by omega
  have my4_4 : e3 ≠ 4 := by omega
  have mx5_4 : 5 ≠ e3 := by omega
  have my5_4 : e3 ≠ 5 := by omega
  have m5_0 : e4 ≠ d0 := by omega
  have m5_1 : e4 ≠ d1 := by omega
  have m5_2 : e4 ≠ e1 := by omega
  have m5_3 : e4 ≠ e2 := by omega
  have m5_4 : e4 ≠ e3 := by omega
  have mx2_5 : 2 ≠ e4 := by omega
  have my2_5 : e4 ≠ 2 := by omega
  have mx3_5 : 3 ≠ e4 := by omega
  have my3_5 : e4 ≠ 3 := by omega
  have mx4_5 : 4 ≠ e4 := by omega
  have my4_5 : e4 ≠ 4 := by omega
  have mx5_5 : 5 ≠ e4 := by omega
  have my5_5 : e4 ≠ 5 := by omega
  obtain ⟨la, lc, l1, l2, l3⟩ := S.ol
  have hH := S.hs
  have eX := S.e2
  have eY := S.e2
  have g0 := S.e2
  have g1 := S.e2
  have g2 := S.e2
  have j0 := S.e2
  have j1 := S.e2
  have j2 := S.e2
  have hrf : ∀ x ∈ ([zr1.toNat, zr2.toNat] : List Nat), x ≤ cap := by
    intro x hx; simp at hx; unfold cap; omega
  have hzm : ([zr1, zr2] : List Int) = ([zr1.toNat, zr2.toNat] : List Nat).map (fun x : Nat => (x : Int)) := by
    simp; omega
  repeat' (first | refine W_seq (fun K hK => ?_) | refine W_block ?_ | refine W_skip ?_ | refine W_exit ?_ | refine W_ret ?_ | refine W_region ?_ | simp (disch := first | (simp only [undef, want_some, upd_app, List.getElem?_cons_succ, List.getElem?_cons_zero, Option.join_some, e_bt, e_bf, Nat.reduceEqDiff, ↓reduceIte, Bool.not_true, Bool.not_false, ne_eq, not_false_eq_true]; done) | ((with_reducible refine pkE ?_); with_unfolding_all rfl) | ((with_reducible refine cszE ?_); with_unfolding_all rfl) | ((with_reducible refine isQE ?_); with_unfolding_all rfl) | assumption | omega) only [List.map_cons, List.map_nil, List.map_toArray, Nat.reduceEqDiff, b_exit, b_exitN, b_normal, b_ret, c_agg, c_bool, c_int, c_sl, c_str, e26, e76, e_bs0 _ _ k26 ie26 ze26 se26, e_bs0 _ _ k76 ie76 ze76 se76, e_bs1 _ _ k26 ie26 ze26 se26 (by decide), e_bs1 _ _ k76 ie76 ze76 se76 (by decide), e_bs2 _ _ k76 ie76 ze76 se76 (by decide), ev_const, ev_tmp, fe_addS, fo_assign, fo_bin, fo_load, fo_move, init1, init2a, init2b, init3a, init3b, init3c, o_append, o_buildSlice, o_call _ _ _ _ _ _ _ c29, o_call _ _ _ _ _ _ _ c30, o_call _ _ _ _ _ _ _ c33, put_some, r_enter, r_value, s_nil, s_none, t_exit, t_normal, t_ret, upd_app, ↓reduceIte, eX, eY, l1, g0, g1, g2, j0, j1, j2, m0_1, m0_2, m0_3, m0_4, m0_5, mx2_0, my2_0, mx3_0, my3_0, mx4_0, my4_0, mx5_0, my5_0, m1_0, m1_2, m1_3, m1_4, m1_5, mx2_1, my2_1, mx3_1, my3_1, mx4_1, my4_1, mx5_1, my5_1, m2_0, m2_1, m2_3, m2_4, m2_5, mx2_2, my2_2, mx3_2, my3_2, mx4_2, my4_2, mx5_2, my5_2, m3_0, m3_1, m3_2, m3_4, m3_5, mx2_3, my2_3, mx3_3, my3_3, mx4_3, my4_3, mx5_3, my5_3, m4_0, m4_1, m4_2, m4_3, m4_5, mx2_4, my2_4, mx3_4, my3_4, mx4_4, my4_4, mx5_4, my5_4, m5_0, m5_1, m5_2, m5_3, m5_4, mx2_5, my2_5, mx3_5, my3_5, mx4_5, my4_5, mx5_5, my5_5, e_bs3 _ _ k76 ie76 ze76 se76 (by decide), Nat.zero_add, List.map_cons, List.map_nil, cells1, cells2, cells3, cells4, cells5, d_loud, d_nil, d_quiet, d_someF, d_someT, e_ldaH k51 i51 s51 hH, l_enter, l_skip, l_val, q_lda k51 i51 s51 hH, q_val hH] | refine botT_ok _ _ (fun w3 f3 => ?_) | refine stepLine_okA (zs := [zr1, zr2]) (hH.frN f3) bfB.1 _ _ _ (TreeC.B0 Hq none 0) (by rw [show_B0]; decide) hrs hzm hrf (by simp) _ (fun w2 f2 => ?_) | refine V_app k26 e26 ze26 rfl se26 be26 (l2.frN (f3.no f2)) rfl (by simp [oneC]) (by unfold maxLen; omega) (by omega) (fun a9 d9 w9 ho9 hf9 hn9 => ?_) | refine W_drawH hH (by kernel_rfl) (by kernel_rfl) (fun w1 hw1 hH => ?_) | (refine D_split rfl rfl (fun hc => ?_) (fun hc => ?_) <;> (try simp only [decide_eq_true_eq, decide_eq_false_iff_not, Bool.not_eq_true', Bool.not_eq_false', Int.not_lt, Int.not_le, Decidable.not_not] at hc) <;> (try contradiction) <;> (try (exfalso; omega))) | (refine W_cond rfl (fun hc => ?_) (fun hc => ?_) <;> (try simp only [decide_eq_true_eq, decide_eq_false_iff_not, Bool.not_eq_true', Bool.not_eq_false', Int.not_lt, Int.not_le, Decidable.not_not] at hc) <;> (try contradiction) <;> (try (exfalso; omega))) | (refine G_split rfl rfl (fun hc => ?_) (fun hc => ?_) <;> (try simp only [decide_eq_true_eq, decide_eq_false_iff_not, Bool.not_eq_true', Bool.not_eq_false', Int.not_lt, Int.not_le, Decidable.not_not] at hc) <;> (try contradiction) <;> (try (exfalso; omega))) | (with_reducible (refine hK _ _ ?_); clear hK K) | go_step)
  have fin : ∀ ρ' : Env, (∀ r, r < 58 → r ≠ 4 → ρ' r = ρ r) → ρ' 4 = .slice a9 (ls.length + 1) d9 → k .normal ρ' w9 := fun ρ' K e4 => h ρ' _ ((S.frN (f3.no f2)).setL l1 hf9 (ownL ho9 (by rw [hrl]; rfl)) hn9 (K 2 (by omega) (by omega)) (K 3 (by omega) (by omega)) (by rw [e4, List.length_append]; rfl) (K 5 (by omega) (by omega))) K
  exact fin _ (fun r h1 h2 => by simp only [upd_app, if_neg (show ¬ r = d0 by omega), if_neg (show ¬ r = d1 by omega), if_neg (show ¬ r = e1 by omega), if_neg (show ¬ r = e2 by omega), if_neg (show ¬ r = e3 by omega), if_neg (show ¬ r = e4 by omega), if_neg h2]) (by simp only [upd_app, if_true])

-- spec.BuildProof
set_option maxHeartbeats 2000000 in
set_option maxRecDepth 20000 in
theorem R_stN {H0 Hq : Heap} {w0 w : World} {gb rb : Nat} {ca : Option Addr} {n cc p : Nat} {ex : List ExO} {ρ : Env} {ls : List LT} {xs : List VdA} {k : Exit → Env → World → Prop} {id d0 d1 d2 e1 e2 e3 e4 X : Nat} {ty0 ty1 ty2 ty3 ty4 ty5 ty6 ty7 : TypeId} {ps0 ps1 ps2 ps3 ps4 ps5 ps6 ps7 : String} {af0 af1 af2 af3 af4 af5 af6 af7 : Array Edge} {rl : ByteArray} {rule : Int} {zr1 : Int} {t : FT} (S : BM H0 Hq w0 w gb rb ca n cc p ex ρ ls xs) (hd : 58 ≤ d0 ∧ d0 < d1 ∧ d1 < d2 ∧ d2 < e1 ∧ e1 < e2 ∧ e2 < e3 ∧ e3 < e4) (hX : X < 58) (TX : TV Hq (ρ X) t) (hX0 : BF t) (hn : tsize t < 300) (hrl : rl = ruleNm rule) (hrs : rl.size ≤ 100) (hz : 0 ≤ zr1 ∧ zr1 ≤ 1000) (hb : ls.length ≤ 1000000000)
    (h : ∀ ρ' w', BM H0 Hq w0 w' gb rb ca n cc p ex ρ' (ls ++ [.st (tN t) rule [zr1.toNat]]) xs → (∀ r, r < 58 → r ≠ 4 → ρ' r = ρ r) → k .normal ρ' w') : VC Yaao.prog (.region id #[⟨some d0, .move (.tmp 4), ty0, ps0, af0, none⟩, ⟨some d1, .load 51 (.tmp X), ty1, ps1, af1, none⟩, ⟨some d2, .call { callee := .value (.func 32), args := #[.tmp d1], argTypes := #[51] }, ty2, ps2, af2, none⟩, ⟨some e1, .buildSlice 76 1 #[(0, .const (.int .i64 zr1))], ty3, ps3, af3, none⟩, ⟨some e2, .call { callee := .value (.func 30), args := #[.tmp d2, .const (.string rl), .tmp e1], argTypes := #[51, 9, 76] }, ty4, ps4, af4, none⟩, ⟨some e3, .buildSlice 26 1 #[(0, .tmp e2)], ty5, ps5, af5, none⟩, ⟨some e4, .call { callee := .builtin .append, args := #[.tmp d0, .tmp e3], argTypes := #[26, 26] }, ty6, ps6, af6, none⟩, ⟨some 4, .assign (.tmp e4), ty7, ps7, af7, none⟩] false) k ρ w := by
  have m0_1 : d0 ≠ d1 := by omega
  have m0_2 : d0 ≠ d2 := by omega
  have m0_3 : d0 ≠ e1 := by omega
  have m0_4 : d0 ≠ e2 := by omega
  have m0_5 : d0 ≠ e3 := by omega
  have m0_6 : d0 ≠ e4 := by omega
  have mxX_0 : X ≠ d0 := by omega
  have myX_0 : d0 ≠ X := by omega
  have mx2_0 : 2 ≠ d0 := by omega
  have my2_0 : d0 ≠ 2 := by omega
  have mx3_0 : 3 ≠ d0 := by omega
  have my3_0 : d0 ≠ 3 := by omega
  have mx4_0 : 4 ≠ d0 := by omega
  have my4_0 : d0 ≠ 4 := by omega
  have mx5_0 : 5 ≠ d0 := by omega
  have my5_0 : d0 ≠ 5 := by omega
  have m1_0 : d1 ≠ d0 := by omega
  have m1_2 : d1 ≠ d2 := by omega
  have m1_3 : d1 ≠ e1 := by omega
  have m1_4 : d1 ≠ e2 := by omega
  have m1_5 : d1 ≠ e3 := by omega
  have m1_6 : d1 ≠ e4 := by omega
  have mxX_1 : X ≠ d1 := by omega
  have myX_1 : d1 ≠ X := by omega
  have mx2_1 : 2 ≠ d1 := by omega
  have my2_1 : d1 ≠ 2 := by omega
  have mx3_1 : 3 ≠ d1 := by omega
  have my3_1 : d1 ≠ 3 := by omega
  have mx4_1 : 4 ≠ d1 := by omega
  have my4_1 : d1 ≠ 4 := by omega
  have mx5_1 : 5 ≠ d1 := by omega
  have my5_1 : d1 ≠ 5 := by omega
  have m2_0 : d2 ≠ d0 := by omega
  have m2_1 : d2 ≠ d1 := by omega
  have m2_3 : d2 ≠ e1 := by omega
  have m2_4 : d2 ≠ e2 := by omega
  have m2_5 : d2 ≠ e3 := by omega
  have m2_6 : d2 ≠ e4 := by omega
  have mxX_2 : X ≠ d2 := by omega
  have myX_2 : d2 ≠ X := by omega
  have mx2_2 : 2 ≠ d2 := by omega
  have my2_2 : d2 ≠ 2 := by omega
  have mx3_2 : 3 ≠ d2 := by omega
  have my3_2 : d2 ≠ 3 := by omega
  have mx4_2 : 4 ≠ d2 := by omega
  have my4_2 : d2 ≠ 4 := by omega
  have mx5_2 : 5 ≠ d2 := by omega
  have my5_2 : d2 ≠ 5 := by omega
  have m3_0 : e1 ≠ d0 := by omega
  have m3_1 : e1 ≠ d1 := by omega
  have m3_2 : e1 ≠ d2 := by omega
  have m3_4 : e1 ≠ e2 := by omega
  have m3_5 : e1 ≠ e3 := by omega
  have m3_6 : e1 ≠ e4 := by omega
  have mxX_3 : X ≠ e1 := by omega
  have myX_3 : e1 ≠ X := by omega
  have mx2_3 : 2 ≠ e1 := by omega
  have my2_3 : e1 ≠ 2 := by omega
  have mx3_3 : 3 ≠ e1 := by omega
  have my3_3 : e1 ≠ 3 := by omega
  have mx4_3 : 4 ≠ e1 := by omega
  have my4_3 : e1 ≠ 4 := by omega
  have mx5_3 : 5 ≠ e1 := by omega
  have my5_3 : e1 ≠ 5 := by omega
  have m4_0 : e2 ≠ d0 := by omega
  have m4_1 : e2 ≠ d1 := by omega
  have m4_2 : e2 ≠ d2 := by omega
  have m4_3 : e2 ≠ e1 := by omega
  have m4_5 : e2 ≠ e3 := by omega
  have m4_6 : e2 ≠ e4 := by omega
  have mxX_4 : X ≠ e2 := by omega
  have myX_4 : e2 ≠ X := by omega
  have mx2_4 : 2 ≠ e2 := by omega
  have my2_4 : e2 ≠ 2 := by omega
  have mx3_4 : 3 ≠ e2 := by omega
  have my3_4 : e2 ≠ 3 := by omega
  have mx4_4 : 4 ≠ e2 := by omega
  have my4_4 : e2 ≠ 4 := by omega
  have mx5_4 : 5 ≠ e2 := by omega
  have my5_4 : e2 ≠ 5 := by omega
  have m5_0 : e3 ≠ d0 := by omega
  have m5_1 : e3 ≠ d1 := by omega
  have m5_2 : e3 ≠ d2 := by omega
  have m5_3 : e3 ≠ e1 := by omega
  have m5_4 : e3 ≠ e2 := by omega
  have m5_6 : e3 ≠ e4 := by omega
  have mxX_5 : X ≠ e3 := by omega
  have myX_5 : e3 ≠ X := by omega
  have mx2_5 : 2 ≠ e3 := by omega
  have my2_5 : e3 ≠ 2 := by omega
  have mx3_5 : 3 ≠ e3 := by omega
  have my3_5 : e3 ≠ 3 := by omega
  have mx4_5 : 4 ≠ e3 := by omega
  have my4_5 : e3 ≠ 4 := by omega
  have mx5_5 : 5 ≠ e3 := by omega
  have my5_5 : e3 ≠ 5 := by omega
  have m6_0 : e4 ≠ d0 := by omega
  have m6_1 : e4 ≠ d1 := by omega
  have m6_2 : e4 ≠ d2 := by omega
  have m6_3 : e4 ≠ e1 := by omega
  have m6_4 : e4 ≠ e2 := by omega
  have m6_5 : e4 ≠ e3 := by omega
  have mxX_6 : X ≠ e4 := by omega
  have myX_6 : e4 ≠ X := by omega
  have mx2_6 : 2 ≠ e4 := by omega
  have my2_6 : e4 ≠ 2 := by omega
  have mx3_6 : 3 ≠ e4 := by omega
  have my3_6 : e4 ≠ 3 := by omega
  have mx4_6 : 4 ≠ e4 := by omega
  have my4_6 : e4 ≠ 4 := by omega
  have mx5_6 : 5 ≠ e4 := by omega
  have my5_6 : e4 ≠ 5 := by omega
  obtain ⟨la, lc, l1, l2, l3⟩ := S.ol
  have hH := S.hs
  obtain ⟨bx, x0, x1, x2, eX, g0, g1, g2, hTx⟩ := TX.ex
  obtain ⟨ox0, ox1, ox2⟩ := hTx.one
  have hsz := show_len hX0
  have eY := S.e2
  have j0 := S.e2
  have j1 := S.e2
  have j2 := S.e2
  have hN : BF (tN t) := ⟨shN hX0.1, by rw [sz_N]; omega⟩
  have hsN := show_len hN
  have hrf : ∀ x ∈ ([zr1.toNat] : List Nat), x ≤ cap := by
    intro x hx; simp at hx; unfold cap; omega
  have hzm : ([zr1] : List Int) = ([zr1.toNat] : List Nat).map (fun x : Nat => (x : Int)) := by
    simp; omega
  repeat' (first | refine W_seq (fun K hK => ?_) | refine W_block ?_ | refine W_skip ?_ | refine W_exit ?_ | refine W_ret ?_ | refine W_region ?_ | simp (disch := first | (simp only [undef, want_some, upd_app, List.getElem?_cons_succ, List.getElem?_cons_zero, Option.join_some, e_bt, e_bf, Nat.reduceEqDiff, ↓reduceIte, Bool.not_true, Bool.not_false, ne_eq, not_false_eq_true]; done) | ((with_reducible refine pkE ?_); with_unfolding_all rfl) | ((with_reducible refine cszE ?_); with_unfolding_all rfl) | ((with_reducible refine isQE ?_); with_unfolding_all rfl) | assumption | omega) only [List.map_cons, List.map_nil, List.map_toArray, Nat.reduceEqDiff, b_exit, b_exitN, b_normal, b_ret, c_agg, c_bool, c_int, c_sl, c_str, e26, e76, e_bs0 _ _ k26 ie26 ze26 se26, e_bs0 _ _ k76 ie76 ze76 se76, e_bs1 _ _ k26 ie26 ze26 se26 (by decide), e_bs1 _ _ k76 ie76 ze76 se76 (by decide), ev_const, ev_tmp, fe_addS, fo_assign, fo_bin, fo_load, fo_move, init1, init2a, init2b, init3a, init3b, init3c, o_append, o_buildSlice, o_call _ _ _ _ _ _ _ c29, o_call _ _ _ _ _ _ _ c30, o_call _ _ _ _ _ _ _ c32, put_some, r_enter, r_value, s_nil, s_none, t_exit, t_normal, t_ret, upd_app, ↓reduceIte, eX, eY, l1, g0, g1, g2, j0, j1, j2, m0_1, m0_2, m0_3, m0_4, m0_5, m0_6, mxX_0, myX_0, mx2_0, my2_0, mx3_0, my3_0, mx4_0, my4_0, mx5_0, my5_0, m1_0, m1_2, m1_3, m1_4, m1_5, m1_6, mxX_1, myX_1, mx2_1, my2_1, mx3_1, my3_1, mx4_1, my4_1, mx5_1, my5_1, m2_0, m2_1, m2_3, m2_4, m2_5, m2_6, mxX_2, myX_2, mx2_2, my2_2, mx3_2, my3_2, mx4_2, my4_2, mx5_2, my5_2, m3_0, m3_1, m3_2, m3_4, m3_5, m3_6, mxX_3, myX_3, mx2_3, my2_3, mx3_3, my3_3, mx4_3, my4_3, mx5_3, my5_3, m4_0, m4_1, m4_2, m4_3, m4_5, m4_6, mxX_4, myX_4, mx2_4, my2_4, mx3_4, my3_4, mx4_4, my4_4, mx5_4, my5_4, m5_0, m5_1, m5_2, m5_3, m5_4, m5_6, mxX_5, myX_5, mx2_5, my2_5, mx3_5, my3_5, mx4_5, my4_5, mx5_5, my5_5, m6_0, m6_1, m6_2, m6_3, m6_4, m6_5, mxX_6, myX_6, mx2_6, my2_6, mx3_6, my3_6, mx4_6, my4_6, mx5_6, my5_6, e_bs3 _ _ k76 ie76 ze76 se76 (by decide), Nat.zero_add, List.map_cons, List.map_nil, cells1, cells2, cells3, cells4, cells5, d_loud, d_nil, d_quiet, d_someF, d_someT, e_ldaH k51 i51 s51 hH, l_enter, l_skip, l_val, q_lda k51 i51 s51 hH, q_val hH] | refine notT_ok2 hH x0 x1 x2 ⟨ox0, ox1, ox2⟩ _ (fun w3 a3 H3 hE3 sl3 f3 => ?_) | refine stepLine_okA (zs := [zr1]) hE3.hs hN.1 _ _ _ ((hTx.mono hE3.le).N sl3) (by omega) hrs hzm hrf (by simp) _ (fun w2 f2 => ?_) | refine V_app k26 e26 ze26 rfl se26 be26 (l2.frN (f3.no f2)) rfl (by simp [oneC]) (by unfold maxLen; omega) (by omega) (fun a9 d9 w9 ho9 hf9 hn9 => ?_) | refine W_drawH hH (by kernel_rfl) (by kernel_rfl) (fun w1 hw1 hH => ?_) | (refine D_split rfl rfl (fun hc => ?_) (fun hc => ?_) <;> (try simp only [decide_eq_true_eq, decide_eq_false_iff_not, Bool.not_eq_true', Bool.not_eq_false', Int.not_lt, Int.not_le, Decidable.not_not] at hc) <;> (try contradiction) <;> (try (exfalso; omega))) | (refine W_cond rfl (fun hc => ?_) (fun hc => ?_) <;> (try simp only [decide_eq_true_eq, decide_eq_false_iff_not, Bool.not_eq_true', Bool.not_eq_false', Int.not_lt, Int.not_le, Decidable.not_not] at hc) <;> (try contradiction) <;> (try (exfalso; omega))) | (refine G_split rfl rfl (fun hc => ?_) (fun hc => ?_) <;> (try simp only [decide_eq_true_eq, decide_eq_false_iff_not, Bool.not_eq_true', Bool.not_eq_false', Int.not_lt, Int.not_le, Decidable.not_not] at hc) <;> (try contradiction) <;> (try (exfalso; omega))) | (with_reducible (refine hK _ _ ?_); clear hK K) | go_step)
  have fin : ∀ ρ' : Env, (∀ r, r < 58 → r ≠ 4 → ρ' r = ρ r) → ρ' 4 = .slice a9 (ls.length + 1) d9 → k .normal ρ' w9 := fun ρ' K e4 => h ρ' _ ((S.frN (f3.no f2)).setL l1 hf9 (ownL ho9 (by rw [hrl]; rfl)) hn9 (K 2 (by omega) (by omega)) (K 3 (by omega) (by omega)) (by rw [e4, List.length_append]; rfl) (K 5 (by omega) (by omega))) K
  exact fin _ (fun r h1 h2 => by simp only [upd_app, if_neg (show ¬ r = d0 by omega), if_neg (show ¬ r = d1 by omega), if_neg (show ¬ r = d2 by omega), if_neg (show ¬ r = e1 by omega), if_neg (show ¬ r = e2 by omega), if_neg (show ¬ r = e3 by omega), if_neg (show ¬ r = e4 by omega), if_neg h2]) (by simp only [upd_app, if_true])

-- spec.BuildProof
set_option maxHeartbeats 2000000 in
set_option maxRecDepth 20000 in
theorem R_stI {H0 Hq : Heap} {w0 w : World} {gb rb : Nat} {ca : Option Addr} {n cc p : Nat} {ex : List ExO} {ρ : Env} {ls : List LT} {xs : List VdA} {k : Exit → Env → World → Prop} {id d0 d1 d2 d3 e1 e2 e3 e4 X Y : Nat} {ty0 ty1 ty2 ty3 ty4 ty5 ty6 ty7 ty8 : TypeId} {ps0 ps1 ps2 ps3 ps4 ps5 ps6 ps7 ps8 : String} {af0 af1 af2 af3 af4 af5 af6 af7 af8 : Array Edge} {rl : ByteArray} {rule : Int} {zr1 zr2 : Int} {t u : FT} (S : BM H0 Hq w0 w gb rb ca n cc p ex ρ ls xs) (hd : 58 ≤ d0 ∧ d0 < d1 ∧ d1 < d2 ∧ d2 < d3 ∧ d3 < e1 ∧ e1 < e2 ∧ e2 < e3 ∧ e3 < e4) (hX : X < 58) (hY : Y < 58) (TX : TV Hq (ρ X) t) (hX0 : BF t) (TY : TV Hq (ρ Y) u) (hY0 : BF u) (hn : tsize t + tsize u < 300) (hrl : rl = ruleNm rule) (hrs : rl.size ≤ 100) (hz : 0 ≤ zr1 ∧ zr1 ≤ 1000 ∧ 0 ≤ zr2 ∧ zr2 ≤ 1000) (hb : ls.length ≤ 1000000000)
    (h : ∀ ρ' w', BM H0 Hq w0 w' gb rb ca n cc p ex ρ' (ls ++ [.st (tB 7 t u) rule [zr1.toNat, zr2.toNat]]) xs → (∀ r, r < 58 → r ≠ 4 → ρ' r = ρ r) → k .normal ρ' w') : VC Yaao.prog (.region id #[⟨some d0, .move (.tmp 4), ty0, ps0, af0, none⟩, ⟨some d1, .load 51 (.tmp X), ty1, ps1, af1, none⟩, ⟨some d2, .load 51 (.tmp Y), ty2, ps2, af2, none⟩, ⟨some d3, .call { callee := .value (.func 28), args := #[.const (.int .i64 7), .tmp d1, .tmp d2], argTypes := #[3, 51, 51] }, ty3, ps3, af3, none⟩, ⟨some e1, .buildSlice 76 2 #[(0, .const (.int .i64 zr1)), (1, .const (.int .i64 zr2))], ty4, ps4, af4, none⟩, ⟨some e2, .call { callee := .value (.func 30), args := #[.tmp d3, .const (.string rl), .tmp e1], argTypes := #[51, 9, 76] }, ty5, ps5, af5, none⟩, ⟨some e3, .buildSlice 26 1 #[(0, .tmp e2)], ty6, ps6, af6, none⟩, ⟨some e4, .call { callee := .builtin .append, args := #[.tmp d0, .tmp e3], argTypes := #[26, 26] }, ty7, ps7, af7, none⟩, ⟨some 4, .assign (.tmp e4), ty8, ps8, af8, none⟩] false) k ρ w := by
  have m0_1 : d0 ≠ d1 := by omega
  have m0_2 : d0 ≠ d2 := by omega
  have m0_3 : d0 ≠ d3 := by omega
  have m0_4 : d0 ≠ e1 := by omega
  have m0_5 : d0 ≠ e2 := by omega
  have m0_6 : d0 ≠ e3 := by omega
  have m0_7 : d0 ≠ e4 := by omega
  have mxX_0 : X ≠ d0 := by omega
  have myX_0 : d0 ≠ X := by omega
  have mxY_0 : Y ≠ d0 := by omega
  have myY_0 : d0 ≠ Y := by omega
  have mx2_0 : 2 ≠ d0 := by omega
  have my2_0 : d0 ≠ 2 := by omega
  have mx3_0 : 3 ≠ d0 := by omega
  have my3_0 : d0 ≠ 3 := by omega
  have mx4_0 : 4 ≠ d0 := by omega
  have my4_0 : d0 ≠ 4 := by omega
  have mx5_0 : 5 ≠ d0 := by omega
  have my5_0 : d0 ≠ 5 := by omega
  have m1_0 : d1 ≠ d0 := by omega
  have m1_2 : d1 ≠ d2 := by omega
  have m1_3 : d1 ≠ d3 := by omega
  have m1_4 : d1 ≠ e1 := by omega
  have m1_5 : d1 ≠ e2 := by omega
  have m1_6 : d1 ≠ e3 := by omega
  have m1_7 : d1 ≠ e4 := by omega
  have mxX_1 : X ≠ d1 := by omega
  have myX_1 : d1 ≠ X := by omega
  have mxY_1 : Y ≠ d1 := by omega
  have myY_1 : d1 ≠ Y := by omega
  have mx2_1 : 2 ≠ d1 := by omega
  have my2_1 : d1 ≠ 2 := by omega
  have mx3_1 : 3 ≠ d1 := by omega
  have my3_1 : d1 ≠ 3 := by omega
  have mx4_1 : 4 ≠ d1 := by omega
  have my4_1 : d1 ≠ 4 := by omega
  have mx5_1 : 5 ≠ d1 := by omega
  have my5_1 : d1 ≠ 5 := by omega
  have m2_0 : d2 ≠ d0 := by omega
  have m2_1 : d2 ≠ d1 := by omega
  have m2_3 : d2 ≠ d3 := by omega
  have m2_4 : d2 ≠ e1 := by omega
  have m2_5 : d2 ≠ e2 := by omega
  have m2_6 : d2 ≠ e3 := by omega
  have m2_7 : d2 ≠ e4 := by omega
  have mxX_2 : X ≠ d2 := by omega
  have myX_2 : d2 ≠ X := by omega
  have mxY_2 : Y ≠ d2 := by omega
  have myY_2 : d2 ≠ Y := by omega
  have mx2_2 : 2 ≠ d2 := by omega
  have my2_2 : d2 ≠ 2 := by omega
  have mx3_2 : 3 ≠ d2 := by omega
  have my3_2 : d2 ≠ 3 := by omega
  have mx4_2 : 4 ≠ d2 := by omega
  have my4_2 : d2 ≠ 4 := by omega
  have mx5_2 : 5 ≠ d2 := by omega
  have my5_2 : d2 ≠ 5 := by omega
  have m3_0 : d3 ≠ d0 := by omega
  have m3_1 : d3 ≠ d1 := by omega
  have m3_2 : d3 ≠ d2 := by omega
  have m3_4 : d3 ≠ e1 := by omega
  have m3_5 : d3 ≠ e2 := by omega
  have m3_6 : d3 ≠ e3 := by omega
  have m3_7 : d3 ≠ e4 := by omega
  have mxX_3 : X ≠ d3 := by omega
  have myX_3 : d3 ≠ X := by omega
  have mxY_3 : Y ≠ d3 := by omega
  have myY_3 : d3 ≠ Y := by omega
  have mx2_3 : 2 ≠ d3 := by omega
  have my2_3 : d3 ≠ 2 := by omega
  have mx3_3 : 3 ≠ d3 := by omega
  have my3_3 : d3 ≠ 3 := by omega
  have mx4_3 : 4 ≠ d3 := by omega
  have my4_3 : d3 ≠ 4 := by omega
  have mx5_3 : 5 ≠ d3 := by omega
  have my5_3 : d3 ≠ 5 := by omega
  have m4_0 : e1 ≠ d0 := by omega
  have m4_1 : e1 ≠ d1 := by omega
  have m4_2 : e1 ≠ d2 := by omega
  have m4_3 : e1 ≠ d3 := by omega
  have m4_5 : e1 ≠ e2 := by omega
  have m4_6 : e1 ≠ e3 := by omega
  have m4_7 : e1 ≠ e4 := by omega
  have mxX_4 : X ≠ e1 := by omega
  have myX_4 : e1 ≠ X := by omega
  have mxY_4 : Y ≠ e1 := by omega
  have myY_4 : e1 ≠ Y := by omega
  have mx2_4 : 2 ≠ e1 := by omega
  have my2_4 : e1 ≠ 2 := by omega
  have mx3_4 : 3 ≠ e1 := by omega
  have my3_4 : e1 ≠ 3 := by omega
  have mx4_4 : 4 ≠ e1 := by omega
  have my4_4 : e1 ≠ 4 := by omega
  have mx5_4 : 5 ≠ e1 := by omega
  have my5_4 : e1 ≠ 5 := by omega
  have m5_0 : e2 ≠ d0 := by omega
  have m5_1 : e2 ≠ d1 := by omega
  have m5_2 : e2 ≠ d2 := by omega
  have m5_3 : e2 ≠ d3 := by omega
  have m5_4 : e2 ≠ e1 := by omega
  have m5_6 : e2 ≠ e3 := by omega
  have m5_7 : e2 ≠ e4 := by omega
  have mxX_5 : X ≠ e2 := by omega
  have myX_5 : e2 ≠ X := by omega
  have mxY_5 : Y ≠ e2 := by omega
  have myY_5 : e2 ≠ Y := by omega
  have mx2_5 : 2 ≠ e2 := by omega
  have my2_5 : e2 ≠ 2 := by omega
  have mx3_5 : 3 ≠ e2 := by omega
  have my3_5 : e2 ≠ 3 := by omega
  have mx4_5 : 4 ≠ e2 := by omega
  have my4_5 : e2 ≠ 4 := by omega
  have mx5_5 : 5 ≠ e2 := by omega
  have my5_5 : e2 ≠ 5 := by omega
  have m6_0 : e3 ≠ d0 := by omega
  have m6_1 : e3 ≠ d1 := by omega
  have m6_2 : e3 ≠ d2 := by omega
  have m6_3 : e3 ≠ d3 := by omega
  have m6_4 : e3 ≠ e1 := by omega
  have m6_5 : e3 ≠ e2 := by omega
  have m6_7 : e3 ≠ e4 := by omega
  have mxX_6 : X ≠ e3 := by omega
  have myX_6 : e3 ≠ X := by omega
  have mxY_6 : Y ≠ e3 := by omega
  have myY_6 : e3 ≠ Y := by omega
  have mx2_6 : 2 ≠ e3 := by omega
  have my2_6 : e3 ≠ 2 := by omega
  have mx3_6 : 3 ≠ e3 := by omega
  have my3_6 : e3 ≠ 3 := by omega
  have mx4_6 : 4 ≠ e3 := by omega
  have my4_6 : e3 ≠ 4 := by omega
  have mx5_6 : 5 ≠ e3 := by omega
  have my5_6 : e3 ≠ 5 := by omega
  have m7_0 : e4 ≠ d0 := by omega
  have m7_1 : e4 ≠ d1 := by omega
  have m7_2 : e4 ≠ d2 := by omega
  have m7_3 : e4 ≠ d3 := by omega
  have m7_4 : e4 ≠ e1 := by omega
  have m7_5 : e4 ≠ e2 := by omega
  have m7_6 : e4 ≠ e3 := by omega
  have mxX_7 : X ≠ e4 := by omega
  have myX_7 : e4 ≠ X := by omega
  have mxY_7 : Y ≠ e4 := by omega
  have myY_7 : e4 ≠ Y := by omega
  have mx2_7 : 2 ≠ e4 := by omega
  have my2_7 : e4 ≠ 2 := by omega
  have mx3_7 : 3 ≠ e4 := by omega
  have my3_7 : e4 ≠ 3 := by omega
  have mx4_7 : 4 ≠ e4 := by omega
  have my4_7 : e4 ≠ 4 := by omega
  have mx5_7 : 5 ≠ e4 := by omega
  have my5_7 : e4 ≠ 5 := by omega
  obtain ⟨la, lc, l1, l2, l3⟩ := S.ol
  have hH := S.hs
  obtain ⟨bx, x0, x1, x2, eX, g0, g1, g2, hTx⟩ := TX.ex
  obtain ⟨ox0, ox1, ox2⟩ := hTx.one
  have hsz := show_len hX0
  obtain ⟨bY, y0, y1, y2, eY, j0, j1, j2, hTy⟩ := TY.ex
  obtain ⟨oy0, oy1, oy2⟩ := hTy.one
  have hN : BF (tB 7 t u) := ⟨shB (by decide) (by decide) hX0.1 hY0.1, by rw [sz_B]; omega⟩
  have hsN := show_len hN
  have hrf : ∀ x ∈ ([zr1.toNat, zr2.toNat] : List Nat), x ≤ cap := by
    intro x hx; simp at hx; unfold cap; omega
  have hzm : ([zr1, zr2] : List Int) = ([zr1.toNat, zr2.toNat] : List Nat).map (fun x : Nat => (x : Int)) := by
    simp; omega
  repeat' (first | refine W_seq (fun K hK => ?_) | refine W_block ?_ | refine W_skip ?_ | refine W_exit ?_ | refine W_ret ?_ | refine W_region ?_ | simp (disch := first | (simp only [undef, want_some, upd_app, List.getElem?_cons_succ, List.getElem?_cons_zero, Option.join_some, e_bt, e_bf, Nat.reduceEqDiff, ↓reduceIte, Bool.not_true, Bool.not_false, ne_eq, not_false_eq_true]; done) | ((with_reducible refine pkE ?_); with_unfolding_all rfl) | ((with_reducible refine cszE ?_); with_unfolding_all rfl) | ((with_reducible refine isQE ?_); with_unfolding_all rfl) | assumption | omega) only [List.map_cons, List.map_nil, List.map_toArray, Nat.reduceEqDiff, b_exit, b_exitN, b_normal, b_ret, c_agg, c_bool, c_int, c_sl, c_str, e26, e76, e_bs0 _ _ k26 ie26 ze26 se26, e_bs0 _ _ k76 ie76 ze76 se76, e_bs1 _ _ k26 ie26 ze26 se26 (by decide), e_bs1 _ _ k76 ie76 ze76 se76 (by decide), e_bs2 _ _ k76 ie76 ze76 se76 (by decide), ev_const, ev_tmp, fe_addS, fo_assign, fo_bin, fo_load, fo_move, init1, init2a, init2b, init3a, init3b, init3c, o_append, o_buildSlice, o_call _ _ _ _ _ _ _ c28, o_call _ _ _ _ _ _ _ c29, o_call _ _ _ _ _ _ _ c30, put_some, r_enter, r_value, s_nil, s_none, t_exit, t_normal, t_ret, upd_app, ↓reduceIte, eX, eY, l1, g0, g1, g2, j0, j1, j2, m0_1, m0_2, m0_3, m0_4, m0_5, m0_6, m0_7, mxX_0, myX_0, mxY_0, myY_0, mx2_0, my2_0, mx3_0, my3_0, mx4_0, my4_0, mx5_0, my5_0, m1_0, m1_2, m1_3, m1_4, m1_5, m1_6, m1_7, mxX_1, myX_1, mxY_1, myY_1, mx2_1, my2_1, mx3_1, my3_1, mx4_1, my4_1, mx5_1, my5_1, m2_0, m2_1, m2_3, m2_4, m2_5, m2_6, m2_7, mxX_2, myX_2, mxY_2, myY_2, mx2_2, my2_2, mx3_2, my3_2, mx4_2, my4_2, mx5_2, my5_2, m3_0, m3_1, m3_2, m3_4, m3_5, m3_6, m3_7, mxX_3, myX_3, mxY_3, myY_3, mx2_3, my2_3, mx3_3, my3_3, mx4_3, my4_3, mx5_3, my5_3, m4_0, m4_1, m4_2, m4_3, m4_5, m4_6, m4_7, mxX_4, myX_4, mxY_4, myY_4, mx2_4, my2_4, mx3_4, my3_4, mx4_4, my4_4, mx5_4, my5_4, m5_0, m5_1, m5_2, m5_3, m5_4, m5_6, m5_7, mxX_5, myX_5, mxY_5, myY_5, mx2_5, my2_5, mx3_5, my3_5, mx4_5, my4_5, mx5_5, my5_5, m6_0, m6_1, m6_2, m6_3, m6_4, m6_5, m6_7, mxX_6, myX_6, mxY_6, myY_6, mx2_6, my2_6, mx3_6, my3_6, mx4_6, my4_6, mx5_6, my5_6, m7_0, m7_1, m7_2, m7_3, m7_4, m7_5, m7_6, mxX_7, myX_7, mxY_7, myY_7, mx2_7, my2_7, mx3_7, my3_7, mx4_7, my4_7, mx5_7, my5_7, e_bs3 _ _ k76 ie76 ze76 se76 (by decide), Nat.zero_add, List.map_cons, List.map_nil, cells1, cells2, cells3, cells4, cells5, d_loud, d_nil, d_quiet, d_someF, d_someT, e_ldaH k51 i51 s51 hH, l_enter, l_skip, l_val, q_lda k51 i51 s51 hH, q_val hH] | refine binT_ok2 hH 7 x0 x1 x2 y0 y1 y2 ⟨ox0, ox1, ox2, oy0, oy1, oy2⟩ _ (fun w3 a3 H3 hE3 sl3 f3 => ?_) | refine stepLine_okA (zs := [zr1, zr2]) hE3.hs hN.1 _ _ _ ((hTx.mono hE3.le).B (hTy.mono hE3.le) sl3) (by omega) hrs hzm hrf (by simp) _ (fun w2 f2 => ?_) | refine V_app k26 e26 ze26 rfl se26 be26 (l2.frN (f3.no f2)) rfl (by simp [oneC]) (by unfold maxLen; omega) (by omega) (fun a9 d9 w9 ho9 hf9 hn9 => ?_) | refine W_drawH hH (by kernel_rfl) (by kernel_rfl) (fun w1 hw1 hH => ?_) | (refine D_split rfl rfl (fun hc => ?_) (fun hc => ?_) <;> (try simp only [decide_eq_true_eq, decide_eq_false_iff_not, Bool.not_eq_true', Bool.not_eq_false', Int.not_lt, Int.not_le, Decidable.not_not] at hc) <;> (try contradiction) <;> (try (exfalso; omega))) | (refine W_cond rfl (fun hc => ?_) (fun hc => ?_) <;> (try simp only [decide_eq_true_eq, decide_eq_false_iff_not, Bool.not_eq_true', Bool.not_eq_false', Int.not_lt, Int.not_le, Decidable.not_not] at hc) <;> (try contradiction) <;> (try (exfalso; omega))) | (refine G_split rfl rfl (fun hc => ?_) (fun hc => ?_) <;> (try simp only [decide_eq_true_eq, decide_eq_false_iff_not, Bool.not_eq_true', Bool.not_eq_false', Int.not_lt, Int.not_le, Decidable.not_not] at hc) <;> (try contradiction) <;> (try (exfalso; omega))) | (with_reducible (refine hK _ _ ?_); clear hK K) | go_step)
  have fin : ∀ ρ' : Env, (∀ r, r < 58 → r ≠ 4 → ρ' r = ρ r) → ρ' 4 = .slice a9 (ls.length + 1) d9 → k .normal ρ' w9 := fun ρ' K e4 => h ρ' _ ((S.frN (f3.no f2)).setL l1 hf9 (ownL ho9 (by rw [hrl]; rfl)) hn9 (K 2 (by omega) (by omega)) (K 3 (by omega) (by omega)) (by rw [e4, List.length_append]; rfl) (K 5 (by omega) (by omega))) K
  exact fin _ (fun r h1 h2 => by simp only [upd_app, if_neg (show ¬ r = d0 by omega), if_neg (show ¬ r = d1 by omega), if_neg (show ¬ r = d2 by omega), if_neg (show ¬ r = d3 by omega), if_neg (show ¬ r = e1 by omega), if_neg (show ¬ r = e2 by omega), if_neg (show ¬ r = e3 by omega), if_neg (show ¬ r = e4 by omega), if_neg h2]) (by simp only [upd_app, if_true])

-- spec.BuildProof
set_option maxHeartbeats 2000000 in
set_option maxRecDepth 20000 in
theorem R_bin {H0 Hq : Heap} {w0 w : World} {gb rb : Nat} {ca : Option Addr} {n cc p : Nat} {ex : List ExO} {ρ : Env} {ls : List LT} {xs : List VdA} {k : Exit → Env → World → Prop} {id d0 d1 d2 X Y Z : Nat} {ty0 ty1 ty2 ty3 ty4 : TypeId} {ps0 ps1 ps2 ps3 ps4 : String} {af0 af1 af2 af3 af4 : Array Edge} {t u : FT} {op : Int} (S : BM H0 Hq w0 w gb rb ca n cc p ex ρ ls xs) (hd : 58 ≤ d0 ∧ d0 < d1 ∧ d1 < d2) (hX : X < 58) (hY : Y < 58) (hZ : 5 < Z ∧ Z < 58) (TX : TV Hq (ρ X) t) (TY : TV Hq (ρ Y) u)
    (h : ∀ ρ' w' H', BM H0 H' w0 w' gb rb ca n cc p ex ρ' ls xs → HLe Hq H' → TV H' (ρ' Z) (tB op t u) → (∀ r, r < 58 → r ≠ Z → ρ' r = ρ r) → k .normal ρ' w') : VC Yaao.prog (.region id #[⟨some d0, .load 51 (.tmp X), ty0, ps0, af0, none⟩, ⟨some d1, .load 51 (.tmp Y), ty1, ps1, af1, none⟩, ⟨some d2, .call { callee := .value (.func 28), args := #[.const (.int .i64 op), .tmp d0, .tmp d1], argTypes := #[3, 51, 51] }, ty2, ps2, af2, none⟩, ⟨some Z, .alloc 51, ty3, ps3, af3, none⟩, ⟨none, .store 51 (.tmp Z) (.tmp d2), ty4, ps4, af4, none⟩] false) k ρ w := by
  have m0_1 : d0 ≠ d1 := by omega
  have m0_2 : d0 ≠ d2 := by omega
  have mxX_0 : X ≠ d0 := by omega
  have myX_0 : d0 ≠ X := by omega
  have mxY_0 : Y ≠ d0 := by omega
  have myY_0 : d0 ≠ Y := by omega
  have mxZ_0 : Z ≠ d0 := by omega
  have myZ_0 : d0 ≠ Z := by omega
  have mx2_0 : 2 ≠ d0 := by omega
  have my2_0 : d0 ≠ 2 := by omega
  have mx3_0 : 3 ≠ d0 := by omega
  have my3_0 : d0 ≠ 3 := by omega
  have mx4_0 : 4 ≠ d0 := by omega
  have my4_0 : d0 ≠ 4 := by omega
  have mx5_0 : 5 ≠ d0 := by omega
  have my5_0 : d0 ≠ 5 := by omega
  have m1_0 : d1 ≠ d0 := by omega
  have m1_2 : d1 ≠ d2 := by omega
  have mxX_1 : X ≠ d1 := by omega
  have myX_1 : d1 ≠ X := by omega
  have mxY_1 : Y ≠ d1 := by omega
  have myY_1 : d1 ≠ Y := by omega
  have mxZ_1 : Z ≠ d1 := by omega
  have myZ_1 : d1 ≠ Z := by omega
  have mx2_1 : 2 ≠ d1 := by omega
  have my2_1 : d1 ≠ 2 := by omega
  have mx3_1 : 3 ≠ d1 := by omega
  have my3_1 : d1 ≠ 3 := by omega
  have mx4_1 : 4 ≠ d1 := by omega
  have my4_1 : d1 ≠ 4 := by omega
  have mx5_1 : 5 ≠ d1 := by omega
  have my5_1 : d1 ≠ 5 := by omega
  have m2_0 : d2 ≠ d0 := by omega
  have m2_1 : d2 ≠ d1 := by omega
  have mxX_2 : X ≠ d2 := by omega
  have myX_2 : d2 ≠ X := by omega
  have mxY_2 : Y ≠ d2 := by omega
  have myY_2 : d2 ≠ Y := by omega
  have mxZ_2 : Z ≠ d2 := by omega
  have myZ_2 : d2 ≠ Z := by omega
  have mx2_2 : 2 ≠ d2 := by omega
  have my2_2 : d2 ≠ 2 := by omega
  have mx3_2 : 3 ≠ d2 := by omega
  have my3_2 : d2 ≠ 3 := by omega
  have mx4_2 : 4 ≠ d2 := by omega
  have my4_2 : d2 ≠ 4 := by omega
  have mx5_2 : 5 ≠ d2 := by omega
  have my5_2 : d2 ≠ 5 := by omega
  have mz2 : 2 ≠ Z := by omega
  have mZ2 : Z ≠ 2 := by omega
  have mz3 : 3 ≠ Z := by omega
  have mZ3 : Z ≠ 3 := by omega
  have mz4 : 4 ≠ Z := by omega
  have mZ4 : Z ≠ 4 := by omega
  have mz5 : 5 ≠ Z := by omega
  have mZ5 : Z ≠ 5 := by omega
  have hH := S.hs
  obtain ⟨bx, x0, x1, x2, eX, g0, g1, g2, hTx⟩ := TX.ex
  obtain ⟨ox0, ox1, ox2⟩ := hTx.one
  obtain ⟨bY, y0, y1, y2, eY, j0, j1, j2, hTy⟩ := TY.ex
  obtain ⟨oy0, oy1, oy2⟩ := hTy.one
  repeat' (first | refine W_seq (fun K hK => ?_) | refine W_block ?_ | refine W_skip ?_ | refine W_exit ?_ | refine W_ret ?_ | refine W_region ?_ | simp (disch := first | (simp only [undef, want_some, upd_app, List.getElem?_cons_succ, List.getElem?_cons_zero, Option.join_some, e_bt, e_bf, Nat.reduceEqDiff, ↓reduceIte, Bool.not_true, Bool.not_false, ne_eq, not_false_eq_true]; done) | ((with_reducible refine pkE ?_); with_unfolding_all rfl) | ((with_reducible refine cszE ?_); with_unfolding_all rfl) | ((with_reducible refine isQE ?_); with_unfolding_all rfl) | assumption | omega) only [List.map_cons, List.map_nil, List.map_toArray, Nat.reduceEqDiff, b_exit, b_exitN, b_normal, b_ret, e_alloc _ _ _ _ z51, e_stn _ _ i51 s51, ev_const, ev_tmp, fo_load, init1, init2a, init2b, init3a, init3b, init3c, o_alloc, o_call _ _ _ _ _ _ _ c28, o_store, put_none, put_some, r_enter, r_skip, r_value, s_nil, s_none, t_exit, t_normal, t_ret, upd_app, ↓reduceIte, eX, eY, g0, g1, g2, j0, j1, j2, m0_1, m0_2, mxX_0, myX_0, mxY_0, myY_0, mxZ_0, myZ_0, mx2_0, my2_0, mx3_0, my3_0, mx4_0, my4_0, mx5_0, my5_0, m1_0, m1_2, mxX_1, myX_1, mxY_1, myY_1, mxZ_1, myZ_1, mx2_1, my2_1, mx3_1, my3_1, mx4_1, my4_1, mx5_1, my5_1, m2_0, m2_1, mxX_2, myX_2, mxY_2, myY_2, mxZ_2, myZ_2, mx2_2, my2_2, mx3_2, my3_2, mx4_2, my4_2, mx5_2, my5_2, mz2, mZ2, mz3, mZ3, mz4, mZ4, mz5, mZ5, Nat.zero_add, e_stn3 _ _ i51 s51, List.map_cons, List.map_nil, cells1, cells2, cells3, cells4, cells5, d_loud, d_nil, d_quiet, d_someF, d_someT, e_ldaH k51 i51 s51 hH, l_enter, l_skip, l_val, q_lda k51 i51 s51 hH, q_val hH] | refine binT_ok2 hH op x0 x1 x2 y0 y1 y2 ⟨ox0, ox1, ox2, oy0, oy1, oy2⟩ _ (fun w2 a2 H2 hE2 sl2 f2 => ?_) | refine W_drawH hH (by kernel_rfl) (by kernel_rfl) (fun w1 hw1 hH => ?_) | (refine D_split rfl rfl (fun hc => ?_) (fun hc => ?_) <;> (try simp only [decide_eq_true_eq, decide_eq_false_iff_not, Bool.not_eq_true', Bool.not_eq_false', Int.not_lt, Int.not_le, Decidable.not_not] at hc) <;> (try contradiction) <;> (try (exfalso; omega))) | (refine W_cond rfl (fun hc => ?_) (fun hc => ?_) <;> (try simp only [decide_eq_true_eq, decide_eq_false_iff_not, Bool.not_eq_true', Bool.not_eq_false', Int.not_lt, Int.not_le, Decidable.not_not] at hc) <;> (try contradiction) <;> (try (exfalso; omega))) | (refine G_split rfl rfl (fun hc => ?_) (fun hc => ?_) <;> (try simp only [decide_eq_true_eq, decide_eq_false_iff_not, Bool.not_eq_true', Bool.not_eq_false', Int.not_lt, Int.not_le, Decidable.not_not] at hc) <;> (try contradiction) <;> (try (exfalso; omega))) | (with_reducible (refine hK _ _ ?_); clear hK K) | go_step)
  have hE := hE2
  have fA : Fr noB w2 (w2.alloc (.cells [.int .i64 op, .string ⟨#[]⟩, .slice a2 2 2].toArray 51)) := Fr.alloc _ _ _ _
  obtain ⟨H8, l8, hH8, k8, x8⟩ := (Blk.new w2 51 [.int .i64 op, .string ⟨#[]⟩, .slice a2 2 2]).keep (hE.hs.frN fA) (fun o => hE.hs.off (Nat.le_refl _) o)
  have E8 : Ext _ H8 w2 (w2.alloc (.cells [.int .i64 op, .string ⟨#[]⟩, .slice a2 2 2].toArray 51)) := ⟨l8, hH8, fun k hk o => x8 k (by omega) o⟩
  have fin : ∀ ρ' : Env, (∀ r, r < 58 → r ≠ Z → ρ' r = ρ r) → ρ' Z = .pointer (some ⟨w2.heap.size, 0, none⟩) → k .normal ρ' (w2.alloc (.cells [.int .i64 op, .string ⟨#[]⟩, .slice a2 2 2].toArray 51)) := fun ρ' K eZ =>
    h ρ' _ H8 (((S.up f2 hE).up fA E8).env (K 2 (by omega) (by omega)) (K 3 (by omega) (by omega)) (K 4 (by omega) (by omega)) (K 5 (by omega) (by omega))) (hE.le.trans l8) ⟨w2.heap.size, _, _, _, eZ, k8 0, k8 1, k8 2, ((((hTx.mono hE2.le).B (hTy.mono hE2.le) sl2)).mono l8)⟩ K
  exact fin _ (fun r h1 h2 => by simp only [upd_app, if_neg (show ¬ r = d0 by omega), if_neg (show ¬ r = d1 by omega), if_neg (show ¬ r = d2 by omega), if_neg h2]) (by simp only [upd_app, if_true])

-- spec.BuildProof
set_option maxHeartbeats 2000000 in
set_option maxRecDepth 20000 in
theorem R_not {H0 Hq : Heap} {w0 w : World} {gb rb : Nat} {ca : Option Addr} {n cc p : Nat} {ex : List ExO} {ρ : Env} {ls : List LT} {xs : List VdA} {k : Exit → Env → World → Prop} {id d0 d1 X Z : Nat} {ty0 ty1 ty2 ty3 : TypeId} {ps0 ps1 ps2 ps3 : String} {af0 af1 af2 af3 : Array Edge} {t : FT} (S : BM H0 Hq w0 w gb rb ca n cc p ex ρ ls xs) (hd : 58 ≤ d0 ∧ d0 < d1) (hX : X < 58) (hZ : 5 < Z ∧ Z < 58) (TX : TV Hq (ρ X) t)
    (h : ∀ ρ' w' H', BM H0 H' w0 w' gb rb ca n cc p ex ρ' ls xs → HLe Hq H' → TV H' (ρ' Z) (tN t) → (∀ r, r < 58 → r ≠ Z → ρ' r = ρ r) → k .normal ρ' w') : VC Yaao.prog (.region id #[⟨some d0, .load 51 (.tmp X), ty0, ps0, af0, none⟩, ⟨some d1, .call { callee := .value (.func 32), args := #[.tmp d0], argTypes := #[51] }, ty1, ps1, af1, none⟩, ⟨some Z, .alloc 51, ty2, ps2, af2, none⟩, ⟨none, .store 51 (.tmp Z) (.tmp d1), ty3, ps3, af3, none⟩] false) k ρ w := by
  have m0_1 : d0 ≠ d1 := by omega
  have mxX_0 : X ≠ d0 := by omega
  have myX_0 : d0 ≠ X := by omega
  have mxZ_0 : Z ≠ d0 := by omega
  have myZ_0 : d0 ≠ Z := by omega
  have mx2_0 : 2 ≠ d0 := by omega
  have my2_0 : d0 ≠ 2 := by omega
  have mx3_0 : 3 ≠ d0 := by omega
  have my3_0 : d0 ≠ 3 := by omega
  have mx4_0 : 4 ≠ d0 := by omega
  have my4_0 : d0 ≠ 4 := by omega
  have mx5_0 : 5 ≠ d0 := by omega
  have my5_0 : d0 ≠ 5 := by omega
  have m1_0 : d1 ≠ d0 := by omega
  have mxX_1 : X ≠ d1 := by omega
  have myX_1 : d1 ≠ X := by omega
  have mxZ_1 : Z ≠ d1 := by omega
  have myZ_1 : d1 ≠ Z := by omega
  have mx2_1 : 2 ≠ d1 := by omega
  have my2_1 : d1 ≠ 2 := by omega
  have mx3_1 : 3 ≠ d1 := by omega
  have my3_1 : d1 ≠ 3 := by omega
  have mx4_1 : 4 ≠ d1 := by omega
  have my4_1 : d1 ≠ 4 := by omega
  have mx5_1 : 5 ≠ d1 := by omega
  have my5_1 : d1 ≠ 5 := by omega
  have mz2 : 2 ≠ Z := by omega
  have mZ2 : Z ≠ 2 := by omega
  have mz3 : 3 ≠ Z := by omega
  have mZ3 : Z ≠ 3 := by omega
  have mz4 : 4 ≠ Z := by omega
  have mZ4 : Z ≠ 4 := by omega
  have mz5 : 5 ≠ Z := by omega
  have mZ5 : Z ≠ 5 := by omega
  have hH := S.hs
  obtain ⟨bx, x0, x1, x2, eX, g0, g1, g2, hTx⟩ := TX.ex
  obtain ⟨ox0, ox1, ox2⟩ := hTx.one
  repeat' (first | refine W_seq (fun K hK => ?_) | refine W_block ?_ | refine W_skip ?_ | refine W_exit ?_ | refine W_ret ?_ | refine W_region ?_ | simp (disch := first | (simp only [undef, want_some, upd_app, List.getElem?_cons_succ, List.getElem?_cons_zero, Option.join_some, e_bt, e_bf, Nat.reduceEqDiff, ↓reduceIte, Bool.not_true, Bool.not_false, ne_eq, not_false_eq_true]; done) | ((with_reducible refine pkE ?_); with_unfolding_all rfl) | ((with_reducible refine cszE ?_); with_unfolding_all rfl) | ((with_reducible refine isQE ?_); with_unfolding_all rfl) | assumption | omega) only [List.map_cons, List.map_nil, List.map_toArray, Nat.reduceEqDiff, b_exit, b_exitN, b_normal, b_ret, e_alloc _ _ _ _ z51, e_stn _ _ i51 s51, ev_const, ev_tmp, fo_load, init1, init2a, init2b, init3a, init3b, init3c, o_alloc, o_call _ _ _ _ _ _ _ c32, o_store, put_none, put_some, r_enter, r_skip, r_value, s_nil, s_none, t_exit, t_normal, t_ret, upd_app, ↓reduceIte, eX, g0, g1, g2, m0_1, mxX_0, myX_0, mxZ_0, myZ_0, mx2_0, my2_0, mx3_0, my3_0, mx4_0, my4_0, mx5_0, my5_0, m1_0, mxX_1, myX_1, mxZ_1, myZ_1, mx2_1, my2_1, mx3_1, my3_1, mx4_1, my4_1, mx5_1, my5_1, mz2, mZ2, mz3, mZ3, mz4, mZ4, mz5, mZ5, Nat.zero_add, e_stn3 _ _ i51 s51, List.map_cons, List.map_nil, cells1, cells2, cells3, cells4, cells5, d_loud, d_nil, d_quiet, d_someF, d_someT, e_ldaH k51 i51 s51 hH, l_enter, l_skip, l_val, q_lda k51 i51 s51 hH, q_val hH] | refine notT_ok2 hH x0 x1 x2 ⟨ox0, ox1, ox2⟩ _ (fun w2 a2 H2 hE2 sl2 f2 => ?_) | refine W_drawH hH (by kernel_rfl) (by kernel_rfl) (fun w1 hw1 hH => ?_) | (refine D_split rfl rfl (fun hc => ?_) (fun hc => ?_) <;> (try simp only [decide_eq_true_eq, decide_eq_false_iff_not, Bool.not_eq_true', Bool.not_eq_false', Int.not_lt, Int.not_le, Decidable.not_not] at hc) <;> (try contradiction) <;> (try (exfalso; omega))) | (refine W_cond rfl (fun hc => ?_) (fun hc => ?_) <;> (try simp only [decide_eq_true_eq, decide_eq_false_iff_not, Bool.not_eq_true', Bool.not_eq_false', Int.not_lt, Int.not_le, Decidable.not_not] at hc) <;> (try contradiction) <;> (try (exfalso; omega))) | (refine G_split rfl rfl (fun hc => ?_) (fun hc => ?_) <;> (try simp only [decide_eq_true_eq, decide_eq_false_iff_not, Bool.not_eq_true', Bool.not_eq_false', Int.not_lt, Int.not_le, Decidable.not_not] at hc) <;> (try contradiction) <;> (try (exfalso; omega))) | (with_reducible (refine hK _ _ ?_); clear hK K) | go_step)
  have hE := hE2
  have fA : Fr noB w2 (w2.alloc (.cells [.int .i64 3, .string ⟨#[]⟩, .slice a2 1 1].toArray 51)) := Fr.alloc _ _ _ _
  obtain ⟨H8, l8, hH8, k8, x8⟩ := (Blk.new w2 51 [.int .i64 3, .string ⟨#[]⟩, .slice a2 1 1]).keep (hE.hs.frN fA) (fun o => hE.hs.off (Nat.le_refl _) o)
  have E8 : Ext _ H8 w2 (w2.alloc (.cells [.int .i64 3, .string ⟨#[]⟩, .slice a2 1 1].toArray 51)) := ⟨l8, hH8, fun k hk o => x8 k (by omega) o⟩
  have fin : ∀ ρ' : Env, (∀ r, r < 58 → r ≠ Z → ρ' r = ρ r) → ρ' Z = .pointer (some ⟨w2.heap.size, 0, none⟩) → k .normal ρ' (w2.alloc (.cells [.int .i64 3, .string ⟨#[]⟩, .slice a2 1 1].toArray 51)) := fun ρ' K eZ =>
    h ρ' _ H8 (((S.up f2 hE).up fA E8).env (K 2 (by omega) (by omega)) (K 3 (by omega) (by omega)) (K 4 (by omega) (by omega)) (K 5 (by omega) (by omega))) (hE.le.trans l8) ⟨w2.heap.size, _, _, _, eZ, k8 0, k8 1, k8 2, ((((hTx.mono hE2.le).N sl2)).mono l8)⟩ K
  exact fin _ (fun r h1 h2 => by simp only [upd_app, if_neg (show ¬ r = d0 by omega), if_neg (show ¬ r = d1 by omega), if_neg h2]) (by simp only [upd_app, if_true])

-- spec.BuildProof
set_option maxHeartbeats 2000000 in
set_option maxRecDepth 20000 in
theorem R_nn {H0 Hq : Heap} {w0 w : World} {gb rb : Nat} {ca : Option Addr} {n cc p : Nat} {ex : List ExO} {ρ : Env} {ls : List LT} {xs : List VdA} {k : Exit → Env → World → Prop} {id d0 d1 d2 X Z : Nat} {ty0 ty1 ty2 ty3 ty4 : TypeId} {ps0 ps1 ps2 ps3 ps4 : String} {af0 af1 af2 af3 af4 : Array Edge} {t : FT} (S : BM H0 Hq w0 w gb rb ca n cc p ex ρ ls xs) (hd : 58 ≤ d0 ∧ d0 < d1 ∧ d1 < d2) (hX : X < 58) (hZ : 5 < Z ∧ Z < 58) (TX : TV Hq (ρ X) t)
    (h : ∀ ρ' w' H', BM H0 H' w0 w' gb rb ca n cc p ex ρ' ls xs → HLe Hq H' → TV H' (ρ' Z) (tN (tN t)) → (∀ r, r < 58 → r ≠ Z → ρ' r = ρ r) → k .normal ρ' w') : VC Yaao.prog (.region id #[⟨some d0, .load 51 (.tmp X), ty0, ps0, af0, none⟩, ⟨some d1, .call { callee := .value (.func 32), args := #[.tmp d0], argTypes := #[51] }, ty1, ps1, af1, none⟩, ⟨some d2, .call { callee := .value (.func 32), args := #[.tmp d1], argTypes := #[51] }, ty2, ps2, af2, none⟩, ⟨some Z, .alloc 51, ty3, ps3, af3, none⟩, ⟨none, .store 51 (.tmp Z) (.tmp d2), ty4, ps4, af4, none⟩] false) k ρ w := by
  have m0_1 : d0 ≠ d1 := by omega
  have m0_2 : d0 ≠ d2 := by omega
  have mxX_0 : X ≠ d0 := by omega
  have myX_0 : d0 ≠ X := by omega
  have mxZ_0 : Z ≠ d0 := by omega
  have myZ_0 : d0 ≠ Z := by omega
  have mx2_0 : 2 ≠ d0 := by omega
  have my2_0 : d0 ≠ 2 := by omega
  have mx3_0 : 3 ≠ d0 := by omega
  have my3_0 : d0 ≠ 3 := by omega
  have mx4_0 : 4 ≠ d0 := by omega
  have my4_0 : d0 ≠ 4 := by omega
  have mx5_0 : 5 ≠ d0 := by omega
  have my5_0 : d0 ≠ 5 := by omega
  have m1_0 : d1 ≠ d0 := by omega
  have m1_2 : d1 ≠ d2 := by omega
  have mxX_1 : X ≠ d1 := by omega
  have myX_1 : d1 ≠ X := by omega
  have mxZ_1 : Z ≠ d1 := by omega
  have myZ_1 : d1 ≠ Z := by omega
  have mx2_1 : 2 ≠ d1 := by omega
  have my2_1 : d1 ≠ 2 := by omega
  have mx3_1 : 3 ≠ d1 := by omega
  have my3_1 : d1 ≠ 3 := by omega
  have mx4_1 : 4 ≠ d1 := by omega
  have my4_1 : d1 ≠ 4 := by omega
  have mx5_1 : 5 ≠ d1 := by omega
  have my5_1 : d1 ≠ 5 := by omega
  have m2_0 : d2 ≠ d0 := by omega
  have m2_1 : d2 ≠ d1 := by omega
  have mxX_2 : X ≠ d2 := by omega
  have myX_2 : d2 ≠ X := by omega
  have mxZ_2 : Z ≠ d2 := by omega
  have myZ_2 : d2 ≠ Z := by omega
  have mx2_2 : 2 ≠ d2 := by omega
  have my2_2 : d2 ≠ 2 := by omega
  have mx3_2 : 3 ≠ d2 := by omega
  have my3_2 : d2 ≠ 3 := by omega
  have mx4_2 : 4 ≠ d2 := by omega
  have my4_2 : d2 ≠ 4 := by omega
  have mx5_2 : 5 ≠ d2 := by omega
  have my5_2 : d2 ≠ 5 := by omega
  have mz2 : 2 ≠ Z := by omega
  have mZ2 : Z ≠ 2 := by omega
  have mz3 : 3 ≠ Z := by omega
  have mZ3 : Z ≠ 3 := by omega
  have mz4 : 4 ≠ Z := by omega
  have mZ4 : Z ≠ 4 := by omega
  have mz5 : 5 ≠ Z := by omega
  have mZ5 : Z ≠ 5 := by omega
  have hH := S.hs
  obtain ⟨bx, x0, x1, x2, eX, g0, g1, g2, hTx⟩ := TX.ex
  obtain ⟨ox0, ox1, ox2⟩ := hTx.one
  repeat' (first | refine W_seq (fun K hK => ?_) | refine W_block ?_ | refine W_skip ?_ | refine W_exit ?_ | refine W_ret ?_ | refine W_region ?_ | simp (disch := first | (simp only [undef, want_some, upd_app, List.getElem?_cons_succ, List.getElem?_cons_zero, Option.join_some, e_bt, e_bf, Nat.reduceEqDiff, ↓reduceIte, Bool.not_true, Bool.not_false, ne_eq, not_false_eq_true]; done) | ((with_reducible refine pkE ?_); with_unfolding_all rfl) | ((with_reducible refine cszE ?_); with_unfolding_all rfl) | ((with_reducible refine isQE ?_); with_unfolding_all rfl) | assumption | omega) only [List.map_cons, List.map_nil, List.map_toArray, Nat.reduceEqDiff, b_exit, b_exitN, b_normal, b_ret, e_alloc _ _ _ _ z51, e_stn _ _ i51 s51, ev_const, ev_tmp, fo_load, init1, init2a, init2b, init3a, init3b, init3c, o_alloc, o_call _ _ _ _ _ _ _ c32, o_store, put_none, put_some, r_enter, r_skip, r_value, s_nil, s_none, t_exit, t_normal, t_ret, upd_app, ↓reduceIte, eX, g0, g1, g2, m0_1, m0_2, mxX_0, myX_0, mxZ_0, myZ_0, mx2_0, my2_0, mx3_0, my3_0, mx4_0, my4_0, mx5_0, my5_0, m1_0, m1_2, mxX_1, myX_1, mxZ_1, myZ_1, mx2_1, my2_1, mx3_1, my3_1, mx4_1, my4_1, mx5_1, my5_1, m2_0, m2_1, mxX_2, myX_2, mxZ_2, myZ_2, mx2_2, my2_2, mx3_2, my3_2, mx4_2, my4_2, mx5_2, my5_2, mz2, mZ2, mz3, mZ3, mz4, mZ4, mz5, mZ5, Nat.zero_add, e_stn3 _ _ i51 s51, List.map_cons, List.map_nil, cells1, cells2, cells3, cells4, cells5, d_loud, d_nil, d_quiet, d_someF, d_someT, e_ldaH k51 i51 s51 hH, l_enter, l_skip, l_val, q_lda k51 i51 s51 hH, q_val hH] | refine notT_ok2 hH x0 x1 x2 ⟨ox0, ox1, ox2⟩ _ (fun w3 a3 H3 hE3 sl3 f3 => ?_) | refine notT_ok2 hE3.hs _ _ _ ⟨rfl, rfl, rfl⟩ _ (fun w2 a2 H2 hE2 sl2 f2 => ?_) | refine W_drawH hH (by kernel_rfl) (by kernel_rfl) (fun w1 hw1 hH => ?_) | (refine D_split rfl rfl (fun hc => ?_) (fun hc => ?_) <;> (try simp only [decide_eq_true_eq, decide_eq_false_iff_not, Bool.not_eq_true', Bool.not_eq_false', Int.not_lt, Int.not_le, Decidable.not_not] at hc) <;> (try contradiction) <;> (try (exfalso; omega))) | (refine W_cond rfl (fun hc => ?_) (fun hc => ?_) <;> (try simp only [decide_eq_true_eq, decide_eq_false_iff_not, Bool.not_eq_true', Bool.not_eq_false', Int.not_lt, Int.not_le, Decidable.not_not] at hc) <;> (try contradiction) <;> (try (exfalso; omega))) | (refine G_split rfl rfl (fun hc => ?_) (fun hc => ?_) <;> (try simp only [decide_eq_true_eq, decide_eq_false_iff_not, Bool.not_eq_true', Bool.not_eq_false', Int.not_lt, Int.not_le, Decidable.not_not] at hc) <;> (try contradiction) <;> (try (exfalso; omega))) | (with_reducible (refine hK _ _ ?_); clear hK K) | go_step)
  have z3 := f3.size
  have hE := (hE3.trans hE2 z3)
  have fA : Fr noB w2 (w2.alloc (.cells [.int .i64 3, .string ⟨#[]⟩, .slice a2 1 1].toArray 51)) := Fr.alloc _ _ _ _
  obtain ⟨H8, l8, hH8, k8, x8⟩ := (Blk.new w2 51 [.int .i64 3, .string ⟨#[]⟩, .slice a2 1 1]).keep (hE.hs.frN fA) (fun o => hE.hs.off (Nat.le_refl _) o)
  have E8 : Ext _ H8 w2 (w2.alloc (.cells [.int .i64 3, .string ⟨#[]⟩, .slice a2 1 1].toArray 51)) := ⟨l8, hH8, fun k hk o => x8 k (by omega) o⟩
  have fin : ∀ ρ' : Env, (∀ r, r < 58 → r ≠ Z → ρ' r = ρ r) → ρ' Z = .pointer (some ⟨w2.heap.size, 0, none⟩) → k .normal ρ' (w2.alloc (.cells [.int .i64 3, .string ⟨#[]⟩, .slice a2 1 1].toArray 51)) := fun ρ' K eZ =>
    h ρ' _ H8 (((S.up (f3.no f2) hE).up fA E8).env (K 2 (by omega) (by omega)) (K 3 (by omega) (by omega)) (K 4 (by omega) (by omega)) (K 5 (by omega) (by omega))) (hE.le.trans l8) ⟨w2.heap.size, _, _, _, eZ, k8 0, k8 1, k8 2, ((((hTx.mono hE3.le).N sl3).mono hE2.le).N sl2).mono l8⟩ K
  exact fin _ (fun r h1 h2 => by simp only [upd_app, if_neg (show ¬ r = d0 by omega), if_neg (show ¬ r = d1 by omega), if_neg (show ¬ r = d2 by omega), if_neg h2]) (by simp only [upd_app, if_true])

-- spec.BuildProof
set_option maxHeartbeats 2000000 in
set_option maxRecDepth 20000 in
theorem R_v0 {H0 Hq : Heap} {w0 w : World} {gb rb : Nat} {ca : Option Addr} {n cc p : Nat} {ex : List ExO} {ρ : Env} {ls : List LT} {xs : List VdA} {k : Exit → Env → World → Prop} {id d0 e0 e1 e2 e3 e4 Y : Nat} {ty0 ty1 ty2 ty3 ty4 ty5 ty6 : TypeId} {ps0 ps1 ps2 ps3 ps4 ps5 ps6 : String} {af0 af1 af2 af3 af4 af5 af6 : Array Edge} { u : FT} (S : BM H0 Hq w0 w gb rb ca n cc p ex ρ ls xs) (hd : 58 ≤ d0 ∧ d0 < e0 ∧ e0 < e1 ∧ e1 < e2 ∧ e2 < e3 ∧ e3 < e4) (hY : Y < 58)  (TY : TV Hq (ρ Y) u) (hY0 : BF u) (hb : xs.length ≤ 1000000000)
    (h : ∀ ρ' w' H' x, BM H0 H' w0 w' gb rb ca n cc p ex ρ' ls (xs ++ [x]) → VdA.v x = ⟨true, 0, 0, [], u⟩ → (∀ r, r < 58 → r ≠ 5 → ρ' r = ρ r) → k .normal ρ' w') : VC Yaao.prog (.region id #[⟨some d0, .move (.tmp 5), ty0, ps0, af0, none⟩, ⟨some e0, .buildSlice 49 0 #[], ty1, ps1, af1, none⟩, ⟨some e1, .load 51 (.tmp Y), ty2, ps2, af2, none⟩, ⟨some e2, .call { callee := .value (.func 31), args := #[.tmp e0, .tmp e1], argTypes := #[49, 51] }, ty3, ps3, af3, none⟩, ⟨some e3, .buildSlice 23 1 #[(0, .tmp e2)], ty4, ps4, af4, none⟩, ⟨some e4, .call { callee := .builtin .append, args := #[.tmp d0, .tmp e3], argTypes := #[23, 23] }, ty5, ps5, af5, none⟩, ⟨some 5, .assign (.tmp e4), ty6, ps6, af6, none⟩] false) k ρ w := by
  have m0_1 : d0 ≠ e0 := by omega
  have m0_2 : d0 ≠ e1 := by omega
  have m0_3 : d0 ≠ e2 := by omega
  have m0_4 : d0 ≠ e3 := by omega
  have m0_5 : d0 ≠ e4 := by omega
  have mxY_0 : Y ≠ d0 := by omega
  have myY_0 : d0 ≠ Y := by omega
  have mx2_0 : 2 ≠ d0 := by omega
  have my2_0 : d0 ≠ 2 := by omega
  have mx3_0 : 3 ≠ d0 := by omega
  have my3_0 : d0 ≠ 3 := by omega
  have mx4_0 : 4 ≠ d0 := by omega
  have my4_0 : d0 ≠ 4 := by omega
  have mx5_0 : 5 ≠ d0 := by omega
  have my5_0 : d0 ≠ 5 := by omega
  have m1_0 : e0 ≠ d0 := by omega
  have m1_2 : e0 ≠ e1 := by omega
  have m1_3 : e0 ≠ e2 := by omega
  have m1_4 : e0 ≠ e3 := by omega
  have m1_5 : e0 ≠ e4 := by omega
  have mxY_1 : Y ≠ e0 := by omega
  have myY_1 : e0 ≠ Y := by omega
  have mx2_1 : 2 ≠ e0 := by omega
  have my2_1 : e0 ≠ 2 := by omega
  have mx3_1 : 3 ≠ e0 := by omega
  have my3_1 : e0 ≠ 3 := by omega
  have mx4_1 : 4 ≠ e0 := by omega
  have my4_1 : e0 ≠ 4 := by omega
  have mx5_1 : 5 ≠ e0 := by omega
  have my5_1 : e0 ≠ 5 := by omega
  have m2_0 : e1 ≠ d0 := by omega
  have m2_1 : e1 ≠ e0 := by omega
  have m2_3 : e1 ≠ e2 := by omega
  have m2_4 : e1 ≠ e3 := by omega
  have m2_5 : e1 ≠ e4 := by omega
  have mxY_2 : Y ≠ e1 := by omega
  have myY_2 : e1 ≠ Y := by omega
  have mx2_2 : 2 ≠ e1 := by omega
  have my2_2 : e1 ≠ 2 := by omega
  have mx3_2 : 3 ≠ e1 := by omega
  have my3_2 : e1 ≠ 3 := by omega
  have mx4_2 : 4 ≠ e1 := by omega
  have my4_2 : e1 ≠ 4 := by omega
  have mx5_2 : 5 ≠ e1 := by omega
  have my5_2 : e1 ≠ 5 := by omega
  have m3_0 : e2 ≠ d0 := by omega
  have m3_1 : e2 ≠ e0 := by omega
  have m3_2 : e2 ≠ e1 := by omega
  have m3_4 : e2 ≠ e3 := by omega
  have m3_5 : e2 ≠ e4 := by omega
  have mxY_3 : Y ≠ e2 := by omega
  have myY_3 : e2 ≠ Y := by omega
  have mx2_3 : 2 ≠ e2 := by omega
  have my2_3 : e2 ≠ 2 := by omega
  have mx3_3 : 3 ≠ e2 := by omega
  have my3_3 : e2 ≠ 3 := by omega
  have mx4_3 : 4 ≠ e2 := by omega
  have my4_3 : e2 ≠ 4 := by omega
  have mx5_3 : 5 ≠ e2 := by omega
  have my5_3 : e2 ≠ 5 := by omega
  have m4_0 : e3 ≠ d0 := by omega
  have m4_1 : e3 ≠ e0 := by omega
  have m4_2 : e3 ≠ e1 := by omega
  have m4_3 : e3 ≠ e2 := by omega
  have m4_5 : e3 ≠ e4 := by omega
  have mxY_4 : Y ≠ e3 := by omega
  have myY_4 : e3 ≠ Y := by omega
  have mx2_4 : 2 ≠ e3 := by omega
  have my2_4 : e3 ≠ 2 := by omega
  have mx3_4 : 3 ≠ e3 := by omega
  have my3_4 : e3 ≠ 3 := by omega
  have mx4_4 : 4 ≠ e3 := by omega
  have my4_4 : e3 ≠ 4 := by omega
  have mx5_4 : 5 ≠ e3 := by omega
  have my5_4 : e3 ≠ 5 := by omega
  have m5_0 : e4 ≠ d0 := by omega
  have m5_1 : e4 ≠ e0 := by omega
  have m5_2 : e4 ≠ e1 := by omega
  have m5_3 : e4 ≠ e2 := by omega
  have m5_4 : e4 ≠ e3 := by omega
  have mxY_5 : Y ≠ e4 := by omega
  have myY_5 : e4 ≠ Y := by omega
  have mx2_5 : 2 ≠ e4 := by omega
  have my2_5 : e4 ≠ 2 := by omega
  have mx3_5 : 3 ≠ e4 := by omega
  have my3_5 : e4 ≠ 3 := by omega
  have mx4_5 : 4 ≠ e4 := by omega
  have my4_5 : e4 ≠ 4 := by omega
  have mx5_5 : 5 ≠ e4 := by omega
  have my5_5 : e4 ≠ 5 := by omega
  obtain ⟨va, vc, v1, v2, v3⟩ := S.ov
  have hH := S.hs
  obtain ⟨bY, y0, y1, y2, eY, j0, j1, j2, hTy⟩ := TY.ex
  obtain ⟨oy0, oy1, oy2⟩ := hTy.one
  repeat' (first | refine W_seq (fun K hK => ?_) | refine W_block ?_ | refine W_skip ?_ | refine W_exit ?_ | refine W_ret ?_ | refine W_region ?_ | simp (disch := first | (simp only [undef, want_some, upd_app, List.getElem?_cons_succ, List.getElem?_cons_zero, Option.join_some, e_bt, e_bf, Nat.reduceEqDiff, ↓reduceIte, Bool.not_true, Bool.not_false, ne_eq, not_false_eq_true]; done) | ((with_reducible refine pkE ?_); with_unfolding_all rfl) | ((with_reducible refine cszE ?_); with_unfolding_all rfl) | ((with_reducible refine isQE ?_); with_unfolding_all rfl) | assumption | omega) only [List.map_cons, List.map_nil, List.map_toArray, Nat.reduceEqDiff, b_exit, b_exitN, b_normal, b_ret, c_agg, c_bool, c_int, c_sl, c_str, e23, e49, e_bs0 _ _ k23 ie23 ze23 se23, e_bs0 _ _ k49 ie49 ze49 se49, e_bs1 _ _ k23 ie23 ze23 se23 (by decide), e_bs1 _ _ k49 ie49 ze49 se49 (by decide), ev_const, ev_tmp, fo_assign, fo_load, fo_move, init1, init2a, init2b, init3a, init3b, init3c, o_append, o_buildSlice, o_call _ _ _ _ _ _ _ c31, put_some, r_enter, r_value, s_nil, s_none, t_exit, t_normal, t_ret, upd_app, ↓reduceIte, eY, v1, j0, j1, j2, m0_1, m0_2, m0_3, m0_4, m0_5, mxY_0, myY_0, mx2_0, my2_0, mx3_0, my3_0, mx4_0, my4_0, mx5_0, my5_0, m1_0, m1_2, m1_3, m1_4, m1_5, mxY_1, myY_1, mx2_1, my2_1, mx3_1, my3_1, mx4_1, my4_1, mx5_1, my5_1, m2_0, m2_1, m2_3, m2_4, m2_5, mxY_2, myY_2, mx2_2, my2_2, mx3_2, my3_2, mx4_2, my4_2, mx5_2, my5_2, m3_0, m3_1, m3_2, m3_4, m3_5, mxY_3, myY_3, mx2_3, my2_3, mx3_3, my3_3, mx4_3, my4_3, mx5_3, my5_3, m4_0, m4_1, m4_2, m4_3, m4_5, mxY_4, myY_4, mx2_4, my2_4, mx3_4, my3_4, mx4_4, my4_4, mx5_4, my5_4, m5_0, m5_1, m5_2, m5_3, m5_4, mxY_5, myY_5, mx2_5, my2_5, mx3_5, my3_5, mx4_5, my4_5, mx5_5, my5_5, Nat.zero_add, e_ldaH k51 i51 s51 (hH.frN (Fr.alloc noB _ _ _)), List.map_cons, List.map_nil, cells1, cells2, cells3, cells4, cells5, d_loud, d_nil, d_quiet, d_someF, d_someT, e_ldaH k51 i51 s51 hH, l_enter, l_skip, l_val, q_lda k51 i51 s51 hH, q_val hH] | refine okVerdict_okA (us := []) hH TsL.nil (fun t ht => by cases ht) (by simp) hY0 y0 y1 y2 hTy _ (fun w2 H2 x2 hE2 f2 hv2 hd2 hn2 => ?_) | refine V_app k23 e23 ze23 rfl se23 be23 (v2.frN f2) rfl (by simp [oneC, VdA.enc, FmA.cell]) (by unfold maxLen; omega) (by omega) (fun a9 d9 w9 ho9 hf9 hn9 => ?_) | refine W_drawH hH (by kernel_rfl) (by kernel_rfl) (fun w1 hw1 hH => ?_) | (refine D_split rfl rfl (fun hc => ?_) (fun hc => ?_) <;> (try simp only [decide_eq_true_eq, decide_eq_false_iff_not, Bool.not_eq_true', Bool.not_eq_false', Int.not_lt, Int.not_le, Decidable.not_not] at hc) <;> (try contradiction) <;> (try (exfalso; omega))) | (refine W_cond rfl (fun hc => ?_) (fun hc => ?_) <;> (try simp only [decide_eq_true_eq, decide_eq_false_iff_not, Bool.not_eq_true', Bool.not_eq_false', Int.not_lt, Int.not_le, Decidable.not_not] at hc) <;> (try contradiction) <;> (try (exfalso; omega))) | (refine G_split rfl rfl (fun hc => ?_) (fun hc => ?_) <;> (try simp only [decide_eq_true_eq, decide_eq_false_iff_not, Bool.not_eq_true', Bool.not_eq_false', Int.not_lt, Int.not_le, Decidable.not_not] at hc) <;> (try contradiction) <;> (try (exfalso; omega))) | (with_reducible (refine hK _ _ ?_); clear hK K) | go_step)
  have S2 := S.up f2 hE2
  have fin : ∀ ρ' : Env, (∀ r, r < 58 → r ≠ 5 → ρ' r = ρ r) → ρ' 5 = .slice a9 (xs.length + 1) d9 → k .normal ρ' w9 := fun ρ' K e5 => h ρ' _ H2 x2 (S2.setV (xs' := xs ++ [x2]) v1 hf9 (by rw [encVs_snoc, List.length_append]; exact ho9) hn9 (fun y hy => by
    rcases List.mem_append.1 hy with hy | hy
    · exact S2.vd y hy
    · rw [List.mem_singleton] at hy; subst hy; exact ⟨hd2, hn2⟩) (K 2 (by omega) (by omega)) (K 3 (by omega) (by omega)) (K 4 (by omega) (by omega)) (by rw [e5, List.length_append]; rfl)) hv2 K
  exact fin _ (fun r h1 h2 => by simp only [upd_app, if_neg (show ¬ r = d0 by omega), if_neg (show ¬ r = e0 by omega), if_neg (show ¬ r = e1 by omega), if_neg (show ¬ r = e2 by omega), if_neg (show ¬ r = e3 by omega), if_neg (show ¬ r = e4 by omega), if_neg h2]) (by simp only [upd_app, if_true])

-- spec.BuildProof
set_option maxHeartbeats 2000000 in
set_option maxRecDepth 20000 in
theorem R_v1 {H0 Hq : Heap} {w0 w : World} {gb rb : Nat} {ca : Option Addr} {n cc p : Nat} {ex : List ExO} {ρ : Env} {ls : List LT} {xs : List VdA} {k : Exit → Env → World → Prop} {id d0 d1 e0 e1 e2 e3 e4 XA Y : Nat} {ty0 ty1 ty2 ty3 ty4 ty5 ty6 ty7 : TypeId} {ps0 ps1 ps2 ps3 ps4 ps5 ps6 ps7 : String} {af0 af1 af2 af3 af4 af5 af6 af7 : Array Edge} {tXA u : FT} (S : BM H0 Hq w0 w gb rb ca n cc p ex ρ ls xs) (hd : 58 ≤ d0 ∧ d0 < d1 ∧ d1 < e0 ∧ e0 < e1 ∧ e1 < e2 ∧ e2 < e3 ∧ e3 < e4) (hXA : XA < 58) (hY : Y < 58) (TXA : TV Hq (ρ XA) tXA) (hXA0 : BF tXA) (TY : TV Hq (ρ Y) u) (hY0 : BF u) (hb : xs.length ≤ 1000000000)
    (h : ∀ ρ' w' H' x, BM H0 H' w0 w' gb rb ca n cc p ex ρ' ls (xs ++ [x]) → VdA.v x = ⟨true, 0, 0, [tXA], u⟩ → (∀ r, r < 58 → r ≠ 5 → ρ' r = ρ r) → k .normal ρ' w') : VC Yaao.prog (.region id #[⟨some d0, .move (.tmp 5), ty0, ps0, af0, none⟩, ⟨some d1, .load 51 (.tmp XA), ty1, ps1, af1, none⟩, ⟨some e0, .buildSlice 49 1 #[(0, .tmp d1)], ty2, ps2, af2, none⟩, ⟨some e1, .load 51 (.tmp Y), ty3, ps3, af3, none⟩, ⟨some e2, .call { callee := .value (.func 31), args := #[.tmp e0, .tmp e1], argTypes := #[49, 51] }, ty4, ps4, af4, none⟩, ⟨some e3, .buildSlice 23 1 #[(0, .tmp e2)], ty5, ps5, af5, none⟩, ⟨some e4, .call { callee := .builtin .append, args := #[.tmp d0, .tmp e3], argTypes := #[23, 23] }, ty6, ps6, af6, none⟩, ⟨some 5, .assign (.tmp e4), ty7, ps7, af7, none⟩] false) k ρ w := by
  have m0_1 : d0 ≠ d1 := by omega
  have m0_2 : d0 ≠ e0 := by omega
  have m0_3 : d0 ≠ e1 := by omega
  have m0_4 : d0 ≠ e2 := by omega
  have m0_5 : d0 ≠ e3 := by omega
  have m0_6 : d0 ≠ e4 := by omega
  have mxXA_0 : XA ≠ d0 := by omega
  have myXA_0 : d0 ≠ XA := by omega
  have mxY_0 : Y ≠ d0 := by omega
  have myY_0 : d0 ≠ Y := by omega
  have mx2_0 : 2 ≠ d0 := by omega
  have my2_0 : d0 ≠ 2 := by omega
  have mx3_0 : 3 ≠ d0 := by omega
  have my3_0 : d0 ≠ 3 := by omega
  have mx4_0 : 4 ≠ d0 := by omega
  have my4_0 : d0 ≠ 4 := by omega
  have mx5_0 : 5 ≠ d0 := by omega
  have my5_0 : d0 ≠ 5 := by omega
  have m1_0 : d1 ≠ d0 := by omega
  have m1_2 : d1 ≠ e0 := by omega
  have m1_3 : d1 ≠ e1 := by omega
  have m1_4 : d1 ≠ e2 := by omega
  have m1_5 : d1 ≠ e3 := by omega
  have m1_6 : d1 ≠ e4 := by omega
  have mxXA_1 : XA ≠ d1 := by omega
  have myXA_1 : d1 ≠ XA := by omega
  have mxY_1 : Y ≠ d1 := by omega
  have myY_1 : d1 ≠ Y := by omega
  have mx2_1 : 2 ≠ d1 := by omega
  have my2_1 : d1 ≠ 2 := by omega
  have mx3_1 : 3 ≠ d1 := by omega
  have my3_1 : d1 ≠ 3 := by omega
  have mx4_1 : 4 ≠ d1 := by omega
  have my4_1 : d1 ≠ 4 := by omega
  have mx5_1 : 5 ≠ d1 := by omega
  have my5_1 : d1 ≠ 5 := by omega
  have m2_0 : e0 ≠ d0 := by omega
  have m2_1 : e0 ≠ d1 := by omega
  have m2_3 : e0 ≠ e1 := by omega
  have m2_4 : e0 ≠ e2 := by omega
  have m2_5 : e0 ≠ e3 := by omega
  have m2_6 : e0 ≠ e4 := by omega
  have mxXA_2 : XA ≠ e0 := by omega
  have myXA_2 : e0 ≠ XA := by omega
  have mxY_2 : Y ≠ e0 := by omega
  have myY_2 : e0 ≠ Y := by omega
  have mx2_2 : 2 ≠ e0 := by omega
  have my2_2 : e0 ≠ 2 := by omega
  have mx3_2 : 3 ≠ e0 := by omega
  have my3_2 : e0 ≠ 3 := by omega
  have mx4_2 : 4 ≠ e0 := by omega
  have my4_2 : e0 ≠ 4 := by omega
  have mx5_2 : 5 ≠ e0 := by omega
  have my5_2 : e0 ≠ 5 := by omega
  have m3_0 : e1 ≠ d0 := by omega
  have m3_1 : e1 ≠ d1 := by omega
  have m3_2 : e1 ≠ e0 := by omega
  have m3_4 : e1 ≠ e2 := by omega
  have m3_5 : e1 ≠ e3 := by omega
  have m3_6 : e1 ≠ e4 := by omega
  have mxXA_3 : XA ≠ e1 := by omega
  have myXA_3 : e1 ≠ XA := by omega
  have mxY_3 : Y ≠ e1 := by omega
  have myY_3 : e1 ≠ Y := by omega
  have mx2_3 : 2 ≠ e1 := by omega
  have my2_3 : e1 ≠ 2 := by omega
  have mx3_3 : 3 ≠ e1 := by omega
  have my3_3 : e1 ≠ 3 := by omega
  have mx4_3 : 4 ≠ e1 := by omega
  have my4_3 : e1 ≠ 4 := by omega
  have mx5_3 : 5 ≠ e1 := by omega
  have my5_3 : e1 ≠ 5 := by omega
  have m4_0 : e2 ≠ d0 := by omega
  have m4_1 : e2 ≠ d1 := by omega
  have m4_2 : e2 ≠ e0 := by omega
  have m4_3 : e2 ≠ e1 := by omega
  have m4_5 : e2 ≠ e3 := by omega
  have m4_6 : e2 ≠ e4 := by omega
  have mxXA_4 : XA ≠ e2 := by omega
  have myXA_4 : e2 ≠ XA := by omega
  have mxY_4 : Y ≠ e2 := by omega
  have myY_4 : e2 ≠ Y := by omega
  have mx2_4 : 2 ≠ e2 := by omega
  have my2_4 : e2 ≠ 2 := by omega
  have mx3_4 : 3 ≠ e2 := by omega
  have my3_4 : e2 ≠ 3 := by omega
  have mx4_4 : 4 ≠ e2 := by omega
  have my4_4 : e2 ≠ 4 := by omega
  have mx5_4 : 5 ≠ e2 := by omega
  have my5_4 : e2 ≠ 5 := by omega
  have m5_0 : e3 ≠ d0 := by omega
  have m5_1 : e3 ≠ d1 := by omega
  have m5_2 : e3 ≠ e0 := by omega
  have m5_3 : e3 ≠ e1 := by omega
  have m5_4 : e3 ≠ e2 := by omega
  have m5_6 : e3 ≠ e4 := by omega
  have mxXA_5 : XA ≠ e3 := by omega
  have myXA_5 : e3 ≠ XA := by omega
  have mxY_5 : Y ≠ e3 := by omega
  have myY_5 : e3 ≠ Y := by omega
  have mx2_5 : 2 ≠ e3 := by omega
  have my2_5 : e3 ≠ 2 := by omega
  have mx3_5 : 3 ≠ e3 := by omega
  have my3_5 : e3 ≠ 3 := by omega
  have mx4_5 : 4 ≠ e3 := by omega
  have my4_5 : e3 ≠ 4 := by omega
  have mx5_5 : 5 ≠ e3 := by omega
  have my5_5 : e3 ≠ 5 := by omega
  have m6_0 : e4 ≠ d0 := by omega
  have m6_1 : e4 ≠ d1 := by omega
  have m6_2 : e4 ≠ e0 := by omega
  have m6_3 : e4 ≠ e1 := by omega
  have m6_4 : e4 ≠ e2 := by omega
  have m6_5 : e4 ≠ e3 := by omega
  have mxXA_6 : XA ≠ e4 := by omega
  have myXA_6 : e4 ≠ XA := by omega
  have mxY_6 : Y ≠ e4 := by omega
  have myY_6 : e4 ≠ Y := by omega
  have mx2_6 : 2 ≠ e4 := by omega
  have my2_6 : e4 ≠ 2 := by omega
  have mx3_6 : 3 ≠ e4 := by omega
  have my3_6 : e4 ≠ 3 := by omega
  have mx4_6 : 4 ≠ e4 := by omega
  have my4_6 : e4 ≠ 4 := by omega
  have mx5_6 : 5 ≠ e4 := by omega
  have my5_6 : e4 ≠ 5 := by omega
  obtain ⟨va, vc, v1, v2, v3⟩ := S.ov
  have hH := S.hs
  obtain ⟨bXA, aXA0, aXA1, aXA2, eqXA, gXA0, gXA1, gXA2, hTXA⟩ := TXA.ex
  obtain ⟨oXA0, oXA1, oXA2⟩ := hTXA.one
  obtain ⟨bY, y0, y1, y2, eY, j0, j1, j2, hTy⟩ := TY.ex
  obtain ⟨oy0, oy1, oy2⟩ := hTy.one
  repeat' (first | refine W_seq (fun K hK => ?_) | refine W_block ?_ | refine W_skip ?_ | refine W_exit ?_ | refine W_ret ?_ | refine W_region ?_ | simp (disch := first | (simp only [undef, want_some, upd_app, List.getElem?_cons_succ, List.getElem?_cons_zero, Option.join_some, e_bt, e_bf, Nat.reduceEqDiff, ↓reduceIte, Bool.not_true, Bool.not_false, ne_eq, not_false_eq_true]; done) | ((with_reducible refine pkE ?_); with_unfolding_all rfl) | ((with_reducible refine cszE ?_); with_unfolding_all rfl) | ((with_reducible refine isQE ?_); with_unfolding_all rfl) | assumption | omega) only [List.map_cons, List.map_nil, List.map_toArray, Nat.reduceEqDiff, b_exit, b_exitN, b_normal, b_ret, c_agg, c_bool, c_int, c_sl, c_str, e23, e49, e_bs0 _ _ k23 ie23 ze23 se23, e_bs0 _ _ k49 ie49 ze49 se49, e_bs1 _ _ k23 ie23 ze23 se23 (by decide), e_bs1 _ _ k49 ie49 ze49 se49 (by decide), ev_const, ev_tmp, fo_assign, fo_load, fo_move, init1, init2a, init2b, init3a, init3b, init3c, o_append, o_buildSlice, o_call _ _ _ _ _ _ _ c31, put_some, r_enter, r_value, s_nil, s_none, t_exit, t_normal, t_ret, upd_app, ↓reduceIte, eqXA, gXA0, gXA1, gXA2, eY, v1, j0, j1, j2, m0_1, m0_2, m0_3, m0_4, m0_5, m0_6, mxXA_0, myXA_0, mxY_0, myY_0, mx2_0, my2_0, mx3_0, my3_0, mx4_0, my4_0, mx5_0, my5_0, m1_0, m1_2, m1_3, m1_4, m1_5, m1_6, mxXA_1, myXA_1, mxY_1, myY_1, mx2_1, my2_1, mx3_1, my3_1, mx4_1, my4_1, mx5_1, my5_1, m2_0, m2_1, m2_3, m2_4, m2_5, m2_6, mxXA_2, myXA_2, mxY_2, myY_2, mx2_2, my2_2, mx3_2, my3_2, mx4_2, my4_2, mx5_2, my5_2, m3_0, m3_1, m3_2, m3_4, m3_5, m3_6, mxXA_3, myXA_3, mxY_3, myY_3, mx2_3, my2_3, mx3_3, my3_3, mx4_3, my4_3, mx5_3, my5_3, m4_0, m4_1, m4_2, m4_3, m4_5, m4_6, mxXA_4, myXA_4, mxY_4, myY_4, mx2_4, my2_4, mx3_4, my3_4, mx4_4, my4_4, mx5_4, my5_4, m5_0, m5_1, m5_2, m5_3, m5_4, m5_6, mxXA_5, myXA_5, mxY_5, myY_5, mx2_5, my2_5, mx3_5, my3_5, mx4_5, my4_5, mx5_5, my5_5, m6_0, m6_1, m6_2, m6_3, m6_4, m6_5, mxXA_6, myXA_6, mxY_6, myY_6, mx2_6, my2_6, mx3_6, my3_6, mx4_6, my4_6, mx5_6, my5_6, Nat.zero_add, e_ldaH k51 i51 s51 (hH.frN (Fr.alloc noB _ _ _)), List.map_cons, List.map_nil, cells1, cells2, cells3, cells4, cells5, d_loud, d_nil, d_quiet, d_someF, d_someT, e_ldaH k51 i51 s51 hH, l_enter, l_skip, l_val, q_lda k51 i51 s51 hH, q_val hH] | refine okVerdict_okA (us := [(aXA0, aXA1, aXA2)]) hH (TsL.cons hTXA TsL.nil) (by intro t ht; simp at ht; subst ht; assumption) (by simp) hY0 y0 y1 y2 hTy _ (fun w2 H2 x2 hE2 f2 hv2 hd2 hn2 => ?_) | refine V_app k23 e23 ze23 rfl se23 be23 (v2.frN f2) rfl (by simp [oneC, VdA.enc, FmA.cell]) (by unfold maxLen; omega) (by omega) (fun a9 d9 w9 ho9 hf9 hn9 => ?_) | refine W_drawH hH (by kernel_rfl) (by kernel_rfl) (fun w1 hw1 hH => ?_) | (refine D_split rfl rfl (fun hc => ?_) (fun hc => ?_) <;> (try simp only [decide_eq_true_eq, decide_eq_false_iff_not, Bool.not_eq_true', Bool.not_eq_false', Int.not_lt, Int.not_le, Decidable.not_not] at hc) <;> (try contradiction) <;> (try (exfalso; omega))) | (refine W_cond rfl (fun hc => ?_) (fun hc => ?_) <;> (try simp only [decide_eq_true_eq, decide_eq_false_iff_not, Bool.not_eq_true', Bool.not_eq_false', Int.not_lt, Int.not_le, Decidable.not_not] at hc) <;> (try contradiction) <;> (try (exfalso; omega))) | (refine G_split rfl rfl (fun hc => ?_) (fun hc => ?_) <;> (try simp only [decide_eq_true_eq, decide_eq_false_iff_not, Bool.not_eq_true', Bool.not_eq_false', Int.not_lt, Int.not_le, Decidable.not_not] at hc) <;> (try contradiction) <;> (try (exfalso; omega))) | (with_reducible (refine hK _ _ ?_); clear hK K) | go_step)
  have S2 := S.up f2 hE2
  have fin : ∀ ρ' : Env, (∀ r, r < 58 → r ≠ 5 → ρ' r = ρ r) → ρ' 5 = .slice a9 (xs.length + 1) d9 → k .normal ρ' w9 := fun ρ' K e5 => h ρ' _ H2 x2 (S2.setV (xs' := xs ++ [x2]) v1 hf9 (by rw [encVs_snoc, List.length_append]; exact ho9) hn9 (fun y hy => by
    rcases List.mem_append.1 hy with hy | hy
    · exact S2.vd y hy
    · rw [List.mem_singleton] at hy; subst hy; exact ⟨hd2, hn2⟩) (K 2 (by omega) (by omega)) (K 3 (by omega) (by omega)) (K 4 (by omega) (by omega)) (by rw [e5, List.length_append]; rfl)) hv2 K
  exact fin _ (fun r h1 h2 => by simp only [upd_app, if_neg (show ¬ r = d0 by omega), if_neg (show ¬ r = d1 by omega), if_neg (show ¬ r = e0 by omega), if_neg (show ¬ r = e1 by omega), if_neg (show ¬ r = e2 by omega), if_neg (show ¬ r = e3 by omega), if_neg (show ¬ r = e4 by omega), if_neg h2]) (by simp only [upd_app, if_true])

-- spec.BuildProof
set_option maxHeartbeats 2000000 in
set_option maxRecDepth 20000 in
theorem R_v2 {H0 Hq : Heap} {w0 w : World} {gb rb : Nat} {ca : Option Addr} {n cc p : Nat} {ex : List ExO} {ρ : Env} {ls : List LT} {xs : List VdA} {k : Exit → Env → World → Prop} {id d0 d1 d2 e0 e1 e2 e3 e4 XA XB Y : Nat} {ty0 ty1 ty2 ty3 ty4 ty5 ty6 ty7 ty8 : TypeId} {ps0 ps1 ps2 ps3 ps4 ps5 ps6 ps7 ps8 : String} {af0 af1 af2 af3 af4 af5 af6 af7 af8 : Array Edge} {tXA tXB u : FT} (S : BM H0 Hq w0 w gb rb ca n cc p ex ρ ls xs) (hd : 58 ≤ d0 ∧ d0 < d1 ∧ d1 < d2 ∧ d2 < e0 ∧ e0 < e1 ∧ e1 < e2 ∧ e2 < e3 ∧ e3 < e4) (hXA : XA < 58) (hXB : XB < 58) (hY : Y < 58) (TXA : TV Hq (ρ XA) tXA) (hXA0 : BF tXA) (TXB : TV Hq (ρ XB) tXB) (hXB0 : BF tXB) (TY : TV Hq (ρ Y) u) (hY0 : BF u) (hb : xs.length ≤ 1000000000)
    (h : ∀ ρ' w' H' x, BM H0 H' w0 w' gb rb ca n cc p ex ρ' ls (xs ++ [x]) → VdA.v x = ⟨true, 0, 0, [tXA, tXB], u⟩ → (∀ r, r < 58 → r ≠ 5 → ρ' r = ρ r) → k .normal ρ' w') : VC Yaao.prog (.region id #[⟨some d0, .move (.tmp 5), ty0, ps0, af0, none⟩, ⟨some d1, .load 51 (.tmp XA), ty1, ps1, af1, none⟩, ⟨some d2, .load 51 (.tmp XB), ty2, ps2, af2, none⟩, ⟨some e0, .buildSlice 49 2 #[(0, .tmp d1), (1, .tmp d2)], ty3, ps3, af3, none⟩, ⟨some e1, .load 51 (.tmp Y), ty4, ps4, af4, none⟩, ⟨some e2, .call { callee := .value (.func 31), args := #[.tmp e0, .tmp e1], argTypes := #[49, 51] }, ty5, ps5, af5, none⟩, ⟨some e3, .buildSlice 23 1 #[(0, .tmp e2)], ty6, ps6, af6, none⟩, ⟨some e4, .call { callee := .builtin .append, args := #[.tmp d0, .tmp e3], argTypes := #[23, 23] }, ty7, ps7, af7, none⟩, ⟨some 5, .assign (.tmp e4), ty8, ps8, af8, none⟩] false) k ρ w := by
  have m0_1 : d0 ≠ d1 := by omega
  have m0_2 : d0 ≠ d2 := by omega
  have m0_3 : d0 ≠ e0 := by omega
  have m0_4 : d0 ≠ e1 := by omega
  have m0_5 : d0 ≠ e2 := by omega
  have m0_6 : d0 ≠ e3 := by omega
  have m0_7 : d0 ≠ e4 := by omega
  have mxXA_0 : XA ≠ d0 := by omega
  have myXA_0 : d0 ≠ XA := by omega
  have mxXB_0 : XB ≠ d0 := by omega
  have myXB_0 : d0 ≠ XB := by omega
  have mxY_0 : Y ≠ d0 := by omega
  have myY_0 : d0 ≠ Y := by omega
  have mx2_0 : 2 ≠ d0 := by omega
  have my2_0 : d0 ≠ 2 := by omega
  have mx3_0 : 3 ≠ d0 := by omega
  have my3_0 : d0 ≠ 3 := by omega
  have mx4_0 : 4 ≠ d0 := by omega
  have my4_0 : d0 ≠ 4 := by omega
  have mx5_0 : 5 ≠ d0 := by omega
  have my5_0 : d0 ≠ 5 := by omega
  have m1_0 : d1 ≠ d0 := by omega
  have m1_2 : d1 ≠ d2 := by omega
  have m1_3 : d1 ≠ e0 := by omega
  have m1_4 : d1 ≠ e1 := by omega
  have m1_5 : d1 ≠ e2 := by omega
  have m1_6 : d1 ≠ e3 := by omega
  have m1_7 : d1 ≠ e4 := by omega
  have mxXA_1 : XA ≠ d1 := by omega
  have myXA_1 : d1 ≠ XA := by omega
  have mxXB_1 : XB ≠ d1 := by omega
  have myXB_1 : d1 ≠ XB := by omega
  have mxY_1 : Y ≠ d1 := by omega
  have myY_1 : d1 ≠ Y := by omega
  have mx2_1 : 2 ≠ d1 := by omega
  have my2_1 : d1 ≠ 2 := by omega
  have mx3_1 : 3 ≠ d1 := by omega
  have my3_1 : d1 ≠ 3 := by omega
  have mx4_1 : 4 ≠ d1 := by omega
  have my4_1 : d1 ≠ 4 := by omega
  have mx5_1 : 5 ≠ d1 := by omega
  have my5_1 : d1 ≠ 5 := by omega
  have m2_0 : d2 ≠ d0 := by omega
  have m2_1 : d2 ≠ d1 := by omega
  have m2_3 : d2 ≠ e0 := by omega
  have m2_4 : d2 ≠ e1 := by omega
  have m2_5 : d2 ≠ e2 := by omega
  have m2_6 : d2 ≠ e3 := by omega
  have m2_7 : d2 ≠ e4 := by omega
  have mxXA_2 : XA ≠ d2 := by omega
  have myXA_2 : d2 ≠ XA := by omega
  have mxXB_2 : XB ≠ d2 := by omega
  have myXB_2 : d2 ≠ XB := by omega
  have mxY_2 : Y ≠ d2 := by omega
  have myY_2 : d2 ≠ Y := by omega
  have mx2_2 : 2 ≠ d2 := by omega
  have my2_2 : d2 ≠ 2 := by omega
  have mx3_2 : 3 ≠ d2 := by omega
  have my3_2 : d2 ≠ 3 := by omega
  have mx4_2 : 4 ≠ d2 := by omega
  have my4_2 : d2 ≠ 4 := by omega
  have mx5_2 : 5 ≠ d2 := by omega
  have my5_2 : d2 ≠ 5 := by omega
  have m3_0 : e0 ≠ d0 := by omega
  have m3_1 : e0 ≠ d1 := by omega
  have m3_2 : e0 ≠ d2 := by omega
  have m3_4 : e0 ≠ e1 := by omega
  have m3_5 : e0 ≠ e2 := by omega
  have m3_6 : e0 ≠ e3 := by omega
  have m3_7 : e0 ≠ e4 := by omega
  have mxXA_3 : XA ≠ e0 := by omega
  have myXA_3 : e0 ≠ XA := by omega
  have mxXB_3 : XB ≠ e0 := by omega
  have myXB_3 : e0 ≠ XB := by omega
  have mxY_3 : Y ≠ e0 := by omega
  have myY_3 : e0 ≠ Y := by omega
  have mx2_3 : 2 ≠ e0 := by omega
  have my2_3 : e0 ≠ 2 := by omega
  have mx3_3 : 3 ≠ e0 := by omega
  have my3_3 : e0 ≠ 3 := by omega
  have mx4_3 : 4 ≠ e0 := by omega
  have my4_3 : e0 ≠ 4 := by omega
  have mx5_3 : 5 ≠ e0 := by omega
  have my5_3 : e0 ≠ 5 := by omega
  have m4_0 : e1 ≠ d0 := by omega
  have m4_1 : e1 ≠ d1 := by omega
  have m4_2 : e1 ≠ d2 := by omega
  have m4_3 : e1 ≠ e0 := by omega
  have m4_5 : e1 ≠ e2 := by omega
  have m4_6 : e1 ≠ e3 := by omega
  have m4_7 : e1 ≠ e4 := by omega
  have mxXA_4 : XA ≠ e1 := by omega
  have myXA_4 : e1 ≠ XA := by omega
  have mxXB_4 : XB ≠ e1 := by omega
  have myXB_4 : e1 ≠ XB := by omega
  have mxY_4 : Y ≠ e1 := by omega
  have myY_4 : e1 ≠ Y := by omega
  have mx2_4 : 2 ≠ e1 := by omega
  have my2_4 : e1 ≠ 2 := by omega
  have mx3_4 : 3 ≠ e1 := by omega
  have my3_4 : e1 ≠ 3 := by omega
  have mx4_4 : 4 ≠ e1 := by omega
  have my4_4 : e1 ≠ 4 := by omega
  have mx5_4 : 5 ≠ e1 := by omega
  have my5_4 : e1 ≠ 5 := by omega
  have m5_0 : e2 ≠ d0 := by omega
  have m5_1 : e2 ≠ d1 := by omega
  have m5_2 : e2 ≠ d2 := by omega
  have m5_3 : e2 ≠ e0 := by omega
  have m5_4 : e2 ≠ e1 := by omega
  have m5_6 : e2 ≠ e3 := by omega
  have m5_7 : e2 ≠ e4 := by omega
  have mxXA_5 : XA ≠ e2 := by omega
  have myXA_5 : e2 ≠ XA := by omega
  have mxXB_5 : XB ≠ e2 := by omega
  have myXB_5 : e2 ≠ XB := by omega
  have mxY_5 : Y ≠ e2 := by omega
  have myY_5 : e2 ≠ Y := by omega
  have mx2_5 : 2 ≠ e2 := by omega
  have my2_5 : e2 ≠ 2 := by omega
  have mx3_5 : 3 ≠ e2 := by omega
  have my3_5 : e2 ≠ 3 := by omega
  have mx4_5 : 4 ≠ e2 := by omega
  have my4_5 : e2 ≠ 4 := by omega
  have mx5_5 : 5 ≠ e2 := by omega
  have my5_5 : e2 ≠ 5 := by omega
  have m6_0 : e3 ≠ d0 := by omega
  have m6_1 : e3 ≠ d1 := by omega
  have m6_2 : e3 ≠ d2 := by omega
  have m6_3 : e3 ≠ e0 := by omega
  have m6_4 : e3 ≠ e1 := by omega
  have m6_5 : e3 ≠ e2 := by omega
  have m6_7 : e3 ≠ e4 := by omega
  have mxXA_6 : XA ≠ e3 := by omega
  have myXA_6 : e3 ≠ XA := by omega
  have mxXB_6 : XB ≠ e3 := by omega
  have myXB_6 : e3 ≠ XB := by omega
  have mxY_6 : Y ≠ e3 := by omega
  have myY_6 : e3 ≠ Y := by omega
  have mx2_6 : 2 ≠ e3 := by omega
  have my2_6 : e3 ≠ 2 := by omega
  have mx3_6 : 3 ≠ e3 := by omega
  have my3_6 : e3 ≠ 3 := by omega
  have mx4_6 : 4 ≠ e3 := by omega
  have my4_6 : e3 ≠ 4 := by omega
  have mx5_6 : 5 ≠ e3 := by omega
  have my5_6 : e3 ≠ 5 := by omega
  have m7_0 : e4 ≠ d0 := by omega
  have m7_1 : e4 ≠ d1 := by omega
  have m7_2 : e4 ≠ d2 := by omega
  have m7_3 : e4 ≠ e0 := by omega
  have m7_4 : e4 ≠ e1 := by omega
  have m7_5 : e4 ≠ e2 := by omega
  have m7_6 : e4 ≠ e3 := by omega
  have mxXA_7 : XA ≠ e4 := by omega
  have myXA_7 : e4 ≠ XA := by omega
  have mxXB_7 : XB ≠ e4 := by omega
  have myXB_7 : e4 ≠ XB := by omega
  have mxY_7 : Y ≠ e4 := by omega
  have myY_7 : e4 ≠ Y := by omega
  have mx2_7 : 2 ≠ e4 := by omega
  have my2_7 : e4 ≠ 2 := by omega
  have mx3_7 : 3 ≠ e4 := by omega
  have my3_7 : e4 ≠ 3 := by omega
  have mx4_7 : 4 ≠ e4 := by omega
  have my4_7 : e4 ≠ 4 := by omega
  have mx5_7 : 5 ≠ e4 := by omega
  have my5_7 : e4 ≠ 5 := by omega
  obtain ⟨va, vc, v1, v2, v3⟩ := S.ov
  have hH := S.hs
  obtain ⟨bXA, aXA0, aXA1, aXA2, eqXA, gXA0, gXA1, gXA2, hTXA⟩ := TXA.ex
  obtain ⟨oXA0, oXA1, oXA2⟩ := hTXA.one
  obtain ⟨bXB, aXB0, aXB1, aXB2, eqXB, gXB0, gXB1, gXB2, hTXB⟩ := TXB.ex
  obtain ⟨oXB0, oXB1, oXB2⟩ := hTXB.one
  obtain ⟨bY, y0, y1, y2, eY, j0, j1, j2, hTy⟩ := TY.ex
  obtain ⟨oy0, oy1, oy2⟩ := hTy.one
  repeat' (first | refine W_seq (fun K hK => ?_) | refine W_block ?_ | refine W_skip ?_ | refine W_exit ?_ | refine W_ret ?_ | refine W_region ?_ | simp (disch := first | (simp only [undef, want_some, upd_app, List.getElem?_cons_succ, List.getElem?_cons_zero, Option.join_some, e_bt, e_bf, Nat.reduceEqDiff, ↓reduceIte, Bool.not_true, Bool.not_false, ne_eq, not_false_eq_true]; done) | ((with_reducible refine pkE ?_); with_unfolding_all rfl) | ((with_reducible refine cszE ?_); with_unfolding_all rfl) | ((with_reducible refine isQE ?_); with_unfolding_all rfl) | assumption | omega) only [List.map_cons, List.map_nil, List.map_toArray, Nat.reduceEqDiff, b_exit, b_exitN, b_normal, b_ret, c_agg, c_bool, c_int, c_sl, c_str, e23, e49, e_bs0 _ _ k23 ie23 ze23 se23, e_bs0 _ _ k49 ie49 ze49 se49, e_bs1 _ _ k23 ie23 ze23 se23 (by decide), e_bs1 _ _ k49 ie49 ze49 se49 (by decide), e_bs2 _ _ k49 ie49 ze49 se49 (by decide), ev_const, ev_tmp, fo_assign, fo_load, fo_move, init1, init2a, init2b, init3a, init3b, init3c, o_append, o_buildSlice, o_call _ _ _ _ _ _ _ c31, put_some, r_enter, r_value, s_nil, s_none, t_exit, t_normal, t_ret, upd_app, ↓reduceIte, eqXA, gXA0, gXA1, gXA2, eqXB, gXB0, gXB1, gXB2, eY, v1, j0, j1, j2, m0_1, m0_2, m0_3, m0_4, m0_5, m0_6, m0_7, mxXA_0, myXA_0, mxXB_0, myXB_0, mxY_0, myY_0, mx2_0, my2_0, mx3_0, my3_0, mx4_0, my4_0, mx5_0, my5_0, m1_0, m1_2, m1_3, m1_4, m1_5, m1_6, m1_7, mxXA_1, myXA_1, mxXB_1, myXB_1, mxY_1, myY_1, mx2_1, my2_1, mx3_1, my3_1, mx4_1, my4_1, mx5_1, my5_1, m2_0, m2_1, m2_3, m2_4, m2_5, m2_6, m2_7, mxXA_2, myXA_2, mxXB_2, myXB_2, mxY_2, myY_2, mx2_2, my2_2, mx3_2, my3_2, mx4_2, my4_2, mx5_2, my5_2, m3_0, m3_1, m3_2, m3_4, m3_5, m3_6, m3_7, mxXA_3, myXA_3, mxXB_3, myXB_3, mxY_3, myY_3, mx2_3, my2_3, mx3_3, my3_3, mx4_3, my4_3, mx5_3, my5_3, m4_0, m4_1, m4_2, m4_3, m4_5, m4_6, m4_7, mxXA_4, myXA_4, mxXB_4, myXB_4, mxY_4, myY_4, mx2_4, my2_4, mx3_4, my3_4, mx4_4, my4_4, mx5_4, my5_4, m5_0, m5_1, m5_2, m5_3, m5_4, m5_6, m5_7, mxXA_5, myXA_5, mxXB_5, myXB_5, mxY_5, myY_5, mx2_5, my2_5, mx3_5, my3_5, mx4_5, my4_5, mx5_5, my5_5, m6_0, m6_1, m6_2, m6_3, m6_4, m6_5, m6_7, mxXA_6, myXA_6, mxXB_6, myXB_6, mxY_6, myY_6, mx2_6, my2_6, mx3_6, my3_6, mx4_6, my4_6, mx5_6, my5_6, m7_0, m7_1, m7_2, m7_3, m7_4, m7_5, m7_6, mxXA_7, myXA_7, mxXB_7, myXB_7, mxY_7, myY_7, mx2_7, my2_7, mx3_7, my3_7, mx4_7, my4_7, mx5_7, my5_7, Nat.zero_add, e_ldaH k51 i51 s51 (hH.frN (Fr.alloc noB _ _ _)), List.map_cons, List.map_nil, cells1, cells2, cells3, cells4, cells5, d_loud, d_nil, d_quiet, d_someF, d_someT, e_ldaH k51 i51 s51 hH, l_enter, l_skip, l_val, q_lda k51 i51 s51 hH, q_val hH] | refine okVerdict_okA (us := [(aXA0, aXA1, aXA2), (aXB0, aXB1, aXB2)]) hH (TsL.cons hTXA (TsL.cons hTXB TsL.nil)) (by intro t ht; simp at ht; rcases ht with rfl | rfl <;> assumption) (by simp) hY0 y0 y1 y2 hTy _ (fun w2 H2 x2 hE2 f2 hv2 hd2 hn2 => ?_) | refine V_app k23 e23 ze23 rfl se23 be23 (v2.frN f2) rfl (by simp [oneC, VdA.enc, FmA.cell]) (by unfold maxLen; omega) (by omega) (fun a9 d9 w9 ho9 hf9 hn9 => ?_) | refine W_drawH hH (by kernel_rfl) (by kernel_rfl) (fun w1 hw1 hH => ?_) | (refine D_split rfl rfl (fun hc => ?_) (fun hc => ?_) <;> (try simp only [decide_eq_true_eq, decide_eq_false_iff_not, Bool.not_eq_true', Bool.not_eq_false', Int.not_lt, Int.not_le, Decidable.not_not] at hc) <;> (try contradiction) <;> (try (exfalso; omega))) | (refine W_cond rfl (fun hc => ?_) (fun hc => ?_) <;> (try simp only [decide_eq_true_eq, decide_eq_false_iff_not, Bool.not_eq_true', Bool.not_eq_false', Int.not_lt, Int.not_le, Decidable.not_not] at hc) <;> (try contradiction) <;> (try (exfalso; omega))) | (refine G_split rfl rfl (fun hc => ?_) (fun hc => ?_) <;> (try simp only [decide_eq_true_eq, decide_eq_false_iff_not, Bool.not_eq_true', Bool.not_eq_false', Int.not_lt, Int.not_le, Decidable.not_not] at hc) <;> (try contradiction) <;> (try (exfalso; omega))) | (with_reducible (refine hK _ _ ?_); clear hK K) | go_step)
  have S2 := S.up f2 hE2
  have fin : ∀ ρ' : Env, (∀ r, r < 58 → r ≠ 5 → ρ' r = ρ r) → ρ' 5 = .slice a9 (xs.length + 1) d9 → k .normal ρ' w9 := fun ρ' K e5 => h ρ' _ H2 x2 (S2.setV (xs' := xs ++ [x2]) v1 hf9 (by rw [encVs_snoc, List.length_append]; exact ho9) hn9 (fun y hy => by
    rcases List.mem_append.1 hy with hy | hy
    · exact S2.vd y hy
    · rw [List.mem_singleton] at hy; subst hy; exact ⟨hd2, hn2⟩) (K 2 (by omega) (by omega)) (K 3 (by omega) (by omega)) (K 4 (by omega) (by omega)) (by rw [e5, List.length_append]; rfl)) hv2 K
  exact fin _ (fun r h1 h2 => by simp only [upd_app, if_neg (show ¬ r = d0 by omega), if_neg (show ¬ r = d1 by omega), if_neg (show ¬ r = d2 by omega), if_neg (show ¬ r = e0 by omega), if_neg (show ¬ r = e1 by omega), if_neg (show ¬ r = e2 by omega), if_neg (show ¬ r = e3 by omega), if_neg (show ¬ r = e4 by omega), if_neg h2]) (by simp only [upd_app, if_true])

-- spec.BuildProof
set_option maxHeartbeats 2000000 in
set_option maxRecDepth 20000 in
theorem R_v3 {H0 Hq : Heap} {w0 w : World} {gb rb : Nat} {ca : Option Addr} {n cc p : Nat} {ex : List ExO} {ρ : Env} {ls : List LT} {xs : List VdA} {k : Exit → Env → World → Prop} {id d0 d1 d2 d3 e0 e1 e2 e3 e4 XA XB XC Y : Nat} {ty0 ty1 ty2 ty3 ty4 ty5 ty6 ty7 ty8 ty9 : TypeId} {ps0 ps1 ps2 ps3 ps4 ps5 ps6 ps7 ps8 ps9 : String} {af0 af1 af2 af3 af4 af5 af6 af7 af8 af9 : Array Edge} {tXA tXB tXC u : FT} (S : BM H0 Hq w0 w gb rb ca n cc p ex ρ ls xs) (hd : 58 ≤ d0 ∧ d0 < d1 ∧ d1 < d2 ∧ d2 < d3 ∧ d3 < e0 ∧ e0 < e1 ∧ e1 < e2 ∧ e2 < e3 ∧ e3 < e4) (hXA : XA < 58) (hXB : XB < 58) (hXC : XC < 58) (hY : Y < 58) (TXA : TV Hq (ρ XA) tXA) (hXA0 : BF tXA) (TXB : TV Hq (ρ XB) tXB) (hXB0 : BF tXB) (TXC : TV Hq (ρ XC) tXC) (hXC0 : BF tXC) (TY : TV Hq (ρ Y) u) (hY0 : BF u) (hb : xs.length ≤ 1000000000)
    (h : ∀ ρ' w' H' x, BM H0 H' w0 w' gb rb ca n cc p ex ρ' ls (xs ++ [x]) → VdA.v x = ⟨true, 0, 0, [tXA, tXB, tXC], u⟩ → (∀ r, r < 58 → r ≠ 5 → ρ' r = ρ r) → k .normal ρ' w') : VC Yaao.prog (.region id #[⟨some d0, .move (.tmp 5), ty0, ps0, af0, none⟩, ⟨some d1, .load 51 (.tmp XA), ty1, ps1, af1, none⟩, ⟨some d2, .load 51 (.tmp XB), ty2, ps2, af2, none⟩, ⟨some d3, .load 51 (.tmp XC), ty3, ps3, af3, none⟩, ⟨some e0, .buildSlice 49 3 #[(0, .tmp d1), (1, .tmp d2), (2, .tmp d3)], ty4, ps4, af4, none⟩, ⟨some e1, .load 51 (.tmp Y), ty5, ps5, af5, none⟩, ⟨some e2, .call { callee := .value (.func 31), args := #[.tmp e0, .tmp e1], argTypes := #[49, 51] }, ty6, ps6, af6, none⟩, ⟨some e3, .buildSlice 23 1 #[(0, .tmp e2)], ty7, ps7, af7, none⟩, ⟨some e4, .call { callee := .builtin .append, args := #[.tmp d0, .tmp e3], argTypes := #[23, 23] }, ty8, ps8, af8, none⟩, ⟨some 5, .assign (.tmp e4), ty9, ps9, af9, none⟩] false) k ρ w := by
  have m0_1 : d0 ≠ d1 := by omega
  have m0_2 : d0 ≠ d2 := by omega
  have m0_3 : d0 ≠ d3 := by omega
  have m0_4 : d0 ≠ e0 := by omega
  have m0_5 : d0 ≠ e1 := by omega
  have m0_6 : d0 ≠ e2 := by omega
  have m0_7 : d0 ≠ e3 := by omega
  have m0_8 : d0 ≠ e4 := by omega
  have mxXA_0 : XA ≠ d0 := by omega
  have myXA_0 : d0 ≠ XA := by omega
  have mxXB_0 : XB ≠ d0 := by omega
  have myXB_0 : d0 ≠ XB := by omega
  have mxXC_0 : XC ≠ d0 := by omega
  have myXC_0 : d0 ≠ XC := by omega
  have mxY_0 : Y ≠ d0 := by omega
  have myY_0 : d0 ≠ Y := by omega
  have mx2_0 : 2 ≠ d0 := by omega
  have my2_0 : d0 ≠ 2 := by omega
  have mx3_0 : 3 ≠ d0 := by omega
  have my3_0 : d0 ≠ 3 := by omega
  have mx4_0 : 4 ≠ d0 := by omega
  have my4_0 : d0 ≠ 4 := by omega
  have mx5_0 : 5 ≠ d0 := by omega
  have my5_0 : d0 ≠ 5 := by omega
  have m1_0 : d1 ≠ d0 := by omega
  have m1_2 : d1 ≠ d2 := by omega
  have m1_3 : d1 ≠ d3 := by omega
  have m1_4 : d1 ≠ e0 := by omega
  have m1_5 : d1 ≠ e1 := by omega
  have m1_6 : d1 ≠ e2 := by omega
  have m1_7 : d1 ≠ e3 := by omega
  have m1_8 : d1 ≠ e4 := by omega
  have mxXA_1 : XA ≠ d1 := by omega
  have myXA_1 : d1 ≠ XA := by omega
  have mxXB_1 : XB ≠ d1 := by omega
  have myXB_1 : d1 ≠ XB := by omega
  have mxXC_1 : XC ≠ d1 := by omega
  have myXC_1 : d1 ≠ XC := by omega
  have mxY_1 : Y ≠ d1 := by omega
  have myY_1 : d1 ≠ Y := by omega
  have mx2_1 : 2 ≠ d1 := by omega
  have my2_1 : d1 ≠ 2 := by omega
  have mx3_1 : 3 ≠ d1 := by omega
  have my3_1 : d1 ≠ 3 := by omega
  have mx4_1 : 4 ≠ d1 := by omega
  have my4_1 : d1 ≠ 4 := by omega
  have mx5_1 : 5 ≠ d1 := by omega
  have my5_1 : d1 ≠ 5 := by omega
  have m2_0 : d2 ≠ d0 := by omega
  have m2_1 : d2 ≠ d1 := by omega
  have m2_3 : d2 ≠ d3 := by omega
  have m2_4 : d2 ≠ e0 := by omega
  have m2_5 : d2 ≠ e1 := by omega
  have m2_6 : d2 ≠ e2 := by omega
  have m2_7 : d2 ≠ e3 := by omega
  have m2_8 : d2 ≠ e4 := by omega
  have mxXA_2 : XA ≠ d2 := by omega
  have myXA_2 : d2 ≠ XA := by omega
  have mxXB_2 : XB ≠ d2 := by omega
  have myXB_2 : d2 ≠ XB := by omega
  have mxXC_2 : XC ≠ d2 := by omega
  have myXC_2 : d2 ≠ XC := by omega
  have mxY_2 : Y ≠ d2 := by omega
  have myY_2 : d2 ≠ Y := by omega
  have mx2_2 : 2 ≠ d2 := by omega
  have my2_2 : d2 ≠ 2 := by omega
  have mx3_2 : 3 ≠ d2 := by omega
  have my3_2 : d2 ≠ 3 := by omega
  have mx4_2 : 4 ≠ d2 := by omega
  have my4_2 : d2 ≠ 4 := by omega
  have mx5_2 : 5 ≠ d2 := by omega
  have my5_2 : d2 ≠ 5 := by omega
  have m3_0 : d3 ≠ d0 := by omega
  have m3_1 : d3 ≠ d1 := by omega
  have m3_2 : d3 ≠ d2 := by omega
  have m3_4 : d3 ≠ e0 := by omega
  have m3_5 : d3 ≠ e1 := by omega
  have m3_6 : d3 ≠ e2 := by omega
  have m3_7 : d3 ≠ e3 := by omega
  have m3_8 : d3 ≠ e4 := by omega
  have mxXA_3 : XA ≠ d3 := by omega
  have myXA_3 : d3 ≠ XA := by omega
  have mxXB_3 : XB ≠ d3 := by omega
  have myXB_3 : d3 ≠ XB := by omega
  have mxXC_3 : XC ≠ d3 := by omega
  have myXC_3 : d3 ≠ XC := by omega
  have mxY_3 : Y ≠ d3 := by omega
  have myY_3 : d3 ≠ Y := by omega
  have mx2_3 : 2 ≠ d3 := by omega
  have my2_3 : d3 ≠ 2 := by omega
  have mx3_3 : 3 ≠ d3 := by omega
  have my3_3 : d3 ≠ 3 := by omega
  have mx4_3 : 4 ≠ d3 := by omega
  have my4_3 : d3 ≠ 4 := by omega
  have mx5_3 : 5 ≠ d3 := by omega
  have my5_3 : d3 ≠ 5 := by omega
  have m4_0 : e0 ≠ d0 := by omega
  have m4_1 : e0 ≠ d1 := by omega
  have m4_2 : e0 ≠ d2 := by omega
  have m4_3 : e0 ≠ d3 := by omega
  have m4_5 : e0 ≠ e1 := by omega
  have m4_6 : e0 ≠ e2 := by omega
  have m4_7 : e0 ≠ e3 := by omega
  have m4_8 : e0 ≠ e4 := by omega
  have mxXA_4 : XA ≠ e0 := by omega
  have myXA_4 : e0 ≠ XA := by omega
  have mxXB_4 : XB ≠ e0 := by omega
  have myXB_4 : e0 ≠ XB := by omega
  have mxXC_4 : XC ≠ e0 := by omega
  have myXC_4 : e0 ≠ XC := by omega
  have mxY_4 : Y ≠ e0 := by omega
  have myY_4 : e0 ≠ Y := by omega
  have mx2_4 : 2 ≠ e0 := by omega
  have my2_4 : e0 ≠ 2 := by omega
  have mx3_4 : 3 ≠ e0 := by omega
  have my3_4 : e0 ≠ 3 := by omega
  have mx4_4 : 4 ≠ e0 := by omega
  have my4_4 : e0 ≠ 4 := by omega
  have mx5_4 : 5 ≠ e0 := by omega
  have my5_4 : e0 ≠ 5 := by omega
  have m5_0 : e1 ≠ d0 := by omega
  have m5_1 : e1 ≠ d1 := by omega
  have m5_2 : e1 ≠ d2 := by omega
  have m5_3 : e1 ≠ d3 := by omega
  have m5_4 : e1 ≠ e0 := by omega
  have m5_6 : e1 ≠ e2 := by omega
  have m5_7 : e1 ≠ e3 := by omega
  have m5_8 : e1 ≠ e4 := by omega
  have mxXA_5 : XA ≠ e1 := by omega
  have myXA_5 : e1 ≠ XA := by omega
  have mxXB_5 : XB ≠ e1 := by omega
  have myXB_5 : e1 ≠ XB := by omega
  have mxXC_5 : XC ≠ e1 := by omega
  have myXC_5 : e1 ≠ XC := by omega
  have mxY_5 : Y ≠ e1 := by omega
  have myY_5 : e1 ≠ Y := by omega
  have mx2_5 : 2 ≠ e1 := by omega
  have my2_5 : e1 ≠ 2 := by omega
  have mx3_5 : 3 ≠ e1 := by omega
  have my3_5 : e1 ≠ 3 := by omega
  have mx4_5 : 4 ≠ e1 := by omega
  have my4_5 : e1 ≠ 4 := by omega
  have mx5_5 : 5 ≠ e1 := by omega
  have my5_5 : e1 ≠ 5 := by omega
  have m6_0 : e2 ≠ d0 := by omega
  have m6_1 : e2 ≠ d1 := by omega
  have m6_2 : e2 ≠ d2 := by omega
  have m6_3 : e2 ≠ d3 := by omega
  have m6_4 : e2 ≠ e0 := by omega
  have m6_5 : e2 ≠ e1 := by omega
  have m6_7 : e2 ≠ e3 := by omega
  have m6_8 : e2 ≠ e4 := by omega
  have mxXA_6 : XA ≠ e2 := by omega
  have myXA_6 : e2 ≠ XA := by omega
  have mxXB_6 : XB ≠ e2 := by omega
  have myXB_6 : e2 ≠ XB := by omega
  have mxXC_6 : XC ≠ e2 := by omega
  have myXC_6 : e2 ≠ XC := by omega
  have mxY_6 : Y ≠ e2 := by omega
  have myY_6 : e2 ≠ Y := by omega
  have mx2_6 : 2 ≠ e2 := by omega
  have my2_6 : e2 ≠ 2 := by omega
  have mx3_6 : 3 ≠ e2 := by omega
  have my3_6 : e2 ≠ 3 := by omega
  have mx4_6 : 4 ≠ e2 := by omega
  have my4_6 : e2 ≠ 4 := by omega
  have mx5_6 : 5 ≠ e2 := by omega
  have my5_6 : e2 ≠ 5 := by omega
  have m7_0 : e3 ≠ d0 := by omega
  have m7_1 : e3 ≠ d1 := by omega
  have m7_2 : e3 ≠ d2 := by omega
  have m7_3 : e3 ≠ d3 := by omega
  have m7_4 : e3 ≠ e0 := by omega
  have m7_5 : e3 ≠ e1 := by omega
  have m7_6 : e3 ≠ e2 := by omega
  have m7_8 : e3 ≠ e4 := by omega
  have mxXA_7 : XA ≠ e3 := by omega
  have myXA_7 : e3 ≠ XA := by omega
  have mxXB_7 : XB ≠ e3 := by omega
  have myXB_7 : e3 ≠ XB := by omega
  have mxXC_7 : XC ≠ e3 := by omega
  have myXC_7 : e3 ≠ XC := by omega
  have mxY_7 : Y ≠ e3 := by omega
  have myY_7 : e3 ≠ Y := by omega
  have mx2_7 : 2 ≠ e3 := by omega
  have my2_7 : e3 ≠ 2 := by omega
  have mx3_7 : 3 ≠ e3 := by omega
  have my3_7 : e3 ≠ 3 := by omega
  have mx4_7 : 4 ≠ e3 := by omega
  have my4_7 : e3 ≠ 4 := by omega
  have mx5_7 : 5 ≠ e3 := by omega
  have my5_7 : e3 ≠ 5 := by omega
  have m8_0 : e4 ≠ d0 := by omega
  have m8_1 : e4 ≠ d1 := by omega
  have m8_2 : e4 ≠ d2 := by omega
  have m8_3 : e4 ≠ d3 := by omega
  have m8_4 : e4 ≠ e0 := by omega
  have m8_5 : e4 ≠ e1 := by omega
  have m8_6 : e4 ≠ e2 := by omega
  have m8_7 : e4 ≠ e3 := by omega
  have mxXA_8 : XA ≠ e4 := by omega
  have myXA_8 : e4 ≠ XA := by omega
  have mxXB_8 : XB ≠ e4 := by omega
  have myXB_8 : e4 ≠ XB := by omega
  have mxXC_8 : XC ≠ e4 := by omega
  have myXC_8 : e4 ≠ XC := by omega
  have mxY_8 : Y ≠ e4 := by omega
  have myY_8 : e4 ≠ Y := by omega
  have mx2_8 : 2 ≠ e4 := by omega
  have my2_8 : e4 ≠ 2 := by omega
  have mx3_8 : 3 ≠ e4 := by omega
  have my3_8 : e4 ≠ 3 := by omega
  have mx4_8 : 4 ≠ e4 := by omega
  have my4_8 : e4 ≠ 4 := by omega
  have mx5_8 : 5 ≠ e4 := by omega
  have my5_8 : e4 ≠ 5 := by omega
  obtain ⟨va, vc, v1, v2, v3⟩ := S.ov
  have hH := S.hs
  obtain ⟨bXA, aXA0, aXA1, aXA2, eqXA, gXA0, gXA1, gXA2, hTXA⟩ := TXA.ex
  obtain ⟨oXA0, oXA1, oXA2⟩ := hTXA.one
  obtain ⟨bXB, aXB0, aXB1, aXB2, eqXB, gXB0, gXB1, gXB2, hTXB⟩ := TXB.ex
  obtain ⟨oXB0, oXB1, oXB2⟩ := hTXB.one
  obtain ⟨bXC, aXC0, aXC1, aXC2, eqXC, gXC0, gXC1, gXC2, hTXC⟩ := TXC.ex
  obtain ⟨oXC0, oXC1, oXC2⟩ := hTXC.one
  obtain ⟨bY, y0, y1, y2, eY, j0, j1, j2, hTy⟩ := TY.ex
  obtain ⟨oy0, oy1, oy2⟩ := hTy.one
  repeat' (first | refine W_seq (fun K hK => ?_) | refine W_block ?_ | refine W_skip ?_ | refine W_exit ?_ | refine W_ret ?_ | refine W_region ?_ | simp (disch := first | (simp only [undef, want_some, upd_app, List.getElem?_cons_succ, List.getElem?_cons_zero, Option.join_some, e_bt, e_bf, Nat.reduceEqDiff, ↓reduceIte, Bool.not_true, Bool.not_false, ne_eq, not_false_eq_true]; done) | ((with_reducible refine pkE ?_); with_unfolding_all rfl) | ((with_reducible refine cszE ?_); with_unfolding_all rfl) | ((with_reducible refine isQE ?_); with_unfolding_all rfl) | assumption | omega) only [List.map_cons, List.map_nil, List.map_toArray, Nat.reduceEqDiff, b_exit, b_exitN, b_normal, b_ret, c_agg, c_bool, c_int, c_sl, c_str, e23, e49, e_bs0 _ _ k23 ie23 ze23 se23, e_bs0 _ _ k49 ie49 ze49 se49, e_bs1 _ _ k23 ie23 ze23 se23 (by decide), e_bs1 _ _ k49 ie49 ze49 se49 (by decide), ev_const, ev_tmp, fo_assign, fo_load, fo_move, init1, init2a, init2b, init3a, init3b, init3c, o_append, o_buildSlice, o_call _ _ _ _ _ _ _ c31, put_some, r_enter, r_value, s_nil, s_none, t_exit, t_normal, t_ret, upd_app, ↓reduceIte, eqXA, gXA0, gXA1, gXA2, eqXB, gXB0, gXB1, gXB2, eqXC, gXC0, gXC1, gXC2, eY, v1, j0, j1, j2, m0_1, m0_2, m0_3, m0_4, m0_5, m0_6, m0_7, m0_8, mxXA_0, myXA_0, mxXB_0, myXB_0, mxXC_0, myXC_0, mxY_0, myY_0, mx2_0, my2_0, mx3_0, my3_0, mx4_0, my4_0, mx5_0, my5_0, m1_0, m1_2, m1_3, m1_4, m1_5, m1_6, m1_7, m1_8, mxXA_1, myXA_1, mxXB_1, myXB_1, mxXC_1, myXC_1, mxY_1, myY_1, mx2_1, my2_1, mx3_1, my3_1, mx4_1, my4_1, mx5_1, my5_1, m2_0, m2_1, m2_3, m2_4, m2_5, m2_6, m2_7, m2_8, mxXA_2, myXA_2, mxXB_2, myXB_2, mxXC_2, myXC_2, mxY_2, myY_2, mx2_2, my2_2, mx3_2, my3_2, mx4_2, my4_2, mx5_2, my5_2, m3_0, m3_1, m3_2, m3_4, m3_5, m3_6, m3_7, m3_8, mxXA_3, myXA_3, mxXB_3, myXB_3, mxXC_3, myXC_3, mxY_3, myY_3, mx2_3, my2_3, mx3_3, my3_3, mx4_3, my4_3, mx5_3, my5_3, m4_0, m4_1, m4_2, m4_3, m4_5, m4_6, m4_7, m4_8, mxXA_4, myXA_4, mxXB_4, myXB_4, mxXC_4, myXC_4, mxY_4, myY_4, mx2_4, my2_4, mx3_4, my3_4, mx4_4, my4_4, mx5_4, my5_4, m5_0, m5_1, m5_2, m5_3, m5_4, m5_6, m5_7, m5_8, mxXA_5, myXA_5, mxXB_5, myXB_5, mxXC_5, myXC_5, mxY_5, myY_5, mx2_5, my2_5, mx3_5, my3_5, mx4_5, my4_5, mx5_5, my5_5, m6_0, m6_1, m6_2, m6_3, m6_4, m6_5, m6_7, m6_8, mxXA_6, myXA_6, mxXB_6, myXB_6, mxXC_6, myXC_6, mxY_6, myY_6, mx2_6, my2_6, mx3_6, my3_6, mx4_6, my4_6, mx5_6, my5_6, m7_0, m7_1, m7_2, m7_3, m7_4, m7_5, m7_6, m7_8, mxXA_7, myXA_7, mxXB_7, myXB_7, mxXC_7, myXC_7, mxY_7, myY_7, mx2_7, my2_7, mx3_7, my3_7, mx4_7, my4_7, mx5_7, my5_7, m8_0, m8_1, m8_2, m8_3, m8_4, m8_5, m8_6, m8_7, mxXA_8, myXA_8, mxXB_8, myXB_8, mxXC_8, myXC_8, mxY_8, myY_8, mx2_8, my2_8, mx3_8, my3_8, mx4_8, my4_8, mx5_8, my5_8, e_bs3 _ _ k49 ie49 ze49 se49 (by decide), Nat.zero_add, e_ldaH k51 i51 s51 (hH.frN (Fr.alloc noB _ _ _)), List.map_cons, List.map_nil, cells1, cells2, cells3, cells4, cells5, d_loud, d_nil, d_quiet, d_someF, d_someT, e_ldaH k51 i51 s51 hH, l_enter, l_skip, l_val, q_lda k51 i51 s51 hH, q_val hH] | refine okVerdict_okA (us := [(aXA0, aXA1, aXA2), (aXB0, aXB1, aXB2), (aXC0, aXC1, aXC2)]) hH (TsL.cons hTXA (TsL.cons hTXB (TsL.cons hTXC TsL.nil))) (by intro t ht; simp at ht; rcases ht with rfl | rfl | rfl <;> assumption) (by simp) hY0 y0 y1 y2 hTy _ (fun w2 H2 x2 hE2 f2 hv2 hd2 hn2 => ?_) | refine V_app k23 e23 ze23 rfl se23 be23 (v2.frN f2) rfl (by simp [oneC, VdA.enc, FmA.cell]) (by unfold maxLen; omega) (by omega) (fun a9 d9 w9 ho9 hf9 hn9 => ?_) | refine W_drawH hH (by kernel_rfl) (by kernel_rfl) (fun w1 hw1 hH => ?_) | (refine D_split rfl rfl (fun hc => ?_) (fun hc => ?_) <;> (try simp only [decide_eq_true_eq, decide_eq_false_iff_not, Bool.not_eq_true', Bool.not_eq_false', Int.not_lt, Int.not_le, Decidable.not_not] at hc) <;> (try contradiction) <;> (try (exfalso; omega))) | (refine W_cond rfl (fun hc => ?_) (fun hc => ?_) <;> (try simp only [decide_eq_true_eq, decide_eq_false_iff_not, Bool.not_eq_true', Bool.not_eq_false', Int.not_lt, Int.not_le, Decidable.not_not] at hc) <;> (try contradiction) <;> (try (exfalso; omega))) | (refine G_split rfl rfl (fun hc => ?_) (fun hc => ?_) <;> (try simp only [decide_eq_true_eq, decide_eq_false_iff_not, Bool.not_eq_true', Bool.not_eq_false', Int.not_lt, Int.not_le, Decidable.not_not] at hc) <;> (try contradiction) <;> (try (exfalso; omega))) | (with_reducible (refine hK _ _ ?_); clear hK K) | go_step)
  have S2 := S.up f2 hE2
  have fin : ∀ ρ' : Env, (∀ r, r < 58 → r ≠ 5 → ρ' r = ρ r) → ρ' 5 = .slice a9 (xs.length + 1) d9 → k .normal ρ' w9 := fun ρ' K e5 => h ρ' _ H2 x2 (S2.setV (xs' := xs ++ [x2]) v1 hf9 (by rw [encVs_snoc, List.length_append]; exact ho9) hn9 (fun y hy => by
    rcases List.mem_append.1 hy with hy | hy
    · exact S2.vd y hy
    · rw [List.mem_singleton] at hy; subst hy; exact ⟨hd2, hn2⟩) (K 2 (by omega) (by omega)) (K 3 (by omega) (by omega)) (K 4 (by omega) (by omega)) (by rw [e5, List.length_append]; rfl)) hv2 K
  exact fin _ (fun r h1 h2 => by simp only [upd_app, if_neg (show ¬ r = d0 by omega), if_neg (show ¬ r = d1 by omega), if_neg (show ¬ r = d2 by omega), if_neg (show ¬ r = d3 by omega), if_neg (show ¬ r = e0 by omega), if_neg (show ¬ r = e1 by omega), if_neg (show ¬ r = e2 by omega), if_neg (show ¬ r = e3 by omega), if_neg (show ¬ r = e4 by omega), if_neg h2]) (by simp only [upd_app, if_true])

-- spec.BuildProof
set_option maxHeartbeats 2000000 in
set_option maxRecDepth 20000 in
theorem R_next {H0 Hq : Heap} {w0 w : World} {gb rb : Nat} {ca : Option Addr} {n cc p : Nat} {ex : List ExO} {ρ : Env} {ls : List LT} {xs : List VdA} {k : Exit → Env → World → Prop} {id d0 d1 Z : Nat} {ty0 ty1 ty2 : TypeId} {ps0 ps1 ps2 : String} {af0 af1 af2 : Array Edge} {l : List UInt8} (S : BM H0 Hq w0 w gb rb ca n cc p ex ρ ls xs) (hd : 58 ≤ d0 ∧ d0 < d1)  (hZ : 5 < Z ∧ Z < 58) (tC : BcH H0 ca n l) (hn : n ≤ 1048576)
    (h : ∀ ρ' w' (v p' : Nat), v < 256 → p ≤ p' → (p ≤ n → p' ≤ n) → (p < n → p < p') → BM H0 Hq w0 w' gb rb ca n cc p' ex ρ' ls xs → ρ' Z = .int .i64 v → (∀ r, r < 58 → r ≠ Z → ρ' r = ρ r) → k .normal ρ' w') : VC Yaao.prog (.region id #[⟨some d0, .move (.tmp 3), ty0, ps0, af0, none⟩, ⟨some d1, .call { callee := .value (.func 26), args := #[.tmp d0], argTypes := #[68] }, ty1, ps1, af1, none⟩, ⟨some Z, .assign (.tmp d1), ty2, ps2, af2, none⟩] false) k ρ w := by
  have m0_1 : d0 ≠ d1 := by omega
  have mxZ_0 : Z ≠ d0 := by omega
  have myZ_0 : d0 ≠ Z := by omega
  have mx2_0 : 2 ≠ d0 := by omega
  have my2_0 : d0 ≠ 2 := by omega
  have mx3_0 : 3 ≠ d0 := by omega
  have my3_0 : d0 ≠ 3 := by omega
  have mx4_0 : 4 ≠ d0 := by omega
  have my4_0 : d0 ≠ 4 := by omega
  have mx5_0 : 5 ≠ d0 := by omega
  have my5_0 : d0 ≠ 5 := by omega
  have m1_0 : d1 ≠ d0 := by omega
  have mxZ_1 : Z ≠ d1 := by omega
  have myZ_1 : d1 ≠ Z := by omega
  have mx2_1 : 2 ≠ d1 := by omega
  have my2_1 : d1 ≠ 2 := by omega
  have mx3_1 : 3 ≠ d1 := by omega
  have my3_1 : d1 ≠ 3 := by omega
  have mx4_1 : 4 ≠ d1 := by omega
  have my4_1 : d1 ≠ 4 := by omega
  have mx5_1 : 5 ≠ d1 := by omega
  have my5_1 : d1 ≠ 5 := by omega
  have mz2 : 2 ≠ Z := by omega
  have mZ2 : Z ≠ 2 := by omega
  have mz3 : 3 ≠ Z := by omega
  have mZ3 : Z ≠ 3 := by omega
  have mz4 : 4 ≠ Z := by omega
  have mZ4 : Z ≠ 4 := by omega
  have mz5 : 5 ≠ Z := by omega
  have mZ5 : Z ≠ 5 := by omega
  have hH := S.hs
  have g3 := S.e3
  repeat' (first | refine W_seq (fun K hK => ?_) | refine W_block ?_ | refine W_skip ?_ | refine W_exit ?_ | refine W_ret ?_ | refine W_region ?_ | simp (disch := first | (simp only [undef, want_some, upd_app, List.getElem?_cons_succ, List.getElem?_cons_zero, Option.join_some, e_bt, e_bf, Nat.reduceEqDiff, ↓reduceIte, Bool.not_true, Bool.not_false, ne_eq, not_false_eq_true]; done) | ((with_reducible refine pkE ?_); with_unfolding_all rfl) | ((with_reducible refine cszE ?_); with_unfolding_all rfl) | ((with_reducible refine isQE ?_); with_unfolding_all rfl) | assumption | omega) only [List.map_cons, List.map_nil, List.map_toArray, Nat.reduceEqDiff, b_exit, b_exitN, b_normal, b_ret, ev_const, ev_tmp, fo_assign, fo_move, init1, init2a, init2b, init3a, init3b, init3c, o_call _ _ _ _ _ _ _ c26, put_some, r_enter, r_value, s_nil, s_none, t_exit, t_normal, t_ret, upd_app, ↓reduceIte, g3, m0_1, mxZ_0, myZ_0, mx2_0, my2_0, mx3_0, my3_0, mx4_0, my4_0, mx5_0, my5_0, m1_0, mxZ_1, myZ_1, mx2_1, my2_1, mx3_1, my3_1, mx4_1, my4_1, mx5_1, my5_1, mz2, mZ2, mz3, mZ3, mz4, mZ4, mz5, mZ5, List.map_cons, List.map_nil, d_loud, d_nil, d_quiet, d_someF, d_someT, l_enter, l_skip, l_val, q_val hH] | refine next_ok hH (tC.mono S.ext.le) hn S.gB S.gN _ (fun w2 v p2 hv hp hpn hlt hB2 f2 => ?_) | refine W_drawH hH (by kernel_rfl) (by kernel_rfl) (fun w1 hw1 hH => ?_) | (refine D_split rfl rfl (fun hc => ?_) (fun hc => ?_) <;> (try simp only [decide_eq_true_eq, decide_eq_false_iff_not, Bool.not_eq_true', Bool.not_eq_false', Int.not_lt, Int.not_le, Decidable.not_not] at hc) <;> (try contradiction) <;> (try (exfalso; omega))) | (refine W_cond rfl (fun hc => ?_) (fun hc => ?_) <;> (try simp only [decide_eq_true_eq, decide_eq_false_iff_not, Bool.not_eq_true', Bool.not_eq_false', Int.not_lt, Int.not_le, Decidable.not_not] at hc) <;> (try contradiction) <;> (try (exfalso; omega))) | (refine G_split rfl rfl (fun hc => ?_) (fun hc => ?_) <;> (try simp only [decide_eq_true_eq, decide_eq_false_iff_not, Bool.not_eq_true', Bool.not_eq_false', Int.not_lt, Int.not_le, Decidable.not_not] at hc) <;> (try contradiction) <;> (try (exfalso; omega))) | (with_reducible (refine hK _ _ ?_); clear hK K) | go_step)
  have fin : ∀ ρ' : Env, (∀ r, r < 58 → r ≠ Z → ρ' r = ρ r) → ρ' Z = .int .i64 v → k .normal ρ' w2 := fun ρ' K eZ => h ρ' w2 v p2 hv hp hpn hlt ((S.gen f2 ⟨HLe.refl _, S.hs.fr f2 (fun k e o => by subst e; exact S.gN o), fun _ _ _ => rfl⟩ hB2).env (K 2 (by omega) (by omega)) (K 3 (by omega) (by omega)) (K 4 (by omega) (by omega)) (K 5 (by omega) (by omega))) eZ K
  exact fin _ (fun r h1 h2 => by simp only [upd_app, if_neg (show ¬ r = d0 by omega), if_neg (show ¬ r = d1 by omega), if_neg h2]) (by simp only [upd_app, if_true])

-- spec.BuildProof
set_option maxHeartbeats 2000000 in
set_option maxRecDepth 20000 in
theorem R_gen {H0 Hq : Heap} {w0 w : World} {gb rb : Nat} {ca : Option Addr} {n cc p : Nat} {ex : List ExO} {ρ : Env} {ls : List LT} {xs : List VdA} {k : Exit → Env → World → Prop} {id d0 d1 d2 d3 d4 Y Z : Nat} {ty0 ty1 ty2 ty3 ty4 ty5 ty6 : TypeId} {ps0 ps1 ps2 ps3 ps4 ps5 ps6 : String} {af0 af1 af2 af3 af4 af5 af6 : Array Edge} {l : List UInt8} {v : Nat} {qm : Int} (S : BM H0 Hq w0 w gb rb ca n cc p ex ρ ls xs) (hd : 58 ≤ d0 ∧ d0 < d1 ∧ d1 < d2 ∧ d2 < d3 ∧ d3 < d4) (hY : Y < 58) (hZ : 5 < Z ∧ Z < 58) (tC : BcH H0 ca n l) (hn : n ≤ 1048576) (eY : ρ Y = .int .i64 v) (hv : v < 256) (hq : 1 ≤ qm ∧ qm ≤ 12)
    (h : ∀ ρ' w' H' p' t, Shape bName t → tsize t ≤ 2 * qm.toNat + 1 → p ≤ p' → (p ≤ n → p' ≤ n) → BM H0 H' w0 w' gb rb ca n cc p' ex ρ' ls xs → HLe Hq H' → TV H' (ρ' Z) t → (∀ r, r < 58 → r ≠ Z → ρ' r = ρ r) → k .normal ρ' w') : VC Yaao.prog (.region id #[⟨some d0, .move (.tmp 3), ty0, ps0, af0, none⟩, ⟨some d1, .move (.tmp Y), ty1, ps1, af1, none⟩, ⟨some d2, .binOp .rem 3 (.tmp d1) (.const (.int .i64 qm)) 3, ty2, ps2, af2, none⟩, ⟨some d3, .binOp .add 3 (.const (.int .i64 1)) (.tmp d2) 3, ty3, ps3, af3, none⟩, ⟨some d4, .call { callee := .value (.func 27), args := #[.tmp d0, .tmp d3], argTypes := #[68, 3] }, ty4, ps4, af4, none⟩, ⟨some Z, .alloc 51, ty5, ps5, af5, none⟩, ⟨none, .store 51 (.tmp Z) (.tmp d4), ty6, ps6, af6, none⟩] false) k ρ w := by
  have m0_1 : d0 ≠ d1 := by omega
  have m0_2 : d0 ≠ d2 := by omega
  have m0_3 : d0 ≠ d3 := by omega
  have m0_4 : d0 ≠ d4 := by omega
  have mxY_0 : Y ≠ d0 := by omega
  have myY_0 : d0 ≠ Y := by omega
  have mxZ_0 : Z ≠ d0 := by omega
  have myZ_0 : d0 ≠ Z := by omega
  have mx2_0 : 2 ≠ d0 := by omega
  have my2_0 : d0 ≠ 2 := by omega
  have mx3_0 : 3 ≠ d0 := by omega
  have my3_0 : d0 ≠ 3 := by omega
  have mx4_0 : 4 ≠ d0 := by omega
  have my4_0 : d0 ≠ 4 := by omega
  have mx5_0 : 5 ≠ d0 := by omega
  have my5_0 : d0 ≠ 5 := by omega
  have m1_0 : d1 ≠ d0 := by omega
  have m1_2 : d1 ≠ d2 := by omega
  have m1_3 : d1 ≠ d3 := by omega
  have m1_4 : d1 ≠ d4 := by omega
  have mxY_1 : Y ≠ d1 := by omega
  have myY_1 : d1 ≠ Y := by omega
  have mxZ_1 : Z ≠ d1 := by omega
  have myZ_1 : d1 ≠ Z := by omega
  have mx2_1 : 2 ≠ d1 := by omega
  have my2_1 : d1 ≠ 2 := by omega
  have mx3_1 : 3 ≠ d1 := by omega
  have my3_1 : d1 ≠ 3 := by omega
  have mx4_1 : 4 ≠ d1 := by omega
  have my4_1 : d1 ≠ 4 := by omega
  have mx5_1 : 5 ≠ d1 := by omega
  have my5_1 : d1 ≠ 5 := by omega
  have m2_0 : d2 ≠ d0 := by omega
  have m2_1 : d2 ≠ d1 := by omega
  have m2_3 : d2 ≠ d3 := by omega
  have m2_4 : d2 ≠ d4 := by omega
  have mxY_2 : Y ≠ d2 := by omega
  have myY_2 : d2 ≠ Y := by omega
  have mxZ_2 : Z ≠ d2 := by omega
  have myZ_2 : d2 ≠ Z := by omega
  have mx2_2 : 2 ≠ d2 := by omega
  have my2_2 : d2 ≠ 2 := by omega
  have mx3_2 : 3 ≠ d2 := by omega
  have my3_2 : d2 ≠ 3 := by omega
  have mx4_2 : 4 ≠ d2 := by omega
  have my4_2 : d2 ≠ 4 := by omega
  have mx5_2 : 5 ≠ d2 := by omega
  have my5_2 : d2 ≠ 5 := by omega
  have m3_0 : d3 ≠ d0 := by omega
  have m3_1 : d3 ≠ d1 := by omega
  have m3_2 : d3 ≠ d2 := by omega
  have m3_4 : d3 ≠ d4 := by omega
  have mxY_3 : Y ≠ d3 := by omega
  have myY_3 : d3 ≠ Y := by omega
  have mxZ_3 : Z ≠ d3 := by omega
  have myZ_3 : d3 ≠ Z := by omega
  have mx2_3 : 2 ≠ d3 := by omega
  have my2_3 : d3 ≠ 2 := by omega
  have mx3_3 : 3 ≠ d3 := by omega
  have my3_3 : d3 ≠ 3 := by omega
  have mx4_3 : 4 ≠ d3 := by omega
  have my4_3 : d3 ≠ 4 := by omega
  have mx5_3 : 5 ≠ d3 := by omega
  have my5_3 : d3 ≠ 5 := by omega
  have m4_0 : d4 ≠ d0 := by omega
  have m4_1 : d4 ≠ d1 := by omega
  have m4_2 : d4 ≠ d2 := by omega
  have m4_3 : d4 ≠ d3 := by omega
  have mxY_4 : Y ≠ d4 := by omega
  have myY_4 : d4 ≠ Y := by omega
  have mxZ_4 : Z ≠ d4 := by omega
  have myZ_4 : d4 ≠ Z := by omega
  have mx2_4 : 2 ≠ d4 := by omega
  have my2_4 : d4 ≠ 2 := by omega
  have mx3_4 : 3 ≠ d4 := by omega
  have my3_4 : d4 ≠ 3 := by omega
  have mx4_4 : 4 ≠ d4 := by omega
  have my4_4 : d4 ≠ 4 := by omega
  have mx5_4 : 5 ≠ d4 := by omega
  have my5_4 : d4 ≠ 5 := by omega
  have mz2 : 2 ≠ Z := by omega
  have mZ2 : Z ≠ 2 := by omega
  have mz3 : 3 ≠ Z := by omega
  have mZ3 : Z ≠ 3 := by omega
  have mz4 : 4 ≠ Z := by omega
  have mZ4 : Z ≠ 4 := by omega
  have mz5 : 5 ≠ Z := by omega
  have mZ5 : Z ≠ 5 := by omega
  have hH := S.hs
  have g3 := S.e3
  obtain ⟨m, rfl⟩ : ∃ m : Nat, qm = m := ⟨qm.toNat, by omega⟩
  have hlt : v % m < m := Nat.mod_lt _ (by omega)
  have hb1 : (1 : Int) + ((v % m : Nat) : Int) = ((1 + v % m : Nat) : Int) := by omega
  repeat' (first | refine W_seq (fun K hK => ?_) | refine W_block ?_ | refine W_skip ?_ | refine W_exit ?_ | refine W_ret ?_ | refine W_region ?_ | simp (disch := first | (simp only [undef, want_some, upd_app, List.getElem?_cons_succ, List.getElem?_cons_zero, Option.join_some, e_bt, e_bf, Nat.reduceEqDiff, ↓reduceIte, Bool.not_true, Bool.not_false, ne_eq, not_false_eq_true]; done) | ((with_reducible refine pkE ?_); with_unfolding_all rfl) | ((with_reducible refine cszE ?_); with_unfolding_all rfl) | ((with_reducible refine isQE ?_); with_unfolding_all rfl) | assumption | omega) only [List.map_cons, List.map_nil, List.map_toArray, Nat.reduceEqDiff, b_exit, b_exitN, b_normal, b_ret, e_alloc _ _ _ _ z51, e_stn _ _ i51 s51, ev_const, ev_tmp, fe_add, fe_rem, fo_bin, fo_move, init1, init2a, init2b, init3a, init3b, init3c, o_alloc, o_call _ _ _ _ _ _ _ c27, o_store, put_none, put_some, r_enter, r_skip, r_value, s_nil, s_none, t_exit, t_normal, t_ret, upd_app, wrapS, ↓reduceIte, g3, eY, tmN, hb1, m0_1, m0_2, m0_3, m0_4, mxY_0, myY_0, mxZ_0, myZ_0, mx2_0, my2_0, mx3_0, my3_0, mx4_0, my4_0, mx5_0, my5_0, m1_0, m1_2, m1_3, m1_4, mxY_1, myY_1, mxZ_1, myZ_1, mx2_1, my2_1, mx3_1, my3_1, mx4_1, my4_1, mx5_1, my5_1, m2_0, m2_1, m2_3, m2_4, mxY_2, myY_2, mxZ_2, myZ_2, mx2_2, my2_2, mx3_2, my3_2, mx4_2, my4_2, mx5_2, my5_2, m3_0, m3_1, m3_2, m3_4, mxY_3, myY_3, mxZ_3, myZ_3, mx2_3, my2_3, mx3_3, my3_3, mx4_3, my4_3, mx5_3, my5_3, m4_0, m4_1, m4_2, m4_3, mxY_4, myY_4, mxZ_4, myZ_4, mx2_4, my2_4, mx3_4, my3_4, mx4_4, my4_4, mx5_4, my5_4, mz2, mZ2, mz3, mZ3, mz4, mZ4, mz5, mZ5, List.map_cons, List.map_nil, d_loud, d_nil, d_quiet, d_someF, d_someT, l_enter, l_skip, l_val, q_val hH] | refine genTree_ok hn (1 + v % m) Hq w gb p _ hH (tC.mono S.ext.le) S.gB S.gN (by omega) (fun w2 H2 t c0 c1 c2 p2 hs2 hz2 hT2 hE2 hp2 hpn2 hB2 f2 => ?_) | refine W_drawH hH (by kernel_rfl) (by kernel_rfl) (fun w1 hw1 hH => ?_) | (refine D_split rfl rfl (fun hc => ?_) (fun hc => ?_) <;> (try simp only [decide_eq_true_eq, decide_eq_false_iff_not, Bool.not_eq_true', Bool.not_eq_false', Int.not_lt, Int.not_le, Decidable.not_not] at hc) <;> (try contradiction) <;> (try (exfalso; omega))) | (refine W_cond rfl (fun hc => ?_) (fun hc => ?_) <;> (try simp only [decide_eq_true_eq, decide_eq_false_iff_not, Bool.not_eq_true', Bool.not_eq_false', Int.not_lt, Int.not_le, Decidable.not_not] at hc) <;> (try contradiction) <;> (try (exfalso; omega))) | (refine G_split rfl rfl (fun hc => ?_) (fun hc => ?_) <;> (try simp only [decide_eq_true_eq, decide_eq_false_iff_not, Bool.not_eq_true', Bool.not_eq_false', Int.not_lt, Int.not_le, Decidable.not_not] at hc) <;> (try contradiction) <;> (try (exfalso; omega))) | (with_reducible (refine hK _ _ ?_); clear hK K) | go_step)
  obtain ⟨oc0, oc1, oc2⟩ := hT2.one
  repeat' (first | refine W_seq (fun K hK => ?_) | refine W_block ?_ | refine W_skip ?_ | refine W_exit ?_ | refine W_ret ?_ | refine W_region ?_ | simp (disch := first | (simp only [undef, want_some, upd_app, List.getElem?_cons_succ, List.getElem?_cons_zero, Option.join_some, e_bt, e_bf, Nat.reduceEqDiff, ↓reduceIte, Bool.not_true, Bool.not_false, ne_eq, not_false_eq_true]; done) | ((with_reducible refine pkE ?_); with_unfolding_all rfl) | ((with_reducible refine cszE ?_); with_unfolding_all rfl) | ((with_reducible refine isQE ?_); with_unfolding_all rfl) | assumption | omega) only [List.map_cons, List.map_nil, List.map_toArray, Nat.reduceEqDiff, b_exit, b_exitN, b_normal, b_ret, e_alloc _ _ _ _ z51, e_stn _ _ i51 s51, ev_const, ev_tmp, fe_add, fe_rem, fo_bin, fo_move, init1, init2a, init2b, init3a, init3b, init3c, o_alloc, o_call _ _ _ _ _ _ _ c27, o_store, put_none, put_some, r_enter, r_skip, r_value, s_nil, s_none, t_exit, t_normal, t_ret, upd_app, wrapS, ↓reduceIte, g3, eY, m0_1, m0_2, m0_3, m0_4, mxY_0, myY_0, mxZ_0, myZ_0, mx2_0, my2_0, mx3_0, my3_0, mx4_0, my4_0, mx5_0, my5_0, m1_0, m1_2, m1_3, m1_4, mxY_1, myY_1, mxZ_1, myZ_1, mx2_1, my2_1, mx3_1, my3_1, mx4_1, my4_1, mx5_1, my5_1, m2_0, m2_1, m2_3, m2_4, mxY_2, myY_2, mxZ_2, myZ_2, mx2_2, my2_2, mx3_2, my3_2, mx4_2, my4_2, mx5_2, my5_2, m3_0, m3_1, m3_2, m3_4, mxY_3, myY_3, mxZ_3, myZ_3, mx2_3, my2_3, mx3_3, my3_3, mx4_3, my4_3, mx5_3, my5_3, m4_0, m4_1, m4_2, m4_3, mxY_4, myY_4, mxZ_4, myZ_4, mx2_4, my2_4, mx3_4, my3_4, mx4_4, my4_4, mx5_4, my5_4, mz2, mZ2, mz3, mZ3, mz4, mZ4, mz5, mZ5, e_stn3 _ _ i51 s51, List.map_cons, List.map_nil, d_loud, d_nil, d_quiet, d_someF, d_someT, l_enter, l_skip, l_val, q_val hH] | refine W_drawH hH (by kernel_rfl) (by kernel_rfl) (fun w1 hw1 hH => ?_) | (refine D_split rfl rfl (fun hc => ?_) (fun hc => ?_) <;> (try simp only [decide_eq_true_eq, decide_eq_false_iff_not, Bool.not_eq_true', Bool.not_eq_false', Int.not_lt, Int.not_le, Decidable.not_not] at hc) <;> (try contradiction) <;> (try (exfalso; omega))) | (refine W_cond rfl (fun hc => ?_) (fun hc => ?_) <;> (try simp only [decide_eq_true_eq, decide_eq_false_iff_not, Bool.not_eq_true', Bool.not_eq_false', Int.not_lt, Int.not_le, Decidable.not_not] at hc) <;> (try contradiction) <;> (try (exfalso; omega))) | (refine G_split rfl rfl (fun hc => ?_) (fun hc => ?_) <;> (try simp only [decide_eq_true_eq, decide_eq_false_iff_not, Bool.not_eq_true', Bool.not_eq_false', Int.not_lt, Int.not_le, Decidable.not_not] at hc) <;> (try contradiction) <;> (try (exfalso; omega))) | (with_reducible (refine hK _ _ ?_); clear hK K) | go_step)
  have fA : Fr noB w2 (w2.alloc (.cells [c0, c1, c2].toArray 51)) := Fr.alloc _ _ _ _
  obtain ⟨H8, l8, hH8, k8, x8⟩ := (Blk.new w2 51 [c0, c1, c2]).keep (hE2.hs.frN fA) (fun o => hE2.hs.off (Nat.le_refl _) o)
  have E8 : Ext _ H8 w2 (w2.alloc (.cells [c0, c1, c2].toArray 51)) := ⟨l8, hH8, fun k hk o => x8 k (by omega) o⟩
  have fin : ∀ ρ' : Env, (∀ r, r < 58 → r ≠ Z → ρ' r = ρ r) → ρ' Z = .pointer (some ⟨w2.heap.size, 0, none⟩) → k .normal ρ' (w2.alloc (.cells [c0, c1, c2].toArray 51)) := fun ρ' K eZ =>
    h ρ' _ H8 p2 t hs2 (by rw [Int.toNat_natCast]; omega) hp2 hpn2 (((S.gen f2 hE2 hB2).up fA E8).env (K 2 (by omega) (by omega)) (K 3 (by omega) (by omega)) (K 4 (by omega) (by omega)) (K 5 (by omega) (by omega))) (hE2.le.trans l8) ⟨w2.heap.size, _, _, _, eZ, k8 0, k8 1, k8 2, hT2.mono l8⟩ K
  exact fin _ (fun r h1 h2 => by simp only [upd_app, if_neg (show ¬ r = d0 by omega), if_neg (show ¬ r = d1 by omega), if_neg (show ¬ r = d2 by omega), if_neg (show ¬ r = d3 by omega), if_neg (show ¬ r = d4 by omega), if_neg h2]) (by simp only [upd_app, if_true])
end Go.Proofs.YbzaawGreat
