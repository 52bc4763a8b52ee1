/-  spec.fitsRule: trees at hand, laws with two outcomes.  -/
import Derived.Test.YbzaawGreatSJB2
import Derived.Test.YbzaawGreatMatchK
import Derived.Test.YbzaawGreatDraw3
namespace Go.Proofs.YbzaawGreat
open Go.Wf Go.Deep
set_option linter.unusedSimpArgs false
set_option linter.unusedVariables false

/-- These cells are, in w, the tree t. -/
structure TW (w : World) (t : FT) (c0 c1 c2 : Value) : Prop where
  sh : Shape okName t
  tc : TreeC (allH w) t [c0, c1, c2]
theorem TW.of {H : Heap} {w : World} (hH : HS H w) {t : FT} {c0 c1 c2 : Value} (hs : Shape okName t) (h : TreeC H t [c0, c1, c2]) : TW w t c0 c1 c2 := ⟨hs, h.mono (fun b o v e => hH.cell b o v e)⟩
/-- A tree in a block of its own. -/
structure VarT (H : Heap) (b : Nat) (T : FT) (ka : Option Addr) (kc : Nat) (vs : List V3) : Prop where
  sh : Shape okName T
  c0 : H b 0 = some (.int .i64 (topO T))
  c1 : H b 1 = some (.string (topN T))
  c2 : H b 2 = some (.slice ka vs.length kc)
  tc : TreeC H T [.int .i64 (topO T), .string (topN T), .slice ka vs.length kc]
  isA : IsA ka vs.length
  l3 : topO T = 3 → vs.length = 1
  l4 : 4 ≤ topO T → vs.length = 2
  k00 : 3 ≤ topO T → H (ablk ka) (aoff ka) = some (vs.getD 0 v30).1
  k01 : 3 ≤ topO T → H (ablk ka) (aoff ka + 1) = some (vs.getD 0 v30).2.1
  k02 : 3 ≤ topO T → H (ablk ka) (aoff ka + 2) = some (vs.getD 0 v30).2.2
  k10 : 4 ≤ topO T → H (ablk ka) (aoff ka + 3) = some (vs.getD 1 v30).1
  k11 : 4 ≤ topO T → H (ablk ka) (aoff ka + 3 + 1) = some (vs.getD 1 v30).2.1
  k12 : 4 ≤ topO T → H (ablk ka) (aoff ka + 3 + 2) = some (vs.getD 1 v30).2.2
  s0 : 3 ≤ topO T → Shape okName (lk T)
  s1 : 4 ≤ topO T → Shape okName (rk T)
  t0 : 3 ≤ topO T → TreeC H (lk T) [(vs.getD 0 v30).1, (vs.getD 0 v30).2.1, (vs.getD 0 v30).2.2]
  t1 : 4 ≤ topO T → TreeC H (rk T) [(vs.getD 1 v30).1, (vs.getD 1 v30).2.1, (vs.getD 1 v30).2.2]
theorem VarT.mono {H H' : Heap} {b : Nat} {T : FT} {ka : Option Addr} {kc : Nat} {vs : List V3} (h : VarT H b T ka kc vs) (hl : HLe H H') : VarT H' b T ka kc vs :=
  ⟨h.sh, hl _ _ _ h.c0, hl _ _ _ h.c1, hl _ _ _ h.c2, h.tc.mono hl, h.isA, h.l3, h.l4, fun e => hl _ _ _ (h.k00 e), fun e => hl _ _ _ (h.k01 e), fun e => hl _ _ _ (h.k02 e), fun e => hl _ _ _ (h.k10 e), fun e => hl _ _ _ (h.k11 e), fun e => hl _ _ _ (h.k12 e), h.s0, h.s1, fun e => (h.t0 e).mono hl, fun e => (h.t1 e).mono hl⟩
theorem VarT.ex {H : Heap} {b : Nat} {T : FT} {c0 c1 c2 : Value} (hs : Shape okName T) (hT : TreeC H T [c0, c1, c2]) (h0 : H b 0 = some c0) (h1 : H b 1 = some c1) (h2 : H b 2 = some c2) : ∃ ka kc vs, VarT H b T ka kc vs := by
  have hT' := hT
  obtain ⟨ka, kc, vs, rfl, rfl, rfl, hsl, hks⟩ := hT.kids
  have hlen := hks.len
  refine ⟨ka, kc, vs, ?_⟩
  have key : ∀ i, i < vs.length → _ := fun i hi => encV3_at hsl i hi
  rcases kids_top hs with ⟨e, ek⟩ | ⟨e, ek⟩ | ⟨e, ek⟩ | ⟨e, ek⟩
  · rw [ek] at hlen
    exact ⟨hs, h0, h1, h2, hT', hsl.isA, fun e2 => by omega, fun e2 => by omega, fun e2 => by omega, fun e2 => by omega, fun e2 => by omega, fun e2 => by omega, fun e2 => by omega, fun e2 => by omega, fun e2 => by omega, fun e2 => by omega, fun e2 => by omega, fun e2 => by omega⟩
  · rw [ek] at hlen
    exact ⟨hs, h0, h1, h2, hT', hsl.isA, fun e2 => by omega, fun e2 => by omega, fun e2 => by omega, fun e2 => by omega, fun e2 => by omega, fun e2 => by omega, fun e2 => by omega, fun e2 => by omega, fun e2 => by omega, fun e2 => by omega, fun e2 => by omega, fun e2 => by omega⟩
  · have hk := hs.kid
    rw [ek] at hlen hks hk
    have hl1 : vs.length = 1 := hlen.symm
    obtain ⟨r0, r1, r2⟩ := key 0 (by omega)
    rw [Nat.zero_mul, Nat.add_zero] at r0 r1 r2
    exact ⟨hs, h0, h1, h2, hT', hsl.isA, fun _ => hl1, fun e2 => by omega, fun _ => r0, fun _ => r1, fun _ => r2, fun e2 => by omega, fun e2 => by omega, fun e2 => by omega, fun _ => (hk _ (by simp)).1, fun e2 => by omega, fun _ => hks.at_ 0 (by simp), fun e2 => by omega⟩
  · have hk := hs.kid
    rw [ek] at hlen hks hk
    have hl2 : vs.length = 2 := hlen.symm
    obtain ⟨r0, r1, r2⟩ := key 0 (by omega)
    obtain ⟨u0, u1, u2⟩ := key 1 (by omega)
    rw [Nat.zero_mul, Nat.add_zero] at r0 r1 r2
    rw [Nat.one_mul] at u0 u1 u2
    exact ⟨hs, h0, h1, h2, hT', hsl.isA, fun e2 => by omega, fun _ => hl2, fun _ => r0, fun _ => r1, fun _ => r2, fun _ => u0, fun _ => u1, fun _ => u2, fun _ => (hk _ (by simp)).1, fun _ => (hk _ (by simp)).1, fun _ => hks.at_ 0 (by simp), fun _ => hks.at_ 1 (by simp)⟩
/-- The line that the i-th reference means. -/
structure RfAt (H : Heap) (ra na : Option Addr) (nn i : Nat) (v : Int) (T : FT) : Prop where
  ex : ∃ (m : Nat) (fa : Option Addr) (n c : Nat), v = ((m + 1 : Nat) : Int) ∧ H (ablk ra) (aoff ra + i) = some (.int .i64 v) ∧ m < nn ∧ H (ablk na) (aoff na + m * 3) = some (.slice fa n c) ∧ FmH H fa n T ∧ NmOk T
theorem RfAt.mono {H H' : Heap} {ra na : Option Addr} {nn i : Nat} {v : Int} {T : FT} (h : RfAt H ra na nn i v T) (hl : HLe H H') : RfAt H' ra na nn i v T := by
  obtain ⟨m, fa, n, c, h1, h2, h3, h4, h5, h6⟩ := h.ex
  exact ⟨m, fa, n, c, h1, hl _ _ _ h2, h3, hl _ _ _ h4, h5.mono hl, h6⟩
/-- The conclusion of a box by spec.boxConc. -/
structure BcAt (H : Heap) (na : Option Addr) (nn nc : Nat) (v : Int) (T : FT) : Prop where
  law : ∀ (H' : Heap) (w0 w : World) (R : Value → World → Prop), HLe H H' → HS H' w → Fr noB w0 w → (∀ w' c0 c1 c2, HS H' w' → Fr noB w0 w' → TW w' T c0 c1 c2 → R (.agg #[c0, c1, c2]) w') → CallsV Yaao.prog 107 #[.int .i64 v, .slice na nn nc] w R
theorem treeOf_ok6 {H : Heap} {w0 w : World} (hH : HS H w) (hF : Fr noB w0 w) {a : Option Addr} {n c : Nat} {t : FT} (tA : FmH H a n t ∧ NmOk t) (R : Value → World → Prop)
    (h : ∀ w' c0 c1 c2, HS H w' → Fr noB w0 w' → TW w' t c0 c1 c2 → R (.agg #[c0, c1, c2]) w') : CallsV Yaao.prog 37 #[.slice a n c] w R :=
  treeOf_ok hH tA.1 tA.2 R (fun w' H' c0 c1 c2 hE f hT => h w' c0 c1 c2 (hH.frN f) (hF.no f) (TW.of hE.hs tA.1.wf.sub.shape hT))
theorem treeEq_ok6 {H : Heap} {w0 w : World} (hH : HS H w) (hF : Fr noB w0 w) {t u : FT} {c0 c1 c2 d0 d1 d2 : Value} (hA : TW w t c0 c1 c2) (hB : TW w u d0 d1 d2) (R : Value → World → Prop)
    (h1 : t = u → ∀ w', HS H w' → Fr noB w0 w' → R (.bool true) w') (h2 : t ≠ u → ∀ w', HS H w' → Fr noB w0 w' → R (.bool false) w') : CallsV Yaao.prog 105 #[.agg #[c0, c1, c2], .agg #[d0, d1, d2]] w R := by
  refine treeEq_ok (tsize t) t u (Nat.le_refl _) hA.sh hB.sh (allH w) w _ _ _ _ _ _ R (allH_HS w) hA.tc hB.tc (fun r w' hr hf => ?_)
  cases r with
  | true => exact h1 (hr.1 rfl) w' (hH.frN hf) (hF.no hf)
  | false => exact h2 (fun e => by have := hr.2 e; cases this) w' (hH.frN hf) (hF.no hf)
theorem isOpK_ok6 {H : Heap} {w0 w : World} (hH : HS H w) (hF : Fr noB w0 w) {t : FT} {c0 c1 c2 : Value} (hA : TW w t c0 c1 c2) (op : Int) (R : Value → World → Prop)
    (h1 : topO t = op → ∀ w', HS H w' → Fr noB w0 w' → R (.bool true) w') (h2 : topO t ≠ op → ∀ w', HS H w' → Fr noB w0 w' → R (.bool false) w') : CallsV Yaao.prog 106 #[.agg #[c0, c1, c2], .int .i64 op] w R := by
  refine isOpK_ok (allH_HS w) hA.tc op R (fun w' hf => ?_)
  by_cases e : topO t = op
  · rw [decide_eq_true e]; exact h1 e w' (hH.frN hf) (hF.no hf)
  · rw [decide_eq_false e]; exact h2 e w' (hH.frN hf) (hF.no hf)
theorem bcAt_of {H : Heap} {na : Option Addr} {nn nc m : Nat} {st : JS} {xs : List NumA} (hxs : st.nums = xs.map NumA.n) (tN : NrH H na nn xs) (hnn : nn ≤ 1048576) (hm : m < nn) {v : Int} (hv : v = ((m + 1 : Nat) : Int)) {T : FT} (hT : trOf (xs.getD (lastIn st.nums (st.nums.getD m num0).box m st.nums.length) na0).n.f = T) : BcAt H na nn nc v T := by
  refine ⟨fun H' w0 w R hl hH hF h => boxConc_ok hH hxs (tN.mono hl) hnn hm v hv R (fun w' H2 c0 c1 c2 hE f hTc => ?_)⟩
  rw [hT] at hTc
  refine h w' c0 c1 c2 (hH.frN f) (hF.no f) (TW.of hE.hs ?_ hTc)
  have hnx : st.nums.length = nn := by rw [hxs, List.length_map, tN.len]
  have := tN.fI _ (show lastIn st.nums (st.nums.getD m num0).box m st.nums.length < xs.length by rw [← tN.len]; exact lastIn_lt _ _ hm _ (by omega))
  rw [hT] at this
  exact this.1.wf.sub.shape
end Go.Proofs.YbzaawGreat
