/-  Lists of verdicts as the laws copy them.  -/
import Derived.Test.YbzacwVGd
import Derived.Test.YbzacwNdCv
namespace Go.Proofs.Ybzacw
open Go.Wf Go.Deep
set_option linter.unusedSimpArgs false
set_option linter.unusedVariables false

/-- The slice reads, in H, as these verdicts, with all their lists. -/
structure VN (H : Heap) (a : Option Addr) (n : Nat) (xs : List VdA) : Prop where
  len : n = xs.length
  sl : SlH H 5 a n (encVs xs)
  vn : ∀ x ∈ xs, VdN H x
section
variable {H : Heap} {a : Option Addr} {n : Nat} {xs : List VdA}
theorem VN.mono {H' : Heap} (h : VN H a n xs) (hl : HLe H H') : VN H' a n xs := ⟨h.len, h.sl.mono hl, fun x hx => (h.vn x hx).mono hl⟩
theorem VN.at_ (h : VN H a n xs) (i j : Nat) (hi : i < n) (v : Value) (hj : j < 5) (hv : (xs.getD i va0).enc[j]? = some v) : H (ablk a) (aoff a + i * 5 + j) = some v := by
  rw [Nat.add_assoc]
  refine h.sl.cell _ _ ?_
  have hi' : i < xs.length := by rw [← h.len]; exact hi
  have := flat_get VdA.enc 5 xs i j xs[i] (fun _ => rfl) (List.getElem?_eq_getElem hi') hj
  show (xs.flatMap VdA.enc)[i * 5 + j]? = _
  rw [this]
  rw [show xs.getD i va0 = xs[i] by simp [hi']] at hv
  exact hv
theorem VN.c0 (h : VN H a n xs) (i : Nat) (hi : i < n) : H (ablk a) (aoff a + i * 5) = some (.bool (xs.getD i va0).ok) := h.at_ i 0 hi _ (by omega) rfl
theorem VN.c1 (h : VN H a n xs) (i : Nat) (hi : i < n) : H (ablk a) (aoff a + i * 5 + 1) = some (.int .i64 (xs.getD i va0).code) := h.at_ i 1 hi _ (by omega) rfl
theorem VN.c2 (h : VN H a n xs) (i : Nat) (hi : i < n) : H (ablk a) (aoff a + i * 5 + 2) = some (.int .i64 (xs.getD i va0).at_) := h.at_ i 2 hi _ (by omega) rfl
theorem VN.c3 (h : VN H a n xs) (i : Nat) (hi : i < n) : H (ablk a) (aoff a + i * 5 + 3) = some (.slice (xs.getD i va0).pa (xs.getD i va0).ps.length (xs.getD i va0).pc) := h.at_ i 3 hi _ (by omega) rfl
theorem VN.c4 (h : VN H a n xs) (i : Nat) (hi : i < n) : H (ablk a) (aoff a + i * 5 + 4) = some (.slice (xs.getD i va0).g.fa (tsize (xs.getD i va0).g.t) (xs.getD i va0).g.fc) := h.at_ i 4 hi _ (by omega) rfl
theorem VN.vI (h : VN H a n xs) (i : Nat) (hi : i < n) : VdN H (xs.getD i va0) := by
  have hi' : i < xs.length := by rw [← h.len]; exact hi
  refine h.vn _ ?_
  rw [show xs.getD i va0 = xs[i] by simp [hi']]
  exact List.getElem_mem _
end
/-- A list of premises in the making. -/
structure CvP (Hq Hr : Heap) (w1 w' : World) (zs : List FmA) (pa : Option Addr) (pc : Nat) : Prop where
  ext : Ext Hq Hr w1 w'
  fr : Fr noB w1 w'
  own : Own w' 95 1 pa zs.length pc (zs.map FmA.cell)
  new : ∀ k, blkO pa k → w1.heap.size ≤ k
  off : ∀ k, blkO pa k → ∀ o, Hr k o = none
  nds : ∀ z ∈ zs, NdH Hr z.fa (tsize z.t) (lay 0 z.t)
theorem CvP.init {H : Heap} {w : World} (hH : HS H w) : CvP H H w (w.alloc (.cells #[] 95)) [] (some ⟨w.heap.size, 0, none⟩) 0 :=
  ⟨⟨HLe.refl _, hH.frN (Fr.alloc _ _ _ _), fun _ _ _ => rfl⟩, Fr.alloc _ _ _ _, Own.mk' (by rfl) (heap_alloc_new w _) (Nat.le_refl _) (Nat.zero_le _) rfl rfl, fun k hk => by simp [blkO] at hk; omega, fun k hk o => hH.off (by simp [blkO] at hk; omega) o, fun _ h => (by cases h)⟩
theorem CvP.add {Hq Hr : Heap} {w1 w' w2 w5 : World} {zs : List FmA} {pa pa' a : Option Addr} {pc pc' c : Nat} {t : FT} (h : CvP Hq Hr w1 w' zs pa pc) (g : GotNds 113 w' w2 a (tsize t) c (lay 0 t))
    (ho : Own w5 95 1 pa' (zs.length + 1) pc' (zs.map FmA.cell ++ [.slice a (tsize t) c])) (f5 : Fr (blkO pa) w2 w5) (hn : ∀ k, blkO pa' k → blkO pa k ∨ w2.heap.size ≤ k) :
    ∃ Hs, CvP Hq Hs w1 w5 (zs ++ [⟨a, c, t⟩]) pa' pc' := by
  obtain ⟨H1, l1, hH1, s1, m1⟩ := g.own.keep (h.ext.hs.frN g.fr) (fun k hk o => h.ext.hs.off (g.new k hk) o)
  have z1 := h.fr.size
  have z2 := g.fr.size
  have hp : ∀ k, blkO pa k → ∀ o, H1 k o = none := fun k hk o => (m1 k (fun e => by have := h.own.lt hk; have := g.new k e; omega) o).trans (h.off k hk o)
  have e1 : Ext Hq H1 w1 w2 := ⟨h.ext.le.trans l1, hH1, fun k hk o => (m1 k (fun e => by have := g.new k e; omega) o).trans (h.ext.lo k hk o)⟩
  refine ⟨H1, e1.fr f5 hp, (h.fr.no g.fr).trans f5 (fun k hk e => by have := h.new k e; omega), by simpa [FmA.cell] using ho, fun k hk => ?_, fun k hk o => ?_, fun z hz => ?_⟩
  · rcases hn k hk with e | e
    · exact h.new k e
    · omega
  · rcases hn k hk with e | e
    · exact hp k e o
    · exact hH1.off e o
  · rcases List.mem_append.1 hz with hz | hz
    · exact (h.nds z hz).mono l1
    · simp at hz; subst hz; exact ⟨g.len, s1⟩
theorem CvP.frN {Hq Hr : Heap} {w1 w' w2 : World} {zs : List FmA} {pa : Option Addr} {pc : Nat} (h : CvP Hq Hr w1 w' zs pa pc) (hf : Fr noB w' w2) : CvP Hq Hr w1 w2 zs pa pc := ⟨h.ext.frN hf, h.fr.no hf, h.own.frN hf, h.new, h.off, h.nds⟩
/-- The list of premises stays. -/
theorem CvP.done {Hq Hr : Heap} {w1 w' : World} {zs : List FmA} {pa : Option Addr} {pc : Nat} (h : CvP Hq Hr w1 w' zs pa pc) : ∃ Hs, Ext Hq Hs w1 w' ∧ SlH Hs 1 pa zs.length (zs.map FmA.cell) ∧ ∀ z ∈ zs, NdH Hs z.fa (tsize z.t) (lay 0 z.t) := by
  obtain ⟨H1, l1, hH1, s1, m1⟩ := h.own.keep h.ext.hs (fun k hk o => h.off k hk o)
  exact ⟨H1, ⟨h.ext.le.trans l1, hH1, fun k hk o => (m1 k (fun e => by have := h.new k e; omega) o).trans (h.ext.lo k hk o)⟩, s1, fun z hz => (h.nds z hz).mono l1⟩
/-- A list of verdicts in the making. -/
structure CvS (H Hq : Heap) (w w' : World) (ys : List VdA) (b : Option Addr) (d : Nat) : Prop where
  ext : Ext H Hq w w'
  fr : Fr noB w w'
  own : Own w' 97 5 b ys.length d (encVs ys)
  new : ∀ k, blkO b k → w.heap.size ≤ k
  off : ∀ k, blkO b k → ∀ o, Hq k o = none
  vn : ∀ y ∈ ys, VdN Hq y
theorem CvS.init {H : Heap} {w : World} (hH : HS H w) : CvS H H w (w.alloc (.cells #[] 97)) [] (some ⟨w.heap.size, 0, none⟩) 0 :=
  ⟨⟨HLe.refl _, hH.frN (Fr.alloc _ _ _ _), fun _ _ _ => rfl⟩, Fr.alloc _ _ _ _, Own.mk' (by rfl) (heap_alloc_new w _) (Nat.le_refl _) (Nat.zero_le _) rfl rfl, fun k hk => by simp [blkO] at hk; omega, fun k hk o => hH.off (by simp [blkO] at hk; omega) o, fun _ h => (by cases h)⟩
theorem CvS.add {H Hq Hs : Heap} {w w1 w3 w4 w5 w6 : World} {ys : List VdA} {b b' : Option Addr} {d d' : Nat} {y : VdA} (h : CvS H Hq w w1 ys b d) (hs : Ext Hq Hs w1 w3) (f3 : Fr noB w1 w3) (f4 : Fr noB w3 w4) (hsl : SlH Hs 1 y.pa y.ps.length (y.ps.map FmA.cell)) (hps : ∀ z ∈ y.ps, NdH Hs z.fa (tsize z.t) (lay 0 z.t) ∧ TOk z.t) (hyn : y.ps.length ≤ 1048576) (hgs : tsize y.g.t ≤ 1048576)
    (g : GotNds 113 w4 w5 y.g.fa (tsize y.g.t) y.g.fc (lay 0 y.g.t)) (ho : Own w6 97 5 b' (ys.length + 1) d' (encVs ys ++ y.enc)) (f6 : Fr (blkO b) w5 w6) (hn : ∀ k, blkO b' k → blkO b k ∨ w5.heap.size ≤ k) :
    ∃ Ht, CvS H Ht w w6 (ys ++ [y]) b' d' := by
  obtain ⟨H1, l1, hH1, s1, m1⟩ := g.own.keep ((hs.hs.frN f4).frN g.fr) (fun k hk o => (hs.hs.frN f4).off (g.new k hk) o)
  have z0 := h.fr.size
  have z1 := f3.size
  have z2 := f4.size
  have z3 := g.fr.size
  have hp : ∀ k, blkO b k → ∀ o, H1 k o = none := fun k hk o => by
    have hk1 := h.own.lt hk
    exact (m1 k (fun e => by have := g.new k e; omega) o).trans ((hs.lo k hk1 o).trans (h.off k hk o))
  have e1 : Ext H H1 w w5 := ⟨(h.ext.le.trans hs.le).trans l1, hH1, fun k hk o => (m1 k (fun e => by have := g.new k e; omega) o).trans ((hs.lo k (by omega) o).trans (h.ext.lo k hk o))⟩
  refine ⟨H1, e1.fr f6 hp, (((h.fr.no f3).no f4).no g.fr).trans f6 (fun k hk e => by have := h.new k e; omega), by rw [encVs_snoc, List.length_append]; exact ho, fun k hk => ?_, fun k hk o => ?_, fun z hz => ?_⟩
  · rcases hn k hk with e | e
    · exact h.new k e
    · omega
  · rcases hn k hk with e | e
    · exact hp k e o
    · exact hH1.off e o
  · rcases List.mem_append.1 hz with hz | hz
    · exact (h.vn z hz).mono (hs.le.trans l1)
    · simp at hz; subst hz
      exact ⟨hsl.mono l1, fun p hp => ⟨(hps p hp).1.mono l1, (hps p hp).2⟩, ⟨g.len, s1⟩, hgs, hyn⟩
theorem CvS.done {H Hq : Heap} {w w' : World} {ys : List VdA} {b : Option Addr} {d : Nat} (h : CvS H Hq w w' ys b d) : ∃ Ht, Ext H Ht w w' ∧ VN Ht b ys.length ys := by
  obtain ⟨H1, l1, hH1, s1, m1⟩ := h.own.keep h.ext.hs (fun k hk o => h.off k hk o)
  exact ⟨H1, ⟨h.ext.le.trans l1, hH1, fun k hk o => (m1 k (fun e => by have := h.new k e; omega) o).trans (h.ext.lo k hk o)⟩, rfl, s1, fun z hz => (h.vn z hz).mono l1⟩
theorem take_snocFm (xs : List FmA) (i : Nat) (h : i < xs.length) : (xs.take (i + 1)).map FmA.t = (xs.take i).map FmA.t ++ [(xs.getD i fm0).t] := by
  rw [List.take_succ_eq_append_getElem h, List.map_append]; simp [h]
theorem take_snocV (xs : List VdA) (i : Nat) (h : i < xs.length) : (xs.take (i + 1)).map VdA.v = (xs.take i).map VdA.v ++ [(xs.getD i va0).v] := by
  rw [List.take_succ_eq_append_getElem h, List.map_append]; simp [h]
end Go.Proofs.Ybzacw
