/-  Lists of lines in memory.  -/
import Derived.Test.YbzaawGreatLnB
namespace Go.Proofs.YbzaawGreat
open Go.Wf Go.Deep
set_option linter.unusedSimpArgs false
set_option linter.unusedVariables false

structure LnA where
  fa : Option Addr
  fc : Nat
  ra : Option Addr
  rc : Nat
  ln : Ln
def la0 : LnA := ⟨none, 0, none, 0, badL⟩
def LnA.enc (x : LnA) : List Value := lnC x.fa x.fc x.ra x.rc x.ln
def encLs (xs : List LnA) : List Value := xs.flatMap LnA.enc
theorem encLs_length (l : List LnA) : (encLs l).length = l.length * 5 := by
  unfold encLs
  induction l with
  | nil => rfl
  | cons t r ih => simp only [List.flatMap_cons, List.length_append, ih, List.length_cons]; simp [LnA.enc, lnC]; omega
theorem encLs_snoc (l : List LnA) (t : LnA) : encLs (l ++ [t]) = encLs l ++ lnC t.fa t.fc t.ra t.rc t.ln := by
  simp [encLs, LnA.enc]
/-- The lines' own lists lie in w, from lo on, each apart from the others. -/
structure Lns (E lo : Nat) (w : World) (xs : List LnA) : Prop where
  f : ∀ x ∈ xs, Own w E 4 x.fa x.ln.f.length x.fc (encNds x.ln.f)
  nf : ∀ x ∈ xs, ∀ k, blkO x.fa k → lo ≤ k
  r : ∀ x ∈ xs, Own w 3 1 x.ra x.ln.refs.length x.rc (intC x.ln.refs)
  nr : ∀ x ∈ xs, ∀ k, blkO x.ra k → lo ≤ k
  df : xs.Pairwise fun x y => ∀ k, blkO x.fa k → ¬ blkO y.fa k
  dr : xs.Pairwise fun x y => ∀ k, blkO x.ra k → ¬ blkO y.ra k
section
variable {E lo : Nat} {w w' : World} {xs : List LnA}
theorem Lns.nil : Lns E lo w [] := ⟨fun _ h => (by cases h), fun _ h => (by cases h), fun _ h => (by cases h), fun _ h => (by cases h), .nil, .nil⟩
theorem Lns.fr {S : Nat → Prop} (h : Lns E lo w xs) (hf : Fr S w w') (h1 : ∀ x ∈ xs, ∀ k, blkO x.fa k → ¬ S k) (h2 : ∀ x ∈ xs, ∀ k, blkO x.ra k → ¬ S k) : Lns E lo w' xs :=
  ⟨fun x hx => (h.f x hx).fr hf (h1 x hx), h.nf, fun x hx => (h.r x hx).fr hf (h2 x hx), h.nr, h.df, h.dr⟩
theorem Lns.frN (h : Lns E lo w xs) (hf : Fr noB w w') : Lns E lo w' xs := h.fr hf (fun _ _ _ _ e => e) (fun _ _ _ _ e => e)
theorem Lns.frO {T sz n c : Nat} {a : Option Addr} {cs : List Value} (h : Lns E lo w xs) (o : Own w T sz a n c cs) (hE : E ≠ T) (hI : 3 ≠ T) (hf : Fr (blkO a) w w') : Lns E lo w' xs :=
  h.fr hf (fun x hx => own_own (h.f x hx) o hE) (fun x hx => own_own (h.r x hx) o hI)
theorem Lns.frB {T b : Nat} {cs : List Value} (h : Lns E lo w xs) (o : Blk w b T cs) (hE : E ≠ T) (hI : 3 ≠ T) (hf : Fr (fun k => k = b) w w') : Lns E lo w' xs :=
  h.fr hf (fun x hx k e e2 => own_blkNe (h.f x hx) o hE (e2 ▸ e)) (fun x hx k e e2 => own_blkNe (h.r x hx) o hI (e2 ▸ e))
theorem Lns.snoc {fa ra : Option Addr} {fc rc : Nat} {ln : Ln} (h : Lns E lo w xs) (g : GotLnE E w w' fa fc ra rc ln) (hlo : lo ≤ w.heap.size) : Lns E lo w' (xs ++ [⟨fa, fc, ra, rc, ln⟩]) := by
  have hh := h.frN g.fr
  refine ⟨fun x hx => ?_, fun x hx => ?_, fun x hx => ?_, fun x hx => ?_, ?_, ?_⟩
  · rw [List.mem_append] at hx
    rcases hx with hx | hx
    · exact hh.f x hx
    · simp at hx; subst hx; exact g.own
  · rw [List.mem_append] at hx
    rcases hx with hx | hx
    · exact h.nf x hx
    · simp at hx; subst hx; exact fun k hk => Nat.le_trans hlo (g.new k hk)
  · rw [List.mem_append] at hx
    rcases hx with hx | hx
    · exact hh.r x hx
    · simp at hx; subst hx; exact g.oi
  · rw [List.mem_append] at hx
    rcases hx with hx | hx
    · exact h.nr x hx
    · simp at hx; subst hx; exact fun k hk => Nat.le_trans hlo (g.ni k hk)
  · refine List.pairwise_append.2 ⟨h.df, List.pairwise_singleton _ _, fun x hx y hy k e1 e2 => ?_⟩
    simp at hy; subst hy
    have := (h.f x hx).lt e1; have := g.new k e2; omega
  · refine List.pairwise_append.2 ⟨h.dr, List.pairwise_singleton _ _, fun x hx y hy k e1 e2 => ?_⟩
    simp at hy; subst hy
    have := (h.r x hx).lt e1; have := g.ni k e2; omega
end
theorem Lns.keep {E lo : Nat} {w : World} (hE : E ≠ 3) : ∀ {xs : List LnA} {H : Heap}, Lns E lo w xs → HS H w → (∀ x ∈ xs, ∀ k, blkO x.fa k ∨ blkO x.ra k → ∀ o, H k o = none) →
    ∃ H', HLe H H' ∧ HS H' w ∧ (∀ x ∈ xs, LnH H' x.fa x.ra x.ln) ∧ ∀ k, (∀ x ∈ xs, ¬ blkO x.fa k ∧ ¬ blkO x.ra k) → ∀ o, H' k o = H k o
  | [], H, _, hH, _ => ⟨H, HLe.refl H, hH, fun _ h => (by cases h), fun _ _ _ => rfl⟩
  | x :: xs, H, h, hH, hn => by
    have hx : x ∈ x :: xs := by simp
    have hr : ∀ y ∈ xs, y ∈ x :: xs := fun y hy => by simp [hy]
    obtain ⟨H1, l1, hH1, t1, m1⟩ := LnH.put hE hH (h.f x hx) (h.r x hx) (fun k hk => hn x hx k (.inl hk)) (fun k hk => hn x hx k (.inr hk))
    have df := List.pairwise_cons.1 h.df
    have dr := List.pairwise_cons.1 h.dr
    obtain ⟨H2, l2, hH2, t2, m2⟩ := Lns.keep hE (xs := xs) (H := H1) ⟨fun y hy => h.f y (hr y hy), fun y hy => h.nf y (hr y hy), fun y hy => h.r y (hr y hy), fun y hy => h.nr y (hr y hy), df.2, dr.2⟩ hH1 (fun y hy k hk o => by
      rw [m1 k (fun e => hk.elim (df.1 y hy k e) (own_own (h.f x hx) (h.r y (hr y hy)) hE k e)) (fun e => hk.elim (own_own (h.r x hx) (h.f y (hr y hy)) (Ne.symm hE) k e) (dr.1 y hy k e))]
      exact hn y (hr y hy) k hk o)
    refine ⟨H2, l1.trans l2, hH2, fun y hy => ?_, fun k hk o => ?_⟩
    · rcases List.mem_cons.1 hy with rfl | hy
      · exact t1.mono l2
      · exact t2 y hy
    · rw [m2 k (fun y hy => hk y (hr y hy)), m1 k (hk x hx).1 (hk x hx).2]
/-- The slice reads, in H, as these lines. -/
structure LsH (H : Heap) (a : Option Addr) (n : Nat) (xs : List LnA) : Prop where
  len : n = xs.length
  sl : SlH H 5 a n (encLs xs)
  ln : ∀ x ∈ xs, LnH H x.fa x.ra x.ln
section
variable {H : Heap} {a : Option Addr} {n : Nat} {xs : List LnA}
theorem LsH.mono {H' : Heap} (h : LsH H a n xs) (hl : HLe H H') : LsH H' a n xs := ⟨h.len, h.sl.mono hl, fun x hx => (h.ln x hx).mono hl⟩
theorem LsH.at_ (h : LsH H a n xs) (i j : Nat) (hi : i < n) (v : Value) (hj : j < 5) (hv : (xs.getD i la0).enc[j]? = some v) : H (ablk a) (aoff a + i * 5 + j) = some v := by
  rw [Nat.add_assoc]
  refine h.sl.cell _ _ ?_
  have hi' : i < xs.length := by rw [← h.len]; exact hi
  have := flat_get LnA.enc 5 xs i j xs[i] (fun _ => rfl) (List.getElem?_eq_getElem hi') hj
  show (xs.flatMap LnA.enc)[i * 5 + j]? = _
  rw [this]
  rw [show xs.getD i la0 = xs[i] by simp [hi']] at hv
  exact hv
theorem LsH.c0 (h : LsH H a n xs) (i : Nat) (hi : i < n) : H (ablk a) (aoff a + i * 5) = some (.int .i64 (xs.getD i la0).ln.kind) := h.at_ i 0 hi _ (by omega) rfl
theorem LsH.c1 (h : LsH H a n xs) (i : Nat) (hi : i < n) : H (ablk a) (aoff a + i * 5 + 1) = some (.slice (xs.getD i la0).fa (xs.getD i la0).ln.f.length (xs.getD i la0).fc) := h.at_ i 1 hi _ (by omega) rfl
theorem LsH.c2 (h : LsH H a n xs) (i : Nat) (hi : i < n) : H (ablk a) (aoff a + i * 5 + 2) = some (.int .i64 (xs.getD i la0).ln.rule) := h.at_ i 2 hi _ (by omega) rfl
theorem LsH.c3 (h : LsH H a n xs) (i : Nat) (hi : i < n) : H (ablk a) (aoff a + i * 5 + 3) = some (.slice (xs.getD i la0).ra (xs.getD i la0).ln.refs.length (xs.getD i la0).rc) := h.at_ i 3 hi _ (by omega) rfl
theorem LsH.c4 (h : LsH H a n xs) (i : Nat) (hi : i < n) : H (ablk a) (aoff a + i * 5 + 4) = some (.int .i64 (xs.getD i la0).ln.src) := h.at_ i 4 hi _ (by omega) rfl
theorem LsH.lnI (h : LsH H a n xs) (i : Nat) (hi : i < n) : LnH H (xs.getD i la0).fa (xs.getD i la0).ra (xs.getD i la0).ln := by
  have hi' : i < xs.length := by rw [← h.len]; exact hi
  refine h.ln _ ?_
  rw [show xs.getD i la0 = xs[i] by simp [hi']]
  exact List.getElem_mem _
end
/-- What the caller gets of a list of lines that was made anew. -/
structure GotLs (T E : Nat) (w w' : World) (a : Option Addr) (n c : Nat) (xs : List LnA) : Prop where
  len : n = xs.length
  fr : Fr noB w w'
  own : Own w' T 5 a n c (encLs xs)
  new : ∀ k, blkO a k → w.heap.size ≤ k
  lns : Lns E w.heap.size w' xs
theorem GotLs.keep {T E : Nat} {H : Heap} {w w' : World} {a : Option Addr} {n c : Nat} {xs : List LnA} (g : GotLs T E w w' a n c xs) (hE : E ≠ 3) (hT : E ≠ T) (hT2 : 3 ≠ T) (hH : HS H w) : ∃ H', HLe H H' ∧ HS H' w' ∧ LsH H' a n xs := by
  obtain ⟨H1, l1, hH1, t1, m1⟩ := g.lns.keep hE (hH.frN g.fr) (fun x hx k hk o => hH.off (hk.elim (g.lns.nf x hx k) (g.lns.nr x hx k)) o)
  obtain ⟨H2, l2, hH2, t2, _⟩ := g.own.keep hH1 (fun k hk o => by
    rw [m1 k (fun x hx => ⟨fun e => own_own (g.lns.f x hx) g.own hT k e hk, fun e => own_own (g.lns.r x hx) g.own hT2 k e hk⟩)]
    exact hH.off (g.new k hk) o)
  exact ⟨H2, l1.trans l2, hH2, g.len, t2, fun x hx => (t1 x hx).mono l2⟩
theorem GotLs.base {T E : Nat} {w0 w w' : World} {a : Option Addr} {n c : Nat} {xs : List LnA} (g : GotLs T E w w' a n c xs) (hf : Fr noB w0 w) : GotLs T E w0 w' a n c xs :=
  ⟨g.len, hf.no g.fr, g.own, fun k hk => Nat.le_trans hf.size (g.new k hk), ⟨g.lns.f, fun x hx k hk => Nat.le_trans hf.size (g.lns.nf x hx k hk), g.lns.r, fun x hx k hk => Nat.le_trans hf.size (g.lns.nr x hx k hk), g.lns.df, g.lns.dr⟩⟩

end Go.Proofs.YbzaawGreat
