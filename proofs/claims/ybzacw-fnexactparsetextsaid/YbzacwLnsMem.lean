/-  Lists of lines in memory; the text cut into pieces: the plain side.  -/
import Derived.Test.YbzacwLnMem
namespace Go.Proofs.Ybzacw
open Go.Wf Go.Deep
set_option linter.unusedSimpArgs false
set_option linter.unusedVariables false

structure LnA where
  fa : Option Addr
  fc : Nat
  ra : Option Addr
  rc : Nat
  ln : Ln
def la0 : LnA := ⟨none, 0, none, 0, badL⟩
def LnA.enc (x : LnA) : List Value := lnC x.fa x.fc x.ra x.rc x.ln
def encLs (xs : List LnA) : List Value := xs.flatMap LnA.enc
theorem encLs_length (l : List LnA) : (encLs l).length = l.length * 5 := by
  unfold encLs
  induction l with
  | nil => rfl
  | cons t r ih => simp only [List.flatMap_cons, List.length_append, ih, List.length_cons]; simp [LnA.enc, lnC]; omega
theorem encLs_snoc (l : List LnA) (t : LnA) : encLs (l ++ [t]) = encLs l ++ lnC t.fa t.fc t.ra t.rc t.ln := by
  simp [encLs, LnA.enc]
/-- The lines' own lists lie in w, from lo on, each apart from the others. -/
structure Lns (E lo : Nat) (w : World) (xs : List LnA) : Prop where
  f : ∀ x ∈ xs, Own w E 4 x.fa x.ln.f.length x.fc (encNds x.ln.f)
  nf : ∀ x ∈ xs, ∀ k, blkO x.fa k → lo ≤ k
  r : ∀ x ∈ xs, Own w 3 1 x.ra x.ln.refs.length x.rc (intC x.ln.refs)
  nr : ∀ x ∈ xs, ∀ k, blkO x.ra k → lo ≤ k
  df : xs.Pairwise fun x y => ∀ k, blkO x.fa k → ¬ blkO y.fa k
  dr : xs.Pairwise fun x y => ∀ k, blkO x.ra k → ¬ blkO y.ra k
section
variable {E lo : Nat} {w w' : World} {xs : List LnA}
theorem Lns.nil : Lns E lo w [] := ⟨fun _ h => (by cases h), fun _ h => (by cases h), fun _ h => (by cases h), fun _ h => (by cases h), .nil, .nil⟩
theorem Lns.fr {S : Nat → Prop} (h : Lns E lo w xs) (hf : Fr S w w') (h1 : ∀ x ∈ xs, ∀ k, blkO x.fa k → ¬ S k) (h2 : ∀ x ∈ xs, ∀ k, blkO x.ra k → ¬ S k) : Lns E lo w' xs :=
  ⟨fun x hx => (h.f x hx).fr hf (h1 x hx), h.nf, fun x hx => (h.r x hx).fr hf (h2 x hx), h.nr, h.df, h.dr⟩
theorem Lns.frN (h : Lns E lo w xs) (hf : Fr noB w w') : Lns E lo w' xs := h.fr hf (fun _ _ _ _ e => e) (fun _ _ _ _ e => e)
theorem Lns.frO {T sz n c : Nat} {a : Option Addr} {cs : List Value} (h : Lns E lo w xs) (o : Own w T sz a n c cs) (hE : E ≠ T) (hI : 3 ≠ T) (hf : Fr (blkO a) w w') : Lns E lo w' xs :=
  h.fr hf (fun x hx => own_own (h.f x hx) o hE) (fun x hx => own_own (h.r x hx) o hI)
theorem Lns.frB {T b : Nat} {cs : List Value} (h : Lns E lo w xs) (o : Blk w b T cs) (hE : E ≠ T) (hI : 3 ≠ T) (hf : Fr (fun k => k = b) w w') : Lns E lo w' xs :=
  h.fr hf (fun x hx k e e2 => own_blkNe (h.f x hx) o hE (e2 ▸ e)) (fun x hx k e e2 => own_blkNe (h.r x hx) o hI (e2 ▸ e))
theorem Lns.snoc {fa ra : Option Addr} {fc rc : Nat} {ln : Ln} (h : Lns E lo w xs) (g : GotLnE E w w' fa fc ra rc ln) (hlo : lo ≤ w.heap.size) : Lns E lo w' (xs ++ [⟨fa, fc, ra, rc, ln⟩]) := by
  have hh := h.frN g.fr
  refine ⟨fun x hx => ?_, fun x hx => ?_, fun x hx => ?_, fun x hx => ?_, ?_, ?_⟩
  · rw [List.mem_append] at hx
    rcases hx with hx | hx
    · exact hh.f x hx
    · simp at hx; subst hx; exact g.own
  · rw [List.mem_append] at hx
    rcases hx with hx | hx
    · exact h.nf x hx
    · simp at hx; subst hx; exact fun k hk => Nat.le_trans hlo (g.new k hk)
  · rw [List.mem_append] at hx
    rcases hx with hx | hx
    · exact hh.r x hx
    · simp at hx; subst hx; exact g.oi
  · rw [List.mem_append] at hx
    rcases hx with hx | hx
    · exact h.nr x hx
    · simp at hx; subst hx; exact fun k hk => Nat.le_trans hlo (g.ni k hk)
  · refine List.pairwise_append.2 ⟨h.df, List.pairwise_singleton _ _, fun x hx y hy k e1 e2 => ?_⟩
    simp at hy; subst hy
    have := (h.f x hx).lt e1; have := g.new k e2; omega
  · refine List.pairwise_append.2 ⟨h.dr, List.pairwise_singleton _ _, fun x hx y hy k e1 e2 => ?_⟩
    simp at hy; subst hy
    have := (h.r x hx).lt e1; have := g.ni k e2; omega
end
theorem Lns.keep {E lo : Nat} {w : World} (hE : E ≠ 3) : ∀ {xs : List LnA} {H : Heap}, Lns E lo w xs → HS H w → (∀ x ∈ xs, ∀ k, blkO x.fa k ∨ blkO x.ra k → ∀ o, H k o = none) →
    ∃ H', HLe H H' ∧ HS H' w ∧ (∀ x ∈ xs, LnH H' x.fa x.ra x.ln) ∧ ∀ k, (∀ x ∈ xs, ¬ blkO x.fa k ∧ ¬ blkO x.ra k) → ∀ o, H' k o = H k o
  | [], H, _, hH, _ => ⟨H, HLe.refl H, hH, fun _ h => (by cases h), fun _ _ _ => rfl⟩
  | x :: xs, H, h, hH, hn => by
    have hx : x ∈ x :: xs := by simp
    have hr : ∀ y ∈ xs, y ∈ x :: xs := fun y hy => by simp [hy]
    obtain ⟨H1, l1, hH1, t1, m1⟩ := LnH.put hE hH (h.f x hx) (h.r x hx) (fun k hk => hn x hx k (.inl hk)) (fun k hk => hn x hx k (.inr hk))
    have df := List.pairwise_cons.1 h.df
    have dr := List.pairwise_cons.1 h.dr
    obtain ⟨H2, l2, hH2, t2, m2⟩ := Lns.keep hE (xs := xs) (H := H1) ⟨fun y hy => h.f y (hr y hy), fun y hy => h.nf y (hr y hy), fun y hy => h.r y (hr y hy), fun y hy => h.nr y (hr y hy), df.2, dr.2⟩ hH1 (fun y hy k hk o => by
      rw [m1 k (fun e => hk.elim (df.1 y hy k e) (own_own (h.f x hx) (h.r y (hr y hy)) hE k e)) (fun e => hk.elim (own_own (h.r x hx) (h.f y (hr y hy)) (Ne.symm hE) k e) (dr.1 y hy k e))]
      exact hn y (hr y hy) k hk o)
    refine ⟨H2, l1.trans l2, hH2, fun y hy => ?_, fun k hk o => ?_⟩
    · rcases List.mem_cons.1 hy with rfl | hy
      · exact t1.mono l2
      · exact t2 y hy
    · rw [m2 k (fun y hy => hk y (hr y hy)), m1 k (hk x hx).1 (hk x hx).2]
/-- The slice reads, in H, as these lines. -/
structure LsH (H : Heap) (a : Option Addr) (n : Nat) (xs : List LnA) : Prop where
  len : n = xs.length
  sl : SlH H 5 a n (encLs xs)
  ln : ∀ x ∈ xs, LnH H x.fa x.ra x.ln
section
variable {H : Heap} {a : Option Addr} {n : Nat} {xs : List LnA}
theorem LsH.mono {H' : Heap} (h : LsH H a n xs) (hl : HLe H H') : LsH H' a n xs := ⟨h.len, h.sl.mono hl, fun x hx => (h.ln x hx).mono hl⟩
theorem LsH.at_ (h : LsH H a n xs) (i j : Nat) (hi : i < n) (v : Value) (hj : j < 5) (hv : (xs.getD i la0).enc[j]? = some v) : H (ablk a) (aoff a + i * 5 + j) = some v := by
  rw [Nat.add_assoc]
  refine h.sl.cell _ _ ?_
  have hi' : i < xs.length := by rw [← h.len]; exact hi
  have := flat_get LnA.enc 5 xs i j xs[i] (fun _ => rfl) (List.getElem?_eq_getElem hi') hj
  show (xs.flatMap LnA.enc)[i * 5 + j]? = _
  rw [this]
  rw [show xs.getD i la0 = xs[i] by simp [hi']] at hv
  exact hv
theorem LsH.c0 (h : LsH H a n xs) (i : Nat) (hi : i < n) : H (ablk a) (aoff a + i * 5) = some (.int .i64 (xs.getD i la0).ln.kind) := h.at_ i 0 hi _ (by omega) rfl
theorem LsH.c1 (h : LsH H a n xs) (i : Nat) (hi : i < n) : H (ablk a) (aoff a + i * 5 + 1) = some (.slice (xs.getD i la0).fa (xs.getD i la0).ln.f.length (xs.getD i la0).fc) := h.at_ i 1 hi _ (by omega) rfl
theorem LsH.c2 (h : LsH H a n xs) (i : Nat) (hi : i < n) : H (ablk a) (aoff a + i * 5 + 2) = some (.int .i64 (xs.getD i la0).ln.rule) := h.at_ i 2 hi _ (by omega) rfl
theorem LsH.c3 (h : LsH H a n xs) (i : Nat) (hi : i < n) : H (ablk a) (aoff a + i * 5 + 3) = some (.slice (xs.getD i la0).ra (xs.getD i la0).ln.refs.length (xs.getD i la0).rc) := h.at_ i 3 hi _ (by omega) rfl
theorem LsH.c4 (h : LsH H a n xs) (i : Nat) (hi : i < n) : H (ablk a) (aoff a + i * 5 + 4) = some (.int .i64 (xs.getD i la0).ln.src) := h.at_ i 4 hi _ (by omega) rfl
theorem LsH.lnI (h : LsH H a n xs) (i : Nat) (hi : i < n) : LnH H (xs.getD i la0).fa (xs.getD i la0).ra (xs.getD i la0).ln := by
  have hi' : i < xs.length := by rw [← h.len]; exact hi
  refine h.ln _ ?_
  rw [show xs.getD i la0 = xs[i] by simp [hi']]
  exact List.getElem_mem _
end
/-- What the caller gets of a list of lines that was made anew. -/
structure GotLs (T E : Nat) (w w' : World) (a : Option Addr) (n c : Nat) (xs : List LnA) : Prop where
  len : n = xs.length
  fr : Fr noB w w'
  own : Own w' T 5 a n c (encLs xs)
  new : ∀ k, blkO a k → w.heap.size ≤ k
  lns : Lns E w.heap.size w' xs
theorem GotLs.keep {T E : Nat} {H : Heap} {w w' : World} {a : Option Addr} {n c : Nat} {xs : List LnA} (g : GotLs T E w w' a n c xs) (hE : E ≠ 3) (hT : E ≠ T) (hT2 : 3 ≠ T) (hH : HS H w) : ∃ H', HLe H H' ∧ HS H' w' ∧ LsH H' a n xs := by
  obtain ⟨H1, l1, hH1, t1, m1⟩ := g.lns.keep hE (hH.frN g.fr) (fun x hx k hk o => hH.off (hk.elim (g.lns.nf x hx k) (g.lns.nr x hx k)) o)
  obtain ⟨H2, l2, hH2, t2, _⟩ := g.own.keep hH1 (fun k hk o => by
    rw [m1 k (fun x hx => ⟨fun e => own_own (g.lns.f x hx) g.own hT k e hk, fun e => own_own (g.lns.r x hx) g.own hT2 k e hk⟩)]
    exact hH.off (g.new k hk) o)
  exact ⟨H2, l1.trans l2, hH2, g.len, t2, fun x hx => (t1 x hx).mono l2⟩
theorem GotLs.base {T E : Nat} {w0 w w' : World} {a : Option Addr} {n c : Nat} {xs : List LnA} (g : GotLs T E w w' a n c xs) (hf : Fr noB w0 w) : GotLs T E w0 w' a n c xs :=
  ⟨g.len, hf.no g.fr, g.own, fun k hk => Nat.le_trans hf.size (g.new k hk), ⟨g.lns.f, fun x hx k hk => Nat.le_trans hf.size (g.lns.nf x hx k hk), g.lns.r, fun x hx k hk => Nat.le_trans hf.size (g.lns.nr x hx k hk), g.lns.df, g.lns.dr⟩⟩

/-- The pieces of the text from i on; the piece at hand began at st. -/
def pcs (s : ByteArray) : Nat → Nat → Nat → List ByteArray
  | 0, i, st => [s.extract st s.size]
  | n + 1, i, st => if byteAt s i = 10 then s.extract st i :: pcs s n (i + 1) (i + 1) else pcs s n (i + 1) st
def restP (s : ByteArray) (i st : Nat) : List ByteArray := if i ≤ s.size then pcs s (s.size - i) i st else []
def pieces (s : ByteArray) : List ByteArray := restP s 0 0
theorem restP_end (s : ByteArray) (st : Nat) : restP s s.size st = [s.extract st s.size] := by
  simp [restP, pcs]
theorem restP_over (s : ByteArray) (st : Nat) : restP s (s.size + 1) st = [] := by
  unfold restP; rw [if_neg (by omega)]
theorem restP_nl {s : ByteArray} {i : Nat} (st : Nat) (hi : i < s.size) (h : byteAt s i = 10) : restP s i st = s.extract st i :: restP s (i + 1) (i + 1) := by
  unfold restP
  rw [if_pos (by omega), if_pos (by omega), show s.size - i = (s.size - (i + 1)) + 1 by omega, pcs, if_pos h]
theorem restP_no {s : ByteArray} {i : Nat} (st : Nat) (hi : i < s.size) (h : byteAt s i ≠ 10) : restP s i st = restP s (i + 1) st := by
  unfold restP
  rw [if_pos (by omega), if_pos (by omega), show s.size - i = (s.size - (i + 1)) + 1 by omega, pcs, if_neg h]
theorem pcs_len (s : ByteArray) : ∀ n i st, (pcs s n i st).length ≤ n + 1
  | 0, _, _ => by simp [pcs]
  | n + 1, i, st => by
    unfold pcs
    split
    · have := pcs_len s n (i + 1) (i + 1); simp; omega
    · have := pcs_len s n (i + 1) st; omega
theorem pieces_len (s : ByteArray) : (pieces s).length ≤ s.size + 1 := by
  unfold pieces restP; rw [if_pos (by omega)]; have := pcs_len s (s.size - 0) 0 0; omega
theorem pcs_size (s : ByteArray) : ∀ n i st, ∀ p ∈ pcs s n i st, p.size ≤ s.size
  | 0, _, st, p, h => by simp [pcs] at h; subst h; exact ext_le _ _ _
  | n + 1, i, st, p, h => by
    unfold pcs at h
    split at h
    · rcases List.mem_cons.1 h with rfl | h
      · exact ext_le _ _ _
      · exact pcs_size s n _ _ p h
    · exact pcs_size s n _ _ p h
theorem pieces_size (s : ByteArray) : ∀ p ∈ pieces s, p.size ≤ s.size := by
  unfold pieces restP; rw [if_pos (by omega)]; exact pcs_size s _ _ _
def Ln.at_ (l : Ln) (k : Int) : Ln := ⟨l.kind, l.f, l.rule, l.refs, k⟩
/-- The lines of the pieces; the first piece is line k. -/
def linesF (P : PP) : List ByteArray → Nat → List Ln
  | [], _ => []
  | p :: r, k => if (lexF p).length = 0 then linesF P r (k + 1) else (lineF P (toksOf p)).at_ k :: linesF P r (k + 1)
theorem linesF_blank {P : PP} {p : ByteArray} (r : List ByteArray) (k : Nat) (h : (lexF p).length = 0) : linesF P (p :: r) k = linesF P r (k + 1) := by
  simp only [linesF]; rw [if_pos h]
theorem linesF_line {P : PP} {p : ByteArray} (r : List ByteArray) (k : Nat) (h : (lexF p).length ≠ 0) : linesF P (p :: r) k = (lineF P (toksOf p)).at_ k :: linesF P r (k + 1) := by
  simp only [linesF]; rw [if_neg h]
theorem linesF_len (P : PP) : ∀ l k, (linesF P l k).length ≤ l.length
  | [], _ => by simp [linesF]
  | p :: r, k => by
    have := linesF_len P r (k + 1)
    unfold linesF
    split <;> simp <;> omega
def textF (P : PP) (s : ByteArray) : List Ln := if s.size > 65536 then [] else linesF P (pieces s) 1
theorem textF_len (P : PP) (s : ByteArray) : (textF P s).length ≤ 65537 := by
  unfold textF
  split
  · simp
  · have := linesF_len P (pieces s) 1; have := pieces_len s; omega
theorem linesF_bd {P : PP} (hP : ∀ ts, Ans ts (P ts).1 (P ts).2) : ∀ l k, ∀ x ∈ linesF P l k, x.f.length ≤ 65536 ∧ x.refs.length ≤ 65536
  | [], _, x, hx => by simp [linesF] at hx
  | p :: r, k, x, hx => by
    unfold linesF at hx
    split at hx
    · exact linesF_bd hP r _ x hx
    · rcases List.mem_cons.1 hx with rfl | hx
      · have h1 := lineF_bd hP (toksOf p)
        have h2 := toksOf_len p
        exact ⟨by show (lineF P (toksOf p)).f.length ≤ _; omega, by show (lineF P (toksOf p)).refs.length ≤ _; omega⟩
      · exact linesF_bd hP r _ x hx
theorem textF_bd {P : PP} (hP : ∀ ts, Ans ts (P ts).1 (P ts).2) (s : ByteArray) : ∀ x ∈ textF P s, x.f.length ≤ 65536 ∧ x.refs.length ≤ 65536 := by
  unfold textF
  split
  · intro x hx; cases hx
  · exact linesF_bd hP _ _
end Go.Proofs.Ybzacw
