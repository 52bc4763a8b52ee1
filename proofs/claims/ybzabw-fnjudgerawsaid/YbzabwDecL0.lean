/-  Lines from bytes: what the walk holds.  -/
import Derived.Test.YbzabwGenF
import Derived.Test.YbzabwLnsB
import Derived.Test.YbzabwFitsW
namespace Go.Wf
/-- A halt ahead of a branch that begins with this region. -/
theorem VC_stopRR {P : Program} (n : Nat) {l : Array Oper} {d : Bool} {c1 c2 : Code} {k : Exit → Env → World → Prop} {ρ : Env} {w : World} (h : Stop (VC P (((Code.region n l d).seq c1).seq c2) k ρ w)) : VC P (((Code.region n l d).seq c1).seq c2) k ρ w := h.out
end Go.Wf
namespace Go.Proofs.Ybzabw
open Go.Wf Go.Deep
set_option linter.unusedSimpArgs false
set_option linter.unusedVariables false

def SmL (ln : Ln) : Prop := SmN ln.f ∧ ln.refs.length ≤ 64
/-- The reader and the lines so far. -/
structure DcO (H Hq : Heap) (w0 w : World) (gb : Nat) (ca : Option Addr) (n cc p : Nat) (a : Option Addr) (c : Nat) (xs : List LnA) : Prop where
  ext : Ext H Hq w0 w
  fr : Fr noB w0 w
  gn : Blk w gb 103 (gnC ca n cc p)
  gw : w0.heap.size ≤ gb
  gh : ∀ o, Hq gb o = none
  le : p ≤ n
  ow : Own w 31 5 a xs.length c (encLs xs)
  wa : ∀ k, blkO a k → w0.heap.size ≤ k ∧ ∀ o, Hq k o = none
  ln : ∀ x ∈ xs, LnH Hq x.fa x.ra x.ln
  sm : ∀ x ∈ xs, SmL x.ln
/-- And the line at hand. -/
structure DcI (H Hq : Heap) (w0 w : World) (gb : Nat) (ca : Option Addr) (n cc p : Nat) (a : Option Addr) (c : Nat) (xs : List LnA) (lb : Nat) (fa : Option Addr) (fc : Nat) (ra : Option Addr) (rc : Nat) (ln : Ln) : Prop where
  o : DcO H Hq w0 w gb ca n cc p a c xs
  lk : Blk w lb 31 (lnC fa fc ra rc ln)
  lw : w0.heap.size ≤ lb
  lh : ∀ o, Hq lb o = none
  na : ∀ k, blkO a k → k ≠ lb
  ll : LnH Hq fa ra ln
  ls : SmL ln
section
variable {H Hq : Heap} {w0 w w' : World} {gb : Nat} {ca : Option Addr} {n cc p : Nat} {a : Option Addr} {c : Nat} {xs : List LnA}
theorem DcO.hs (h : DcO H Hq w0 w gb ca n cc p a c xs) : HS Hq w := h.ext.hs
theorem DcO.ng (h : DcO H Hq w0 w gb ca n cc p a c xs) : ∀ k, blkO a k → k ≠ gb := fun k e e2 => own_blkNe h.ow h.gn (by decide) (e2 ▸ e)
theorem DcO.frN (h : DcO H Hq w0 w gb ca n cc p a c xs) (hf : Fr noB w w') : DcO H Hq w0 w' gb ca n cc p a c xs :=
  ⟨h.ext.frN hf, h.fr.no hf, h.gn.frN hf, h.gw, h.gh, h.le, h.ow.frN hf, h.wa, h.ln, h.sm⟩
/-- The reader goes on; new cells may stay. -/
theorem DcO.step (h : DcO H Hq w0 w gb ca n cc p a c xs) {H' : Heap} {p' : Nat} (hE : Ext Hq H' w w') (hB : Blk w' gb 103 (gnC ca n cc p')) (hp : p' ≤ n) (hf : Fr (fun k => k = gb) w w') : DcO H H' w0 w' gb ca n cc p' a c xs :=
  ⟨h.ext.trans hE h.fr.size, h.fr.trans hf (fun k hk e => by have := h.gw; omega), hB, h.gw, fun o => hE.none h.gn.lt h.gh o, hp, h.ow.fr hf h.ng, fun k e => ⟨(h.wa k e).1, fun o => hE.none (h.ow.lt e) (h.wa k e).2 o⟩, fun x hx => (h.ln x hx).mono hE.le, h.sm⟩
variable {lb : Nat} {fa : Option Addr} {fc : Nat} {ra : Option Addr} {rc : Nat} {ln : Ln}
theorem DcI.gl (h : DcI H Hq w0 w gb ca n cc p a c xs lb fa fc ra rc ln) : lb ≠ gb := fun e => by
  have h1 := h.lk.row
  have h2 := h.o.gn.row
  rw [e] at h1
  have := h1.symm.trans h2
  simp at this
theorem DcI.frN (h : DcI H Hq w0 w gb ca n cc p a c xs lb fa fc ra rc ln) (hf : Fr noB w w') : DcI H Hq w0 w' gb ca n cc p a c xs lb fa fc ra rc ln := ⟨h.o.frN hf, h.lk.frN hf, h.lw, h.lh, h.na, h.ll, h.ls⟩
theorem DcI.step (h : DcI H Hq w0 w gb ca n cc p a c xs lb fa fc ra rc ln) {H' : Heap} {p' : Nat} (hE : Ext Hq H' w w') (hB : Blk w' gb 103 (gnC ca n cc p')) (hp : p' ≤ n) (hf : Fr (fun k => k = gb) w w') : DcI H H' w0 w' gb ca n cc p' a c xs lb fa fc ra rc ln :=
  ⟨h.o.step hE hB hp hf, h.lk.fr hf h.gl, h.lw, fun o => hE.none h.lk.lt h.lh o, h.na, h.ll.mono hE.le, h.ls⟩
/-- Reading on without new cells. -/
theorem DcI.next (h : DcI H Hq w0 w gb ca n cc p a c xs lb fa fc ra rc ln) {p' : Nat} (hB : Blk w' gb 103 (gnC ca n cc p')) (hp : p' ≤ n) (hf : Fr (fun k => k = gb) w w') : DcI H Hq w0 w' gb ca n cc p' a c xs lb fa fc ra rc ln :=
  h.step ⟨HLe.refl _, h.o.hs.fr hf (fun k e o => by subst e; exact h.o.gh o), fun _ _ _ => rfl⟩ hB hp hf
/-- New cells that stay, in blocks laid anew. -/
theorem DcI.more (h : DcI H Hq w0 w gb ca n cc p a c xs lb fa fc ra rc ln) {H' : Heap} (hE : Ext Hq H' w w') (hf : Fr noB w w') : DcI H H' w0 w' gb ca n cc p a c xs lb fa fc ra rc ln :=
  h.step hE (h.o.gn.frN hf) h.o.le (hf.mono (fun _ _ e => e.elim))
/-- A field of the line is written. -/
theorem DcI.set (h : DcI H Hq w0 w gb ca n cc p a c xs lb fa fc ra rc ln) {fa' ra' : Option Addr} {fc' rc' : Nat} {ln' : Ln} (hB : Blk w' lb 31 (lnC fa' fc' ra' rc' ln')) (hf : Fr (fun k => k = lb) w w') (hl : LnH Hq fa' ra' ln') (hs : SmL ln') : DcI H Hq w0 w' gb ca n cc p a c xs lb fa' fc' ra' rc' ln' := by
  have lw := h.lw
  exact ⟨⟨h.o.ext.fr hf (fun k e o => by subst e; exact h.lh o), h.o.fr.trans hf (fun k hk e => by omega), h.o.gn.fr hf (fun e => h.gl e.symm), h.o.gw, h.o.gh, h.o.le, h.o.ow.fr hf h.na, h.o.wa, h.o.ln, h.o.sm⟩, hB, lw, h.lh, h.na, hl, hs⟩
/-- The line is put behind the lines so far. -/
theorem DcI.done (h : DcI H Hq w0 w gb ca n cc p a c xs lb fa fc ra rc ln) {a' : Option Addr} {c' : Nat} (ho : Own w' 31 5 a' (xs.length + 1) c' (encLs xs ++ lnC fa fc ra rc ln)) (hf : Fr (blkO a) w w') (hn : ∀ k, blkO a' k → blkO a k ∨ w.heap.size ≤ k) : DcO H Hq w0 w' gb ca n cc p a' c' (xs ++ [⟨fa, fc, ra, rc, ln⟩]) := by
  have z := h.o.fr.size
  refine ⟨h.o.ext.fr hf (fun k e => (h.o.wa k e).2), h.o.fr.trans hf (fun k hk e => by have := (h.o.wa k e).1; omega), h.o.gn.fr hf (fun e => h.o.ng _ e rfl), h.o.gw, h.o.gh, h.o.le, ?_, fun k e => (hn k e).elim (h.o.wa k) (fun e => ⟨by omega, fun o => h.o.hs.off e o⟩), fun x hx => ?_, fun x hx => ?_⟩
  · rw [encLs_snoc, List.length_append]; exact ho
  · rcases List.mem_append.1 hx with hx | hx
    · exact h.o.ln x hx
    · rw [List.mem_singleton] at hx; subst hx; exact h.ll
  · rcases List.mem_append.1 hx with hx | hx
    · exact h.o.sm x hx
    · rw [List.mem_singleton] at hx; subst hx; exact h.ls
/-- A list of integers of one's own is written. -/
theorem DcI.frO (h : DcI H Hq w0 w gb ca n cc p a c xs lb fa fc ra rc ln) {b : Option Addr} {m d : Nat} {cs : List Value} (o : Own w 3 1 b m d cs) (hb : ∀ k, blkO b k → w0.heap.size ≤ k ∧ ∀ o, Hq k o = none) (hf : Fr (blkO b) w w') : DcI H Hq w0 w' gb ca n cc p a c xs lb fa fc ra rc ln :=
  ⟨⟨h.o.ext.fr hf (fun k e => (hb k e).2), h.o.fr.trans hf (fun k hk e => by have := (hb k e).1; omega), h.o.gn.fr hf (fun e => own_blkNe o h.o.gn (by decide) e), h.o.gw, h.o.gh, h.o.le, h.o.ow.fr hf (own_own h.o.ow o (by decide)), h.o.wa, h.o.ln, h.o.sm⟩, h.lk.fr hf (fun e => own_blkNe o h.lk (by decide) e), h.lw, h.lh, h.na, h.ll, h.ls⟩
/-- A list of integers of one's own is written no more. -/
theorem DcI.addB (h : DcI H Hq w0 w gb ca n cc p a c xs lb fa fc ra rc ln) {b : Option Addr} {m d : Nat} {cs : List Value} (o : Own w 3 1 b m d cs) (hb : ∀ k, blkO b k → w0.heap.size ≤ k ∧ ∀ o, Hq k o = none) {H' : Heap} (hl : HLe Hq H') (hH : HS H' w) (hx : ∀ k, ¬ blkO b k → ∀ o, H' k o = Hq k o) : DcI H H' w0 w gb ca n cc p a c xs lb fa fc ra rc ln :=
  ⟨⟨⟨h.o.ext.le.trans hl, hH, fun k hk q => (hx k (fun e => by have := (hb k e).1; omega) q).trans (h.o.ext.lo k hk q)⟩, h.o.fr, h.o.gn, h.o.gw, fun q => (hx gb (fun e => own_blkNe o h.o.gn (by decide) e) q).trans (h.o.gh q), h.o.le, h.o.ow, fun k e => ⟨(h.o.wa k e).1, fun q => (hx k (fun e2 => own_own h.o.ow o (by decide) k e e2) q).trans ((h.o.wa k e).2 q)⟩, fun x hx2 => (h.o.ln x hx2).mono hl, h.o.sm⟩, h.lk, h.lw, fun q => (hx lb (fun e => own_blkNe o h.lk (by decide) e) q).trans (h.lh q), h.na, h.ll.mono hl, h.ls⟩
end
end Go.Proofs.Ybzabw
