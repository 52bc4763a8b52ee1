/-  What the judge holds inside a theorem.  -/
import Derived.Test.YbzaawGreatJudgeB1
namespace Go.Proofs.YbzaawGreat
open Go.Wf Go.Deep
set_option linter.unusedSimpArgs false
set_option linter.unusedVariables false

def stkC (ss : List Nat) : List Value := intC (ss.map fun s : Nat => (s : Int))
theorem stkC_snoc (ss : List Nat) (b : Nat) : stkC (ss ++ [b]) = stkC ss ++ [.int .i64 b] := by simp [stkC, intC]
theorem stkC_drop (ss : List Nat) (h : ss ≠ []) : (stkC ss).take ((ss.length - 1) * 1) = stkC ss.dropLast := by
  rw [List.dropLast_eq_take]; simp [stkC, intC, List.map_take]
theorem stkC_last {ss : List Nat} {b : Nat} (h : ss.getLast? = some b) : (stkC ss)[ss.length - 1]? = some (.int .i64 b) := by
  rw [List.getLast?_eq_getElem?] at h
  simp [stkC, intC, h]
/-- The four lists that the judge holds, each a block of its own. -/
structure JM (H : Heap) (w0 w : World) (xs : List NumA) (bs : List Bx) (ss : List Nat) (ps : List FmA) (na ba sa pa : Option Addr) (nc bc sc pc : Nat) : Prop where
  hs : HS H w
  fr : Fr noB w0 w
  on : Own w 125 3 na (xs.length + 1) nc (encNums (na0 :: xs))
  ob : Own w 132 4 ba bs.length bc (encBx bs)
  os : Own w 3 1 sa ss.length sc (stkC ss)
  op : Own w 32 1 pa ps.length pc (ps.map FmA.cell)
  pf : Fms w0.heap.size w ps
  pw : ∀ p ∈ ps, TOk p.t
  wn : ∀ k, blkO na k → w0.heap.size ≤ k ∧ ∀ o, H k o = none
  wb : ∀ k, blkO ba k → w0.heap.size ≤ k ∧ ∀ o, H k o = none
  ws : ∀ k, blkO sa k → w0.heap.size ≤ k ∧ ∀ o, H k o = none
  wp : ∀ k, blkO pa k → w0.heap.size ≤ k ∧ ∀ o, H k o = none
section
variable {H H' : Heap} {w0 w w' : World} {xs : List NumA} {bs : List Bx} {ss : List Nat} {ps : List FmA} {na ba sa pa : Option Addr} {nc bc sc pc : Nat}
theorem JM.frN (h : JM H w0 w xs bs ss ps na ba sa pa nc bc sc pc) (hf : Fr noB w w') : JM H w0 w' xs bs ss ps na ba sa pa nc bc sc pc :=
  ⟨h.hs.frN hf, h.fr.no hf, h.on.frN hf, h.ob.frN hf, h.os.frN hf, h.op.frN hf, h.pf.frN hf, h.pw, h.wn, h.wb, h.ws, h.wp⟩
theorem JM.up (h : JM H w0 w xs bs ss ps na ba sa pa nc bc sc pc) (hf : Fr noB w w') (hH : HS H' w') (he : ∀ k, k < w.heap.size → ∀ o, H' k o = H k o) : JM H' w0 w' xs bs ss ps na ba sa pa nc bc sc pc :=
  ⟨hH, h.fr.no hf, h.on.frN hf, h.ob.frN hf, h.os.frN hf, h.op.frN hf, h.pf.frN hf, h.pw, fun k e => ⟨(h.wn k e).1, fun o => (he k (h.on.lt e) o).trans ((h.wn k e).2 o)⟩, fun k e => ⟨(h.wb k e).1, fun o => (he k (h.ob.lt e) o).trans ((h.wb k e).2 o)⟩,
    fun k e => ⟨(h.ws k e).1, fun o => (he k (h.os.lt e) o).trans ((h.ws k e).2 o)⟩, fun k e => ⟨(h.wp k e).1, fun o => (he k (h.op.lt e) o).trans ((h.wp k e).2 o)⟩⟩
theorem JM.down (h : JM H' w0 w xs bs ss ps na ba sa pa nc bc sc pc) (hl : HLe H H') : JM H w0 w xs bs ss ps na ba sa pa nc bc sc pc := by
  have key : ∀ k, (∀ o, H' k o = none) → ∀ o, H k o = none := fun k hk o => by
    cases e : H k o with
    | none => rfl
    | some v => have := hl _ _ _ e; rw [hk o] at this; cases this
  exact ⟨HS.down h.hs hl, h.fr, h.on, h.ob, h.os, h.op, h.pf, h.pw, fun k e => ⟨(h.wn k e).1, key k (h.wn k e).2⟩, fun k e => ⟨(h.wb k e).1, key k (h.wb k e).2⟩, fun k e => ⟨(h.ws k e).1, key k (h.ws k e).2⟩, fun k e => ⟨(h.wp k e).1, key k (h.wp k e).2⟩⟩
theorem JM.le (h : JM H w0 w xs bs ss ps na ba sa pa nc bc sc pc) : w0.heap.size ≤ w.heap.size := h.fr.size
theorem JM.new (h : JM H w0 w xs bs ss ps na ba sa pa nc bc sc pc) {k : Nat} (hk : w.heap.size ≤ k) : w0.heap.size ≤ k ∧ ∀ o, H k o = none := ⟨Nat.le_trans h.le hk, fun o => h.hs.off hk o⟩
theorem JM.setN (h : JM H w0 w xs bs ss ps na ba sa pa nc bc sc pc) {ys : List NumA} {a : Option Addr} {c : Nat} (ho : Own w' 125 3 a (ys.length + 1) c (encNums (na0 :: ys))) (hf : Fr (blkO na) w w') (hn : ∀ k, blkO a k → blkO na k ∨ w.heap.size ≤ k) :
    JM H w0 w' ys bs ss ps a ba sa pa c bc sc pc :=
  ⟨h.hs.fr hf (fun k e => (h.wn k e).2), h.fr.trans hf (fun k hk e => absurd (h.wn k e).1 (Nat.not_le.2 hk)), ho, h.ob.fr hf (own_own h.ob h.on (by decide)), h.os.fr hf (own_own h.os h.on (by decide)), h.op.fr hf (own_own h.op h.on (by decide)), h.pf.frO h.on (by decide) hf, h.pw,
    fun k e => (hn k e).elim (h.wn k) h.new, h.wb, h.ws, h.wp⟩
theorem JM.setB (h : JM H w0 w xs bs ss ps na ba sa pa nc bc sc pc) {ys : List Bx} {a : Option Addr} {c : Nat} (ho : Own w' 132 4 a ys.length c (encBx ys)) (hf : Fr (blkO ba) w w') (hn : ∀ k, blkO a k → blkO ba k ∨ w.heap.size ≤ k) :
    JM H w0 w' xs ys ss ps na a sa pa nc c sc pc :=
  ⟨h.hs.fr hf (fun k e => (h.wb k e).2), h.fr.trans hf (fun k hk e => absurd (h.wb k e).1 (Nat.not_le.2 hk)), h.on.fr hf (own_own h.on h.ob (by decide)), ho, h.os.fr hf (own_own h.os h.ob (by decide)), h.op.fr hf (own_own h.op h.ob (by decide)), h.pf.frO h.ob (by decide) hf, h.pw,
    h.wn, fun k e => (hn k e).elim (h.wb k) h.new, h.ws, h.wp⟩
theorem JM.setS (h : JM H w0 w xs bs ss ps na ba sa pa nc bc sc pc) {ys : List Nat} {a : Option Addr} {c : Nat} (ho : Own w' 3 1 a ys.length c (stkC ys)) (hf : Fr (blkO sa) w w') (hn : ∀ k, blkO a k → blkO sa k ∨ w.heap.size ≤ k) :
    JM H w0 w' xs bs ys ps na ba a pa nc bc c pc :=
  ⟨h.hs.fr hf (fun k e => (h.ws k e).2), h.fr.trans hf (fun k hk e => absurd (h.ws k e).1 (Nat.not_le.2 hk)), h.on.fr hf (own_own h.on h.os (by decide)), h.ob.fr hf (own_own h.ob h.os (by decide)), ho, h.op.fr hf (own_own h.op h.os (by decide)), h.pf.frO h.os (by decide) hf, h.pw,
    h.wn, h.wb, fun k e => (hn k e).elim (h.ws k) h.new, h.wp⟩
theorem JM.cutS (h : JM H w0 w xs bs ss ps na ba sa pa nc bc sc pc) (hne : ss ≠ []) : JM H w0 w xs bs ss.dropLast ps na ba sa pa nc bc sc pc := by
  refine ⟨h.hs, h.fr, h.on, h.ob, ?_, h.op, h.pf, h.pw, h.wn, h.wb, h.ws, h.wp⟩
  have := h.os.cut (ss.length - 1) (by omega)
  rw [stkC_drop ss hne] at this
  rw [List.length_dropLast]; exact this
theorem JM.addN (h : JM H w0 w xs bs ss ps na ba sa pa nc bc sc pc) (y : NumA) {a : Option Addr} {c : Nat} (ho : Own w' 125 3 a (xs.length + 1 + 1) c (encNums (na0 :: xs) ++ y.enc)) (hf : Fr (blkO na) w w') (hn : ∀ k, blkO a k → blkO na k ∨ w.heap.size ≤ k) :
    JM H w0 w' (xs ++ [y]) bs ss ps a ba sa pa c bc sc pc := by
  refine h.setN ?_ hf hn
  rw [← List.cons_append, encNums_snoc, List.length_append]
  exact ho
theorem JM.addB (h : JM H w0 w xs bs ss ps na ba sa pa nc bc sc pc) (y : Bx) {a : Option Addr} {c : Nat} (ho : Own w' 132 4 a (bs.length + 1) c (encBx bs ++ y.enc)) (hf : Fr (blkO ba) w w') (hn : ∀ k, blkO a k → blkO ba k ∨ w.heap.size ≤ k) :
    JM H w0 w' xs (bs ++ [y]) ss ps na a sa pa nc c sc pc := by
  refine h.setB ?_ hf hn
  rw [encBx_snoc, List.length_append]
  exact ho
theorem JM.addS (h : JM H w0 w xs bs ss ps na ba sa pa nc bc sc pc) (b : Nat) {a : Option Addr} {c : Nat} (ho : Own w' 3 1 a (ss.length + 1) c (stkC ss ++ [.int .i64 b])) (hf : Fr (blkO sa) w w') (hn : ∀ k, blkO a k → blkO sa k ∨ w.heap.size ≤ k) :
    JM H w0 w' xs bs (ss ++ [b]) ps na ba a pa nc bc c pc := by
  refine h.setS ?_ hf hn
  rw [stkC_snoc, List.length_append]
  exact ho
theorem JM.setP (h : JM H w0 w xs bs ss ps na ba sa pa nc bc sc pc) {w1 : World} {fa : Option Addr} {n fc : Nat} {t : FT} (g : GotNds 113 w w1 fa n fc (lay 0 t)) (ht : TOk t) {a : Option Addr} {c : Nat} (ho : Own w' 32 1 a (ps.length + 1) c (ps.map FmA.cell ++ [.slice fa n fc])) (hf : Fr (blkO pa) w1 w')
    (hn : ∀ k, blkO a k → blkO pa k ∨ w1.heap.size ≤ k) : JM H w0 w' xs bs ss (ps ++ [⟨fa, fc, t⟩]) na ba sa a nc bc sc c := by
  have h1 := h.frN g.fr
  have hlen := g.len
  rw [lay_len] at hlen
  have pf1 := h.pf.app g.fr (Fms.one g) h.le
  refine ⟨h1.hs.fr hf (fun k e => (h.wp k e).2), h1.fr.trans hf (fun k hk e => absurd (h.wp k e).1 (Nat.not_le.2 hk)), h1.on.fr hf (own_own h1.on h1.op (by decide)), h1.ob.fr hf (own_own h1.ob h1.op (by decide)), h1.os.fr hf (own_own h1.os h1.op (by decide)), ?_, pf1.frO h1.op (by decide) hf, fun p hp => ?_, h.wn, h.wb, h.ws,
    fun k e => (hn k e).elim (h.wp k) h1.new⟩
  · rw [List.map_append, List.length_append]
    show Own w' 32 1 a (ps.length + 1) c (ps.map FmA.cell ++ [.slice fa (tsize t) fc])
    rw [← hlen]; exact ho
  · rcases List.mem_append.1 hp with hp | hp
    · exact h.pw p hp
    · simp at hp; subst hp; exact ht
theorem JM.keep (h : JM H w0 w xs bs ss ps na ba sa pa nc bc sc pc) (hfm : ∀ x ∈ xs, FmH H x.fa x.n.f.length (trOf x.n.f)) : ∃ H', HLe H H' ∧ HS H' w ∧ NsH H' na (xs.length + 1) xs ∧ BxH H' ba bs.length bs ∧ SlH H' 1 sa ss.length (stkC ss) := by
  obtain ⟨H1, l1, hH1, t1, x1⟩ := h.on.keep h.hs (fun k e => (h.wn k e).2)
  obtain ⟨H2, l2, hH2, t2, x2⟩ := h.ob.keep hH1 (fun k e o => (x1 k (fun e2 => own_own h.on h.ob (by decide) k e2 e) o).trans ((h.wb k e).2 o))
  obtain ⟨H3, l3, hH3, t3, x3⟩ := h.os.keep hH2 (fun k e o => ((x2 k (fun e2 => own_own h.ob h.os (by decide) k e2 e) o).trans (x1 k (fun e2 => own_own h.on h.os (by decide) k e2 e) o)).trans ((h.ws k e).2 o))
  exact ⟨H3, (l1.trans l2).trans l3, hH3, ⟨rfl, (t1.mono l2).mono l3, fun x hx => ((hfm x hx).mono (l1.trans l2)).mono l3⟩, ⟨rfl, t2.mono l3⟩, t3⟩
end
theorem GotVd.put {w w1 w2 w3 : World} {b : Nat} {x : VdA} {cs : List Value} (g : GotVd w1 w2 x) (f : Fr noB w w1) (hB : Blk w2 b 30 cs) (hb : w.heap.size ≤ b) (f3 : Fr (fun k => k = b) w2 w3) : GotVd w w3 x :=
  ⟨(f.no g.fr).trans f3 (fun k hk e => by omega), (g.vd.low f.size).frB hB (by decide) (by decide) f3⟩
end Go.Proofs.YbzaawGreat
