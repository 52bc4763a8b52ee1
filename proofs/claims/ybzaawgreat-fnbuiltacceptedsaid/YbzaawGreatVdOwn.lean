/-  (*parts).addVerds; own over lists of verdicts.  -/
import Derived.Test.YbzaawGreatJudgeI0
import Derived.Test.YbzaawGreatOwnV
import Derived.Test.YbzaawGreatFam2
import Derived.Test.YbzaawGreatDraw2
namespace Go.Proofs.YbzaawGreat
open Go.Wf Go.Deep
set_option linter.unusedSimpArgs false
set_option linter.unusedVariables false

def FmA.sS (z : FmA) : SlT := ⟨z.fa, tsize z.t, z.fc⟩
def VdA.pS (x : VdA) : SlT := ⟨x.pa, x.ps.length, x.pc⟩
/-- Lists of one kind, each a block of its own, as a family. -/
theorem famOf {α : Type} {w : World} {E sz : Nat} (ad : α → Option Addr) (n c : α → Nat) (cs : α → List Value) {zs : List α} (ho : ∀ z ∈ zs, Own w E sz (ad z) (n z) (c z) (cs z)) (hd : zs.Pairwise (fun x y => ∀ k, blkO (ad x) k → ¬ blkO (ad y) k)) : FamOk w E sz (zs.map fun z => ⟨ad z, n z, c z⟩) := by
  refine ⟨fun k x hx => ?_, fun k k' x x' hx hx' hn hn' he => ?_⟩
  · rw [List.getElem?_map] at hx
    cases hk : zs[k]? with
    | none => rw [hk] at hx; simp at hx
    | some y =>
      rw [hk] at hx; simp at hx; subst hx
      exact (ho y (List.mem_of_getElem? hk)).rowOf
  · rw [List.getElem?_map] at hx hx'
    cases hk : zs[k]? with
    | none => rw [hk] at hx; simp at hx
    | some y =>
      cases hk' : zs[k']? with
      | none => rw [hk'] at hx'; simp at hx'
      | some y' =>
        rw [hk] at hx; rw [hk'] at hx'; simp at hx hx'; subst hx hx'
        have m := ho y (List.mem_of_getElem? hk)
        have m' := ho y' (List.mem_of_getElem? hk')
        have b1 : blkO (ad y) (ablk (ad y)) := ablk_blkO m.isA hn
        have b2 : blkO (ad y') (ablk (ad y)) := by
          have := ablk_blkO m'.isA hn'
          have e2 : ablk (ad y) = ablk (ad y') := he
          rw [e2]; exact this
        have P := List.pairwise_iff_getElem.1 hd
        obtain ⟨i1, j1⟩ := List.getElem?_eq_some_iff.1 hk
        obtain ⟨i2, j2⟩ := List.getElem?_eq_some_iff.1 hk'
        rcases Nat.lt_trichotomy k k' with e | e | e
        · exact absurd b2 (by have := P k k' i1 i2 e; rw [j1, j2] at this; exact this _ b1)
        · exact e
        · exact absurd b1 (by have := P k' k i2 i1 e; rw [j1, j2] at this; exact this _ b2)
theorem famOfB {α : Type} {w : World} {E sz lo : Nat} (ad : α → Option Addr) (n c : α → Nat) (cs : α → List Value) {zs : List α} (ho : ∀ z ∈ zs, Own w E sz (ad z) (n z) (c z) (cs z)) (hl : ∀ z ∈ zs, ∀ k, blkO (ad z) k → lo ≤ k) {k : Nat} (hk : famB (zs.map fun z => ⟨ad z, n z, c z⟩) k) : lo ≤ k ∧ k < w.heap.size := by
  obtain ⟨x, hx, hn, rfl⟩ := hk
  obtain ⟨y, hy, rfl⟩ := List.mem_map.1 hx
  have b := ablk_blkO (ho y hy).isA hn
  exact ⟨hl y hy _ b, (ho y hy).lt b⟩
def partsV (n f v : Value) : List Value := [n, .slice none 0 0, f, v, .slice none 0 0, .slice none 0 0, .slice none 0 0, .slice none 0 0]
/-- The parts: the struct and its three rows of lists, all from lo on. -/
structure PtV (w : World) (lo pb : Nat) (sa : Option Addr) (sc : Nat) (fa : Option Addr) (fc : Nat) (va : Option Addr) (vc : Nat) (qs ps vs : List SlT) : Prop where
  blk : Blk w pb 65 (partsV (.slice sa qs.length sc) (.slice fa ps.length fc) (.slice va vs.length vc))
  on : Own w 28 1 sa qs.length sc (qs.map SlT.val)
  of : Own w 27 1 fa ps.length fc (ps.map SlT.val)
  ov : Own w 23 1 va vs.length vc (vs.map SlT.val)
  nb : lo ≤ pb
  ns : ∀ k, blkO sa k → lo ≤ k
  nf : ∀ k, blkO fa k → lo ≤ k
  nv : ∀ k, blkO va k → lo ≤ k
section
variable {w w2 w6 : World} {lo pb sc fc vc c' : Nat} {sa fa va a' : Option Addr} {qs ps vs : List SlT} {x : SlT}
theorem PtV.frN {w' : World} (h : PtV w lo pb sa sc fa fc va vc qs ps vs) (hf : Fr noB w w') : PtV w' lo pb sa sc fa fc va vc qs ps vs := ⟨h.blk.frN hf, h.on.frN hf, h.of.frN hf, h.ov.frN hf, h.nb, h.ns, h.nf, h.nv⟩
theorem PtV.e1 (h : PtV w lo pb sa sc fa fc va vc qs ps vs) : ∀ k, blkO sa k → ¬ k = pb := fun k e e2 => own_blkNe h.on h.blk (by decide) (e2 ▸ e)
theorem PtV.e2 (h : PtV w lo pb sa sc fa fc va vc qs ps vs) : ∀ k, blkO fa k → ¬ k = pb := fun k e e2 => own_blkNe h.of h.blk (by decide) (e2 ▸ e)
theorem PtV.e3 (h : PtV w lo pb sa sc fa fc va vc qs ps vs) : ∀ k, blkO va k → ¬ k = pb := fun k e e2 => own_blkNe h.ov h.blk (by decide) (e2 ▸ e)
theorem PtV.addN (h : PtV w lo pb sa sc fa fc va vc qs ps vs) (ho : Own w2 28 1 a' (qs.length + 1) c' (qs.map SlT.val ++ [x.val])) (f2 : Fr (blkO sa) w w2) (hn : ∀ k, blkO a' k → blkO sa k ∨ w.heap.size ≤ k) (hB : Blk w6 pb 65 (partsV (.slice a' (qs.length + 1) c') (.slice fa ps.length fc) (.slice va vs.length vc))) (f6 : Fr (fun k => k = pb) w2 w6) :
    PtV w6 lo pb a' c' fa fc va vc (qs ++ [x]) ps vs ∧ Fr (fun k => lo ≤ k) w w6 := by
  have hpl := h.blk.lt
  have nb := h.nb
  refine ⟨⟨by rw [List.length_append]; exact hB, ?_, (h.of.fr f2 (own_own h.of h.on (by decide))).fr f6 h.e2, (h.ov.fr f2 (own_own h.ov h.on (by decide))).fr f6 h.e3, nb, fun k e => (hn k e).elim (h.ns k) (fun e => by omega), h.nf, h.nv⟩, (f2.mono (fun k _ e => h.ns k e)).trans f6 (fun k _ e => by omega)⟩
  rw [List.map_append, List.length_append]
  exact ho.fr f6 (fun k e e2 => (hn k e).elim (fun e' => h.e1 k e' e2) (fun e' => by omega))
theorem PtV.addF (h : PtV w lo pb sa sc fa fc va vc qs ps vs) (ho : Own w2 27 1 a' (ps.length + 1) c' (ps.map SlT.val ++ [x.val])) (f2 : Fr (blkO fa) w w2) (hn : ∀ k, blkO a' k → blkO fa k ∨ w.heap.size ≤ k) (hB : Blk w6 pb 65 (partsV (.slice sa qs.length sc) (.slice a' (ps.length + 1) c') (.slice va vs.length vc))) (f6 : Fr (fun k => k = pb) w2 w6) :
    PtV w6 lo pb sa sc a' c' va vc qs (ps ++ [x]) vs ∧ Fr (fun k => lo ≤ k) w w6 := by
  have hpl := h.blk.lt
  have nb := h.nb
  refine ⟨⟨by rw [List.length_append]; exact hB, (h.on.fr f2 (own_own h.on h.of (by decide))).fr f6 h.e1, ?_, (h.ov.fr f2 (own_own h.ov h.of (by decide))).fr f6 h.e3, nb, h.ns, fun k e => (hn k e).elim (h.nf k) (fun e => by omega), h.nv⟩, (f2.mono (fun k _ e => h.nf k e)).trans f6 (fun k _ e => by omega)⟩
  rw [List.map_append, List.length_append]
  exact ho.fr f6 (fun k e e2 => (hn k e).elim (fun e' => h.e2 k e' e2) (fun e' => by omega))
theorem PtV.addV (h : PtV w lo pb sa sc fa fc va vc qs ps vs) (ho : Own w2 23 1 a' (vs.length + 1) c' (vs.map SlT.val ++ [x.val])) (f2 : Fr (blkO va) w w2) (hn : ∀ k, blkO a' k → blkO va k ∨ w.heap.size ≤ k) (hB : Blk w6 pb 65 (partsV (.slice sa qs.length sc) (.slice fa ps.length fc) (.slice a' (vs.length + 1) c'))) (f6 : Fr (fun k => k = pb) w2 w6) :
    PtV w6 lo pb sa sc fa fc a' c' qs ps (vs ++ [x]) ∧ Fr (fun k => lo ≤ k) w w6 := by
  have hpl := h.blk.lt
  have nb := h.nb
  refine ⟨⟨by rw [List.length_append]; exact hB, (h.on.fr f2 (own_own h.on h.ov (by decide))).fr f6 h.e1, (h.of.fr f2 (own_own h.of h.ov (by decide))).fr f6 h.e2, ?_, nb, h.ns, h.nf, fun k e => (hn k e).elim (h.nv k) (fun e => by omega)⟩, (f2.mono (fun k _ e => h.nv k e)).trans f6 (fun k _ e => by omega)⟩
  rw [List.map_append, List.length_append]
  exact ho.fr f6 (fun k e e2 => (hn k e).elim (fun e' => h.e3 k e' e2) (fun e' => by omega))
end
/-- 'own' answers true, and writes only in the lists' own blocks. -/
theorem ownPtV_ok {w : World} {base lo pb sc fc vc : Nat} {sa fa va : Option Addr} {qs ps vs : List SlT} (hP : PtV w lo pb sa sc fa fc va vc qs ps vs) (Fq : FamOk w 113 4 qs) (Fp : FamOk w 32 1 ps) (Fl : FamOk w 30 5 vs)
    (Nq : qs.length ≤ 4194304) (Np : ps.length ≤ 4194304) (Nl : vs.length ≤ 4194304) (Mq : ∀ x ∈ qs, x.n ≤ 1048576) (Mp : ∀ x ∈ ps, x.n ≤ 1048576) (Ml : ∀ x ∈ vs, x.n ≤ 1048576)
    (Bq : ∀ k, famB qs k → base ≤ k ∧ k < lo) (Bp : ∀ k, famB ps k → base ≤ k ∧ k < lo) (Bl : ∀ k, famB vs k → base ≤ k ∧ k < lo) (R : Value → World → Prop) (h : ∀ w', Fr (fun k => base ≤ k ∧ k < lo) w w' → R (.bool true) w') :
    CallsV Yaao.prog 24 #[.pointer (some ⟨pb, 0, none⟩)] w R := by
  have nb := hP.nb
  obtain ⟨Ha, la1, hHa, hca, hna⟩ := hP.blk.keep (emptyH_HS w) (fun _ => rfl)
  obtain ⟨Hb, lb, hHb, slb, hnb⟩ := hP.on.keep hHa (fun k e o => (hna k (hP.e1 k e) o).trans rfl)
  obtain ⟨Hc, lc1, hHc, slc, hnc⟩ := hP.of.keep hHb (fun k e o => (hnb k (fun e' => own_own hP.on hP.of (by decide) k e' e) o).trans ((hna k (hP.e2 k e) o).trans rfl))
  obtain ⟨Hd, ld, hHd, sld, hnd⟩ := hP.ov.keep hHc (fun k e o => (hnc k (fun e' => own_own hP.of hP.ov (by decide) k e' e) o).trans ((hnb k (fun e' => own_own hP.on hP.ov (by decide) k e' e) o).trans ((hna k (hP.e3 k e) o).trans rfl)))
  have up := (lb.trans lc1).trans ld
  refine ownV_ok hHd (pb := pb) (S := fun k => base ≤ k ∧ k < lo) (fun q h1 h2 h3 h4 => up _ _ _ ((hca q).trans ?_)) ⟨up _ _ _ (hca 0), slb.mono (lc1.trans ld)⟩ Fq Nq Mq Bq ⟨up _ _ _ (hca 2), slc.mono ld⟩ Fp Np Mp Bp ⟨up _ _ _ (hca 3), sld⟩ Fl Nl Ml Bl
    (fun b hb o => (hnd b (fun e => by have := hP.nv b e; omega) o).trans ((hnc b (fun e => by have := hP.nf b e; omega) o).trans ((hnb b (fun e => by have := hP.ns b e; omega) o).trans ((hna b (by omega) o).trans rfl)))) R h
  have : q = 1 ∨ q = 4 ∨ q = 5 ∨ q = 6 ∨ q = 7 := by omega
  rcases this with rfl | rfl | rfl | rfl | rfl <;> rfl
end Go.Proofs.YbzaawGreat
