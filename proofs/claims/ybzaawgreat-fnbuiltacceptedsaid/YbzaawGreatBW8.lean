/-  The case that uses a theorem (written by tools/gen_bw8.py).  -/
import Derived.Test.YbzaawGreatBW7
namespace Go.Proofs.YbzaawGreat
open Go.Wf Go.Deep
set_option linter.unusedSimpArgs false
set_option linter.unusedVariables false

theorem substB_sh {bs : List BdA} (hb : ∀ b ∈ bs, Shape bName b.g) {t : FT} (h : Shape bName t) : Shape bName (substF bs t) := by
  refine Shape.ind (P := fun t => Shape bName (substF bs t)) ?_ ?_ ?_ ?_ t h
  · intro s hs
    rw [su_A]; unfold lookF
    split
    · exact hb _ (bd_mem (by assumption))
    · exact shA hs
  · rw [su_B0]; exact shB0
  · intro t _ ih; rw [su_N]; exact shN ih
  · intro op l r h4 h7 _ _ ihl ihr; rw [su_B bs h4]; exact shB h4 h7 ihl ihr
theorem substB_sz {bs : List BdA} (hb : ∀ b ∈ bs, tsize b.g ≤ 25) {V : ByteArray → Prop} {t : FT} (h : Shape V t) : tsize (substF bs t) ≤ 25 * tsize t := by
  refine Shape.ind (P := fun t => tsize (substF bs t) ≤ 25 * tsize t) ?_ ?_ ?_ ?_ t h
  · intro s hs
    rw [su_A, sz_A]; unfold lookF
    split
    · exact hb _ (bd_mem (by assumption))
    · rw [sz_A]; omega
  · rw [su_B0, sz_B0]; omega
  · intro t _ ih; rw [su_N, sz_N, sz_N]; omega
  · intro op l r h4 h7 _ _ ihl ihr; rw [su_B bs h4, sz_B, sz_B]; omega
theorem bsOk_b {bs : List BdA} (hb : ∀ b ∈ bs, Shape bName b.g ∧ tsize b.g ≤ 25) : BsOk bs :=
  ⟨fun b hx => ⟨(hb b hx).1.mono (fun _ e => e.1), by have := hgt_size b.g; have := (hb b hx).2; omega⟩, fun b hx => by have := (hb b hx).2; omega, fun b hx i => by have := lay_small (hb b hx).1 (B := 10) (fun s e => e.2.1) 0 i; omega⟩
theorem GotStr.keepE {H : Heap} {w w' : World} {a : Option Addr} {n c : Nat} {ss : List ByteArray} (g : GotStr w w' a n c ss) (hH : HS H w) : ∃ H', Ext H H' w w' ∧ StH H' a n ss := by
  obtain ⟨H', h1, h2, h3, h4⟩ := g.own.keep (hH.frN g.fr) (fun k hk o => hH.off (g.new k hk) o)
  exact ⟨H', ⟨h1, h2, fun k hk o => h4 k (fun e => by have := g.new k e; omega) o⟩, g.len, h3⟩
theorem GotNds.keepE {E : Nat} {H : Heap} {w w' : World} {a : Option Addr} {n c : Nat} {ts : List Nd} (g : GotNds E w w' a n c ts) (hH : HS H w) : ∃ H', Ext H H' w w' ∧ NdH H' a n ts := by
  obtain ⟨H', h1, h2, h3, h4⟩ := g.own.keep (hH.frN g.fr) (fun k hk o => hH.off (g.new k hk) o)
  exact ⟨H', ⟨h1, h2, fun k hk o => h4 k (fun e => by have := g.new k e; omega) o⟩, g.len, h3⟩
theorem C3.keep {Hq H1 : Heap} {wB w : World} {pa : Option Addr} {pc : Nat} {us : List V3} {ts : List FT} {sa : Option Addr} {sc : Nat} {ra : Option Addr} {rc : Nat} {rs : List Nat} (h : C3 Hq H1 wB w pa pc us ts sa sc ra rc rs) : ∃ H', HLe H1 H' ∧ Ext Hq H' wB w ∧ TsV H' pa ts.length ts ∧ InH H' ra rs.length (rs.map fun x : Nat => (x : Int)) := by
  obtain ⟨H2, l2, hH2, t2, x2⟩ := h.op.keep h.ext.hs (fun k e o => (h.np k e).2 o)
  obtain ⟨H3, l3, hH3, t3, x3⟩ := h.oi.keep hH2 (fun k e o => (x2 k (fun e2 => own_own h.op h.oi (by decide) k e2 e) o).trans ((h.ni k e).2 o))
  have hul := h.tr.len
  refine ⟨H3, l2.trans l3, ⟨(h.ext.le.trans l2).trans l3, hH3, fun k hk o => (x3 k (fun e => by have := (h.ni k e).1; omega) o).trans ((x2 k (fun e => by have := (h.np k e).1; omega) o).trans (h.ext.lo k hk o))⟩, ⟨us, (h.tr.mono l2).mono l3, by omega, t2.mono l3⟩, ⟨by simp, t3⟩⟩
set_option maxHeartbeats 4000000 in
set_option maxRecDepth 20000 in
theorem nm9_ok {w : World} {ρ : Env} {k : Exit → Env → World → Prop} {Hq H1 : Heap} {wB : World} {na aa : Option Addr} {nc ac : Nat} {ns ss : List ByteArray} (N : NS Hq H1 wB w na nc ns) (tA : StH H1 aa ss.length ss) (e28 : ρ 28 = .slice na ns.length nc) (ea : ρ 30 = .slice aa ss.length ac) (ej : ρ 31 = .int .i64 0) (hns : ns.length ≤ 10000) (hss : ss.length ≤ 10000)
    (h : ∀ ρ' w' na' nc' ns', NS Hq H1 wB w' na' nc' ns' → ns'.length ≤ ns.length + ss.length → ρ' 28 = .slice na' ns'.length nc' → (∀ r, r < 58 → r ≠ 28 → r ≠ 31 → ρ' r = ρ r) → k .normal ρ' w') : VC Yaao.prog (sel [true, true, true, true, false, false, false, true, false, true, true, true, true, true, true, true, true, true, true, true, true, false, true, true, true, true, true, true, true, true, true, true, true, true, true, true, true, false, true, true, true, false, true, false, false, true, false, false, true, true] bpc) k ρ w := by
  refine W_block ?_
  refine W_loopK (fun ρ' w' => ∃ (j : Nat) (na' : Option Addr) (nc' : Nat) (ns' : List ByteArray), j ≤ ss.length ∧ ρ' 28 = .slice na' ns'.length nc' ∧ ρ' 31 = .int .i64 j ∧ NS Hq H1 wB w' na' nc' ns' ∧ ns'.length ≤ ns.length + j ∧ (∀ r, r < 58 → r ≠ 28 → r ≠ 31 → ρ' r = ρ r)) (fun ρ' _ => ss.length - (vint (ρ' 31)).toNat)
    ⟨0, na, nc, ns, by omega, e28, ej, N, by omega, fun _ _ _ _ => rfl⟩ ?_
  rintro ρ1 w1 ⟨j, na1, nc1, ns1, hj, f28, fj, N1, hl1, K1⟩ L hL
  have fa : ρ1 30 = .slice aa ss.length ac := by rw [K1 30 (by decide) (by decide) (by decide)]; exact ea
  refine W_sq ?_
  refine W_sq ?_
  refine R111_ok fj fa (fun ρ2 e2 K2 => ?_)
  by_cases hjs : j < ss.length
  · refine W_condT (by show ρ2 525 = _; rw [e2, decide_eq_true hjs]) ?_
    refine W_skip ?_
    refine W_sq ?_
    refine W_block ?_
    refine W_sq ?_
    obtain ⟨Hx, lx, hHx, tN, _⟩ := N1.keep
    refine R113_ok hHx tN (tA.mono lx) (by rw [K2 28 (by decide)]; exact f28) (by rw [K2 30 (by decide)]; exact fa) (by rw [K2 31 (by decide)]; exact fj) hjs (by omega) (fun ρ3 b e3 K3 => ?_)
    have g28 : ρ3 28 = .slice na1 ns1.length nc1 := by rw [K3 28 (by decide), K2 28 (by decide)]; exact f28
    have ga : ρ3 30 = .slice aa ss.length ac := by rw [K3 30 (by decide), K2 30 (by decide)]; exact fa
    have gj : ρ3 31 = .int .i64 j := by rw [K3 31 (by decide), K2 31 (by decide)]; exact fj
    refine W_cond (t := b) (by show ρ3 534 = _; exact e3) (fun _ => ?_) (fun _ => ?_)
    · refine R114_ok N1 tA g28 ga gj hjs (by omega) (fun ρ4 w4 na4 nc4 ns4 N4 hl4 e4 K4 => ?_)
      refine R_inc0 (by decide) (by decide) (show ρ4 31 = .int .i64 j by rw [K4 31 (by decide) (by decide)]; exact gj) (by omega) (fun ρ5 e5 K5 => ?_)
      refine hL.fin _ _ ⟨j + 1, na4, nc4, ns4, by omega, by rw [K5 28 (by decide) (by decide)]; exact e4, e5, N4, by omega, fun r h1 h2 h3 => by rw [K5 r h1 h3, K4 r h1 h2, K3 r h1, K2 r h1, K1 r h1 h2 h3]⟩ ?_
      show ss.length - (vint (ρ5 31)).toNat < ss.length - (vint (ρ1 31)).toNat
      rw [e5, fj]; simp only [vint]; omega
    · refine W_skip ?_
      refine R_inc0 (by decide) (by decide) gj (by omega) (fun ρ5 e5 K5 => ?_)
      refine hL.fin _ _ ⟨j + 1, na1, nc1, ns1, by omega, by rw [K5 28 (by decide) (by decide)]; exact g28, e5, N1, by omega, fun r h1 h2 h3 => by rw [K5 r h1 h3, K3 r h1, K2 r h1, K1 r h1 h2 h3]⟩ ?_
      show ss.length - (vint (ρ5 31)).toNat < ss.length - (vint (ρ1 31)).toNat
      rw [e5, fj]; simp only [vint]; omega
  · refine W_condF (by show ρ2 525 = _; rw [e2, decide_eq_false hjs]) ?_
    refine W_exit ?_
    simp only [t_exit, b_exit, t_normal]
    exact h ρ2 w1 na1 nc1 ns1 N1 (by omega) (by rw [K2 28 (by decide)]; exact f28) (fun r h1 h2 h3 => by rw [K2 r h1, K1 r h1 h2 h3])
set_option maxHeartbeats 4000000 in
set_option maxRecDepth 20000 in
theorem nm11_ok {w : World} {ρ : Env} {k : Exit → Env → World → Prop} {Hq H1 : Heap} {wB : World} {na aa : Option Addr} {nc ac : Nat} {ns ss : List ByteArray} (N : NS Hq H1 wB w na nc ns) (tA : StH H1 aa ss.length ss) (e28 : ρ 28 = .slice na ns.length nc) (ea : ρ 32 = .slice aa ss.length ac) (ej : ρ 33 = .int .i64 0) (hns : ns.length ≤ 10000) (hss : ss.length ≤ 10000)
    (h : ∀ ρ' w' na' nc' ns', NS Hq H1 wB w' na' nc' ns' → ns'.length ≤ ns.length + ss.length → ρ' 28 = .slice na' ns'.length nc' → (∀ r, r < 58 → r ≠ 28 → r ≠ 33 → ρ' r = ρ r) → k .normal ρ' w') : VC Yaao.prog (sel [true, true, true, true, false, false, false, true, false, true, true, true, true, true, true, true, true, true, true, true, true, false, true, true, true, true, true, true, true, true, true, true, true, true, true, true, true, false, true, true, true, true, true, false, true] bpc) k ρ w := by
  refine W_block ?_
  refine W_loopK (fun ρ' w' => ∃ (j : Nat) (na' : Option Addr) (nc' : Nat) (ns' : List ByteArray), j ≤ ss.length ∧ ρ' 28 = .slice na' ns'.length nc' ∧ ρ' 33 = .int .i64 j ∧ NS Hq H1 wB w' na' nc' ns' ∧ ns'.length ≤ ns.length + j ∧ (∀ r, r < 58 → r ≠ 28 → r ≠ 33 → ρ' r = ρ r)) (fun ρ' _ => ss.length - (vint (ρ' 33)).toNat)
    ⟨0, na, nc, ns, by omega, e28, ej, N, by omega, fun _ _ _ _ => rfl⟩ ?_
  rintro ρ1 w1 ⟨j, na1, nc1, ns1, hj, f28, fj, N1, hl1, K1⟩ L hL
  have fa : ρ1 32 = .slice aa ss.length ac := by rw [K1 32 (by decide) (by decide) (by decide)]; exact ea
  refine W_sq ?_
  refine W_sq ?_
  refine R117_ok fj fa (fun ρ2 e2 K2 => ?_)
  by_cases hjs : j < ss.length
  · refine W_condT (by show ρ2 548 = _; rw [e2, decide_eq_true hjs]) ?_
    refine W_skip ?_
    refine W_sq ?_
    refine W_block ?_
    refine W_sq ?_
    obtain ⟨Hx, lx, hHx, tN, _⟩ := N1.keep
    refine R119_ok hHx tN (tA.mono lx) (by rw [K2 28 (by decide)]; exact f28) (by rw [K2 32 (by decide)]; exact fa) (by rw [K2 33 (by decide)]; exact fj) hjs (by omega) (fun ρ3 b e3 K3 => ?_)
    have g28 : ρ3 28 = .slice na1 ns1.length nc1 := by rw [K3 28 (by decide), K2 28 (by decide)]; exact f28
    have ga : ρ3 32 = .slice aa ss.length ac := by rw [K3 32 (by decide), K2 32 (by decide)]; exact fa
    have gj : ρ3 33 = .int .i64 j := by rw [K3 33 (by decide), K2 33 (by decide)]; exact fj
    refine W_cond (t := b) (by show ρ3 557 = _; exact e3) (fun _ => ?_) (fun _ => ?_)
    · refine R120_ok N1 tA g28 ga gj hjs (by omega) (fun ρ4 w4 na4 nc4 ns4 N4 hl4 e4 K4 => ?_)
      refine R_inc0 (by decide) (by decide) (show ρ4 33 = .int .i64 j by rw [K4 33 (by decide) (by decide)]; exact gj) (by omega) (fun ρ5 e5 K5 => ?_)
      refine hL.fin _ _ ⟨j + 1, na4, nc4, ns4, by omega, by rw [K5 28 (by decide) (by decide)]; exact e4, e5, N4, by omega, fun r h1 h2 h3 => by rw [K5 r h1 h3, K4 r h1 h2, K3 r h1, K2 r h1, K1 r h1 h2 h3]⟩ ?_
      show ss.length - (vint (ρ5 33)).toNat < ss.length - (vint (ρ1 33)).toNat
      rw [e5, fj]; simp only [vint]; omega
    · refine W_skip ?_
      refine R_inc0 (by decide) (by decide) gj (by omega) (fun ρ5 e5 K5 => ?_)
      refine hL.fin _ _ ⟨j + 1, na1, nc1, ns1, by omega, by rw [K5 28 (by decide) (by decide)]; exact g28, e5, N1, by omega, fun r h1 h2 h3 => by rw [K5 r h1 h3, K3 r h1, K2 r h1, K1 r h1 h2 h3]⟩ ?_
      show ss.length - (vint (ρ5 33)).toNat < ss.length - (vint (ρ1 33)).toNat
      rw [e5, fj]; simp only [vint]; omega
  · refine W_condF (by show ρ2 548 = _; rw [e2, decide_eq_false hjs]) ?_
    refine W_exit ?_
    simp only [t_exit, b_exit, t_normal]
    exact h ρ2 w1 na1 nc1 ns1 N1 (by omega) (by rw [K2 28 (by decide)]; exact f28) (fun r h1 h2 h3 => by rw [K2 r h1, K1 r h1 h2 h3])
set_option maxHeartbeats 4000000 in
set_option maxRecDepth 20000 in
theorem phA {H0 Hq : Heap} {w0 w : World} {gb rb : Nat} {ca : Option Addr} {n cc p : Nat} {ρ : Env} {ls : List LT} {xs : List VdA} {k : Exit → Env → World → Prop} {x : VdA} (S : BM H0 Hq w0 w gb rb ca n cc p [] ρ ls xs) (th : THV Hq (ρ 27) x) (hN : VdN Hq x) (hpn : x.ps.length ≤ 3) (hps : ∀ q ∈ x.ps, tsize q.t ≤ 300) (hg : TOk x.g.t) (hgz : tsize x.g.t ≤ 300)
    (h : ∀ ρ' w' H' na nc (ns : List ByteArray), BM H0 H' w0 w' gb rb ca n cc p [] ρ' ls xs → HLe Hq H' → StH H' na ns.length ns → ns.length ≤ 2000 → ρ' 28 = .slice na ns.length nc → (∀ r, r < 28 → ρ' r = ρ r) → VC Yaao.prog (sel [true, true, true, true, false, false, false, true, false, true, true, true, true, true, true, true, true, true, true, true, true, false, true, true, true, true, true, true, true, true, true, true, true, true, true, true, true, false, true, true, true, true, true, true] bpc) k ρ' w') : VC Yaao.prog (sel [true, true, true, true, false, false, false, true, false, true, true, true, true, true, true, true, true, true, true, true, true, false, true, true, true, true, true, true, true, true, true, true, true, true, true, true, true, false, true, true] bpc) k ρ w := by
  have hpz : ∀ i, i < x.ps.length → tsize (x.ps.getD i fm0).t ≤ 300 := fun i hi => hps _ (by rw [show x.ps.getD i fm0 = x.ps[i] by simp [hi]]; exact List.getElem_mem _)
  refine W_sq ?_
  refine R105_ok (fun ρ1 e28 K1 => ?_)
  have fA : Fr noB w (w.alloc (.cells #[] 9)) := Fr.alloc _ _ _ _
  have N0 : NS Hq Hq w (w.alloc (.cells #[] 9)) (some ⟨w.heap.size, 0, none⟩) 0 [] := ⟨⟨HLe.refl _, S.hs.frN fA, fun _ _ _ => rfl⟩, fA, Own.mk' rfl (heap_alloc_new w _) (Nat.le_refl _) (Nat.zero_le _) rfl rfl, fun k e => by
    have e : w.heap.size = k := by simpa [blkO] using e
    exact ⟨by omega, fun o => S.hs.off (by omega) o⟩⟩
  generalize w.alloc (.cells #[] 9) = wA at N0 ⊢
  refine W_sq ?_
  refine W_sq ?_
  refine R_set0 (by decide) (fun ρ2 e29 K2 => ?_)
  refine W_block ?_
  refine W_loopK (fun ρ' w' => ∃ (i : Nat) (H1 : Heap) (na : Option Addr) (nc : Nat) (ns : List ByteArray), i ≤ x.ps.length ∧ ρ' 28 = .slice na ns.length nc ∧ ρ' 29 = .int .i64 i ∧ NS Hq H1 w w' na nc ns ∧ ns.length ≤ 300 * i ∧ (∀ r, r < 28 → ρ' r = ρ r)) (fun ρ' _ => x.ps.length - (vint (ρ' 29)).toNat)
    ⟨0, Hq, some ⟨w.heap.size, 0, none⟩, 0, [], by omega, by rw [K2 28 (by decide) (by decide)]; exact e28, by rw [e29]; rfl, N0, by simp, fun r hr => by rw [K2 r (by omega) (by omega), K1 r (by omega) (by omega)]⟩ ?_
  rintro ρ3 w3 ⟨i, H3, na3, nc3, ns3, hi, f28, f29, N3, hl3, L3⟩ L hL
  have th3 : THV H3 (ρ3 27) x := by rw [L3 27 (by decide)]; exact th.mono N3.ext.le
  refine W_sq ?_
  refine W_sq ?_
  refine R107_ok N3.ext.hs th3 f29 (fun ρ4 e4 K4 => ?_)
  by_cases hil : i < x.ps.length
  · refine W_condT (by show ρ4 512 = _; rw [e4, decide_eq_true hil]) ?_
    refine W_skip ?_
    refine W_sq ?_
    refine W_block ?_
    refine W_sq ?_
    refine R109_ok N3.ext.hs (by rw [K4 27 (by decide)]; exact th3) (hN.mono N3.ext.le) (show ρ4 29 = .int .i64 i by rw [K4 29 (by decide)]; exact f29) hil (fun ρ5 w5 aa ac ss g5 hss e30 K5 => ?_)
    obtain ⟨H5, E5, tA⟩ := g5.keepE N3.ext.hs
    have N5 := N3.up g5.fr E5
    have hz := hpz i hil
    refine W_sq ?_
    refine R_set0 (by decide) (fun ρ6 e31 K6 => ?_)
    refine nm9_ok N5 tA (by rw [K6 28 (by decide) (by decide), K5 28 (by decide) (by decide), K4 28 (by decide)]; exact f28) (by rw [K6 30 (by decide) (by decide)]; exact e30) e31 (by omega) (by omega) (fun ρ7 w7 na7 nc7 ns7 N7 hl7 e7 K7 => ?_)
    have g29 : ρ7 29 = .int .i64 i := by rw [K7 29 (by decide) (by decide) (by decide), K6 29 (by decide) (by decide), K5 29 (by decide) (by decide), K4 29 (by decide)]; exact f29
    refine R_inc0 (by decide) (by decide) g29 (by omega) (fun ρ8 e8 K8 => ?_)
    refine hL.fin _ _ ⟨i + 1, H5, na7, nc7, ns7, by omega, by rw [K8 28 (by decide) (by decide)]; exact e7, e8, N7, by omega, fun r hr => by rw [K8 r (by omega) (by omega), K7 r (by omega) (by omega) (by omega), K6 r (by omega) (by omega), K5 r (by omega) (by omega), K4 r (by omega), L3 r hr]⟩ ?_
    show x.ps.length - (vint (ρ8 29)).toNat < x.ps.length - (vint (ρ3 29)).toNat
    rw [e8, f29]; simp only [vint]; omega
  · refine W_condF (by show ρ4 512 = _; rw [e4, decide_eq_false hil]) ?_
    refine W_exit ?_
    simp only [t_exit, b_exit, t_normal]
    refine W_sq ?_
    refine R115_ok N3.ext.hs (by rw [K4 27 (by decide)]; exact th3) (hN.mono N3.ext.le) hg (fun ρ5 w5 aa ac ss g5 hss e32 K5 => ?_)
    obtain ⟨H5, E5, tA⟩ := g5.keepE N3.ext.hs
    have N5 := N3.up g5.fr E5
    refine W_sq ?_
    refine W_sq ?_
    refine R_set0 (by decide) (fun ρ6 e33 K6 => ?_)
    refine nm11_ok N5 tA (by rw [K6 28 (by decide) (by decide), K5 28 (by decide) (by decide), K4 28 (by decide)]; exact f28) (by rw [K6 32 (by decide) (by decide)]; exact e32) e33 (by omega) (by omega) (fun ρ7 w7 na7 nc7 ns7 N7 hl7 e7 K7 => ?_)
    have L7 : ∀ r, r < 28 → ρ7 r = ρ r := fun r hr => by rw [K7 r (by omega) (by omega) (by omega), K6 r (by omega) (by omega), K5 r (by omega) (by omega), K4 r (by omega), L3 r hr]
    obtain ⟨Hx, lx, hHx, tN, Ex⟩ := N7.keep
    exact h ρ7 w7 Hx na7 nc7 ns7 ((S.up N7.fr Ex).env (L7 2 (by decide)) (L7 3 (by decide)) (L7 4 (by decide)) (L7 5 (by decide))) Ex.le tN (by omega) e7 L7
set_option maxHeartbeats 4000000 in
set_option maxRecDepth 20000 in
theorem phB {H0 Hq : Heap} {w0 w : World} {gb rb : Nat} {ca : Option Addr} {n cc p : Nat} {ρ : Env} {ls : List LT} {xs : List VdA} {k : Exit → Env → World → Prop} {l : List UInt8} {na : Option Addr} {nc : Nat} {ns : List ByteArray} (S : BM H0 Hq w0 w gb rb ca n cc p [] ρ ls xs) (tC : BcH H0 ca n l) (hn : n ≤ 1048576) (tN : StH Hq na ns.length ns) (hns : ns.length ≤ 2000) (e28 : ρ 28 = .slice na ns.length nc)
    (h : ∀ ρ' w' H' p' ba bc (bs : List BdA), p ≤ p' → (p ≤ n → p' ≤ n) → BM H0 H' w0 w' gb rb ca n cc p' [] ρ' ls xs → HLe Hq H' → BsH H' ba bs.length bs → (∀ b ∈ bs, Shape bName b.g ∧ tsize b.g ≤ 25) → bs.length ≤ 2000 → ρ' 34 = .slice ba bs.length bc → (∀ r, r < 28 → ρ' r = ρ r) → VC Yaao.prog (sel [true, true, true, true, false, false, false, true, false, true, true, true, true, true, true, true, true, true, true, true, true, false, true, true, true, true, true, true, true, true, true, true, true, true, true, true, true, false, true, true, true, true, true, true, true, true] bpc) k ρ' w') : VC Yaao.prog (sel [true, true, true, true, false, false, false, true, false, true, true, true, true, true, true, true, true, true, true, true, true, false, true, true, true, true, true, true, true, true, true, true, true, true, true, true, true, false, true, true, true, true, true, true] bpc) k ρ w := by
  refine W_sq ?_
  refine R121_ok (fun ρ1 e34 K1 => ?_)
  have S1 := (S.newE (e := exBs (some ⟨w.heap.size, 0, none⟩) 0 []) (Fr.alloc noB w #[] 84) (exBs_ok _ _ _) (Own.mk' rfl (heap_alloc_new w _) (Nat.le_refl _) (Nat.zero_le _) rfl rfl) (fun k e => by simp [exBs, blkO] at e; omega)).env (K1 2 (by decide) (by decide)) (K1 3 (by decide) (by decide)) (K1 4 (by decide) (by decide)) (K1 5 (by decide) (by decide))
  generalize w.alloc (.cells #[] 84) = wA at S1 ⊢
  refine W_sq ?_
  refine W_sq ?_
  refine R_set0 (by decide) (fun ρ2 e35 K2 => ?_)
  have S2 := S1.env (K2 2 (by decide) (by decide)) (K2 3 (by decide) (by decide)) (K2 4 (by decide) (by decide)) (K2 5 (by decide) (by decide))
  refine W_block ?_
  refine W_loopK (fun ρ' w' => ∃ (i p1 : Nat) (H1 : Heap) (ba : Option Addr) (bc : Nat) (bs : List BdA), i ≤ ns.length ∧ p ≤ p1 ∧ (p ≤ n → p1 ≤ n) ∧ ρ' 28 = .slice na ns.length nc ∧ ρ' 34 = .slice ba bs.length bc ∧ ρ' 35 = .int .i64 i ∧ BM H0 H1 w0 w' gb rb ca n cc p1 [exBs ba bc bs] ρ' ls xs ∧ HLe Hq H1 ∧ (∀ b ∈ bs, NdH H1 b.fa (tsize b.g) (lay 0 b.g) ∧ Shape bName b.g ∧ tsize b.g ≤ 25) ∧ bs.length = i ∧ (∀ r, r < 28 → ρ' r = ρ r)) (fun ρ' _ => ns.length - (vint (ρ' 35)).toNat)
    ⟨0, p, Hq, some ⟨w.heap.size, 0, none⟩, 0, [], by omega, Nat.le_refl _, fun e => e, by rw [K2 28 (by decide) (by decide), K1 28 (by decide) (by decide)]; exact e28, by rw [K2 34 (by decide) (by decide)]; exact e34, by rw [e35]; rfl, S2, HLe.refl _, fun b hb => (by cases hb), rfl, fun r hr => by rw [K2 r (by omega) (by omega), K1 r (by omega) (by omega)]⟩ ?_
  rintro ρ3 w3 ⟨i, p1, H3, ba, bc, bs, hi, hp1, hpn1, f28, f34, f35, S3, le3, hbs, hbl, L3⟩ L hL
  refine W_sq ?_
  refine W_sq ?_
  refine R123_ok f35 f28 (fun ρ4 e4 K4 => ?_)
  have S4 := S3.env (K4 2 (by decide)) (K4 3 (by decide)) (K4 4 (by decide)) (K4 5 (by decide))
  by_cases hin : i < ns.length
  · refine W_condT (by show ρ4 569 = _; rw [e4, decide_eq_true hin]) ?_
    refine W_skip ?_
    refine W_sq ?_
    refine W_block ?_
    refine W_sq ?_
    refine R_next S4 (by decide) (by decide) tC hn (fun ρ5 w5 v p5 hv hp5 hpn5 _ S5 e36 K5 => ?_)
    refine R126_ok S5 tC hn (tN.mono le3) (by rw [K5 28 (by decide) (by decide), K4 28 (by decide)]; exact f28) (by rw [K5 34 (by decide) (by decide), K4 34 (by decide)]; exact f34) (by rw [K5 35 (by decide) (by decide), K4 35 (by decide)]; exact f35) e36 hv hin (by omega) (fun ρ6 w6 H6 p6 ba6 bc6 b hp6 hpn6 S6 le6 hNd hsh hsz e34' K6 => ?_)
    have g35 : ρ6 35 = .int .i64 i := by rw [K6 35 (by decide) (by decide), K5 35 (by decide) (by decide), K4 35 (by decide)]; exact f35
    refine R_inc S6 (by decide) (by decide) g35 (by omega) (fun ρ7 S7 e7 K7 => ?_)
    refine hL.fin _ _ ⟨i + 1, p6, H6, ba6, bc6, bs ++ [b], by omega, by omega, fun e => hpn6 (hpn5 (hpn1 e)), by rw [K7 28 (by decide) (by decide), K6 28 (by decide) (by decide), K5 28 (by decide) (by decide), K4 28 (by decide)]; exact f28, by rw [K7 34 (by decide) (by decide)]; exact e34', e7, S7, le3.trans le6, fun c hc => ?_, by simp [hbl], fun r hr => by rw [K7 r (by omega) (by omega), K6 r (by omega) (by omega), K5 r (by omega) (by omega), K4 r (by omega), L3 r hr]⟩ ?_
    · rcases List.mem_append.1 hc with hc | hc
      · exact ⟨(hbs c hc).1.mono le6, (hbs c hc).2⟩
      · rw [List.mem_singleton] at hc; subst hc; exact ⟨hNd, hsh, hsz⟩
    · show ns.length - (vint (ρ7 35)).toNat < ns.length - (vint (ρ3 35)).toNat
      rw [e7, f35]; simp only [vint]; omega
  · refine W_condF (by show ρ4 569 = _; rw [e4, decide_eq_false hin]) ?_
    refine W_exit ?_
    simp only [t_exit, b_exit, t_normal]
    obtain ⟨H8, S8, le8, sl8, _⟩ := S4.keepE
    exact h ρ4 w3 H8 p1 ba bc bs hp1 hpn1 S8 (le3.trans le8) ⟨rfl, sl8, fun b hb => (hbs b hb).1.mono le8⟩ (fun b hb => (hbs b hb).2) (by omega) (by rw [K4 34 (by decide)]; exact f34) (fun r hr => by rw [K4 r (by omega), L3 r hr])
set_option maxHeartbeats 4000000 in
set_option maxRecDepth 20000 in
theorem phC {w : World} {ρ : Env} {k : Exit → Env → World → Prop} {Hq : Heap} {x : VdA} {ba : Option Addr} {bc d : Nat} {bs : List BdA} (hHq : HS Hq w) (th : THV Hq (ρ 27) x) (hN : VdN Hq x) (hpn : x.ps.length ≤ 3) (hps : ∀ q ∈ x.ps, BF q.t) (tB : BsH Hq ba bs.length bs) (hbs : ∀ b ∈ bs, Shape bName b.g ∧ tsize b.g ≤ 25) (hbl : bs.length ≤ 2000) (e34 : ρ 34 = .slice ba bs.length bc) (e26 : ρ 26 = .int .i64 d)
    (h : ∀ ρ' w' H1 pa pc us ts sa sc ra rc (f : Bool), C3 Hq H1 w w' pa pc us ts sa sc ra rc (d :: (List.range x.ps.length).map (· + 1)) → (f = true → ts = (x.ps.map FmA.t).map (substF bs)) → (∀ t ∈ ts, BF t) → ts.length ≤ 3 → ρ' 37 = .slice pa us.length pc → ρ' 38 = .slice sa ts.length sc → ρ' 39 = .slice ra (d :: (List.range x.ps.length).map (· + 1)).length rc → ρ' 40 = .bool f → (∀ r, r < 37 → ρ' r = ρ r) → VC Yaao.prog (sel [true, true, true, true, false, false, false, true, false, true, true, true, true, true, true, true, true, true, true, true, true, false, true, true, true, true, true, true, true, true, true, true, true, true, true, true, true, false, true, true, true, true, true, true, true, true, true, true, true, true, true] bpc) k ρ' w') : VC Yaao.prog (sel [true, true, true, true, false, false, false, true, false, true, true, true, true, true, true, true, true, true, true, true, true, false, true, true, true, true, true, true, true, true, true, true, true, true, true, true, true, false, true, true, true, true, true, true, true, true] bpc) k ρ w := by
  have hBo := bsOk_b hbs
  refine W_sq ?_
  refine R127_ok (fun ρ1 e37 K1 => ?_)
  have f1 : Fr noB w (w.alloc (.cells #[] 51)) := Fr.alloc _ _ _ _
  have o1 : Own (w.alloc (.cells #[] 51)) 51 3 (some ⟨w.heap.size, 0, none⟩) 0 0 (encV3 []) := Own.mk' rfl (heap_alloc_new w _) (Nat.le_refl _) (Nat.zero_le _) rfl rfl
  obtain ⟨b1, hb1⟩ : ∃ b1, b1 = w.heap.size := ⟨_, rfl⟩
  rw [← hb1] at o1 e37
  generalize w.alloc (.cells #[] 51) = w1 at f1 o1 ⊢
  refine W_sq ?_
  refine R128_ok (fun ρ2 e38 K2 => ?_)
  have f2 : Fr noB w1 (w1.alloc (.cells #[] 9)) := Fr.alloc _ _ _ _
  have o2 : Own (w1.alloc (.cells #[] 9)) 9 1 (some ⟨w1.heap.size, 0, none⟩) 0 0 (prC []) := Own.mk' rfl (heap_alloc_new w1 _) (Nat.le_refl _) (Nat.zero_le _) rfl rfl
  obtain ⟨b2, hb2⟩ : ∃ b2, b2 = w1.heap.size := ⟨_, rfl⟩
  rw [← hb2] at o2 e38
  generalize w1.alloc (.cells #[] 9) = w2 at f2 o2 ⊢
  refine W_sq ?_
  refine R129_ok (show ρ2 26 = .int .i64 d by rw [K2 26 (by decide) (by decide), K1 26 (by decide) (by decide)]; exact e26) (fun ρ3 e39 K3 => ?_)
  have f3 : Fr noB w2 (w2.alloc (.cells [.int .i64 (d : Int)].toArray 3)) := Fr.alloc _ _ _ _
  have o3 : Own (w2.alloc (.cells [.int .i64 (d : Int)].toArray 3)) 3 1 (some ⟨w2.heap.size, 0, none⟩) 1 1 (intC ([d].map fun x : Nat => (x : Int))) := Own.mk' rfl (heap_alloc_new w2 _) (Nat.le_refl _) (by decide) rfl rfl
  obtain ⟨b3, hb3⟩ : ∃ b3, b3 = w2.heap.size := ⟨_, rfl⟩
  rw [← hb3] at o3 e39
  generalize w2.alloc (.cells [.int .i64 (d : Int)].toArray 3) = w3 at f3 o3 ⊢
  have z1 := f1.size
  have z2 := f2.size
  have F3 : Fr noB w w3 := (f1.no f2).no f3
  have key : ∀ (b k : Nat), w.heap.size ≤ b → blkO (some ⟨b, 0, none⟩) k → w.heap.size ≤ k ∧ ∀ o, Hq k o = none := fun b k hb e => by
    have e : b = k := by simpa [blkO] using e
    exact ⟨by omega, fun o => hHq.off (by omega) o⟩
  have C0 : C3 Hq Hq w w3 (some ⟨b1, 0, none⟩) 0 [] [] (some ⟨b2, 0, none⟩) 0 (some ⟨b3, 0, none⟩) 1 [d] := ⟨⟨HLe.refl _, hHq.frN F3, fun _ _ _ => rfl⟩, F3, (o1.frN f2).frN f3, fun k e => key _ k (by omega) e, TsL.nil, o2.frN f3, fun k e => key _ k (by omega) e, o3, fun k e => key _ k (by omega) e⟩
  refine W_sq ?_
  refine R_set0 (by decide) (fun ρ4 e40 K4 => ?_)
  refine W_sq ?_
  refine W_sq ?_
  refine R_set0 (by decide) (fun ρ5 e41 K5 => ?_)
  refine W_block ?_
  refine W_loopK (fun ρ' w' => ∃ (i : Nat) (H1 : Heap) (pa : Option Addr) (pc : Nat) (us : List V3) (ts : List FT) (sa : Option Addr) (sc : Nat) (ra : Option Addr) (rc : Nat) (f : Bool), i ≤ x.ps.length ∧ C3 Hq H1 w w' pa pc us ts sa sc ra rc (d :: (List.range i).map (· + 1)) ∧ (f = true → ts = ((x.ps.take i).map FmA.t).map (substF bs)) ∧ (∀ t ∈ ts, BF t) ∧ ts.length ≤ i ∧ ρ' 37 = .slice pa us.length pc ∧ ρ' 38 = .slice sa ts.length sc ∧ ρ' 39 = .slice ra (d :: (List.range i).map (· + 1)).length rc ∧ ρ' 40 = .bool f ∧ ρ' 41 = .int .i64 i ∧ (∀ r, r < 37 → ρ' r = ρ r)) (fun ρ' _ => x.ps.length - (vint (ρ' 41)).toNat)
    ⟨0, Hq, some ⟨b1, 0, none⟩, 0, [], [], some ⟨b2, 0, none⟩, 0, some ⟨b3, 0, none⟩, 1, true, by omega, C0, fun _ => rfl, fun t ht => (by cases ht), by simp, by rw [K5 37 (by decide) (by decide), K4 37 (by decide) (by decide), K3 37 (by decide) (by decide), K2 37 (by decide) (by decide)]; exact e37, by rw [K5 38 (by decide) (by decide), K4 38 (by decide) (by decide), K3 38 (by decide) (by decide)]; exact e38, by rw [K5 39 (by decide) (by decide), K4 39 (by decide) (by decide)]; exact e39, by rw [K5 40 (by decide) (by decide)]; exact e40, by rw [e41]; rfl, fun r hr => by rw [K5 r (by omega) (by omega), K4 r (by omega) (by omega), K3 r (by omega) (by omega), K2 r (by omega) (by omega), K1 r (by omega) (by omega)]⟩ ?_
  clear C0 e37 e38 e39 e40 e41 K1 K2 K3 K4 K5 o1 o2 o3
  rintro ρ6 w6 ⟨i, H6, pa, pc, us, ts, sa, sc, ra, rc, f, hi, C, hf, hbt, htl, g37, g38, g39, g40, g41, L6⟩ L hL
  have th6 : THV H6 (ρ6 27) x := by rw [L6 27 (by decide)]; exact th.mono C.ext.le
  have hul := C.tr.len
  refine W_sq ?_
  refine W_sq ?_
  refine R132_ok C.ext.hs th6 g41 (fun ρ7 e7 K7 => ?_)
  by_cases hil : i < x.ps.length
  · refine W_condT (by show ρ7 596 = _; rw [e7, decide_eq_true hil]) ?_
    refine W_skip ?_
    have hq : x.ps.getD i fm0 = x.ps[i] := by simp [hil]
    have hqb : BF (x.ps.getD i fm0).t := hps _ (by rw [hq]; exact List.getElem_mem _)
    obtain ⟨tt, htt⟩ : ∃ tt, tt = substF bs (x.ps.getD i fm0).t := ⟨_, rfl⟩
    have hsz : tsize tt ≤ 7500 := by rw [htt]; have := substB_sz (bs := bs) (fun b hb => (hbs b hb).2) hqb.1; have := hqb.2; omega
    have hsh : Shape bName tt := by rw [htt]; exact substB_sh (fun b hb => (hbs b hb).1) hqb.1
    have htk : (x.ps.take (i + 1)).map FmA.t = (x.ps.take i).map FmA.t ++ [(x.ps.getD i fm0).t] := by
      rw [List.take_succ_eq_append_getElem hil, List.map_append, hq]; rfl
    have hrs : (d :: (List.range (i + 1)).map (· + 1)) = (d :: (List.range i).map (· + 1)) ++ [i + 1] := by
      rw [List.range_succ, List.map_append]; rfl
    refine W_sq ?_
    refine W_block ?_
    refine W_sq ?_
    refine R134_ok C.ext.hs (by rw [K7 27 (by decide)]; exact th6) (hN.mono C.ext.le) (tB.mono C.ext.le) hBo (by omega) (show ρ7 34 = .slice ba bs.length bc by rw [K7 34 (by decide), L6 34 (by decide)]; exact e34) (by rw [← htt]; omega) (show ρ7 41 = .int .i64 i by rw [K7 41 (by decide)]; exact g41) hil (fun ρ8 w8 a8 c8 g8 e42 K8 => ?_)
    rw [← htt] at g8 e42
    obtain ⟨H8, E8, tS⟩ := g8.keepE C.ext.hs
    have C8 := C.up g8.fr E8
    have hpos := hsh.pos
    refine W_sq ?_
    refine W_sq ?_
    refine R135_ok e42 hpos (by omega) (fun ρ9 e9 K9 => ?_)
    have m37 : ρ9 37 = .slice pa us.length pc := by rw [K9 37 (by decide), K8 37 (by decide) (by decide), K7 37 (by decide)]; exact g37
    have m38 : ρ9 38 = .slice sa ts.length sc := by rw [K9 38 (by decide), K8 38 (by decide) (by decide), K7 38 (by decide)]; exact g38
    have m39 : ρ9 39 = .slice ra (d :: (List.range i).map (· + 1)).length rc := by rw [K9 39 (by decide), K8 39 (by decide) (by decide), K7 39 (by decide)]; exact g39
    have m40 : ρ9 40 = .bool f := by rw [K9 40 (by decide), K8 40 (by decide) (by decide), K7 40 (by decide)]; exact g40
    have m41 : ρ9 41 = .int .i64 i := by rw [K9 41 (by decide), K8 41 (by decide) (by decide), K7 41 (by decide)]; exact g41
    have m42 : ρ9 42 = .slice a8 (tsize tt) c8 := by rw [K9 42 (by decide)]; exact e42
    have L9' : ∀ r, r < 37 → ρ9 r = ρ r := fun r hr => by rw [K9 r (by omega), K8 r (by omega) (by omega), K7 r (by omega), L6 r hr]
    -- the end of a round
    have fin : ∀ (ρa : Env) (wa : World) (Ha : Heap) (pa : Option Addr) (pc : Nat) (us : List V3) (ts : List FT) (sa : Option Addr) (sc : Nat) (f : Bool), C3 Hq Ha w wa pa pc us ts sa sc ra rc (d :: (List.range i).map (· + 1)) → (f = true → ts = ((x.ps.take (i + 1)).map FmA.t).map (substF bs)) → (∀ t ∈ ts, BF t) → ts.length ≤ i + 1 → ρa 37 = .slice pa us.length pc → ρa 38 = .slice sa ts.length sc → ρa 39 = .slice ra (d :: (List.range i).map (· + 1)).length rc → ρa 40 = .bool f → ρa 41 = .int .i64 i → (∀ r, r < 37 → ρa r = ρ r) → VC Yaao.prog (sel [true, true, true, true, false, false, false, true, false, true, true, true, true, true, true, true, true, true, true, true, true, false, true, true, true, true, true, true, true, true, true, true, true, true, true, true, true, false, true, true, true, true, true, true, true, true, true, true, true, true, false, true, false, false, true, false, false, true, true] bpc) (blockK 16 (thenK (fun ρ w => VC Yaao.prog (sel [true, true, true, true, false, false, false, true, false, true, true, true, true, true, true, true, true, true, true, true, true, false, true, true, true, true, true, true, true, true, true, true, true, true, true, true, true, false, true, true, true, true, true, true, true, true, true, true, true, true, false, true, false, false, true, true] bpc) (thenK L (blockK 15 (thenK (fun ρ w => VC Yaao.prog (sel [true, true, true, true, false, false, false, true, false, true, true, true, true, true, true, true, true, true, true, true, true, false, true, true, true, true, true, true, true, true, true, true, true, true, true, true, true, false, true, true, true, true, true, true, true, true, true, true, true, true, true] bpc) k ρ w) k))) ρ w) (thenK L (blockK 15 (thenK (fun ρ w => VC Yaao.prog (sel [true, true, true, true, false, false, false, true, false, true, true, true, true, true, true, true, true, true, true, true, true, false, true, true, true, true, true, true, true, true, true, true, true, true, true, true, true, false, true, true, true, true, true, true, true, true, true, true, true, true, true] bpc) k ρ w) k))))) ρa wa := fun ρa wa Ha pa pc us ts sa sc f Ca hfa hba hta a37 a38 a39 a40 a41 La => by
      refine R140_ok Ca.oi a39 a41 (by omega) (by simp; omega) (fun ρb wb rb' rcb ob fb nb e39 Kb => ?_)
      have Cb := Ca.setR (rs' := (d :: (List.range i).map (· + 1)) ++ [i + 1]) fb ob nb
      refine R_inc0 (by decide) (by decide) (show ρb 41 = .int .i64 i by rw [Kb 41 (by decide) (by decide)]; exact a41) (by omega) (fun ρc ec Kc => ?_)
      refine hL.fin _ _ ⟨i + 1, Ha, pa, pc, us, ts, sa, sc, rb', rcb, f, by omega, by rw [hrs]; exact Cb, hfa, hba, hta, by rw [Kc 37 (by decide) (by decide), Kb 37 (by decide) (by decide)]; exact a37, by rw [Kc 38 (by decide) (by decide), Kb 38 (by decide) (by decide)]; exact a38, by rw [hrs, Kc 39 (by decide) (by decide)]; exact e39, by rw [Kc 40 (by decide) (by decide), Kb 40 (by decide) (by decide)]; exact a40, ec, fun r hr => by rw [Kc r (by omega) (by omega), Kb r (by omega) (by omega), La r hr]⟩ ?_
      show x.ps.length - (vint (ρc 41)).toNat < x.ps.length - (vint (ρ6 41)).toNat
      rw [ec, g41]; simp only [vint]; omega
    by_cases hbig : 300 < tsize tt
    · refine W_condT (by show ρ9 614 = _; rw [e9, decide_eq_true hbig]) ?_
      refine R_set0 (by decide) (fun ρa ea Ka => ?_)
      exact fin ρa w8 H8 pa pc us ts sa sc false C8 (fun e => by cases e) hbt (by omega) (by rw [Ka 37 (by decide) (by decide)]; exact m37) (by rw [Ka 38 (by decide) (by decide)]; exact m38) (by rw [Ka 39 (by decide) (by decide)]; exact m39) ea (by rw [Ka 41 (by decide) (by decide)]; exact m41) (fun r hr => by rw [Ka r (by omega) (by omega), L9' r hr])
    · have hbf : BF tt := ⟨hsh, by omega⟩
      refine W_condF (by show ρ9 614 = _; rw [e9, decide_eq_false hbig]) ?_
      refine W_sq ?_
      refine R137_ok C8.ext.hs (⟨tS, hbf.tg.wf, by omega⟩ : FmH H8 a8 (tsize tt) tt) (fun q => hbf.tok.2.2 q) m42 (fun ρa wa Ha Ea fa T43 Ka => ?_)
      have Ca := C8.up fa Ea
      refine W_sq ?_
      refine R138_ok Ca.ext.hs Ca.op Ca.tr T43 (show ρa 37 = .slice pa us.length pc by rw [Ka 37 (by decide) (by decide)]; exact m37) (by omega) (fun ρb wb pa' pc' us' op' fp' np' hl' tr' e37 Kb => ?_)
      have hHb : HS Ha wb := Ca.ext.hs.fr fp' (fun k e o => (Ca.np k e).2 o)
      have osb := Ca.os.fr fp' (own_own Ca.os Ca.op (by decide))
      refine R139_ok hHb osb (show TV Ha (ρb 43) tt by rw [Kb 43 (by decide) (by decide)]; exact T43) hbf (show ρb 38 = .slice sa ts.length sc by rw [Kb 38 (by decide) (by decide), Ka 38 (by decide) (by decide)]; exact m38) (by omega) (fun ρc w9 wc sa' sc' fc os' fs' ns' e38 Kc => ?_)
      have Cc := Ca.setP fp' op' np' tr' fc fs' os' ns'
      refine fin ρc wc Ha pa' pc' us' (ts ++ [tt]) sa' sc' f Cc (fun e => by rw [htk, List.map_append, ← hf e, htt]; rfl) (fun u hu => ?_) (by simp; omega) (by rw [Kc 37 (by decide) (by decide)]; exact e37) e38 (by rw [Kc 39 (by decide) (by decide), Kb 39 (by decide) (by decide), Ka 39 (by decide) (by decide)]; exact m39) (by rw [Kc 40 (by decide) (by decide), Kb 40 (by decide) (by decide), Ka 40 (by decide) (by decide)]; exact m40) (by rw [Kc 41 (by decide) (by decide), Kb 41 (by decide) (by decide), Ka 41 (by decide) (by decide)]; exact m41) (fun r hr => by rw [Kc r (by omega) (by omega), Kb r (by omega) (by omega), Ka r (by omega) (by omega), L9' r hr])
      rcases List.mem_append.1 hu with hu | hu
      · exact hbt u hu
      · rw [List.mem_singleton] at hu; subst hu; exact hbf
  · refine W_condF (by show ρ7 596 = _; rw [e7, decide_eq_false hil]) ?_
    refine W_exit ?_
    simp only [t_exit, b_exit, t_normal]
    obtain rfl : i = x.ps.length := by omega
    rw [List.take_length] at hf
    exact h ρ7 w6 H6 pa pc us ts sa sc ra rc f C hf hbt (by omega) (by rw [K7 37 (by decide)]; exact g37) (by rw [K7 38 (by decide)]; exact g38) (by rw [K7 39 (by decide)]; exact g39) (by rw [K7 40 (by decide)]; exact g40) (fun r hr => by rw [K7 r (by omega), L6 r hr])
set_option maxHeartbeats 8000000 in
set_option maxRecDepth 20000 in
theorem case7 {H0 Hq : Heap} {w0 w : World} {gb rb : Nat} {ca : Option Addr} {n cc p : Nat} {ρ : Env} {ls : List LT} {xs : List VdA} {k : Exit → Env → World → Prop} {l : List UInt8} {A : FT} (S : BM H0 Hq w0 w gb rb ca n cc p [] ρ ls xs) (tC : BcH H0 ca n l) (hn : n ≤ 1048576) (TA : TV Hq (ρ 8) A) (hA : Sm A) (hb : ls.length ≤ 900000000) (hx : xs.length ≤ 900000000) (hx1 : 1 ≤ xs.length) (hvs : ∀ v ∈ xs.map VdA.v, v.ok = true ∧ (∀ t ∈ v.prem, BF t) ∧ BF v.goal ∧ v.prem.length ≤ 3)
    (h : ∀ ρ' w' H' p' body x, p ≤ p' → (p ≤ n → p' ≤ n) → BM H0 H' w0 w' gb rb ca n cc p' [] ρ' (ls ++ body) (xs ++ [x]) → BOk (xs.map VdA.v) body (VdA.v x) → k .normal ρ' w') : VC Yaao.prog (sel [true, true, true, true, false, false, false, true, false, true, true, true, true, true, true, true, true, true, true, true, true, false, true, true, true, true, true, true, true, true, true, true, true, true, true, true, true, false] bpc) k ρ w := by
  refine W_sq ?_
  refine R103_ok S tC hn hx1 (by omega) (fun ρ1 w1 d p1 hd1 hd2 hp1 hpn1 S1 e26 K1 => ?_)
  refine W_sq ?_
  refine R104_ok S1 e26 hd1 hd2 (by omega) (fun ρ2 w2 H2 S2 le2 th2 K2 => ?_)
  obtain ⟨x, hxe⟩ : ∃ x, x = xs.getD (d - 1) va0 := ⟨_, rfl⟩
  rw [← hxe] at th2
  have hxm : x ∈ xs := by rw [hxe, show xs.getD (d - 1) va0 = xs[d - 1]'(by omega) by simp [List.getD, show d - 1 < xs.length by omega]]; exact List.getElem_mem _
  obtain ⟨hok, hpb, hgb, hpl⟩ := hvs x.v (List.mem_map_of_mem hxm)
  have hpl' : x.ps.length ≤ 3 := by have : (x.ps.map FmA.t).length ≤ 3 := hpl; simpa using this
  have hpb' : ∀ q ∈ x.ps, BF q.t := fun q hq => hpb _ (List.mem_map_of_mem hq)
  have hgb' : BF x.g.t := hgb
  have hN2 := (S2.vd x hxm).2
  refine phA S2 th2 hN2 hpl' (fun q hq => (hpb' q hq).2) hgb'.tok hgb'.2 (fun ρ3 w3 H3 na nc ns S3 le3 tN hns e28 L3 => ?_)
  refine phB S3 tC hn tN hns e28 (fun ρ4 w4 H4 p4 ba bc bs hp4 hpn4 S4 le4 tBd hbs hbl e34 L4 => ?_)
  have le24 := le3.trans le4
  have th4 : THV H4 (ρ4 27) x := by rw [L4 27 (by decide), L3 27 (by decide)]; exact th2.mono le24
  have hN4 := hN2.mono le24
  have g26 : ρ4 26 = .int .i64 d := by rw [L4 26 (by decide), L3 26 (by decide), K2 26 (by decide) (by decide)]; exact e26
  have TA4 : TV H4 (ρ4 8) A := by rw [L4 8 (by decide), L3 8 (by decide), K2 8 (by decide) (by decide), K1 8 (by decide) (by decide)]; exact (TA.mono le2).mono le24
  have hBo := bsOk_b hbs
  have hpT : p ≤ p4 := by omega
  have hpnT : p ≤ n → p4 ≤ n := fun e => hpn4 (hpn1 e)
  obtain ⟨gt, hgt⟩ : ∃ gt, gt = substF bs x.g.t := ⟨_, rfl⟩
  have hgz : tsize gt ≤ 7500 := by rw [hgt]; have := substB_sz (bs := bs) (fun b hb => (hbs b hb).2) hgb'.1; have := hgb'.2; omega
  have hgs : Shape bName gt := by rw [hgt]; exact substB_sh (fun b hb => (hbs b hb).1) hgb'.1
  refine phC S4.hs th4 hN4 hpl' hpb' tBd hbs hbl e34 g26 (fun ρ5 w5 H5 pa pc us ts sa sc ra rc f C hf hbt htl e37 e38 e39 e40 L5 => ?_)
  have hul := C.tr.len
  refine W_sq ?_
  refine R141_ok C.ext.hs (show THV H5 (ρ5 27) x by rw [L5 27 (by decide)]; exact th4.mono C.ext.le) (hN4.mono C.ext.le) (tBd.mono C.ext.le) hBo (by omega) (show ρ5 34 = .slice ba bs.length bc by rw [L5 34 (by decide)]; exact e34) (by rw [← hgt]; omega) hgb'.tok (fun ρ6 w6 a6 c6 g6 e44 K6 => ?_)
  rw [← hgt] at g6 e44
  obtain ⟨H6, E6, tG⟩ := g6.keepE C.ext.hs
  have C6 := C.up g6.fr E6
  have hpos := hgs.pos
  refine W_sq ?_
  refine W_sq ?_
  refine R142_ok e44 hpos (by omega) (fun ρ7 e7 K7 => ?_)
  -- from here on: fine or not
  have go : ∀ (ρ8 : Env) (f8 : Bool), ρ8 40 = .bool f8 → (f8 = true → f = true ∧ tsize gt ≤ 300) → (∀ r, r < 58 → r ≠ 40 → ρ8 r = ρ7 r) → VC Yaao.prog (sel [true, true, true, true, false, false, false, true, false, true, true, true, true, true, true, true, true, true, true, true, true, false, true, true, true, true, true, true, true, true, true, true, true, true, true, true, true, false, true, true, true, true, true, true, true, true, true, true, true, true, true, true, true] bpc) k ρ8 w6 := fun ρ8 f8 e40' hf8 K8 => by
    have L8 : ∀ r, r < 37 → ρ8 r = ρ4 r := fun r hr => by rw [K8 r (by omega) (by omega), K7 r (by omega), K6 r (by omega) (by omega), L5 r hr]
    refine W_sq ?_
    refine R144_ok e40' (fun ρ9 e9 K9 => ?_)
    have L9' : ∀ r, r < 37 → ρ9 r = ρ4 r := fun r hr => by rw [K9 r (by omega), L8 r hr]
    cases f8 with
    | true =>
      obtain ⟨hft, hg3⟩ := hf8 rfl
      have hts := hf hft
      have hbg : BF gt := ⟨hgs, hg3⟩
      refine W_condT e9 ?_
      obtain ⟨H9, l9, E9, tP, tR⟩ := C6.keep
      have S9 := (S4.up C6.fr E9).env (L9' 2 (by decide)) (L9' 3 (by decide)) (L9' 4 (by decide)) (L9' 5 (by decide))
      have r37 : ρ9 37 = .slice pa ts.length pc := by rw [K9 37 (by decide), K8 37 (by decide) (by decide), K7 37 (by decide), K6 37 (by decide) (by decide), e37, show us.length = ts.length by omega]
      have r38 : ρ9 38 = .slice sa ts.length sc := by rw [K9 38 (by decide), K8 38 (by decide) (by decide), K7 38 (by decide), K6 38 (by decide) (by decide)]; exact e38
      have r39 : ρ9 39 = .slice ra (d :: (List.range x.ps.length).map (· + 1)).length rc := by rw [K9 39 (by decide), K8 39 (by decide) (by decide), K7 39 (by decide), K6 39 (by decide) (by decide)]; exact e39
      have r44 : ρ9 44 = .slice a6 (tsize gt) c6 := by rw [K9 44 (by decide), K8 44 (by decide) (by decide), K7 44 (by decide)]; exact e44
      refine W_sq ?_
      refine R145_ok S9 C6.os r38 (by omega) (by omega) (fun ρa wa Sa Ka => ?_)
      refine W_sq ?_
      have tGa : NdH H9 a6 (tsize gt) (lay 0 gt) := tG.mono l9
      refine R146_ok Sa.hs (⟨tGa, hbg.tg.wf, by omega⟩ : FmH H9 a6 (tsize gt) gt) (fun q => hbg.tok.2.2 q) (show ρa 44 = .slice a6 (tsize gt) c6 by rw [Ka 44 (by decide) (by decide)]; exact r44) (fun ρb wb Hb Eb fb T45 Kb => ?_)
      have Sb := (Sa.up fb Eb).env (Kb 2 (by decide) (by decide)) (Kb 3 (by decide) (by decide)) (Kb 4 (by decide) (by decide)) (Kb 5 (by decide) (by decide))
      have hrc : ∀ y ∈ d :: (List.range x.ps.length).map (· + 1), y ≤ cap := by
        intro y hy
        rcases List.mem_cons.1 hy with rfl | hy
        · unfold cap; omega
        · obtain ⟨q, hq, rfl⟩ := List.mem_map.1 hy
          have := List.mem_range.1 hq
          unfold cap; omega
      refine W_sq ?_
      refine R147_ok Sb T45 hbg (tR.mono Eb.le) (show ρb 39 = _ by rw [Kb 39 (by decide) (by decide), Ka 39 (by decide) (by decide)]; exact r39) hrc (by simp; omega) (by simp; omega) (fun ρc wc Sc Kc => ?_)
      refine R148_ok Sc (show TV Hb (ρc 45) gt by rw [Kc 45 (by decide) (by decide)]; exact T45) hbg (tP.mono Eb.le) hbt (show ρc 37 = .slice pa ts.length pc by rw [Kc 37 (by decide) (by decide), Kb 37 (by decide) (by decide), Ka 37 (by decide) (by decide)]; exact r37) (by omega) (by omega) (fun ρd wd Hd xd Sd hvd Kd => ?_)
      have htlen : ts.length = x.ps.length := by rw [hts]; simp
      refine h ρd wd Hd p4 (ts.map LT.pr ++ [.st gt 17 (d :: (List.range ts.length).map (· + 1))]) xd hpT hpnT ?_ ?_
      · rw [htlen, ← List.append_assoc]; exact Sd
      · rw [hvd]
        refine ⟨?_, ?_, ?_, rfl, hbt, hbg, by omega, fun q => ?_⟩
        · intro z hz
          rcases List.mem_append.1 hz with hz | hz
          · obtain ⟨u, hu, rfl⟩ := List.mem_map.1 hz
            exact hbt u hu
          · rw [List.mem_singleton] at hz; subst hz
            rw [htlen]
            exact ⟨hbg, by decide, by decide, by simp [fitsF]; omega, hrc, by simp; omega⟩
        · apply noT_of
          rw [List.all_append]
          have a1 : (ts.map LT.pr).all nT = true := by
            rw [List.all_eq_true]; intro z hz; obtain ⟨u, _, rfl⟩ := List.mem_map.1 hz; rfl
          rw [a1]; rfl
        · simp; omega
        · refine acc7 hd1 (by rw [List.length_map]; exact hd2) (v := x.v) ?_ hok hpb hgb bs hts hgt hbt hbg q
          rw [hxe]; exact getD_map0 VdA.v va0 xs (d - 1)
    | false =>
      refine W_condF e9 ?_
      have S9 := (S4.up C6.fr C6.ext).env (L9' 2 (by decide)) (L9' 3 (by decide)) (L9' 4 (by decide)) (L9' 5 (by decide))
      have TA9 : TV H6 (ρ9 8) A := by rw [L9' 8 (by decide)]; exact TA4.mono C6.ext.le
      have zA := hA.2
      have bA := hA.bf
      have bAA : BF (tB 6 A A) := bfB2 (by decide) (by decide) hA.1 hA.1 (by omega)
      refine W_sq ?_
      refine R_bin S9 (by decide) (by decide) (by decide) (by decide) TA9 TA9 (fun ρa wa Ha Sa lea T46 Ka => ?_)
      refine W_sq ?_
      refine R150_ok Sa (show TV Ha (ρa 8) A by rw [Ka 8 (by decide) (by decide)]; exact TA9.mono lea) bA T46 bAA (by omega) (fun ρb wb Sb Kb => ?_)
      refine R_v0 Sb (by decide) (by decide) (show TV Ha (ρb 46) (tB 6 A A) by rw [Kb 46 (by decide) (by decide)]; exact T46) bAA (by omega) (fun ρc wc Hc xc Sc hvc Kc => ?_)
      refine h ρc wc Hc p4 [.as_ A, .en, .st (tB 6 A A) 8 [1]] xc hpT hpnT Sc ?_
      rw [hvc]
      refine ⟨?_, noT_of rfl, by simp, rfl, fun t ht => (by cases ht), bAA, by simp, fun q => acc1 bA.tg bAA.tg _ _ _⟩
      intro z hz
      simp only [List.mem_cons, List.not_mem_nil, or_false] at hz
      rcases hz with rfl | rfl | rfl
      · exact bA
      · trivial
      · exact ⟨bAA, by decide, by decide, by decide, by decide, by decide⟩
  by_cases hbig : 300 < tsize gt
  · refine W_condT (by show ρ7 643 = _; rw [e7, decide_eq_true hbig]) ?_
    refine R_set0 (by decide) (fun ρ8 e8 K8 => ?_)
    exact go ρ8 false e8 (fun e => by cases e) K8
  · refine W_condF (by show ρ7 643 = _; rw [e7, decide_eq_false hbig]) ?_
    refine W_skip ?_
    exact go ρ7 f (by rw [K7 40 (by decide), K6 40 (by decide) (by decide)]; exact e40) (fun e => ⟨e, by omega⟩) (fun _ _ _ => rfl)
end Go.Proofs.YbzaawGreat
