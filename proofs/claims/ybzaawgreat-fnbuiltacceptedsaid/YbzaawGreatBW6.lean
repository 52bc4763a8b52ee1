/-  The builder's last case (written by tools/gen_bw6.py).  -/
import Derived.Test.YbzaawGreatBW5
namespace Go.Proofs.YbzaawGreat
open Go.Wf Go.Deep
set_option linter.unusedSimpArgs false
set_option linter.unusedVariables false

def Sm9 (t : FT) : Prop := Shape bName t ∧ tsize t ≤ 9
theorem Sm9.bf {t : FT} (h : Sm9 t) : BF t := ⟨h.1, by have := h.2; omega⟩
/-- Implications, one in the other. -/
def cc9 : List FT → FT → FT
  | [], z => z
  | t :: r, z => tB 6 t (cc9 r z)
theorem cc9_sz {z : FT} : ∀ l : List FT, (∀ t ∈ l, Sm9 t) → tsize (cc9 l z) ≤ 10 * l.length + tsize z
  | [], _ => by simp [cc9]
  | t :: r, h => by
    have := cc9_sz (z := z) r (fun x hx => h x (by simp [hx]))
    have := (h t (by simp)).2
    simp only [cc9, List.length_cons]
    rw [sz_B]; omega
theorem cc9_sh {z : FT} (hz : Shape bName z) : ∀ l : List FT, (∀ t ∈ l, Sm9 t) → Shape bName (cc9 l z)
  | [], _ => hz
  | t :: r, h => shB (by decide) (by decide) (h t (by simp)).1 (cc9_sh hz r (fun x hx => h x (by simp [hx])))
theorem cc9_bf {z : FT} (hz : Sm9 z) (l : List FT) (h : ∀ t ∈ l, Sm9 t) (hl : l.length ≤ 5) : BF (cc9 l z) := ⟨cc9_sh hz.1 l h, by have := cc9_sz (z := z) l h; have := hz.2; omega⟩
/-- The lines at the end of the last case. -/
def L9 (ts : List FT) (z : FT) : Nat → List LT
  | 0 => []
  | m + 1 => L9 ts z m ++ [.en, .st (cc9 (ts.drop (ts.length - (m + 1))) z) 8 [ts.length - m]]
theorem L9_len (ts : List FT) (z : FT) : ∀ m, (L9 ts z m).length = 2 * m
  | 0 => rfl
  | m + 1 => by simp only [L9, List.length_append, L9_len ts z m]; simp; omega
theorem bok9 {vs : List Vd} {ts : List FT} (h1 : 1 ≤ ts.length) (h5 : ts.length ≤ 5) (hs : ∀ t ∈ ts, Sm9 t) {z : FT} (hz : ts.getD (ts.length - 1) .nil = z) : BOk vs (ts.map .as_ ++ ([.st z 1 [ts.length]] ++ L9 ts z ts.length)) ⟨true, 0, 0, [], cc9 ts z⟩ := by
  have hzm : z ∈ ts := by
    rw [← hz, show ts.getD (ts.length - 1) .nil = ts[ts.length - 1]'(by omega) by simp [List.getD, show ts.length - 1 < ts.length by omega]]; exact List.getElem_mem _
  have hz9 := hs z hzm
  have hdr : ∀ i, BF (cc9 (ts.drop i) z) := fun i => cc9_bf hz9 _ (fun t ht => hs t (List.mem_of_mem_drop ht)) (by simp; omega)
  have hgL : ∀ m, m ≤ ts.length → ∀ l ∈ L9 ts z m, l.good := by
    intro m
    induction m with
    | zero => intro _ l hl; cases hl
    | succ m ih =>
      intro hm l hl
      simp only [L9, List.mem_append, List.mem_cons, List.not_mem_nil, or_false] at hl
      rcases hl with hl | rfl | rfl
      · exact ih (by omega) l hl
      · trivial
      · exact ⟨hdr _, by decide, by decide, rfl, fun x hx => (by simp at hx; unfold cap; omega), by simp⟩
  have hbt : ∀ t ∈ ts, TG t := fun t ht => (hs t ht).bf.tg
  have hct : ∀ i, TG (cc9 (ts.drop i) z) := fun i => (hdr i).tg
  refine ⟨?_, ?_, ?_, rfl, fun t ht => (by cases ht), (by have := hdr 0; simpa using this), by simp, ?_⟩
  · intro l hl
    simp only [List.mem_append, List.mem_cons, List.not_mem_nil, or_false] at hl
    rcases hl with hl | rfl | hl
    · obtain ⟨t, ht, rfl⟩ := List.mem_map.1 hl
      exact (hs t ht).bf
    · exact ⟨hz9.bf, by decide, by decide, rfl, fun x hx => (by simp at hx; unfold cap; omega), by simp⟩
    · exact hgL _ (Nat.le_refl _) l hl
  · apply noT_of
    rw [List.all_append, List.all_append]
    have a1 : (ts.map LT.as_).all nT = true := by
      rw [List.all_eq_true]; intro l hl; obtain ⟨t, _, rfl⟩ := List.mem_map.1 hl; rfl
    have a2 : ∀ m, (L9 ts z m).all nT = true := by
      intro m
      induction m with
      | zero => rfl
      | succ m ih => simp only [L9, List.all_append, ih]; rfl
    rw [a1, a2]; rfl
  · simp only [List.length_append, List.length_map, L9_len]; simp; omega
  · intro q
    match ts, h1, h5, hz, hbt, hct with
    | [t1], _, _, hz, hbt, hct =>
      obtain rfl : t1 = z := hz
      exact acc9_1 (hbt _ (by simp)) (hct 0) _ _ _ _
    | [t1, t2], _, _, hz, hbt, hct =>
      obtain rfl : t2 = z := hz
      exact acc9_2 (hbt _ (by simp)) (hbt _ (by simp)) (hct 1) (hct 0) _ _ _ _ _ _ _
    | [t1, t2, t3], _, _, hz, hbt, hct =>
      obtain rfl : t3 = z := hz
      exact acc9_3 (hbt _ (by simp)) (hbt _ (by simp)) (hbt _ (by simp)) (hct 2) (hct 1) (hct 0) _ _ _ _ _ _ _ _ _ _
    | [t1, t2, t3, t4], _, _, hz, hbt, hct =>
      obtain rfl : t4 = z := hz
      exact acc9_4 (hbt _ (by simp)) (hbt _ (by simp)) (hbt _ (by simp)) (hbt _ (by simp)) (hct 3) (hct 2) (hct 1) (hct 0) _ _ _ _ _ _ _ _ _ _ _ _ _
    | [t1, t2, t3, t4, t5], _, _, hz, hbt, hct =>
      obtain rfl : t5 = z := hz
      exact acc9_5 (hbt _ (by simp)) (hbt _ (by simp)) (hbt _ (by simp)) (hbt _ (by simp)) (hbt _ (by simp)) (hct 4) (hct 3) (hct 2) (hct 1) (hct 0) _ _ _ _ _ _ _ _ _ _ _ _ _ _ _ _
    | _ :: _ :: _ :: _ :: _ :: _ :: _, _, h5, _, _, _ => exact absurd h5 (by simp)
set_option maxHeartbeats 8000000 in
set_option maxRecDepth 20000 in
theorem case9 {H0 Hq : Heap} {w0 w : World} {gb rb : Nat} {ca : Option Addr} {n cc p : Nat} {ρ : Env} {ls : List LT} {xs : List VdA} {k : Exit → Env → World → Prop} {l : List UInt8} (S : BM H0 Hq w0 w gb rb ca n cc p [] ρ ls xs) (tC : BcH H0 ca n l) (hn : n ≤ 1048576) (hb : ls.length ≤ 900000000) (hx : xs.length ≤ 900000000)
    (h : ∀ ρ' w' H' p' body x, p ≤ p' → (p ≤ n → p' ≤ n) → BM H0 H' w0 w' gb rb ca n cc p' [] ρ' (ls ++ body) (xs ++ [x]) → BOk (xs.map VdA.v) body (VdA.v x) → k .normal ρ' w') : VC Yaao.prog (sel [true, true, true, true, false, false, false, true, false, true, true, true, true, true, true, true, true, true, true, true, true, false, true, true, true, true, true, true, true, true, true, true, true, true, true, true, true, true, true, true] bpc) k ρ w := by
  refine W_sq ?_
  refine R19_ok S tC hn (fun ρ1 w1 d p1 hd1 hd5 hp1 hpn1 S1 e49 K1 => ?_)
  refine W_sq ?_
  refine R20_ok S1 (fun ρ2 w2 a2 S2 e50 K2 => ?_)
  refine W_sq ?_
  refine W_sq ?_
  refine R_set S2 (by decide) (fun ρ3 S3 e51 K3 => ?_)
  refine W_block ?_
  refine W_loopK (fun ρ' w' => ∃ (i p2 : Nat) (H1 : Heap) (ts : List FT) (us : List V3) (aa : Option Addr) (ac : Nat), i ≤ d ∧ ρ' 49 = .int .i64 d ∧ ρ' 50 = .slice aa us.length ac ∧ ρ' 51 = .int .i64 i ∧ p ≤ p2 ∧ (p ≤ n → p2 ≤ n) ∧ HLe Hq H1 ∧ BM H0 H1 w0 w' gb rb ca n cc p2 [exT aa ac us] ρ' (ls ++ ts.map .as_) xs ∧ Trees H1 ts us ∧ us.length = i ∧ (∀ t ∈ ts, Sm9 t)) (fun ρ' _ => d - (vint (ρ' 51)).toNat)
    ⟨0, p1, Hq, [], [], a2, 0, by omega, by rw [K3 49 (by decide) (by decide), K2 49 (by decide) (by decide)]; exact e49, by rw [K3 50 (by decide) (by decide)]; exact e50, by rw [e51]; rfl, hp1, hpn1, HLe.refl _, by simpa using S3, TsL.nil, rfl, fun t ht => (by cases ht)⟩ ?_
  rintro ρ4 w4 ⟨i, p2, H1, ts, us, aa, ac, hi, f49, f50, f51, hp2, hpn2, hle, S4, hTs, hul, hsm⟩ L hL
  have htl : ts.length = i := by have := hTs.len; omega
  refine W_sq ?_
  refine W_sq ?_
  refine R22_ok f51 f49 (fun ρ5 e113 K5 => ?_)
  have S5 := (S4.env (K5 2 (by decide)) (K5 3 (by decide)) (K5 4 (by decide)) (K5 5 (by decide)))
  by_cases hid : i < d
  · refine W_condT (by show ρ5 113 = _; rw [e113, decide_eq_true hid]) ?_
    refine W_skip ?_
    refine W_sq ?_
    refine W_block ?_
    refine W_sq ?_
    refine R_next S5 (by decide) (by decide) tC hn (fun ρ6 w6 v p6 hv hp6 hpn6 _ S6 e52 K6 => ?_)
    refine W_sq ?_
    refine R_gen S6 (by decide) (by decide) (by decide) tC hn e52 hv (by decide) (fun ρ7 w7 H7 p7 t hsh htz hp7 hpn7 S7 le7 T53 K7 => ?_)
    have hsm9 : Sm9 t := ⟨hsh, htz⟩
    refine W_sq ?_
    refine R26_ok S7 (by rw [K7 50 (by decide) (by decide), K6 50 (by decide) (by decide), K5 50 (by decide)]; exact f50) (hTs.mono le7) T53 (by omega) (fun ρ8 w8 a8 c8 us8 S8 hl8 e508 hTs8 K8 => ?_)
    refine R_pr (l := .as_ t) S8 (by decide) (by decide) (show TV H7 (ρ8 53) t by rw [K8 53 (by decide) (by decide)]; exact T53) hsm9.bf (by decide) rfl (by simp; omega) (fun ρ9 w9 S9 K9 => ?_)
    have g51 : ρ9 51 = .int .i64 i := by rw [K9 51 (by decide) (by decide), K8 51 (by decide) (by decide), K7 51 (by decide) (by decide), K6 51 (by decide) (by decide), K5 51 (by decide)]; exact f51
    refine R_inc S9 (by decide) (by decide) g51 (by omega) (fun ρa Sa ea Ka => ?_)
    refine hL.fin _ _ ⟨i + 1, p7, H7, ts ++ [t], us8, a8, c8, by omega, ?_, ?_, ea, by omega, fun e => hpn7 (hpn6 (hpn2 e)), hle.trans le7, ?_, hTs8, by omega, fun u hu => ?_⟩ ?_
    · rw [Ka 49 (by decide) (by decide), K9 49 (by decide) (by decide), K8 49 (by decide) (by decide), K7 49 (by decide) (by decide), K6 49 (by decide) (by decide), K5 49 (by decide)]; exact f49
    · rw [Ka 50 (by decide) (by decide), K9 50 (by decide) (by decide)]; exact e508
    · rw [List.map_append, ← List.append_assoc]; exact Sa
    · rcases List.mem_append.1 hu with hu | hu
      · exact hsm u hu
      · rw [List.mem_singleton] at hu; subst hu; exact hsm9
    · show d - (vint (ρa 51)).toNat < d - (vint (ρ4 51)).toNat
      rw [ea, f51]; simp only [vint]; omega
  · refine W_condF (by show ρ5 113 = _; rw [e113, decide_eq_false hid]) ?_
    refine W_exit ?_
    simp only [t_exit, b_exit, t_normal]
    obtain rfl : i = d := by omega
    obtain ⟨H8, S8, le8, sl8, _⟩ := S5.keepE
    have tT : TsV H8 aa i ts := ⟨us, hTs.mono le8, hul.symm, sl8⟩
    obtain ⟨z, hz⟩ : ∃ z, ts.getD (i - 1) .nil = z := ⟨_, rfl⟩
    have hzm : z ∈ ts := by
      rw [← hz, show ts.getD (i - 1) .nil = ts[i - 1]'(by omega) by simp [List.getD, show i - 1 < ts.length by omega]]; exact List.getElem_mem _
    have hz9 := hsm z hzm
    have g50 : ρ5 50 = .slice aa i ac := by rw [K5 50 (by decide), f50, hul]
    have g49 : ρ5 49 = .int .i64 i := by rw [K5 49 (by decide)]; exact f49
    refine W_sq ?_
    refine R28_ok S8 g50 g49 tT hd1 hd5 hz hz9.bf (by simp; omega) (fun ρ9 w9 S9 K9 => ?_)
    refine W_sq ?_
    have h50 : ρ9 50 = .slice aa i ac := by rw [K9 50 (by decide) (by decide)]; exact g50
    have h49 : ρ9 49 = .int .i64 i := by rw [K9 49 (by decide) (by decide)]; exact g49
    refine R29_ok S9 h50 h49 tT hd1 hd5 hz (fun ρa wa b c0 c1 c2 Sa e54 hTa Ka => ?_)
    refine W_sq ?_
    refine W_sq ?_
    refine R_cpy Sa (by decide) (by decide) (by decide) (show ρa 49 = .int .i64 i by rw [Ka 49 (by decide) (by decide)]; exact h49) (fun ρb Sb e55 Kb => ?_)
    refine W_block ?_
    refine W_loopK (fun ρ' w' => ∃ (q m : Nat) (H1 : Heap) (b : Nat) (c0 c1 c2 : Value), q + m = i ∧ ρ' 50 = .slice aa i ac ∧ ρ' 54 = .pointer (some ⟨b, 0, none⟩) ∧ ρ' 55 = .int .i64 q ∧ HLe H8 H1 ∧ BM H0 H1 w0 w' gb rb ca n cc p2 [exB b c0 c1 c2] ρ' (ls ++ ts.map .as_ ++ [.st z 1 [i]] ++ L9 ts z m) xs ∧ TreeC H1 (cc9 (ts.drop q) z) [c0, c1, c2]) (fun ρ' _ => (vint (ρ' 55)).toNat)
      ⟨i, 0, H8, b, c0, c1, c2, rfl, by rw [Kb 50 (by decide) (by decide), Ka 50 (by decide) (by decide)]; exact h50, by rw [Kb 54 (by decide) (by decide)]; exact e54, e55, HLe.refl _, by simpa [L9] using Sb, by rw [List.drop_eq_nil_of_le (by omega)]; exact hTa⟩ ?_
    clear e54 hTa Sa Sb e55 Ka Kb h50 h49
    rintro ρc wc ⟨q, m, H9, b, c0, c1, c2, hqm, f50, f54, f55, le9, Sc, hTc⟩ L2 hL2
    refine W_sq ?_
    refine W_sq ?_
    refine R31_ok f55 (fun ρd e151 Kd => ?_)
    have Sd := (Sc.env (Kd 2 (by decide)) (Kd 3 (by decide)) (Kd 4 (by decide)) (Kd 5 (by decide)))
    have hll := L9_len ts z m
    by_cases hq1 : 1 ≤ q
    · refine W_condT (by show ρd 151 = _; rw [e151, decide_eq_true hq1]) ?_
      refine W_skip ?_
      refine W_sq ?_
      refine W_block ?_
      refine W_sq ?_
      refine R_lit (l := .en) Sd (by decide) rfl (by simp; omega) (fun ρe we Se Ke => ?_)
      obtain ⟨t, ht⟩ : ∃ t, ts.getD (q - 1) .nil = t := ⟨_, rfl⟩
      have hcc : cc9 (ts.drop (q - 1)) z = tB 6 t (cc9 (ts.drop q) z) := by
        have hql : q - 1 < ts.length := by omega
        rw [List.drop_eq_getElem_cons hql, ← ht, show ts.getD (q - 1) .nil = ts[q - 1] by simp [List.getD, hql], show q - 1 + 1 = q by omega]; rfl
      have hbf : BF (tB 6 t (cc9 (ts.drop q) z)) := by
        rw [← hcc]; exact cc9_bf hz9 _ (fun t ht => hsm t (List.mem_of_mem_drop ht)) (by simp; omega)
      refine W_sq ?_
      refine R34_ok Se (by rw [Ke 50 (by decide) (by decide), Kd 50 (by decide)]; exact f50) (by rw [Ke 54 (by decide) (by decide), Kd 54 (by decide)]; exact f54) (by rw [Ke 55 (by decide) (by decide), Kd 55 (by decide)]; exact f55) (tT.mono le9) hq1 (by omega) hd5 ht hTc (fun ρf wf Hf Sf lef T56 Kf => ?_)
      refine W_sq ?_
      refine R35_ok Sf T56 hbf (show ρf 55 = .int .i64 q by rw [Kf 55 (by decide) (by decide), Ke 55 (by decide) (by decide), Kd 55 (by decide)]; exact f55) (by omega) (by simp; omega) (fun ρg wg Sg Kg => ?_)
      refine R36_ok Sg (by rw [Kg 54 (by decide) (by decide), Kf 54 (by decide) (by decide), Ke 54 (by decide) (by decide), Kd 54 (by decide)]; exact f54) (show TV Hf (ρg 56) _ by rw [Kg 56 (by decide) (by decide)]; exact T56) (fun ρh wh z0 z1 z2 Sh hTh Kh => ?_)
      obtain ⟨q', rfl⟩ : ∃ q', q = q' + 1 := ⟨q - 1, by omega⟩
      have g55 : ρh 55 = .int .i64 ((q' + 1 : Nat) : Int) := by rw [Kh 55 (by decide), Kg 55 (by decide) (by decide), Kf 55 (by decide) (by decide), Ke 55 (by decide) (by decide), Kd 55 (by decide)]; exact f55
      refine R_dec Sh (by decide) (by decide) g55 (by omega) (fun ρj Sj ej Kj => ?_)
      refine hL2.fin _ _ ⟨q', m + 1, Hf, b, z0, z1, z2, by omega, ?_, ?_, ej, le9.trans lef, ?_, ?_⟩ ?_
      · rw [Kj 50 (by decide) (by decide), Kh 50 (by decide), Kg 50 (by decide) (by decide), Kf 50 (by decide) (by decide), Ke 50 (by decide) (by decide), Kd 50 (by decide)]; exact f50
      · rw [Kj 54 (by decide) (by decide), Kh 54 (by decide), Kg 54 (by decide) (by decide), Kf 54 (by decide) (by decide), Ke 54 (by decide) (by decide), Kd 54 (by decide)]; exact f54
      · have e : ls ++ ts.map .as_ ++ [.st z 1 [i]] ++ L9 ts z (m + 1) = ls ++ ts.map .as_ ++ [.st z 1 [i]] ++ L9 ts z m ++ [.en] ++ [.st (tB 6 t (cc9 (ts.drop (q' + 1)) z)) 8 [q' + 1]] := by
          simp only [L9, htl, show i - (m + 1) = q' by omega, show i - m = q' + 1 by omega, List.append_assoc, List.cons_append, List.nil_append]
          rw [← hcc]; rfl
        rw [e]; exact Sj
      · have := hcc
        rw [show q' + 1 - 1 = q' by omega] at this
        rw [this]; exact hTh
      · show (vint (ρj 55)).toNat < (vint (ρc 55)).toNat
        rw [ej, f55]; simp only [vint]; omega
    · refine W_condF (by show ρd 151 = _; rw [e151, decide_eq_false hq1]) ?_
      refine W_exit ?_
      simp only [t_exit, b_exit, t_normal]
      obtain rfl : q = 0 := by omega
      obtain rfl : m = i := by omega
      rw [List.drop_zero] at hTc
      obtain ⟨He, Se, lee, sle, _⟩ := Sd.keepE
      have y0 : He b 0 = some c0 := by have := sle.cell 0 c0 rfl; simpa [exB, ablk_some, aoff_some] using this
      have y1 : He b 1 = some c1 := by have := sle.cell 1 c1 rfl; simpa [exB, ablk_some, aoff_some] using this
      have y2 : He b 2 = some c2 := by have := sle.cell 2 c2 rfl; simpa [exB, ablk_some, aoff_some] using this
      have T54 : TV He (ρd 54) (cc9 ts z) := ⟨b, c0, c1, c2, by rw [Kd 54 (by decide)]; exact f54, y0, y1, y2, hTc.mono lee⟩
      refine R_v0 Se (by decide) (by decide) T54 (cc9_bf hz9 ts hsm (by omega)) (by omega) (fun ρf wf Hf x Sf hv Kf => ?_)
      refine h ρf wf Hf p2 (ts.map .as_ ++ ([.st z 1 [m]] ++ L9 ts z m)) x hp2 hpn2 ?_ ?_
      · simpa [List.append_assoc] using Sf
      · rw [hv]
        have := bok9 (vs := xs.map VdA.v) (by omega) (by omega) hsm (z := z) (by rw [htl]; exact hz)
        rw [htl] at this
        exact this
end Go.Proofs.YbzaawGreat
