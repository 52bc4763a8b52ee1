/-  spec.BuildProof, all of it (written by tools/gen_bwa.py).  -/
import Derived.Test.YbzaawGreatBW9
namespace Go.Proofs.YbzaawGreat
open Go.Wf Go.Deep
set_option linter.unusedSimpArgs false
set_option linter.unusedVariables false

theorem good_len {z : LT} (h : z.good) : z.tx.length ≤ 10000 := by
  have r1 : ∀ r : Int, 1 ≤ r → r ≤ 17 → (ruleNm r).size ≤ 5 := fun r h1 h17 => by
    have : r = 1 ∨ r = 2 ∨ r = 3 ∨ r = 4 ∨ r = 5 ∨ r = 6 ∨ r = 7 ∨ r = 8 ∨ r = 9 ∨ r = 10 ∨ r = 11 ∨ r = 12 ∨ r = 13 ∨ r = 14 ∨ r = 15 ∨ r = 16 ∨ r = 17 := by omega
    rcases this with rfl | rfl | rfl | rfl | rfl | rfl | rfl | rfl | rfl | rfl | rfl | rfl | rfl | rfl | rfl | rfl | rfl <;> decide
  cases z with
  | thm => decide
  | bl1 => decide
  | bl2 => decide
  | en => decide
  | bad => decide
  | pr t => have := show_len h; simp [LT.tx, sPrem]; omega
  | as_ t => have := show_len h; simp [LT.tx, sAss]; omega
  | st c r refs =>
    obtain ⟨hc, hr1, hr17, _, hr, hl⟩ := h
    have h1 := show_len hc
    have h2 := refsB_len refs hr
    have h3 := r1 r hr1 hr17
    have h4 := len_data (ruleNm r)
    simp only [LT.tx, List.length_append, List.length_cons, h4]
    have : sBy.data.toList.length = 2 := by decide
    omega
theorem BR.nil_of {ls : List LT} (h : BR ls []) : ls = [] := by
  generalize hv : ([] : List Vd) = vs at h
  cases h with
  | nil => rfl
  | add h bl hbl hb => simp at hv
-- spec.BuildProof
set_option maxHeartbeats 8000000 in
set_option maxRecDepth 20000 in
theorem buildProof_ok {H : Heap} {w : World} (hH : HS H w) {ca : Option Addr} {n cc : Nat} {l : List UInt8} (tC : BcH H ca n l) (hn : n ≤ 1048576) (R : Value → World → Prop)
    (h : ∀ w' H' (ls : List LT) (xs : List VdA) va vc, Fr noB w w' → Ext H H' w w' → BR ls (xs.map VdA.v) → 1 ≤ xs.length → ls.length ≤ 50000000 → xs.length ≤ 2000000 → VsH H' va xs.length xs → (∀ x ∈ xs, VdN H' x) → xs.length ≤ vc → R (.agg #[.string ⟨(joinB ls).toArray⟩, .slice va xs.length vc]) w') : CallsV Yaao.prog 13 #[.slice ca n cc] w R := by
  refine ent13 (by simp) ?_
  refine W_sq ?_
  refine R0_ok (fun ρ0 e2 K0 => ?_)
  have f0 : Fr noB w (w.alloc (.cells [.string ⟨#[]⟩, .slice none 0 0].toArray 41)) := Fr.alloc _ _ _ _
  have B0 : Blk (w.alloc (.cells [.string ⟨#[]⟩, .slice none 0 0].toArray 41)) w.heap.size 41 [.string ⟨#[]⟩, .slice none 0 0] := Blk.new _ _ _
  obtain ⟨rb, hrb⟩ : ∃ rb, rb = w.heap.size := ⟨_, rfl⟩
  rw [← hrb] at B0 e2
  generalize w.alloc (.cells [.string ⟨#[]⟩, .slice none 0 0].toArray 41) = w0 at f0 B0 ⊢
  refine W_sq ?_
  refine R1_ok (show ρ0 0 = .slice ca n cc by rw [K0 0 (by decide)]; rfl) (fun ρ1 e3 K1 => ?_)
  have f1 : Fr noB w0 (w0.alloc (.cells (gnC ca n cc 0).toArray 70)) := Fr.alloc _ _ _ _
  have B1 : Blk (w0.alloc (.cells (gnC ca n cc 0).toArray 70)) w0.heap.size 70 (gnC ca n cc 0) := Blk.new _ _ _
  obtain ⟨gb, hgb⟩ : ∃ gb, gb = w0.heap.size := ⟨_, rfl⟩
  rw [← hgb] at B1 e3
  generalize w0.alloc (.cells (gnC ca n cc 0).toArray 70) = w1 at f1 B1 ⊢
  refine W_sq ?_
  refine R2_ok (fun ρ2 e4 K2 => ?_)
  have f2 : Fr noB w1 (w1.alloc (.cells #[] 9)) := Fr.alloc _ _ _ _
  have o2 : Own (w1.alloc (.cells #[] 9)) 9 1 (some ⟨w1.heap.size, 0, none⟩) 0 0 (strsC (([] : List LT).map LT.ba)) := Own.mk' rfl (heap_alloc_new w1 _) (Nat.le_refl _) (Nat.zero_le _) rfl rfl
  obtain ⟨b2, hb2⟩ : ∃ b2, b2 = w1.heap.size := ⟨_, rfl⟩
  rw [← hb2] at o2 e4
  generalize w1.alloc (.cells #[] 9) = w2 at f2 o2 ⊢
  refine W_sq ?_
  refine R3_ok (fun ρ3 e5 K3 => ?_)
  have f3 : Fr noB w2 (w2.alloc (.cells #[] 30)) := Fr.alloc _ _ _ _
  have o3 : Own (w2.alloc (.cells #[] 30)) 30 5 (some ⟨w2.heap.size, 0, none⟩) 0 0 (encVs []) := Own.mk' rfl (heap_alloc_new w2 _) (Nat.le_refl _) (Nat.zero_le _) rfl rfl
  obtain ⟨b3, hb3⟩ : ∃ b3, b3 = w2.heap.size := ⟨_, rfl⟩
  rw [← hb3] at o3 e5
  generalize w2.alloc (.cells #[] 30) = w3 at f3 o3 ⊢
  have z0 := f0.size
  have z1 := f1.size
  have z2 := f2.size
  have F3 : Fr noB w w3 := ((f0.no f1).no f2).no f3
  have key : ∀ (b k : Nat), w.heap.size ≤ b → blkO (some ⟨b, 0, none⟩) k → w.heap.size ≤ k ∧ ∀ o, H k o = none := fun b k hb e => by
    have e : b = k := by simpa [blkO] using e
    exact ⟨by omega, fun o => hH.off (by omega) o⟩
  have S3 : BM H H w w3 gb rb ca n cc 0 [] ρ3 [] [] := ⟨⟨HLe.refl _, hH.frN F3, fun _ _ _ => rfl⟩, F3, by rw [K3 2 (by decide) (by decide), K2 2 (by decide) (by decide), K1 2 (by decide) (by decide)]; exact e2, by rw [K3 3 (by decide) (by decide), K2 3 (by decide) (by decide)]; exact e3, (B1.frN f2).frN f3, fun o => hH.off (by omega) o, by omega, ((B0.frN f1).frN f2).frN f3, fun o => hH.off (by omega) o, by omega,
    ⟨some ⟨b2, 0, none⟩, 0, by rw [K3 4 (by decide) (by decide)]; exact e4, o2.frN f3, fun k e => key _ k (by omega) e⟩, ⟨some ⟨b3, 0, none⟩, 0, e5, o3, fun k e => key _ k (by omega) e⟩, fun x hx => (by cases hx), fun e he => (by cases he)⟩
  refine W_sq ?_
  refine W_block ?_
  refine W_loopK (fun ρ' w' => ∃ (p : Nat) (ls : List LT) (xs : List VdA) (H1 : Heap), p ≤ n ∧ BM H H1 w w' gb rb ca n cc p [] ρ' ls xs ∧ BR ls (xs.map VdA.v) ∧ ls.length ≤ 40 * p ∧ xs.length ≤ p) (fun _ w' => n - gpos w' gb)
    ⟨0, [], [], H, Nat.zero_le _, S3, BR.nil, by simp, by simp⟩ ?_
  clear S3 o2 o3 e2 e3 e4 e5 K0 K1 K2 K3 B0 B1 f0 f1 f2 f3 key
  rintro ρ4 w4 ⟨p, ls, xs, H4, hp, S4, hbr, hll, hxl⟩ L hL
  have hvs := hbr.vs
  refine W_sq ?_
  refine W_sq ?_
  refine R4_ok S4 (fun ρ5 w5 S5 e64 K5 => ?_)
  by_cases hpn : p < n
  · refine W_condT (by show ρ5 64 = _; rw [e64, decide_eq_true hpn]) ?_
    refine W_skip ?_
    refine W_block ?_
    refine W_sq ?_
    refine R_next S5 (by decide) (by decide) tC hn (fun ρ6 w6 b p6 hb6 hp6 hpn6 hlt6 S6 e6 K6 => ?_)
    have hp6' := hlt6 hpn
    have hp6n := hpn6 hp
    refine W_sq ?_
    refine R_next S6 (by decide) (by decide) tC hn (fun ρ7 w7 va p7 hv7 hp7 hpn7 _ S7 e7 K7 => ?_)
    refine W_sq ?_
    refine R_gen S7 (by decide) (by decide) (by decide) tC hn e7 hv7 (by decide) (fun ρ8 w8 H8 p8 A hsA hzA hp8 hpn8 S8 le8 TA8 K8 => ?_)
    refine W_sq ?_
    refine R_next S8 (by decide) (by decide) tC hn (fun ρ9 w9 vb p9 hv9 hp9 hpn9 _ S9 e9 K9 => ?_)
    refine W_sq ?_
    refine R_gen S9 (by decide) (by decide) (by decide) tC hn e9 hv9 (by decide) (fun ρa wa Ha pa B hsB hzB hpa hpna Sa lea TBa Ka => ?_)
    refine W_sq ?_
    refine R_next Sa (by decide) (by decide) tC hn (fun ρb wb vc pb hvb hpb hpnb _ Sb eb Kb => ?_)
    refine W_sq ?_
    refine R_gen Sb (by decide) (by decide) (by decide) tC hn eb hvb (by decide) (fun ρc wc Hc pB C hsC hzC hpc hpnc Sc lec TCc Kc => ?_)
    have hA : Sm A := ⟨hsA, hzA⟩
    have hB : Sm B := ⟨hsB, hzB⟩
    have hC : Sm C := ⟨hsC, hzC⟩
    have hpBn : pB ≤ n := hpnc (hpnb (hpna (hpn9 (hpn8 (hpn7 hp6n)))))
    have hpB : p + 1 ≤ pB := by omega
    have hpB2 : pB ≤ 1048576 := by omega
    have g6 : ρc 6 = .int .i64 b := by rw [Kc 6 (by decide) (by decide), Kb 6 (by decide) (by decide), Ka 6 (by decide) (by decide), K9 6 (by decide) (by decide), K8 6 (by decide) (by decide), K7 6 (by decide) (by decide)]; exact e6
    have TAc : TV Hc (ρc 8) A := by rw [Kc 8 (by decide) (by decide), Kb 8 (by decide) (by decide), Ka 8 (by decide) (by decide), K9 8 (by decide) (by decide)]; exact (TA8.mono lea).mono lec
    have TBc : TV Hc (ρc 10) B := by rw [Kc 10 (by decide) (by decide), Kb 10 (by decide) (by decide)]; exact TBa.mono lec
    refine W_sq ?_
    refine R12_ok g6 (fun ρd ed Kd => ?_)
    have Sd := Sc.env (Kd 2 (by decide) (by decide)) (Kd 3 (by decide) (by decide)) (Kd 4 (by decide) (by decide)) (Kd 5 (by decide) (by decide))
    obtain ⟨va5, vc5, ev5, _, _⟩ := Sd.ov
    refine W_sq ?_
    refine W_sq ?_
    refine R13_ok ed ev5 (fun ρe ee Ke => ?_)
    have Se := Sd.env (Ke 2 (by decide)) (Ke 3 (by decide)) (Ke 4 (by decide)) (Ke 5 (by decide))
    -- from the theorem's line on
    have go : ∀ (ρf : Env) (qq : Nat), ρf 13 = .int .i64 qq → (qq = 7 → 1 ≤ xs.length) → qq ≤ 9 → (∀ r, r < 58 → r ≠ 13 → ρf r = ρe r) → VC Yaao.prog (sel [true, true, true, true, false, false, false, true, false, true, true, true, true, true, true, true, true, true] bpc) (blockK 1 (thenK L (blockK 0 (thenK (fun ρ w => VC Yaao.prog (sel [true, true, true, true, true] bpc) (retK Yaao.prog Yaao.f13 R) ρ w) (retK Yaao.prog Yaao.f13 R))))) ρf wc := fun ρf qq e13 hq7 hq9 Kf => by
      have Sf := Se.env (Kf 2 (by decide) (by decide)) (Kf 3 (by decide) (by decide)) (Kf 4 (by decide) (by decide)) (Kf 5 (by decide) (by decide))
      have f6 : ρf 6 = .int .i64 b := by rw [Kf 6 (by decide) (by decide), Ke 6 (by decide), Kd 6 (by decide) (by decide)]; exact g6
      have TAf : TV Hc (ρf 8) A := by rw [Kf 8 (by decide) (by decide), Ke 8 (by decide), Kd 8 (by decide) (by decide)]; exact TAc
      have TBf : TV Hc (ρf 10) B := by rw [Kf 10 (by decide) (by decide), Ke 10 (by decide), Kd 10 (by decide) (by decide)]; exact TBc
      have TCf : TV Hc (ρf 12) C := by rw [Kf 12 (by decide) (by decide), Ke 12 (by decide), Kd 12 (by decide) (by decide)]; exact TCc
      refine W_sq ?_
      refine R_lit (l := .thm) Sf (by decide) rfl (by omega) (fun ρg wg Sg Kg => ?_)
      refine W_sq ?_
      refine W_sq ?_
      refine R16_ok (show ρg 6 = .int .i64 b by rw [Kg 6 (by decide) (by decide)]; exact f6) (fun ρh eh Kh => ?_)
      have Sh := Sg.env (Kh 2 (by decide)) (Kh 3 (by decide)) (Kh 4 (by decide)) (Kh 5 (by decide))
      -- from the switch on
      have sw : ∀ (ρi : Env) (wi : World) (bl : List LT), (bl = [] ∨ bl = [.bl1, .bl2]) → BM H Hc w wi gb rb ca n cc pB [] ρi (ls ++ [.thm] ++ bl) xs → (∀ r, r < 58 → r ≠ 4 → ρi r = ρh r) → VC Yaao.prog (sel [true, true, true, true, false, false, false, true, false, true, true, true, true, true, true, true, true, true, true, true] bpc) (blockK 1 (thenK L (blockK 0 (thenK (fun ρ w => VC Yaao.prog (sel [true, true, true, true, true] bpc) (retK Yaao.prog Yaao.f13 R) ρ w) (retK Yaao.prog Yaao.f13 R))))) ρi wi := fun ρi wi bl hbl Si Ki => by
        have hblen : bl.length ≤ 2 := by rcases hbl with rfl | rfl <;> simp
        have hi13 : ρi 13 = .int .i64 qq := by rw [Ki 13 (by decide) (by decide), Kh 13 (by decide), Kg 13 (by decide) (by decide)]; exact e13
        refine W_sq ?_
        refine R18_ok hi13 (fun ρB f105_0 KB => ?_)
        have SB := Si.env (KB 2 (by decide)) (KB 3 (by decide)) (KB 4 (by decide)) (KB 5 (by decide))
        have LB : ∀ r, r < 58 → r ≠ 4 → ρB r = ρf r := fun r h1 h2 => by rw [KB r h1, Ki r h1 h2, Kh r h1, Kg r h1 h2]
        have TA : TV Hc (ρB 8) A := by rw [LB 8 (by decide) (by decide)]; exact TAf
        have TB : TV Hc (ρB 10) B := by rw [LB 10 (by decide) (by decide)]; exact TBf
        have TC : TV Hc (ρB 12) C := by rw [LB 12 (by decide) (by decide)]; exact TCf
        have hlb : (ls ++ [LT.thm] ++ bl).length ≤ 900000000 := by simp; omega
        have done : ∀ (ρe : Env) (we : World) (He : Heap) (pe : Nat) (body : List LT) (x : VdA), pB ≤ pe → (pB ≤ n → pe ≤ n) → BM H He w we gb rb ca n cc pe [] ρe ((ls ++ [.thm] ++ bl) ++ body) (xs ++ [x]) → BOk (xs.map VdA.v) body (VdA.v x) → L ρe we := fun ρe we He pe body x hpe hpne Se hbe => by
          refine hL.fin _ _ ⟨pe, ls ++ .thm :: (bl ++ body), xs ++ [x], He, hpne hpBn, ?_, ?_, ?_, by simp; omega⟩ ?_
          · simpa [List.append_assoc] using Se
          · rw [List.map_append]; exact hbr.add bl hbl hbe
          · have := hbe.len
            simp; omega
          · show n - gpos we gb < n - gpos w4 gb
            rw [gpos_eq Se.gB, gpos_eq S4.gB]
            have := hpne hpBn
            omega
        refine W_block ?_
        refine W_sq ?_
        refine R_test (by decide) f105_0 (fun ρt0 et0 f105_1 Kt0 => ?_)
        by_cases hq0 : qq = 0
        · refine W_condT (by show ρt0 178 = _; rw [et0, decide_eq_true (by omega)]) ?_
          have Lt : ∀ r, r < 58 → ρt0 r = ρB r := fun r hr => by rw [Kt0 r hr]
          have St := SB.env (Lt 2 (by decide)) (Lt 3 (by decide)) (Lt 4 (by decide)) (Lt 5 (by decide))
          have TAt : TV Hc (ρt0 8) A := by rw [Lt 8 (by decide)]; exact TA
          have TBt : TV Hc (ρt0 10) B := by rw [Lt 10 (by decide)]; exact TB
          have TCt : TV Hc (ρt0 12) C := by rw [Lt 12 (by decide)]; exact TC
          refine case0 St TAt TBt TCt hA hB hC (by omega) (by omega) (fun ρe we He body x Se hbe => ?_)
          exact done ρe we He pB body x (Nat.le_refl _) (fun e => e) Se hbe
        refine W_condF (by show ρt0 178 = _; rw [et0, decide_eq_false (by omega)]) ?_
        refine W_sq ?_
        refine R_test (by decide) f105_1 (fun ρt1 et1 f105_2 Kt1 => ?_)
        by_cases hq1 : qq = 1
        · refine W_condT (by show ρt1 217 = _; rw [et1, decide_eq_true (by omega)]) ?_
          have Lt : ∀ r, r < 58 → ρt1 r = ρB r := fun r hr => by rw [Kt1 r hr, Kt0 r hr]
          have St := SB.env (Lt 2 (by decide)) (Lt 3 (by decide)) (Lt 4 (by decide)) (Lt 5 (by decide))
          have TAt : TV Hc (ρt1 8) A := by rw [Lt 8 (by decide)]; exact TA
          have TBt : TV Hc (ρt1 10) B := by rw [Lt 10 (by decide)]; exact TB
          have TCt : TV Hc (ρt1 12) C := by rw [Lt 12 (by decide)]; exact TC
          refine case1 St TAt TBt TCt hA hB hC (by omega) (by omega) (fun ρe we He body x Se hbe => ?_)
          exact done ρe we He pB body x (Nat.le_refl _) (fun e => e) Se hbe
        refine W_condF (by show ρt1 217 = _; rw [et1, decide_eq_false (by omega)]) ?_
        refine W_sq ?_
        refine R_test (by decide) f105_2 (fun ρt2 et2 f105_3 Kt2 => ?_)
        by_cases hq2 : qq = 2
        · refine W_condT (by show ρt2 237 = _; rw [et2, decide_eq_true (by omega)]) ?_
          have Lt : ∀ r, r < 58 → ρt2 r = ρB r := fun r hr => by rw [Kt2 r hr, Kt1 r hr, Kt0 r hr]
          have St := SB.env (Lt 2 (by decide)) (Lt 3 (by decide)) (Lt 4 (by decide)) (Lt 5 (by decide))
          have TAt : TV Hc (ρt2 8) A := by rw [Lt 8 (by decide)]; exact TA
          have TBt : TV Hc (ρt2 10) B := by rw [Lt 10 (by decide)]; exact TB
          have TCt : TV Hc (ρt2 12) C := by rw [Lt 12 (by decide)]; exact TC
          refine case2 St TAt TBt TCt hA hB hC (by omega) (by omega) (fun ρe we He body x Se hbe => ?_)
          exact done ρe we He pB body x (Nat.le_refl _) (fun e => e) Se hbe
        refine W_condF (by show ρt2 237 = _; rw [et2, decide_eq_false (by omega)]) ?_
        refine W_sq ?_
        refine R_test (by decide) f105_3 (fun ρt3 et3 f105_4 Kt3 => ?_)
        by_cases hq3 : qq = 3
        · refine W_condT (by show ρt3 294 = _; rw [et3, decide_eq_true (by omega)]) ?_
          have Lt : ∀ r, r < 58 → ρt3 r = ρB r := fun r hr => by rw [Kt3 r hr, Kt2 r hr, Kt1 r hr, Kt0 r hr]
          have St := SB.env (Lt 2 (by decide)) (Lt 3 (by decide)) (Lt 4 (by decide)) (Lt 5 (by decide))
          have TAt : TV Hc (ρt3 8) A := by rw [Lt 8 (by decide)]; exact TA
          have TBt : TV Hc (ρt3 10) B := by rw [Lt 10 (by decide)]; exact TB
          have TCt : TV Hc (ρt3 12) C := by rw [Lt 12 (by decide)]; exact TC
          refine case3 St TAt TBt TCt hA hB hC (by omega) (by omega) (fun ρe we He body x Se hbe => ?_)
          exact done ρe we He pB body x (Nat.le_refl _) (fun e => e) Se hbe
        refine W_condF (by show ρt3 294 = _; rw [et3, decide_eq_false (by omega)]) ?_
        refine W_sq ?_
        refine R_test (by decide) f105_4 (fun ρt4 et4 f105_5 Kt4 => ?_)
        by_cases hq4 : qq = 4
        · refine W_condT (by show ρt4 334 = _; rw [et4, decide_eq_true (by omega)]) ?_
          have Lt : ∀ r, r < 58 → ρt4 r = ρB r := fun r hr => by rw [Kt4 r hr, Kt3 r hr, Kt2 r hr, Kt1 r hr, Kt0 r hr]
          have St := SB.env (Lt 2 (by decide)) (Lt 3 (by decide)) (Lt 4 (by decide)) (Lt 5 (by decide))
          have TAt : TV Hc (ρt4 8) A := by rw [Lt 8 (by decide)]; exact TA
          have TBt : TV Hc (ρt4 10) B := by rw [Lt 10 (by decide)]; exact TB
          have TCt : TV Hc (ρt4 12) C := by rw [Lt 12 (by decide)]; exact TC
          refine case4 St TAt TBt TCt hA hB hC (by omega) (by omega) (fun ρe we He body x Se hbe => ?_)
          exact done ρe we He pB body x (Nat.le_refl _) (fun e => e) Se hbe
        refine W_condF (by show ρt4 334 = _; rw [et4, decide_eq_false (by omega)]) ?_
        refine W_sq ?_
        refine R_test (by decide) f105_5 (fun ρt5 et5 f105_6 Kt5 => ?_)
        by_cases hq5 : qq = 5
        · refine W_condT (by show ρt5 389 = _; rw [et5, decide_eq_true (by omega)]) ?_
          have Lt : ∀ r, r < 58 → ρt5 r = ρB r := fun r hr => by rw [Kt5 r hr, Kt4 r hr, Kt3 r hr, Kt2 r hr, Kt1 r hr, Kt0 r hr]
          have St := SB.env (Lt 2 (by decide)) (Lt 3 (by decide)) (Lt 4 (by decide)) (Lt 5 (by decide))
          have TAt : TV Hc (ρt5 8) A := by rw [Lt 8 (by decide)]; exact TA
          have TBt : TV Hc (ρt5 10) B := by rw [Lt 10 (by decide)]; exact TB
          have TCt : TV Hc (ρt5 12) C := by rw [Lt 12 (by decide)]; exact TC
          refine case5 St TAt TBt TCt hA hB hC (by omega) (by omega) (fun ρe we He body x Se hbe => ?_)
          exact done ρe we He pB body x (Nat.le_refl _) (fun e => e) Se hbe
        refine W_condF (by show ρt5 389 = _; rw [et5, decide_eq_false (by omega)]) ?_
        refine W_sq ?_
        refine R_test (by decide) f105_6 (fun ρt6 et6 f105_7 Kt6 => ?_)
        by_cases hq6 : qq = 6
        · refine W_condT (by show ρt6 436 = _; rw [et6, decide_eq_true (by omega)]) ?_
          have Lt : ∀ r, r < 58 → ρt6 r = ρB r := fun r hr => by rw [Kt6 r hr, Kt5 r hr, Kt4 r hr, Kt3 r hr, Kt2 r hr, Kt1 r hr, Kt0 r hr]
          have St := SB.env (Lt 2 (by decide)) (Lt 3 (by decide)) (Lt 4 (by decide)) (Lt 5 (by decide))
          have TAt : TV Hc (ρt6 8) A := by rw [Lt 8 (by decide)]; exact TA
          have TBt : TV Hc (ρt6 10) B := by rw [Lt 10 (by decide)]; exact TB
          have TCt : TV Hc (ρt6 12) C := by rw [Lt 12 (by decide)]; exact TC
          refine case6 St TAt TBt TCt hA hB hC (by omega) (by omega) (fun ρe we He body x Se hbe => ?_)
          exact done ρe we He pB body x (Nat.le_refl _) (fun e => e) Se hbe
        refine W_condF (by show ρt6 436 = _; rw [et6, decide_eq_false (by omega)]) ?_
        refine W_sq ?_
        refine R_test (by decide) f105_7 (fun ρt7 et7 f105_8 Kt7 => ?_)
        by_cases hq7 : qq = 7
        · refine W_condT (by show ρt7 494 = _; rw [et7, decide_eq_true (by omega)]) ?_
          have Lt : ∀ r, r < 58 → ρt7 r = ρB r := fun r hr => by rw [Kt7 r hr, Kt6 r hr, Kt5 r hr, Kt4 r hr, Kt3 r hr, Kt2 r hr, Kt1 r hr, Kt0 r hr]
          have St := SB.env (Lt 2 (by decide)) (Lt 3 (by decide)) (Lt 4 (by decide)) (Lt 5 (by decide))
          have TAt : TV Hc (ρt7 8) A := by rw [Lt 8 (by decide)]; exact TA
          have TBt : TV Hc (ρt7 10) B := by rw [Lt 10 (by decide)]; exact TB
          have TCt : TV Hc (ρt7 12) C := by rw [Lt 12 (by decide)]; exact TC
          refine case7 St tC hn TAt hA (by omega) (by omega) (by omega) hvs (fun ρe we He pe body x hpe hpne Se hbe => ?_)
          exact done ρe we He pe body x hpe hpne Se hbe
        refine W_condF (by show ρt7 494 = _; rw [et7, decide_eq_false (by omega)]) ?_
        refine W_sq ?_
        refine R_test (by decide) f105_8 (fun ρt8 et8 f105_9 Kt8 => ?_)
        by_cases hq8 : qq = 8
        · refine W_condT (by show ρt8 680 = _; rw [et8, decide_eq_true (by omega)]) ?_
          have Lt : ∀ r, r < 58 → ρt8 r = ρB r := fun r hr => by rw [Kt8 r hr, Kt7 r hr, Kt6 r hr, Kt5 r hr, Kt4 r hr, Kt3 r hr, Kt2 r hr, Kt1 r hr, Kt0 r hr]
          have St := SB.env (Lt 2 (by decide)) (Lt 3 (by decide)) (Lt 4 (by decide)) (Lt 5 (by decide))
          have TAt : TV Hc (ρt8 8) A := by rw [Lt 8 (by decide)]; exact TA
          have TBt : TV Hc (ρt8 10) B := by rw [Lt 10 (by decide)]; exact TB
          have TCt : TV Hc (ρt8 12) C := by rw [Lt 12 (by decide)]; exact TC
          refine case8 St TAt TBt TCt hA hB hC (by omega) (by omega) (fun ρe we He body x Se hbe => ?_)
          exact done ρe we He pB body x (Nat.le_refl _) (fun e => e) Se hbe
        refine W_condF (by show ρt8 680 = _; rw [et8, decide_eq_false (by omega)]) ?_
        have Lt : ∀ r, r < 58 → ρt8 r = ρB r := fun r hr => by rw [Kt8 r hr, Kt7 r hr, Kt6 r hr, Kt5 r hr, Kt4 r hr, Kt3 r hr, Kt2 r hr, Kt1 r hr, Kt0 r hr]
        have St := SB.env (Lt 2 (by decide)) (Lt 3 (by decide)) (Lt 4 (by decide)) (Lt 5 (by decide))
        refine case9 St tC hn (by omega) (by omega) (fun ρe we He pe body x hpe hpne Se hbe => ?_)
        exact done ρe we He pe body x hpe hpne Se hbe
      by_cases hb200 : 200 ≤ b
      · refine W_condT (by show ρh 101 = _; rw [eh, decide_eq_true hb200]) ?_
        refine R17_ok Sh (by simp; omega) (fun ρi wi Si Ki => ?_)
        exact sw ρi wi [.bl1, .bl2] (.inr rfl) Si Ki
      · refine W_condF (by show ρh 101 = _; rw [eh, decide_eq_false hb200]) ?_
        refine W_skip ?_
        exact sw ρh wg [] (.inl rfl) (by rw [List.append_nil]; exact Sh) (fun _ _ _ => rfl)
    have he13 : ρe 13 = .int .i64 ((b % 10 : Nat) : Int) := by rw [Ke 13 (by decide)]; exact ed
    have hb10 : b % 10 < 10 := Nat.mod_lt _ (by omega)
    by_cases hk7 : b % 10 = 7 ∧ xs.length = 0
    · refine W_condT (by show ρe 96 = _; rw [ee, decide_eq_true hk7]) ?_
      refine R_set0 (by decide) (fun ρf ef Kf => ?_)
      exact go ρf 1 (by rw [ef]; rfl) (fun e => by omega) (by omega) Kf
    · refine W_condF (by show ρe 96 = _; rw [ee, decide_eq_false hk7]) ?_
      refine W_skip ?_
      exact go ρe (b % 10) he13 (fun e => by omega) (by omega) (fun _ _ _ => rfl)
  · refine W_condF (by show ρ5 64 = _; rw [e64, decide_eq_false hpn]) ?_
    refine W_exit ?_
    simp only [t_exit, b_exit, t_normal]
    obtain ⟨va5, vc5, ev5, _, _⟩ := S5.ov
    -- the end
    have fin : ∀ (ρf : Env) (wf : World) (Hf : Heap) (ls : List LT) (xs : List VdA), BM H Hf w wf gb rb ca n cc p [] ρf ls xs → BR ls (xs.map VdA.v) → 1 ≤ xs.length → ls.length ≤ 50000000 → xs.length ≤ 2000000 → VC Yaao.prog (sel [true, true, true, true, true, true] bpc) (retK Yaao.prog Yaao.f13 R) ρf wf := fun ρf wf Hf ls xs Sf hbf hx1 hlf hxf => by
      refine W_sq ?_
      refine R165_ok Sf (fun z hz => good_len (hbf.good z hz)) (by omega) (fun ρg wg wh va vc e5 fg fh Bh e2 => ?_)
      refine W_ret ?_
      obtain ⟨va', vc', v1, v2, v3⟩ := Sf.ov
      rw [v1] at e5
      simp at e5
      obtain ⟨rfl, rfl⟩ := e5
      obtain ⟨Hx, lx, hHx, tx, nx⟩ := v2.keep Sf.hs (fun k e o => (v3 k e).2 o)
      have zf := Sf.fr.size
      have hrbN : ∀ o, Hx rb o = none := fun o => (nx rb (own_blkNe v2 Sf.rB (by decide)) o).trans (Sf.rN o)
      have hHh : HS Hx wh := (hHx.frN fg).fr fh (fun k e o => by subst e; exact hrbN o)
      have Eh : Ext H Hx w wh := ⟨Sf.ext.le.trans lx, hHh, fun k hk o => (nx k (fun e => by have := (v3 k e).1; omega) o).trans (Sf.ext.lo k hk o)⟩
      have Fh : Fr noB w wh := (Sf.fr.no fg).trans fh (fun k hk e => by have := Sf.rL; omega)
      refine retC rfl e2 k41 i41 (by rw [s41]; rfl) Bh (h wh Hx ls xs va' vc' Fh Eh hbf hx1 hlf hxf ⟨rfl, tx, fun x hx => ((Sf.vd x hx).1).mono lx⟩ (fun x hx => ((Sf.vd x hx).2).mono lx) v2.capLe)
    refine W_sq ?_
    refine W_sq ?_
    refine R161_ok ev5 (fun ρf ef Kf => ?_)
    have Sf := S5.env (Kf 2 (by decide)) (Kf 3 (by decide)) (Kf 4 (by decide)) (Kf 5 (by decide))
    by_cases hx0 : xs.length = 0
    · refine W_condT (by show ρf 728 = _; rw [ef, decide_eq_true hx0]) ?_
      obtain rfl : xs = [] := List.eq_nil_of_length_eq_zero hx0
      obtain rfl : ls = [] := hbr.nil_of
      refine W_sq ?_
      refine R162_ok Sf (fun ρg wg Hg Sg Tg Kg => ?_)
      refine W_sq ?_
      refine R163_ok Sg (by simp) (fun ρh wh Sh Kh => ?_)
      have bPP : BF (tB 6 (tA ⟨#[112]⟩) (tA ⟨#[112]⟩)) := bfB2 (by decide) (by decide) bfP.1 bfP.1 (by rw [sz_A]; omega)
      refine R164_ok Sh (show TV Hg (ρh 57) (tA ⟨#[112]⟩) by rw [Kh 57 (by decide) (by decide)]; exact Tg) bPP (by simp) (fun ρi wi Hi x Si hvi Ki => ?_)
      refine fin ρi wi Hi _ _ Si ?_ (by simp) (by simp) (by simp)
      have hbo : BOk [] [.as_ (tA ⟨#[112]⟩), .en, .st (tB 6 (tA ⟨#[112]⟩) (tA ⟨#[112]⟩)) 8 [1]] (VdA.v x) := by
        rw [hvi]
        refine ⟨?_, noT_of rfl, by simp, rfl, fun t ht => (by cases ht), bPP, by simp, fun q => acc1 bfP.tg bPP.tg _ _ _⟩
        intro z hz
        simp only [List.mem_cons, List.not_mem_nil, or_false] at hz
        rcases hz with rfl | rfl | rfl
        · exact bfP
        · trivial
        · exact ⟨bPP, by decide, by decide, by decide, by decide, by decide⟩
      exact BR.nil.add [] (.inl rfl) hbo
    · refine W_condF (by show ρf 728 = _; rw [ef, decide_eq_false hx0]) ?_
      refine W_skip ?_
      exact fin ρf w5 H4 ls xs Sf hbr (by omega) (by omega) (by omega)
end Go.Proofs.YbzaawGreat
