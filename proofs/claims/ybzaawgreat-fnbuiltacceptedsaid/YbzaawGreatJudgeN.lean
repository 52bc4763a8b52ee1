/-  Numbered lines and boxes in memory; impl.stepFits as a whole.  -/
import Derived.Test.YbzaawGreatJudgeS1
import Derived.Test.YbzaawGreatJudgeS2
import Derived.Test.YbzaawGreatJudgeS3
import Derived.Test.YbzaawGreatJudgeS4
import Derived.Test.YbzaawGreatJudgeS5
import Derived.Test.YbzaawGreatJudgeS6
namespace Go.Proofs.YbzaawGreat
open Go.Wf Go.Deep
set_option linter.unusedSimpArgs false
set_option linter.unusedVariables false

/-- A numbered line in memory. -/
structure NumA where
  n : Num
  fa : Option Addr
  fc : Nat
def na0 : NumA := ⟨num0, none, 0⟩
def NumA.cell (x : NumA) : Value := .slice x.fa x.n.f.length x.fc
def NumA.enc (x : NumA) : List Value := [x.cell, .int .i64 x.n.kind, .int .i64 x.n.box]
def encNums (xs : List NumA) : List Value := xs.flatMap NumA.enc
theorem encNums_snoc (l : List NumA) (t : NumA) : encNums (l ++ [t]) = encNums l ++ t.enc := by simp [encNums]
theorem encNums_cons (l : List NumA) (t : NumA) : encNums (t :: l) = t.enc ++ encNums l := by simp [encNums]
def Bx.enc (b : Bx) : List Value := [.int .i64 b.parent, .bool b.opn, .int .i64 b.first, .int .i64 b.last]
def encBx (bs : List Bx) : List Value := bs.flatMap Bx.enc
theorem encBx_snoc (l : List Bx) (t : Bx) : encBx (l ++ [t]) = encBx l ++ t.enc := by simp [encBx]
theorem encBx_length (l : List Bx) : (encBx l).length = l.length * 4 := by
  unfold encBx
  induction l with
  | nil => rfl
  | cons t r ih => simp only [List.flatMap_cons, List.length_append, ih, List.length_cons]; simp [Bx.enc]; omega
/-- The slice reads, in H, as these numbered lines; the first entry is idle. -/
structure NsH (H : Heap) (a : Option Addr) (n : Nat) (xs : List NumA) : Prop where
  len : n = xs.length + 1
  sl : SlH H 3 a n (encNums (na0 :: xs))
  f : ∀ x ∈ xs, FmH H x.fa x.n.f.length (trOf x.n.f)
section
variable {H : Heap} {a : Option Addr} {n : Nat} {xs : List NumA}
theorem NsH.mono {H' : Heap} (h : NsH H a n xs) (hl : HLe H H') : NsH H' a n xs := ⟨h.len, h.sl.mono hl, fun x hx => (h.f x hx).mono hl⟩
theorem NsH.at_ (h : NsH H a n xs) (i j : Nat) (hi : i < n) (v : Value) (hj : j < 3) (hv : ((na0 :: xs).getD i na0).enc[j]? = some v) : H (ablk a) (aoff a + i * 3 + j) = some v := by
  rw [Nat.add_assoc]
  refine h.sl.cell _ _ ?_
  have hi' : i < (na0 :: xs).length := by rw [List.length_cons, ← h.len]; exact hi
  have := flat_get NumA.enc 3 (na0 :: xs) i j (na0 :: xs)[i] (fun _ => rfl) (List.getElem?_eq_getElem hi') hj
  show ((na0 :: xs).flatMap NumA.enc)[i * 3 + j]? = _
  rw [this]
  rw [show (na0 :: xs).getD i na0 = (na0 :: xs)[i] by rw [List.getD, List.getElem?_eq_getElem hi']; rfl] at hv
  exact hv
theorem numA_at (xs : List NumA) (r : Nat) (h : 1 ≤ r) : (na0 :: xs).getD r na0 = xs.getD (r - 1) na0 := by
  obtain ⟨q, rfl⟩ : ∃ q, r = q + 1 := ⟨r - 1, by omega⟩
  simp
theorem NsH.c0 (h : NsH H a n xs) (r : Nat) (h1 : 1 ≤ r) (hr : r < n) : H (ablk a) (aoff a + r * 3) = some (.slice (xs.getD (r - 1) na0).fa (xs.getD (r - 1) na0).n.f.length (xs.getD (r - 1) na0).fc) := h.at_ r 0 hr _ (by omega) (by rw [numA_at xs r h1]; rfl)
theorem NsH.c1 (h : NsH H a n xs) (r : Nat) (h1 : 1 ≤ r) (hr : r < n) : H (ablk a) (aoff a + r * 3 + 1) = some (.int .i64 (xs.getD (r - 1) na0).n.kind) := h.at_ r 1 hr _ (by omega) (by rw [numA_at xs r h1]; rfl)
theorem NsH.c2 (h : NsH H a n xs) (r : Nat) (h1 : 1 ≤ r) (hr : r < n) : H (ablk a) (aoff a + r * 3 + 2) = some (.int .i64 (xs.getD (r - 1) na0).n.box) := h.at_ r 2 hr _ (by omega) (by rw [numA_at xs r h1]; rfl)
theorem NsH.fI (h : NsH H a n xs) (i : Nat) (hi : i < xs.length) : FmH H (xs.getD i na0).fa (xs.getD i na0).n.f.length (trOf (xs.getD i na0).n.f) := by
  refine h.f _ ?_
  rw [show xs.getD i na0 = xs[i] by simp [hi]]
  exact List.getElem_mem _
end
structure BxH (H : Heap) (a : Option Addr) (n : Nat) (bs : List Bx) : Prop where
  len : n = bs.length
  sl : SlH H 4 a n (encBx bs)
section
variable {H : Heap} {a : Option Addr} {n : Nat} {bs : List Bx}
theorem BxH.mono {H' : Heap} (h : BxH H a n bs) (hl : HLe H H') : BxH H' a n bs := ⟨h.len, h.sl.mono hl⟩
theorem BxH.at_ (h : BxH H a n bs) (i j : Nat) (hi : i < n) (v : Value) (hj : j < 4) (hv : (bs.getD i bx0).enc[j]? = some v) : H (ablk a) (aoff a + i * 4 + j) = some v := by
  rw [Nat.add_assoc]
  refine h.sl.cell _ _ ?_
  have hi' : i < bs.length := by rw [← h.len]; exact hi
  have := flat_get Bx.enc 4 bs i j bs[i] (fun _ => rfl) (List.getElem?_eq_getElem hi') hj
  show (bs.flatMap Bx.enc)[i * 4 + j]? = _
  rw [this]
  rw [show bs.getD i bx0 = bs[i] by simp [hi']] at hv
  exact hv
theorem BxH.c0 (h : BxH H a n bs) (i : Nat) (hi : i < n) : H (ablk a) (aoff a + i * 4) = some (.int .i64 (bs.getD i bx0).parent) := h.at_ i 0 hi _ (by omega) rfl
theorem BxH.c1 (h : BxH H a n bs) (i : Nat) (hi : i < n) : H (ablk a) (aoff a + i * 4 + 1) = some (.bool (bs.getD i bx0).opn) := h.at_ i 1 hi _ (by omega) rfl
theorem BxH.c2 (h : BxH H a n bs) (i : Nat) (hi : i < n) : H (ablk a) (aoff a + i * 4 + 2) = some (.int .i64 (bs.getD i bx0).first) := h.at_ i 2 hi _ (by omega) rfl
theorem BxH.c3 (h : BxH H a n bs) (i : Nat) (hi : i < n) : H (ablk a) (aoff a + i * 4 + 3) = some (.int .i64 (bs.getD i bx0).last) := h.at_ i 3 hi _ (by omega) rfl
end
/-- Where the judge stands is in order. -/
structure JOk (st : JS) : Prop where
  box : ∀ x ∈ st.nums, -1 ≤ x.box ∧ x.box < st.boxes.length
  k3 : ∀ x ∈ st.nums, x.kind = 3 → 0 ≤ x.box
  par : ∀ b ∈ st.boxes, -1 ≤ b.parent ∧ b.parent < st.boxes.length
  last : ∀ b ∈ st.boxes, 1 ≤ b.last ∧ b.last ≤ st.nums.length
  stk : ∀ s ∈ st.stack, s < st.boxes.length
  nb : st.boxes.length ≤ st.nums.length
theorem JOk.boxI {st : JS} (h : JOk st) (i : Nat) (hi : i < st.nums.length) : -1 ≤ (st.nums.getD i num0).box ∧ (st.nums.getD i num0).box < st.boxes.length ∧ ((st.nums.getD i num0).kind = 3 → 0 ≤ (st.nums.getD i num0).box) := by
  have hm : st.nums.getD i num0 ∈ st.nums := by rw [show st.nums.getD i num0 = st.nums[i] by simp [hi]]; exact List.getElem_mem _
  exact ⟨(h.box _ hm).1, (h.box _ hm).2, h.k3 _ hm⟩
theorem JOk.bxI {st : JS} (h : JOk st) (i : Nat) (hi : i < st.boxes.length) : -1 ≤ (st.boxes.getD i bx0).parent ∧ (st.boxes.getD i bx0).parent < st.boxes.length ∧ 1 ≤ (st.boxes.getD i bx0).last ∧ (st.boxes.getD i bx0).last ≤ st.nums.length := by
  have hm : st.boxes.getD i bx0 ∈ st.boxes := by rw [show st.boxes.getD i bx0 = st.boxes[i] by simp [hi]]; exact List.getElem_mem _
  exact ⟨(h.par _ hm).1, (h.par _ hm).2, (h.last _ hm).1, (h.last _ hm).2⟩
theorem fits_17 {n : Int} (h : fitsF 17 n = true) : 1 ≤ n := by simpa [fitsF] using h
theorem fits_7 {n : Int} (h : fitsF 7 n = true) : n = 3 := by simpa [fitsF] using h
theorem fits_2 {c n : Int} (hc : c = 2 ∨ c = 9 ∨ c = 11 ∨ c = 14 ∨ c = 15 ∨ c = 16) (h : fitsF c n = true) : n = 2 := by
  unfold fitsF at h
  rw [if_pos (by omega), if_neg (by omega), if_neg (by omega), if_pos hc] at h
  simpa using h
theorem fits_1 {c n : Int} (h1 : 1 ≤ c) (h2 : c ≤ 16) (hc : ¬ (c = 2 ∨ c = 9 ∨ c = 11 ∨ c = 14 ∨ c = 15 ∨ c = 16)) (h7 : c ≠ 7) (h : fitsF c n = true) : n = 1 := by
  unfold fitsF at h
  rw [if_pos (by omega), if_neg (by omega), if_neg (by omega), if_neg hc] at h
  simpa using h
/-- impl.stepFits: the step is right by its rule. -/
theorem stepFits_ok {H : Heap} {w : World} (hH : HS H w) {fa ra sa aa ca pa ta : Option Addr} {fc rc k sc ac cc pn pc tn tc : Nat} {ln : Ln} {c : FT} {X K : Nat → FT} {prev : List VdA} {pats : List PtA} (tC : FmH H fa ln.f.length c) (tR : InH H ra ln.refs.length ln.refs) (hrl : 1 ≤ ln.rule) (hru : ln.rule ≤ 17) (hft : fitsF ln.rule ln.refs.length = true) (hk : k + startR ln = ln.refs.length)
    (hsA : IsA sa k) (haA : IsA aa k) (hcA : IsA ca k) (hks : k ≤ 1048576)
    (hfs : ∀ i, i < k → boxPos ln.rule ((i + startR ln : Nat) : Int) = false → FsAt H sa i (X (i + startR ln)))
    (has : ∀ i, i < k → boxPos ln.rule ((i + startR ln : Nat) : Int) = true → FsAt H aa i (X (i + startR ln)))
    (hcs : ∀ i, i < k → boxPos ln.rule ((i + startR ln : Nat) : Int) = true → FsAt H ca i (K (i + startR ln)))
    (tV : VsH H pa pn prev) (tP : PsH H ta tn prev pats) (htn : tn = pn) (hpn : pn ≤ 1048576) (h17 : ln.rule = 17 → 1 ≤ ln.refs.getD 0 0 ∧ ln.refs.getD 0 0 ≤ pn ∧ (prev.getD ((ln.refs.getD 0 0).toNat - 1) va0).ok = true) (R : Value → World → Prop)
    (h : ∀ (r : Bool) w', (r = true ↔ stepP ln.rule c X K (useP (prev.getD ((ln.refs.getD 0 0).toNat - 1) va0).v c ((List.range (ln.refs.length - 1)).map fun q => X (q + 1)))) → Fr noB w w' → R (.bool r) w') :
    CallsV Yaao.prog 88 #[.agg (lnC fa fc ra rc ln).toArray, .slice sa k sc, .slice aa k ac, .slice ca k cc, .slice pa pn pc, .slice ta tn tc] w R := by
  by_cases e17 : ln.rule = 17
  · obtain ⟨h1, h2, h3⟩ := h17 e17
    have hs : startR ln = 1 := by unfold startR; rw [if_pos e17]
    rw [hs] at hk hfs
    have hb : ∀ i : Int, boxPos 17 i = false := fun i => by simp [boxPos]
    rw [e17] at hft h
    have := fits_17 hft
    refine stepFits17_ok (ts := (List.range (ln.refs.length - 1)).map fun q => X (q + 1)) hH tC e17 tR (by omega) (by simp; omega) hsA (fun q hq => ?_) hks tV tP htn h1 h2 hpn h3 R (fun r w' hr hf => h r w' (by rw [hr, st17]) hf)
    have := hfs q hq (by rw [e17]; exact hb _)
    have e : ((List.range (ln.refs.length - 1)).map fun q => X (q + 1)).getD q .nil = X (q + 1) := by
      have : q < ln.refs.length - 1 := by omega
      simp [List.getD, this]
    rw [e]; exact this
  · have hs : startR ln = 0 := by unfold startR; rw [if_neg e17]
    rw [hs] at hk hfs has hcs
    simp only [Nat.add_zero] at hk hfs has hcs
    have hc : ln.rule = 1 ∨ ln.rule = 2 ∨ ln.rule = 3 ∨ ln.rule = 4 ∨ ln.rule = 5 ∨ ln.rule = 6 ∨ ln.rule = 7 ∨ ln.rule = 8 ∨ ln.rule = 9 ∨ ln.rule = 10 ∨ ln.rule = 11 ∨ ln.rule = 12 ∨ ln.rule = 13 ∨ ln.rule = 14 ∨ ln.rule = 15 ∨ ln.rule = 16 := by omega
    have hf1 := fun h3 h4 => fits_1 hrl (by omega) h3 h4 hft
    have hf2 := fun h3 => fits_2 h3 hft
    rcases hc with e | e | e | e | e | e | e | e | e | e | e | e | e | e | e | e
    · have := hf1 (by omega) (by omega)
      rw [e] at h hfs; exact stepFits1_ok hH tC e (by omega) hsA haA hcA (hfs 0 (by omega) (by decide)) R h
    · have := hf2 (by omega)
      rw [e] at h hfs; exact stepFits2_ok hH tC e (by omega) hsA haA hcA (hfs 0 (by omega) (by decide)) (hfs 1 (by omega) (by decide)) R h
    · have := hf1 (by omega) (by omega)
      rw [e] at h hfs; exact stepFits3_ok hH tC e (by omega) hsA haA hcA (hfs 0 (by omega) (by decide)) R h
    · have := hf1 (by omega) (by omega)
      rw [e] at h hfs; exact stepFits4_ok hH tC e (by omega) hsA haA hcA (hfs 0 (by omega) (by decide)) R h
    · have := hf1 (by omega) (by omega)
      rw [e] at h hfs; exact stepFits5_ok hH tC e (by omega) hsA haA hcA (hfs 0 (by omega) (by decide)) R h
    · have := hf1 (by omega) (by omega)
      rw [e] at h hfs; exact stepFits6_ok hH tC e (by omega) hsA haA hcA (hfs 0 (by omega) (by decide)) R h
    · rw [e] at h hfs has hcs hft
      have := fits_7 hft
      exact stepFits7_ok hH tC e (by omega) hsA haA hcA (hfs 0 (by omega) (by decide)) (has 1 (by omega) (by decide)) (has 2 (by omega) (by decide)) (hcs 1 (by omega) (by decide)) (hcs 2 (by omega) (by decide)) R h
    · have := hf1 (by omega) (by omega)
      rw [e] at h has hcs; exact stepFits8_ok hH tC e (by omega) hsA haA hcA (has 0 (by omega) (by decide)) (hcs 0 (by omega) (by decide)) R h
    · have := hf2 (by omega)
      rw [e] at h hfs; exact stepFits9_ok hH tC e (by omega) hsA haA hcA (hfs 0 (by omega) (by decide)) (hfs 1 (by omega) (by decide)) R h
    · have := hf1 (by omega) (by omega)
      rw [e] at h has hcs; exact stepFits10_ok hH tC e (by omega) hsA haA hcA (has 0 (by omega) (by decide)) (hcs 0 (by omega) (by decide)) R h
    · have := hf2 (by omega)
      rw [e] at h hfs; exact stepFits11_ok hH tC e (by omega) hsA haA hcA (hfs 0 (by omega) (by decide)) (hfs 1 (by omega) (by decide)) R h
    · have := hf1 (by omega) (by omega)
      rw [e] at h hfs; exact stepFits12_ok hH tC e (by omega) hsA haA hcA (hfs 0 (by omega) (by decide)) R h
    · have := hf1 (by omega) (by omega)
      rw [e] at h has hcs; exact stepFits13_ok hH tC e (by omega) hsA haA hcA (has 0 (by omega) (by decide)) (hcs 0 (by omega) (by decide)) R h
    · have := hf2 (by omega)
      rw [e] at h hfs; exact stepFits14_ok hH tC e (by omega) hsA haA hcA (hfs 0 (by omega) (by decide)) (hfs 1 (by omega) (by decide)) R h
    · have := hf2 (by omega)
      rw [e] at h hfs; exact stepFits15_ok hH tC e (by omega) hsA haA hcA (hfs 0 (by omega) (by decide)) (hfs 1 (by omega) (by decide)) R h
    · have := hf2 (by omega)
      rw [e] at h hfs; exact stepFits16_ok hH tC e (by omega) hsA haA hcA (hfs 0 (by omega) (by decide)) (hfs 1 (by omega) (by decide)) R h
/-- Three lists of one type, each a block of its own. -/
structure Tri (H : Heap) (w : World) (E lo : Nat) (a1 a2 a3 : Option Addr) (n1 c1 n2 c2 n3 c3 : Nat) (L1 L2 L3 : List Value) : Prop where
  o1 : Own w E 1 a1 n1 c1 L1
  o2 : Own w E 1 a2 n2 c2 L2
  o3 : Own w E 1 a3 n3 c3 L3
  d12 : ∀ k, blkO a1 k → ¬ blkO a2 k
  d13 : ∀ k, blkO a1 k → ¬ blkO a3 k
  d23 : ∀ k, blkO a2 k → ¬ blkO a3 k
  w1 : ∀ k, blkO a1 k → lo ≤ k ∧ ∀ o, H k o = none
  w2 : ∀ k, blkO a2 k → lo ≤ k ∧ ∀ o, H k o = none
  w3 : ∀ k, blkO a3 k → lo ≤ k ∧ ∀ o, H k o = none
section
variable {H H' : Heap} {w w' : World} {E lo : Nat} {a1 a2 a3 : Option Addr} {n1 c1 n2 c2 n3 c3 : Nat} {L1 L2 L3 : List Value}
theorem Tri.rot (h : Tri H w E lo a1 a2 a3 n1 c1 n2 c2 n3 c3 L1 L2 L3) : Tri H w E lo a2 a3 a1 n2 c2 n3 c3 n1 c1 L2 L3 L1 :=
  ⟨h.o2, h.o3, h.o1, h.d23, fun k e1 e2 => h.d12 k e2 e1, fun k e1 e2 => h.d13 k e2 e1, h.w2, h.w3, h.w1⟩
theorem Tri.frN (h : Tri H w E lo a1 a2 a3 n1 c1 n2 c2 n3 c3 L1 L2 L3) (hf : Fr noB w w') : Tri H w' E lo a1 a2 a3 n1 c1 n2 c2 n3 c3 L1 L2 L3 :=
  ⟨h.o1.frN hf, h.o2.frN hf, h.o3.frN hf, h.d12, h.d13, h.d23, h.w1, h.w2, h.w3⟩
theorem Tri.up (h : Tri H w E lo a1 a2 a3 n1 c1 n2 c2 n3 c3 L1 L2 L3) (he : ∀ k, k < w.heap.size → ∀ o, H' k o = H k o) : Tri H' w E lo a1 a2 a3 n1 c1 n2 c2 n3 c3 L1 L2 L3 :=
  ⟨h.o1, h.o2, h.o3, h.d12, h.d13, h.d23, fun k e => ⟨(h.w1 k e).1, fun o => (he k (h.o1.lt e) o).trans ((h.w1 k e).2 o)⟩, fun k e => ⟨(h.w2 k e).1, fun o => (he k (h.o2.lt e) o).trans ((h.w2 k e).2 o)⟩, fun k e => ⟨(h.w3 k e).1, fun o => (he k (h.o3.lt e) o).trans ((h.w3 k e).2 o)⟩⟩
theorem Tri.down (h : Tri H' w E lo a1 a2 a3 n1 c1 n2 c2 n3 c3 L1 L2 L3) (hl : HLe H H') : Tri H w E lo a1 a2 a3 n1 c1 n2 c2 n3 c3 L1 L2 L3 := by
  have key : ∀ k, (∀ o, H' k o = none) → ∀ o, H k o = none := fun k hk o => by
    cases e : H k o with
    | none => rfl
    | some v => have := hl _ _ _ e; rw [hk o] at this; cases this
  exact ⟨h.o1, h.o2, h.o3, h.d12, h.d13, h.d23, fun k e => ⟨(h.w1 k e).1, key k (h.w1 k e).2⟩, fun k e => ⟨(h.w2 k e).1, key k (h.w2 k e).2⟩, fun k e => ⟨(h.w3 k e).1, key k (h.w3 k e).2⟩⟩
theorem Tri.app (h : Tri H w E lo a1 a2 a3 n1 c1 n2 c2 n3 c3 L1 L2 L3) (hH : HS H w) (hlo : lo ≤ w.heap.size) {b : Option Addr} {m d : Nat} {M : List Value} (ho : Own w' E 1 b m d M) (hf : Fr (blkO a1) w w') (hn : ∀ k, blkO b k → blkO a1 k ∨ w.heap.size ≤ k) : Tri H w' E lo b a2 a3 m d n2 c2 n3 c3 M L2 L3 :=
  ⟨ho, h.o2.fr hf (fun k e1 e2 => h.d12 k e2 e1), h.o3.fr hf (fun k e1 e2 => h.d13 k e2 e1), fun k e1 e2 => (hn k e1).elim (fun e => h.d12 k e e2) (fun e => by have := h.o2.lt e2; omega), fun k e1 e2 => (hn k e1).elim (fun e => h.d13 k e e2) (fun e => by have := h.o3.lt e2; omega), h.d23,
   fun k e => (hn k e).elim (fun e => h.w1 k e) (fun e => ⟨by omega, fun o => hH.off e o⟩), h.w2, h.w3⟩
theorem Tri.hs (h : Tri H w E lo a1 a2 a3 n1 c1 n2 c2 n3 c3 L1 L2 L3) (hH : HS H w) (hf : Fr (blkO a1) w w') : HS H w' := hH.fr hf (fun k e o => (h.w1 k e).2 o)
theorem Tri.keep (h : Tri H w E lo a1 a2 a3 n1 c1 n2 c2 n3 c3 L1 L2 L3) (hH : HS H w) : ∃ H', HLe H H' ∧ HS H' w ∧ SlH H' 1 a1 n1 L1 ∧ SlH H' 1 a2 n2 L2 ∧ SlH H' 1 a3 n3 L3 := by
  obtain ⟨H1, l1, hH1, t1, x1⟩ := h.o1.keep hH (fun k e => (h.w1 k e).2)
  obtain ⟨H2, l2, hH2, t2, x2⟩ := h.o2.keep hH1 (fun k e o => (x1 k (fun e2 => h.d12 k e2 e) o).trans ((h.w2 k e).2 o))
  obtain ⟨H3, l3, hH3, t3, x3⟩ := h.o3.keep hH2 (fun k e o => ((x2 k (fun e2 => h.d23 k e2 e) o).trans (x1 k (fun e2 => h.d13 k e2 e) o)).trans ((h.w3 k e).2 o))
  exact ⟨H3, (l1.trans l2).trans l3, hH3, (t1.mono l2).mono l3, t2.mono l3, t3⟩
end
end Go.Proofs.YbzaawGreat
