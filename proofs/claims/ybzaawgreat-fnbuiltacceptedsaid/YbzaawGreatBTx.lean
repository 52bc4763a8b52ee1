/-  The builder's lines and how the plain parser reads them.  -/
import Derived.Test.YbzaawGreatBLex
import Derived.Test.YbzaawGreatBJ
import Derived.Test.YbzaawGreatGenZ
namespace Go.Proofs.YbzaawGreat
open Go.Wf Go.Deep
set_option linter.unusedSimpArgs false
set_option linter.unusedVariables false

/-- A formula of the builder. -/
def BF (t : FT) : Prop := Shape bName t ∧ tsize t ≤ 300
theorem BF.sh {t : FT} (h : BF t) : Shape okName t := h.1.mono (fun _ e => e.1)
theorem BF.hgt {t : FT} (h : BF t) : thgt t ≤ 500 := by have := hgt_size t; have := h.2; omega
theorem BF.tg {t : FT} (h : BF t) : TG t := ⟨h.sh, h.hgt⟩
/-- The digits of u, the last one first. -/
def revD : Nat → Nat → List UInt8
  | 0, _ => []
  | n + 1, u => if u = 0 then [] else UInt8.ofNat (48 + u % 10) :: revD n (u / 10)
def decB (u : Nat) : List UInt8 := if u = 0 then [48] else (revD u u).reverse
theorem revD_zero : ∀ n, revD n 0 = []
  | 0 => rfl
  | n + 1 => by simp [revD]
theorem revD_go {n u : Nat} (hu : u ≠ 0) (hn : u ≤ n) : revD n u = UInt8.ofNat (48 + u % 10) :: revD (n - 1) (u / 10) := by
  obtain ⟨m, rfl⟩ : ∃ m, n = m + 1 := ⟨n - 1, by omega⟩
  simp [revD, hu]
theorem revD_fuel : ∀ n m u, u ≤ n → u ≤ m → revD n u = revD m u := by
  intro n
  induction n with
  | zero => intro m u h1 h2; obtain rfl : u = 0 := by omega
            rw [revD_zero, revD_zero]
  | succ n ih =>
    intro m u h1 h2
    by_cases hu : u = 0
    · subst hu; rw [revD_zero, revD_zero]
    · rw [revD_go hu h1, revD_go hu h2]
      congr 1
      exact ih _ _ (by omega) (by omega)
theorem dig_nat (d : Nat) (h : d < 10) : (UInt8.ofNat (48 + d)).toNat = 48 + d := by
  simp only [UInt8.toNat_ofNat']; omega
theorem revD_dig : ∀ n u, ∀ d ∈ revD n u, digB d.toNat = true
  | 0, _, d, h => by cases h
  | n + 1, u, d, h => by
    unfold revD at h
    split at h
    · cases h
    · rcases List.mem_cons.1 h with rfl | h
      · rw [dig_nat _ (Nat.mod_lt _ (by omega))]
        have := Nat.mod_lt u (show 10 > 0 by omega)
        simp [digB]; omega
      · exact revD_dig n _ d h
theorem revD_val : ∀ n u, u ≤ n → u ≤ cap → ((revD n u).map UInt8.toNat).foldr (fun c v => nv v c) 0 = u
  | 0, u, h, _ => by obtain rfl : u = 0 := by omega
                     rfl
  | n + 1, u, h, hc => by
    by_cases hu : u = 0
    · subst hu; rw [revD_zero]; rfl
    · rw [revD_go hu h, List.map_cons, List.foldr_cons, show n + 1 - 1 = n by omega, revD_val n (u / 10) (by omega) (by unfold cap at *; omega), dig_nat _ (Nat.mod_lt _ (by omega))]
      unfold nv cap at *
      omega
theorem decB_digs (u : Nat) (hc : u ≤ cap) : digs (decB u) u := by
  unfold decB
  split
  · rename_i h; subst h; refine ⟨by simp, fun d hd => ?_, by decide⟩
    simp at hd; subst hd; decide
  · rename_i h
    refine ⟨?_, fun d hd => revD_dig _ _ d (by simpa using hd), ?_⟩
    · rw [List.length_reverse, revD_go h (Nat.le_refl _)]; simp
    · rw [List.map_reverse, List.foldl_reverse]; exact revD_val u u (Nat.le_refl _) hc
def refsB (refs : List Nat) : List UInt8 := refs.flatMap fun r => 32 :: decB r
theorem refsB_cons (r : Nat) (l : List Nat) : refsB (r :: l) = 32 :: (decB r ++ refsB l) := by simp [refsB]
/-- A line of the builder. -/
inductive LT where
  | thm
  | bl1
  | bl2
  | en
  | bad
  | pr (t : FT)
  | as_ (t : FT)
  | st (c : FT) (rule : Int) (refs : List Nat)
def LT.tx : LT → List UInt8
  | .thm => sThm.data.toList
  | .bl1 => []
  | .bl2 => [32, 32, 9, 32]
  | .en => sEnd.data.toList
  | .bad => [112, 32, 98, 121, 32, 110, 111, 112, 101, 32, 49]
  | .pr t => sPrem.data.toList ++ 32 :: showB t
  | .as_ t => sAss.data.toList ++ 32 :: showB t
  | .st c r refs => showB c ++ 32 :: (sBy.data.toList ++ 32 :: ((ruleNm r).data.toList ++ refsB refs))
def LT.good : LT → Prop
  | .pr t => BF t
  | .as_ t => BF t
  | .st c r refs => BF c ∧ 1 ≤ r ∧ r ≤ 17 ∧ fitsF r refs.length = true ∧ (∀ x ∈ refs, x ≤ cap) ∧ refs.length ≤ 4
  | _ => True
/-- The line as the judge sees it. -/
def LT.ln (k : Int) : LT → Option Ln
  | .thm => some ⟨1, [], 0, [], k⟩
  | .bl1 => none
  | .bl2 => none
  | .en => some (lnE k)
  | .bad => some (badL.at_ k)
  | .pr t => some (lnP t k)
  | .as_ t => some (lnA t k)
  | .st c r refs => some (lnS c r (refs.map fun x : Nat => (x : Int)) k)
theorem lex_refs {s : ByteArray} : ∀ (refs : List Nat) (i : Nat), (∀ x ∈ refs, x ≤ cap) → TxAt s i (refsB refs) → i + (refsB refs).length = s.size → LexTo s i (refs.map fun r : Nat => ((2, emp, (r : Int)) : TK)) s.size
  | [], i, _, h, he => by
    simp [refsB] at he; subst he; exact LexTo.refl _ _
  | r :: l, i, hb, h, he => by
    rw [refsB_cons] at h he
    obtain ⟨g1, e1, h⟩ := h.cons
    obtain ⟨h1, h2⟩ := h.app
    simp only [List.length_cons, List.length_append] at he
    have hd := decB_digs r (hb r (by simp))
    have hnx : i + 1 + (decB r).length = s.size ∨ digB (byteAt s (i + 1 + (decB r).length)) = false := by
      cases l with
      | nil => left; simp [refsB] at he; omega
      | cons y m =>
        right
        rw [refsB_cons] at h2
        exact digNo (.inl h2.cons.2.1)
    have a1 := LexTo.blank g1 e1
    have a2 := LexTo.num hd h1 hnx
    have a3 := lex_refs l _ (fun x hx => hb x (by simp [hx])) h2 (by omega)
    exact a1.trans (a2.trans a3)
theorem ruleNm_name (r : Int) (h1 : 1 ≤ r) (h17 : r ≤ 17) : nameB (ruleNm r) = true ∧ ruleNm r ≠ sBy ∧ ruleF (ruleNm r) = r := by
  have : r = 1 ∨ r = 2 ∨ r = 3 ∨ r = 4 ∨ r = 5 ∨ r = 6 ∨ r = 7 ∨ r = 8 ∨ r = 9 ∨ r = 10 ∨ r = 11 ∨ r = 12 ∨ r = 13 ∨ r = 14 ∨ r = 15 ∨ r = 16 ∨ r = 17 := by omega
  rcases this with rfl | rfl | rfl | rfl | rfl | rfl | rfl | rfl | rfl | rfl | rfl | rfl | rfl | rfl | rfl | rfl | rfl <;> decide
/-- The tokens of a step's line. -/
def stKeys (c : FT) (x : ByteArray) (refs : List Nat) : List TK := tks c ++ ((1, sBy, 0) :: (1, x, 0) :: refs.map fun r : Nat => ((2, emp, (r : Int)) : TK))
theorem size_mk (l : List UInt8) : (⟨l.toArray⟩ : ByteArray).size = l.length := by simp [ByteArray.size]
theorem len_data (x : ByteArray) : x.data.toList.length = x.size := by rw [Array.length_toList]; rfl
theorem lex_st {c : FT} {x : ByteArray} {refs : List Nat} (hc : Shape okName c) (hx : nameB x = true) (hr : ∀ y ∈ refs, y ≤ cap) {l : List UInt8} (hl : l = showB c ++ 32 :: (sBy.data.toList ++ 32 :: (x.data.toList ++ refsB refs))) (hs : l.length ≤ 65536) :
    (lexF ⟨l.toArray⟩).map Tok.key = stKeys c x refs := by
  obtain ⟨s, hss⟩ : ∃ s : ByteArray, s = ⟨l.toArray⟩ := ⟨_, rfl⟩
  have hsz : s.size = l.length := by rw [hss]; exact size_mk l
  have h0 : TxAt s 0 l := by rw [hss]; exact TxAt.self l
  rw [← hss]
  rw [hl] at h0
  have hlen := congrArg List.length hl
  simp only [List.length_append, List.length_cons, len_data] at hlen
  have hby : sBy.size = 2 := by decide
  obtain ⟨k1, h⟩ := h0.app
  obtain ⟨g1, e1, h⟩ := h.cons
  have a1 := lex_show c hc 0 k1 (.inr (by rw [e1]; rfl))
  have a2 := LexTo.blank g1 e1
  obtain ⟨a3, h⟩ := LexTo.wordSp (x := sBy) (by decide) h
  obtain ⟨k4, h⟩ := h.app
  have hxl := len_data x
  have a4 := LexTo.word hx k4 (by
    cases refs with
    | nil => left; simp [refsB] at hlen; omega
    | cons y m => right; rw [refsB_cons, hxl] at h; exact wordNo (.inl h.cons.2.1))
  rw [hxl] at h
  have a5 := lex_refs refs _ hr h (by omega)
  exact lexF_keys (by omega) (a1.trans (a2.trans (a3.trans (a4.trans a5)))) (Nat.le_refl _)
theorem ans_reads {P : PP} (hP : ∀ ts, Ans ts (P ts).1 (P ts).2) {ts : List Nd} {t : FT} (h : Reads ts t) : (P ts).2 = true ∧ (P ts).1 = lay 0 t := by
  rcases hP ts with ⟨h1, u, hu, h2⟩ | ⟨_, h2, _⟩
  · have := h.parse; rw [hu.parse] at this; simp at this; subst this; exact ⟨h1, h2⟩
  · exact absurd h (h2 t)
theorem key_nd (ts : List Tok) (i : Nat) : ((ts.map Tok.nd).getD i nd0).op = ((ts.map Tok.key).getD i (0, emp, 0)).1 ∧ (((ts.map Tok.key).getD i (0, emp, 0)).1 = 1 → ((ts.map Tok.nd).getD i nd0).name = ((ts.map Tok.key).getD i (0, emp, 0)).2.1) := by
  by_cases h : i < ts.length
  · have e1 : (ts.map Tok.nd).getD i nd0 = ts[i].nd := by simp [List.getD, h]
    have e2 : (ts.map Tok.key).getD i (0, emp, 0) = ts[i].key := by simp [List.getD, h]
    rw [e1, e2]
    refine ⟨rfl, fun e => ?_⟩
    simp only [Tok.key] at e ⊢
    rw [if_pos (by omega)]; rfl
  · have e1 : (ts.map Tok.nd).getD i nd0 = nd0 := by simp [List.getD, h]
    have e2 : (ts.map Tok.key).getD i (0, emp, 0) = (0, emp, 0) := by simp [List.getD, h]
    rw [e1, e2]
    exact ⟨rfl, fun e => by simp at e⟩
theorem lastBy_at {ts : List Nd} {j : Nat} (hj : (ts.getD j nd0).op = 1 ∧ (ts.getD j nd0).name = sBy) : ∀ n, j < n → (∀ i, j < i → i < n → ¬ ((ts.getD i nd0).op = 1 ∧ (ts.getD i nd0).name = sBy)) → lastBy ts n = (j : Int)
  | 0, h, _ => by omega
  | n + 1, h, hno => by
    unfold lastBy
    by_cases e : j = n
    · subst e; rw [if_pos hj]
    · rw [if_neg (hno n (by omega) (by omega))]
      exact lastBy_at hj n (by omega) (fun i h1 h2 => hno i h1 (by omega))
theorem refsL_keys : ∀ (ts : List Tok) (refs : List Nat), ts.map Tok.key = refs.map (fun r : Nat => ((2, emp, (r : Int)) : TK)) → refsL (ts.map Tok.nd) = some (refs.map fun r : Nat => (r : Int))
  | [], [], _ => rfl
  | [], _ :: _, h => by simp at h
  | _ :: _, [], h => by simp at h
  | t :: ts, r :: refs, h => by
    rw [List.map_cons, List.map_cons] at h
    obtain ⟨h1, h2⟩ := List.cons.inj h
    have hk : (t.kind : Int) = 2 := congrArg Prod.fst h1
    have hv : (t.val : Int) = r := congrArg (fun q : TK => q.2.2) h1
    have ih := refsL_keys ts refs h2
    simp only [List.map_cons, refsL]
    rw [if_pos (show t.nd.op = 2 from hk), ih]
    show some ((t.val : Int) :: _) = _
    rw [hv]
theorem tks_head {V : ByteArray → Prop} {t : FT} (h : Shape V t) : ∃ k x v m, tks t = (k, x, v) :: m ∧ (k = 1 → V x) := by
  refine Shape.ind (P := fun t => ∃ k x v m, tks t = (k, x, v) :: m ∧ (k = 1 → V x)) ?_ ?_ ?_ ?_ t h
  · intro s hs; exact ⟨_, _, _, _, rfl, fun _ => hs⟩
  · exact ⟨_, _, _, _, rfl, fun e => by simp at e⟩
  · intro t _ _; exact ⟨_, _, _, _, tks_N t, fun e => by simp at e⟩
  · intro op l r h4 _ _ _ _ _; exact ⟨_, _, _, _, tks_B h4 l r, fun e => by simp at e⟩
section
variable {P : PP} (hP : ∀ ts, Ans ts (P ts).1 (P ts).2)
include hP
/-- How a step's tokens are read, up to the rule's name. -/
theorem st_read {c : FT} {x : ByteArray} {refs : List Nat} {ts : List Tok} (hc : Shape bName c) (h5 : thgt c ≤ 500) (hx : x ≠ sBy) (hk : ts.map Tok.key = stKeys c x refs) : lineF P (ts.map Tok.nd) = stepJ P (ts.map Tok.nd) (tks c).length ∧ (P ((ts.map Tok.nd).take (tks c).length)).2 = true ∧ (P ((ts.map Tok.nd).take (tks c).length)).1 = lay 0 c ∧
    ((ts.map Tok.nd).getD ((tks c).length + 1) nd0).op = 1 ∧ ((ts.map Tok.nd).getD ((tks c).length + 1) nd0).name = x ∧ refsL ((ts.map Tok.nd).drop ((tks c).length + 2)) = some (refs.map fun r : Nat => (r : Int)) ∧ (ts.map Tok.nd).length = (tks c).length + 2 + refs.length := by
  obtain ⟨k0, x0, v0, m0, hh, hh1⟩ := tks_head hc
  have hlen : (ts.map Tok.nd).length = (tks c).length + 2 + refs.length := by
    have := congrArg List.length hk
    simp [stKeys] at this; simp; omega
  have hpos : 1 ≤ (tks c).length := by rw [hh]; simp
  have K := key_nd ts
  rw [hk] at K
  have K1 := K (tks c).length
  have K2 := K ((tks c).length + 1)
  rw [show (stKeys c x refs).getD (tks c).length (0, emp, 0) = (1, sBy, 0) by simp [stKeys, List.getD]] at K1
  rw [show (stKeys c x refs).getD ((tks c).length + 1) (0, emp, 0) = (1, x, 0) by simp [stKeys, List.getD, List.getElem?_append_right]] at K2
  have K3 : ∀ i, (tks c).length + 1 < i → ((ts.map Tok.nd).getD i nd0).op ≠ 1 := fun i hi => by
    rw [(K i).1]
    by_cases hb : i < (tks c).length + 2 + refs.length
    · rw [show (stKeys c x refs).getD i (0, emp, 0) = (2, emp, ((refs[i - ((tks c).length + 2)]'(by omega) : Nat) : Int)) by
        obtain ⟨d, rfl⟩ : ∃ d, i = (tks c).length + (d + 2) := ⟨i - (tks c).length - 2, by omega⟩
        simp [stKeys, List.getD, List.getElem?_append_right, show d < refs.length by omega, show (tks c).length + (d + 2) - ((tks c).length + 2) = d by omega]]
      simp
    · rw [show (stKeys c x refs).getD i (0, emp, 0) = (0, emp, 0) by
        have : (stKeys c x refs).length ≤ i := by simp [stKeys]; omega
        simp [List.getD, this]]
      simp
  have hlast : lastBy (ts.map Tok.nd) (ts.map Tok.nd).length = ((tks c).length : Int) := by
    refine lastBy_at ⟨K1.1, K1.2 rfl⟩ _ (by omega) (fun i h1 h2 => ?_)
    rintro ⟨q1, q2⟩
    by_cases e : i = (tks c).length + 1
    · subst e
      rw [K2.2 rfl] at q2
      exact hx q2
    · exact K3 i (by omega) q1
  have h0 : ((ts.map Tok.nd).getD 0 nd0).op ≠ 1 ∨ (¬ ((ts.map Tok.nd).getD 0 nd0).name = sThm ∧ ¬ ((ts.map Tok.nd).getD 0 nd0).name = sEnd ∧ ¬ ((ts.map Tok.nd).getD 0 nd0).name = sPrem ∧ ¬ ((ts.map Tok.nd).getD 0 nd0).name = sAss) := by
    have K0 := K 0
    rw [show (stKeys c x refs).getD 0 (0, emp, 0) = (k0, x0, v0) by simp [stKeys, List.getD, hh]] at K0
    by_cases e : k0 = 1
    · right
      rw [K0.2 e]
      obtain ⟨_, _, n1, n2, n3, n4⟩ := hh1 e
      exact ⟨n1, n2, n3, n4⟩
    · left; rw [K0.1]; exact e
  have htk : (ts.take (tks c).length).map Tok.key = tks c := by
    rw [List.map_take, hk, stKeys, List.take_left]
  have hdr : (ts.drop ((tks c).length + 2)).map Tok.key = refs.map (fun r : Nat => ((2, emp, (r : Int)) : TK)) := by
    rw [List.map_drop, hk, stKeys, ← List.drop_drop, List.drop_left]; rfl
  have hR := keys_read (hc.mono (fun _ e => e.1)) h5 htk
  rw [List.map_take] at hR
  obtain ⟨p1, p2⟩ := ans_reads hP hR
  refine ⟨?_, p1, p2, K2.1, K2.2 rfl, ?_, hlen⟩
  · rw [lineF_step (by omega) h0, stepF_J hlast hpos]
  · rw [← List.map_drop]; exact refsL_keys _ _ hdr
/-- A line of the builder reads as it should. -/
theorem lt_read {l : LT} (hg : l.good) (hs : l.tx.length ≤ 65536) (k : Int) : match l.ln k with | none => (lexF ⟨l.tx.toArray⟩).length = 0 | some ln => (lexF ⟨l.tx.toArray⟩).length ≠ 0 ∧ (lineF P (toksOf ⟨l.tx.toArray⟩)).at_ k = ln := by
  have word1 : ∀ x : ByteArray, nameB x = true → x.size ≤ 100 → (lexF ⟨x.data.toList.toArray⟩).map Tok.key = [(1, x, 0)] := fun x hx hsz => by
    have hlen := len_data x
    have := LexTo.word (s := ⟨x.data.toList.toArray⟩) (i := 0) hx (TxAt.self _) (.inl (by rw [size_mk x.data.toList]; omega))
    exact lexF_keys (by rw [size_mk x.data.toList]; omega) this (by rw [size_mk x.data.toList]; omega)
  have pa : ∀ (x : ByteArray) (t : FT), nameB x = true → BF t → (x.data.toList ++ 32 :: showB t).length ≤ 65536 → (lexF ⟨(x.data.toList ++ 32 :: showB t).toArray⟩).map Tok.key = (1, x, 0) :: tks t := fun x t hx ht hsz => by
    obtain ⟨a1, h1⟩ := LexTo.wordSp hx (TxAt.self (x.data.toList ++ 32 :: showB t))
    have hlen := len_data x
    have hl2 : (x.data.toList ++ 32 :: showB t).length = x.size + (showB t).length + 1 := by simp [hlen]; omega
    have a2 := lex_show t ht.sh _ h1 (.inl (by rw [size_mk (x.data.toList ++ 32 :: showB t), hl2]; omega))
    exact lexF_keys (by rw [size_mk (x.data.toList ++ 32 :: showB t)]; omega) (a1.trans a2) (by rw [size_mk (x.data.toList ++ 32 :: showB t), hl2]; omega)
  have pr2 : ∀ (ts : List Tok) (x : ByteArray) (t : FT), BF t → ts.map Tok.key = (1, x, 0) :: tks t → (ts.map Tok.nd).length ≠ 0 ∧ ((ts.map Tok.nd).getD 0 nd0).op = 1 ∧ ((ts.map Tok.nd).getD 0 nd0).name = x ∧ (P ((ts.map Tok.nd).drop 1)).2 = true ∧ (P ((ts.map Tok.nd).drop 1)).1 = lay 0 t := fun ts x t ht hk => by
    have K := key_nd ts 0
    rw [hk] at K
    have hl : (ts.map Tok.nd).length ≠ 0 := by
      have := congrArg List.length hk
      simp at this; simp; intro e; simp [e] at this
    have hd : (ts.drop 1).map Tok.key = tks t := by rw [List.map_drop, hk]; rfl
    have hR := keys_read ht.sh ht.hgt hd
    rw [List.map_drop] at hR
    obtain ⟨p1, p2⟩ := ans_reads hP hR
    exact ⟨hl, K.1, K.2 rfl, p1, p2⟩
  have one : ∀ (ts : List Tok) (x : ByteArray), ts.map Tok.key = [(1, x, 0)] → ts.length = 1 ∧ ((ts.map Tok.nd).getD 0 nd0).op = 1 ∧ ((ts.map Tok.nd).getD 0 nd0).name = x := fun ts x hk => by
    have K := key_nd ts 0
    rw [hk] at K
    have := congrArg List.length hk
    simp at this
    exact ⟨this, K.1, K.2 rfl⟩
  cases l with
  | thm =>
    obtain ⟨h1, h2, h3⟩ := one _ _ (word1 sThm (by decide) (by decide))
    refine ⟨by show (lexF ⟨sThm.data.toList.toArray⟩).length ≠ 0; omega, ?_⟩
    show (lineF P ((lexF ⟨sThm.data.toList.toArray⟩).map Tok.nd)).at_ k = _
    rw [lineF_thm h2 h3 (by rw [h3]; decide) (by rw [List.length_map]; exact h1)]; rfl
  | en =>
    obtain ⟨h1, h2, h3⟩ := one _ _ (word1 sEnd (by decide) (by decide))
    refine ⟨by show (lexF ⟨sEnd.data.toList.toArray⟩).length ≠ 0; omega, ?_⟩
    show (lineF P ((lexF ⟨sEnd.data.toList.toArray⟩).map Tok.nd)).at_ k = _
    rw [lineF_end h2 h3 (by rw [List.length_map]; exact h1)]; rfl
  | bl1 =>
    show (lexF ⟨[].toArray⟩).length = 0
    decide
  | bl2 =>
    show (lexF ⟨[32, 32, 9, 32].toArray⟩).length = 0
    decide
  | pr t =>
    have hk := pa sPrem t (by decide) hg hs
    obtain ⟨h1, h2, h3, h4, h5⟩ := pr2 _ _ _ hg hk
    refine ⟨by rw [List.length_map] at h1; exact h1, ?_⟩
    show (lineF P ((lexF ⟨(sPrem.data.toList ++ 32 :: showB t).toArray⟩).map Tok.nd)).at_ k = _
    rw [lineF_prem h1 h2 h3 (by rw [h3]; decide) h4, h5]; rfl
  | as_ t =>
    have hk := pa sAss t (by decide) hg hs
    obtain ⟨h1, h2, h3, h4, h5⟩ := pr2 _ _ _ hg hk
    refine ⟨by rw [List.length_map] at h1; exact h1, ?_⟩
    show (lineF P ((lexF ⟨(sAss.data.toList ++ 32 :: showB t).toArray⟩).map Tok.nd)).at_ k = _
    rw [lineF_ass h1 h2 h3 h4, h5]; rfl
  | st c r refs =>
    obtain ⟨hc, h1, h17, hf, hr, _⟩ := hg
    obtain ⟨n1, n2, n3⟩ := ruleNm_name r h1 h17
    have hk := lex_st hc.sh n1 hr rfl hs
    obtain ⟨e1, e2, e3, e4, e5, e6, e7⟩ := st_read hP hc.1 hc.hgt n2 hk
    refine ⟨fun e0 => by rw [List.length_map] at e7; rw [show (lexF ⟨(showB c ++ 32 :: (sBy.data.toList ++ 32 :: ((ruleNm r).data.toList ++ refsB refs))).toArray⟩).length = 0 from e0] at e7; omega, ?_⟩
    show (lineF P ((lexF ⟨(LT.st c r refs).tx.toArray⟩).map Tok.nd)).at_ k = _
    unfold LT.tx at *
    rw [e1, stepJ_5 e2 (by omega) e4 (by rw [e5, n3]; omega) e6 (by rw [e5, n3]; simpa using hf), e3, e5, n3]; rfl
  | bad =>
    have hpn : bName ⟨#[112]⟩ := by unfold bName; decide
    have hk := lex_st (c := tA ⟨#[112]⟩) (x := ⟨#[110, 111, 112, 101]⟩) (refs := [1]) (shA (by decide)) (by decide) (by decide) (l := LT.tx .bad) (by decide) (by decide)
    obtain ⟨e1, e2, e3, e4, e5, e6, e7⟩ := st_read hP (c := tA ⟨#[112]⟩) (shA hpn) (by rw [hg_A]; omega) (by decide) hk
    refine ⟨by rw [List.length_map] at e7; omega, ?_⟩
    show (lineF P ((lexF ⟨LT.bad.tx.toArray⟩).map Tok.nd)).at_ k = _
    rw [e1, stepJ_2 (by rw [e5]; decide)]
end
end Go.Proofs.YbzaawGreat
