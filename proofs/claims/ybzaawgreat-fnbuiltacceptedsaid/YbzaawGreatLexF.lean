/-  The lexer as a plain function.  -/
import Derived.Test.YbzaawGreatChars
namespace Go.Proofs.YbzaawGreat
open Go.Wf
set_option linter.unusedVariables false

structure Tok where
  kind : Nat
  text : ByteArray
  pos : Nat
  val : Nat

def Tok.enc (t : Tok) : List Value := [.int .i64 t.kind, .string t.text, .int .i64 t.pos, .int .i64 t.val]
def encToks (l : List Tok) : List Value := l.flatMap Tok.enc
theorem encToks_length (l : List Tok) : (encToks l).length = l.length * 4 := by
  unfold encToks
  induction l with
  | nil => rfl
  | cons t r ih => simp only [List.flatMap_cons, List.length_append, ih, List.length_cons]; simp [Tok.enc]; omega
theorem encToks_snoc (l : List Tok) (t : Tok) : encToks (l ++ [t]) = encToks l ++ [.int .i64 t.kind, .string t.text, .int .i64 t.pos, .int .i64 t.val] := by
  simp [encToks, Tok.enc]

/-- The end of a word that goes on at j. -/
def wEN (s : ByteArray) : Nat → Nat → Nat
  | 0, j => j
  | n + 1, j => if wordB (byteAt s j) = true then wEN s n (j + 1) else j
def wE (s : ByteArray) (j : Nat) : Nat := wEN s (s.size - j) j
theorem wE_go {s : ByteArray} {j : Nat} (h : j < s.size) (hw : wordB (byteAt s j) = true) : wE s j = wE s (j + 1) := by
  unfold wE
  rw [show s.size - j = (s.size - (j + 1)) + 1 by omega, wEN, if_pos hw]
theorem wE_end {s : ByteArray} {j : Nat} (h : ¬ j < s.size ∨ wordB (byteAt s j) = false) : wE s j = j := by
  unfold wE
  by_cases hj : j < s.size
  · have hw := h.resolve_left (fun e => e hj)
    rw [show s.size - j = (s.size - (j + 1)) + 1 by omega, wEN, if_neg (by rw [hw]; simp)]
  · rw [show s.size - j = 0 by omega]; rfl

def cap : Nat := 1000000000
def nv (v c : Nat) : Nat := min (v * 10 + (c - 48)) cap
/-- The end and the value of a number that goes on at j. -/
def dEN (s : ByteArray) : Nat → Nat → Nat → Nat × Nat
  | 0, j, v => (j, v)
  | n + 1, j, v => if digB (byteAt s j) = true then dEN s n (j + 1) (nv v (byteAt s j)) else (j, v)
def dE (s : ByteArray) (j v : Nat) : Nat × Nat := dEN s (s.size - j) j v
theorem dE_go {s : ByteArray} {j v : Nat} (h : j < s.size) (hw : digB (byteAt s j) = true) : dE s j v = dE s (j + 1) (nv v (byteAt s j)) := by
  unfold dE
  rw [show s.size - j = (s.size - (j + 1)) + 1 by omega, dEN, if_pos hw]
theorem dE_end {s : ByteArray} {j v : Nat} (h : ¬ j < s.size ∨ digB (byteAt s j) = false) : dE s j v = (j, v) := by
  unfold dE
  by_cases hj : j < s.size
  · have hw := h.resolve_left (fun e => e hj)
    rw [show s.size - j = (s.size - (j + 1)) + 1 by omega, dEN, if_neg (by rw [hw]; simp)]
  · rw [show s.size - j = 0 by omega]; rfl

def blankB (c : Nat) : Bool := decide (c = 32) || decide (c = 9) || decide (c = 13)
def punct (c : Nat) : Nat := if c = 35 then 3 else if c = 126 then 4 else if c = 38 then 5 else if c = 124 then 6 else if c = 40 then 9 else if c = 41 then 10 else 0

/-- One step at i: the token, if there is one, and where it ends. -/
def lexStep (s : ByteArray) (i : Nat) : List Tok × Nat :=
  if blankB (byteAt s i) = true then ([], i + 1)
  else if lowB (byteAt s i) = true then ([⟨1, s.extract i (wE s (i + 1)), i, 0⟩], wE s (i + 1))
  else if digB (byteAt s i) = true then ([⟨2, s.extract i (dE s i 0).1, i, (dE s i 0).2⟩], (dE s i 0).1)
  else if punct (byteAt s i) ≠ 0 then ([⟨punct (byteAt s i), s.extract i (i + 1), i, 0⟩], i + 1)
  else if byteAt s i = 45 ∧ i + 1 < s.size ∧ byteAt s (i + 1) = 62 then ([⟨7, s.extract i (i + 2), i, 0⟩], i + 2)
  else if byteAt s i = 60 ∧ i + 2 < s.size ∧ byteAt s (i + 1) = 45 ∧ byteAt s (i + 2) = 62 then ([⟨8, s.extract i (i + 3), i, 0⟩], i + 3)
  else ([⟨11, s.extract i (i + 1), i, 0⟩], i + 1)
def lexN (s : ByteArray) : Nat → Nat → List Tok
  | 0, _ => []
  | n + 1, i => if i < s.size then (lexStep s i).1 ++ lexN s n (lexStep s i).2 else []
def lexFrom (s : ByteArray) (i : Nat) : List Tok := lexN s (s.size - i) i
def lexF (s : ByteArray) : List Tok := if s.size > 65536 then [] else lexFrom s 0

theorem wEN_bd (s : ByteArray) : ∀ n j, j ≤ wEN s n j ∧ wEN s n j ≤ j + n
  | 0, j => by simp [wEN]
  | n + 1, j => by
    unfold wEN
    split
    · have := wEN_bd s n (j + 1); omega
    · omega
theorem wE_bd {s : ByteArray} {j : Nat} (h : j ≤ s.size) : j ≤ wE s j ∧ wE s j ≤ s.size := by
  have := wEN_bd s (s.size - j) j; unfold wE; omega
theorem dEN_bd (s : ByteArray) : ∀ n j v, j ≤ (dEN s n j v).1 ∧ (dEN s n j v).1 ≤ j + n
  | 0, j, v => by simp [dEN]
  | n + 1, j, v => by
    unfold dEN
    split
    · have := dEN_bd s n (j + 1) (nv v (byteAt s j)); omega
    · simp
theorem dE_bd {s : ByteArray} {j v : Nat} (h : j ≤ s.size) : j ≤ (dE s j v).1 ∧ (dE s j v).1 ≤ s.size := by
  have := dEN_bd s (s.size - j) j v; unfold dE; omega
theorem dE_pos {s : ByteArray} {j v : Nat} (h : j < s.size) (hd : digB (byteAt s j) = true) : j < (dE s j v).1 := by
  rw [dE_go h hd]; have := (dE_bd (s := s) (j := j + 1) (v := nv v (byteAt s j)) (by omega)).1; omega
theorem lexStep_bd {s : ByteArray} {i : Nat} (h : i < s.size) : i < (lexStep s i).2 ∧ (lexStep s i).2 ≤ s.size := by
  unfold lexStep
  split
  · simp; omega
  · split
    · have := wE_bd (s := s) (j := i + 1) (by omega); simp; omega
    · split
      · rename_i hd
        have := dE_bd (s := s) (j := i) (v := 0) (by omega); have := dE_pos (v := 0) h hd; simp; omega
      · split
        · simp; omega
        · split
          · simp; omega
          · split
            · simp; omega
            · simp; omega
theorem lexN_more (s : ByteArray) : ∀ n m i, s.size - i ≤ n → n ≤ m → lexN s n i = lexN s m i
  | 0, 0, _, _, _ => rfl
  | 0, m + 1, i, h, _ => by simp only [lexN]; rw [if_neg (by omega)]
  | n + 1, 0, i, _, h => by omega
  | n + 1, m + 1, i, h, h' => by
    simp only [lexN]
    by_cases hi : i < s.size
    · rw [if_pos hi, if_pos hi]
      have := lexStep_bd hi
      rw [lexN_more s n m (lexStep s i).2 (by omega) (by omega)]
    · rw [if_neg hi, if_neg hi]
theorem lexFrom_go {s : ByteArray} {i : Nat} (h : i < s.size) : lexFrom s i = (lexStep s i).1 ++ lexFrom s (lexStep s i).2 := by
  have hb := lexStep_bd h
  unfold lexFrom
  rw [show s.size - i = (s.size - (i + 1)) + 1 by omega]
  simp only [lexN]
  rw [if_pos h, ← lexN_more s (s.size - (lexStep s i).2) (s.size - (i + 1)) (lexStep s i).2 (by omega) (by omega)]
theorem lexFrom_end {s : ByteArray} {i : Nat} (h : s.size ≤ i) : lexFrom s i = [] := by
  unfold lexFrom; rw [show s.size - i = 0 by omega]; rfl

section
variable {s : ByteArray} {i : Nat}
theorem st_blank (h : blankB (byteAt s i) = true) : lexStep s i = ([], i + 1) := by simp [lexStep, h]
theorem st_word (hb : blankB (byteAt s i) = false) (h : lowB (byteAt s i) = true) : lexStep s i = ([⟨1, s.extract i (wE s (i + 1)), i, 0⟩], wE s (i + 1)) := by simp [lexStep, hb, h]
theorem st_num (hb : blankB (byteAt s i) = false) (hl : lowB (byteAt s i) = false) (h : digB (byteAt s i) = true) : lexStep s i = ([⟨2, s.extract i (dE s i 0).1, i, (dE s i 0).2⟩], (dE s i 0).1) := by simp [lexStep, hb, hl, h]
theorem st_punct (hb : blankB (byteAt s i) = false) (hl : lowB (byteAt s i) = false) (hd : digB (byteAt s i) = false) {k : Nat} (hp : punct (byteAt s i) = k) (hk : k ≠ 0) : lexStep s i = ([⟨k, s.extract i (i + 1), i, 0⟩], i + 1) := by
  subst hp; simp [lexStep, hb, hl, hd, hk]
theorem st_imp (hb : blankB (byteAt s i) = false) (hl : lowB (byteAt s i) = false) (hd : digB (byteAt s i) = false) (hp : punct (byteAt s i) = 0) (h : byteAt s i = 45 ∧ i + 1 < s.size ∧ byteAt s (i + 1) = 62) : lexStep s i = ([⟨7, s.extract i (i + 2), i, 0⟩], i + 2) := by
  unfold lexStep
  rw [if_neg (by simp [hb]), if_neg (by simp [hl]), if_neg (by simp [hd]), if_neg (by simp [hp]), if_pos h]
theorem st_iff (hb : blankB (byteAt s i) = false) (hl : lowB (byteAt s i) = false) (hd : digB (byteAt s i) = false) (hp : punct (byteAt s i) = 0) (h : byteAt s i = 60 ∧ i + 2 < s.size ∧ byteAt s (i + 1) = 45 ∧ byteAt s (i + 2) = 62) : lexStep s i = ([⟨8, s.extract i (i + 3), i, 0⟩], i + 3) := by
  have h7 : ¬ (byteAt s i = 45 ∧ i + 1 < s.size ∧ byteAt s (i + 1) = 62) := by omega
  unfold lexStep
  rw [if_neg (by simp [hb]), if_neg (by simp [hl]), if_neg (by simp [hd]), if_neg (by simp [hp]), if_neg h7, if_pos h]
theorem st_bad (hb : blankB (byteAt s i) = false) (hl : lowB (byteAt s i) = false) (hd : digB (byteAt s i) = false) (hp : punct (byteAt s i) = 0) (h7 : ¬ (byteAt s i = 45 ∧ i + 1 < s.size ∧ byteAt s (i + 1) = 62)) (h8 : ¬ (byteAt s i = 60 ∧ i + 2 < s.size ∧ byteAt s (i + 1) = 45 ∧ byteAt s (i + 2) = 62)) :
    lexStep s i = ([⟨11, s.extract i (i + 1), i, 0⟩], i + 1) := by
  unfold lexStep
  rw [if_neg (by simp [hb]), if_neg (by simp [hl]), if_neg (by simp [hd]), if_neg (by simp [hp]), if_neg h7, if_neg h8]
theorem blank_f (h : ¬ (byteAt s i = 32 ∨ byteAt s i = 9 ∨ byteAt s i = 13)) : blankB (byteAt s i) = false := by simp [blankB]; omega
theorem blank_t (h : byteAt s i = 32 ∨ byteAt s i = 9 ∨ byteAt s i = 13) : blankB (byteAt s i) = true := by simp [blankB]; omega
theorem punct_0 {c : Nat} (h : ¬ (c = 35 ∨ c = 126 ∨ c = 38 ∨ c = 124 ∨ c = 40 ∨ c = 41)) : punct c = 0 := by
  unfold punct
  rw [if_neg (by omega), if_neg (by omega), if_neg (by omega), if_neg (by omega), if_neg (by omega), if_neg (by omega)]
theorem punct_of {c : Nat} (c0 : Nat) (h : c = c0) {k : Nat} (hk : punct c0 = k) : punct c = k := by rw [h]; exact hk
end

section
variable {s : ByteArray} {w0 w w2 : World} {ts : List Tok} {t : Tok} {i j E : Nat} {a a' : Option Addr} {c c' : Nat}
/-- What a token does to the loop's relation. -/
theorem lex_push (hlt : i < s.size) (hst : lexStep s i = ([t], j)) (hts : ts ++ lexFrom s i = lexFrom s 0) (hli : ts.length ≤ i) (hfr0 : Fr noB w0 w) (hnew0 : ∀ k, blkO a k → w0.heap.size ≤ k)
    (ho : Own w2 E 4 a' (ts.length + 1) c' (encToks ts ++ [.int .i64 t.kind, .string t.text, .int .i64 t.pos, .int .i64 t.val])) (hfr : Fr (blkO a) w w2) (hnew : ∀ k, blkO a' k → blkO a k ∨ w.heap.size ≤ k) :
    j ≤ s.size ∧ i < j ∧ Own w2 E 4 a' (ts ++ [t]).length c' (encToks (ts ++ [t])) ∧ Fr noB w0 w2 ∧ (∀ k, blkO a' k → w0.heap.size ≤ k) ∧ (ts ++ [t]) ++ lexFrom s j = lexFrom s 0 ∧ (ts ++ [t]).length ≤ j := by
  have hb := lexStep_bd hlt
  rw [hst] at hb
  simp only at hb
  refine ⟨hb.2, hb.1, by rw [encToks_snoc]; simpa using ho, hfr0.trans hfr (fun k hk e => by have := hnew0 k e; omega), fun k hk => ?_, ?_, by simp; omega⟩
  · rcases hnew k hk with h | h
    · exact hnew0 k h
    · exact Nat.le_trans hfr0.size h
  · rw [← hts, lexFrom_go hlt, hst]; simp
theorem lex_skip (hlt : i < s.size) (hst : lexStep s i = ([], j)) (hts : ts ++ lexFrom s i = lexFrom s 0) (hli : ts.length ≤ i) : j ≤ s.size ∧ i < j ∧ ts ++ lexFrom s j = lexFrom s 0 ∧ ts.length ≤ j := by
  have hb := lexStep_bd hlt
  rw [hst] at hb
  simp only at hb
  refine ⟨hb.2, hb.1, ?_, by omega⟩
  rw [← hts, lexFrom_go hlt, hst]; simp
end
end Go.Proofs.YbzaawGreat
