/-  The plain reading of one line.  -/
import Derived.Test.YbzaawGreatRuleW
import Derived.Test.YbzaawGreatPParse
import Derived.Test.YbzaawGreatLnB
namespace Go.Proofs.YbzaawGreat
open Go.Wf Go.Deep
set_option linter.unusedSimpArgs false
set_option linter.unusedVariables false

def sThm : ByteArray := ⟨#[116, 104, 101, 111, 114, 101, 109]⟩
def sEnd : ByteArray := ⟨#[101, 110, 100]⟩
def sPrem : ByteArray := ⟨#[112, 114, 101, 109, 105, 115, 101]⟩
def sAss : ByteArray := ⟨#[97, 115, 115, 117, 109, 101]⟩
def sBy : ByteArray := ⟨#[98, 121]⟩
def isW (ts : List Nd) (i : Nat) (s : ByteArray) : Prop := (ts.getD i nd0).op = 1 ∧ (ts.getD i nd0).name = s
/-- The last word 'by' among the first n tokens. -/
def lastBy (ts : List Nd) : Nat → Int
  | 0 => -1
  | n + 1 => if (ts.getD n nd0).op = 1 ∧ (ts.getD n nd0).name = sBy then n else lastBy ts n
theorem lastBy_bd (ts : List Nd) : ∀ n, -1 ≤ lastBy ts n ∧ lastBy ts n < n
  | 0 => by simp [lastBy]
  | n + 1 => by
    have := lastBy_bd ts n
    simp only [lastBy]
    split <;> omega
/-- The numbers at the line's end. -/
def refsL : List Nd → Option (List Int)
  | [] => some []
  | x :: r => if x.op = 2 then (refsL r).map (x.r :: ·) else none
theorem refsL_len : ∀ (l : List Nd) (zs : List Int), refsL l = some zs → zs.length = l.length
  | [], zs, h => by simp [refsL] at h; subst h; rfl
  | x :: r, zs, h => by
    simp only [refsL] at h
    split at h
    · cases hr : refsL r with
      | none => rw [hr] at h; simp at h
      | some y => rw [hr] at h; simp at h; subst h; simp [refsL_len r y hr]
    · cases h
abbrev PP := List Nd → List Nd × Bool
def stepJ (P : PP) (ts : List Nd) (j : Nat) : Ln :=
  if (P (ts.take j)).2 = false ∨ ts.length ≤ j + 1 ∨ (ts.getD (j + 1) nd0).op ≠ 1 then badL
  else if ruleF (ts.getD (j + 1) nd0).name = 0 then badL
  else match refsL (ts.drop (j + 2)) with
    | none => badL
    | some zs => if fitsF (ruleF (ts.getD (j + 1) nd0).name) zs.length = true then ⟨4, (P (ts.take j)).1, ruleF (ts.getD (j + 1) nd0).name, zs, 0⟩ else badL
def stepF (P : PP) (ts : List Nd) : Ln :=
  if lastBy ts ts.length < 1 then badL else stepJ P ts (lastBy ts ts.length).toNat
section
variable {P : PP} {ts : List Nd} {j : Nat}
theorem stepF_lt (h : lastBy ts ts.length < 1) : stepF P ts = badL := by unfold stepF; rw [if_pos h]
theorem stepF_J (h : lastBy ts ts.length = (j : Int)) (h1 : 1 ≤ j) : stepF P ts = stepJ P ts j := by
  unfold stepF; rw [if_neg (by omega), h]; rfl
theorem stepJ_1 (h : (P (ts.take j)).2 = false ∨ ts.length ≤ j + 1 ∨ (ts.getD (j + 1) nd0).op ≠ 1) : stepJ P ts j = badL := by unfold stepJ; rw [if_pos h]
theorem stepJ_2 (h : ruleF (ts.getD (j + 1) nd0).name = 0) : stepJ P ts j = badL := by
  unfold stepJ
  by_cases h1 : (P (ts.take j)).2 = false ∨ ts.length ≤ j + 1 ∨ (ts.getD (j + 1) nd0).op ≠ 1
  · rw [if_pos h1]
  · rw [if_neg h1, if_pos h]
theorem stepJ_3 (h : refsL (ts.drop (j + 2)) = none) : stepJ P ts j = badL := by
  unfold stepJ; rw [h]; simp
theorem stepJ_4 {zs : List Int} (h : refsL (ts.drop (j + 2)) = some zs) (h2 : fitsF (ruleF (ts.getD (j + 1) nd0).name) zs.length = false) : stepJ P ts j = badL := by
  unfold stepJ; rw [h]; simp only [h2]; simp
theorem stepJ_5 {zs : List Int} (h0 : (P (ts.take j)).2 = true) (h1 : ¬ ts.length ≤ j + 1) (h2 : (ts.getD (j + 1) nd0).op = 1) (h3 : ¬ ruleF (ts.getD (j + 1) nd0).name = 0) (h : refsL (ts.drop (j + 2)) = some zs) (h4 : fitsF (ruleF (ts.getD (j + 1) nd0).name) zs.length = true) :
    stepJ P ts j = ⟨4, (P (ts.take j)).1, ruleF (ts.getD (j + 1) nd0).name, zs, 0⟩ := by
  unfold stepJ
  rw [if_neg (fun e => by
    rcases e with e | e | e
    · rw [h0] at e; cases e
    · exact h1 e
    · exact e h2), if_neg h3, h]
  simp only [h4, if_true]
theorem dropD (i : Nat) (h : i < ts.length) : ts.drop i = ts.getD i nd0 :: ts.drop (i + 1) := by
  rw [List.drop_eq_getElem_cons h]; simp [h]
theorem refs_no {i : Nat} (h : i < ts.length) (h2 : (ts.getD i nd0).op ≠ 2) : refsL (ts.drop i) = none := by
  rw [dropD i h]; simp only [refsL]; rw [if_neg h2]
theorem refs_yes {i : Nat} (h : i < ts.length) (h2 : (ts.getD i nd0).op = 2) : refsL (ts.drop i) = (refsL (ts.drop (i + 1))).map ((ts.getD i nd0).r :: ·) := by
  rw [dropD i h]; simp only [refsL]; rw [if_pos h2]
end
def lineF (P : PP) (ts : List Nd) : Ln :=
  if ts.length = 0 then badL
  else if (ts.getD 0 nd0).op = 1 ∧ ((ts.getD 0 nd0).name = sThm ∨ (ts.getD 0 nd0).name = sEnd) then
    (if ts.length = 1 then ⟨if (ts.getD 0 nd0).name = sEnd then 5 else 1, [], 0, [], 0⟩ else badL)
  else if (ts.getD 0 nd0).op = 1 ∧ ((ts.getD 0 nd0).name = sPrem ∨ (ts.getD 0 nd0).name = sAss) then
    (if (P (ts.drop 1)).2 = true then ⟨if (ts.getD 0 nd0).name = sAss then 3 else 2, (P (ts.drop 1)).1, 0, [], 0⟩ else badL)
  else stepF P ts
section
variable {P : PP} {ts : List Nd}
theorem lineF_0 (h : ts.length = 0) : lineF P ts = badL := by unfold lineF; rw [if_pos h]
theorem lineF_teB (h0 : ts.length ≠ 0) (h1 : (ts.getD 0 nd0).op = 1) (h2 : (ts.getD 0 nd0).name = sThm ∨ (ts.getD 0 nd0).name = sEnd) (h3 : ts.length ≠ 1) : lineF P ts = badL := by
  unfold lineF; rw [if_neg h0, if_pos ⟨h1, h2⟩, if_neg h3]
theorem lineF_end (h1 : (ts.getD 0 nd0).op = 1) (h2 : (ts.getD 0 nd0).name = sEnd) (h3 : ts.length = 1) : lineF P ts = ⟨5, [], 0, [], 0⟩ := by
  unfold lineF; rw [if_neg (by omega), if_pos ⟨h1, .inr h2⟩, if_pos h3, if_pos h2]
theorem lineF_thm (h1 : (ts.getD 0 nd0).op = 1) (h2 : (ts.getD 0 nd0).name = sThm) (h4 : ¬ (ts.getD 0 nd0).name = sEnd) (h3 : ts.length = 1) : lineF P ts = ⟨1, [], 0, [], 0⟩ := by
  unfold lineF; rw [if_neg (by omega), if_pos ⟨h1, .inl h2⟩, if_pos h3, if_neg h4]
theorem pa_not {x : ByteArray} (h : x = sPrem ∨ x = sAss) : ¬ (x = sThm ∨ x = sEnd) := by
  rcases h with rfl | rfl <;> decide
theorem lineF_paB (h0 : ts.length ≠ 0) (h1 : (ts.getD 0 nd0).op = 1) (h2 : (ts.getD 0 nd0).name = sPrem ∨ (ts.getD 0 nd0).name = sAss) (h3 : (P (ts.drop 1)).2 = false) : lineF P ts = badL := by
  unfold lineF; rw [if_neg h0, if_neg (fun e => pa_not h2 e.2), if_pos ⟨h1, h2⟩, if_neg (by rw [h3]; simp)]
theorem lineF_ass (h0 : ts.length ≠ 0) (h1 : (ts.getD 0 nd0).op = 1) (h2 : (ts.getD 0 nd0).name = sAss) (h3 : (P (ts.drop 1)).2 = true) : lineF P ts = ⟨3, (P (ts.drop 1)).1, 0, [], 0⟩ := by
  unfold lineF; rw [if_neg h0, if_neg (fun e => pa_not (.inr h2) e.2), if_pos ⟨h1, .inr h2⟩, if_pos h3, if_pos h2]
theorem lineF_prem (h0 : ts.length ≠ 0) (h1 : (ts.getD 0 nd0).op = 1) (h2 : (ts.getD 0 nd0).name = sPrem) (h4 : ¬ (ts.getD 0 nd0).name = sAss) (h3 : (P (ts.drop 1)).2 = true) : lineF P ts = ⟨2, (P (ts.drop 1)).1, 0, [], 0⟩ := by
  unfold lineF; rw [if_neg h0, if_neg (fun e => pa_not (.inl h2) e.2), if_pos ⟨h1, .inl h2⟩, if_pos h3, if_neg h4]
theorem lineF_step (h0 : ts.length ≠ 0) (h : (ts.getD 0 nd0).op ≠ 1 ∨ (¬ (ts.getD 0 nd0).name = sThm ∧ ¬ (ts.getD 0 nd0).name = sEnd ∧ ¬ (ts.getD 0 nd0).name = sPrem ∧ ¬ (ts.getD 0 nd0).name = sAss)) : lineF P ts = stepF P ts := by
  unfold lineF
  rw [if_neg h0, if_neg (fun e => h.elim (fun h => h e.1) (fun h => e.2.elim h.1 h.2.1)), if_neg (fun e => h.elim (fun h => h e.1) (fun h => e.2.elim h.2.2.1 h.2.2.2))]
end
end Go.Proofs.YbzaawGreat
