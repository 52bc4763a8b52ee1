/-  spec: patterns of theorems in memory.  -/
import Derived.Test.YbzaawGreatSJN
import Derived.Test.YbzaawGreatJudgeB0
namespace Go.Proofs.YbzaawGreat
open Go.Wf Go.Deep
set_option linter.unusedSimpArgs false
set_option linter.unusedVariables false

theorem blPat (parts : List (Nat × Value)) : Program.built Yaao.prog 106 parts = Instr.fill (fun i => (#[(0, 1), (1, 3), (4, 1)] : Array (Nat × Nat))[i]?) [.slice none 0 0, .int .i64 0, .int .i64 0, .slice none 0 0, .int .i64 0].toArray parts := by kernel_rfl
theorem fe_pat0 : rBuild Yaao.prog 106 [] = Result.ok (.value (.agg #[.slice none 0 0, .int .i64 0, .int .i64 0, .slice none 0 0, .int .i64 0])) := by
  funext w
  have := run_build (P := Yaao.prog) w 106 #[] #[.slice none 0 0, .int .i64 0, .int .i64 0, .slice none 0 0, .int .i64 0] (blPat [])
  simp [rBuild, this]
theorem fe_pat3 (pa : Option Addr) (pn pc : Nat) (p0 p1 p2 : Value) (c : Int) : rBuild Yaao.prog 106 [(0, .slice pa pn pc), (1, .agg #[p0, p1, p2]), (2, .int .i64 c)] = Result.ok (.value (.agg #[.slice pa pn pc, p0, p1, p2, .int .i64 c])) := by
  funext w
  have hf : Program.built Yaao.prog 106 [(0, .slice pa pn pc), (1, .agg #[p0, p1, p2]), (2, .int .i64 c)] = some #[.slice pa pn pc, p0, p1, p2, .int .i64 c] := by
    rw [blPat]
    simp [Instr.fill, Value.cells]
  have := run_build (P := Yaao.prog) w 106 #[(0, .slice pa pn pc), (1, .agg #[p0, p1, p2]), (2, .int .i64 c)] _ hf
  simp [rBuild, this]
/-- A theorem's pattern in memory. -/
structure SpA where
  pa : Option Addr
  pc : Nat
  pv : List V3
  g : V3
  names : List ByteArray
def sp0 : SpA := ⟨none, 0, [], (.int .i64 0, .int .i64 0, .slice none 0 0), []⟩
def SpA.enc (x : SpA) : List Value := [.slice x.pa x.pv.length x.pc, x.g.1, x.g.2.1, x.g.2.2, .int .i64 x.names.length]
def encSp (xs : List SpA) : List Value := xs.flatMap SpA.enc
theorem encSp_snoc (l : List SpA) (t : SpA) : encSp (l ++ [t]) = encSp l ++ t.enc := by simp [encSp]
structure SpH (H : Heap) (x : VdA) (y : SpA) : Prop where
  nd : NoDp y.names
  one : oneC y.g.1 = true ∧ oneC y.g.2.1 = true ∧ oneC y.g.2.2 = true
  ps : x.ok = true → SlH H 3 y.pa y.pv.length (encV3 y.pv) ∧ PTs H y.names (x.ps.map FmA.t) y.pv
  g : x.ok = true → PTC H y.names x.g.t y.g.enc
  n : y.names.length ≤ 2000000000000
theorem SpH.mono {H H' : Heap} {x : VdA} {y : SpA} (h : SpH H x y) (hl : HLe H H') : SpH H' x y := ⟨h.nd, h.one, fun e => ⟨(h.ps e).1.mono hl, (h.ps e).2.mono hl⟩, fun e => (h.g e).mono hl, h.n⟩
structure SsH (H : Heap) (a : Option Addr) (n : Nat) (xs : List VdA) (ys : List SpA) : Prop where
  len : n = ys.length
  sl : SlH H 5 a n (encSp ys)
  pt : ∀ i, i < n → SpH H (xs.getD i va0) (ys.getD i sp0)
section
variable {H : Heap} {a : Option Addr} {n : Nat} {xs : List VdA} {ys : List SpA}
theorem SsH.mono {H' : Heap} (h : SsH H a n xs ys) (hl : HLe H H') : SsH H' a n xs ys := ⟨h.len, h.sl.mono hl, fun i hi => (h.pt i hi).mono hl⟩
theorem SsH.at_ (h : SsH H a n xs ys) (i j : Nat) (hi : i < n) (v : Value) (hj : j < 5) (hv : (ys.getD i sp0).enc[j]? = some v) : H (ablk a) (aoff a + i * 5 + j) = some v := by
  rw [Nat.add_assoc]
  refine h.sl.cell _ _ ?_
  have hi' : i < ys.length := by rw [← h.len]; exact hi
  have := flat_get SpA.enc 5 ys i j ys[i] (fun _ => rfl) (List.getElem?_eq_getElem hi') hj
  show (ys.flatMap SpA.enc)[i * 5 + j]? = _
  rw [this]
  rw [show ys.getD i sp0 = ys[i] by simp [hi']] at hv
  exact hv
theorem SsH.c0 (h : SsH H a n xs ys) (i : Nat) (hi : i < n) : H (ablk a) (aoff a + i * 5) = some (.slice (ys.getD i sp0).pa (ys.getD i sp0).pv.length (ys.getD i sp0).pc) := h.at_ i 0 hi _ (by omega) rfl
theorem SsH.c1 (h : SsH H a n xs ys) (i : Nat) (hi : i < n) : H (ablk a) (aoff a + i * 5 + 1) = some (ys.getD i sp0).g.1 := h.at_ i 1 hi _ (by omega) rfl
theorem SsH.c2 (h : SsH H a n xs ys) (i : Nat) (hi : i < n) : H (ablk a) (aoff a + i * 5 + 2) = some (ys.getD i sp0).g.2.1 := h.at_ i 2 hi _ (by omega) rfl
theorem SsH.c3 (h : SsH H a n xs ys) (i : Nat) (hi : i < n) : H (ablk a) (aoff a + i * 5 + 3) = some (ys.getD i sp0).g.2.2 := h.at_ i 3 hi _ (by omega) rfl
theorem SsH.c4 (h : SsH H a n xs ys) (i : Nat) (hi : i < n) : H (ablk a) (aoff a + i * 5 + 4) = some (.int .i64 (ys.getD i sp0).names.length) := h.at_ i 4 hi _ (by omega) rfl
end
end Go.Proofs.YbzaawGreat
