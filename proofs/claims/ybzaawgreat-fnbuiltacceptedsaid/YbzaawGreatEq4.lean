/-  Records of four cells (int, string, int, int): they are compared field by field.  -/
import Derived.Test.YbzaawGreatMut
import Derived.Test.YbzaawGreatTy
import Derived.Laws.StructEq
namespace Go.Wf

def rec4 (P : Program) (T : TypeId) : Bool :=
  (match P.underlying T with
  | some (.struct ⟨[a, b, c, d]⟩) =>
    decide (a.name ≠ "_" ∧ b.name ≠ "_" ∧ c.name ≠ "_" ∧ d.name ≠ "_" ∧ a.offset = 0 ∧ b.offset = 1 ∧ c.offset = 2 ∧ d.offset = 3 ∧ kindT P a.type = 1 ∧ kindT P b.type = 5 ∧ kindT P c.type = 1 ∧ kindT P d.type = 1)
  | _ => false) && (!P.stoodInHeld T && !P.eqGuardType P.depth T)

theorem run_part1 {P : Program} {w : World} {T o : Nat} {xs : Array Value} {v : Value} (h : 1 ≤ kindT P T ∧ kindT P T ≤ 6 ∨ kindT P T = 8) (hx : xs[o]? = some v) : (part T xs o).run P w = .ok v w := by
  simp [part, run_isAgg1 h, hx]
theorem und_int {P : Program} {T : TypeId} (h : kindT P T = 1) : P.underlying T = some (.int .i64) := by
  unfold kindT at h
  split at h <;> first | assumption | (simp at h; done)
theorem und_str {P : Program} {T : TypeId} (h : kindT P T = 5) : P.underlying T = some .string := by
  unfold kindT at h
  split at h <;> first | assumption | (simp at h; done)

theorem run_eq4 {P : Program} {w : World} {T : TypeId} (h : rec4 P T = true) (a0 a2 a3 b0 b2 b3 : Int) (a1 b1 : ByteArray) :
    (Op.equalIn 10000 T (.agg #[.int .i64 a0, .string a1, .int .i64 a2, .int .i64 a3]) (.agg #[.int .i64 b0, .string b1, .int .i64 b2, .int .i64 b3])).run P w = .ok (decide (a0 = b0 ∧ a1 = b1 ∧ a2 = b2 ∧ a3 = b3)) w := by
  unfold rec4 at h
  rw [Bool.and_eq_true, Bool.and_eq_true] at h
  obtain ⟨h1, h2, h3⟩ := h
  split at h1
  · rename_i a b c d hu
    simp only [decide_eq_true_eq] at h1
    obtain ⟨n0, n1, n2, n3, o0, o1, o2, o3, k0, k1, k2, k3⟩ := h1
    have hf : P.fieldsOf T = #[a, b, c, d] := by unfold Program.fieldsOf; rw [hu]
    rw [run_equalIn_struct w 9999 T _ _ (by rw [hf]; exact hu) (by simpa using h2), hf]
    simp only [Op.eqFields, n0, n1, n2, n3, o0, o1, o2, o3, ne_eq, not_false_eq_true, if_true, Sem.run_bind, Sem.run_ite, Sem.run_pure]
    rw [run_part1 (by omega) (show (#[Value.int .i64 a0, .string a1, .int .i64 a2, .int .i64 a3] : Array Value)[0]? = some (.int .i64 a0) from rfl)]
    simp only [Result.andThen_ok]
    rw [run_part1 (by omega) (show (#[Value.int .i64 b0, .string b1, .int .i64 b2, .int .i64 b3] : Array Value)[0]? = some (.int .i64 b0) from rfl)]
    simp only [Result.andThen_ok]
    rw [run_equalIn_int w 9998 a.type .i64 .i64 a0 b0 (und_int k0)]
    simp only [Result.andThen_ok]
    by_cases e0 : a0 = b0
    · rw [run_part1 (by omega) (show (#[Value.int .i64 a0, .string a1, .int .i64 a2, .int .i64 a3] : Array Value)[1]? = some (.string a1) from rfl)]
      simp only [Result.andThen_ok]
      rw [run_part1 (by omega) (show (#[Value.int .i64 b0, .string b1, .int .i64 b2, .int .i64 b3] : Array Value)[1]? = some (.string b1) from rfl)]
      simp only [Result.andThen_ok]
      rw [run_equalIn_string w 9998 b.type a1 b1 (und_str k1), eqBytes]
      simp only [Result.andThen_ok]
      by_cases e1 : a1 = b1
      · rw [run_part1 (by omega) (show (#[Value.int .i64 a0, .string a1, .int .i64 a2, .int .i64 a3] : Array Value)[2]? = some (.int .i64 a2) from rfl)]
        simp only [Result.andThen_ok]
        rw [run_part1 (by omega) (show (#[Value.int .i64 b0, .string b1, .int .i64 b2, .int .i64 b3] : Array Value)[2]? = some (.int .i64 b2) from rfl)]
        simp only [Result.andThen_ok]
        rw [run_equalIn_int w 9998 c.type .i64 .i64 a2 b2 (und_int k2)]
        simp only [Result.andThen_ok]
        by_cases e2 : a2 = b2
        · rw [run_part1 (by omega) (show (#[Value.int .i64 a0, .string a1, .int .i64 a2, .int .i64 a3] : Array Value)[3]? = some (.int .i64 a3) from rfl)]
          simp only [Result.andThen_ok]
          rw [run_part1 (by omega) (show (#[Value.int .i64 b0, .string b1, .int .i64 b2, .int .i64 b3] : Array Value)[3]? = some (.int .i64 b3) from rfl)]
          simp only [Result.andThen_ok]
          rw [run_equalIn_int w 9998 d.type .i64 .i64 a3 b3 (und_int k3)]
          by_cases e3 : a3 = b3
          · simp [e0, e1, e2, e3]
          · simp [e0, e1, e2, e3]
        · simp [e0, e1, e2]
      · simp [e0, e1]
    · simp [e0]
  · cases h1
theorem rec4_guard {P : Program} {T : TypeId} (h : rec4 P T = true) : P.eqGuardType P.depth T = false := by
  unfold rec4 at h
  rw [Bool.and_eq_true, Bool.and_eq_true] at h
  simpa using h.2.2
theorem fe_neqA {P : Program} {T : TypeId} (h : rec4 P T = true) (x y : Operand) (a0 a2 a3 b0 b2 b3 : Int) (a1 b1 : ByteArray) :
    rBin P .neq T x y (.agg #[.int .i64 a0, .string a1, .int .i64 a2, .int .i64 a3]) (.agg #[.int .i64 b0, .string b1, .int .i64 b2, .int .i64 b3]) = Result.ok (.value (.bool (!decide (a0 = b0 ∧ a1 = b1 ∧ a2 = b2 ∧ a3 = b3)))) := by
  funext w
  unfold rBin
  rw [run_eqGuard_agg w _ T x y _ _ (rec4_guard h)]
  simp only [Result.andThen_ok]
  rw [run_neq_struct, run_eq4 h]
  rfl
theorem fe_eqlA {P : Program} {T : TypeId} (h : rec4 P T = true) (x y : Operand) (a0 a2 a3 b0 b2 b3 : Int) (a1 b1 : ByteArray) :
    rBin P .eql T x y (.agg #[.int .i64 a0, .string a1, .int .i64 a2, .int .i64 a3]) (.agg #[.int .i64 b0, .string b1, .int .i64 b2, .int .i64 b3]) = Result.ok (.value (.bool (decide (a0 = b0 ∧ a1 = b1 ∧ a2 = b2 ∧ a3 = b3)))) := by
  funext w
  unfold rBin
  rw [run_eqGuard_agg w _ T x y _ _ (rec4_guard h)]
  simp only [Result.andThen_ok]
  rw [run_eql_struct, run_eq4 h]
  rfl
end Go.Wf
namespace Go.Proofs.YbzaawGreat
open Go.Wf
set_option maxRecDepth 1000000
theorem q113 : rec4 Yaao.prog 113 = true := by kernel_rfl
end Go.Proofs.YbzaawGreat
