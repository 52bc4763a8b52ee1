/-  The builtin copy, over the whole of a row of one's own.  -/
import Derived.Test.YbzaawGreatMut
namespace Go.Wf
def rCopy (P : Program) (T T' ty : TypeId) (d s : Value) (w : World) : Result Next := ((Builtin.copy_ #[T, T'] ty #[d, s]).run P w).andThen fun v w' => .ok (.value v) w'
theorem o_copy (P : Program) (ty : TypeId) (ρ : Env) (w : World) (T T' : TypeId) (d s : Operand) : rop P ty (.call { callee := .builtin .copy, args := #[d, s], argTypes := #[T, T'] }) ρ w = rCopy P T T' ty (ev ρ d) (ev ρ s) w := by
  show (do let d ← resolve (ev ρ) { callee := .builtin .copy, args := #[d, s], argTypes := #[T, T'] } ty; invoke d.target d.args : Sem Next).run P w = _
  simp [resolve, invoke, builtin, rCopy]
theorem V_copy {P : Program} {H : Heap} {w : World} {d : Tmp} {ρ : Env} {next : Env → World → Prop} {T T' ty E sz n b c c2 : Nat} {a : Option Addr} {zs cs : List Value} (h6 : kindT P T = 6) (hi : infoT P (elT P T) = true) (hs : szT P (elT P T) = sz) (hB : Blk w b E zs) (hz : zs.length = n * sz) (hsrc : SlH H sz a n cs) (hH : HS H w) (hn : n ≠ 0) (h1 : ∀ u ∈ cs, oneC u = true)
    (h : ∀ w', Blk w' b E cs → Fr (fun k => k = b) w w' → next (upd ρ d (.int .i64 n)) w') : VR P (some d) ρ next (rCopy P T T' ty (.slice (some ⟨b, 0, none⟩) n c) (.slice a n c2) w) := by
  have ht := (kind_int (P := P) (T := T)).2.2.2.2 h6
  have ha : a = some ⟨ablk a, aoff a, none⟩ := hsrc.isA.resolve_left hn
  have hcl := hsrc.len
  have hl := run_loadCells_list (P := P) w ⟨ablk a, aoff a, none⟩ cs (fun j v hv => by rw [add_mk]; exact hH.cell _ _ _ (hsrc.cell j v hv))
  have hst := run_storeCells_at P b 0 E cs 0 zs.toArray w hB.row (by simp [hcl, hz]) (fun u hu => oneC_cell' (h1 u hu))
  have hdr : zs.drop cs.length = [] := List.drop_of_length_le (by omega)
  simp [hdr] at hst
  rw [hcl] at hl
  refine ⟨?_⟩
  rw [ha]
  simp only [rCopy]
  simp [Builtin.copy_, run_underlying ht, Builtin.lenOf, Builtin.firstCells, run_sizeOf hi, hs, hl, hst]
  exact h _ ⟨setRow_heap w b _ _ E _ hB.row⟩ (Fr.setRow w b _ _ E _ hB.row)
end Go.Wf
