/-  Functions whose results lie in blocks of their own.  -/
import Derived.Test.YbzaawGreatMut
namespace Go.Wf
section
variable {P : Program} {fn : Func} {R : Value → World → Prop} {ρ : Env} {w : World}
theorem run_loadBlk {T b E : Nat} {cs : List Value} (h : kindT P T = 7) (hi : infoT P T = true) (hn : szT P T = cs.length) (hB : Blk w b E cs) : (loadVar T ⟨b, 0, none⟩).run P w = .ok (.agg cs.toArray) w := by
  have hc : cellsAt (fun j => w.cell? ⟨b, j, none⟩) 0 (szT P T) = some cs := by
    rw [hn]
    have : ∀ (n : Nat) (pre suf : List Value), cs = pre ++ suf → n = suf.length → cellsAt (fun j => w.cell? ⟨b, j, none⟩) pre.length n = some suf := by
      intro n
      induction n with
      | zero => intro pre suf e hl; rw [List.eq_nil_of_length_eq_zero hl.symm]; rfl
      | succ n ih =>
        intro pre suf e hl
        cases suf with
        | nil => simp at hl
        | cons v suf =>
          have h1 : w.cell? ⟨b, pre.length, none⟩ = some v := by rw [hB.cell, e]; simp
          have h2 := ih (pre ++ [v]) suf (by simp [e]) (by simpa using hl)
          simp only [List.length_append, List.length_cons, List.length_nil, Nat.zero_add] at h2
          simp only [cellsAt, h1, h2, Option.map_some]
    exact this cs.length [] cs rfl rfl
  have hl := e_loadAgg P w T b 0 cs h hi hc
  simp only [rLoad, Instr.loadAt, Instr.sureAddr] at hl
  simp at hl
  cases hr : (loadVar T ⟨b, 0, none⟩).run P w with
  | ok v w' => rw [hr] at hl; simp at hl; rw [hl.1, hl.2]
  | halt x w' => rw [hr] at hl; simp [Result.andThen] at hl
theorem retC {a T b E : Nat} {cs : List Value} (h : fn.results = #[.cell a T]) (ha : ρ a = .pointer (some ⟨b, 0, none⟩)) (k7 : kindT P T = 7) (hi : infoT P T = true) (hn : szT P T = cs.length) (hB : Blk w b E cs) (hr : R (.agg cs.toArray) w) : retK P fn R .ret ρ w :=
  ⟨.agg cs.toArray, by simp [resultsE, h, ha, asAddr, run_loadBlk k7 hi hn hB], hr⟩
theorem retC2 {a T b E t : Nat} {cs : List Value} (h : fn.results = #[.cell a T, .tmp t]) (ha : ρ a = .pointer (some ⟨b, 0, none⟩)) (k7 : kindT P T = 7) (hi : infoT P T = true) (hn : szT P T = cs.length) (hB : Blk w b E cs) (hr : R (.tuple #[.agg cs.toArray, ρ t]) w) : retK P fn R .ret ρ w :=
  ⟨.tuple #[.agg cs.toArray, ρ t], by simp [resultsE, h, ha, asAddr, run_loadBlk k7 hi hn hB], hr⟩
theorem retC3 {a T b E t u : Nat} {cs : List Value} (h : fn.results = #[.cell a T, .tmp t, .tmp u]) (ha : ρ a = .pointer (some ⟨b, 0, none⟩)) (k7 : kindT P T = 7) (hi : infoT P T = true) (hn : szT P T = cs.length) (hB : Blk w b E cs) (hr : R (.tuple #[.agg cs.toArray, ρ t, ρ u]) w) : retK P fn R .ret ρ w :=
  ⟨.tuple #[.agg cs.toArray, ρ t, ρ u], by simp [resultsE, h, ha, asAddr, run_loadBlk k7 hi hn hB], hr⟩
end
theorem e_bs2 (P : Program) (w : World) {T sz : Nat} {zl : List Value} (k6 : kindT P T = 6) (hi : infoT P (elT P T) = true) (hz : zeroT P (elT P T) = some zl) (hs : szT P (elT P T) = sz) (hsm : sz ≤ 8388608) (u v : Value) (hu : csz u = sz) (hv : csz v = sz) :
    rBS P T 2 [(0, u), (1, v)] w = .ok (.value (.slice (some ⟨w.heap.size, 0, none⟩) 2 2)) (w.alloc (.cells (u.cells.toList ++ v.cells.toList).toArray (elT P T))) := by
  have := e_bs P w (T := T) (sz := sz) [u, v] k6 hi (by rw [hz]; rfl) hs (by simpa [csz] using ⟨hu, hv⟩) (by simp; omega)
  simpa [partsFrom, rowCells] using this
end Go.Wf
