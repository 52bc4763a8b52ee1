/-  Blocks that a call writes: local structs, made slices.  -/
import Derived.Test.YbzaawGreatData
namespace Go.Wf

/-- The block holds just these cells. -/
structure Blk (w : World) (b E : Nat) (cs : List Value) : Prop where
  row : w.heap[b]? = some (.cells cs.toArray E (0, 0))
theorem Blk.lt {w : World} {b E : Nat} {cs : List Value} (h : Blk w b E cs) : b < w.heap.size := (Array.getElem?_eq_some_iff.1 h.row).1
theorem Blk.fr {w w' : World} {S : Nat → Prop} {b E : Nat} {cs : List Value} (h : Blk w b E cs) (hf : Fr S w w') (hs : ¬ S b) : Blk w' b E cs := ⟨(hf.block b h.lt hs).trans h.row⟩
theorem Blk.frN {w w' : World} {b E : Nat} {cs : List Value} (h : Blk w b E cs) (hf : Fr noB w w') : Blk w' b E cs := h.fr hf fun e => e
theorem Blk.new (w : World) (E : Nat) (cs : List Value) : Blk (w.alloc (.cells cs.toArray E)) w.heap.size E cs := ⟨heap_alloc_new w _⟩
theorem Blk.cell {w : World} {b E : Nat} {cs : List Value} (h : Blk w b E cs) (o : Nat) : w.cell? ⟨b, o, none⟩ = cs[o]? := by
  rw [cell_of_row w b o _ E (0, 0) h.row]; simp
/-- A block that is not written any more. -/
theorem Blk.keep {H : Heap} {w : World} {b E : Nat} {cs : List Value} (h : Blk w b E cs) (hH : HS H w) (hn : ∀ o, H b o = none) :
    ∃ H', HLe H H' ∧ HS H' w ∧ (∀ o, H' b o = cs[o]?) ∧ (∀ k, k ≠ b → ∀ o, H' k o = H k o) := by
  refine ⟨addH H b 0 cs, addH_le H b 0 cs hn, addH_HS hH b 0 cs (fun j v e => by rw [Nat.zero_add, h.cell]; exact e), fun o => ?_, fun k hk o => addH_ne _ _ _ _ hk⟩
  by_cases ho : o < cs.length
  · have := addH_at H b 0 cs o ho; rwa [Nat.zero_add] at this
  · unfold addH; rw [if_neg (by omega), hn]; simp [List.getElem?_eq_none (Nat.le_of_not_lt ho)]
/-- A fresh block that is not written any more. -/
theorem VC_keep {P : Program} {c : Code} {k : Exit → Env → World → Prop} {ρ : Env} {w : World} {H : Heap} {cs : List Value} {T : TypeId} (hH : HS H w)
    (h : ∀ w' H', HLe H H' → HS H' w' → (∀ j, H' w.heap.size j = cs[j]?) → Fr noB w w' → (∀ k, k ≠ w.heap.size → ∀ o, H' k o = H k o) → VC P c k ρ w') : VC P c k ρ (w.alloc (.cells cs.toArray T)) := by
  have hf : Fr noB w (w.alloc (.cells cs.toArray T)) := Fr.alloc noB w _ _
  obtain ⟨H', h1, h2, h3, h4⟩ := (Blk.new w T cs).keep (hH.frN hf) (fun o => hH.off (Nat.le_refl _) o)
  exact h _ H' h1 h2 h3 hf h4

section
variable (P : Program) (w : World)
theorem run_storeVar {T b o E sz : Nat} {v : Value} {cs : List Value} (hi : infoT P T = true) (hs : szT P T = sz) (hv : csz v = sz) (h1 : ∀ u ∈ v.cells.toList, oneC u = true) (hb : Blk w b E cs) (ho : o + sz ≤ cs.length) :
    rStore P T (.pointer (some ⟨b, o, none⟩)) v w = .ok .skip (w.setRow b (cs.take o ++ v.cells.toList ++ cs.drop (o + sz)).toArray) := by
  have hsz : v.cells.size = sz := hv
  have hst := run_storeCells_at P b o E v.cells.toList 0 cs.toArray w hb.row (by simp [hsz]; omega) (fun u hu => oneC_cell' (h1 u hu))
  simp only [Nat.add_zero] at hst
  have hc : ¬ (v.cells.size ≠ sz) := by simp [hsz]
  simp [rStore, Instr.storeAt, Instr.sureAddr, storeVar, run_sizeOf hi, hs, hst, hsz]

/-- A store into a block of one's own. -/
theorem V_store {T b o E sz : Nat} {v : Value} {cs : List Value} {ρ : Env} {next : Env → World → Prop} {P : Program} {w : World} (hi : infoT P T = true) (hs : szT P T = sz) (hb : Blk w b E cs) (hv : csz v = sz) (h1 : ∀ u ∈ v.cells.toList, oneC u = true) (ho : o + sz ≤ cs.length)
    (h : ∀ w', Blk w' b E (cs.take o ++ v.cells.toList ++ cs.drop (o + sz)) → Fr (fun k => k = b) w w' → next ρ w') : VR P none ρ next (rStore P T (.pointer (some ⟨b, o, none⟩)) v w) := by
  refine ⟨?_⟩
  rw [run_storeVar P w hi hs hv h1 hb ho]
  exact h _ ⟨setRow_heap w b _ _ E _ hb.row⟩ (Fr.setRow w b _ _ E _ hb.row)
theorem V_store1 {T b o E : Nat} {v : Value} {cs : List Value} {ρ : Env} {next : Env → World → Prop} {P : Program} {w : World} (hi : infoT P T = true) (hs : szT P T = 1) (hb : Blk w b E cs) (h1 : oneC v = true) (ho : o < cs.length)
    (h : ∀ w', Blk w' b E (cs.set o v) → Fr (fun k => k = b) w w' → next ρ w') : VR P none ρ next (rStore P T (.pointer (some ⟨b, o, none⟩)) v w) := by
  refine V_store hi hs hb (by rw [csz, oneC_cells h1]; rfl) (by rw [oneC_cells h1]; simpa using h1) (by omega) (fun w' hb' hf => h w' ?_ hf)
  have e : cs.set o v = cs.take o ++ v.cells.toList ++ cs.drop (o + 1) := by
    rw [oneC_cells h1, List.set_eq_take_append_cons_drop, if_pos ho]; simp
  rw [e]; exact hb'

theorem setRow_new (w : World) (z cs : Array Value) (T : TypeId) : (w.alloc (.cells z T)).setRow w.heap.size cs = w.alloc (.cells cs T) := by
  unfold World.setRow World.alloc
  congr 1
  apply Array.ext
  · simp
  · intro i h1 h2
    simp only [Array.getElem_modify, Array.getElem_push]
    simp at h1 h2
    by_cases hi : w.heap.size = i
    · subst hi; simp
    · have : i < w.heap.size := by omega
      simp [hi, this]
def stnI (sz : Nat) (z cs : List Value) : Nat := bif (z.length == sz && (cs.length == sz && cs.all oneC)) then 0 else 1
/-- 'x := v' of a struct: the block is laid, then filled. -/
theorem e_stn {T sz : Nat} (hi : infoT P T = true) (hs : szT P T = sz) (z cs : List Value) (hk : partsOk 1 [(stnI sz z cs, .bool true)] = true) :
    rStore P T (.pointer (some ⟨w.heap.size, 0, none⟩)) (.agg cs.toArray) (w.alloc (.cells z.toArray T)) = .ok .skip (w.alloc (.cells cs.toArray T)) := by
  have hb : (z.length == sz && (cs.length == sz && cs.all oneC)) = true := by
    cases hh : (z.length == sz && (cs.length == sz && cs.all oneC)) with
    | true => rfl
    | false => simp [partsOk, stnI, hh] at hk
  simp only [Bool.and_eq_true, beq_iff_eq, List.all_eq_true] at hb
  obtain ⟨hz, hc, h1⟩ := hb
  rw [run_storeVar P (w.alloc (.cells z.toArray T)) hi hs (cs := z) (by simpa [csz, Value.cells] using hc) (by simpa [Value.cells] using h1) (Blk.new w T z) (by omega)]
  have : (z.take 0 ++ (Value.agg cs.toArray).cells.toList ++ z.drop (0 + sz)).toArray = cs.toArray := by
    simp [Value.cells, List.drop_eq_nil_of_le (Nat.le_of_eq hz)]
  rw [this, setRow_new]

/-- A halt of the driver: what was laid is to be kept. -/
structure Stop (p : Prop) : Prop where
  out : p
theorem VC_stop {c : Code} {k : Exit → Env → World → Prop} {ρ : Env} {w : World} {o : Obj} (h : Stop (VC P c k ρ (w.alloc o))) : VC P c k ρ (w.alloc o) := h.out

def rMake (P : Program) (T : TypeId) (l c : Value) (w : World) : Result Next := ((Instr.makeSlice T l c).run P w).andThen fun v w' => .ok (.value v) w'
theorem o_makeSlice (ty T : TypeId) (ρ : Env) (l c : Operand) : rop P ty (.makeSlice T l c) ρ w = rMake P T (ev ρ l) (ev ρ c) w := by
  show (do pure (Next.value (← Instr.makeSlice T (ev ρ l) (ev ρ c))) : Sem Next).run P w = _
  simp [rMake]
/-- n zero elements. -/
def zeros (z : List Value) : Nat → List Value
  | 0 => []
  | n + 1 => z ++ zeros z n
theorem zeros_length (z : List Value) (n : Nat) : (zeros z n).length = n * z.length := by
  induction n with
  | zero => simp [zeros]
  | succ n ih => simp [zeros, ih, Nat.add_mul]; omega
theorem zeros_get (z : List Value) (hz : 0 < z.length) : ∀ (n i : Nat), i < n * z.length → (zeros z n)[i]? = z[i % z.length]?
  | 0, i, h => by simp at h
  | n + 1, i, h => by
    simp only [zeros]
    by_cases hi : i < z.length
    · rw [List.getElem?_append_left hi, Nat.mod_eq_of_lt hi]
    · rw [List.getElem?_append_right (by omega), zeros_get z hz n (i - z.length) (by rw [Nat.add_mul] at h; omega), Nat.mod_eq_sub_mod (a := i) (by omega)]
theorem e_make {T sz by_ : Nat} {zl : List Value} (k6 : kindT P T = 6) (hz : zeroT P (elT P T) = some zl) (hs : szT P (elT P T) = sz) (hzl : zl.length = sz) (hsz : 0 < sz) (hby : P.bytesOf (elT P T) = by_) (l c : Nat) (hlc : l ≤ c) (hb : by_ * c ≤ 281474976710656) (hm : c < 9223372036854775808) :
    rMake P T (.int .i64 l) (.int .i64 c) w = .ok (.value (.slice (some ⟨w.heap.size, 0, none⟩) l c)) (w.alloc (.cells (zeros zl c).toArray (elT P T))) := by
  obtain ⟨i, v, hii, hzz, hvz, hisz, hiby⟩ := zero_of hz
  have hu := (kind_int (P := P) (T := T)).2.2.2.2 k6
  have hw1 : IntKind.i64.wrap (l : Int) = l := wrapS (by omega) (by omega)
  have hw2 : IntKind.i64.wrap (c : Int) = c := wrapS (by omega) (by omega)
  rw [hs] at hisz
  rw [hby] at hiby
  have hbig : ¬ ((by_ : Int) * (c : Int) > 2 ^ 48) := by
    have : ((by_ * c : Nat) : Int) = (by_ : Int) * (c : Int) := by simp
    omega
  have hcell : (Array.range (c * sz)).map (fun j => v.cells[j % v.cells.size]!) = (zeros zl c).toArray := by
    apply Array.ext'
    apply List.ext_getElem?
    intro j
    by_cases hj : j < c * sz
    · have hj' : j < c * zl.length := by rw [hzl]; exact hj
      rw [zeros_get zl (by omega) c j hj']
      have hm : j % sz < zl.length := by rw [hzl]; exact Nat.mod_lt _ hsz
      simp [hj, hvz, hzl, List.getElem?_eq_getElem hm]
    · have : (zeros zl c).length ≤ j := by rw [zeros_length, hzl]; omega
      simp [hj, List.getElem?_eq_none this]
  have hneg1 : ¬ ((l : Int) < 0) := by omega
  have hneg2 : ¬ ((c : Int) < 0) := by omega
  have hgt : ¬ ((l : Int) > (c : Int)) := by omega
  unfold rMake Instr.makeSlice
  simp only [Sem.run_bind, run_underlying hu, Result.andThen_ok, asInt, asIntOf, Sem.run_pure, typeInfo, run_program, hii, hiby, hw1, hw2]
  simp only [hneg1, hneg2, hbig, hgt, decide_false, Bool.or_self, Bool.false_eq_true, if_false, Sem.run_bind, Sem.run_pure, Result.andThen_ok, run_askRoom, Int.toNat_natCast, sizeOf, typeInfo, run_program, hii, hisz, Sem.run_ite, zeroValue, hzz]
  by_cases h0 : c * sz = 0
  · rw [if_pos h0]
    have hz0 : zeros zl c = [] := List.eq_nil_of_length_eq_zero (by rw [zeros_length, hzl]; exact h0)
    simp [h0, hz0, newRow, show Array.range 0 = #[] from by decide]
  · rw [if_neg h0]
    simp only [Result.andThen_ok, newRow, Sem.run_bind, run_newObj, Sem.run_pure, hcell]
    rfl
end
end Go.Wf
