/-  Memory: what stays, what a call owns, what is laid anew.  -/
import Derived.Test.YbzaawGreatCtl
import Derived.RowKit3
import Derived.Laws.CopyRow
namespace Go.Wf

abbrev Heap := Nat → Nat → Option Value

/-- The cells of H lie in the world. -/
structure HS (H : Heap) (w : World) : Prop where
  cell : ∀ b o v, H b o = some v → w.cell? ⟨b, o, none⟩ = some v
def HLe (H H' : Heap) : Prop := ∀ b o v, H b o = some v → H' b o = some v
theorem HLe.refl (H : Heap) : HLe H H := fun _ _ _ h => h
theorem HLe.trans {A B C : Heap} (h : HLe A B) (h' : HLe B C) : HLe A C := fun b o v e => h' b o v (h b o v e)

/-- Nothing that was there has turned but the blocks in S. -/
structure Fr (S : Nat → Prop) (w w' : World) : Prop where
  os : w'.os = w.os
  output : w'.output = w.output
  size : w.heap.size ≤ w'.heap.size
  block : ∀ k, k < w.heap.size → ¬ S k → w'.heap[k]? = w.heap[k]?
  fz : ∀ a, w'.frozen? a = w.frozen? a

def noB : Nat → Prop := fun _ => False

theorem Fr.refl (S : Nat → Prop) (w : World) : Fr S w w := ⟨rfl, rfl, Nat.le_refl _, fun _ _ _ => rfl, fun _ => rfl⟩
theorem Fr.trans {S S' : Nat → Prop} {w w1 w2 : World} (h : Fr S w w1) (h' : Fr S' w1 w2) (hs : ∀ k, k < w.heap.size → S' k → S k) : Fr S w w2 :=
  ⟨h'.os.trans h.os, h'.output.trans h.output, Nat.le_trans h.size h'.size,
    fun k hk hn => (h'.block k (Nat.lt_of_lt_of_le hk h.size) (fun e => hn (hs k hk e))).trans (h.block k hk hn), fun a => (h'.fz a).trans (h.fz a)⟩
theorem Fr.mono {S S' : Nat → Prop} {w w1 : World} (h : Fr S w w1) (hs : ∀ k, k < w.heap.size → S k → S' k) : Fr S' w w1 :=
  ⟨h.os, h.output, h.size, fun k hk hn => h.block k hk (fun e => hn (hs k hk e)), h.fz⟩
theorem Fr.no {w w1 w2 : World} {S : Nat → Prop} (h : Fr S w w1) (h' : Fr noB w1 w2) : Fr S w w2 := h.trans h' fun _ _ e => e.elim
theorem Fr.drew {S : Nat → Prop} {w w1 : World} (h : Fr S w w1) : Fr S w { w1 with drawn := w1.drawn + 1 } := ⟨h.os, h.output, h.size, h.block, h.fz⟩
theorem Fr.alloc (S : Nat → Prop) (w : World) (c : Array Value) (t : TypeId) : Fr S w (w.alloc (.cells c t)) :=
  ⟨rfl, rfl, by simp, fun k hk _ => heap_alloc_old w _ k hk, fun a => RowKit.frozen?_alloc_cells w c t a⟩
theorem Fr.setRow (w : World) (g : Nat) (old cs : Array Value) (t : TypeId) (fr : Nat × Nat) (hg : w.heap[g]? = some (.cells old t fr)) : Fr (fun k => k = g) w (w.setRow g cs) := by
  refine ⟨rfl, rfl, by simp, fun k _ hk => setRow_other w g k cs hk, fun a => ?_⟩
  by_cases h : a.block = g
  · simp only [World.frozen?, h, setRow_heap w g old cs t fr hg, hg]
  · simp only [World.frozen?, setRow_other w g a.block cs h]
theorem Fr.grown {w w' : World} (h : Fr noB w w') : RowKit.Grown w w' := by
  refine ⟨⟨h.os, h.output, fun i hi => ?_⟩, h.fz, h.size⟩
  rw [h.block i hi (fun e => e)]
  cases hh : w.heap[i]? with
  | none => rfl
  | some o => cases o <;> simp

theorem HS.fr {H : Heap} {S : Nat → Prop} {w w' : World} (h : HS H w) (hf : Fr S w w') (hs : ∀ b, S b → ∀ o, H b o = none) : HS H w' := by
  refine ⟨fun b o v e => ?_⟩
  have hc := h.cell b o v e
  have hb : b < w.heap.size := World.block_lt_of_cell? w ⟨b, o, none⟩ hc
  have hn : ¬ S b := fun hS => by rw [hs b hS o] at e; cases e
  rw [← hc]
  exact World.cell?_of_block (hf.block b hb hn)
theorem HS.frN {H : Heap} {w w' : World} (h : HS H w) (hf : Fr noB w w') : HS H w' := h.fr hf fun _ e => e.elim
theorem HS.lt {H : Heap} {w : World} (h : HS H w) {b o : Nat} {v : Value} (e : H b o = some v) : b < w.heap.size :=
  World.block_lt_of_cell? w ⟨b, o, none⟩ (h.cell b o v e)
/-- A block that is not yet there bears no cell of H. -/
theorem HS.off {H : Heap} {w : World} (h : HS H w) {b : Nat} (hb : w.heap.size ≤ b) (o : Nat) : H b o = none := by
  cases e : H b o with
  | none => rfl
  | some v => have := h.lt e; omega
theorem HS.drew {H : Heap} {w : World} (h : HS H w) : HS H { w with drawn := w.drawn + 1 } := ⟨fun b o v e => h.cell b o v e⟩
/-- All that lies in the world. -/
def allH (w : World) : Heap := fun b o => w.cell? ⟨b, o, none⟩
theorem allH_HS (w : World) : HS (allH w) w := ⟨fun _ _ _ h => h⟩
def emptyH : Heap := fun _ _ => none
theorem emptyH_HS (w : World) : HS emptyH w := ⟨fun _ _ _ h => by cases h⟩

/-- H, and the cells cs from o on in block b. -/
def addH (H : Heap) (b o : Nat) (cs : List Value) : Heap := fun b' o' => if b' = b ∧ o ≤ o' ∧ o' < o + cs.length then cs[o' - o]? else H b' o'
theorem addH_at (H : Heap) (b o : Nat) (cs : List Value) (j : Nat) (h : j < cs.length) : addH H b o cs b (o + j) = cs[j]? := by
  unfold addH; rw [if_pos ⟨rfl, by omega, by omega⟩]; congr 1; omega
theorem addH_ne (H : Heap) (b o : Nat) (cs : List Value) {b' o' : Nat} (h : b' ≠ b) : addH H b o cs b' o' = H b' o' := by
  unfold addH; rw [if_neg (fun e => h e.1)]
theorem addH_le (H : Heap) (b o : Nat) (cs : List Value) (hn : ∀ j, H b j = none) : HLe H (addH H b o cs) := by
  intro b' o' v e
  by_cases hb : b' = b
  · subst hb; rw [hn] at e; cases e
  · rw [addH_ne _ _ _ _ hb]; exact e
theorem addH_HS {H : Heap} {w : World} (h : HS H w) (b o : Nat) (cs : List Value) (hc : ∀ j v, cs[j]? = some v → w.cell? ⟨b, o + j, none⟩ = some v) : HS (addH H b o cs) w := by
  refine ⟨fun b' o' v e => ?_⟩
  unfold addH at e
  split at e
  · rename_i hb
    obtain ⟨rfl, h1, _⟩ := hb
    have := hc _ _ e
    rwa [show o + (o' - o) = o' by omega] at this
  · exact h.cell _ _ _ e

/-! ### Values of one cell -/
def oneC : Value → Bool
  | .agg _ => false
  | .tuple _ => false
  | _ => true
theorem oneC_cells {v : Value} (h : oneC v = true) : v.cells = #[v] := by cases v <;> first | rfl | (simp [oneC] at h; done)
theorem oneC_cell' {v : Value} (h : oneC v = true) : v.oneCell' = true := by cases v <;> first | rfl | (simp [oneC] at h; done)
theorem oneC_int (k : IntKind) (n : Int) : oneC (.int k n) = true := rfl
theorem oneC_str (s : ByteArray) : oneC (.string s) = true := rfl
theorem oneC_bool (b : Bool) : oneC (.bool b) = true := rfl
theorem oneC_sl (a : Option Addr) (n c : Nat) : oneC (.slice a n c) = true := rfl
theorem oneC_ptr (a : Option Addr) : oneC (.pointer a) = true := rfl

/-! ### Struct literals -/
def setParts : List Value → List (Nat × Value) → List Value
  | z, [] => z
  | z, p :: r => setParts (z.set p.1 p.2) r
def partsOk (n : Nat) (parts : List (Nat × Value)) : Bool := parts.all fun p => decide (p.1 < n) && oneC p.2
def Built (P : Program) (T : TypeId) (z : List Value) : Prop := ∀ parts, partsOk z.length parts = true → P.built T parts = some (setParts z parts).toArray
theorem fill_flat (place : Nat → Option (Nat × Nat)) : ∀ (parts : List (Nat × Value)) (z : List Value), (∀ i, i < z.length → place i = some (i, 1)) → partsOk z.length parts = true →
    Instr.fill place z.toArray parts = some (setParts z parts).toArray
  | [], z, _, _ => rfl
  | (i, v) :: r, z, hp, hk => by
    simp only [partsOk, List.all_cons, Bool.and_eq_true, decide_eq_true_eq] at hk
    obtain ⟨⟨h1, h2⟩, h3⟩ := hk
    have ih := fill_flat place r (z.set i v) (by simpa using hp) (by simpa [partsOk] using h3)
    simp only [Instr.fill, hp i h1, oneC_cells h2, setParts]
    have hc : ¬ ((#[v].size ≠ 1 || decide (i + #[v].size > z.toArray.size)) = true) := by simp; omega
    rw [if_neg hc]
    simpa using ih
theorem built_of {P : Program} {T : TypeId} {z : List Value} (place : Nat → Option (Nat × Nat)) (h : ∀ parts, P.built T parts = Instr.fill place z.toArray parts) (hp : ∀ i, i < z.length → place i = some (i, 1)) : Built P T z :=
  fun parts hk => (h parts).trans (fill_flat place parts z hp hk)

section
variable (P : Program) (ty : TypeId) (ρ : Env) (w : World)
def rBuild (P : Program) (T : TypeId) (parts : List (Nat × Value)) (w : World) : Result Next := ((Instr.build T parts.toArray).run P w).andThen fun v w' => .ok (.value v) w'
theorem o_build (T : TypeId) (parts : List (Nat × Operand)) : rop P ty (.build T parts.toArray) ρ w = rBuild P T (parts.map fun p => (p.1, ev ρ p.2)) w := by
  show (do pure (Next.value (← Instr.build T (parts.toArray.map fun (i, x) => (i, ev ρ x)))) : Sem Next).run P w = _
  simp [rBuild]
theorem e_build {T : TypeId} {z : List Value} (h : Built P T z) (parts : List (Nat × Value)) (hk : partsOk z.length parts = true) : rBuild P T parts w = .ok (.value (.agg (setParts z parts).toArray)) w := by
  have := run_build (P := P) w T parts.toArray (setParts z parts).toArray (by simpa using h parts hk)
  simp [rBuild, this]
theorem sp_nil (z : List Value) : setParts z [] = z := rfl
theorem sp_cons (z : List Value) (i : Nat) (v : Value) (r : List (Nat × Value)) : setParts z ((i, v) :: r) = setParts (z.set i v) r := rfl
theorem pk_nil (n : Nat) : partsOk n [] = true := rfl
theorem pk_cons (n i : Nat) (v : Value) (r : List (Nat × Value)) (h1 : i < n) (h2 : oneC v = true) (h3 : partsOk n r = true) : partsOk n ((i, v) :: r) = true := by
  simp [partsOk, h1, h2]; simpa [partsOk] using h3

theorem pkE {n : Nat} {l : List (Nat × Value)} (h : partsOk n l = true) : partsOk n l = true := h
/-- The number of cells of a value. -/
def csz (v : Value) : Nat := v.cells.size
theorem cszE {v : Value} {n : Nat} (h : csz v = n) : csz v = n := h

def rBS (P : Program) (T : TypeId) (len : Nat) (parts : List (Nat × Value)) (w : World) : Result Next := ((Instr.buildSlice T len parts.toArray).run P w).andThen fun v w' => .ok (.value v) w'
theorem o_buildSlice (T : TypeId) (len : Nat) (parts : List (Nat × Operand)) : rop P ty (.buildSlice T len parts.toArray) ρ w = rBS P T len (parts.map fun p => (p.1, ev ρ p.2)) w := by
  show (do pure (Next.value (← Instr.buildSlice T len (parts.toArray.map fun (i, x) => (i, ev ρ x)))) : Sem Next).run P w = _
  simp [rBS]
end

theorem info_of {P : Program} {T : TypeId} (h : infoT P T = true) : ∃ i, P.info? T = some i ∧ i.size = szT P T ∧ i.bytes = P.bytesOf T := by
  obtain ⟨i, hi⟩ := Option.isSome_iff_exists.1 h
  exact ⟨i, hi, by simp [szT, Program.cellsOf, hi], by simp [Program.bytesOf, hi]⟩
theorem zero_of {P : Program} {T : TypeId} {z : List Value} (h : zeroT P T = some z) : ∃ i v, P.info? T = some i ∧ i.zero = some v ∧ v.cells = z.toArray ∧ i.size = szT P T ∧ i.bytes = P.bytesOf T := by
  unfold zeroT at h
  cases hi : P.info? T with
  | none => simp [hi] at h
  | some i =>
    cases hz : i.zero with
    | none => simp [hi, hz] at h
    | some v => simp [hi, hz] at h; exact ⟨i, v, rfl, hz, by rw [← h], by simp [szT, Program.cellsOf, hi], by simp [Program.bytesOf, hi]⟩

/-- Cells written over a row. -/
theorem set_cut (l : List Value) (n : Nat) (c : Value) (cs : List Value) (h : n < l.length) :
    (l.set n c).take (n + 1) ++ cs ++ (l.set n c).drop (n + 1 + cs.length) = l.take n ++ (c :: cs) ++ l.drop (n + (cs.length + 1)) := by
  obtain ⟨p, x, q, rfl, rfl⟩ : ∃ p x q, l = p ++ x :: q ∧ n = p.length := ⟨l.take n, l[n], l.drop (n + 1), by simp, by simp; omega⟩
  have e1 : (p ++ x :: q).set p.length c = p ++ c :: q := by simp
  rw [e1]
  have e2 : (p ++ c :: q).take (p.length + 1) = p ++ [c] := by rw [List.take_append, List.take_of_length_le (by omega)]; simp
  have e3 : ∀ y : Value, (p ++ y :: q).drop (p.length + 1 + cs.length) = q.drop cs.length := fun y => by
    rw [List.drop_append, List.drop_eq_nil_of_le (by omega), show p.length + 1 + cs.length - p.length = cs.length + 1 by omega]; simp
  rw [e2, e3 c, show p.length + (cs.length + 1) = p.length + 1 + cs.length by omega, e3 x]
  simp
theorem zip_fold (cs : List Value) : ∀ (k off : Nat) (a : Array Value), off + k + cs.length ≤ a.size →
    (cs.zipIdx k).foldl (fun (b : Array Value) (x : Value × Nat) => b.setIfInBounds (off + x.2) x.1) a = (a.toList.take (off + k) ++ cs ++ a.toList.drop (off + k + cs.length)).toArray := by
  induction cs with
  | nil => intro k off a h; simp
  | cons c cs ih =>
    intro k off a h
    simp only [List.zipIdx_cons, List.foldl_cons]
    simp only [List.length_cons] at h
    rw [ih (k + 1) off _ (by simp; omega)]
    congr 1
    simp only [Array.toList_setIfInBounds, List.length_cons]
    have hlt : off + k < a.toList.length := by rw [Array.length_toList]; omega
    exact set_cut a.toList (off + k) c cs hlt

def partsFrom (k : Nat) : List Value → List (Nat × Value)
  | [] => []
  | v :: r => (k, v) :: partsFrom (k + 1) r
def rowCells (vs : List Value) : List Value := vs.flatMap fun v => v.cells.toList
theorem fill_row (sz : Nat) : ∀ (vs : List Value) (k : Nat) (l : List Value), (∀ v ∈ vs, v.cells.size = sz) → (k + vs.length) * sz ≤ l.length →
    Instr.fill (fun i => some (i * sz, sz)) l.toArray (partsFrom k vs) = some (l.take (k * sz) ++ rowCells vs ++ l.drop ((k + vs.length) * sz)).toArray
  | [], k, l, _, _ => by simp [partsFrom, Instr.fill, rowCells]
  | v :: r, k, l, hv, hl => by
    have h1 := hv v (by simp)
    simp only [List.length_cons] at hl
    have hm : (k + (r.length + 1)) * sz = k * sz + sz + r.length * sz := by rw [Nat.add_mul, Nat.add_mul, Nat.one_mul]; omega
    rw [hm] at hl
    simp only [partsFrom, Instr.fill, h1]
    have hc : ¬ ((decide (sz ≠ sz) || decide (k * sz + sz > l.toArray.size)) = true) := by simp; omega
    rw [if_neg (by simpa using hc)]
    have hz := zip_fold v.cells.toList 0 (k * sz) l.toArray (by simp [h1]; omega)
    rw [← Array.foldl_toList, Array.toList_zipIdx]
    simp only [Nat.add_zero] at hz
    rw [hz]
    simp only [Array.length_toList, h1]
    have ih := fill_row sz r (k + 1) (l.take (k * sz) ++ v.cells.toList ++ l.drop (k * sz + sz)) (fun u hu => hv u (by simp [hu]))
      (by simp [h1, Nat.add_mul]; omega)
    have e0 : (k + 1) * sz = k * sz + sz := by rw [Nat.add_mul, Nat.one_mul]
    have e1 : (l.take (k * sz) ++ v.cells.toList).length = k * sz + sz := by simp [h1]; omega
    have e2 : (k + 1 + r.length) * sz = k * sz + sz + r.length * sz := by rw [Nat.add_mul, e0]
    refine ih.trans ?_
    congr 2
    rw [e0, e2, show k + (v :: r).length = k + (r.length + 1) from rfl, hm, List.take_append_of_le_length (by omega), List.take_of_length_le (by omega),
      List.drop_append, List.drop_eq_nil_of_le (by omega), e1, List.drop_drop]
    simp [rowCells, List.append_assoc]

section
variable (P : Program) (w : World)
theorem e_bs {T sz : Nat} (vs : List Value) (k6 : kindT P T = 6) (hi : infoT P (elT P T) = true) (hz : (zeroT P (elT P T)).isSome = true) (hs : szT P (elT P T) = sz) (hv : ∀ v ∈ vs, v.cells.size = sz) (hb : vs.length * sz ≤ 16777216) :
    rBS P T vs.length (partsFrom 0 vs) w = .ok (.value (.slice (some ⟨w.heap.size, 0, none⟩) vs.length vs.length)) (w.alloc (.cells (rowCells vs).toArray (elT P T))) := by
  obtain ⟨z, hz⟩ := Option.isSome_iff_exists.1 hz
  obtain ⟨i, v, hii, hzz, hvz, hsz, _⟩ := zero_of hz
  have hu := (kind_int (P := P) (T := T)).2.2.2.2 k6
  have hb' : ¬ (vs.length * sz > 2 ^ 24) := by omega
  have hf : ∀ init : List Value, init.length = vs.length * sz → Instr.fill (fun i => some (i * sz, sz)) init.toArray (partsFrom 0 vs) = some (rowCells vs).toArray := fun init h => by
    rw [fill_row sz vs 0 init hv (by rw [Nat.zero_add]; omega)]
    simp [List.drop_eq_nil_of_le (Nat.le_of_eq h)]
  unfold rBS Instr.buildSlice
  simp only [Sem.run_bind, run_underlying hu, Result.andThen_ok, run_sizeOf hi, hs, Sem.run_ite, hb', if_false]
  have hr : ∀ a : Array Value, a.size = vs.length * sz → Instr.fill (fun i => some (i * sz, sz)) a (partsFrom 0 vs).toArray.toList = some (rowCells vs).toArray := fun a ha => by
    have := hf a.toList (by simpa using ha); simpa using this
  by_cases h0 : vs.length * sz = 0
  · rw [if_pos h0]
    simp only [Sem.run_pure, Result.andThen_ok]
    rw [hr _ (by simp)]
    simp [newRow]
  · rw [if_neg h0]
    simp only [Sem.run_bind, zeroValue, typeInfo, run_program, Result.andThen_ok, hii, hzz, Sem.run_pure]
    rw [hr _ (by simp)]
    simp [newRow]
end

/-! ### Cuts of strings -/
section
variable (P : Program) (ty : TypeId) (ρ : Env) (w : World)
def rSl (P : Program) (T : TypeId) (x : Value) (lo hi mx : Option Value) (w : World) : Result Next := ((Instr.sliceAt T x lo hi mx).run P w).andThen fun v w' => .ok (.value v) w'
theorem o_slice (T : TypeId) (x : Operand) (lo hi mx : Option Operand) : rop P ty (.slice T x lo hi mx) ρ w = rSl P T (ev ρ x) (lo.map (ev ρ)) (hi.map (ev ρ)) (mx.map (ev ρ)) w := by
  show (do pure (Next.value (← Instr.sliceAt T (ev ρ x) (lo.map (ev ρ)) (hi.map (ev ρ)) (mx.map (ev ρ)))) : Sem Next).run P w = _
  simp [rSl]
theorem e_slS {T : TypeId} (h : kindT P T = 5) (s : ByteArray) (l r : Int) (h0 : 0 ≤ l) (h1 : l ≤ r) (h2 : r ≤ s.size) :
    rSl P T (.string s) (some (.int .i64 l)) (some (.int .i64 r)) none w = .ok (.value (.string (s.extract l.toNat r.toNat))) w := by
  have hu := (kind_int (P := P) (T := T)).2.2.2.1 h
  have e1 : 0 ≤ r ∧ r ≤ (s.size : Int) := ⟨by omega, h2⟩
  have e2 : 0 ≤ l ∧ l ≤ ((r.toNat : Nat) : Int) := ⟨h0, by omega⟩
  have e3 : ¬ (max r 0 < l) := by omega
  simp [rSl, Instr.sliceAt, Instr.slice, run_underlying hu, Instr.sliceBounds, Instr.sliceBound, asIntOf, e1, e2]
  intro h; exact absurd h e3
theorem e_slSl {T : TypeId} (h : kindT P T = 5) (s : ByteArray) (l : Int) (h0 : 0 ≤ l) (h1 : l ≤ s.size) :
    rSl P T (.string s) (some (.int .i64 l)) none none w = .ok (.value (.string (s.extract l.toNat s.size))) w := by
  have hu := (kind_int (P := P) (T := T)).2.2.2.1 h
  have e2 : 0 ≤ l ∧ l ≤ (s.size : Int) := ⟨h0, h1⟩
  simp [rSl, Instr.sliceAt, Instr.slice, run_underlying hu, Instr.sliceBounds, Instr.sliceBound, asIntOf, e2]
theorem e_slSr {T : TypeId} (h : kindT P T = 5) (s : ByteArray) (r : Int) (h0 : 0 ≤ r) (h1 : r ≤ s.size) :
    rSl P T (.string s) none (some (.int .i64 r)) none w = .ok (.value (.string (s.extract 0 r.toNat))) w := by
  have hu := (kind_int (P := P) (T := T)).2.2.2.1 h
  have e2 : 0 ≤ r ∧ r ≤ (s.size : Int) := ⟨h0, h1⟩
  simp [rSl, Instr.sliceAt, Instr.slice, run_underlying hu, Instr.sliceBounds, Instr.sliceBound, asIntOf, e2]
end
/-- One struct, or one value, as a row of one element. -/
theorem e_bs1 (P : Program) (w : World) {T sz : Nat} {zl : List Value} (k6 : kindT P T = 6) (hi : infoT P (elT P T) = true) (hz : zeroT P (elT P T) = some zl) (hs : szT P (elT P T) = sz) (hsm : sz ≤ 16777216) (v : Value) (hv : csz v = sz) :
    rBS P T 1 [(0, v)] w = .ok (.value (.slice (some ⟨w.heap.size, 0, none⟩) 1 1)) (w.alloc (.cells v.cells.toList.toArray (elT P T))) := by
  have := e_bs P w (T := T) (sz := sz) [v] k6 hi (by rw [hz]; rfl) hs (by simpa [csz] using hv) (by simpa using hsm)
  simpa [partsFrom, rowCells] using this
theorem e_bs0 (P : Program) (w : World) {T sz : Nat} {zl : List Value} (k6 : kindT P T = 6) (hi : infoT P (elT P T) = true) (hz : zeroT P (elT P T) = some zl) (hs : szT P (elT P T) = sz) :
    rBS P T 0 [] w = .ok (.value (.slice (some ⟨w.heap.size, 0, none⟩) 0 0)) (w.alloc (.cells #[] (elT P T))) := by
  have := e_bs P w (T := T) (sz := sz) [] k6 hi (by rw [hz]; rfl) hs (by simp) (by simp)
  simpa [partsFrom, rowCells] using this
theorem c_agg (cs : List Value) : (Value.agg cs.toArray).cells.toList = cs := rfl
theorem c_int (k : IntKind) (n : Int) : (Value.int k n).cells.toList = [.int k n] := rfl
theorem c_str (s : ByteArray) : (Value.string s).cells.toList = [.string s] := rfl
theorem c_bool (b : Bool) : (Value.bool b).cells.toList = [.bool b] := rfl
theorem c_sl (a : Option Addr) (n c : Nat) : (Value.slice a n c).cells.toList = [.slice a n c] := rfl
theorem z_agg (cs : List Value) : (Value.agg cs.toArray).cells.size = cs.length := rfl
theorem z_int (k : IntKind) (n : Int) : (Value.int k n).cells.size = 1 := rfl
theorem z_str (s : ByteArray) : (Value.string s).cells.size = 1 := rfl
theorem z_bool (b : Bool) : (Value.bool b).cells.size = 1 := rfl
theorem z_sl (a : Option Addr) (n c : Nat) : (Value.slice a n c).cells.size = 1 := rfl

end Go.Wf
