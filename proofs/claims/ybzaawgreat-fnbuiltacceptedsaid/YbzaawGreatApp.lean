/-  Slices that a call owns; append.  -/
import Derived.Test.YbzaawGreatMem
namespace Go.Wf

/-- The slice value '.slice a n c' owns its row: the cells xs, at the head of a block of its own (or it is nil). -/
structure Own (w : World) (E sz : Nat) (a : Option Addr) (n c : Nat) (xs : List Value) : Prop where
  row : w.ownsRow 0 E sz (.slice a n c) n xs
def blkO (a : Option Addr) : Nat → Prop := fun k => a.map Addr.block = some k

theorem blkO_none (k : Nat) : ¬ blkO none k := by simp [blkO]
theorem Own.form {w : World} {E sz n c : Nat} {a : Option Addr} {xs : List Value} (h : Own w E sz a n c xs) :
    xs.length = n * sz ∧ ((a = none ∧ n = 0 ∧ c = 0) ∨ ∃ g cur, a = some ⟨g, 0, none⟩ ∧ w.heap[g]? = some (.cells cur E (0, 0)) ∧ n ≤ c ∧ c ≤ maxLen ∧ cur.size = c * sz ∧ cur.toList.take (n * sz) = xs) := by
  refine ⟨h.row.1, ?_⟩
  rcases h.row.2 with ⟨e, h0⟩ | ⟨g, cap, cur, e, _, h1, h2, h3, h4, h5⟩
  · simp at e; exact .inl ⟨e.1, e.2.1, e.2.2⟩
  · simp at e
    obtain ⟨rfl, rfl⟩ := e
    exact .inr ⟨g, cur, rfl, h1, h2, h3, h4, h5⟩
theorem Own.nil (w : World) (E sz : Nat) : Own w E sz none 0 0 [] := ⟨World.ownsRow_nil w 0 E sz⟩
theorem Own.mk' {w : World} {E sz n c g : Nat} {xs : List Value} {cur : Array Value} (hl : xs.length = n * sz) (h1 : w.heap[g]? = some (.cells cur E (0, 0))) (h2 : n ≤ c) (h3 : c ≤ maxLen) (h4 : cur.size = c * sz) (h5 : cur.toList.take (n * sz) = xs) :
    Own w E sz (some ⟨g, 0, none⟩) n c xs := ⟨⟨hl, .inr ⟨g, c, cur, rfl, Nat.zero_le _, h1, h2, h3, h4, h5⟩⟩⟩
theorem Own.lt {w : World} {E sz n c : Nat} {a : Option Addr} {xs : List Value} (h : Own w E sz a n c xs) {k : Nat} (hk : blkO a k) : k < w.heap.size := by
  rcases h.form.2 with ⟨rfl, _⟩ | ⟨g, cur, rfl, hg, _⟩
  · exact absurd hk (blkO_none k)
  · simp [blkO] at hk; subst hk; exact (Array.getElem?_eq_some_iff.1 hg).1
theorem Own.fr {w w' : World} {S : Nat → Prop} {E sz n c : Nat} {a : Option Addr} {xs : List Value} (h : Own w E sz a n c xs) (hf : Fr S w w') (hs : ∀ k, blkO a k → ¬ S k) : Own w' E sz a n c xs := by
  obtain ⟨hl, h⟩ := h.form
  rcases h with ⟨rfl, rfl, rfl⟩ | ⟨g, cur, rfl, hg, h2, h3, h4, h5⟩
  · have : xs = [] := List.eq_nil_of_length_eq_zero (by simpa using hl)
    subst this; exact Own.nil w' E sz
  · exact Own.mk' hl ((hf.block g (Array.getElem?_eq_some_iff.1 hg).1 (hs g (by simp [blkO]))).trans hg) h2 h3 h4 h5
theorem Own.frN {w w' : World} {E sz n c : Nat} {a : Option Addr} {xs : List Value} (h : Own w E sz a n c xs) (hf : Fr noB w w') : Own w' E sz a n c xs := h.fr hf fun _ _ e => e
theorem Own.cell {w : World} {E sz n c : Nat} {a : Option Addr} {xs : List Value} (h : Own w E sz a n c xs) {g : Nat} (hg : blkO a g) (j : Nat) (u : Value) (hu : xs[j]? = some u) : w.cell? ⟨g, j, none⟩ = some u := by
  obtain ⟨hl, h⟩ := h.form
  rcases h with ⟨rfl, rfl, rfl⟩ | ⟨g', cur, rfl, hgg, h2, h3, h4, h5⟩
  · exact absurd hg (blkO_none g)
  · simp [blkO] at hg; subst hg
    rw [cell_of_row w g' j cur E (0, 0) hgg]
    rw [← h5, List.getElem?_take] at hu
    split at hu
    · simpa using hu
    · cases hu

def strCells (s : ByteArray) : List Value := s.data.toList.map fun b => .int .u8 b.toNat
theorem strCells_length (s : ByteArray) : (strCells s).length = s.size := by simp [strCells]

def rApp (P : Program) (T T' : TypeId) (s x : Value) (w : World) : Result Next := ((Builtin.append_ #[T, T'] 0 #[s, x]).run P w).andThen fun v w' => .ok (.value v) w'

section
variable (P : Program) (ty : TypeId) (ρ : Env) (w : World)
theorem o_append (T T' : TypeId) (s x : Operand) : rop P ty (.call { callee := .builtin .append, args := #[s, x], argTypes := #[T, T'] }) ρ w = rApp P T T' (ev ρ s) (ev ρ x) w := by
  show (do let d ← resolve (ev ρ) { callee := .builtin .append, args := #[s, x], argTypes := #[T, T'] } ty; invoke d.target d.args : Sem Next).run P w = _
  simp [resolve, invoke, builtin, rApp]
  rfl
end

section
variable {P : Program} {w : World}

/-- What append does with its second argument. -/
structure Src (P : Program) (w : World) (sz : Nat) (T' : TypeId) (x : Value) (news : List Value) (m : Nat) : Prop where
  len : ∀ w, (Builtin.lenOf x).run P w = .ok m w
  cells : (Builtin.firstCells sz m x).run P w = .ok news.toArray w
  cellsD : (Builtin.firstCells sz m x).run P w.drew = .ok news.toArray w.drew
  kind : P.underlying T' = some .string ∨ ∃ e, P.underlying T' = some (.slice e)

theorem Src.slice {sz T' m c : Nat} {news : List Value} (h6 : kindT P T' = 6) (ad : Addr) (hl : news.length = m * sz) (hn : ∀ j u, news[j]? = some u → w.cell? (ad.add j) = some u) :
    Src P w sz T' (.slice (some ad) m c) news m :=
  ⟨fun _ => by simp [Builtin.lenOf], run_firstCells_some w sz m ad m c news hl hn, run_firstCells_some w.drew sz m ad m c news hl (by simpa using hn), .inr ⟨_, (kind_int (P := P)).2.2.2.2 h6⟩⟩
theorem Src.nil {sz T' c : Nat} (h6 : kindT P T' = 6) : Src P w sz T' (.slice none 0 c) [] 0 :=
  ⟨fun _ => by simp [Builtin.lenOf], by simp [Builtin.firstCells], by simp [Builtin.firstCells], .inr ⟨_, (kind_int (P := P)).2.2.2.2 h6⟩⟩
theorem Src.string {T' : Nat} (s : ByteArray) (h5 : kindT P T' = 5) : Src P w 1 T' (.string s) (strCells s) s.size := by
  have e : s.extract 0 s.size = s := by simp
  refine ⟨fun _ => by simp [Builtin.lenOf], ?_, ?_, .inl ((kind_int (P := P)).2.2.2.1 h5)⟩
  · simp only [Builtin.firstCells, e, Sem.run_pure]
    congr 1
    apply Array.ext'; simp [strCells]
  · simp only [Builtin.firstCells, e, Sem.run_pure]
    congr 1
    apply Array.ext'; simp [strCells]

theorem run_app_room {T T' E sz n c m : Nat} {a : Option Addr} {x : Value} {news : List Value} {i : TypeInfo} (ht : P.underlying T = some (.slice E)) (hi : P.info? E = some i) (hisz : i.size = sz)
    (hx : Src P w sz T' x news m) (hroom : n + m ≤ c) :
    (Builtin.append_ #[T, T'] 0 #[.slice a n c, x]).run P w =
      (((match a with | some ad => storeCells (ad.add (n * sz)) news | none => pure ()) : Sem Unit).run P w).andThen fun _ w' => .ok (.slice a (n + m) c) w' := by
  have hl := hx.len
  have hc := hx.cells
  rcases hx.kind with h | ⟨e, h⟩ <;> cases a <;> simp [Builtin.append_, run_underlying ht, run_underlying h, sizeOf, typeInfo, hi, hisz, hl, hroom, hc]

theorem run_app_grow {T T' E sz by_ n c m : Nat} {a : Option Addr} {x z : Value} {xs news : List Value} {i : TypeInfo} (ht : P.underlying T = some (.slice E)) (hi : P.info? E = some i) (hisz : i.size = sz) (hiby : i.bytes = by_) (hzz : i.zero = some z)
    (hx : Src P w sz T' x news m) (hroom : ¬ n + m ≤ c) (h63 : n + m ≤ 9223372036854775807) (h48 : Builtin.nextslicecap (n + m) c * by_ ≤ 281474976710656) (hfo : (Builtin.firstCells sz n (.slice a n c)).run P w.drew = .ok xs.toArray w.drew) :
    (Builtin.append_ #[T, T'] 0 #[.slice a n c, x]).run P w =
      .ok (.slice (some ⟨w.heap.size, 0, none⟩) (n + m) (grownCap w (n + m) c E)) (w.drew.alloc (.cells (xs.toArray ++ news.toArray ++ Builtin.zeroCells z.cells (grownCap w (n + m) c E - (n + m))) E)) := by
  have hl := hx.len
  have hcd := hx.cellsD
  have h63' : ¬ (9223372036854775807 < ((n : Int) + (m : Int))) := by omega
  have h48' : ¬ (281474976710656 < Builtin.nextslicecap (n + m) c * by_) := by omega
  rcases hx.kind with h | ⟨e, h⟩ <;> simp [Builtin.append_, run_underlying ht, run_underlying h, sizeOf, typeInfo, zeroValue, hi, hzz, hisz, hiby, hl, hroom, h63', h48', Question.forced, hcd, hfo, newRow, grownCap] <;> (congr 2; apply Array.ext'; simp)

theorem app_core {T T' E sz by_ n c m : Nat} {a : Option Addr} {x : Value} {xs news zl : List Value} (h6 : kindT P T = 6) (he : elT P T = E) (hz : zeroT P (elT P T) = some zl) (hzl : zl.length = sz)
    (hs : szT P (elT P T) = sz) (hb : P.bytesOf (elT P T) = by_) (hown : Own w E sz a n c xs) (hx : Src P w sz T' x news m) (hl : news.length = m * sz) (h1 : ∀ u ∈ news, oneC u = true)
    (h63 : n + m ≤ maxLen) (hbd : (n + m) * by_ ≤ 140737488355328) :
    ∃ a' c' w', (Builtin.append_ #[T, T'] 0 #[.slice a n c, x]).run P w = .ok (.slice a' (n + m) c') w' ∧ Own w' E sz a' (n + m) c' (xs ++ news) ∧ Fr (blkO a) w w' ∧ (∀ k, blkO a' k → blkO a k ∨ w.heap.size ≤ k) := by
  have ht := (kind_int (P := P) (T := T)).2.2.2.2 h6
  obtain ⟨i, z, hi, hzz, hzc, hisz, hiby⟩ := zero_of hz
  rw [hs] at hisz
  rw [hb] at hiby
  rw [he] at ht hi
  have hzsz : z.cells.size = sz := by rw [hzc]; simpa using hzl
  have hlenx : (xs ++ news).length = (n + m) * sz := by rw [List.length_append, hown.form.1, hl, Nat.add_mul]
  have hsmall : n + m ≤ 9223372036854775807 := by simpa [maxLen] using h63
  -- the grown row
  have grown : ∀ (old : Nat), old < n + m → ∀ S : Nat → Prop,
      Own (w.drew.alloc (.cells (xs.toArray ++ news.toArray ++ Builtin.zeroCells z.cells (grownCap w (n + m) old E - (n + m))) E)) E sz (some ⟨w.heap.size, 0, none⟩) (n + m) (grownCap w (n + m) old E) (xs ++ news) ∧
      Fr S w (w.drew.alloc (.cells (xs.toArray ++ news.toArray ++ Builtin.zeroCells z.cells (grownCap w (n + m) old E - (n + m))) E)) := by
    intro old ho S
    have hge := grownCap_ge w (n + m) old E
    have hcm : grownCap w (n + m) old E ≤ maxLen := grownCap_le_maxLen w (n + m) old E h63
    refine ⟨Own.mk' hlenx (heap_alloc_new w.drew _) hge hcm ?_ ?_, ((Fr.refl S w).drew).trans (Fr.alloc noB w.drew _ _) (fun _ _ e => e.elim)⟩
    · simp only [Array.size_append, List.size_toArray, size_zeroCells, hzsz, hown.form.1, hl, ← Nat.add_mul]
      congr 1; omega
    · simp only [Array.toList_append, List.append_assoc]
      rw [← List.append_assoc, ← hlenx]
      exact List.take_left
  by_cases hroom : n + m ≤ c
  · -- room
    rcases hown.form.2 with ⟨rfl, rfl, rfl⟩ | ⟨g, cur, rfl, hg, hnc, hcm, hcs, htake⟩
    · have hm : m = 0 := by omega
      subst hm
      have hx0 : xs = [] := List.eq_nil_of_length_eq_zero (by simpa using hown.form.1)
      have hn0 : news = [] := List.eq_nil_of_length_eq_zero (by simpa using hl)
      subst hx0; subst hn0
      refine ⟨none, 0, w, ?_, by simpa using Own.nil w E sz, Fr.refl _ _, fun k hk => absurd hk (blkO_none k)⟩
      rw [run_app_room ht hi hisz hx hroom]; rfl
    · have hfit : n * sz + news.length ≤ cur.size := by rw [hl, hcs, ← Nat.add_mul]; exact Nat.mul_le_mul_right _ hroom
      have hst := run_storeCells_at P g (n * sz) E news 0 cur w hg (by simpa using hfit) (fun v hv => oneC_cell' (h1 v hv))
      simp only [Nat.add_zero] at hst
      refine ⟨some ⟨g, 0, none⟩, c, w.setRow g (cur.toList.take (n * sz) ++ news ++ cur.toList.drop (n * sz + news.length)).toArray, ?_, Own.mk' hlenx (setRow_heap w g cur _ E _ hg) hroom hcm ?_ ?_, (Fr.setRow w g cur _ E _ hg).mono (fun k _ e => by simp [blkO, e]), fun k hk => .inl hk⟩
      · rw [run_app_room ht hi hisz hx hroom]
        simp only [add_mk, Nat.zero_add, hst, Result.andThen_ok]
      · simp only [List.size_toArray, List.length_append, List.length_take, List.length_drop, Array.length_toList]
        omega
      · rw [htake, ← hlenx]
        exact List.take_left
  · -- it grows
    have hfitB : Builtin.nextslicecap (n + m) c * by_ ≤ 281474976710656 := growslice_fits (by omega) hbd
    have hgr := grown c (by omega) (blkO a)
    refine ⟨some ⟨w.heap.size, 0, none⟩, _, _, ?_, hgr.1, hgr.2, fun k hk => .inr (by simp [blkO] at hk; omega)⟩
    have hfo : (Builtin.firstCells sz n (.slice a n c)).run P w.drew = .ok xs.toArray w.drew := by
      rcases hown.form.2 with ⟨rfl, rfl, rfl⟩ | ⟨g, cur, rfl, hg, hnc, hcm, hcs, htake⟩
      · have hx0 : xs = [] := List.eq_nil_of_length_eq_zero (by simpa using hown.form.1)
        subst hx0; simp [Builtin.firstCells]
      · refine run_firstCells_some w.drew sz n ⟨g, 0, none⟩ n c xs hown.form.1 (fun j v hv => ?_)
        rw [add_mk, Nat.zero_add]
        have := hown.cell (g := g) (by simp [blkO]) j v hv
        simpa using this
    exact run_app_grow ht hi hisz hiby hzz hx hroom hsmall hfitB hfo

/-- append of elements that were laid in a block of their own right before. -/
theorem V_app {d : Tmp} {ρ : Env} {next : Env → World → Prop} {T E sz by_ n c m c2 : Nat} {a : Option Addr} {xs news zl : List Value} (h6 : kindT P T = 6) (he : elT P T = E) (hz : zeroT P (elT P T) = some zl) (hzl : zl.length = sz)
    (hs : szT P (elT P T) = sz) (hb : P.bytesOf (elT P T) = by_) (hown : Own w E sz a n c xs) (hl : news.length = m * sz) (h1 : ∀ u ∈ news, oneC u = true)
    (h63 : n + m ≤ maxLen) (hbd : (n + m) * by_ ≤ 140737488355328)
    (hk : ∀ a' c' w', Own w' E sz a' (n + m) c' (xs ++ news) → Fr (blkO a) w w' → (∀ k, blkO a' k → blkO a k ∨ w.heap.size ≤ k) → next (upd ρ d (.slice a' (n + m) c')) w') :
    VR P (some d) ρ next (rApp P T T (.slice a n c) (.slice (some ⟨w.heap.size, 0, none⟩) m c2) (w.alloc (.cells news.toArray E))) := by
  have hf : Fr noB w (w.alloc (.cells news.toArray E)) := Fr.alloc noB w _ _
  obtain ⟨a', c', w', hr, ho, hfr, hnew⟩ := app_core (P := P) (w := w.alloc (.cells news.toArray E)) h6 he hz hzl hs hb (hown.frN hf)
    (Src.slice (c := c2) h6 ⟨w.heap.size, 0, none⟩ hl (fun j u hu => by
      rw [add_mk, Nat.zero_add, World.cell?_alloc_new]; simpa using hu)) hl h1 h63 hbd
  refine ⟨?_⟩
  unfold rApp
  rw [hr]
  refine hk a' c' w' ho (hf.mono (fun _ _ e => e.elim) |>.trans hfr (fun k _ e => e)) (fun k hk => (hnew k hk).imp id (fun h => ?_))
  simp at h; omega
end

end Go.Wf
