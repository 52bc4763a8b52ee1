/-  Data in the part of memory that stays: slices of flat structs.  -/
import Derived.Test.YbzaawGreatOpsF
namespace Go.Wf

def ablk (a : Option Addr) : Nat := (a.map Addr.block).getD 0
def aoff (a : Option Addr) : Nat := (a.map Addr.off).getD 0
/-- The head of a slice of n elements. -/
def IsA (a : Option Addr) (n : Nat) : Prop := n = 0 ∨ a = some ⟨ablk a, aoff a, none⟩
theorem ablk_some (b o : Nat) : ablk (some ⟨b, o, none⟩) = b := rfl
theorem aoff_some (b o : Nat) : aoff (some ⟨b, o, none⟩) = o := rfl
theorem IsA.some (b o n : Nat) : IsA (some ⟨b, o, none⟩) n := .inr rfl

theorem fe_ixo {P : Program} {T n : Nat} (h6 : kindT P T = 6) (he : infoT P (elT P T) = true) (hs : szT P (elT P T) = n) (a : Option Addr) (len c : Nat) (i : Int) (h0 : 0 ≤ i) (h1 : i < len) (ha : IsA a len) :
    rIdxA P T (.slice a len c) (.int .i64 i) = Result.ok (.value (.pointer (.some ⟨ablk a, aoff a + i.toNat * n, none⟩))) := by
  rcases ha with h | h
  · omega
  · rw [h]; exact fe_ixa P h6 he hs _ _ _ _ _ h0 h1

/-- The slice '.slice a n c' reads, in H, as the cells cs, sz to an element. -/
structure SlH (H : Heap) (sz : Nat) (a : Option Addr) (n : Nat) (cs : List Value) : Prop where
  len : cs.length = n * sz
  isA : IsA a n
  cell : ∀ j v, cs[j]? = some v → H (ablk a) (aoff a + j) = some v
theorem SlH.mono {H H' : Heap} {sz n : Nat} {a : Option Addr} {cs : List Value} (h : SlH H sz a n cs) (hl : HLe H H') : SlH H' sz a n cs := ⟨h.len, h.isA, fun j v e => hl _ _ _ (h.cell j v e)⟩
theorem SlH.nil (H : Heap) (sz : Nat) (a : Option Addr) : SlH H sz a 0 [] := ⟨by simp, .inl rfl, fun j v e => by simp at e⟩

/-- What a call has made becomes part of what stays. -/
theorem Own.keep {H : Heap} {w : World} {E sz n c : Nat} {a : Option Addr} {cs : List Value} (ho : Own w E sz a n c cs) (hH : HS H w) (hn : ∀ k, blkO a k → ∀ o, H k o = none) :
    ∃ H', HLe H H' ∧ HS H' w ∧ SlH H' sz a n cs ∧ (∀ k, ¬ blkO a k → ∀ o, H' k o = H k o) := by
  obtain ⟨hl, hf⟩ := ho.form
  rcases hf with ⟨rfl, rfl, rfl⟩ | ⟨g, cur, rfl, hg, h2, h3, h4, h5⟩
  · have : cs = [] := List.eq_nil_of_length_eq_zero (by simpa using hl)
    subst this
    exact ⟨H, HLe.refl H, hH, SlH.nil _ _ _, fun _ _ _ => rfl⟩
  · refine ⟨addH H g 0 cs, addH_le H g 0 cs (hn g (by simp [blkO])), addH_HS hH g 0 cs (fun j v e => by rw [Nat.zero_add]; exact ho.cell (by simp [blkO]) j v e), ⟨hl, IsA.some _ _ _, fun j v e => ?_⟩, fun k hk o => addH_ne _ _ _ _ (fun e => hk (by simp [blkO, e]))⟩
    have hj : j < cs.length := (List.getElem?_eq_some_iff.1 e).1
    rw [ablk_some, aoff_some, addH_at H g 0 cs j hj]; exact e

theorem flat_get {α : Type} (f : α → List Value) (sz : Nat) : ∀ (l : List α) (i j : Nat) (x : α), (∀ y, (f y).length = sz) → l[i]? = some x → j < sz → (l.flatMap f)[i * sz + j]? = (f x)[j]?
  | [], i, j, x, _, h, _ => by simp at h
  | y :: l, 0, j, x, hf, h, hj => by
    simp at h; subst h
    simp only [List.flatMap_cons, Nat.zero_mul, Nat.zero_add]
    rw [List.getElem?_append_left (by rw [hf]; exact hj)]
  | y :: l, i + 1, j, x, hf, h, hj => by
    have ih := flat_get f sz l i j x hf (by simpa using h) hj
    simp only [List.flatMap_cons]
    rw [List.getElem?_append_right (by rw [hf, Nat.add_mul]; omega), hf, show (i + 1) * sz + j - sz = i * sz + j by rw [Nat.add_mul]; omega]
    exact ih

/-- A walk over a region that draws: what is read lies in H. -/
theorem W_drawH {P : Program} {id : Nat} {l : List Oper} {k : Exit → Env → World → Prop} {ρ : Env} {w : World} {H : Heap} (hH : HS H w) (hB : drawB l.toArray = true) (hl : lastB l.toArray = true)
    (h : ∀ w1, Fr noB w w1 → HS H w1 → VD P (HS H) (l.map Oper.dst) (k .normal) l ρ w1) : VC P (.region id l.toArray true) k ρ w :=
  W_draw (HS H) hB hl hH.drew (h _ (Fr.refl noB w).drew hH.drew)
end Go.Wf
