/-  One cell of an owned list is written.  -/
import Derived.Test.YbzaawGreatMut
namespace Go.Wf
theorem Own.some_ {w : World} {E sz n c : Nat} {a : Option Addr} {cs : List Value} (h : Own w E sz a n c cs) (hn : 0 < n) : ∃ g, a = some ⟨g, 0, none⟩ := by
  rcases h.form.2 with ⟨_, rfl, _⟩ | ⟨g, cur, e, _⟩
  · omega
  · exact ⟨g, e⟩
/-- One cell of an owned list is written. -/
theorem V_storeO {T g o E sz n c : Nat} {v : Value} {cs : List Value} {ρ : Env} {next : Env → World → Prop} {P : Program} {w : World} (hi : infoT P T = true) (hs : szT P T = 1) (ho : Own w E sz (some ⟨g, 0, none⟩) n c cs) (h1 : oneC v = true) (hj : o < cs.length)
    (h : ∀ w', Own w' E sz (some ⟨g, 0, none⟩) n c (cs.set o v) → Fr (blkO (some ⟨g, 0, none⟩)) w w' → next ρ w') : VR P none ρ next (rStore P T (.pointer (some ⟨g, o, none⟩)) v w) := by
  obtain ⟨hl, h'⟩ := ho.form
  rcases h' with ⟨e, _⟩ | ⟨g', cur, e, hg, h2, h3, h4, h5⟩
  · cases e
  · cases e
    have hlen : cs.length ≤ cur.size := by rw [← h5]; simp; omega
    refine V_store1 hi hs (cs := cur.toList) (E := E) ⟨by simpa using hg⟩ h1 (by simp; omega) (fun w' hB hf => h w' (Own.mk' (by simpa using hl) hB.row h2 h3 (by simpa using h4) ?_) (hf.mono (fun k _ e => by simp [blkO, e])))
    rw [← h5]
    simp [List.take_set]
end Go.Wf
