/-  The bindings of a match are formulas.  -/
import Derived.Test.YbzaawMatchN
import Derived.Test.YbzaawMatchP
import Derived.Test.YbzaawSubstEv
namespace Go.Proofs.Ybzaaw
open Go.Wf Go.Deep
set_option linter.unusedSimpArgs false
set_option linter.unusedVariables false

def VN (s : ByteArray) : Prop := okName s ∧ s.size ≤ 65536
/-- A formula of small names, not too high, of at most B nodes. -/
def GQ (B : Nat) (u : FT) : Prop := Shape VN u ∧ thgt u ≤ 500 ∧ tsize u ≤ B
theorem shape_and {V W : ByteArray → Prop} {t : FT} (h : Shape V t) : Shape W t → Shape (fun s => V s ∧ W s) t := by
  refine Shape.ind (P := fun t => Shape W t → Shape (fun s => V s ∧ W s) t) ?_ ?_ ?_ ?_ t h
  · intro s hs hw
    rcases hw.2.2 with ⟨_, h, _⟩ | ⟨h, _⟩ | ⟨h, _⟩ | ⟨h, _⟩
    · exact shA ⟨hs, h⟩
    · have h' : (1 : Int) = 2 := h; omega
    · have h' : (1 : Int) = 3 := h; omega
    · have h' : (4 : Int) ≤ 1 := h; omega
  · intro _; exact shB0
  · intro t ht ih hw
    rcases hw.2.2 with ⟨h, _⟩ | ⟨h, _⟩ | ⟨_, _, h, _⟩ | ⟨h, _⟩
    · exact absurd h (by decide)
    · exact absurd h (by decide)
    · exact shN (ih h)
    · exact absurd h (by decide)
  · intro op l r h4 h7 hl hr ihl ihr hw
    rcases hw.2.2 with ⟨h, _⟩ | ⟨h, _⟩ | ⟨h, _⟩ | ⟨_, _, _, h1, h2⟩
    · have h' : op = 1 := h; omega
    · have h' : op = 2 := h; omega
    · have h' : op = 3 := h; omega
    · exact shB h4 h7 (ihl h1) (ihr h2)
theorem GQ.shape {B : Nat} {u : FT} (h : GQ B u) : Shape okName u := h.1.mono (fun _ e => e.1)
theorem GQ.small {B : Nat} {u : FT} (h : GQ B u) : Shape (fun s => s.size ≤ 65536) u := h.1.mono (fun _ e => e.2)
theorem GQ.k3 {B : Nat} (u : FT) (h : GQ B u) (h3 : topO u = 3) : GQ B (lk u) := by
  obtain ⟨e, hs⟩ := node_N h.1 h3
  obtain ⟨h1, h2, h5⟩ := h
  rw [e] at h2 h5
  rw [hg_N] at h2
  rw [sz_N] at h5
  exact ⟨hs, by omega, by omega⟩
theorem GQ.k4 {B : Nat} (u : FT) (h : GQ B u) (h4 : 4 ≤ topO u) : GQ B (lk u) ∧ GQ B (rk u) := by
  obtain ⟨e, hl, hr⟩ := node_B h.1 h4
  obtain ⟨h1, h2, h5⟩ := h
  rw [e] at h2 h5
  rw [hg_B] at h2
  rw [sz_B] at h5
  exact ⟨⟨hl, by omega, by omega⟩, ⟨hr, by omega, by omega⟩⟩
theorem bsOk_of {B : Nat} (hB : B ≤ 1048576) {bs : List BdA} (h : ∀ b ∈ bs, GQ B b.g) : BsOk bs :=
  ⟨fun b hb => ⟨(h b hb).shape, (h b hb).2.1⟩, fun b hb => Nat.le_trans (h b hb).2.2 hB, fun b hb i => Nat.le_trans (lay_small (h b hb).small (fun _ e => e) 0 i) (by omega)⟩
theorem ReadsS.gq {s : ByteArray} {t : FT} (h : ReadsS s t) : GQ 65536 t :=
  ⟨shape_and h.shape ((Reads.PA h).shape.mono (fun x ⟨j, hj⟩ => by rw [hj]; exact toksOf_text s j)), h.hgt, h.len⟩
theorem GQ.mono {B B' : Nat} {u : FT} (h : GQ B u) (hB : B ≤ B') : GQ B' u := ⟨h.1, h.2.1, Nat.le_trans h.2.2 hB⟩
/-- What a match gives, in one. -/
theorem match_all {B : Nat} {p t : FT} {W : ByteArray → Prop} (hp : Shape W p) (ht : GQ B t) {bs bs' : List BdA} (hb : ∀ b ∈ bs, GQ B b.g) (hm : matchF p t (bs.map BdA.key) = some (bs'.map BdA.key)) :
    (∀ b ∈ bs', GQ B b.g) ∧ substF bs' p = t ∧ bs.length ≤ bs'.length ∧ (bs'.take bs.length).map BdA.key = bs.map BdA.key := by
  obtain ⟨⟨e, he, hx⟩, hs⟩ := match_sub (Q := GQ B) (V := VN) (fun t h => h.1) GQ.k3 GQ.k4 hp t _ _ ht hm
  have hlen : bs'.length = bs.length + e.length := by have := congrArg List.length he; simpa using this
  refine ⟨fun b hb' => ?_, hs bs' ⟨[], by simp⟩, by omega, ?_⟩
  · have hk : b.key ∈ bs'.map BdA.key := List.mem_map_of_mem hb'
    rw [he] at hk
    rcases List.mem_append.1 hk with hk | hk
    · obtain ⟨b2, hb2, e2⟩ := List.mem_map.1 hk
      have : b2.g = b.g := congrArg Prod.snd e2
      rw [← this]; exact hb b2 hb2
    · exact hx _ hk
  · rw [List.map_take, he]
    have : bs.length = (bs.map BdA.key).length := by simp
    rw [this, List.take_left]
theorem BsH.take {H : Heap} {a : Option Addr} {n : Nat} {bs : List BdA} (h : BsH H a n bs) (k : Nat) (hk : k ≤ n) : BsH H a k (bs.take k) := by
  have hl := h.len
  have henc : encBs (bs.take k) = (encBs bs).take (k * 2) := by
    unfold encBs
    have : ∀ (l : List BdA) (k : Nat), (l.take k).flatMap BdA.enc = (l.flatMap BdA.enc).take (k * 2) := fun l => by
      induction l with
      | nil => intro k; simp
      | cons x r ih =>
        intro k
        cases k with
        | zero => simp
        | succ k =>
          simp only [List.take_succ_cons, List.flatMap_cons, ih k]
          rw [show (k + 1) * 2 = k * 2 + 1 + 1 by omega]
          simp [BdA.enc]
    exact this bs k
  refine ⟨by simp; omega, ⟨by rw [henc, List.length_take, h.sl.len]; omega, ?_, fun j v hv => ?_⟩, fun b hb => h.f b (List.mem_of_mem_take hb)⟩
  · rcases h.sl.isA with e | e
    · exact .inl (by omega)
    · exact .inr e
  · rw [henc] at hv
    refine h.sl.cell j v ?_
    rw [List.getElem?_take] at hv
    split at hv
    · exact hv
    · cases hv
theorem BsH.nil (H : Heap) : BsH H none 0 [] := ⟨rfl, SlH.nil _ _ _, fun _ h => (by cases h)⟩
theorem subXs_eq {bs : List BdA} {p t : FT} (h : substF bs p = t) (hz : tsize t ≤ 1000000) : subXs bs p = lay 0 t := by
  unfold subXs; rw [h, if_pos hz]
end Go.Proofs.Ybzaaw
