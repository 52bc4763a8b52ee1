/-  Rows of bytes: append of a string, bytes turned to a string.  -/
import Derived.Test.YbzaawGreatMut
import Derived.Test.YbzaawGreatTy
import Derived.Laws.BytesString
namespace Go.Wf
/-- The cells of a row of bytes. -/
def bc (l : List UInt8) : List Value := l.map fun b => .int .u8 b.toNat
theorem bc_len (l : List UInt8) : (bc l).length = l.length := by simp [bc]
theorem bc_app (l m : List UInt8) : bc (l ++ m) = bc l ++ bc m := by simp [bc]
theorem bc_nil : bc [] = [] := rfl
theorem strCells_bc (s : ByteArray) : strCells s = bc s.data.toList := rfl
theorem bc_one (l : List UInt8) : ∀ u ∈ bc l, oneC u = true := fun u hu => by
  simp [bc] at hu; obtain ⟨b, _, rfl⟩ := hu; rfl
section
variable {P : Program} {w : World}
theorem V_appS {d : Tmp} {ρ : Env} {next : Env → World → Prop} {T T' E n c : Nat} {a : Option Addr} {xs zl : List Value} (h6 : kindT P T = 6) (he : elT P T = E) (hz : zeroT P (elT P T) = some zl) (hzl : zl.length = 1)
    (hs : szT P (elT P T) = 1) (hb : P.bytesOf (elT P T) = 1) (h5 : kindT P T' = 5) (hown : Own w E 1 a n c xs) (s : ByteArray) (hbd : n + s.size ≤ 140737488355328)
    (hk : ∀ a' c' w', Own w' E 1 a' (n + s.size) c' (xs ++ strCells s) → Fr (blkO a) w w' → (∀ k, blkO a' k → blkO a k ∨ w.heap.size ≤ k) → next (upd ρ d (.slice a' (n + s.size) c')) w') :
    VR P (some d) ρ next (rApp P T T' (.slice a n c) (.string s) w) := by
  obtain ⟨a', c', w', hr, ho, hfr, hnew⟩ := app_core (P := P) (w := w) h6 he hz hzl hs hb hown (Src.string s h5) (by rw [strCells_length]; omega) (by rw [strCells_bc]; exact bc_one _) (by unfold maxLen; omega) (by omega)
  refine ⟨?_⟩
  unfold rApp
  rw [hr]
  exact hk a' c' w' ho hfr hnew
theorem push_all (l : List UInt8) : ∀ r : ByteArray, (l.map fun b => ((b.toNat : Nat) : Int)).foldl (fun r n => r.push (UInt8.ofNat n.toNat)) r = ⟨r.data ++ l.toArray⟩ := by
  induction l with
  | nil => intro r; simp
  | cons b l ih =>
    intro r
    simp only [List.map_cons, List.foldl_cons]
    rw [ih]
    have : UInt8.ofNat ((b.toNat : Nat) : Int).toNat = b := by simp
    rw [this]
    congr 1
    apply Array.ext'
    simp [ByteArray.push]
theorem V_convBS {d : Tmp} {ρ : Env} {next : Env → World → Prop} {S T E n c : Nat} {a : Option Addr} {l : List UInt8} (h6 : kindT P S = 6) (he : elT P S = E) (h2 : kindT P E = 2) (h5 : kindT P T = 5) (hown : Own w E 1 a n c (bc l))
    (hk : next (upd ρ d (.string ⟨l.toArray⟩)) w) : VR P (some d) ρ next (rConv P S T (.slice a n c) w) := by
  have hs := (kind_int (P := P) (T := S)).2.2.2.2 h6
  rw [he] at hs
  have hu := (kind_int (P := P) (T := E)).2.1 h2
  have hd := (kind_int (P := P) (T := T)).2.2.2.1 h5
  refine ⟨?_⟩
  unfold rConv
  rw [run_convert_bytes_string w S T E a n c hs hu hd]
  obtain ⟨hl, hf⟩ := hown.form
  rcases hf with ⟨rfl, rfl, rfl⟩ | ⟨g, cur, rfl, hg, h2', h3, h4, h5'⟩
  · have : l = [] := List.eq_nil_of_length_eq_zero (by simpa [bc_len] using hl)
    subst this
    simp only [Conv.bytesToString, Sem.run_pure, Result.andThen_ok]
    exact hk
  · have hn : n = l.length := by rw [bc_len] at hl; omega
    have hld : (loadCells ⟨g, 0, none⟩ n).run P w = .ok ((l.map fun b => ((b.toNat : Nat) : Int)).map (Value.int .u8)).toArray w := by
      have := run_loadCells_list (P := P) w ⟨g, 0, none⟩ ((l.map fun b => ((b.toNat : Nat) : Int)).map (Value.int .u8)) (fun j v hj => by
        rw [add_mk, Nat.zero_add]
        exact hown.cell (by simp [blkO]) j v (by simpa [bc] using hj))
      simpa [hn] using this
    rw [run_bytesToString w _ n c _ hld, push_all]
    simp only [Result.andThen_ok]
    have : (⟨ByteArray.empty.data ++ l.toArray⟩ : ByteArray) = ⟨l.toArray⟩ := by
      congr 1; apply Array.ext'; rw [Array.toList_append]; rfl
    rw [this]
    exact hk
end
end Go.Wf
namespace Go.Proofs.YbzaawGreat
open Go.Wf
set_option maxRecDepth 1000000 in
theorem kbyte : kindT Yaao.prog 5 = 2 := by kernel_rfl
end Go.Proofs.YbzaawGreat
