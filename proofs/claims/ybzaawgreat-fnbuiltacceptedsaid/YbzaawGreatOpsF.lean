/-  The rules for operations that only read, once more, as equations between functions of the world.  -/
import Derived.Test.YbzaawGreatDraw
namespace Go.Wf
section
variable (P : Program) (ty : TypeId) (ρ : Env)

theorem fo_move (x : Operand) : rop P ty (.move x) ρ = Result.ok (.value (ev ρ x)) := by funext w; apply o_move <;> assumption
theorem fo_assign (x : Operand) : rop P ty (.assign x) ρ = Result.ok (.value (ev ρ x)) := by funext w; apply o_assign <;> assumption
theorem fo_pick (c a b : Operand) : rop P ty (.pick c a b) ρ = rPick (ev ρ c) (ev ρ a) (ev ρ b) := by funext w; apply o_pick <;> assumption
theorem fe_pick (t : Bool) (a b : Value)  : rPick (.bool t) a b = Result.ok (.value (if t = true then a else b)) := by funext w; apply e_pick <;> assumption
theorem fo_bin (op : BinOp) (T T' : TypeId) (x y : Operand) : rop P ty (.binOp op T x y T') ρ = rBin P op T x y (ev ρ x) (ev ρ y) := by funext w; apply o_bin <;> assumption
theorem fe_add (T : TypeId) (x y : Operand) (k : IntKind) (a b : Int) : rBin P .add T x y (.int k a) (.int k b) = Result.ok (.value (.int k (k.wrap (a + b)))) := by funext w; apply e_add <;> assumption
theorem fe_sub (T : TypeId) (x y : Operand) (k : IntKind) (a b : Int) : rBin P .sub T x y (.int k a) (.int k b) = Result.ok (.value (.int k (k.wrap (a - b)))) := by funext w; apply e_sub <;> assumption
theorem fe_mul (T : TypeId) (x y : Operand) (k : IntKind) (a b : Int) : rBin P .mul T x y (.int k a) (.int k b) = Result.ok (.value (.int k (k.wrap (a * b)))) := by funext w; apply e_mul <;> assumption
theorem fe_quo (T : TypeId) (x y : Operand) (k : IntKind) (a b : Int) (h : b ≠ 0) : rBin P .quo T x y (.int k a) (.int k b) = Result.ok (.value (.int k (k.wrap (a.tdiv b)))) := by funext w; apply e_quo <;> assumption
theorem fe_rem (T : TypeId) (x y : Operand) (k : IntKind) (a b : Int) (h : b ≠ 0) : rBin P .rem T x y (.int k a) (.int k b) = Result.ok (.value (.int k (a.tmod b))) := by funext w; apply e_rem <;> assumption
theorem fe_lss (T : TypeId) (x y : Operand) (k : IntKind) (a b : Int) : rBin P .lss T x y (.int k a) (.int k b) = Result.ok (.value (.bool (decide (a < b)))) := by funext w; apply e_lss <;> assumption
theorem fe_leq (T : TypeId) (x y : Operand) (k : IntKind) (a b : Int) : rBin P .leq T x y (.int k a) (.int k b) = Result.ok (.value (.bool (decide (a ≤ b)))) := by funext w; apply e_leq <;> assumption
theorem fe_gtr (T : TypeId) (x y : Operand) (k : IntKind) (a b : Int) : rBin P .gtr T x y (.int k a) (.int k b) = Result.ok (.value (.bool (decide (b < a)))) := by funext w; apply e_gtr <;> assumption
theorem fe_geq (T : TypeId) (x y : Operand) (k : IntKind) (a b : Int) : rBin P .geq T x y (.int k a) (.int k b) = Result.ok (.value (.bool (decide (b ≤ a)))) := by funext w; apply e_geq <;> assumption
theorem fe_eql (T : TypeId) (x y : Operand) (k : IntKind) (a b : Int) : rBin P .eql T x y (.int k a) (.int k b) = Result.ok (.value (.bool (decide (a = b)))) := by funext w; apply e_eql <;> assumption
theorem fe_neq (T : TypeId) (x y : Operand) (k : IntKind) (a b : Int) : rBin P .neq T x y (.int k a) (.int k b) = Result.ok (.value (.bool (!decide (a = b)))) := by funext w; apply e_neq <;> assumption
theorem fe_eqlS (T : TypeId) (x y : Operand) (a b : ByteArray) : rBin P .eql T x y (.string a) (.string b) = Result.ok (.value (.bool (decide (a = b)))) := by funext w; apply e_eqlS <;> assumption
theorem fe_neqS (T : TypeId) (x y : Operand) (a b : ByteArray) : rBin P .neq T x y (.string a) (.string b) = Result.ok (.value (.bool (!decide (a = b)))) := by funext w; apply e_neqS <;> assumption
theorem fe_addS (T : TypeId) (x y : Operand) (a b : ByteArray) (h : a.size + b.size ≤ 9223372036854775807) : rBin P .add T x y (.string a) (.string b) = Result.ok (.value (.string (a ++ b))) := by funext w; apply e_addS <;> assumption
theorem fe_eqlB (T : TypeId) (x y : Operand) (a b : Bool) (h : kindT P T = 4) : rBin P .eql T x y (.bool a) (.bool b) = Result.ok (.value (.bool (a == b))) := by funext w; apply e_eqlB <;> assumption
theorem fe_neqB (T : TypeId) (x y : Operand) (a b : Bool) (h : kindT P T = 4) : rBin P .neq T x y (.bool a) (.bool b) = Result.ok (.value (.bool (!(a == b)))) := by funext w; apply e_neqB <;> assumption
theorem fo_notV (T : TypeId) (x : Operand) : rop P ty (.unOp .not T x) ρ = rNot (ev ρ x) := by funext w; apply o_notV <;> assumption
theorem fe_not (b : Bool) : rNot (.bool b) = Result.ok (.value (.bool !b)) := by funext w; apply e_not <;> assumption
theorem fe_neg (k : IntKind) (n : Int) : rNeg (.int k n) = Result.ok (.value (.int k (k.wrap (0 - n)))) := by funext w; apply e_neg <;> assumption
theorem fo_negV (T : TypeId) (x : Operand) : rop P ty (.unOp .neg T x) ρ = rNeg (ev ρ x) := by funext w; apply o_negV <;> assumption
theorem fo_conv (S T : TypeId) (x : Operand) : rop P ty (.convert S T x) ρ = rConv P S T (ev ρ x) := by funext w; apply o_conv <;> assumption
theorem fe_conv1 (S T : TypeId) (k : IntKind) (n : Int) (hs : (P.underlying S).isSome = true) (h : kindT P T = 1) : rConv P S T (.int k n) = Result.ok (.value (.int .i64 (IntKind.i64.wrap n))) := by funext w; apply e_conv1 <;> assumption
theorem fe_conv2 (S T : TypeId) (k : IntKind) (n : Int) (hs : (P.underlying S).isSome = true) (h : kindT P T = 2) : rConv P S T (.int k n) = Result.ok (.value (.int .u8 (IntKind.u8.wrap n))) := by funext w; apply e_conv2 <;> assumption
theorem fe_conv3 (S T : TypeId) (k : IntKind) (n : Int) (hs : (P.underlying S).isSome = true) (h : kindT P T = 3) : rConv P S T (.int k n) = Result.ok (.value (.int .u64 (IntKind.u64.wrap n))) := by funext w; apply e_conv3 <;> assumption
theorem fo_len (T : TypeId) (x : Operand) : rop P ty (.call { callee := .builtin .len, args := #[x], argTypes := #[T] }) ρ = rLen P T (ev ρ x) := by funext w; apply o_len <;> assumption
theorem fe_lenS (T : TypeId) (s : ByteArray) (h : kindT P T = 5) : rLen P T (.string s) = Result.ok (.value (.int .i64 s.size)) := by funext w; apply e_lenS <;> assumption
theorem fe_len (T : TypeId) (a : Option Addr) (n c : Nat) (h : kindT P T = 6) : rLen P T (.slice a n c) = Result.ok (.value (.int .i64 n)) := by funext w; apply e_len <;> assumption
theorem fo_index (T : TypeId) (x i : Operand) : rop P ty (.index T x i) ρ = rIdx P T (ev ρ x) (ev ρ i) := by funext w; apply o_index <;> assumption
theorem fe_index (T : TypeId) (s : ByteArray) (i : Int) (h : kindT P T = 5) (h0 : 0 ≤ i) (h1 : i < s.size) : rIdx P T (.string s) (.int .i64 i) = Result.ok (.value (.int .u8 (byteAt s i.toNat))) := by funext w; apply e_index <;> assumption
theorem fo_indexAddr (T : TypeId) (x i : Operand) : rop P ty (.indexAddr T x i) ρ = rIdxA P T (ev ρ x) (ev ρ i) := by funext w; apply o_indexAddr <;> assumption
theorem fe_ixa {T n : Nat} (h : kindT P T = 6) (he : infoT P (elT P T) = true) (hs : szT P (elT P T) = n) (b o len c : Nat) (i : Int) (h0 : 0 ≤ i) (h1 : i < len) : rIdxA P T (.slice (some ⟨b, o, none⟩) len c) (.int .i64 i) = Result.ok (.value (.pointer (some ⟨b, o + i.toNat * n, none⟩))) := by funext w; apply e_ixa <;> assumption
theorem fo_fieldAddr (T : TypeId) (x : Operand) (f : Nat) : rop P ty (.fieldAddr T x f) ρ = rFld P T (ev ρ x) f := by funext w; apply o_fieldAddr <;> assumption
theorem fe_fld {T f d : Nat} (h : offT P T f = some d) (b o : Nat) : rFld P T (.pointer (some ⟨b, o, none⟩)) f = Result.ok (.value (.pointer (some ⟨b, o + d, none⟩))) := by funext w; apply e_fld <;> assumption
theorem fo_nil (x : Operand) : rop P ty (.nilCheck x) ρ = rNil P (ev ρ x) := by funext w; apply o_nil <;> assumption
theorem fe_nil (a : Addr) : rNil P (.pointer (some a)) = Result.ok (.value (.pointer (some a))) := by funext w; apply e_nil <;> assumption
theorem fo_extract (x : Operand) (i : Nat) : rop P ty (.extract x i) ρ = rExt (ev ρ x) i := by funext w; apply o_extract <;> assumption
theorem fe_ext0 (a b : Value) : rExt (.tuple #[a, b]) 0 = Result.ok (.value a) := by funext w; apply e_ext0 <;> assumption
theorem fe_ext1 (a b : Value) : rExt (.tuple #[a, b]) 1 = Result.ok (.value b) := by funext w; apply e_ext1 <;> assumption
theorem fe_ext30 (a b c : Value) : rExt (.tuple #[a, b, c]) 0 = Result.ok (.value a) := by funext w; apply e_ext30 <;> assumption
theorem fe_ext31 (a b c : Value) : rExt (.tuple #[a, b, c]) 1 = Result.ok (.value b) := by funext w; apply e_ext31 <;> assumption
theorem fe_ext32 (a b c : Value) : rExt (.tuple #[a, b, c]) 2 = Result.ok (.value c) := by funext w; apply e_ext32 <;> assumption
theorem fo_load (T : TypeId) (x : Operand) : rop P ty (.load T x) ρ = rLoad P T (ev ρ x) := by funext w; apply o_load <;> assumption
theorem fo_build (T : TypeId) (parts : List (Nat × Operand)) : rop P ty (.build T parts.toArray) ρ = rBuild P T (parts.map fun p => (p.1, ev ρ p.2)) := by funext w; apply o_build <;> assumption
theorem fe_build {T : TypeId} {z : List Value} (h : Built P T z) (parts : List (Nat × Value)) (hk : partsOk z.length parts = true) : rBuild P T parts = Result.ok (.value (.agg (setParts z parts).toArray)) := by funext w; apply e_build <;> assumption
theorem fo_slice (T : TypeId) (x : Operand) (lo hi mx : Option Operand) : rop P ty (.slice T x lo hi mx) ρ = rSl P T (ev ρ x) (lo.map (ev ρ)) (hi.map (ev ρ)) (mx.map (ev ρ)) := by funext w; apply o_slice <;> assumption
theorem fe_slS {T : TypeId} (h : kindT P T = 5) (s : ByteArray) (l r : Int) (h0 : 0 ≤ l) (h1 : l ≤ r) (h2 : r ≤ s.size) : rSl P T (.string s) (some (.int .i64 l)) (some (.int .i64 r)) none = Result.ok (.value (.string (s.extract l.toNat r.toNat))) := by funext w; apply e_slS <;> assumption
theorem fe_slSl {T : TypeId} (h : kindT P T = 5) (s : ByteArray) (l : Int) (h0 : 0 ≤ l) (h1 : l ≤ s.size) : rSl P T (.string s) (some (.int .i64 l)) none none = Result.ok (.value (.string (s.extract l.toNat s.size))) := by funext w; apply e_slSl <;> assumption
theorem fe_slSr {T : TypeId} (h : kindT P T = 5) (s : ByteArray) (r : Int) (h0 : 0 ≤ r) (h1 : r ≤ s.size) : rSl P T (.string s) none (some (.int .i64 r)) none = Result.ok (.value (.string (s.extract 0 r.toNat))) := by funext w; apply e_slSr <;> assumption
end

/-- An operation that only reads, in a class of worlds. -/
structure QV (C : World → Prop) (dst : Option Tmp) (ρ : Env) (next : Env → World → Prop) (w : World) (F : World → Result Next) : Prop where
  out : ∃ v, (∀ w', C w' → F w' = .ok (.value v) w') ∧ next (put ρ dst v) w

section
variable {P : Program} {C : World → Prop} {gs : List (Option Tmp)} {k : Env → World → Prop} {dst : Option Tmp} {op : Op} {ty : TypeId} {pos : String} {aft : Array Edge} {rest : List Oper} {ρ : Env} {w : World}
theorem d_quiet (hq : isQ op = true) : VD P C gs k (⟨dst, op, ty, pos, aft, none⟩ :: rest) ρ w = QV C dst ρ (VD P C gs k rest) w (rop P ty op ρ) := by
  have e : WD P C gs k (⟨dst, op, ty, pos, aft, none⟩ :: rest) ρ w = (∃ v, (∀ w', C w' → rop P ty op ρ w' = .ok (.value v) w') ∧ WD P C gs k rest (put ρ dst v) w) := by
    show (if true = true then (if isQ op = true then (∃ v, (∀ w', C w' → rop P ty op ρ w' = .ok (.value v) w') ∧ WD P C gs k rest (put ρ dst v) w) else (WRes P dst ρ (fun ρ' w' => (C w' ∨ rest = []) ∧ WD P C gs k rest ρ' w') (rop P ty op ρ w))) else WD P C gs k rest (put ρ dst undef) w) = _
    rw [if_pos rfl, if_pos hq]
  exact propext ⟨fun h => by have := h.out; rw [e] at this; obtain ⟨v, h1, h2⟩ := this; exact ⟨v, h1, ⟨h2⟩⟩, fun h => ⟨by rw [e]; obtain ⟨v, h1, h2⟩ := h.out; exact ⟨v, h1, h2.out⟩⟩⟩
theorem d_loud (hq : isQ op = false) : VD P C gs k (⟨dst, op, ty, pos, aft, none⟩ :: rest) ρ w = VL P C (rest = []) dst ρ (VD P C gs k rest) (rop P ty op ρ w) := by
  have e : WD P C gs k (⟨dst, op, ty, pos, aft, none⟩ :: rest) ρ w = WRes P dst ρ (fun ρ' w' => (C w' ∨ rest = []) ∧ WD P C gs k rest ρ' w') (rop P ty op ρ w) := by
    show (if true = true then (if isQ op = true then (∃ v, (∀ w', C w' → rop P ty op ρ w' = .ok (.value v) w') ∧ WD P C gs k rest (put ρ dst v) w) else (WRes P dst ρ (fun ρ' w' => (C w' ∨ rest = []) ∧ WD P C gs k rest ρ' w') (rop P ty op ρ w))) else WD P C gs k rest (put ρ dst undef) w) = _
    rw [if_pos rfl, if_neg (by rw [hq]; simp)]
  exact propext ⟨fun h => ⟨by have := h.out; rw [e] at this; exact WRes_mono (fun _ _ hk => ⟨hk.1, ⟨hk.2⟩⟩) this⟩, fun h => ⟨by rw [e]; exact WRes_mono (fun _ _ hk => ⟨hk.1, hk.2.out⟩) h.out⟩⟩
theorem d_some (g : Nat × Bool) : VD P C gs k (⟨dst, op, ty, pos, aft, some g⟩ :: rest) ρ w = if wantE gs ρ (some g) = true then VD P C gs k (⟨dst, op, ty, pos, aft, none⟩ :: rest) ρ w else VD P C gs k rest (put ρ dst undef) w := by
  have e : WD P C gs k (⟨dst, op, ty, pos, aft, some g⟩ :: rest) ρ w = if wantE gs ρ (some g) = true then WD P C gs k (⟨dst, op, ty, pos, aft, none⟩ :: rest) ρ w else WD P C gs k rest (put ρ dst undef) w := rfl
  by_cases hw : wantE gs ρ (some g) = true
  · rw [if_pos hw] at e ⊢; exact propext ⟨fun h => ⟨e ▸ h.out⟩, fun h => ⟨e ▸ h.out⟩⟩
  · rw [if_neg hw] at e ⊢; exact propext ⟨fun h => ⟨e ▸ h.out⟩, fun h => ⟨e ▸ h.out⟩⟩
theorem d_someT (g : Nat × Bool) (h : wantE gs ρ (some g) = true) : VD P C gs k (⟨dst, op, ty, pos, aft, some g⟩ :: rest) ρ w = VD P C gs k (⟨dst, op, ty, pos, aft, none⟩ :: rest) ρ w := by rw [d_some, if_pos h]
theorem d_someF (g : Nat × Bool) (h : wantE gs ρ (some g) = false) : VD P C gs k (⟨dst, op, ty, pos, aft, some g⟩ :: rest) ρ w = VD P C gs k rest (put ρ dst undef) w := by rw [d_some, if_neg (by rw [h]; simp)]
theorem D_split {j d : Nat} {want b : Bool} (_ : (gs[j]?).join = some d) (hb : ρ d = .bool b) (ht : b = true → VD P C gs k (⟨dst, op, ty, pos, aft, some (j, want)⟩ :: rest) (upd ρ d (.bool true)) w)
    (hf : b = false → VD P C gs k (⟨dst, op, ty, pos, aft, some (j, want)⟩ :: rest) (upd ρ d (.bool false)) w) : VD P C gs k (⟨dst, op, ty, pos, aft, some (j, want)⟩ :: rest) ρ w := by
  cases b
  · have := hf rfl; rwa [upd_self ρ d _ hb] at this
  · have := ht rfl; rwa [upd_self ρ d _ hb] at this
end
theorem isQE {op : Op} {b : Bool} (h : isQ op = b) : isQ op = b := h

section
variable {C : World → Prop} {next : Env → World → Prop} {ρ : Env} {w : World}
theorem q_val {w0 : World} (hC : C w0) (d : Tmp) (v : Value) : QV C (some d) ρ next w (Result.ok (.value v)) = next (upd ρ d v) w := by
  refine propext ⟨fun h => ?_, fun h => ⟨v, fun _ _ => rfl, h⟩⟩
  obtain ⟨v', h1, h2⟩ := h.out
  have := h1 w0 hC
  simp at this
  rw [this]; exact h2
theorem l_val (P : Program) (last : Prop) (d : Tmp) (v : Value) (w' : World) : VL P C last (some d) ρ next (.ok (.value v) w') = ((C w' ∨ last) ∧ next (upd ρ d v) w') := propext ⟨fun h => h.out, fun h => ⟨h⟩⟩
theorem l_skip (P : Program) (last : Prop) (w' : World) : VL P C last none ρ next (.ok .skip w') = ((C w' ∨ last) ∧ next ρ w') := propext ⟨fun h => h.out, fun h => ⟨h⟩⟩
theorem l_enter (P : Program) (last : Prop) (d : Tmp) (f : FuncId) (args : Array Value) (w' : World) : VL P C last (some d) ρ next (.ok (.enter f args) w') = CallsV P f args w' fun v w'' => (C w'' ∨ last) ∧ next (upd ρ d v) w'' := propext ⟨fun h => h.out, fun h => ⟨h⟩⟩
/-- A load, in the class of the worlds that hold H. -/
theorem q_ld {P : Program} {H : Heap} {T : TypeId} (h : oneT P T = true) {w0 : World} (hC : HS H w0) (d : Tmp) (b o : Nat) :
    QV (HS H) (some d) ρ next w (rLoad P T (.pointer (some ⟨b, o, none⟩))) = match H b o with | some v => next (upd ρ d v) w | none => ∃ v, (∀ w', HS H w' → rLoad P T (.pointer (some ⟨b, o, none⟩)) w' = .ok (.value v) w') ∧ next (upd ρ d v) w := by
  cases e : H b o with
  | none => exact propext ⟨fun h => h.out, fun h => ⟨h⟩⟩
  | some v =>
    have hv : ∀ w', HS H w' → rLoad P T (.pointer (some ⟨b, o, none⟩)) w' = .ok (.value v) w' := fun w' hw => e_load P w' T _ v h (hw.cell _ _ _ e)
    refine propext ⟨fun h => ?_, fun h => ⟨v, hv, h⟩⟩
    obtain ⟨v', h1, h2⟩ := h.out
    have := (hv w0 hC).symm.trans (h1 w0 hC)
    simp at this
    simp only [this]; exact h2
theorem cellsAt_mono {f g : Nat → Option Value} (h : ∀ o v, f o = some v → g o = some v) : ∀ (n o : Nat) (cs : List Value), cellsAt f o n = some cs → cellsAt g o n = some cs
  | 0, _, _, e => e
  | n + 1, o, cs, e => by
    simp only [cellsAt] at e ⊢
    cases hf : f o with
    | none => simp [hf] at e
    | some v =>
      simp only [hf, Option.map_eq_some_iff] at e
      obtain ⟨cs', h', rfl⟩ := e
      simp only [h o v hf, cellsAt_mono h n (o + 1) cs' h', Option.map_some]
theorem q_lda {P : Program} {H : Heap} {T n : Nat} (h : kindT P T = 7) (hi : infoT P T = true) (hn : szT P T = n) {w0 : World} (hC : HS H w0) (d : Tmp) (b o : Nat) :
    QV (HS H) (some d) ρ next w (rLoad P T (.pointer (some ⟨b, o, none⟩))) = match cellsAt (H b) o n with | some cs => next (upd ρ d (.agg cs.toArray)) w | none => ∃ v, (∀ w', HS H w' → rLoad P T (.pointer (some ⟨b, o, none⟩)) w' = .ok (.value v) w') ∧ next (upd ρ d v) w := by
  cases e : cellsAt (H b) o n with
  | none => exact propext ⟨fun h => h.out, fun h => ⟨h⟩⟩
  | some cs =>
    have hv : ∀ w', HS H w' → rLoad P T (.pointer (some ⟨b, o, none⟩)) w' = .ok (.value (.agg cs.toArray)) w' := fun w' hw =>
      e_loadAgg P w' T b o cs h hi (by rw [hn]; exact cellsAt_mono (fun o v e => hw.cell b o v e) n o cs e)
    refine propext ⟨fun h => ?_, fun h => ⟨_, hv, h⟩⟩
    obtain ⟨v', h1, h2⟩ := h.out
    have := (hv w0 hC).symm.trans (h1 w0 hC)
    simp at this
    simp only [this]; exact h2
/-- The same loads in a plain region. -/
theorem e_ldH {P : Program} {H : Heap} {T : TypeId} (h : oneT P T = true) {w : World} (hH : HS H w) (b o : Nat) : rLoad P T (.pointer (some ⟨b, o, none⟩)) w = match H b o with | some v => .ok (.value v) w | none => ((Instr.loadAt T (.pointer (some ⟨b, o, none⟩))).run P w).andThen fun v w' => .ok (.value v) w' := by
  cases e : H b o with
  | none => rfl
  | some v => exact e_load P w T _ v h (hH.cell _ _ _ e)
theorem e_ldaH {P : Program} {H : Heap} {T n : Nat} (h : kindT P T = 7) (hi : infoT P T = true) (hn : szT P T = n) {w : World} (hH : HS H w) (b o : Nat) :
    rLoad P T (.pointer (some ⟨b, o, none⟩)) w = match cellsAt (H b) o n with | some cs => .ok (.value (.agg cs.toArray)) w | none => ((Instr.loadAt T (.pointer (some ⟨b, o, none⟩))).run P w).andThen fun v w' => .ok (.value v) w' := by
  cases e : cellsAt (H b) o n with
  | none => rfl
  | some cs => exact e_loadAgg P w T b o cs h hi (by rw [hn]; exact cellsAt_mono (fun o v e => hH.cell b o v e) n o cs e)
end
end Go.Wf
