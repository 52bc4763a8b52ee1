/-  The operations of the model, one rewriting rule a shape.  -/
import Derived.Test.YbzaawGreatBase
import Derived.Laws.AppendOwn
import Derived.Laws.StructEq
import Derived.Laws.Strings
import Derived.Laws.Tables
import Derived.Laws.BytesString
namespace Go.Wf

def rop (P : Program) (ty : TypeId) (op : Op) (ρ : Env) (w : World) : Result Next := (execOp (ev ρ) ⟨none, op, ty, "", #[], none⟩).run P w

theorem execOp_only (f : Operand → Value) (dst dst' : Option Tmp) (op : Op) (ty : TypeId) (pos pos' : String) (aft aft' : Array Edge) (g g' : Option (Nat × Bool)) :
    execOp f ⟨dst, op, ty, pos, aft, g⟩ = execOp f ⟨dst', op, ty, pos', aft', g'⟩ := by cases op <;> rfl

theorem put_some (ρ : Env) (d : Tmp) (v : Value) : put ρ (some d) v = upd ρ d v := rfl
theorem put_none (ρ : Env) (v : Value) : put ρ none v = ρ := rfl
theorem ev_tmp (ρ : Env) (t : Tmp) : ev ρ (.tmp t) = ρ t := rfl
theorem ev_const (ρ : Env) (v : Value) : ev ρ (.const v) = v := rfl

section rules
variable (P : Program) (ty : TypeId) (ρ : Env) (w : World)

theorem o_move (x : Operand) : rop P ty (.move x) ρ w = .ok (.value (ev ρ x)) w := rfl
theorem o_assign (x : Operand) : rop P ty (.assign x) ρ w = .ok (.value (ev ρ x)) w := rfl

def rPick (c a b : Value) (w : World) : Result Next := (do pure (.value (if ← asBool c then a else b)) : Sem Next).run default w
theorem o_pick (c a b : Operand) : rop P ty (.pick c a b) ρ w = rPick (ev ρ c) (ev ρ a) (ev ρ b) w := by
  show (do pure (Next.value (if ← asBool (ev ρ c) then ev ρ a else ev ρ b)) : Sem Next).run P w = _
  unfold rPick
  cases ev ρ c <;> rfl
theorem e_pick (t : Bool) (a b : Value) (w : World) : rPick (.bool t) a b w = .ok (.value (if t = true then a else b)) w := rfl

def rBin (P : Program) (op : BinOp) (T : TypeId) (x y : Operand) (a b : Value) (w : World) : Result Next :=
  ((eqGuard op T x y a b).run P w).andThen fun _ w' => ((binOp op T a b).run P w').andThen fun v w' => .ok (.value v) w'
theorem o_bin (op : BinOp) (T T' : TypeId) (x y : Operand) : rop P ty (.binOp op T x y T') ρ w = rBin P op T x y (ev ρ x) (ev ρ y) w := by
  show (do pure (Next.value (← (do eqGuard op T x y (ev ρ x) (ev ρ y); binOp op T (ev ρ x) (ev ρ y)))) : Sem Next).run P w = _
  unfold rBin
  simp
end rules

def notAgg : Value → Bool
  | .agg _ => false
  | .nilIface => false
  | _ => true

section rules2
variable (P : Program) (ty : TypeId) (ρ : Env) (w : World)
theorem run_eqGuard (op : BinOp) (T : TypeId) (x y : Operand) (a b : Value) (h : notAgg a = true) : (eqGuard op T x y a b).run P w = .ok () w := by
  cases a <;> first
    | (simp [notAgg] at h; done)
    | (cases op <;> rfl)
theorem rBin_eq (op : BinOp) (T : TypeId) (x y : Operand) (a b : Value) (h : notAgg a = true) :
    rBin P op T x y a b w = ((binOp op T a b).run P w).andThen fun v w' => .ok (.value v) w' := by
  unfold rBin; rw [run_eqGuard P w op T x y a b h]; rfl
theorem n_int (k : IntKind) (n : Int) : notAgg (.int k n) = true := rfl
theorem n_str (s : ByteArray) : notAgg (.string s) = true := rfl
theorem n_bool (b : Bool) : notAgg (.bool b) = true := rfl

theorem e_add (T : TypeId) (x y : Operand) (k : IntKind) (a b : Int) : rBin P .add T x y (.int k a) (.int k b) w = .ok (.value (.int k (k.wrap (a + b)))) w := by rw [rBin_eq P w _ T x y _ _ rfl]; simp [binOp, Op.intArith]
theorem e_sub (T : TypeId) (x y : Operand) (k : IntKind) (a b : Int) : rBin P .sub T x y (.int k a) (.int k b) w = .ok (.value (.int k (k.wrap (a - b)))) w := by rw [rBin_eq P w _ T x y _ _ rfl]; simp [binOp, Op.intArith]
theorem e_mul (T : TypeId) (x y : Operand) (k : IntKind) (a b : Int) : rBin P .mul T x y (.int k a) (.int k b) w = .ok (.value (.int k (k.wrap (a * b)))) w := by rw [rBin_eq P w _ T x y _ _ rfl]; simp [binOp, Op.intArith]
theorem e_quo (T : TypeId) (x y : Operand) (k : IntKind) (a b : Int) (h : b ≠ 0) : rBin P .quo T x y (.int k a) (.int k b) w = .ok (.value (.int k (k.wrap (a.tdiv b)))) w := by rw [rBin_eq P w _ T x y _ _ rfl]; simp [binOp, Op.intDiv, h]
theorem e_rem (T : TypeId) (x y : Operand) (k : IntKind) (a b : Int) (h : b ≠ 0) : rBin P .rem T x y (.int k a) (.int k b) w = .ok (.value (.int k (a.tmod b))) w := by rw [rBin_eq P w _ T x y _ _ rfl]; simp [binOp, Op.intDiv, h]
theorem e_lss (T : TypeId) (x y : Operand) (k : IntKind) (a b : Int) : rBin P .lss T x y (.int k a) (.int k b) w = .ok (.value (.bool (decide (a < b)))) w := by rw [rBin_eq P w _ T x y _ _ rfl]; simp [binOp, Op.intCmp]
theorem e_leq (T : TypeId) (x y : Operand) (k : IntKind) (a b : Int) : rBin P .leq T x y (.int k a) (.int k b) w = .ok (.value (.bool (decide (a ≤ b)))) w := by rw [rBin_eq P w _ T x y _ _ rfl]; simp [binOp, Op.intCmp]
theorem e_gtr (T : TypeId) (x y : Operand) (k : IntKind) (a b : Int) : rBin P .gtr T x y (.int k a) (.int k b) w = .ok (.value (.bool (decide (b < a)))) w := by rw [rBin_eq P w _ T x y _ _ rfl]; simp [binOp, Op.intCmp]
theorem e_geq (T : TypeId) (x y : Operand) (k : IntKind) (a b : Int) : rBin P .geq T x y (.int k a) (.int k b) w = .ok (.value (.bool (decide (b ≤ a)))) w := by rw [rBin_eq P w _ T x y _ _ rfl]; simp [binOp, Op.intCmp]
theorem e_eql (T : TypeId) (x y : Operand) (k : IntKind) (a b : Int) : rBin P .eql T x y (.int k a) (.int k b) w = .ok (.value (.bool (decide (a = b)))) w := by
  rw [rBin_eq P w _ T x y _ _ rfl]; simp [binOp, Op.intCmp]; rw [Bool.eq_iff_iff]; simp
theorem e_neq (T : TypeId) (x y : Operand) (k : IntKind) (a b : Int) : rBin P .neq T x y (.int k a) (.int k b) w = .ok (.value (.bool (!decide (a = b)))) w := by
  rw [rBin_eq P w _ T x y _ _ rfl]; simp [binOp, Op.intCmp]; rw [Bool.eq_iff_iff]; simp
theorem eqBytes (a b : ByteArray) : (a.toList == b.toList) = decide (a = b) := by
  rw [Bool.eq_iff_iff, ByteArray.toList_eq, ByteArray.toList_eq]
  simp only [beq_iff_eq, decide_eq_true_eq, Array.toList_inj]
  constructor
  · intro h; cases a; cases b; simp_all
  · intro h; rw [h]
theorem e_eqlS (T : TypeId) (x y : Operand) (a b : ByteArray) : rBin P .eql T x y (.string a) (.string b) w = .ok (.value (.bool (decide (a = b)))) w := by
  rw [rBin_eq P w _ T x y _ _ rfl]; simp [binOp, Op.stringOp, eqBytes]
theorem e_neqS (T : TypeId) (x y : Operand) (a b : ByteArray) : rBin P .neq T x y (.string a) (.string b) w = .ok (.value (.bool (!decide (a = b)))) w := by
  rw [rBin_eq P w _ T x y _ _ rfl]; simp [binOp, Op.stringOp, eqBytes]
theorem e_addS (T : TypeId) (x y : Operand) (a b : ByteArray) (h : a.size + b.size ≤ 9223372036854775807) : rBin P .add T x y (.string a) (.string b) w = .ok (.value (.string (a ++ b))) w := by
  have hm : IntKind.i64.max = 9223372036854775807 := rfl
  have : ¬ (((a.size + b.size : Nat) : Int) > IntKind.i64.max) := by rw [hm]; omega
  rw [rBin_eq P w _ T x y _ _ rfl]
  simp only [binOp, Op.stringOp, if_neg this]
  rfl
theorem e_eqlB (T : TypeId) (x y : Operand) (a b : Bool) (h : kindT P T = 4) : rBin P .eql T x y (.bool a) (.bool b) w = .ok (.value (.bool (a == b))) w := by
  have hu : P.underlying T = some .bool := by
    unfold kindT at h; split at h <;> simp_all
  have := run_equalIn_bool' (P := P) w 9999 T a b hu
  rw [rBin_eq P w _ T x y _ _ rfl]
  simp only [binOp]
  simp [Op.equal, Op.maxDepth, this]
theorem e_neqB (T : TypeId) (x y : Operand) (a b : Bool) (h : kindT P T = 4) : rBin P .neq T x y (.bool a) (.bool b) w = .ok (.value (.bool (!(a == b)))) w := by
  have hu : P.underlying T = some .bool := by
    unfold kindT at h; split at h <;> simp_all
  have := run_equalIn_bool' (P := P) w 9999 T a b hu
  rw [rBin_eq P w _ T x y _ _ rfl]
  simp only [binOp]
  simp [Op.equal, Op.maxDepth, this]

def rUn (op : UnOp) (a : Value) (w : World) : Result Next := ((Op.unary op a).run default w).andThen fun v w' => .ok (.value v) w'
theorem o_not (T : TypeId) (x : Operand) (b : Bool) (h : ev ρ x = .bool b) : rop P ty (.unOp .not T x) ρ w = .ok (.value (.bool !b)) w := by
  show (do pure (Next.value (← Op.unary .not (ev ρ x))) : Sem Next).run P w = _
  rw [h]; rfl
def rNot (a : Value) (w : World) : Result Next := match a with | .bool b => .ok (.value (.bool !b)) w | _ => .halt (.stuck "unary: no such operator on this operand") w
theorem o_notV (T : TypeId) (x : Operand) : rop P ty (.unOp .not T x) ρ w = rNot (ev ρ x) w := by
  show (do pure (Next.value (← Op.unary .not (ev ρ x))) : Sem Next).run P w = _
  cases ev ρ x <;> rfl
theorem e_not (b : Bool) : rNot (.bool b) w = .ok (.value (.bool !b)) w := rfl
def rNeg (a : Value) (w : World) : Result Next := ((Op.unary .neg a).run default w).andThen fun v w' => .ok (.value v) w'
theorem e_neg (k : IntKind) (n : Int) : rNeg (.int k n) w = .ok (.value (.int k (k.wrap (0 - n)))) w := by
  simp [rNeg, Op.unary, Op.intArith]
theorem o_negV (T : TypeId) (x : Operand) : rop P ty (.unOp .neg T x) ρ w = rNeg (ev ρ x) w := by
  show (do pure (Next.value (← Op.unary .neg (ev ρ x))) : Sem Next).run P w = _
  cases ev ρ x <;> first | rfl | (rename_i a; cases a <;> rfl)

def rConv (P : Program) (S T : TypeId) (a : Value) (w : World) : Result Next := ((convert S T a).run P w).andThen fun v w' => .ok (.value v) w'
theorem o_conv (S T : TypeId) (x : Operand) : rop P ty (.convert S T x) ρ w = rConv P S T (ev ρ x) w := by
  show (do pure (Next.value (← convert S T (ev ρ x))) : Sem Next).run P w = _
  simp [rConv]
theorem kind_int {P : Program} {T : TypeId} : (kindT P T = 1 → P.underlying T = some (.int .i64)) ∧ (kindT P T = 2 → P.underlying T = some (.int .u8)) ∧ (kindT P T = 3 → P.underlying T = some (.int .u64)) ∧
    (kindT P T = 5 → P.underlying T = some .string) ∧ (kindT P T = 6 → P.underlying T = some (.slice (elT P T))) := by
  unfold kindT elT
  refine ⟨fun h => ?_, fun h => ?_, fun h => ?_, fun h => ?_, fun h => ?_⟩ <;> split at h <;> simp_all
theorem e_conv1 (S T : TypeId) (k : IntKind) (n : Int) (hs : (P.underlying S).isSome = true) (h : kindT P T = 1) : rConv P S T (.int k n) w = .ok (.value (.int .i64 (IntKind.i64.wrap n))) w := by
  obtain ⟨s, hs⟩ := Option.isSome_iff_exists.1 hs
  simp [rConv, convert, run_underlying hs, run_underlying (kind_int.1 h), Conv.intToInt]
theorem e_conv2 (S T : TypeId) (k : IntKind) (n : Int) (hs : (P.underlying S).isSome = true) (h : kindT P T = 2) : rConv P S T (.int k n) w = .ok (.value (.int .u8 (IntKind.u8.wrap n))) w := by
  obtain ⟨s, hs⟩ := Option.isSome_iff_exists.1 hs
  simp [rConv, convert, run_underlying hs, run_underlying (kind_int.2.1 h), Conv.intToInt]
theorem e_conv3 (S T : TypeId) (k : IntKind) (n : Int) (hs : (P.underlying S).isSome = true) (h : kindT P T = 3) : rConv P S T (.int k n) w = .ok (.value (.int .u64 (IntKind.u64.wrap n))) w := by
  obtain ⟨s, hs⟩ := Option.isSome_iff_exists.1 hs
  simp [rConv, convert, run_underlying hs, run_underlying (kind_int.2.2.1 h), Conv.intToInt]

theorem o_call (f : FuncId) (args : Array Operand) (ts : Array TypeId) (h : callable P f = true) :
    rop P ty (.call { callee := .value (.func f), args := args, argTypes := ts }) ρ w = .ok (.enter f (args.map (ev ρ))) w := by
  show (do let d ← resolve (ev ρ) { callee := .value (.func f), args := args, argTypes := ts } ty; invoke d.target d.args : Sem Next).run P w = _
  unfold callable at h
  cases hf : P.funcs[f]? with
  | none => simp [hf] at h
  | some fn =>
    simp only [hf, Bool.and_eq_true, Bool.not_eq_true'] at h
    obtain ⟨hb, hn⟩ := h
    have hb' : fn.body.isNone = false := by
      cases hbb : fn.body with
      | none => rw [hbb] at hb; simp at hb
      | some _ => rfl
    have hn' : fn.name ≠ "runtime.NumGoroutine" := by simpa using hn
    have hb'' : fn.body ≠ none := by intro e; rw [e] at hb'; simp at hb'
    simp [resolve, ev, Deferred.ofValue, invoke, callFunc, hf, hn', hb'']

def rLen (P : Program) (T : TypeId) (a : Value) (w : World) : Result Next := ((Builtin.len_ #[T] 0 #[a]).run P w).andThen fun v w' => .ok (.value v) w'
theorem o_len (T : TypeId) (x : Operand) : rop P ty (.call { callee := .builtin .len, args := #[x], argTypes := #[T] }) ρ w = rLen P T (ev ρ x) w := by
  show (do let d ← resolve (ev ρ) { callee := .builtin .len, args := #[x], argTypes := #[T] } ty; invoke d.target d.args : Sem Next).run P w = _
  simp [resolve, invoke, builtin, rLen]
  rfl
theorem e_lenS (T : TypeId) (s : ByteArray) (h : kindT P T = 5) : rLen P T (.string s) w = .ok (.value (.int .i64 s.size)) w := by
  simp [rLen, Builtin.len_, run_underlying (kind_int.2.2.2.1 h), goInt]
theorem e_len (T : TypeId) (a : Option Addr) (n c : Nat) (h : kindT P T = 6) : rLen P T (.slice a n c) w = .ok (.value (.int .i64 n)) w := by
  simp [rLen, Builtin.len_, run_underlying (kind_int.2.2.2.2 h), goInt]

def rIdx (P : Program) (T : TypeId) (a i : Value) (w : World) : Result Next := ((Instr.index T a i).run P w).andThen fun v w' => .ok (.value v) w'
theorem o_index (T : TypeId) (x i : Operand) : rop P ty (.index T x i) ρ w = rIdx P T (ev ρ x) (ev ρ i) w := by
  show (do pure (Next.value (← Instr.index T (ev ρ x) (ev ρ i))) : Sem Next).run P w = _
  simp [rIdx]
/-- Byte i of a string. -/
def byteAt (s : ByteArray) (i : Nat) : Nat := (s.data.getD i 0).toNat
theorem byteAt_lt (s : ByteArray) (i : Nat) : byteAt s i < 256 := (s.data.getD i 0).toNat_lt
theorem e_index (T : TypeId) (s : ByteArray) (i : Int) (h : kindT P T = 5) (h0 : 0 ≤ i) (h1 : i < s.size) : rIdx P T (.string s) (.int .i64 i) w = .ok (.value (.int .u8 (byteAt s i.toNat))) w := by
  have hlt : i.toNat < s.size := by omega
  have hlt' : i.toNat < s.data.size := hlt
  have e : s[i.toNat]? = some (s.data.getD i.toNat 0) := by
    rw [getElem?_pos s i.toNat hlt]
    have : s.data.getD i.toNat 0 = s.data[i.toNat] := by simp only [Array.getD, hlt', dif_pos]; rfl
    rw [this]; rfl
  simp [rIdx, Instr.index, asIntOf, run_underlying (kind_int.2.2.2.1 h), h0, e, byteAt]

def rIdxA (P : Program) (T : TypeId) (a i : Value) (w : World) : Result Next := ((Instr.indexAt T a i).run P w).andThen fun v w' => .ok (.value v) w'
theorem o_indexAddr (T : TypeId) (x i : Operand) : rop P ty (.indexAddr T x i) ρ w = rIdxA P T (ev ρ x) (ev ρ i) w := by
  show (do pure (Next.value (← Instr.indexAt T (ev ρ x) (ev ρ i))) : Sem Next).run P w = _
  simp [rIdxA]
theorem add_mk (b o n : Nat) : (⟨b, o, none⟩ : Addr).add n = ⟨b, o + n, none⟩ := by
  unfold Addr.add; split <;> simp_all
theorem run_sizeOf {P : Program} {w : World} {T : TypeId} (h : infoT P T = true) : (sizeOf T).run P w = .ok (szT P T) w := by
  obtain ⟨i, hi⟩ := Option.isSome_iff_exists.1 h
  simp [sizeOf, typeInfo, hi, szT, Program.cellsOf]
theorem e_indexAddr (T : TypeId) (b o n c : Nat) (i : Int) (h : kindT P T = 6) (he : infoT P (elT P T) = true) (h0 : 0 ≤ i) (h1 : i < n) :
    rIdxA P T (.slice (some ⟨b, o, none⟩) n c) (.int .i64 i) w = .ok (.value (.pointer (some ⟨b, o + i.toNat * szT P (elT P T), none⟩))) w := by
  simp [rIdxA, Instr.indexAt, asIntOf, run_underlying (kind_int.2.2.2.2 h), h0, h1, run_sizeOf he, add_mk]

theorem e_ixa {T n : Nat} (h : kindT P T = 6) (he : infoT P (elT P T) = true) (hs : szT P (elT P T) = n) (b o len c : Nat) (i : Int) (h0 : 0 ≤ i) (h1 : i < len) :
    rIdxA P T (.slice (some ⟨b, o, none⟩) len c) (.int .i64 i) w = .ok (.value (.pointer (some ⟨b, o + i.toNat * n, none⟩))) w := by
  rw [e_indexAddr P w T b o len c i h he h0 h1, hs]

def rFld (P : Program) (T : TypeId) (a : Value) (f : Nat) (w : World) : Result Next := ((Instr.fieldAt T a f).run P w).andThen fun v w' => .ok (.value v) w'
theorem o_fieldAddr (T : TypeId) (x : Operand) (f : Nat) : rop P ty (.fieldAddr T x f) ρ w = rFld P T (ev ρ x) f w := by
  show (do pure (Next.value (← Instr.fieldAt T (ev ρ x) f)) : Sem Next).run P w = _
  simp [rFld]
theorem e_fieldAddr (T : TypeId) (b o f : Nat) (h : (offT P T f).isSome = true) :
    rFld P T (.pointer (some ⟨b, o, none⟩)) f w = .ok (.value (.pointer (some ⟨b, o + (offT P T f).getD 0, none⟩))) w := by
  unfold offT at h ⊢
  split at h
  · rename_i fs hu
    cases hf : fs[f]? with
    | none => simp [hf] at h
    | some x =>
      simp only [hf, Option.bind_some] at h ⊢
      split at h
      · simp at h
      · rename_i hx
        have hx1 : P.cellsOf x.type ≠ 0 := fun e => hx (.inl e)
        have hx2 : infoT P x.type = true := by
          cases e : P.info? x.type with
          | none => exact absurd (.inr (by simp [e])) hx
          | some i => simp [infoT, e]
        rw [if_neg hx]
        simp [rFld, Instr.fieldAt, run_underlying hu, hf, Instr.sureAddr, fieldPlace, run_sizeOf hx2, szT, hx1, add_mk]
  · simp at h

theorem e_fld {T f d : Nat} (h : offT P T f = some d) (b o : Nat) : rFld P T (.pointer (some ⟨b, o, none⟩)) f w = .ok (.value (.pointer (some ⟨b, o + d, none⟩))) w := by
  rw [e_fieldAddr P w T b o f (by rw [h]; rfl), h]; rfl
def rNil (P : Program) (a : Value) (w : World) : Result Next := match a with | .pointer (some _) => .ok (.value a) w | _ => (rop P 0 (.nilCheck (.const a)) (fun _ => a) w)
theorem o_nil (x : Operand) : rop P ty (.nilCheck x) ρ w = rNil P (ev ρ x) w := by
  unfold rNil
  split
  · rename_i a h
    show (match ev ρ x with
    | .pointer none | .nilIface | .nilFunc => (runtimePanic .nilDeref : Sem Next)
    | .func (.method name) first captured =>
      match (first[0]? : Option Value) with
      | some .nilIface => runtimePanic .nilDeref
      | some (.iface t w) => _
      | _ => _
    | x => pure (.value x)).run P w = _
    rw [h]; rfl
  · rfl
theorem e_nil (a : Addr) : rNil P (.pointer (some a)) w = .ok (.value (.pointer (some a))) w := rfl

def rExt (a : Value) (i : Nat) (w : World) : Result Next := match a with | .tuple vs => (match vs[i]? with | some v => .ok (.value v) w | none => .halt (.stuck "Extract: no such component") w) | _ => .halt (.stuck "Extract: tuple expected") w
theorem o_extract (x : Operand) (i : Nat) : rop P ty (.extract x i) ρ w = rExt (ev ρ x) i w := by
  show (do pure (Next.value (← Instr.extract (ev ρ x) i)) : Sem Next).run P w = _
  unfold rExt Instr.extract
  split
  · rename_i vs h; rw [h]
    simp only []
    cases vs[i]? <;> rfl
  · rename_i h
    split
    · simp_all
    · rfl
theorem e_extract (vs : Array Value) (i : Nat) (v : Value) (h : vs[i]? = some v) : rExt (.tuple vs) i w = .ok (.value v) w := by simp [rExt, h]
theorem e_ext0 (a b : Value) : rExt (.tuple #[a, b]) 0 w = .ok (.value a) w := rfl
theorem e_ext1 (a b : Value) : rExt (.tuple #[a, b]) 1 w = .ok (.value b) w := rfl
theorem e_ext30 (a b c : Value) : rExt (.tuple #[a, b, c]) 0 w = .ok (.value a) w := rfl
theorem e_ext31 (a b c : Value) : rExt (.tuple #[a, b, c]) 1 w = .ok (.value b) w := rfl
theorem e_ext32 (a b c : Value) : rExt (.tuple #[a, b, c]) 2 w = .ok (.value c) w := rfl

def rLoad (P : Program) (T : TypeId) (a : Value) (w : World) : Result Next := ((Instr.loadAt T a).run P w).andThen fun v w' => .ok (.value v) w'
theorem o_load (T : TypeId) (x : Operand) : rop P ty (.load T x) ρ w = rLoad P T (ev ρ x) w := by
  show (do pure (Next.value (← Instr.loadAt T (ev ρ x))) : Sem Next).run P w = _
  simp [rLoad]
theorem run_isAgg1 {P : Program} {w : World} {T : TypeId} (h : 1 ≤ kindT P T ∧ kindT P T ≤ 6 ∨ kindT P T = 8) : (isAgg T).run P w = .ok false w := by
  unfold kindT at h
  simp only [isAgg]
  split at h <;> first
    | (rename_i e; simp [run_underlying e]; done)
    | (simp at h; done)
theorem run_isAgg7 {P : Program} {w : World} {T : TypeId} (h : kindT P T = 7) : (isAgg T).run P w = .ok true w := by
  unfold kindT at h
  simp only [isAgg]
  split at h <;> first
    | (rename_i e; simp [run_underlying e]; done)
    | (simp at h; done)
theorem oneT_spec {P : Program} {T : TypeId} (h : oneT P T = true) : 1 ≤ kindT P T ∧ kindT P T ≤ 6 ∨ kindT P T = 8 := by
  simpa [oneT] using h
theorem e_load (T : TypeId) (a : Addr) (v : Value) (h : oneT P T = true) (hc : w.cell? a = some v) : rLoad P T (.pointer (some a)) w = .ok (.value v) w := by
  simp [rLoad, Instr.loadAt, Instr.sureAddr, loadVar, run_isAgg1 (oneT_spec h), hc]
theorem e_ld {T : TypeId} (h : oneT P T = true) (a : Addr) : rLoad P T (.pointer (some a)) w = match w.cell? a with | some v => .ok (.value v) w | none => ((Instr.loadAt T (.pointer (some a))).run P w).andThen fun v w' => .ok (.value v) w' := by
  cases hc : w.cell? a with
  | none => rfl
  | some v => exact e_load P w T a v h hc
/-- n cells from o on. -/
def cellsAt (f : Nat → Option Value) (o : Nat) : Nat → Option (List Value)
  | 0 => some []
  | n + 1 => match f o with
    | some v => (cellsAt f (o + 1) n).map (v :: ·)
    | none => none
theorem cellsAt_spec (f : Nat → Option Value) : ∀ (n o : Nat) (cs : List Value), cellsAt f o n = some cs → cs.length = n ∧ ∀ j v, cs[j]? = some v → f (o + j) = some v
  | 0, o, cs, h => by simp [cellsAt] at h; subst h; simp
  | n + 1, o, cs, h => by
    simp only [cellsAt] at h
    cases hf : f o with
    | none => simp [hf] at h
    | some v =>
      simp only [hf, Option.map_eq_some_iff] at h
      obtain ⟨cs', h', rfl⟩ := h
      obtain ⟨h1, h2⟩ := cellsAt_spec f n (o + 1) cs' h'
      refine ⟨by simp [h1], fun j u hu => ?_⟩
      cases j with
      | zero => simp at hu; subst hu; simpa using hf
      | succ j => have := h2 j u (by simpa using hu); rwa [show o + (j + 1) = o + 1 + j by omega]
theorem e_loadAgg (T : TypeId) (b o : Nat) (cs : List Value) (h : kindT P T = 7) (hi : infoT P T = true) (hc : cellsAt (fun j => w.cell? ⟨b, j, none⟩) o (szT P T) = some cs) :
    rLoad P T (.pointer (some ⟨b, o, none⟩)) w = .ok (.value (.agg cs.toArray)) w := by
  obtain ⟨h1, h2⟩ := cellsAt_spec _ _ _ _ hc
  have := run_loadCells_list (P := P) w ⟨b, o, none⟩ cs (fun j v hv => by rw [add_mk]; exact h2 j v hv)
  rw [h1] at this
  simp [rLoad, Instr.loadAt, Instr.sureAddr, loadVar, run_isAgg7 h, run_sizeOf hi, this]

theorem e_lda {T n : TypeId} (h : kindT P T = 7) (hi : infoT P T = true) (hn : szT P T = n) (b o : Nat) :
    rLoad P T (.pointer (some ⟨b, o, none⟩)) w = match cellsAt (fun j => w.cell? ⟨b, j, none⟩) o n with | some cs => .ok (.value (.agg cs.toArray)) w | none => ((Instr.loadAt T (.pointer (some ⟨b, o, none⟩))).run P w).andThen fun v w' => .ok (.value v) w' := by
  cases hc : cellsAt (fun j => w.cell? ⟨b, j, none⟩) o n with
  | none => rfl
  | some v => exact e_loadAgg P w T b o v h hi (by rw [hn]; exact hc)
theorem cells0 (f : Nat → Option Value) (o : Nat) : cellsAt f o 0 = some [] := rfl
theorem cellsS (f : Nat → Option Value) (o n : Nat) : cellsAt f o (n + 1) = match f o with | some v => (cellsAt f (o + 1) n).map (v :: ·) | none => none := rfl
theorem cells1 (f : Nat → Option Value) (o : Nat) : cellsAt f o 1 = match f o with | some a => some [a] | none => none := by
  cases h0 : f o <;> simp [cellsAt, h0]
theorem cells2 (f : Nat → Option Value) (o : Nat) : cellsAt f o 2 = match f o, f (o + 1) with | some a, some b => some [a, b] | _, _ => none := by
  cases h0 : f o <;> cases h1 : f (o + 1) <;> simp [cellsAt, h0, h1]
theorem cells3 (f : Nat → Option Value) (o : Nat) : cellsAt f o 3 = match f o, f (o + 1), f (o + 2) with | some a, some b, some c => some [a, b, c] | _, _, _ => none := by
  cases h0 : f o <;> cases h1 : f (o + 1) <;> cases h2 : f (o + 2) <;> simp [cellsAt, h0, h1, h2]
theorem cells4 (f : Nat → Option Value) (o : Nat) : cellsAt f o 4 = match f o, f (o + 1), f (o + 2), f (o + 3) with | some a, some b, some c, some d => some [a, b, c, d] | _, _, _, _ => none := by
  cases h0 : f o <;> cases h1 : f (o + 1) <;> cases h2 : f (o + 2) <;> cases h3 : f (o + 3) <;> simp [cellsAt, h0, h1, h2, h3]
theorem cells5 (f : Nat → Option Value) (o : Nat) : cellsAt f o 5 = match f o, f (o + 1), f (o + 2), f (o + 3), f (o + 4) with | some a, some b, some c, some d, some e => some [a, b, c, d, e] | _, _, _, _, _ => none := by
  cases h0 : f o <;> cases h1 : f (o + 1) <;> cases h2 : f (o + 2) <;> cases h3 : f (o + 3) <;> cases h4 : f (o + 4) <;> simp [cellsAt, h0, h1, h2, h3, h4]

def rStore (P : Program) (T : TypeId) (a x : Value) (w : World) : Result Next := ((Instr.storeAt T a x).run P w).andThen fun _ w' => .ok .skip w'
theorem o_store (T : TypeId) (a x : Operand) : rop P ty (.store T a x) ρ w = rStore P T (ev ρ a) (ev ρ x) w := by
  show (do Instr.storeAt T (ev ρ a) (ev ρ x); pure Next.skip : Sem Next).run P w = _
  simp [rStore]

def rAlloc (P : Program) (T : TypeId) (w : World) : Result Next := ((Instr.alloc T true (.tuple #[])).run P w).andThen fun v w' => .ok (.value v) w'
theorem o_alloc (T : TypeId) : rop P ty (.alloc T) ρ w = rAlloc P T w := by
  show (do pure (Next.value (← Instr.alloc T true (.tuple #[]))) : Sem Next).run P w = _
  simp [rAlloc]
theorem e_alloc (T : TypeId) (z : List Value) (h : zeroT P T = some z) : rAlloc P T w = .ok (.value (.pointer (some ⟨w.heap.size, 0, none⟩))) (w.alloc (.cells z.toArray T)) := by
  unfold zeroT at h
  cases hi : P.info? T with
  | none => simp [hi] at h
  | some i =>
    cases hz : i.zero with
    | none => simp [hi, hz] at h
    | some v =>
      simp [hi, hz] at h
      subst h
      simp [rAlloc, Instr.alloc, zeroValue, typeInfo, hi, hz, newVar, newRow]

theorem o_box (T : TypeId) (x : Operand) : rop P ty (.box T x) ρ w = .ok (.value (.pointer (some ⟨w.heap.size, 0, none⟩))) (w.alloc (.cells (ev ρ x).cells T)) := by
  show (do pure (Next.value (← Instr.box T (ev ρ x))) : Sem Next).run P w = _
  simp [Instr.box, newVar, newRow]
end rules2

theorem e_ifT {α : Type} (a b : α) : (if true = true then a else b) = a := rfl
theorem e_ifF {α : Type} (a b : α) : (if false = true then a else b) = b := rfl

end Go.Wf
