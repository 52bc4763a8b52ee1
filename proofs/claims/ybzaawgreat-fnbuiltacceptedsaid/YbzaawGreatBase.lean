/-  A walk of our own over the model's code: the frame is a function from slots to values.  Proved sound against the kit's 'Code.wp' and 'Calls'.  -/
import Derived.Orders
import Derived.Tactics
import Derived.KernelRfl
namespace Go.Wf

abbrev Env := Nat → Value

def upd (ρ : Env) (i : Nat) (v : Value) : Env := fun j => if j = i then v else ρ j
def put (ρ : Env) (d : Option Tmp) (v : Value) : Env := match d with | some i => upd ρ i v | none => ρ

theorem upd_same (ρ : Env) (i : Nat) (v : Value) : upd ρ i v i = v := by simp [upd]
theorem upd_ne (ρ : Env) {i j : Nat} (v : Value) (h : j ≠ i) : upd ρ i v j = ρ j := by simp [upd, h]

def ev (ρ : Env) : Operand → Value
  | .tmp t => ρ t
  | .const v => v
  | .global g => .pointer (some ⟨g, 0, none⟩)
  | .func f => .func (.func f) #[] #[]

/-- The call returns, and what it returns meets R. -/
structure CallsV (P : Program) (f : FuncId) (args : Array Value) (w : World) (R : Value → World → Prop) : Prop where
  out : Calls P f args w fun e w' => ∃ v, e = .returned v ∧ R v w'

theorem CallsV.mono {P : Program} {f : FuncId} {args : Array Value} {w : World} {R R' : Value → World → Prop} (h : CallsV P f args w R)
    (hr : ∀ v w', R v w' → R' v w') : CallsV P f args w R' :=
  ⟨Calls.mono h.out fun _ w' ⟨v, e, r⟩ => ⟨v, e, hr v w' r⟩⟩

def WRes (P : Program) (dst : Option Tmp) (ρ : Env) (next : Env → World → Prop) : Result Next → Prop
  | .ok (.value v) w' => next (put ρ dst v) w'
  | .ok .skip w' => next (put ρ dst undef) w'
  | .ok (.enter f args) w' => CallsV P f args w' fun v w'' => next (put ρ dst v) w''
  | _ => False

def wantE (gs : List (Option Tmp)) (ρ : Env) : Option (Nat × Bool) → Bool
  | none => true
  | some (j, want) =>
    match (gs[j]?).join with
    | some d => (match ρ d with | .bool b => b == want | _ => false)
    | none => false

def WOps (P : Program) (gs : List (Option Tmp)) (k : Env → World → Prop) : List Oper → Env → World → Prop
  | [], ρ, w => k ρ w
  | o :: rest, ρ, w =>
    if wantE gs ρ o.guard = true then WRes P o.dst ρ (WOps P gs k rest) ((execOp (ev ρ) o).run P w) else WOps P gs k rest (put ρ o.dst undef) w

def WOp (P : Program) (ops : Array Oper) (i : Nat) (K : Env → World → Prop) (ρ : Env) (w : World) : Prop :=
  match ops[i]? with
  | none => K ρ w
  | some o => if wantE (ops.toList.map (·.dst)) ρ o.guard = true then WRes P o.dst ρ K ((execOp (ev ρ) o).run P w) else K (put ρ o.dst undef) w

def WAny (P : Program) (ops : Array Oper) (k : Env → World → Prop) : Nat → Array Bool → Env → World → Prop
  | 0, listed, ρ, w => Region.ready .any ops listed = [] ∧ k ρ w
  | n + 1, listed, ρ, w =>
    (Region.ready .any ops listed = [] → k ρ w) ∧
    ∀ i ∈ Region.ready .any ops listed, WOp P ops i (WAny P ops k n (listed.setIfInBounds i true)) ρ w

def thenK (next : Env → World → Prop) (k : Exit → Env → World → Prop) : Exit → Env → World → Prop
  | .normal, ρ, w => next ρ w
  | e, ρ, w => k e ρ w

def blockK (id : Nat) (k : Exit → Env → World → Prop) : Exit → Env → World → Prop
  | .exit id', ρ, w => if id' = id then k .normal ρ w else k (.exit id') ρ w
  | e, ρ, w => k e ρ w

def W (P : Program) : Code → (Exit → Env → World → Prop) → Env → World → Prop
  | .skip, k => k .normal
  | .region _ ops false, k => WOps P (ops.toList.map (·.dst)) (k .normal) ops.toList
  | .region _ ops true, k => fun ρ w => WAny P ops (k .normal) ops.size (Array.replicate ops.size false) ρ { w with drawn := w.drawn + 1 }
  | .seq a b, k => W P a (thenK (W P b k) k)
  | .cond c a b, k => fun ρ w => ∃ t, ev ρ c = .bool t ∧ (t = true → W P a k ρ w) ∧ (t = false → W P b k ρ w)
  | .block id c, k => W P c (blockK id k)
  | .loop c, k => fun ρ w => ∃ (I : Env → World → Prop) (μ : Env → World → Nat), I ρ w ∧
      ∀ ρ w, I ρ w → W P c (thenK (fun ρ' w' => I ρ' w' ∧ μ ρ' w' < μ ρ w) k) ρ w
  | .exit id, k => k (.exit id)
  | .ret, k => k .ret
  | _, _ => fun _ _ => False

/-- Every slot that is written lies in the frame. -/
def dstOk (n : Nat) (o : Oper) : Bool := match o.dst with | some d => decide (d < n) | none => true
def okCode (n : Nat) : Code → Bool
  | .region _ ops _ => ops.toList.all (dstOk n)
  | .seq a b => okCode n a && okCode n b
  | .cond _ a b => okCode n a && okCode n b
  | .block _ c => okCode n c
  | .loop c => okCode n c
  | _ => true

def envOf (tmps : Array Value) : Env := fun i => tmps.getD i undef

theorem ev_envOf (a : Act) : a.eval = ev (envOf a.tmps) := by
  funext x; cases x <;> rfl

theorem put_envOf (tmps : Array Value) (d : Option Tmp) (v : Value) (h : ∀ i, d = some i → i < tmps.size) :
    envOf ((Act.put ⟨tmps, []⟩ d v).tmps) = put (envOf tmps) d v := by
  cases d with
  | none => rfl
  | some i =>
    have hi := h i rfl
    funext j
    show (tmps.setIfInBounds i v).getD j undef = upd (envOf tmps) i v j
    unfold upd envOf
    by_cases hj : j = i
    · subst hj; simp [hi]
    · simp [hj, Array.getElem?_setIfInBounds_ne (Ne.symm hj)]

theorem put_size (tmps : Array Value) (d : Option Tmp) (v : Value) : (Act.put ⟨tmps, []⟩ d v).tmps.size = tmps.size := by
  cases d <;> simp [Act.put]

theorem put_mk (tmps : Array Value) (d : Option Tmp) (v : Value) : Act.put ⟨tmps, []⟩ d v = ⟨(Act.put ⟨tmps, []⟩ d v).tmps, []⟩ := by
  cases d <;> rfl

theorem wantE_eq (ops : Array Oper) (o : Oper) (tmps : Array Value) :
    wantE (ops.toList.map (·.dst)) (envOf tmps) o.guard = Region.wanted o (yielded ops tmps) := by
  unfold wantE Region.wanted yielded
  cases o.guard with
  | none => rfl
  | some g =>
    obtain ⟨j, want⟩ := g
    simp only [List.getElem?_map, Array.getElem?_toList]
    cases h : ops[j]? with
    | none => simp
    | some oj =>
      cases hd : oj.dst with
      | none => simp [hd]
      | some d =>
        simp only [Option.map_some, hd, Option.join_some, Option.bind_some]
        unfold envOf
        by_cases hlt : d < tmps.size
        · have e1 : tmps.getD d undef = tmps[d] := by simp [Array.getD, hlt]
          rw [e1, Array.getElem?_eq_getElem hlt]
          generalize tmps[d] = x
          cases x <;> simp
        · simp [Array.getD, hlt, undef]

section
variable {P : Program} {n : Nat} {Q : Exit → Act → World → Prop}

theorem upon_of_WRes {o : Oper} {tmps : Array Value} {w : World} {K : Env → World → Prop} {K' : Act → World → Prop} (hs : tmps.size = n) (hd : dstOk n o = true)
    (hk : ∀ t w', t.size = n → K (envOf t) w' → K' ⟨t, []⟩ w') (h : WRes P o.dst (envOf tmps) K ((execOp (ev (envOf tmps)) o).run P w)) :
    o.wp P ⟨tmps, []⟩ w K' Q := by
  have hlt : ∀ i, o.dst = some i → i < tmps.size := fun i hi => by
    simp only [dstOk, hi, decide_eq_true_eq] at hd; exact Nat.lt_of_lt_of_eq hd hs.symm
  have go : ∀ v w', K (put (envOf tmps) o.dst v) w' → K' (Act.put ⟨tmps, []⟩ o.dst v) w' := fun v w' hv => by
    rw [put_mk]
    exact hk _ _ (by rw [put_size]; exact hs) (by rw [put_envOf _ _ _ hlt]; exact hv)
  unfold Oper.wp
  rw [ev_envOf]
  show o.upon P ⟨tmps, []⟩ K' Q ((execOp (ev (envOf tmps)) o).run P w)
  generalize (execOp (ev (envOf tmps)) o).run P w = r at h
  cases r with
  | halt x w' => exact h.elim
  | ok nx w' =>
    cases nx <;> simp only [WRes] at h <;> simp only [Oper.upon]
    case value v => exact go _ _ h
    case skip => exact go _ _ h
    case enter f args => exact Calls.mono h.out fun e w'' ⟨v, he, hv⟩ => by subst he; exact go _ _ hv

theorem wpList_of_WOps {gs : List (Option Tmp)} {ops : Array Oper} (hgs : gs = ops.toList.map (·.dst)) {k : Env → World → Prop}
    (hk : ∀ t w', t.size = n → k (envOf t) w' → Q .normal ⟨t, []⟩ w') :
    ∀ (l : List Oper) (tmps : Array Value) (w : World), tmps.size = n → l.all (dstOk n) = true → WOps P gs k l (envOf tmps) w → wpList P ops Q l ⟨tmps, []⟩ w := by
  intro l
  induction l with
  | nil => intro tmps w hs _ h; exact hk _ _ hs h
  | cons o rest ih =>
    intro tmps w hs hall h
    simp only [List.all_cons, Bool.and_eq_true] at hall
    obtain ⟨hd, hall⟩ := hall
    simp only [WOps] at h
    simp only [wpList]
    subst hgs
    rw [wantE_eq] at h
    split at h
    · rename_i hw
      rw [if_pos hw]
      exact .inl (upon_of_WRes hs hd (fun t w' ht hK => ih t w' ht hall hK) h)
    · rename_i hw
      rw [if_neg hw, put_mk]
      refine ih _ _ (by rw [put_size]; exact hs) hall ?_
      rw [put_envOf _ _ _ (fun i hi => by simp only [dstOk, hi, decide_eq_true_eq] at hd; exact Nat.lt_of_lt_of_eq hd hs.symm)]
      exact h

theorem wpAny_of_WAny {ops : Array Oper} {k : Env → World → Prop} (hall : ops.toList.all (dstOk n) = true)
    (hk : ∀ t w', t.size = n → k (envOf t) w' → Q .normal ⟨t, []⟩ w') :
    ∀ (fuel : Nat) (listed : Array Bool) (tmps : Array Value) (w : World), tmps.size = n → WAny P ops k fuel listed (envOf tmps) w →
      wpAny P .any ops Q fuel listed ⟨tmps, []⟩ w := by
  intro fuel
  induction fuel with
  | zero => intro listed tmps w hs h; exact ⟨h.1, hk _ _ hs h.2⟩
  | succ fuel ih =>
    intro listed tmps w hs h
    refine ⟨fun h0 => hk _ _ hs (h.1 h0), fun i hi => ?_⟩
    have h1 := h.2 i hi
    unfold WOp at h1
    unfold wpOp
    split at h1
    · rename_i ho
      simp only [ho]
      exact ih _ _ _ hs h1
    · rename_i o ho
      simp only [ho]
      have hd : dstOk n o = true := List.all_eq_true.1 hall o (by
        have := Array.mem_of_getElem? ho
        simpa using this)
      rw [wantE_eq] at h1
      split at h1
      · rename_i hw
        rw [if_pos hw]
        exact .inl (upon_of_WRes hs hd (fun t w' ht hK => ih _ t w' ht hK) h1)
      · rename_i hw
        rw [if_neg hw, put_mk]
        refine ih _ _ _ (by rw [put_size]; exact hs) ?_
        rw [put_envOf _ _ _ (fun i hi => by simp only [dstOk, hi, decide_eq_true_eq] at hd; exact Nat.lt_of_lt_of_eq hd hs.symm)]
        exact h1

theorem W_sound (hm : P.follows .mixedOrders = true) : ∀ (c : Code) {Q : Exit → Act → World → Prop} {k : Exit → Env → World → Prop} (tmps : Array Value) (w : World), okCode n c = true → tmps.size = n →
    (∀ e t w', t.size = n → k e (envOf t) w' → Q e ⟨t, []⟩ w') → W P c k (envOf tmps) w → c.wp P Q ⟨tmps, []⟩ w := by
  intro c
  induction c with
  | skip => intro Q k tmps w _ hs hk h; exact wp_skip (hk _ _ _ hs h)
  | exit id => intro Q k tmps w _ hs hk h; exact wp_exit (hk _ _ _ hs h)
  | ret => intro Q k tmps w _ hs hk h; exact wp_ret (hk _ _ _ hs h)
  | region id ops draw =>
    intro Q k tmps w hok hs hk h
    cases draw with
    | false =>
      refine wp_region_list ?_
      exact wpList_of_WOps rfl (fun t w' ht hK => hk _ _ _ ht hK) _ _ _ hs hok h
    | true =>
      exact wp_region_any hm (wpAny_of_WAny hok (fun t w' ht hK => hk _ _ _ ht hK) _ _ _ _ hs h)
  | seq a b iha ihb =>
    intro Q k tmps w hok hs hk h
    simp only [okCode, Bool.and_eq_true] at hok
    refine wp_seq (iha tmps w hok.1 hs (fun e t w' ht hK => ?_) h)
    cases e with
    | normal => exact ihb t w' hok.2 ht hk hK
    | exit id => exact hk _ _ _ ht hK
    | goto l => exact hk _ _ _ ht hK
    | ret => exact hk _ _ _ ht hK
    | panic ch => exact hk _ _ _ ht hK
    | outgrown => exact hk _ _ _ ht hK
  | cond c a b iha ihb =>
    intro Q k tmps w hok hs hk h
    simp only [okCode, Bool.and_eq_true] at hok
    obtain ⟨t, ht, h1, h2⟩ := h
    refine wp_cond_split (t := t) (by rw [ev_envOf]; exact ht) (fun e => iha tmps w hok.1 hs hk (h1 e)) (fun e => ihb tmps w hok.2 hs hk (h2 e))
  | block id c ih =>
    intro Q k tmps w hok hs hk h
    refine wp_block (ih tmps w hok hs (fun e t w' ht hK => ?_) h)
    cases e with
    | exit id' =>
      simp only [blockK] at hK
      simp only [Exit.inBlock]
      split at hK
      · rename_i e; rw [if_pos e]; exact hk _ _ _ ht hK
      · rename_i e; rw [if_neg e]; exact hk _ _ _ ht hK
    | normal => exact hk _ _ _ ht hK
    | goto l => exact hk _ _ _ ht hK
    | ret => exact hk _ _ _ ht hK
    | panic ch => exact hk _ _ _ ht hK
    | outgrown => exact hk _ _ _ ht hK
  | loop c ih =>
    intro Q k tmps w hok hs hk h
    obtain ⟨I, μ, h0, hround⟩ := h
    refine wp_loop (fun a w => a.defers = [] ∧ a.tmps.size = n ∧ I (envOf a.tmps) w) (fun a w => μ (envOf a.tmps) w) ⟨rfl, hs, h0⟩ ?_
    rintro ⟨t, ds⟩ w' ⟨hd, ht, hI⟩
    obtain rfl : ds = [] := hd
    refine ih t w' hok ht (fun e t' w'' ht' hK => ?_) (hround _ _ hI)
    cases e with
    | normal => exact ⟨⟨rfl, ht', hK.1⟩, hK.2⟩
    | exit id => exact hk _ _ _ ht' hK
    | goto l => exact hk _ _ _ ht' hK
    | ret => exact hk _ _ _ ht' hK
    | panic ch => exact hk _ _ _ ht' hK
    | outgrown => exact hk _ _ _ ht' hK
  | rangeFunc => intro Q k tmps w _ _ _ h; exact h.elim
  | scope => intro Q k tmps w _ _ _ h; exact h.elim
  | label => intro Q k tmps w _ _ _ h; exact h.elim
  | goto => intro Q k tmps w _ _ _ h; exact h.elim
  | refuse => intro Q k tmps w _ _ _ h; exact h.elim

end

def resultsE (fn : Func) (ρ : Env) : Sem Value := do
  let vs ← fn.results.mapM fun
    | .tmp t => pure (ρ t)
    | .cell a t => do loadVar t (← asAddr (ρ a))
  pure (if h : vs.size = 1 then vs[0] else .tuple vs)

/-- What is asked where the body ends. -/
def retK (P : Program) (fn : Func) (R : Value → World → Prop) : Exit → Env → World → Prop
  | .normal, ρ, w | .ret, ρ, w => ∃ v, (resultsE fn ρ).run P w = .ok v w ∧ R v w
  | _, _, _ => False

def initEnv (args : Array Value) : Env := fun i => args.getD i undef

theorem callsV_of_W {P : Program} {f : FuncId} {fn : Func} {c : Code} {args : Array Value} {w : World} {R : Value → World → Prop} (hm : P.follows .mixedOrders = true)
    (hf : P.funcs[f]? = some fn) (hb : fn.body = some c) (hok : okCode fn.ntmps c = true) (hn : args.size ≤ fn.ntmps)
    (h : W P c (retK P fn R) (initEnv args) w) : CallsV P f args w R := by
  refine ⟨calls_of_wp hf hb ?_⟩
  have hs : (args ++ Array.replicate (fn.ntmps - args.size) undef).size = fn.ntmps := by simp; omega
  have he : envOf (args ++ Array.replicate (fn.ntmps - args.size) undef) = initEnv args := by
    funext i
    unfold envOf initEnv
    by_cases h1 : i < args.size
    · simp [Array.getD, h1]; omega
    · by_cases h2 : i < fn.ntmps
      · have : i < args.size + (fn.ntmps - args.size) := by omega
        simp [Array.getD, h1, this, Array.getElem_append_right (Nat.le_of_not_lt h1)]
      · have : ¬ i < args.size + (fn.ntmps - args.size) := by omega
        simp [Array.getD, h1, this]
  refine W_sound (n := fn.ntmps) hm c (k := retK P fn R) _ _ hok hs (fun e t w' ht hK => ?_) (by rw [he]; exact h)
  have hres : ∀ t : Array Value, results fn t = resultsE fn (envOf t) := fun t => rfl
  cases e with
  | normal => obtain ⟨v, hv, hr⟩ := hK; exact ⟨rfl, v, by rw [hres]; exact hv, v, rfl, hr⟩
  | ret => obtain ⟨v, hv, hr⟩ := hK; exact ⟨rfl, v, by rw [hres]; exact hv, v, rfl, hr⟩
  | exit id => exact hK.elim
  | goto l => exact hK.elim
  | panic ch => exact hK.elim
  | outgrown => exact hK.elim

/-- Behind a structure, so that the code is not laid open where two of them do not match. -/
structure VC (P : Program) (c : Code) (k : Exit → Env → World → Prop) (ρ : Env) (w : World) : Prop where
  out : W P c k ρ w

/-! ### What the table of types says -/
def kindT (P : Program) (T : TypeId) : Nat :=
  match P.underlying T with
  | some (.int .i64) => 1 | some (.int .u8) => 2 | some (.int .u64) => 3 | some .bool => 4 | some .string => 5
  | some (.slice _) => 6 | some (.struct _) => 7 | some (.pointer _) => 8 | _ => 0
def elT (P : Program) (T : TypeId) : Nat := match P.underlying T with | some (.slice e) => e | _ => 0
def szT (P : Program) (T : TypeId) : Nat := P.cellsOf T
def infoT (P : Program) (T : TypeId) : Bool := (P.info? T).isSome
/-- The cells of the zero value. -/
def zeroT (P : Program) (T : TypeId) : Option (List Value) := (P.info? T).bind fun i => i.zero.map fun z => z.cells.toList
/-- The offset of a field that is not empty. -/
def offT (P : Program) (T : TypeId) (f : Nat) : Option Nat :=
  match P.underlying T with
  | some (.struct fs) => (fs[f]?).bind fun x => if P.cellsOf x.type = 0 ∨ (P.info? x.type).isNone then none else some x.offset
  | _ => none
/-- Each field of the struct is one cell. -/
def flatT (P : Program) (T : TypeId) : Bool :=
  match P.underlying T with
  | some (.struct fs) => (List.range fs.size).all fun i => match fs[i]? with | some f => f.offset == i && P.cellsOf f.type == 1 && (P.info? f.type).isSome | none => false
  | _ => false
def callable (P : Program) (f : FuncId) : Bool :=
  match P.funcs[f]? with
  | some fn => fn.body.isSome && !(fn.name == "runtime.NumGoroutine")
  | none => false

/-- The kinds whose variables are one cell. -/
def oneT (P : Program) (T : TypeId) : Bool := (decide (1 ≤ kindT P T) && decide (kindT P T ≤ 6)) || decide (kindT P T = 8)

end Go.Wf
