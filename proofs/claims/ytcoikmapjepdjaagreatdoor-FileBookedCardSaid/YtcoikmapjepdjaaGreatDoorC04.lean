/-
  WHAT simp KNOWS OF TEMPORARIES AND OF THE HEAP.
-/
import Derived.Test.YtcoikmapjepdjaaGreatDoorC03
set_option linter.unusedSimpArgs false
set_option linter.unusedVariables false
set_option linter.unusedSectionVars false
namespace Ab
open Go Go.RowKit
variable [Mode]
variable {P : Program}

/-- a temporary -/
def tg (t : List AV) (i : Nat) : AV := t.getD i .any
/-- one is put -/
def ts (t : List AV) (i : Nat) (v : AV) : List AV := t.set i v
/-- those at a function's beginning -/
def te (args : List AV) (n : Nat) : List AV := args ++ List.replicate (n - args.length) .any
theorem tg_ts (t : List AV) (i j : Nat) (v : AV) : tg (ts t i v) j = if i = j then (if i < t.length then v else .any) else tg t j := by
  unfold tg ts
  simp only [List.getD_eq_getElem?_getD, List.getElem?_set]
  split
  · rename_i e; subst e
    split <;> rfl
  · rfl
theorem ts_length (t : List AV) (i : Nat) (v : AV) : (ts t i v).length = t.length := by simp [ts]
theorem te_length {args : List AV} {n : Nat} (h : args.length ≤ n) : (te args n).length = n := by simp [te]; omega
theorem tg_te (args : List AV) (n j : Nat) : tg (te args n) j = tg args j := by
  unfold tg te
  simp only [List.getD_eq_getElem?_getD]
  rcases Nat.lt_or_ge j args.length with h | h
  · rw [List.getElem?_append_left h]
  · rw [List.getElem?_append_right h, List.getElem?_eq_none h, List.getElem?_replicate]
    split <;> rfl
theorem tg_nil (j : Nat) : tg [] j = .any := (rfl)
theorem tg_zero (v : AV) (l : List AV) : tg (v :: l) 0 = v := (rfl)
theorem tg_succ (v : AV) (l : List AV) (j : Nat) : tg (v :: l) (j + 1) = tg l j := (rfl)
theorem aval_tmp (t : List AV) (i : Nat) : aval t (.tmp i) = tg t i := (rfl)
theorem aval_const (t : List AV) (v : Value) : aval t (.const v) = ofValue v := (rfl)
theorem aval_global (t : List AV) (g : Nat) : aval t (.global g) = .gl g := (rfl)
theorem aval_func (t : List AV) (f : FuncId) : aval t (.func f) = .fn (.func f) [] [] := (rfl)
theorem put_some (e : Env) (d : Tmp) (v : AV) : e.put (some d) v = { e with t := ts e.t d v } := (rfl)
theorem put_none (e : Env) (v : AV) : e.put none v = e := (rfl)
theorem known_eq (e : Env) (d : Tmp) (b : Bool) : e.known (some d) b = { e with t := ts e.t d (.bool b) } := (rfl)
theorem known_none (e : Env) (b : Bool) : e.known none b = e := (rfl)
theorem op_tmp (e : Env) (d : Tmp) (b : Bool) : e.op (.tmp d) b = { e with t := ts e.t d (.bool b) } := (rfl)
theorem op_const (e : Env) (v : Value) (b : Bool) : e.op (.const v) b = e := (rfl)
theorem aguard_none' (ops : List Oper) (t : List AV) : aguard ops t none = some none := (rfl)
theorem aguard_some (ops : List Oper) (t : List AV) (j : Nat) (w : Bool) : aguard ops t (some (j, w)) = match (ops[j]?).bind (·.dst) with
    | some d => (match tg t d with
      | .bool b => some (some (some d, b, w))
      | .tup _ => some (some (none, !w, w))
      | _ => none)
    | none => none := (rfl)
theorem ares1_tmp (t : List AV) (σ : Heap) (i : Nat) : ares1 P t σ (.tmp i) = some (tg t i) := (rfl)
theorem ares1_cell (t : List AV) (σ : Heap) (a : Nat) (ty : TypeId) : ares1 P t σ (.cell a ty) = aload P ty (tg t a) σ := (rfl)
/-- THE FUNCTION's CONTRACT, at the temporaries' beginning. -/
theorem acalls_fn {f : FuncId} {fn : Func} {c : Code} {args : List AV} {σ : Heap} {R : AV → Heap → Prop} (hf : P.funcs[f]? = some fn) (hb : fn.body = some c) (hen : Enters P f)
    (h : awp P none c (QFn P fn R) { t := te args fn.ntmps } σ) : ACalls P f args σ R := acalls_of hf hb hen (awp_sound c h)
theorem aenter_fn {f : FuncId} {fn : Func} {c : Code} {args : List AV} {σ : Heap} {R : AV → Heap → Prop} (hf : P.funcs[f]? = some fn) (hb : fn.body = some c) (hen : Enters P f)
    (h : awp P none c (QFn P fn R) { t := te args fn.ntmps } σ) : AEnter P f args σ R := aenter_of hf hb hen (awp_sound c h)
/-- a loop, with its invariant on the temporaries alone -/
theorem ACode_loop' {rd : Option Nat} {c : Code} {Q : Exit → Env → Heap → Prop} {env : Env} {σ : Heap} (I : Env → Heap → Prop) (μ : Env → Heap → Nat) (h0 : I env σ)
    (round : ∀ env σ, I env σ → awp P rd c (QThen (fun env' σ' => I env' σ' ∧ μ env' σ' < μ env σ) Q) env σ) : ACode P rd (.loop c) Q env σ :=
  ACode_loop I μ h0 fun env σ hi => awp_sound c (round env σ hi)

theorem Cs_true (X Y : Prop) : Cs true X Y = X := by simp [Cs]
theorem Cs_false (X Y : Prop) : Cs false X Y = Y := by simp [Cs]
theorem Cs.intro {b : Bool} {X Y : Prop} (h : b = true → X) (h' : b = false → Y) : Cs b X Y := ⟨h, h'⟩

/-! the heap -/
theorem hget_add (x y : Heap) (k : Nat) : (x ++ y)[x.length + k]? = y[k]? := by
  rw [List.getElem?_append_right (by omega)]; congr 1; omega
theorem hget_zero (x y : Heap) : (x ++ y)[x.length]? = y[0]? := hget_add x y 0
theorem hset_add (x y : Heap) (k : Nat) (o : AObj) : (x ++ y).set (x.length + k) o = x ++ y.set k o := by
  rw [List.set_append_right _ _ (by omega)]; congr 2; omega
theorem hset_zero (x y : Heap) (o : AObj) : (x ++ y).set x.length o = x ++ y.set 0 o := hset_add x y 0 o
/-- a place in a struct (or array) of this type: where it lies, how great -/
def apl (P : Program) (t : TypeId) (i : Nat) : Option (Nat × Nat) := (aplace P t).bind fun f => f i
omit [Mode] in
theorem abuild_apl {t : TypeId} {l : List AV} (hz : tz P t = some (.agg l)) (hk : l.all AV.one = true) (hp : (aplace P t).isSome = true) (parts : List (Nat × AV)) : abuild P t parts = (afill (apl P t) l parts).map AV.agg := by
  unfold abuild
  rw [hz]
  cases h : aplace P t with
  | none => rw [h] at hp; cases hp
  | some pl =>
    have : apl P t = pl := by funext i; simp [apl, h]
    simp only [AV.known, hk, if_true, this, AV.cells]
end Ab
