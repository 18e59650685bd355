/-
  THE WALK BY simp: its rules; numbers.
-/
import Derived.Test.YtcoikmapjepdjaaGreatDoorC03
import Derived.Test.YtcoikmapjepdjaaGreatDoorC05
set_option linter.unusedSimpArgs false
set_option linter.unusedVariables false
set_option linter.unusedSectionVars false
namespace Ab
open Go Go.RowKit
variable [Mode]
universe u
attribute [simp] tg_ts ts_length te_length tg_te tg_nil tg_zero tg_succ aval_tmp aval_const aval_global aval_func put_some put_none known_eq known_none op_tmp op_const aguard_none' aguard_some ares1_tmp ares1_cell hget_add hget_zero hset_add hset_zero
attribute [simp] aappendZ acopy acopyC acap aclear amake abstr abytes aminmax arange anext amakeMap alookup amapUpdate adelete afind isInts alookup1 amapUpdate1 afind1 asliceP asliceW_str asliceW_pl asliceW_arr asliceW_arc asliceW_nils asliceW_emp asliceW_nn asliceW_ptr
attribute [simp] alen afield afieldAddr aindex aindexAddr aextract aslice aconv abuildSlice aload astore abox rd wr sub aappend acells afill anil aeqs aeq1

/-! nothing is looked at within code that is not yet reached -/
/-- a box that simp does not open -/
class Hd (α : Sort u) where
  v : α
/-- where the walk by simp stops: a call, a piece of code, both ways of a bool -/
def StA (P : Program) (f : FuncId) (args : List AV) (σ : Heap) [R : Hd (AV → Heap → Prop)] : Prop := ACalls P f args σ R.v
def StY (P : Program) (r : Nat) (args : List AV) (σ : Heap) [R : Hd (AV → Heap → Prop)] : Prop := AYield P r args σ R.v
def StC (P : Program) (rd : Option Nat) [c : Hd Code] [Q : Hd (Exit → Env → Heap → Prop)] (env : Env) (σ : Heap) : Prop := ACode P rd c.v Q.v env σ
def CsT (b : Bool) [X : Hd Prop] [Y : Hd Prop] : Prop := Cs b X.v Y.v
theorem ACode_loopT {P : Program} {rd : Option Nat} {c : Code} {Q : Exit → Env → Heap → Prop} {env : Env} {σ : Heap} (I : Env → Heap → Prop) (μ : Env → Heap → Nat) (h0 : I env σ)
    (round : ∀ env σ, I env σ → awp P rd c (QThen (fun env' σ' => I env' σ' ∧ μ env' σ' < μ env σ) Q) env σ) : @StC _ P rd ⟨.loop c⟩ ⟨Q⟩ env σ := ACode_loop' I μ h0 round
theorem CsT.intro {b : Bool} {X Y : Prop} (h : b = true → X) (h' : b = false → Y) : @CsT b ⟨X⟩ ⟨Y⟩ := ⟨h, h'⟩
theorem StA.of {P : Program} {f : FuncId} {args : List AV} {σ : Heap} {R : AV → Heap → Prop} (h : ACalls P f args σ R) : @StA _ P f args σ ⟨R⟩ := h
theorem CsT_true (X Y : Hd Prop) : @CsT true X Y = X.v := by simp [CsT, Cs]
theorem CsT_false (X Y : Hd Prop) : @CsT false X Y = Y.v := by simp [CsT, Cs]
section congrs
variable {P : Program} {rd : Option Nat} {c : Code} {Q : Exit → Env → Heap → Prop} {N K : Env → Heap → Prop} {env env' : Env} {σ σ' : Heap} {ops l : List Oper} {o : Oper} {e : Exit}
@[congr] theorem ACode_cg (h : env = env') (h' : σ = σ') : ACode P rd c Q env σ = ACode P rd c Q env' σ' := by rw [h, h']
@[congr] theorem awp_cg (h : env = env') (h' : σ = σ') : awp P rd c Q env σ = awp P rd c Q env' σ' := by rw [h, h']
@[congr] theorem aws_cg (h : env = env') (h' : σ = σ') : aws P ops l K env σ = aws P ops l K env' σ' := by rw [h, h']
@[congr] theorem aw1_cg {K : AV → Heap → Prop} (h : env = env') (h' : σ = σ') : aw1 P o K env σ = aw1 P o K env' σ' := by rw [h, h']
@[congr] theorem QThen_cg (h : env = env') (h' : σ = σ') : QThen N Q e env σ = QThen N Q e env' σ' := by rw [h, h']
@[congr] theorem QBlock_cg {id : Nat} (h : env = env') (h' : σ = σ') : QBlock id Q e env σ = QBlock id Q e env' σ' := by rw [h, h']
@[congr] theorem QFn_cg {fn : Func} {R : AV → Heap → Prop} (h : env = env') (h' : σ = σ') : QFn P fn R e env σ = QFn P fn R e env' σ' := by rw [h, h']
@[congr] theorem ACalls_cg {f : FuncId} {args args' : List AV} {R : AV → Heap → Prop} (h : args = args') (h' : σ = σ') : ACalls P f args σ R = ACalls P f args' σ' R := by rw [h, h']
@[congr] theorem aguard_cg {t t' : List AV} {g : Option (Nat × Bool)} (h : t = t') : aguard ops t g = aguard ops t' g := by rw [h]
@[congr] theorem Cs_cg {b b' : Bool} {X Y : Prop} (h : b = b') : Cs b X Y = Cs b' X Y := by rw [h]
/-- what an operation gives goes on -/
def Om (r : Option (AV × Heap)) (K : AV → Heap → Prop) : Prop := match r with
  | some (v, s) => K v s
  | none => False
@[congr] theorem Om_cg {r r' : Option (AV × Heap)} {K : AV → Heap → Prop} (h : r = r') : Om r K = Om r' K := by rw [h]
theorem Om_some (v : AV) (s : Heap) (K : AV → Heap → Prop) : Om (some (v, s)) K = K v s := (rfl)
theorem Om_none (K : AV → Heap → Prop) : Om none K = False := (rfl)
/-- a guarded operation -/
def Og (P : Program) (ops : List Oper) (o : Oper) (rest : List Oper) (K : Env → Heap → Prop) (env : Env) (σ : Heap) (g : Option (Option (Option Tmp × Bool × Bool))) : Prop := match g with
  | some none => aw1 P o (fun v σ' => aws P ops rest K (env.put o.dst v) σ') env σ
  | some (some (d, b, want)) => Cs (b == want) (aw1 P o (fun v σ' => aws P ops rest K ((env.known d want).put o.dst v) σ') (env.known d want) σ) (aws P ops rest K ((env.known d (!want)).put o.dst (.tup [])) σ)
  | none => False
@[congr] theorem Og_cg {g g' : Option (Option (Option Tmp × Bool × Bool))} (h : g = g') : Og P ops o l K env σ g = Og P ops o l K env σ g' := by rw [h]
theorem Og_some {d : Option Tmp} {b want : Bool} : Og P ops o l K env σ (some (some (d, b, want))) = @CsT (b == want) ⟨aw1 P o (fun v σ' => aws P ops l K ((env.known d want).put o.dst v) σ') (env.known d want) σ⟩ ⟨aws P ops l K ((env.known d (!want)).put o.dst (.tup [])) σ⟩ := (rfl)
theorem awp_skip : awp P rd .skip Q env σ = Q .normal env σ := (rfl)
theorem awp_label {n : Nat} : awp P rd (.label n) Q env σ = Q .normal env σ := (rfl)
theorem awp_exit {n : Nat} : awp P rd (.exit n) Q env σ = Q (.exit n) env σ := (rfl)
theorem awp_goto {n : Nat} : awp P rd (.goto n) Q env σ = Q (.goto n) env σ := (rfl)
theorem awp_ret : awp P rd .ret Q env σ = Q .ret env σ := (rfl)
theorem awp_region {id : Nat} : awp P rd (.region id l.toArray false) Q env σ = aws P l l (Q .normal) env σ := (rfl)
theorem awp_draw {id : Nat} {a : Array Oper} : awp P rd (.region id a true) Q env σ = @StC _ P rd ⟨.region id a true⟩ ⟨Q⟩ env σ := (rfl)
theorem awp_seq {a b : Code} : awp P rd (.seq a b) Q env σ = awp P rd a (QThen (awp P rd b Q) Q) env σ := (rfl)
/-- a condition -/
def Oc (x : AV) (X Y : Prop) : Prop := match x with
  | .bool p => Cs p X Y
  | _ => False
@[congr] theorem Oc_cg {x x' : AV} {X Y : Prop} (h : x = x') : Oc x X Y = Oc x' X Y := by rw [h]
theorem Oc_bool {p : Bool} {X Y : Prop} : Oc (.bool p) X Y = @CsT p ⟨X⟩ ⟨Y⟩ := (rfl)
theorem awp_cond {x : Operand} {a b : Code} : awp P rd (.cond x a b) Q env σ = Oc (aval env.t x) (awp P rd a Q (env.op x true) σ) (awp P rd b Q (env.op x false) σ) := (rfl)
theorem awp_block {id : Nat} {a : Code} : awp P rd (.block id a) Q env σ = awp P rd a (QBlock id Q) env σ := (rfl)
theorem awp_loop {a : Code} : awp P rd (.loop a) Q env σ = @StC _ P rd ⟨.loop a⟩ ⟨Q⟩ env σ := (rfl)
theorem awp_rangeFunc {f : Operand} {ps : Array Tmp} {a b : Code} : awp P rd (.rangeFunc f ps a b) Q env σ = @StC _ P rd ⟨.rangeFunc f ps a b⟩ ⟨Q⟩ env σ := (rfl)
theorem aws_nil : aws P ops [] K env σ = K env σ := (rfl)
section one
variable {dst : Option Tmp} {ty : TypeId} {pos : String} {after : Array Edge} {op : Op} {K1 : AV → Heap → Prop}
theorem aws_plain : aws P ops (⟨dst, op, ty, pos, after, none⟩ :: l) K env σ = aw1 P ⟨dst, op, ty, pos, after, none⟩ (fun v σ' => aws P ops l K (env.put dst v) σ') env σ := (rfl)
theorem aws_guard {j : Nat} {w : Bool} : aws P ops (⟨dst, op, ty, pos, after, some (j, w)⟩ :: l) K env σ = Og P ops ⟨dst, op, ty, pos, after, some (j, w)⟩ l K env σ (aguard ops env.t (some (j, w))) := (rfl)
variable {g : Option (Nat × Bool)}
theorem aw1_move {x : Operand} : aw1 P ⟨dst, .move x, ty, pos, after, g⟩ K1 env σ = K1 (aval env.t x) σ := (rfl)
theorem aw1_assign {x : Operand} : aw1 P ⟨dst, .assign x, ty, pos, after, g⟩ K1 env σ = K1 (aval env.t x) σ := (rfl)
/-- one of two -/
def Pk (c x y : AV) : Option AV := match c with
  | .bool p => some (if p then x else y)
  | _ => none
theorem aw1_pick {c x y : Operand} : aw1 P ⟨dst, .pick c x y, ty, pos, after, g⟩ K1 env σ = Om ((Pk (aval env.t c) (aval env.t x) (aval env.t y)).map (·, σ)) K1 := by
  simp only [aw1, aop, Om, Pk]
  cases aval env.t c <;> rfl
theorem aw1_alloc {e : TypeId} : aw1 P ⟨dst, .alloc e, ty, pos, after, g⟩ K1 env σ = Om ((tz P e).bind fun z => abox z σ) K1 := (rfl)
theorem aw1_box {e : TypeId} {x : Operand} : aw1 P ⟨dst, .box e x, ty, pos, after, g⟩ K1 env σ = Om (abox (aval env.t x) σ) K1 := (rfl)
theorem aw1_build {e : TypeId} {ps : Array (Nat × Operand)} : aw1 P ⟨dst, .build e ps, ty, pos, after, g⟩ K1 env σ = Om ((abuild P e (ps.toList.map fun p => (p.1, aval env.t p.2))).map (·, σ)) K1 := (rfl)
theorem aw1_buildSlice {e : TypeId} {n : Nat} {ps : Array (Nat × Operand)} : aw1 P ⟨dst, .buildSlice e n ps, ty, pos, after, g⟩ K1 env σ = Om (abuildSlice P e n (ps.toList.map fun p => (p.1, aval env.t p.2)) σ) K1 := (rfl)
theorem aw1_load {e : TypeId} {x : Operand} : aw1 P ⟨dst, .load e x, ty, pos, after, g⟩ K1 env σ = Om ((aload P e (aval env.t x) σ).map (·, σ)) K1 := (rfl)
theorem aw1_store {e : TypeId} {x y : Operand} : aw1 P ⟨dst, .store e x y, ty, pos, after, g⟩ K1 env σ = Om ((astore P e (aval env.t x) (aval env.t y) σ).map (AV.any, ·)) K1 := (rfl)
theorem aw1_nilCheck {x : Operand} : aw1 P ⟨dst, .nilCheck x, ty, pos, after, g⟩ K1 env σ = Om ((anilCheck (aval env.t x)).map (·, σ)) K1 := (rfl)
theorem aw1_binOp {b : BinOp} {xt yt : TypeId} {x y : Operand} : aw1 P ⟨dst, .binOp b xt x y yt, ty, pos, after, g⟩ K1 env σ = Om ((abinO P b xt y (aval env.t x) (aval env.t y)).map (·, σ)) K1 := (rfl)
theorem aw1_unOp {b : UnOp} {xt : TypeId} {x : Operand} : aw1 P ⟨dst, .unOp b xt x, ty, pos, after, g⟩ K1 env σ = Om ((aun b (aval env.t x)).map (·, σ)) K1 := (rfl)
theorem aw1_convert {s d : TypeId} {x : Operand} : aw1 P ⟨dst, .convert s d x, ty, pos, after, g⟩ K1 env σ = Om (aconvW P s d (aval env.t x) σ) K1 := (rfl)
theorem aw1_makeSlice {e : TypeId} {x y : Operand} : aw1 P ⟨dst, .makeSlice e x y, ty, pos, after, g⟩ K1 env σ = Om (amake P e (aval env.t x) (aval env.t y) σ) K1 := (rfl)
theorem aw1_makeMap {e : TypeId} : aw1 P ⟨dst, .makeMap e none, ty, pos, after, g⟩ K1 env σ = Om (amakeMap P e σ) K1 := (rfl)
theorem aw1_lookup {e : TypeId} {x y : Operand} {ok : Bool} : aw1 P ⟨dst, .lookup e x y ok, ty, pos, after, g⟩ K1 env σ = Om ((alookup P e (aval env.t x) (aval env.t y) ok σ).map (·, σ)) K1 := (rfl)
theorem aw1_mapUpdate {e : TypeId} {m x y : Operand} : aw1 P ⟨dst, .mapUpdate e m x y, ty, pos, after, g⟩ K1 env σ = Om ((amapUpdate P e (aval env.t m) (aval env.t x) (aval env.t y) σ).map (AV.any, ·)) K1 := (rfl)
theorem aw1_range {e : TypeId} {x : Operand} : aw1 P ⟨dst, .range e x, ty, pos, after, g⟩ K1 env σ = Om (arange P e (aval env.t x) σ) K1 := (rfl)
theorem aw1_next {x : Operand} {b : Bool} : aw1 P ⟨dst, .next x b, ty, pos, after, g⟩ K1 env σ = Om (anext (aval env.t x) b σ) K1 := (rfl)
theorem aw1_makeFunc {f : Fn} {xs ys : Array Operand} : aw1 P ⟨dst, .makeFunc f xs ys, ty, pos, after, g⟩ K1 env σ = K1 (.fn f (xs.toList.map (aval env.t)) (ys.toList.map (aval env.t))) σ := (rfl)
theorem aw1_slice {e : TypeId} {x : Operand} {lo hi mx : Option Operand} : aw1 P ⟨dst, .slice e x lo hi mx, ty, pos, after, g⟩ K1 env σ = Om ((asliceW P e (aval env.t x) (lo.map (aval env.t)) (hi.map (aval env.t)) (mx.map (aval env.t)) σ).map (·, σ)) K1 := (rfl)
theorem aw1_fieldAddr {e : TypeId} {x : Operand} {i : Nat} : aw1 P ⟨dst, .fieldAddr e x i, ty, pos, after, g⟩ K1 env σ = Om ((afieldAddr P e (aval env.t x) i).map (·, σ)) K1 := (rfl)
theorem aw1_field {e : TypeId} {x : Operand} {i : Nat} : aw1 P ⟨dst, .field e x i, ty, pos, after, g⟩ K1 env σ = Om ((afield P e (aval env.t x) i).map (·, σ)) K1 := (rfl)
theorem aw1_indexAddr {e : TypeId} {x i : Operand} : aw1 P ⟨dst, .indexAddr e x i, ty, pos, after, g⟩ K1 env σ = Om ((aindexAddr P e (aval env.t x) (aval env.t i)).map (·, σ)) K1 := (rfl)
theorem aw1_index {e : TypeId} {x i : Operand} : aw1 P ⟨dst, .index e x i, ty, pos, after, g⟩ K1 env σ = Om ((aindex P e (aval env.t x) (aval env.t i)).map (·, σ)) K1 := (rfl)
theorem aw1_extract {x : Operand} {i : Nat} : aw1 P ⟨dst, .extract x i, ty, pos, after, g⟩ K1 env σ = Om ((aextract (aval env.t x) i).map (·, σ)) K1 := (rfl)
theorem aw1_builtin {b : Builtin} {args : Array Operand} {ts : Array TypeId} : aw1 P ⟨dst, .call { callee := .builtin b, args := args, argTypes := ts }, ty, pos, after, g⟩ K1 env σ = Om (abuiltin P b ts (args.toList.map (aval env.t)) σ) K1 := (rfl)
/-- a call of a function's value -/
def Oa (P : Program) (f : AV) (args : List AV) (σ : Heap) (K : AV → Heap → Prop) : Prop := match f with
  | .fn (.func g) first caps => ACalls P g (first ++ args ++ caps) σ K
  | .yld r => AYield P r args σ K
  | _ => False
@[congr] theorem Oa_cg {f f' : AV} {args args' : List AV} (h : f = f') (h2 : args = args') (h3 : σ = σ') : Oa P f args σ K1 = Oa P f' args' σ' K1 := by rw [h, h2, h3]
theorem Oa_fn {f : FuncId} {xs args ys : List AV} : Oa P (.fn (.func f) xs ys) args σ K1 = @StA _ P f (xs ++ args ++ ys) σ ⟨K1⟩ := (rfl)
theorem Oa_yld {r : Nat} {args : List AV} : Oa P (.yld r) args σ K1 = @StY _ P r args σ ⟨K1⟩ := (rfl)
theorem aw1_call {f : Operand} {args : Array Operand} {ts : Array TypeId} : aw1 P ⟨dst, .call { callee := .value f, args := args, argTypes := ts }, ty, pos, after, g⟩ K1 env σ = Oa P (aval env.t f) (args.toList.map (aval env.t)) σ K1 := (rfl)
end one
attribute [simp] Cs_true Cs_false CsT_true CsT_false Om_some Om_none Og_some Oc_bool Oa_fn Oa_yld awp_skip awp_label awp_exit awp_goto awp_ret awp_region awp_draw awp_seq awp_cond awp_block awp_loop awp_rangeFunc aws_nil aws_plain aws_guard Pk aconvW tbytes
attribute [simp] aw1_move aw1_assign aw1_pick aw1_alloc aw1_box aw1_build aw1_buildSlice aw1_load aw1_store aw1_nilCheck aw1_binOp aw1_unOp aw1_convert aw1_makeSlice aw1_makeMap aw1_lookup aw1_mapUpdate aw1_range aw1_next aw1_makeFunc aw1_slice aw1_fieldAddr aw1_field aw1_indexAddr aw1_index aw1_extract aw1_builtin aw1_call
end congrs
theorem int_beq (a b : Int) : (a == b) = decide (a = b) := by rw [Bool.eq_iff_iff]; simp
theorem int_bne (a b : Int) : (a != b) = !decide (a = b) := by rw [bne, int_beq]
theorem str_beq (a b : List UInt8) : (a == b) = decide (a = b) := by rw [Bool.eq_iff_iff]; simp
theorem str_bne (a b : List UInt8) : (a != b) = !decide (a = b) := by rw [bne, str_beq]
attribute [simp] abinO isNilC
attribute [simp] int_beq int_bne str_beq str_bne
theorem rep_get (l : List AV) (hk : 0 < l.length) : ∀ (n i : Nat), (List.replicate n l).flatten[i]? = if i < n * l.length then l[i % l.length]? else none := by
  intro n
  induction n with
  | zero => intro i; simp
  | succ n ih =>
    intro i
    rw [List.replicate_succ, List.flatten_cons, List.getElem?_append]
    by_cases h : i < l.length
    · rw [if_pos h, if_pos (by rw [Nat.add_mul]; omega), Nat.mod_eq_of_lt h]
    · rw [if_neg h, ih, Nat.add_mul]
      by_cases h2 : i - l.length < n * l.length
      · rw [if_pos h2, if_pos (by omega), Nat.mod_eq_sub_mod (a := i) (by omega)]
      · rw [if_neg h2, if_neg (by omega)]
theorem azero_eq {P : Program} (e : TypeId) (n : Nat) : azero P e n = match tsa P e, tz P e with
  | some (k, _), some z => if z.known = true ∧ z.cells.length = k ∧ 0 < k then some (List.replicate n z.cells).flatten else none
  | _, _ => none := by
  unfold azero
  split
  · rename_i k ag z hs hz
    rw [hs, hz]
    simp only
    by_cases hh : z.known = true ∧ z.cells.length = k ∧ 0 < k
    · rw [if_pos hh, if_pos hh]
      obtain ⟨_, h2, h3⟩ := hh
      congr 1
      apply List.ext_getElem?
      intro i
      rw [rep_get _ (by omega)]
      rw [List.getElem?_map, h2]
      by_cases hi : i < n * k
      · rw [List.getElem?_range hi, if_pos hi, Option.map_some, List.getD_eq_getElem?_getD, List.getElem?_eq_getElem (by rw [h2]; exact Nat.mod_lt _ h3)]
        simp
      · rw [if_neg hi, List.getElem?_eq_none (by simpa using hi)]
        rfl
    · rw [if_neg hh, if_neg hh]
  · rename_i h
    split
    · rename_i k ag z hs hz
      exact absurd hz (h k ag z hs)
    · rfl
attribute [simp] azero_eq
theorem w64 {n : Int} (h1 : -9223372036854775808 ≤ n) (h2 : n ≤ 9223372036854775807) : IntKind.i64.wrap n = n := by
  unfold IntKind.wrap
  have e1 : (IntKind.bits .i64) = 64 := rfl
  have e2 : IntKind.signed .i64 = true := rfl
  simp only [e1, e2, Bool.true_and, decide_eq_true_eq]
  have e3 : (2 ^ 64 : Int) = 18446744073709551616 := by decide
  have e4 : (2 ^ (64 - 1) : Int) = 9223372036854775808 := by decide
  rw [e3, e4]
  split <;> omega
theorem w8 {n : Int} (h1 : 0 ≤ n) (h2 : n ≤ 255) : IntKind.u8.wrap n = n := by
  unfold IntKind.wrap
  have e1 : (IntKind.bits .u8) = 8 := rfl
  have e2 : IntKind.signed .u8 = false := rfl
  simp only [e1, e2, Bool.false_and, Bool.false_eq_true, if_false]
  have e3 : (2 ^ 8 : Int) = 256 := by decide
  rw [e3]; omega
theorem u8_lt (c : UInt8) : c.toNat < 256 := c.toNat_lt
end Ab
