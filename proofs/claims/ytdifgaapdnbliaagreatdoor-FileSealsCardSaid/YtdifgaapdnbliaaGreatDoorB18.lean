/-
  CLOSED RUNS, where regions may lay several variables in any order.
-/
import Derived.Test.YtdifgaapdnbliaaGreatDoorB17
set_option linter.unusedSimpArgs false
set_option linter.unusedVariables false
namespace Ab
open Go Go.RowKit
variable {P : Program}

/-! ### operations that only read: the same with more objects -/
def framedOp (o : Oper) : Bool := match o.op with
  | .move _ | .assign _ | .load _ _ | .nilCheck _ | .binOp _ _ _ _ _ | .unOp _ _ _ | .fieldAddr _ _ _ | .field _ _ _ | .indexAddr _ _ _ | .index _ _ _ | .extract _ _ => true
  | _ => false
theorem get_more' {σ g : Heap} {r : Nat} {o : AObj} (h : σ[r]? = some o) : (σ ++ g)[r]? = some o := by
  rw [List.getElem?_append_left (List.getElem?_eq_some_iff.1 h).1]; exact h
theorem aload_frame {t : TypeId} {p v : AV} {σ : Heap} (g : Heap) (h : aload P t p σ = some v) : aload P t p (σ ++ g) = some v := by
  unfold aload at h ⊢
  cases ht : tsa P t with
  | none => rw [ht] at h; cases h
  | some na =>
    obtain ⟨n, ag⟩ := na
    rw [ht] at h
    simp only at h ⊢
    cases p
    case ptr r off =>
      simp only at h ⊢
      cases hr : σ[r]? with
      | none => rw [hr] at h; cases h
      | some o =>
        rw [hr] at h
        rw [get_more' hr]
        exact h
    all_goals exact h
theorem framed_aop {o : Oper} {t : List AV} {σ s : Heap} {v : AV} (hl : framedOp o = true) (h : aop P t σ o = some (v, s)) (g : Heap) : aop P t (σ ++ g) o = some (v, σ ++ g) := by
  obtain ⟨dst, op, ty, pos, after, guard⟩ := o
  unfold framedOp at hl
  cases op <;> simp only [Bool.false_eq_true] at hl <;> simp only [aop] at h ⊢
  case load =>
    obtain ⟨h1, -⟩ := map_pair (α := AV) h
    rw [aload_frame g h1]
    rfl
  all_goals first
    | (obtain ⟨h1, -⟩ := map_pair (α := AV) h
       rw [h1]
       rfl)
    | (simp only [Option.some.injEq, Prod.mk.injEq] at h ⊢
       exact ⟨h.1, trivial⟩)
theorem framed_nocall {o : Oper} (hl : framedOp o = true) : isCall o = false := by
  obtain ⟨dst, op, ty, pos, after, guard⟩ := o
  cases op
  case call c => exact absurd hl (by simp [framedOp])
  all_goals rfl
/-- what calls answer that leave no object, with whatever objects more -/
abbrev FOrc := FuncId → List AV → Heap → Option AV
def FOrc.Good (P : Program) (F : FOrc) : Prop := ∀ (f : FuncId) (args : List AV) (σ : Heap) (v : AV), F f args σ = some v → ∀ g : Heap, ACalls P f args (σ ++ g) fun v1 s1 => v1 = v ∧ s1 = σ ++ g
def evf (P : Program) (F : FOrc) (o : Oper) (t : List AV) (σ : Heap) : Option AV :=
  match o.op with
  | .call { callee := .value f, args, .. } =>
    (match aval t f with
    | .fn (.func g) first caps => F g (first ++ args.toList.map (aval t) ++ caps) σ
    | _ => none)
  | _ => if framedOp o then (aop P t σ o).map (·.1) else none
theorem evf_sound {F : FOrc} (hF : F.Good P) {o : Oper} {env : Env} {σ : Heap} {v : AV} (h : evf P F o env.t σ = some v) (g : Heap) : aw1 P o (fun v1 s1 => v1 = v ∧ s1 = σ ++ g) env (σ ++ g) := by
  unfold evf at h
  unfold aw1
  split at h
  · rename_i f args ts hop
    rw [hop]
    simp only
    split at h
    · rename_i q first caps hg
      rw [hg]
      exact hF _ _ _ _ h g
    · cases h
  · rename_i hne
    split
    · rename_i f args ts hop
      exact absurd hop (hne f args ts)
    · split at h
      · rename_i hl
        rw [Option.map_eq_some_iff] at h
        obtain ⟨⟨v1, s1⟩, h1, rfl⟩ := h
        rw [framed_aop hl h1 g]
        exact ⟨rfl, rfl⟩
      · cases h

/-! ### what does not name new objects -/
def fzB (n : Nat) : Nat → AV → Bool
  | 0, _ => false
  | k + 1, v => match v with
    | .any | .bool _ | .int _ _ | .str _ | .nilp | .gl _ | .nils | .emp | .nn | .nilm | .nilf | .nili => true
    | .ptr r _ => decide (r < n)
    | .yld r => decide (r < n)
    | .arr _ r _ _ => decide (r < n)
    | .pl _ l => l.all fun x => x.cells.all (fzB n k)
    | .agg l => l.all (fzB n k)
    | .tup l => l.all (fzB n k)
    | _ => false
theorem fzB_sound {n : Nat} : ∀ (k : Nat) (v : AV) (S : Heap), fzB n k v = true → Fz n S v v := by
  intro k
  induction k with
  | zero => intro v S h; cases h
  | succ k ih =>
    intro v S h
    have lst : ∀ l : List AV, l.all (fzB n k) = true → ∀ (i : Nat) (x y : AV), l[i]? = some x → l[i]? = some y → Fz n S x y := by
      intro l hl i x y hx hy
      rw [hx] at hy
      obtain rfl := Option.some.inj hy
      exact ih _ _ (List.all_eq_true.1 hl _ (List.mem_of_getElem? hx))
    cases v <;> simp only [fzB, decide_eq_true_eq, Bool.false_eq_true] at h
    case any => exact .any _
    case bool => exact .bool _
    case int => exact .int _ _
    case str => exact .str _
    case nilp => exact .nilp
    case gl => exact .gl _
    case nils => exact .nils
    case emp => exact .emp
    case nn => exact .nn
    case nilm => exact .nilm
    case nilf => exact .nilf
    case nili => exact .nili
    case ptr => exact .ptr _ _ h
    case yld => exact .yld _ h
    case arr => exact .keep _ _ _ _ h
    case pl l =>
      exact .pl _ _ fun i x hx j y hy => ih _ _ (List.all_eq_true.1 (List.all_eq_true.1 h _ (List.mem_of_getElem? hx)) _ (List.mem_of_getElem? hy))
    case agg l => exact .agg _ _ rfl (lst l h)
    case tup l => exact .tup _ _ rfl (lst l h)

/-! ### the region -/
def allocsOf (ops : List Oper) : List Nat := (List.range ops.length).filter fun i => match ops[i]? with
  | some o => (match o.op with
    | .alloc _ => true
    | _ => false)
  | none => false
def usesOf (ops : List Oper) (A : List Nat) : List Nat := A.map fun a => match ops[a]? with
  | some o => (match o.dst with
    | some d => ops.findIdx fun o' => match o'.op with
      | .store _ (.tmp d') _ => d == d'
      | _ => false
    | none => 0)
  | none => 0
def evL (P : Program) (F : FOrc) (ops : List Oper) (S : List Nat) (σ : Heap) : List Oper → Nat → Env → List AV → List AV
  | [], _, _, rs => rs
  | o :: rest, i, env, rs =>
    if S.contains i then evL P F ops S σ rest (i + 1) (env.put o.dst .any) (rs ++ [.any])
    else match awantB ops env.t o.guard with
    | some true => (match evf P F o env.t σ with
      | some v => evL P F ops S σ rest (i + 1) (env.put o.dst v) (rs ++ [v])
      | none => rs)
    | some false => evL P F ops S σ rest (i + 1) (env.put o.dst (.tup [])) (rs ++ [.tup []])
    | none => rs
def nodupB : List Nat → Bool
  | [] => true
  | x :: l => !l.contains x && nodupB l
theorem nodupB_sound : ∀ l : List Nat, nodupB l = true → l.Nodup := by
  intro l
  induction l with
  | nil => intro _; exact .nil
  | cons x l ih =>
    intro h
    simp only [nodupB, Bool.and_eq_true, Bool.not_eq_true', List.contains_eq_mem, decide_eq_false_iff_not] at h
    exact List.nodup_cons.2 ⟨h.1, ih h.2⟩
def zcOf (P : Program) (ops : List Oper) (a : Nat) : List AV := match ops[a]? with
  | some o => (match o.op with
    | .alloc e => (match tz P e with
      | some z => z.cells
      | none => [])
    | _ => [])
  | none => []
def stOf (P : Program) (ops : List Oper) (A U : List Nat) (t : Nat → List AV) (a : Nat) : List AV := match ops[U.getD (A.idxOf a) 0]? with
  | some o => (match o.op with
    | .store _ _ x => wr (zcOf P ops a) 0 (aval (t (U.getD (A.idxOf a) 0)) x).cells
    | _ => [])
  | none => []
def okA (P : Program) (ops : List Oper) (n a : Nat) : Bool := match ops[a]? with
  | some o => (match o.op, o.dst with
    | .alloc e, some d => o.guard.isNone && decide (d < n) && ((List.range ops.length).all fun j => (ops[j]?).bind (·.dst) != some d || j == a) && (match tz P e with
      | some z => z.known
      | none => false)
    | _, _ => false)
  | none => false
def notD (ops : List Oper) (A : List Nat) (t : Tmp) : Bool := A.all fun a => (ops[a]?).bind (·.dst) != some t
def okU (P : Program) (ops : List Oper) (A : List Nat) (t : Nat → List AV) (a u : Nat) : Bool := match ops[u]? with
  | some o => (match o.op with
    | .store ty (.tmp d) x => o.guard.isNone && o.dst.isNone && ((ops[a]?).bind (·.dst) == some d) && bef (masks ops) u a && (match x with
      | .tmp t => notD ops A t
      | _ => true) && (match tsa P ty with
      | some (n, _) => decide ((aval (t u) x).cells.length = n) && (aval (t u) x).cells.all AV.one && decide (n ≤ (zcOf P ops a).length)
      | none => false)
    | _ => false)
  | none => false
def okL (P : Program) (F : FOrc) (ops : List Oper) (A : List Nat) (t : Nat → List AV) (r : Nat → AV) (σ : Heap) (i : Nat) : Bool := match ops[i]? with
  | some o => (tnames ops o).all (notD ops A) && (match awantB ops (t i) o.guard with
    | some true => (match evf P F o (t i) σ with
      | some v => AV.eqb 20 v (r i)
      | none => false)
    | some false => AV.eqb 20 (r i) (.tup [])
    | none => false)
  | none => true
def okLay (P : Program) (F : FOrc) (ops : List Oper) (A U : List Nat) (env : Env) (σ : Heap) (r : Nat → AV) : Bool :=
  let t := fun i => (envF ops r env tr i).t
  nodupB A && nodupB U && (A.all (okA P ops env.t.length)) && ((List.range A.length).all fun p => okU P ops A t (A.getD p 0) (U.getD p 0)) &&
  ((List.range ops.length).all fun i => (A.contains i || U.contains i || okL P F ops A t r σ i) && (A.contains i || fzB σ.length 20 (r i))) && A.all fun a => (stOf P ops A U t a).all (fzB σ.length 20)
theorem okLay_sound {F : FOrc} (hF : F.Good P) {ops : List Oper} {A U : List Nat} {env : Env} {σ : Heap} {r : Nat → AV} (hlen : A.length = U.length) (hr : ∀ i, ops.length ≤ i → r i = .any) (h : okLay P F ops A U env σ r = true) :
    LayA P ops A U env σ r (zcOf P ops) (stOf P ops A U fun i => (envF ops r env tr i).t) := by
  unfold okLay at h
  simp only [Bool.and_eq_true] at h
  obtain ⟨⟨⟨⟨⟨h1, h2⟩, h3⟩, h4⟩, h5⟩, h6⟩ := h
  have nd := nodupB_sound _ h1
  have none' : ∀ g : Option (Nat × Bool), g.isNone = true → g = none := fun g hg => by cases g <;> first | rfl | cases hg
  refine ⟨hlen, nd, nodupB_sound _ h2, ?_, ?_, ?_, ?_, ?_⟩
  · intro a ha
    have := List.all_eq_true.1 h3 a ha
    unfold okA at this
    split at this
    · rename_i o ho
      split at this
      · rename_i e d hop hd
        simp only [Bool.and_eq_true, decide_eq_true_eq] at this
        obtain ⟨⟨⟨g1, g2⟩, g3⟩, g4⟩ := this
        refine ⟨o, d, e, ho, hop, none' _ g1, hd, g2, fun j hj => ?_, fun τ => ?_⟩
        · have hlt : j < ops.length := by
            rw [Option.bind_eq_some_iff] at hj
            obtain ⟨x, hx, _⟩ := hj
            exact (List.getElem?_eq_some_iff.1 hx).1
          have := List.all_eq_true.1 g3 j (by simpa using hlt)
          rw [hj] at this
          simpa using this
        · split at g4
          · rename_i z hz
            unfold zcOf
            rw [ho]
            simp only [hop, hz, Option.bind_some, abox, g4, if_true]
          · cases g4
      · cases this
    · cases this
  · intro p a u ha hu
    have hp := (List.getElem?_eq_some_iff.1 ha).1
    have := List.all_eq_true.1 h4 p (by simpa using hp)
    have hA : A.getD p 0 = a := by rw [List.getD_eq_getElem?_getD, ha]; rfl
    have hU : U.getD p 0 = u := by rw [List.getD_eq_getElem?_getD, hu]; rfl
    rw [hA, hU] at this
    unfold okU at this
    split at this
    · rename_i o ho
      split at this
      · rename_i ty d x hop
        simp only [Bool.and_eq_true] at this
        obtain ⟨⟨⟨⟨⟨g1, g2⟩, g3⟩, g4⟩, g5⟩, g6⟩ := this
        refine ⟨o, ty, d, x, ho, hop, none' _ g1, by cases hd : o.dst <;> first | rfl | (rw [hd] at g2; cases g2), by simpa using g3, g4, fun t ht a' ha' => ?_, fun τ q hq => ?_⟩
        · subst ht
          simp only [notD] at g5
          simpa using List.all_eq_true.1 g5 a' ha'
        · split at g6
          · rename_i n ag hn
            simp only [Bool.and_eq_true, decide_eq_true_eq] at g6
            obtain ⟨⟨e1, e2⟩, e3⟩ := g6
            unfold astore
            rw [hn]
            simp only
            rw [hq]
            simp only
            rw [if_pos ⟨e1, e2, by omega⟩]
            congr 2
            unfold stOf
            have hi : A.idxOf a = p := by
              have h7 := idxOf_get (List.mem_of_getElem? ha)
              exact (List.getElem?_inj (List.idxOf_lt_length_of_mem (List.mem_of_getElem? ha)) nd).1 (h7.trans ha.symm)
            rw [hi, hU, ho]
            simp only [hop]
          · cases g6
      · cases this
    · cases this
  · intro i o ho hiA hiU
    have hlt := (List.getElem?_eq_some_iff.1 ho).1
    have := List.all_eq_true.1 h5 i (by simpa using hlt)
    rw [Bool.and_eq_true] at this
    obtain ⟨g1, -⟩ := this
    have c1 : A.contains i = false := by simpa using hiA
    have c2 : U.contains i = false := by simpa using hiU
    rw [c1, c2] at g1
    simp only [Bool.false_or] at g1
    unfold okL at g1
    rw [ho] at g1
    simp only [Bool.and_eq_true] at g1
    refine ⟨fun t ht a ha => ?_, ?_⟩
    · have := List.all_eq_true.1 g1.1 t ht
      simpa using List.all_eq_true.1 this a ha
    · have g2 := g1.2
      split at g2
      · rename_i hw
        split at g2
        · rename_i v hv
          obtain rfl := AV.eqb_eq _ _ _ g2
          exact .inl ⟨hw, evf_sound hF hv⟩
        · cases g2
      · rename_i hw
        exact .inr ⟨hw, AV.eqb_eq _ _ _ g2⟩
      · cases g2
  · intro i hiA
    rcases Nat.lt_or_ge i ops.length with hlt | hge
    · have := List.all_eq_true.1 h5 i (by simpa using hlt)
      rw [Bool.and_eq_true] at this
      have c1 : A.contains i = false := by simpa using hiA
      have g2 := this.2
      rw [c1] at g2
      exact fzB_sound _ _ _ g2
    · rw [hr i hge]; exact .any _
  · intro a ha y hy
    exact fzB_sound _ _ _ (List.all_eq_true.1 (List.all_eq_true.1 h6 a ha) y hy)
def evA (P : Program) (F : FOrc) (ops : List Oper) (env : Env) (σ : Heap) : Option (Env × Heap) :=
  let A := allocsOf ops
  let U := usesOf ops A
  let rs := evL P F ops (A ++ U) σ ops 0 env []
  let r := fun i => rs.getD i .any
  if rs.length = ops.length ∧ drawOk ops [] = true ∧ okLay P F ops A U env σ r = true then
    some (envF ops (rrA A σ.length r A) env tr ops.length, σ ++ A.map fun a => .cells (stOf P ops A U (fun i => (envF ops r env tr i).t) a)) else none
theorem evA_sound {rd : Option Nat} {id : Nat} {opsA : Array Oper} {Q : Exit → Env → Heap → Prop} {env env' : Env} {σ σ' : Heap} {F : FOrc} (hF : F.Good P) (hm : P.follows .mixedOrders = true) (h : evA P F opsA.toList env σ = some (env', σ')) (hQ : Q .normal env' σ') :
    ACode P rd (.region id opsA true) Q env σ := by
  unfold evA at h
  simp only at h
  split at h
  · rename_i hc
    simp only [Option.some.injEq, Prod.mk.injEq] at h
    obtain ⟨rfl, rfl⟩ := h
    exact ACode_drawA hm _ _ _ _ _ hc.2.1 (okLay_sound hF (by simp [usesOf]) (fun i hi => by rw [List.getD_eq_getElem?_getD, List.getElem?_eq_none (by omega)]; rfl) hc.2.2) hQ
  · cases h

/-! ### code -/
def evG (P : Program) (F : FOrc) (O : Orc) : Nat → Code → Env → Heap → Option (Exit × Env × Heap)
  | 0, _, _, _ => none
  | n + 1, c, env, σ => match c with
    | .skip => some (.normal, env, σ)
    | .label _ => some (.normal, env, σ)
    | .exit id => some (.exit id, env, σ)
    | .ret => some (.ret, env, σ)
    | .region _ ops d =>
      (match (match d with
        | false => evOps P (fun f args σ => match O f args σ with
          | some r => some r
          | none => evF P (evG P F O n) f args σ) ops.toList ops.toList env σ
        | true => (match evR P (fun f args σ => match O f args σ with
            | some r => some r
            | none => evF P (evG P F O n) f args σ) ops.toList env σ with
          | some r => some r
          | none => evA P F ops.toList env σ)) with
      | some (e, s) => some (.normal, e, s)
      | none => none)
    | .seq a b => (match evG P F O n a env σ with
      | some (e, env', σ') => (match e with
        | .normal => evG P F O n b env' σ'
        | _ => some (e, env', σ'))
      | none => none)
    | .cond x a b => (match aval env.t x with
      | .bool p => (match p with
        | true => evG P F O n a (env.op x true) σ
        | false => evG P F O n b (env.op x false) σ)
      | _ => none)
    | .block id c => (match evG P F O n c env σ with
      | some (e, env', σ') => (match e with
        | .exit id' => if id' = id then some (.normal, env', σ') else some (e, env', σ')
        | _ => some (e, env', σ'))
      | none => none)
    | .loop c => (match evG P F O n c env σ with
      | some (e, env', σ') => (match e with
        | .normal => evG P F O n (.loop c) env' σ'
        | _ => some (e, env', σ'))
      | none => none)
    | .scope c => (match evG P F O n c env σ with
      | some (e, env', σ') => (match e with
        | .goto _ => none
        | _ => some (e, env', σ'))
      | none => none)
    | _ => none
theorem evG_sound {F : FOrc} {O : Orc} (hF : F.Good P) (hm : P.follows .mixedOrders = true) (hO : O.Good P) : ∀ n, CGood P (evG P F O n) := by
  intro n
  induction n using Nat.strongRecOn with
  | _ n ih' =>
  cases n with
  | zero => intro c env σ e env' σ' h; cases h
  | succ n =>
    have ih := ih' n (Nat.lt_succ_self n)
    have hcall : Orc.Good P (fun f args σ => match O f args σ with
        | some r => some r
        | none => evF P (evG P F O n) f args σ) := by
      intro f args σ v σ' h
      simp only at h
      split at h
      · rename_i r hr
        simp only [Option.some.injEq] at h
        subst h
        exact hO _ _ _ _ _ hr
      · exact evF_good ih _ _ _ _ _ h
    intro c env σ e env' σ' h rd
    unfold evG at h
    split at h
    · simp only [Option.some.injEq, Prod.mk.injEq] at h; obtain ⟨rfl, rfl, rfl⟩ := h
      exact awp_sound (P := P) .skip ⟨rfl, rfl, rfl⟩
    · simp only [Option.some.injEq, Prod.mk.injEq] at h; obtain ⟨rfl, rfl, rfl⟩ := h
      exact awp_sound (P := P) (.label _) ⟨rfl, rfl, rfl⟩
    · simp only [Option.some.injEq, Prod.mk.injEq] at h; obtain ⟨rfl, rfl, rfl⟩ := h
      exact awp_sound (P := P) (.exit _) ⟨rfl, rfl, rfl⟩
    · simp only [Option.some.injEq, Prod.mk.injEq] at h; obtain ⟨rfl, rfl, rfl⟩ := h
      exact awp_sound (P := P) .ret ⟨rfl, rfl, rfl⟩
    · rename_i id ops d
      cases d with
      | false =>
        simp only at h
        split at h
        · rename_i e1 s1 h1
          simp only [Option.some.injEq, Prod.mk.injEq] at h; obtain ⟨rfl, rfl, rfl⟩ := h
          exact ACode_region (evOps_sound hcall _ _ _ _ _ h1 ⟨rfl, rfl, rfl⟩)
        · cases h
      | true =>
        simp only at h
        split at h
        · rename_i e1 s1 h1
          simp only [Option.some.injEq, Prod.mk.injEq] at h; obtain ⟨rfl, rfl, rfl⟩ := h
          split at h1
          · rename_i r h2
            simp only [Option.some.injEq] at h1
            subst h1
            unfold evR at h2
            simp only at h2
            split at h2
            · rename_i hok
              exact ACode_draws _ _ hm hok (evD_sound hcall _ _ _ _ _ _ _ _ _ h2 ⟨rfl, rfl, rfl⟩)
            · cases h2
          · exact evA_sound hF hm h1 ⟨rfl, rfl, rfl⟩
        · cases h
    · rename_i a b
      split at h
      · rename_i e1 n1 s1 h1
        refine ACode_seq ((ih _ _ _ _ _ _ h1 rd).mono ?_)
        rintro e2 n2 s2 ⟨rfl, rfl, rfl⟩
        split at h
        · exact ih _ _ _ _ _ _ h rd
        · rename_i hne
          simp only [Option.some.injEq, Prod.mk.injEq] at h; obtain ⟨rfl, rfl, rfl⟩ := h
          cases e2 with
          | normal => exact absurd rfl hne
          | _ => exact ⟨rfl, rfl, rfl⟩
      · cases h
    · rename_i x a b
      split at h
      · rename_i p hp
        split at h
        · exact ACode_cond hp (fun _ => ih _ _ _ _ _ _ h rd) (fun hf => by cases hf)
        · exact ACode_cond hp (fun hf => by cases hf) (fun _ => ih _ _ _ _ _ _ h rd)
      · cases h
    · rename_i id c
      split at h
      · rename_i e1 n1 s1 h1
        refine ACode_block ((ih _ _ _ _ _ _ h1 rd).mono ?_)
        rintro e2 n2 s2 ⟨rfl, rfl, rfl⟩
        split at h
        · rename_i id'
          simp only [QBlock]
          split at h
          · rename_i hid
            rw [if_pos hid]
            simp only [Option.some.injEq, Prod.mk.injEq] at h; obtain ⟨rfl, rfl, rfl⟩ := h
            exact ⟨rfl, rfl, rfl⟩
          · rename_i hid
            rw [if_neg hid]
            simp only [Option.some.injEq, Prod.mk.injEq] at h; obtain ⟨rfl, rfl, rfl⟩ := h
            exact ⟨rfl, rfl, rfl⟩
        · rename_i hne
          simp only [Option.some.injEq, Prod.mk.injEq] at h; obtain ⟨rfl, rfl, rfl⟩ := h
          cases e2 with
          | exit id' => exact absurd rfl (hne id')
          | _ => exact ⟨rfl, rfl, rfl⟩
      · cases h
    · rename_i c
      refine ACode_loopN (n := n + 1) (fun m env σ => m ≤ n + 1 ∧ evG P F O m (.loop c) env σ = some (e, env', σ')) ⟨Nat.le_refl _, by unfold evG; exact h⟩ ?_
      rintro m env1 σ1 ⟨hm1, h1⟩
      cases m with
      | zero => cases h1
      | succ j =>
        unfold evG at h1
        simp only at h1
        split at h1
        · rename_i e1 n1 s1 h2
          refine (ih' j (by omega) _ _ _ _ _ _ h2 rd).mono ?_
          rintro e2 n2 s2 ⟨rfl, rfl, rfl⟩
          split at h1
          · exact ⟨j, by omega, by omega, h1⟩
          · rename_i hne
            simp only [Option.some.injEq, Prod.mk.injEq] at h1; obtain ⟨rfl, rfl, rfl⟩ := h1
            cases e2 with
            | normal => exact absurd rfl hne
            | _ => exact ⟨rfl, rfl, rfl⟩
        · cases h1
    · rename_i c
      split at h
      · rename_i e1 n1 s1 h1
        refine ACode_scope ((ih _ _ _ _ _ _ h1 rd).mono ?_)
        rintro e2 n2 s2 ⟨rfl, rfl, rfl⟩
        split at h
        · cases h
        · rename_i hne
          simp only [Option.some.injEq, Prod.mk.injEq] at h; obtain ⟨rfl, rfl, rfl⟩ := h
          cases e2 with
          | goto l => exact absurd rfl (hne l)
          | _ => exact ⟨rfl, rfl, rfl⟩
      · cases h
    · cases h

/-! ### closed functions -/
theorem APure.runG {F : FOrc} {O : Orc} {f : FuncId} (n : Nat) (hm : P.follows .mixedOrders = true) (hF : F.Good P) (hO : O.Good P) (h : isTrue (evF P (evG P F O n) f [] []) = true) : APure P f [] (.bool true) := by
  unfold isTrue at h
  split at h
  · rename_i b s hr
    subst h
    exact .closed ((evF_good (evG_sound hF hm hO n) f [] [] _ _ hr).mono fun _ _ h => h.1)
  · cases h
end Ab
