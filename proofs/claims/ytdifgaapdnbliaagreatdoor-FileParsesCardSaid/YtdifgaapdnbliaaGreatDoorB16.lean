/-
  REGIONS THAT DRAW, where objects turn and some operations may run at other levels, earlier or later: all that is to be checked is checked at the end. The walk by simp.
-/
import Derived.Test.YtdifgaapdnbliaaGreatDoorB15
set_option linter.unusedSimpArgs false
set_option linter.unusedVariables false
namespace Ab
open Go Go.RowKit
variable {P : Program}
def awv (P : Program) (ops : List Oper) (H : List Nat) (W : List (Nat × Nat)) (K : Env → Heap → Prop) : List Oper → Nat → Env → Heap → List Heap → List (Nat × Oper × AV × Env) → Prop
  | [], _, env, σ, ss, pd => (∀ x ∈ W, x.2 < ss.length) ∧ (∀ x ∈ pd, ∃ s, ss[x.1]? = some s ∧ awFix P x.2.1 x.2.2.1 s x.2.2.2 s) ∧ K env σ
  | o :: rest, i, env, σ, ss, pd =>
    match aguard ops env.t o.guard with
    | some none => if H.contains i then (W.any fun x => x.1 == i) = false ∧ aw1h P o (fun v s => awv P ops H W K rest (i + 1) (env.put o.dst v) s (ss ++ [s]) pd) env σ
        else aw1d P o (fun v => awv P ops H W K rest (i + 1) (env.put o.dst v) σ ss (pd ++ (W.filter fun x => x.1 == i).map fun x => (x.2, o, v, env))) env σ
    | some (some (_, b, want)) => Cs (b == want)
        (if H.contains i then (W.any fun x => x.1 == i) = false ∧ aw1h P o (fun v s => awv P ops H W K rest (i + 1) (env.put o.dst v) s (ss ++ [s]) pd) env σ
        else aw1d P o (fun v => awv P ops H W K rest (i + 1) (env.put o.dst v) σ ss (pd ++ (W.filter fun x => x.1 == i).map fun x => (x.2, o, v, env))) env σ)
        (awv P ops H W K rest (i + 1) (env.put o.dst (.tup [])) σ (if H.contains i then ss ++ [σ] else ss) pd)
    | none => False
/-- what is to be checked -/
def Owed (ops : List Oper) (rs : List AV) (es : List Env) (pd : List (Nat × Oper × AV × Env)) (x : Nat × Nat) : Prop :=
  ∃ o v e, ops[x.1]? = some o ∧ rs[x.1]? = some v ∧ es[x.1]? = some e ∧ (awantB ops e.t o.guard = some false ∨ (x.2, o, v, e) ∈ pd)
theorem Owed.more {ops : List Oper} {rs rs' : List AV} {es es' : List Env} {pd pd' : List (Nat × Oper × AV × Env)} {x : Nat × Nat} (h : Owed ops rs es pd x) : Owed ops (rs ++ rs') (es ++ es') (pd ++ pd') x :=
  let ⟨o, v, e, h1, h2, h3, h4⟩ := h; ⟨o, v, e, h1, get_app h2, get_app h3, h4.imp id fun h => List.mem_append_left _ h⟩
theorem adr_of_awv {ops : List Oper} {H : List Nat} {W : List (Nat × Nat)} {K : Env → Heap → Prop} (hW : ∀ x ∈ W, x.1 < ops.length) : ∀ (l pre : List Oper) (env : Env) (s : Heap) (rs : List AV) (es : List Env) (ss : List Heap) (pd : List (Nat × Oper × AV × Env)),
    ops = pre ++ l → rs.length = pre.length → es.length = pre.length → (∀ x ∈ W, x.1 < pre.length → Owed ops rs es pd x) → awv P ops H W K l pre.length env s ss pd → adr P ops H W K l pre.length env s rs es ss := by
  intro l
  induction l with
  | nil =>
    intro pre env s rs es ss pd ho _ _ hs h
    refine ⟨fun x hx => ?_, h.2.2⟩
    obtain ⟨o, v, e, h1, h2, h3, h4⟩ := hs x hx (by have := hW x hx; rw [ho] at this; simpa using this)
    rw [h1, h2, h3, List.getElem?_eq_getElem (h.1 x hx)]
    rcases h4 with h4 | h4
    · exact .inl h4
    · obtain ⟨s', h5, h6⟩ := h.2.1 _ h4
      simp only at h5
      rw [List.getElem?_eq_getElem (h.1 x hx)] at h5
      obtain rfl := Option.some.inj h5
      exact .inr h6
  | cons o l ih =>
    intro pre env s rs es ss pd ho hr he hs h
    have ho2 : ops = (pre ++ [o]) ++ l := by rw [ho]; simp
    have hoi : ops[pre.length]? = some o := by rw [ho]; simp
    have hlen : (pre ++ [o]).length = pre.length + 1 := by simp
    have next : ∀ (v : AV) (s' : Heap) (ss' : List Heap) (pd' : List (Nat × Oper × AV × Env)), (∀ x ∈ W, x.1 = pre.length → Owed ops (rs ++ [v]) (es ++ [env]) (pd ++ pd') x) → awv P ops H W K l (pre.length + 1) (env.put o.dst v) s' (ss ++ ss') (pd ++ pd') → adr P ops H W K l (pre.length + 1) (env.put o.dst v) s' (rs ++ [v]) (es ++ [env]) (ss ++ ss') := by
      intro v s' ss' pd' hc hw
      rw [← hlen] at hw ⊢
      refine ih (pre ++ [o]) _ _ _ _ _ _ ho2 (by simp [hr]) (by simp [he]) (fun x hx hlt => ?_) hw
      rw [hlen] at hlt
      rcases Nat.lt_or_ge x.1 pre.length with h1 | h1
      · exact (hs x hx h1).more
      · exact hc x hx (by omega)
    have owed : ∀ (v : AV) (pd' : List (Nat × Oper × AV × Env)) (x : Nat × Nat), x.1 = pre.length → (awantB ops env.t o.guard = some false ∨ (x.2, o, v, env) ∈ pd ++ pd') → Owed ops (rs ++ [v]) (es ++ [env]) (pd ++ pd') x := by
      intro v pd' x hx h2
      exact ⟨o, v, env, by rw [hx]; exact hoi, by rw [hx, ← hr]; simp, by rw [hx, ← he]; simp, h2⟩
    have go : (if H.contains pre.length then (W.any fun x => x.1 == pre.length) = false ∧ aw1h P o (fun v s => awv P ops H W K l (pre.length + 1) (env.put o.dst v) s (ss ++ [s]) pd) env s
        else aw1d P o (fun v => awv P ops H W K l (pre.length + 1) (env.put o.dst v) s ss (pd ++ (W.filter fun x => x.1 == pre.length).map fun x => (x.2, o, v, env))) env s) →
        (if isCall o then
        (if H.contains pre.length then ∃ v s', awFix P o v s' env s ∧ adr P ops H W K l (pre.length + 1) (env.put o.dst v) s' (rs ++ [v]) (es ++ [env]) (ss ++ [s'])
         else ∃ v, awFix P o v s env s ∧ adr P ops H W K l (pre.length + 1) (env.put o.dst v) s (rs ++ [v]) (es ++ [env]) ss)
      else
        (match aop P env.t s o with
         | some (v, s') => if H.contains pre.length then adr P ops H W K l (pre.length + 1) (env.put o.dst v) s' (rs ++ [v]) (es ++ [env]) (ss ++ [s'])
            else s' = s ∧ adr P ops H W K l (pre.length + 1) (env.put o.dst v) s (rs ++ [v]) (es ++ [env]) ss
         | none => False)) := by
      intro h1
      have nocall : isCall o = false → ∀ (K : AV → Heap → Prop), aw1 P o K env s → ∃ v s', aop P env.t s o = some (v, s') ∧ K v s' := by
        intro hc K h1
        unfold aw1 at h1
        split at h1
        · rename_i f args ts hop
          unfold isCall at hc
          rw [hop] at hc
          cases hc
        · split at h1
          · rename_i v s' hop
            exact ⟨v, s', hop, h1⟩
          · cases h1
      cases hH : H.contains pre.length with
      | true =>
        rw [hH] at h1
        simp only [if_true] at h1 ⊢
        obtain ⟨hno, h1⟩ := h1
        have hnone : ∀ (v : AV) (pd' : List (Nat × Oper × AV × Env)), ∀ x ∈ W, x.1 = pre.length → Owed ops (rs ++ [v]) (es ++ [env]) (pd ++ pd') x := fun v pd' x hx hxi => by
          have : (W.any fun x => x.1 == pre.length) = true := List.any_eq_true.2 ⟨x, hx, by simpa using hxi⟩
          rw [this] at hno; cases hno
        unfold aw1h at h1
        cases hc : isCall o with
        | true =>
          rw [hc] at h1
          simp only [if_true] at h1 ⊢
          obtain ⟨v, s', h2, h3⟩ := h1
          exact ⟨v, s', h2, next v s' [s'] [] (hnone v _) (by simpa using h3)⟩
        | false =>
          rw [hc] at h1
          simp only [Bool.false_eq_true, if_false] at h1 ⊢
          obtain ⟨v, s', hop, h3⟩ := nocall hc _ h1
          rw [hop]
          exact next v s' [s'] [] (hnone v _) (by simpa using h3)
      | false =>
        rw [hH] at h1
        simp only [Bool.false_eq_true, if_false] at h1 ⊢
        have hck : ∀ (v : AV), ∀ x ∈ W, x.1 = pre.length → Owed ops (rs ++ [v]) (es ++ [env]) (pd ++ (W.filter fun x => x.1 == pre.length).map fun x => (x.2, o, v, env)) x := fun v x hx hxi => by
          refine owed v _ x hxi (.inr (List.mem_append_right _ (List.mem_map.2 ⟨x, ?_, rfl⟩)))
          rw [List.mem_filter]
          exact ⟨hx, by simpa using hxi⟩
        unfold aw1d at h1
        cases hc : isCall o with
        | true =>
          rw [hc] at h1
          simp only [if_true] at h1 ⊢
          obtain ⟨v, h2, h4⟩ := h1
          have := next v s [] _ (hck v) (by simpa using h4)
          exact ⟨v, h2, by simpa using this⟩
        | false =>
          rw [hc] at h1
          simp only [Bool.false_eq_true, if_false] at h1 ⊢
          obtain ⟨v, s', hop, rfl, h4⟩ := nocall hc _ h1
          rw [hop]
          have := next v s' [] _ (hck v) (by simpa using h4)
          exact ⟨rfl, by simpa using this⟩
    unfold awv at h
    unfold adr awantB
    split at h
    · rename_i hg
      rw [hg]
      exact go h
    · rename_i d b want hg
      rw [hg]
      simp only
      cases hb : (b == want) with
      | true => exact go (h.1 hb)
      | false =>
        have h1 := h.2 hb
        have hgf : awantB ops env.t o.guard = some false := by unfold awantB; rw [hg]; simp [hb]
        have hck : ∀ (pd' : List (Nat × Oper × AV × Env)), ∀ x ∈ W, x.1 = pre.length → Owed ops (rs ++ [.tup []]) (es ++ [env]) (pd ++ pd') x := fun pd' x hx hxi => owed _ pd' x hxi (.inl hgf)
        simp only
        split
        · rename_i hH
          rw [if_pos hH] at h1
          exact next _ s [s] [] (hck _) (by simpa using h1)
        · rename_i hH
          rw [if_neg hH] at h1
          have := next _ s [] [] (hck _) (by simpa using h1)
          simpa using this
    · cases h
/-- A REGION THAT DRAWS, where the operations H turn objects and those of W may run at another level. -/
theorem ACode_drawV {rd : Option Nat} {id : Nat} {opsA : Array Oper} {Q : Exit → Env → Heap → Prop} {env : Env} {σ : Heap} (H : List Nat) (W : List (Nat × Nat)) (hm : P.follows .mixedOrders = true)
    (hok : (drawOk opsA.toList H && levelsOk opsA.toList H W) = true) (hW : (W.all fun x => decide (x.1 < opsA.toList.length)) = true)
    (h : awv P opsA.toList H W (Q .normal) opsA.toList 0 env σ [σ] []) : @StC P rd ⟨.region id opsA true⟩ ⟨Q⟩ env σ :=
  ACode_draws H W hm hok (adr_of_awv (fun x hx => by simpa using List.all_eq_true.1 hW x hx) opsA.toList [] _ _ _ _ _ _ rfl rfl rfl (fun x _ hlt => by simp at hlt) h)
section
variable {ops l : List Oper} {o : Oper} {H : List Nat} {W : List (Nat × Nat)} {K : Env → Heap → Prop} {env env' : Env} {σ σ' : Heap} {i : Nat} {ss ss' : List Heap} {pd pd' : List (Nat × Oper × AV × Env)} {v v' : AV}
@[congr] theorem awv_cg (h : env = env') (h' : σ = σ') (h2 : ss = ss') (h3 : pd = pd') : awv P ops H W K l i env σ ss pd = awv P ops H W K l i env' σ' ss' pd' := by rw [h, h', h2, h3]
theorem awv_nil : awv P ops H W K [] i env σ ss pd = ((∀ x ∈ W, x.2 < ss.length) ∧ (∀ x ∈ pd, ∃ s, ss[x.1]? = some s ∧ awFix P x.2.1 x.2.2.1 s x.2.2.2 s) ∧ K env σ) := (rfl)
/-- one operation of H, or one of the others -/
def Ohv (P : Program) (ops : List Oper) (H : List Nat) (W : List (Nat × Nat)) (K : Env → Heap → Prop) (o : Oper) (rest : List Oper) (i : Nat) (env : Env) (σ : Heap) (ss : List Heap) (pd : List (Nat × Oper × AV × Env)) (h : Bool) : Prop :=
  if h then (W.any fun x => x.1 == i) = false ∧ aw1h P o (fun v s => awv P ops H W K rest (i + 1) (env.put o.dst v) s (ss ++ [s]) pd) env σ
  else aw1d P o (fun v => awv P ops H W K rest (i + 1) (env.put o.dst v) σ ss (pd ++ (W.filter fun x => x.1 == i).map fun x => (x.2, o, v, env))) env σ
@[congr] theorem Ohv_cg {h h' : Bool} (e : h = h') : Ohv P ops H W K o l i env σ ss pd h = Ohv P ops H W K o l i env σ ss pd h' := by rw [e]
theorem Ohv_true : Ohv P ops H W K o l i env σ ss pd true = ((W.any fun x => x.1 == i) = false ∧ aw1h P o (fun v s => awv P ops H W K l (i + 1) (env.put o.dst v) s (ss ++ [s]) pd) env σ) := by simp [Ohv]
theorem Ohv_false : Ohv P ops H W K o l i env σ ss pd false = aw1d P o (fun v => awv P ops H W K l (i + 1) (env.put o.dst v) σ ss (pd ++ (W.filter fun x => x.1 == i).map fun x => (x.2, o, v, env))) env σ := by simp [Ohv]
/-- a guarded operation -/
def Ogv (P : Program) (ops : List Oper) (H : List Nat) (W : List (Nat × Nat)) (K : Env → Heap → Prop) (o : Oper) (rest : List Oper) (i : Nat) (env : Env) (σ : Heap) (ss : List Heap) (pd : List (Nat × Oper × AV × Env)) (g : Option (Option (Option Tmp × Bool × Bool))) : Prop := match g with
  | some none => Ohv P ops H W K o rest i env σ ss pd (H.contains i)
  | some (some (_, b, want)) => Cs (b == want) (Ohv P ops H W K o rest i env σ ss pd (H.contains i)) (awv P ops H W K rest (i + 1) (env.put o.dst (.tup [])) σ (if H.contains i then ss ++ [σ] else ss) pd)
  | none => False
@[congr] theorem Ogv_cg {g g' : Option (Option (Option Tmp × Bool × Bool))} (h : g = g') : Ogv P ops H W K o l i env σ ss pd g = Ogv P ops H W K o l i env σ ss pd g' := by rw [h]
theorem Ogv_some {d : Option Tmp} {b want : Bool} : Ogv P ops H W K o l i env σ ss pd (some (some (d, b, want))) = @CsT (b == want) ⟨Ohv P ops H W K o l i env σ ss pd (H.contains i)⟩ ⟨awv P ops H W K l (i + 1) (env.put o.dst (.tup [])) σ (if H.contains i then ss ++ [σ] else ss) pd⟩ := (rfl)
variable {dst : Option Tmp} {ty : TypeId} {pos : String} {after : Array Edge} {op : Op}
theorem awv_plain : awv P ops H W K (⟨dst, op, ty, pos, after, none⟩ :: l) i env σ ss pd = Ohv P ops H W K ⟨dst, op, ty, pos, after, none⟩ l i env σ ss pd (H.contains i) := (rfl)
theorem awv_guard {j : Nat} {w : Bool} : awv P ops H W K (⟨dst, op, ty, pos, after, some (j, w)⟩ :: l) i env σ ss pd = Ogv P ops H W K ⟨dst, op, ty, pos, after, some (j, w)⟩ l i env σ ss pd (aguard ops env.t (some (j, w))) := (rfl)
end
attribute [simp] awv_nil awv_plain awv_guard Ohv_true Ohv_false Ogv_some
end Ab
