/-
  WALKS OVER ABSTRACT STATES: operations, regions, code; and that each is a walk of the model's.
  WALKS: calls, regions, code, loops, functions.
  REGIONS THAT DRAW THEIR ORDER: the order of the text serves all orders, if what is not ordered does not touch.
  REGIONS THAT DRAW THEIR ORDER: the rule.
  REGIONS THAT DRAW THEIR ORDER, by simp: the run in the order of the text.
  THE WALK BY simp: which definitions open.
-/
import Derived.RangeFuncLeaves
import Derived.RangeFuncCalls
import Derived.OrdersIn
import Derived.Test.YtcoikmapjepdjaaGreatDoorC02
set_option linter.unusedSimpArgs false
set_option linter.unusedVariables false
set_option linter.unusedSectionVars false
namespace Ab
open Go Go.RowKit
variable [Mode]
variable {P : Program}

/-- the fence that lets everything by, within a round or not -/
def WF (ro : Option Nat) : Fence := { fn := fun _ => True, depth := none, alive := false, round := ro }
/-! ### operations that call nothing -/
def abuiltin (P : Program) (b : Builtin) (ts : Array TypeId) (args : List AV) (σ : Heap) : Option (AV × Heap) :=
  match b, args with
  | .len, [x] => (match ts.toList with
    | [t] => (alen P t x σ).map (·, σ)
    | _ => none)
  | .append, [x, y] => (match y with
    | .int _ m => aappendZ P ts x m σ
    | _ => aappend P ts x y σ)
  | .copy, [x, y] => (match acopy P ts x y σ with
    | some r => some r
    | none => acopyC P ts x y σ)
  | .cap, [x] => (match ts.toList with
    | [t] => (acap P t x).map (·, σ)
    | _ => none)
  | .clear, [x] => aclear P ts x σ
  | .delete, [x, y] => adelete P ts x y σ
  | .min, [x, y] => (aminmax false x y).map (·, σ)
  | .max, [x, y] => (aminmax true x y).map (·, σ)
  | _, _ => none
def anilCheck (x : AV) : Option AV :=
  match x with
  | .ptr _ _ => some x
  | .pp _ _ _ _ => some x
  | .gl _ => some x
  | .fn (.func f) a b => some (.fn (.func f) a b)
  | .fn (.yield l) a b => some (.fn (.yield l) a b)
  | .iface _ _ => some x
  | _ => none
/-- a conversion -/
def aconvW (P : Program) (s d : TypeId) (x : AV) (σ : Heap) : Option (AV × Heap) :=
  match x with
  | .pl k l => (abstr P s d (.pl k l) σ).map (·, σ)
  | .arr k r off n => (abstr P s d (.arr k r off n) σ).map (·, σ)
  | .str b => if tbytes P s d then some (.arr 1 σ.length 0 b.length, σ ++ [.cells (b.map fun c => AV.int .u8 c.toNat)]) else (aconv P s d (.str b)).map (·, σ)
  | y => (aconv P s d y).map (·, σ)
def aop (P : Program) (t : List AV) (σ : Heap) (o : Oper) : Option (AV × Heap) :=
  match o.op with
  | .move x => some (aval t x, σ)
  | .assign x => some (aval t x, σ)
  | .pick c a b => (match aval t c with
    | .bool p => some (if p then aval t a else aval t b, σ)
    | _ => none)
  | .alloc e => (tz P e).bind fun z => abox z σ
  | .box _ x => abox (aval t x) σ
  | .build ty ps => (abuild P ty (ps.toList.map fun p => (p.1, aval t p.2))).map (·, σ)
  | .buildSlice ty n ps => abuildSlice P ty n (ps.toList.map fun p => (p.1, aval t p.2)) σ
  | .load ty a => (aload P ty (aval t a) σ).map (·, σ)
  | .store ty a x => (astore P ty (aval t a) (aval t x) σ).map (AV.any, ·)
  | .nilCheck x => (anilCheck (aval t x)).map (·, σ)
  | .binOp op xt x y _ => (abinO P op xt y (aval t x) (aval t y)).map (·, σ)
  | .unOp op _ x => (aun op (aval t x)).map (·, σ)
  | .convert s d x => aconvW P s d (aval t x) σ
  | .makeSlice ty l c => amake P ty (aval t l) (aval t c) σ
  | .makeMap ty none => amakeMap P ty σ
  | .lookup ty x i ok => (alookup P ty (aval t x) (aval t i) ok σ).map (·, σ)
  | .mapUpdate ty m k x => (amapUpdate P ty (aval t m) (aval t k) (aval t x) σ).map (AV.any, ·)
  | .range ty x => arange P ty (aval t x) σ
  | .next x s => anext (aval t x) s σ
  | .makeFunc f xs ys => some (.fn f (xs.toList.map (aval t)) (ys.toList.map (aval t)), σ)
  | .slice ty x lo hi mx => (asliceW P ty (aval t x) (lo.map (aval t)) (hi.map (aval t)) (mx.map (aval t)) σ).map (·, σ)
  | .fieldAddr ty x i => (afieldAddr P ty (aval t x) i).map (·, σ)
  | .field ty x i => (afield P ty (aval t x) i).map (·, σ)
  | .indexAddr ty x i => (aindexAddr P ty (aval t x) (aval t i)).map (·, σ)
  | .index ty x i => (aindex P ty (aval t x) (aval t i)).map (·, σ)
  | .extract x i => (aextract (aval t x) i).map (·, σ)
  | .call { callee := .builtin b, args, argTypes } => abuiltin P b argTypes (args.toList.map (aval t)) σ
  | _ => none

theorem VRs.map {C : Ctx} {env : Env} {a : Act} (he : ER C env a) (xs : List Operand) : VRs C (xs.map (aval env.t)) (xs.map a.eval) :=
  ⟨by simp, fun i x c hx hc => by
    simp [List.getElem?_map] at hx hc
    obtain ⟨y, hy, rfl⟩ := hx
    obtain ⟨z, hz, rfl⟩ := hc
    rw [hy] at hz
    obtain rfl : y = z := by simpa using hz
    exact he.eval y⟩
theorem VO.map {C : Ctx} {env : Env} {a : Act} (he : ER C env a) (x : Option Operand) : VO C (x.map (aval env.t)) (x.map a.eval) :=
  ⟨fun v hv => by
    cases x with
    | none => cases hv
    | some y => simp at hv; subst hv; exact ⟨_, rfl, he.eval y⟩, fun h => by cases x with
    | none => rfl
    | some y => cases h⟩
theorem VP.map {C : Ctx} {env : Env} {a : Act} (he : ER C env a) (ps : Array (Nat × Operand)) : VP C (ps.toList.map fun p => (p.1, aval env.t p.2)) (ps.map fun (i, x) => (i, a.eval x)).toList :=
  ⟨by simp, fun i p q hp hq => by
    simp [List.getElem?_map] at hp hq
    obtain ⟨y1, y2, hy, rfl⟩ := hp
    obtain ⟨z1, z2, hz, rfl⟩ := hq
    rw [hy] at hz
    obtain ⟨rfl, rfl⟩ : y1 = z1 ∧ y2 = z2 := by simpa using hz
    exact ⟨rfl, he.eval y2⟩⟩

/-- an operation's run: a value, or nothing, and the state behind it -/
def Ran (C : Ctx) (r : Result Next) (v : AV) (σ' : Heap) : Prop :=
  ∃ C' : Ctx, Ext C C' ∧ Inv C' σ' ∧ ((∃ c, r = .ok (.value c) C'.w ∧ VR C' v c) ∨ (r = .ok .skip C'.w ∧ v = .any))
theorem Ran.pure {C : Ctx} {σ : Heap} (hI : Inv C σ) {v : AV} {r : Result Next} (h : ∃ c, r = .ok (.value c) C.w ∧ VR C v c) : Ran C r v σ := ⟨C, Ext.refl C, hI, .inl h⟩
theorem map_pair {α : Type} {x : Option AV} {σ σ' : Heap} {v : AV} (h : x.map (·, σ) = some (v, σ')) : x = some v ∧ σ' = σ := by
  rw [Option.map_eq_some_iff] at h
  obtain ⟨y, hy, h⟩ := h
  simp only [Prod.mk.injEq] at h
  exact ⟨by rw [hy, h.1], h.2.symm⟩
theorem aop_sound {C : Ctx} {env : Env} {a : Act} {σ σ' : Heap} {o : Oper} {v : AV} (hI : Inv C σ) (he : ER C env a) (h : aop P env.t σ o = some (v, σ')) : Ran C ((execOp a.eval o).run P C.w) v σ' := by
  obtain ⟨dst, op, ty, pos, after, guard⟩ := o
  cases op <;> simp only [aop, reduceCtorEq] at h
  case move x =>
    simp only [Option.some.injEq, Prod.mk.injEq] at h; obtain ⟨rfl, rfl⟩ := h
    exact .pure hI ⟨_, rfl, he.eval x⟩
  case assign x =>
    simp only [Option.some.injEq, Prod.mk.injEq] at h; obtain ⟨rfl, rfl⟩ := h
    exact .pure hI ⟨_, rfl, he.eval x⟩
  case pick c x y =>
    have hc := he.eval c
    split at h
    · rename_i p hp
      simp only [Option.some.injEq, Prod.mk.injEq] at h; obtain ⟨rfl, rfl⟩ := h
      rw [hp] at hc
      refine .pure hI ⟨if p then a.eval x else a.eval y, ?_, ?_⟩
      · simp only [execOp, hc.bool_inv, asBool]; rfl
      · cases p
        · exact he.eval y
        · exact he.eval x
    · cases h
  case alloc e =>
    rw [Option.bind_eq_some_iff] at h
    obtain ⟨z, hz, h⟩ := h
    obtain ⟨zv, hzr, hzv⟩ := tz_inv hz
    obtain ⟨C', cp, ⟨hr, rfl⟩, hE, hI', hv⟩ := abox_sound (P := P) hI (hzv C) h e
    refine ⟨C', hE, hI', .inl ⟨_, ?_, hv⟩⟩
    simp only [execOp, Instr.alloc, Sem.run_bind, hzr, Result.andThen_ok, hr, Sem.run_pure]
  case box e x =>
    obtain ⟨C', cp, ⟨hr, rfl⟩, hE, hI', hv⟩ := abox_sound (P := P) hI (he.eval x) h e
    refine ⟨C', hE, hI', .inl ⟨_, ?_, hv⟩⟩
    simp only [execOp, Instr.box, Sem.run_bind, hr, Result.andThen_ok, Sem.run_pure]
  case build ty ps =>
    obtain ⟨g, rfl⟩ := map_pair (α := AV) h
    obtain ⟨r, hr, hv⟩ := abuild_sound (P := P) (VP.map he ps) g C.w
    exact .pure hI ⟨r, by simp only [execOp, Sem.run_bind, hr, Result.andThen_ok, Sem.run_pure], hv⟩
  case buildSlice ty n ps =>
    obtain ⟨C', r, hr, hE, hI', hv⟩ := abuildSlice_sound (P := P) hI (VP.map he ps) h
    exact ⟨C', hE, hI', .inl ⟨r, by simp only [execOp, Sem.run_bind, hr, Result.andThen_ok, Sem.run_pure], hv⟩⟩
  case load ty x =>
    obtain ⟨g, rfl⟩ := map_pair (α := AV) h
    obtain ⟨r, hr, hv⟩ := aload_sound (P := P) hI (he.eval x) g
    exact .pure hI ⟨r, by simp only [execOp, Sem.run_bind, hr, Result.andThen_ok, Sem.run_pure], hv⟩
  case store ty x y =>
    rw [Option.map_eq_some_iff] at h
    obtain ⟨σ2, h, h2⟩ := h
    simp only [Prod.mk.injEq] at h2
    obtain ⟨rfl, rfl⟩ := h2
    obtain ⟨C', hr, hE, _, hI'⟩ := astore_sound (P := P) hI (he.eval x) (he.eval y) h
    exact ⟨C', hE, hI', .inr ⟨by simp only [execOp, Sem.run_bind, hr, Result.andThen_ok, Sem.run_pure], rfl⟩⟩
  case nilCheck x =>
    obtain ⟨g, rfl⟩ := map_pair (α := AV) h
    have hx := he.eval x
    generalize aval env.t x = ax at g hx
    refine .pure hI ⟨a.eval x, ?_, ?_⟩
    · simp only [execOp]
      generalize a.eval x = cx at hx
      cases ax <;> simp only [anilCheck, reduceCtorEq] at g
      case fn f p q =>
        cases f <;> simp only [anilCheck, reduceCtorEq] at g <;> cases hx <;> rfl
      all_goals (cases hx; rfl)
    · cases ax <;> simp only [anilCheck, reduceCtorEq, Option.some.injEq] at g
      case fn f p q =>
        cases f <;> simp only [anilCheck, reduceCtorEq, Option.some.injEq] at g <;> (subst g; exact hx)
      all_goals (subst g; exact hx)
  case binOp op xt x y yt =>
    obtain ⟨g, rfl⟩ := map_pair (α := AV) h
    obtain ⟨r, hr, hv⟩ := abinO_sound (P := P) x y (he.eval x) (he.eval y) (fun hn => by
      unfold isNilC at hn
      split at hn
      · rfl
      · cases hn) g C.w
    refine .pure hI ⟨r, ?_, hv⟩
    simp only [Sem.run_bind] at hr
    simp only [execOp, Sem.run_bind, hr, Result.andThen_ok, Sem.run_pure]
  case unOp op xt x =>
    obtain ⟨g, rfl⟩ := map_pair (α := AV) h
    obtain ⟨r, hr, hv⟩ := aun_sound (P := P) (he.eval x) g C.w
    exact .pure hI ⟨r, by simp only [execOp, Sem.run_bind, hr, Result.andThen_ok, Sem.run_pure], hv⟩
  case convert s d x =>
    have hx := he.eval x
    generalize aval env.t x = ax at h hx
    have conv : (aconv P s d ax).map (·, σ) = some (v, σ') → Ran C ((execOp a.eval { dst, op := .convert s d x, type := ty, pos, after, guard }).run P C.w) v σ' := by
      intro h
      obtain ⟨g, rfl⟩ := map_pair (α := AV) h
      obtain ⟨r, hr, hv⟩ := aconv_sound (P := P) hx g C.w
      exact .pure hI ⟨r, by simp only [execOp, Sem.run_bind, hr, Result.andThen_ok, Sem.run_pure], hv⟩
    unfold aconvW at h
    split at h
    · obtain ⟨g, rfl⟩ := map_pair (α := AV) h
      obtain ⟨r, hr, hv⟩ := abstr_sound (P := P) hI hx g
      exact .pure hI ⟨r, by simp only [execOp, Sem.run_bind, hr, Result.andThen_ok, Sem.run_pure], hv⟩
    · obtain ⟨g, rfl⟩ := map_pair (α := AV) h
      obtain ⟨r, hr, hv⟩ := abstr_sound (P := P) hI hx g
      exact .pure hI ⟨r, by simp only [execOp, Sem.run_bind, hr, Result.andThen_ok, Sem.run_pure], hv⟩
    · split at h
      · rename_i ht
        simp only [Option.some.injEq, Prod.mk.injEq] at h
        obtain ⟨rfl, rfl⟩ := h
        obtain ⟨C', r, hr, hE, hI', hv⟩ := abytes_sound (P := P) hI hx ht
        exact ⟨C', hE, hI', .inl ⟨r, by simp only [execOp, Sem.run_bind, hr, Result.andThen_ok, Sem.run_pure], hv⟩⟩
      · exact conv h
    · exact conv h
  case makeSlice ty l c =>
    obtain ⟨C', r, hr, hE, hI', hv⟩ := amake_sound (P := P) hI (he.eval l) (he.eval c) h
    exact ⟨C', hE, hI', .inl ⟨r, by simp only [execOp, Sem.run_bind, hr, Result.andThen_ok, Sem.run_pure], hv⟩⟩
  case makeMap ty q =>
    cases q with
    | some q => cases h
    | none =>
      obtain ⟨C', r, hr, hE, hI', hv⟩ := amakeMap_sound (P := P) hI h
      exact ⟨C', hE, hI', .inl ⟨r, by simp only [execOp, Option.map_none, Sem.run_bind, hr, Result.andThen_ok, Sem.run_pure], hv⟩⟩
  case lookup ty x i ok =>
    obtain ⟨g, rfl⟩ := map_pair (α := AV) h
    obtain ⟨r, hr, hv⟩ := alookup_sound (P := P) hI (he.eval x) (he.eval i) g
    exact .pure hI ⟨r, by simp only [execOp, Sem.run_bind, hr, Result.andThen_ok, Sem.run_pure], hv⟩
  case mapUpdate ty m k x =>
    rw [Option.map_eq_some_iff] at h
    obtain ⟨σ2, h, h2⟩ := h
    simp only [Prod.mk.injEq] at h2
    obtain ⟨rfl, rfl⟩ := h2
    obtain ⟨C', hr, hE, hI'⟩ := amapUpdate_sound (P := P) hI (he.eval m) (he.eval k) (he.eval x) h
    exact ⟨C', hE, hI', .inr ⟨by simp only [execOp, Sem.run_bind, hr, Result.andThen_ok, Sem.run_pure], rfl⟩⟩
  case range ty x =>
    obtain ⟨C', r, hr, hE, hI', hv⟩ := arange_sound (P := P) hI (he.eval x) h
    exact ⟨C', hE, hI', .inl ⟨r, by simp only [execOp, Sem.run_bind, hr, Result.andThen_ok, Sem.run_pure], hv⟩⟩
  case next x isS =>
    obtain ⟨C', r, hr, hE, hI', hv⟩ := anext_sound (P := P) (ty := ty) hI (he.eval x) h
    exact ⟨C', hE, hI', .inl ⟨r, by simp only [execOp, Sem.run_bind, hr, Result.andThen_ok, Sem.run_pure], hv⟩⟩
  case makeFunc f xs ys =>
    simp only [Option.some.injEq, Prod.mk.injEq] at h; obtain ⟨rfl, rfl⟩ := h
    have h1 := VRs.map he xs.toList
    have h2 := VRs.map he ys.toList
    refine .pure hI ⟨.func f (xs.toList.map a.eval).toArray (ys.toList.map a.eval).toArray, ?_, .fn f _ _ _ _ h1.len h2.len h1.at_ h2.at_⟩
    have e1 : (xs.toList.map a.eval).toArray = xs.map a.eval := by apply Array.ext'; simp
    have e2 : (ys.toList.map a.eval).toArray = ys.map a.eval := by apply Array.ext'; simp
    rw [e1, e2]
    rfl
  case slice ty x lo hi mx =>
    obtain ⟨g, rfl⟩ := map_pair (α := AV) h
    obtain ⟨r, hr, hv⟩ := asliceW_sound (P := P) hI (he.eval x) (VO.map he lo) (VO.map he hi) (VO.map he mx) g
    exact .pure hI ⟨r, by simp only [execOp, Sem.run_bind, hr, Result.andThen_ok, Sem.run_pure], hv⟩
  case fieldAddr ty x i =>
    obtain ⟨g, rfl⟩ := map_pair (α := AV) h
    obtain ⟨r, hr, hv⟩ := afieldAddr_sound (P := P) (he.eval x) g C.w
    exact .pure hI ⟨r, by simp only [execOp, Sem.run_bind, hr, Result.andThen_ok, Sem.run_pure], hv⟩
  case field ty x i =>
    obtain ⟨g, rfl⟩ := map_pair (α := AV) h
    obtain ⟨r, hr, hv⟩ := afield_sound (P := P) (he.eval x) g C.w
    exact .pure hI ⟨r, by simp only [execOp, Sem.run_bind, hr, Result.andThen_ok, Sem.run_pure], hv⟩
  case indexAddr ty x i =>
    obtain ⟨g, rfl⟩ := map_pair (α := AV) h
    obtain ⟨r, hr, hv⟩ := aindexAddr_sound (P := P) (he.eval x) (he.eval i) g C.w
    exact .pure hI ⟨r, by simp only [execOp, Sem.run_bind, hr, Result.andThen_ok, Sem.run_pure], hv⟩
  case index ty x i =>
    obtain ⟨g, rfl⟩ := map_pair (α := AV) h
    obtain ⟨r, hr, hv⟩ := aindex_sound (P := P) (he.eval x) (he.eval i) g C.w
    exact .pure hI ⟨r, by simp only [execOp, Sem.run_bind, hr, Result.andThen_ok, Sem.run_pure], hv⟩
  case extract x i =>
    obtain ⟨g, rfl⟩ := map_pair (α := AV) h
    obtain ⟨r, hr, hv⟩ := aextract_sound (P := P) (he.eval x) g C.w
    exact .pure hI ⟨r, by simp only [execOp, Sem.run_bind, hr, Result.andThen_ok, Sem.run_pure], hv⟩
  case call c =>
    obtain ⟨callee, args, ts⟩ := c
    cases callee <;> simp only [reduceCtorEq] at h
    rename_i b
    have hargs := VRs.map he args.toList
    have hm : args.map a.eval = (args.toList.map a.eval).toArray := by apply Array.ext'; simp
    have key : ∀ (r : Value) (w : World), (builtin b ts ty (args.map fun | .const _ => true | _ => false) (args.map a.eval)).run P C.w = .ok (.value r) w →
        (execOp a.eval { dst, op := .call ⟨.builtin b, args, ts⟩, type := ty, pos, after, guard }).run P C.w = .ok (.value r) w := by
      intro r w h1
      simp only [execOp, Sem.run_bind, resolve, Sem.run_pure, Result.andThen_ok, invoke]
      exact h1
    rw [hm] at key
    have two : ∀ (x y : AV) (cs ds : List Value), VRs C [x, y] (args.toList.map a.eval) → ∃ c d, args.toList.map a.eval = [c, d] ∧ VR C x c ∧ VR C y d := by
      intro x y cs ds hargs
      obtain ⟨c, cs, hcs, hc, hrest⟩ := hargs.inv
      obtain ⟨d, cs, rfl, hd, hrest⟩ := hrest.inv
      obtain rfl := hrest.of_nil
      exact ⟨c, d, hcs, hc, hd⟩
    unfold abuiltin at h
    split at h
    · rename_i x hx
      rw [hx] at hargs
      obtain ⟨c, cs, hcs, hc, hrest⟩ := hargs.inv
      obtain rfl := hrest.of_nil
      split at h
      · rename_i t ht
        obtain rfl : ts = #[t] := Array.ext' ht
        obtain ⟨g, rfl⟩ := map_pair (α := AV) h
        obtain ⟨r, hr, hv⟩ := alen_sound (P := P) (ty := ty) hI hc g
        refine .pure hI ⟨r, key _ _ ?_, hv⟩
        simp only [hcs, builtin, Sem.run_bind, hr, Result.andThen_ok, Sem.run_pure]
      · cases h
    · rename_i x y hx
      rw [hx] at hargs
      obtain ⟨c, d, hcs, hc, hd⟩ := two x y [] [] hargs
      split at h
      · rename_i ik m
        cases hd
        obtain ⟨C', r, hr, hE, hI', hv⟩ := aappendZ_sound (P := P) (ty := ty) (k2 := ik) hI hc h
        refine ⟨C', hE, hI', .inl ⟨r, key _ _ ?_, hv⟩⟩
        simp only [hcs, builtin, Sem.run_bind, hr, Result.andThen_ok, Sem.run_pure]
      · obtain ⟨C', r, hr, hE, hI', hv⟩ := aappend_sound (P := P) (ty := ty) hI hc hd h
        refine ⟨C', hE, hI', .inl ⟨r, key _ _ ?_, hv⟩⟩
        simp only [hcs, builtin, Sem.run_bind, hr, Result.andThen_ok, Sem.run_pure]
    · rename_i x y hx
      rw [hx] at hargs
      obtain ⟨c, d, hcs, hc, hd⟩ := two x y [] [] hargs
      cases hac : acopy P ts x y σ with
      | some q =>
        rw [hac] at h
        simp only at h
        rw [h] at hac
        obtain ⟨C', r, hr, hE, hI', hv⟩ := acopy_sound (P := P) (ty := ty) hI hc hd hac
        refine ⟨C', hE, hI', .inl ⟨r, key _ _ ?_, hv⟩⟩
        simp only [hcs, builtin, Sem.run_bind, hr, Result.andThen_ok, Sem.run_pure]
      | none =>
        rw [hac] at h
        obtain ⟨C', r, hr, hE, hI', hv⟩ := acopyC_sound (P := P) (ty := ty) hI hc hd h
        refine ⟨C', hE, hI', .inl ⟨r, key _ _ ?_, hv⟩⟩
        simp only [hcs, builtin, Sem.run_bind, hr, Result.andThen_ok, Sem.run_pure]
    · rename_i x hx
      rw [hx] at hargs
      obtain ⟨c, cs, hcs, hc, hrest⟩ := hargs.inv
      obtain rfl := hrest.of_nil
      split at h
      · rename_i t ht
        obtain rfl : ts = #[t] := Array.ext' ht
        obtain ⟨g, rfl⟩ := map_pair (α := AV) h
        obtain ⟨r, hr, hv⟩ := acap_sound (P := P) (ty := ty) hc g
        refine .pure hI ⟨r, key _ _ ?_, hv⟩
        simp only [hcs, builtin, Sem.run_bind, hr, Result.andThen_ok, Sem.run_pure]
      · cases h
    · rename_i x hx
      rw [hx] at hargs
      obtain ⟨c, cs, hcs, hc, hrest⟩ := hargs.inv
      obtain rfl := hrest.of_nil
      obtain ⟨C', r, hr, hE, hI', hv⟩ := aclear_sound (P := P) (ty := ty) hI hc h
      refine ⟨C', hE, hI', .inl ⟨r, key _ _ ?_, hv⟩⟩
      simp only [hcs, builtin, Sem.run_bind, hr, Result.andThen_ok, Sem.run_pure]
    · rename_i x y hx
      rw [hx] at hargs
      obtain ⟨c, d, hcs, hc, hd⟩ := two x y [] [] hargs
      obtain ⟨C', r, hr, hE, hI', hv⟩ := adelete_sound (P := P) (ty := ty) hI hc hd h
      refine ⟨C', hE, hI', .inl ⟨r, key _ _ ?_, hv⟩⟩
      simp only [hcs, builtin, Sem.run_bind, hr, Result.andThen_ok, Sem.run_pure]
    · rename_i x y hx
      rw [hx] at hargs
      obtain ⟨c, d, hcs, hc, hd⟩ := two x y [] [] hargs
      obtain ⟨g, rfl⟩ := map_pair (α := AV) h
      obtain ⟨r, hr, hv⟩ := aminmax_sound (P := P) (ts := ts) (ty := ty) hc hd g C.w
      refine .pure hI ⟨r, key _ _ ?_, hv⟩
      simp only [Bool.false_eq_true, if_false] at hr
      simp only [hcs, builtin, Sem.run_bind, hr, Result.andThen_ok, Sem.run_pure]
    · rename_i x y hx
      rw [hx] at hargs
      obtain ⟨c, d, hcs, hc, hd⟩ := two x y [] [] hargs
      obtain ⟨g, rfl⟩ := map_pair (α := AV) h
      obtain ⟨r, hr, hv⟩ := aminmax_sound (P := P) (ts := ts) (ty := ty) hc hd g C.w
      refine .pure hI ⟨r, key _ _ ?_, hv⟩
      simp only [if_true] at hr
      simp only [hcs, builtin, Sem.run_bind, hr, Result.andThen_ok, Sem.run_pure]
    · cases h
end Ab
namespace Ab
open Go Go.RowKit
variable [Mode]
variable {P : Program}

/-- A CALL of function f on abstract arguments. -/
def Enters (P : Program) (f : FuncId) : Prop := ∀ (args : Array Value) (w : World), (callFunc f args).run P w = .ok (.enter f args) w
def AEnter (P : Program) (f : FuncId) (args : List AV) (σ : Heap) (R : AV → Heap → Prop) : Prop :=
  Enters P f ∧ ∀ (C : Ctx) (cargs : List Value), Inv C σ → VRs C args cargs →
    CallsIn Fence.wide 0 P f cargs.toArray C.w fun e w' => ∃ (v : Value) (C' : Ctx) (av : AV) (σ' : Heap), e = .returned v ∧ C'.w = w' ∧ Ext C C' ∧ Inv C' σ' ∧ VR C' av v ∧ R av σ'
theorem AEnter.mono {f : FuncId} {args : List AV} {σ : Heap} {R R' : AV → Heap → Prop} (h : AEnter P f args σ R) (hr : ∀ v σ', R v σ' → R' v σ') : AEnter P f args σ R' :=
  ⟨h.1, fun C cargs hI hv => (h.2 C cargs hI hv).mono fun e w' ⟨v, C', av, σ', h1, h2, h3, h4, h5, h6⟩ => ⟨v, C', av, σ', h1, h2, h3, h4, h5, hr _ _ h6⟩⟩
/-- a call of a function that the model answers by itself -/
def AExt (P : Program) (f : FuncId) (args : List AV) (σ : Heap) (R : AV → Heap → Prop) : Prop :=
  ∀ (C : Ctx) (cargs : List Value), Inv C σ → VRs C args cargs → ∃ (v : Value) (C' : Ctx) (av : AV) (σ' : Heap), (callFunc f cargs.toArray).run P C.w = .ok (.value v) C'.w ∧ Ext C C' ∧ Inv C' σ' ∧ VR C' av v ∧ R av σ'
def ACalls (P : Program) (f : FuncId) (args : List AV) (σ : Heap) (R : AV → Heap → Prop) : Prop := AEnter P f args σ R ∨ AExt P f args σ R
theorem ACalls.mono {f : FuncId} {args : List AV} {σ : Heap} {R R' : AV → Heap → Prop} (h : ACalls P f args σ R) (hr : ∀ v σ', R v σ' → R' v σ') : ACalls P f args σ R' :=
  h.imp (fun h => h.mono hr) fun h C cargs hI hv =>
    let ⟨v, C', av, σ', h1, h2, h3, h4, h5⟩ := h C cargs hI hv; ⟨v, C', av, σ', h1, h2, h3, h4, hr _ _ h5⟩
theorem callsIn_WF {ro : Option Nat} {f : FuncId} {args : Array Value} {w : World} {R : Ending → World → Prop} (h : CallsIn Fence.wide 0 P f args w R) : CallsIn (WF ro) 0 P f args w R := h

/-- the round that a walk is in: the loop's object -/
def RO (C : Ctx) (rd : Option Nat) (ro : Option Nat) : Prop :=
  match rd with
  | none => ro = none
  | some r => ∃ b, C.blk[r]? = some b ∧ ro = some b
theorem RO.ext {C C' : Ctx} (h : Ext C C') {rd ro : Option Nat} (hr : RO C rd ro) : RO C' rd ro := by
  cases rd with
  | none => exact hr
  | some r => obtain ⟨b, hb, e⟩ := hr; exact ⟨b, h.blk_at hb, e⟩
/-- what holds behind a piece of code -/
def Post (C : Ctx) (Q : Exit → Env → Heap → Prop) (e : Exit) (a' : Act) (w' : World) : Prop :=
  ∃ (C' : Ctx) (env' : Env) (σ' : Heap), C'.w = w' ∧ Ext C C' ∧ Inv C' σ' ∧ ER C' env' a' ∧ Q e env' σ'
/-- A PIECE OF CODE from an abstract state. -/
def ACode (P : Program) (rd : Option Nat) (c : Code) (Q : Exit → Env → Heap → Prop) (env : Env) (σ : Heap) : Prop :=
  ∀ (C : Ctx) (a : Act) (ro : Option Nat), Inv C σ → ER C env a → RO C rd ro → c.wpIn (WF ro) 0 P (Post C Q) a C.w
theorem Post.mono {C : Ctx} {Q Q' : Exit → Env → Heap → Prop} (hq : ∀ e env σ, Q e env σ → Q' e env σ) {e : Exit} {a : Act} {w : World} (h : Post C Q e a w) : Post C Q' e a w :=
  let ⟨C', env', σ', h1, h2, h3, h4, h5⟩ := h; ⟨C', env', σ', h1, h2, h3, h4, hq _ _ _ h5⟩
theorem Post.ext {C C' : Ctx} (h : Ext C C') {Q : Exit → Env → Heap → Prop} {e : Exit} {a : Act} {w : World} (hp : Post C' Q e a w) : Post C Q e a w :=
  let ⟨C2, env', σ', h1, h2, h3, h4, h5⟩ := hp; ⟨C2, env', σ', h1, h.trans h2, h3, h4, h5⟩
theorem ACode.mono {rd : Option Nat} {c : Code} {Q Q' : Exit → Env → Heap → Prop} {env : Env} {σ : Heap} (h : ACode P rd c Q env σ) (hq : ∀ e env σ, Q e env σ → Q' e env σ) : ACode P rd c Q' env σ :=
  fun C a ro hI he hr => wpIn_mono (h C a ro hI he hr) fun _ _ _ hp => hp.mono hq

/-- parameters get their values -/
def bindT (ps : List Tmp) (args : List AV) (t : List AV) : List AV := (ps.zip args).foldl (fun t p => t.set p.1 p.2) t
/-- behind a round's body that comes to its end -/
def QRound (r : Nat) (K : AV → Heap → Prop) : Exit → Env → Heap → Prop
  | .normal, _, σ => match σ[r]? with
    | some (.loop fn t ps assign body .busy none D) => K (.bool true) (σ.set r (.loop fn t ps assign body .ready none D))
    | _ => False
  | .ret, _, σ => match σ[r]? with
    | some (.loop fn t ps assign body .busy none D) => K (.bool false) (σ.set r (.loop fn t ps assign body .done (some .ret) D))
    | _ => False
  | .exit id, _, σ => match σ[r]? with
    | some (.loop fn t ps assign body .busy none D) => K (.bool false) (σ.set r (.loop fn t ps assign body .done (some (.exit id)) D))
    | _ => False
  | _, _, _ => False
/-- behind the assignments to a loop's left sides -/
def QBegin (P : Program) (r : Nat) (body : Code) (K : AV → Heap → Prop) : Exit → Env → Heap → Prop
  | .normal, env, σ => match σ[r]? with
    | some (.loop fn t ps assign body' .ready none D) => body' = body ∧ ACode P (some r) body (QRound r K) env (σ.set r (.loop fn t ps assign body' .busy none D))
    | _ => False
  | _, _, _ => False
/-- A CALL OF A LOOP's YIELD: its round. -/
def AYield (P : Program) (r : Nat) (args : List AV) (σ : Heap) (K : AV → Heap → Prop) : Prop := match σ[r]? with
  | some (.loop _ t ps assign body _ _ _) => args.length = ps.size ∧ ACode P (some r) assign (QBegin P r body K) { t := bindT ps.toList args t } σ
  | _ => False

/-! ### regions -/
/-- a guard: the temporary that it asks, what that holds, what is wanted -/
def aguard (ops : List Oper) (t : List AV) (g : Option (Nat × Bool)) : Option (Option (Option Tmp × Bool × Bool)) :=
  match g with
  | none => some none
  | some (j, want) =>
    match (ops[j]?).bind (·.dst) with
    | some d => (match t.getD d .any with
      | .bool b => some (some (some d, b, want))
      | .tup _ => some (some (none, !want, want))
      | _ => none)
    | none => none
/-- a temporary is known -/
def Env.known (e : Env) (d : Option Tmp) (b : Bool) : Env :=
  match d with
  | some d => { e with t := e.t.set d (.bool b) }
  | none => e
/-- both ways of a bool -/
def Cs (b : Bool) (X Y : Prop) : Prop := (b = true → X) ∧ (b = false → Y)
/-- one operation -/
def aw1 (P : Program) (o : Oper) (K : AV → Heap → Prop) (env : Env) (σ : Heap) : Prop :=
  match o.op with
  | .call { callee := .value f, args, .. } =>
    (match aval env.t f with
    | .fn (.func g) first caps => ACalls P g (first ++ args.toList.map (aval env.t) ++ caps) σ K
    | .yld r => AYield P r (args.toList.map (aval env.t)) σ K
    | _ => False)
  | _ => match aop P env.t σ o with
    | some (v, σ') => K v σ'
    | none => False
/-- a list of operations, in its order -/
def aws (P : Program) (ops : List Oper) : List Oper → (Env → Heap → Prop) → Env → Heap → Prop
  | [], K, env, σ => K env σ
  | o :: rest, K, env, σ =>
    match aguard ops env.t o.guard with
    | some none => aw1 P o (fun v σ' => aws P ops rest K (env.put o.dst v) σ') env σ
    | some (some (d, b, want)) => Cs (b == want) (aw1 P o (fun v σ' => aws P ops rest K ((env.known d want).put o.dst v) σ') (env.known d want) σ) (aws P ops rest K ((env.known d (!want)).put o.dst (.tup [])) σ)
    | none => False

theorem aguard_none {ops : List Oper} {t : List AV} {g : Option (Nat × Bool)} (h : aguard ops t g = some none) : g = none := by
  unfold aguard at h
  split at h
  · rfl
  · split at h
    · split at h <;> cases h
    · cases h
theorem aguard_sound {C : Ctx} {env : Env} {a : Act} (he : ER C env a) {ops : Array Oper} {o : Oper} {d : Option Tmp} {b want : Bool} (h : aguard ops.toList env.t o.guard = some (some (d, b, want))) :
    Region.wanted o (yielded ops a.tmps) = (b == want) ∧ ∀ d', d = some d' → env.t.getD d' .any = .bool b := by
  unfold aguard at h
  split at h
  · cases h
  · rename_i j w hg
    unfold Region.wanted
    rw [hg]
    simp only
    split at h
    · rename_i d' hd
      have hj : (ops[j]?).bind (·.dst) = some d' := by simpa using hd
      have hv := he.eval (.tmp d')
      simp only [aval] at hv
      split at h
      · rename_i p hp
        simp only [Option.some.injEq, Prod.mk.injEq] at h
        obtain ⟨rfl, rfl, rfl⟩ := h
        rw [hp] at hv
        have hb := hv.bool_inv
        have hd2 : a.tmps[d']? = some (.bool p) := by
          simp only [Act.eval] at hb
          rw [Array.getD_eq_getD_getElem?] at hb
          cases hx : a.tmps[d']? with
          | none => rw [hx] at hb; simp [undef] at hb
          | some y => rw [hx] at hb; simp at hb; rw [hb]
        simp only [yielded, hj, Option.bind_some, hd2]
        refine ⟨?_, fun d2 h2 => by cases h2; exact hp⟩
        cases p <;> cases w <;> rfl
      · rename_i l hp
        simp only [Option.some.injEq, Prod.mk.injEq] at h
        obtain ⟨rfl, rfl, rfl⟩ := h
        rw [hp] at hv
        obtain ⟨cs, hb, _⟩ := hv.tup_inv
        refine ⟨?_, fun d2 h2 => by cases h2⟩
        have hy : yielded ops a.tmps j = none := by
          simp only [yielded, hj, Option.bind_some]
          simp only [Act.eval] at hb
          rw [Array.getD_eq_getD_getElem?] at hb
          cases hx : a.tmps[d']? with
          | none => rfl
          | some y => rw [hx] at hb; simp at hb; rw [hb]
        rw [hy]
        cases w <;> rfl
      · cases h
    · cases h
theorem ER.known1 {C : Ctx} {env : Env} {a : Act} (he : ER C env a) {d : Tmp} {b : Bool} (h : env.t.getD d .any = .bool b) : ER C (env.known (some d) b) a := by
  refine ⟨?_, he.m, he.mark⟩
  have hl := he.t.len
  refine ⟨by simpa [Env.known] using hl, fun i x c hx hc => ?_⟩
  simp only [Env.known, List.getElem?_set] at hx
  by_cases e : d = i
  · subst e
    by_cases hd : d < env.t.length
    · simp [hd] at hx
      subst hx
      have hx' : env.t[d]? = some (.bool b) := by
        rw [List.getD_eq_getElem?_getD, List.getElem?_eq_getElem hd] at h
        simp at h
        rw [List.getElem?_eq_getElem hd, h]
      exact he.t.at_ d _ c hx' hc
    · simp [hd] at hx
  · rw [if_neg e] at hx
    exact he.t.at_ i x c hx hc
theorem ER.known {C : Ctx} {env : Env} {a : Act} (he : ER C env a) {d : Option Tmp} {b : Bool} (h : ∀ d', d = some d' → env.t.getD d' .any = .bool b) : ER C (env.known d b) a := by
  cases d with
  | none => exact he
  | some d => exact he.known1 (h d rfl)
theorem Ran.uponIn {C : Ctx} {ro : Option Nat} {o : Oper} {a : Act} {K : Act → World → Prop} {Q : Exit → Act → World → Prop} {r : Result Next} {v : AV} {σ' : Heap} (h : Ran C r v σ')
    (hK : ∀ (C' : Ctx) (c : Value), Ext C C' → Inv C' σ' → VR C' v c → K (a.put o.dst c) C'.w) : o.uponIn (WF ro) 0 P a K Q r := by
  obtain ⟨C', hE, hI, h⟩ := h
  rcases h with ⟨c, rfl, hv⟩ | ⟨rfl, rfl⟩
  · exact hK C' c hE hI hv
  · exact hK C' undef hE hI (.any _)
theorem list_arr (l : Array Operand) (f : Operand → Value) : l.map f = (l.toList.map f).toArray := by apply Array.ext'; simp
theorem no_defer {P : Program} {t : List AV} {σ : Heap} {o : Oper} (h : aop P t σ o ≠ none) : ∀ c, o.op ≠ .defer c := by
  intro c hc
  unfold aop at h
  rw [hc] at h
  exact h rfl
theorem VRs.bind {C : Ctx} : ∀ (ps : List Tmp) {xs : List AV} {cs : List Value} {t : List AV} {ct : List Value}, VRs C xs cs → VRs C t ct → VRs C (bindT ps xs t) ((ps.zip cs).foldl (fun t p => t.set p.1 p.2) ct) := by
  intro ps
  induction ps with
  | nil => intro xs cs t ct _ h; exact h
  | cons p ps ih =>
    intro xs cs t ct hx ht
    cases xs with
    | nil => rw [hx.of_nil]; exact ht
    | cons x xs =>
      obtain ⟨c, cs', rfl, h1, h2⟩ := hx.inv
      exact ih h2 (ht.set h1 p)
theorem zip_fold (ps : Array Tmp) (cs : Array Value) (t : Array Value) : ((ps.zip cs).foldl (fun t (p, v) => t.setIfInBounds p v) t) = ((ps.toList.zip cs.toList).foldl (fun t p => t.set p.1 p.2) t.toList).toArray := by
  rw [← Array.foldl_toList, Array.toList_zip]
  generalize ps.toList.zip cs.toList = l
  induction l generalizing t with
  | nil => simp
  | cons p l ih =>
    simp only [List.foldl_cons]
    rw [ih]
    simp
theorem putObj_eq (w : World) (b : Nat) (o : Obj) : w.putObj b o = setBlk w b o := rfl
theorem ORel.loop_inv {C : Ctx} {fn : FuncId} {env : List AV} {params : Array Tmp} {assign body : Code} {state : LoopState} {pending : Option Code} {defers : Nat} {c : Obj} (h : ORel C (.loop fn env params assign body state pending defers) c) :
    ∃ tmps : Array Value, c = .loop { state, pending, fn, tmps, params, assign, body, defers } ∧ VRs C env tmps.toList := by
  cases h with | loop _ _ tmps _ _ _ _ _ _ h1 => exact ⟨tmps, rfl, h1⟩
theorem yield_sound {C : Ctx} {σ : Heap} {K : AV → Heap → Prop} {r b : Nat} {xs : List AV} {cs : List Value} (hI : Inv C σ) (hb : C.blk[r]? = some b) (hx : VRs C xs cs) (h : AYield P r xs σ K) :
    ∃ (f : FuncId) (tmps : Array Value) (assign body : Code), (Instr.yield b cs.toArray).run P C.w = .ok (.round b f tmps assign body) C.w ∧
      ∀ (ro : Option Nat) (R : Ending → World → Prop), (∀ (C' : Ctx) (c : Value) (v : AV) (σ' : Heap), Ext C C' → Inv C' σ' → VR C' v c → K v σ' → R (.returned c) C'.w) → RoundIn (WF ro) 0 P b f tmps assign body C.w R := by
  unfold AYield at h
  split at h
  · rename_i fn t ps assign body st pd D hr
    obtain ⟨hlen, h⟩ := h
    obtain ⟨_, c, hc, hR⟩ := hI.live r b _ hb hr rfl
    obtain ⟨tmps, rfl, ht⟩ := hR.loop_inv
    have hy := run_yield (P := P) (args := cs.toArray) hc (by have := hx.len; simp; omega)
    refine ⟨_, _, _, _, hy, fun ro R hn => roundIn_of_wpIn (F := WF ro) trivial ?_⟩
    simp only
    have he : ER C { t := bindT ps.toList xs t } { tmps := (ps.zip cs.toArray).foldl (fun t (p, v) => t.setIfInBounds p v) tmps, defers := [] } :=
      ⟨by rw [zip_fold ps cs.toArray tmps]; simpa using VRs.bind ps.toList hx ht, rfl, fun i r d h => by simp at h⟩
    refine wpIn_mono (h C _ (some b) hI he ⟨b, hb, rfl⟩) ?_
    rintro e a' w' ⟨C1, env1, σ1, rfl, hE1, hI1, he1, hq⟩
    cases e with
    | normal =>
      simp only [QBegin] at hq
      split at hq
      · rename_i fn1 t1 ps1 assign1 body1 D1 hr1
        obtain ⟨rfl, hq⟩ := hq
        have hb1 := hE1.blk_at hb
        obtain ⟨hnp1, c1, hc1, hR1⟩ := hI1.live r b _ hb1 hr1 rfl
        obtain ⟨tmps1, rfl, ht1⟩ := hR1.loop_inv
        refine ⟨_, run_beginRound hc1 rfl, ?_⟩
        rw [putObj_eq]
        have hE2 := Ext.set (C := C1) (o := .loop { state := .busy, pending := none, fn := fn1, tmps := tmps1, params := ps1, assign := assign1, body := body1, defers := D1 }) hc1 hnp1 rfl
        have hI2 := hI1.set (c' := .loop { state := .busy, pending := none, fn := fn1, tmps := tmps1, params := ps1, assign := assign1, body := body1, defers := D1 }) hb1 hr1 rfl hc1 rfl (.loop fn1 t1 tmps1 ps1 assign1 body1 .busy none D1 (ht1.ext hE2))
        refine wpIn_mono (hq _ _ (some b) hI2 (he1.ext hE2) ⟨b, hb1, rfl⟩) ?_
        rintro e a' w' ⟨C3, env3, σ3, rfl, hE3, hI3, he3, hq3⟩
        cases e with
        | normal =>
          simp only [QRound] at hq3
          split at hq3
          · rename_i fn3 t3 ps3 assign3 body3 D3 hr3
            have hb3 : C3.blk[r]? = some b := hE3.blk_at hb1
            obtain ⟨hnp3, c3, hc3, hR3⟩ := hI3.live r b _ hb3 hr3 rfl
            obtain ⟨tmps3, rfl, ht3⟩ := hR3.loop_inv
            refine ⟨_, _, run_endRound none hc3, ?_⟩
            simp only [Option.isNone_none, if_true]
            rw [putObj_eq]
            have hE4 := Ext.set (C := C3) (o := .loop { state := .ready, pending := none, fn := fn3, tmps := tmps3, params := ps3, assign := assign3, body := body3, defers := D3 }) hc3 hnp3 rfl
            have hI4 := hI3.set (c' := .loop { state := .ready, pending := none, fn := fn3, tmps := tmps3, params := ps3, assign := assign3, body := body3, defers := D3 }) hb3 hr3 rfl hc3 rfl (.loop fn3 t3 tmps3 ps3 assign3 body3 .ready none D3 (ht3.ext hE4))
            exact hn _ _ _ _ ((hE1.trans hE2).trans (hE3.trans hE4)) hI4 (.bool true) hq3
          · exact hq3.elim
        | ret =>
          simp only [QRound] at hq3
          split at hq3
          · rename_i fn3 t3 ps3 assign3 body3 D3 hr3
            have hb3 : C3.blk[r]? = some b := hE3.blk_at hb1
            obtain ⟨hnp3, c3, hc3, hR3⟩ := hI3.live r b _ hb3 hr3 rfl
            obtain ⟨tmps3, rfl, ht3⟩ := hR3.loop_inv
            refine ⟨_, _, run_endRound (some .ret) hc3, ?_⟩
            simp only [Option.isNone_some, Bool.false_eq_true, if_false]
            rw [putObj_eq]
            have hE4 := Ext.set (C := C3) (o := .loop { state := .done, pending := some .ret, fn := fn3, tmps := tmps3, params := ps3, assign := assign3, body := body3, defers := D3 }) hc3 hnp3 rfl
            have hI4 := hI3.set (c' := .loop { state := .done, pending := some .ret, fn := fn3, tmps := tmps3, params := ps3, assign := assign3, body := body3, defers := D3 }) hb3 hr3 rfl hc3 rfl (.loop fn3 t3 tmps3 ps3 assign3 body3 .done (some .ret) D3 (ht3.ext hE4))
            exact hn _ _ _ _ ((hE1.trans hE2).trans (hE3.trans hE4)) hI4 (.bool false) hq3
          · exact hq3.elim
        | exit id =>
          simp only [QRound] at hq3
          split at hq3
          · rename_i fn3 t3 ps3 assign3 body3 D3 hr3
            have hb3 : C3.blk[r]? = some b := hE3.blk_at hb1
            obtain ⟨hnp3, c3, hc3, hR3⟩ := hI3.live r b _ hb3 hr3 rfl
            obtain ⟨tmps3, rfl, ht3⟩ := hR3.loop_inv
            refine ⟨_, _, run_endRound (some (.exit id)) hc3, ?_⟩
            simp only [Option.isNone_some, Bool.false_eq_true, if_false]
            rw [putObj_eq]
            have hE4 := Ext.set (C := C3) (o := .loop { state := .done, pending := some (.exit id), fn := fn3, tmps := tmps3, params := ps3, assign := assign3, body := body3, defers := D3 }) hc3 hnp3 rfl
            have hI4 := hI3.set (c' := .loop { state := .done, pending := some (.exit id), fn := fn3, tmps := tmps3, params := ps3, assign := assign3, body := body3, defers := D3 }) hb3 hr3 rfl hc3 rfl (.loop fn3 t3 tmps3 ps3 assign3 body3 .done (some (.exit id)) D3 (ht3.ext hE4))
            exact hn _ _ _ _ ((hE1.trans hE2).trans (hE3.trans hE4)) hI4 (.bool false) hq3
          · exact hq3.elim
        | _ => exact hq3.elim
      · exact hq.elim
    | _ => exact hq.elim
  · cases h
theorem aw1_sound {C : Ctx} {env : Env} {a : Act} {σ : Heap} {o : Oper} {K : AV → Heap → Prop} (hI : Inv C σ) (he : ER C env a) (h : aw1 P o K env σ) (ro : Option Nat) (next : Act → World → Prop) (Q : Exit → Act → World → Prop)
    (hn : ∀ (C' : Ctx) (c : Value) (v : AV) (σ' : Heap), Ext C C' → Inv C' σ' → VR C' v c → K v σ' → next (a.put o.dst c) C'.w) : o.wpIn (WF ro) 0 P a C.w next Q := by
  refine ⟨fun _ _ => trivial, ?_⟩
  unfold aw1 at h
  split at h
  · rename_i f args ts hop
    rw [Oper.semAt_eq _ _ _ (by rw [hop]; intro c hc; cases hc)]
    have hf := he.eval f
    split at h
    · rename_i g first caps hg
      rw [hg] at hf
      obtain ⟨cs, ds, hfv, hcs, hds⟩ := hf.fn_inv
      have hargs := VRs.map he args.toList
      have hrun : (execOp a.eval o).run P C.w = (callFunc g ((cs ++ args.toList.map a.eval) ++ ds).toArray).run P C.w := by
        obtain ⟨dst, op, ty, pos, after, guard⟩ := o
        simp only at hop
        subst hop
        simp only [execOp, Sem.run_bind, resolve, hfv, Deferred.ofValue, Sem.run_pure, Result.andThen_ok, invoke]
        rw [list_arr]
        congr 2
        apply Array.ext'
        simp
      rcases h with h | h
      · have hcall := h.2 C ((cs ++ args.toList.map a.eval) ++ ds) hI ((hcs.append hargs).append hds)
        rw [hrun, h.1]
        refine ⟨fun hd => (by cases hd), (callsIn_WF hcall).mono ?_⟩
        rintro e w' ⟨v, C', av, σ', rfl, rfl, hE, hI', hv, hK⟩
        exact hn C' v av σ' hE hI' hv hK
      · obtain ⟨v, C', av, σ', hr, hE, hI', hv, hK⟩ := h C ((cs ++ args.toList.map a.eval) ++ ds) hI ((hcs.append hargs).append hds)
        rw [hrun, hr]
        exact hn C' v av σ' hE hI' hv hK
    · rename_i r hg
      rw [hg] at hf
      obtain ⟨b, hb, hfv⟩ := hf.yld_inv
      obtain ⟨f', tmps, assign, body, hy, hround⟩ := yield_sound (P := P) hI hb (VRs.map he args.toList) h
      have hrun : (execOp a.eval o).run P C.w = (Instr.yield b (args.toList.map a.eval).toArray).run P C.w := by
        obtain ⟨dst, op, ty, pos, after, guard⟩ := o
        simp only at hop
        subst hop
        simp only [execOp, Sem.run_bind, resolve, hfv, Deferred.ofValue, Sem.run_pure, Result.andThen_ok, invoke]
        rw [list_arr]
        congr 2
        apply Array.ext'
        simp
      rw [hrun, hy]
      refine ⟨fun hd => (by cases hd), hround ro _ ?_⟩
      intro C' c v σ' hE hI' hv hK
      exact hn C' c v σ' hE hI' hv hK
    · cases h
  · split at h
    · rename_i v σ' hop
      have hne : aop P env.t σ o ≠ none := by rw [hop]; simp
      rw [Oper.semAt_eq _ _ _ (no_defer hne)]
      exact (aop_sound hI he hop).uponIn fun C' c hE hI' hv => hn C' c v σ' hE hI' hv h
    · cases h

/-- A LIST OF OPERATIONS, as the model runs it. -/
theorem aws_sound (ops : Array Oper) (ro : Option Nat) (Q : Exit → Act → World → Prop) : ∀ (l : List Nat) (l' : List Oper), (∀ i ∈ l, i < ops.size) → l.map (fun i => ops[i]?) = l'.map some → ∀ (K : Env → Heap → Prop) (env : Env) (σ : Heap) (C : Ctx) (a : Act), Inv C σ → ER C env a → aws P ops.toList l' K env σ →
    (∀ (C' : Ctx) (env' : Env) (σ' : Heap) (a' : Act), Ext C C' → Inv C' σ' → ER C' env' a' → K env' σ' → Q .normal a' C'.w) → wpOpsIn (WF ro) 0 P ops Q l a C.w := by
  intro l
  induction l with
  | nil =>
    intro l' _ hm K env σ C a hI he h hK
    obtain rfl : l' = [] := by cases l' <;> simp_all
    exact hK C env σ a (Ext.refl C) hI he h
  | cons i l ih =>
    intro l' hb hm K env σ C a hI he h hK
    cases l' with
    | nil => simp at hm
    | cons o l' =>
      simp only [List.map_cons, List.cons.injEq] at hm
      obtain ⟨ho, hm⟩ := hm
      have hrest : ∀ (env : Env) (v : AV) (c : Value) (C' : Ctx) (σ' : Heap), ER C env a → Ext C C' → Inv C' σ' → VR C' v c → aws P ops.toList l' K (env.put o.dst v) σ' → wpOpsIn (WF ro) 0 P ops Q l (a.put o.dst c) C'.w := by
        intro env v c C' σ' he hE hI' hv hw
        exact ih l' (fun j hj => hb j (by simp [hj])) hm K _ σ' C' _ hI' ((he.ext hE).put hv o.dst) hw fun C2 env2 σ2 a2 hE2 => hK C2 env2 σ2 a2 (hE.trans hE2)
      unfold aws at h
      split at h
      · rename_i hg
        have hwt : Region.wanted o (yielded ops a.tmps) = true := by unfold Region.wanted; rw [aguard_none hg]
        simp only [wpOpsIn, ho, hwt, if_true]
        exact aw1_sound hI he h ro _ _ fun C' c v σ' hE hI' hv hk => hrest env v c C' σ' he hE hI' hv hk
      · rename_i d b want hg
        obtain ⟨hwt, hd⟩ := aguard_sound he hg
        simp only [wpOpsIn, ho, hwt]
        by_cases hbw : b = want
        · subst hbw
          simp only [BEq.rfl, if_true]
          exact aw1_sound hI (he.known hd) (h.1 (by simp)) ro _ _ fun C' c v σ' hE hI' hv hk => hrest _ v c C' σ' (he.known hd) hE hI' hv hk
        · have hbn : b = !want := by cases b <;> cases want <;> simp_all
          have : (b == want) = false := by simpa using hbw
          simp only [this, Bool.false_eq_true, if_false]
          subst hbn
          exact ⟨fun _ _ => trivial, hrest _ (.tup []) undef C σ (he.known hd) (Ext.refl C) hI (.tup [] [] rfl (fun i x c h => by simp at h)) (h.2 this)⟩
      · cases h
theorem ACode_region {rd : Option Nat} {id : Nat} {ops : Array Oper} {Q : Exit → Env → Heap → Prop} {env : Env} {σ : Heap} (h : aws P ops.toList ops.toList (Q .normal) env σ) : ACode P rd (.region id ops false) Q env σ := by
  intro C a ro hI he _
  refine wpIn_region (aws_sound ops ro _ (List.range ops.size) ops.toList (fun i hi => by simpa using hi) ?_ (Q .normal) env σ C a hI he h ?_)
  · apply List.ext_getElem?
    intro i
    simp only [List.getElem?_map]
    by_cases hi : i < ops.size
    · rw [List.getElem?_range hi]; simp [hi]
    · rw [List.getElem?_eq_none (by simpa using hi), List.getElem?_eq_none (by simpa using hi)]; rfl
  · intro C' env' σ' a' hE hI' he' hq
    exact ⟨C', env', σ', rfl, hE, hI', he', hq⟩

/-! ### code -/
def QThen (N : Env → Heap → Prop) (Q : Exit → Env → Heap → Prop) : Exit → Env → Heap → Prop
  | .normal, env, σ => N env σ
  | e, env, σ => Q e env σ
def QBlock (id : Nat) (Q : Exit → Env → Heap → Prop) : Exit → Env → Heap → Prop
  | .exit id', env, σ => if id' = id then Q .normal env σ else Q (.exit id') env σ
  | e, env, σ => Q e env σ
theorem ACode_seq {rd : Option Nat} {x y : Code} {Q : Exit → Env → Heap → Prop} {env : Env} {σ : Heap} (h : ACode P rd x (QThen (ACode P rd y Q) Q) env σ) : ACode P rd (.seq x y) Q env σ := by
  intro C a ro hI he hr
  refine wpIn_seq (wpIn_mono (h C a ro hI he hr) ?_)
  rintro e a' w' ⟨C', env', σ', rfl, hE, hI', he', hq⟩
  cases e with
  | normal => exact wpIn_mono (hq C' a' ro hI' he' (hr.ext hE)) fun e a w hp => hp.ext hE
  | _ => exact ⟨C', env', σ', rfl, hE, hI', he', hq⟩
theorem ACode_block {rd : Option Nat} {id : Nat} {c : Code} {Q : Exit → Env → Heap → Prop} {env : Env} {σ : Heap} (h : ACode P rd c (QBlock id Q) env σ) : ACode P rd (.block id c) Q env σ := by
  intro C a ro hI he hr
  refine wpIn_block (wpIn_mono (h C a ro hI he hr) ?_)
  rintro e a' w' ⟨C', env', σ', rfl, hE, hI', he', hq⟩
  cases e with
  | exit id' =>
    simp only [Exit.inBlock, QBlock] at hq ⊢
    split at hq
    · rename_i e; rw [if_pos e]; exact ⟨C', env', σ', rfl, hE, hI', he', hq⟩
    · rename_i e; rw [if_neg e]; exact ⟨C', env', σ', rfl, hE, hI', he', hq⟩
  | _ => exact ⟨C', env', σ', rfl, hE, hI', he', hq⟩
def Env.op (e : Env) (c : Operand) (b : Bool) : Env :=
  match c with
  | .tmp d => e.known (some d) b
  | _ => e
theorem ER.op {C : Ctx} {env : Env} {a : Act} (he : ER C env a) {c : Operand} {b : Bool} (h : aval env.t c = .bool b) : ER C (env.op c b) a := by
  cases c with
  | tmp d => exact he.known1 h
  | _ => exact he
theorem ACode_cond {rd : Option Nat} {c : Operand} {x y : Code} {Q : Exit → Env → Heap → Prop} {env : Env} {σ : Heap} {p : Bool} (hc : aval env.t c = .bool p) (ht : p = true → ACode P rd x Q (env.op c true) σ) (hf : p = false → ACode P rd y Q (env.op c false) σ) : ACode P rd (.cond c x y) Q env σ := by
  intro C a ro hI he hr
  have hv := he.eval c
  rw [hc] at hv
  exact wpIn_cond_split hv.bool_inv (fun h => by subst h; exact ht rfl C a ro hI (he.op hc) hr) (fun h => by subst h; exact hf rfl C a ro hI (he.op hc) hr)
theorem Post.done {C : Ctx} {Q : Exit → Env → Heap → Prop} {e : Exit} {env : Env} {σ : Heap} {a : Act} (hI : Inv C σ) (he : ER C env a) (h : Q e env σ) : Post C Q e a C.w := ⟨C, env, σ, rfl, Ext.refl C, hI, he, h⟩
/-- THE WALK. -/
def awp (P : Program) (rd : Option Nat) : Code → (Exit → Env → Heap → Prop) → Env → Heap → Prop
  | .skip, Q, env, σ => Q .normal env σ
  | .label _, Q, env, σ => Q .normal env σ
  | .exit id, Q, env, σ => Q (.exit id) env σ
  | .goto l, Q, env, σ => Q (.goto l) env σ
  | .ret, Q, env, σ => Q .ret env σ
  | .region _ ops false, Q, env, σ => aws P ops.toList ops.toList (Q .normal) env σ
  | .seq a b, Q, env, σ => awp P rd a (QThen (awp P rd b Q) Q) env σ
  | .cond c x y, Q, env, σ =>
    match aval env.t c with
    | .bool p => Cs p (awp P rd x Q (env.op c true) σ) (awp P rd y Q (env.op c false) σ)
    | _ => False
  | .block id c, Q, env, σ => awp P rd c (QBlock id Q) env σ
  | c, Q, env, σ => ACode P rd c Q env σ
theorem awp_sound {rd : Option Nat} (c : Code) : ∀ {Q : Exit → Env → Heap → Prop} {env : Env} {σ : Heap}, awp P rd c Q env σ → ACode P rd c Q env σ := by
  induction c with
  | skip => intro Q env σ h C a ro hI he _; exact wpIn_skip (Post.done hI he h)
  | label l => intro Q env σ h C a ro hI he _; exact wpIn_label (Post.done hI he h)
  | exit id => intro Q env σ h C a ro hI he _; exact wpIn_exit (Post.done hI he h)
  | goto l => intro Q env σ h C a ro hI he _; exact wpIn_goto (Post.done hI he h)
  | ret => intro Q env σ h C a ro hI he _; exact wpIn_ret (Post.done hI he h)
  | region id ops draw =>
    intro Q env σ h
    cases draw with
    | false => exact ACode_region h
    | true => exact h
  | seq x y ihx ihy =>
    intro Q env σ h
    refine ACode_seq ((ihx h).mono fun e env σ hq => ?_)
    cases e with
    | normal => exact ihy hq
    | _ => exact hq
  | cond c x y ihx ihy =>
    intro Q env σ h
    simp only [awp] at h
    split at h
    · rename_i p hp
      exact ACode_cond hp (fun e => ihx (h.1 e)) (fun e => ihy (h.2 e))
    · cases h
  | block id c ih => intro Q env σ h; exact ACode_block (ih h)
  | loop b _ => intro Q env σ h; exact h
  | rangeFunc f ps a b _ _ => intro Q env σ h; exact h
  | scope b _ => intro Q env σ h; exact h
  | refuse w => intro Q env σ h; exact h

/-- A LOOP: what holds at each round's head, and a number that each round lowers. -/
theorem ACode_loop {rd : Option Nat} {c : Code} {Q : Exit → Env → Heap → Prop} {env : Env} {σ : Heap} (I : Env → Heap → Prop) (μ : Env → Heap → Nat) (h0 : I env σ)
    (round : ∀ env σ, I env σ → ACode P rd c (QThen (fun env' σ' => I env' σ' ∧ μ env' σ' < μ env σ) Q) env σ) : ACode P rd (.loop c) Q env σ := by
  intro C a ro hI he hr b k cs hro hb hroom
  have key : ∀ (j : Nat) (C' : Ctx) (env : Env) (σ : Heap) (a : Act), μ env σ = j → I env σ → Ext C C' → Inv C' σ → ER C' env a →
      ∃ e a' w', Post C Q e a' w' ∧ ArrivesIn (Machine.fenced P (WF ro)) P (lone (b.atR a (.code c :: .inLoop c :: k)) cs C'.w) b k cs e a' w' := by
    intro j
    induction j using Nat.strongRecOn with
    | _ j ih =>
      intro C' env σ a hn hi hE hI he
      obtain ⟨e, a₁, w₁, ⟨C1, env1, σ1, rfl, hE1, hI1, he1, hq⟩, harr⟩ := round env σ hi C' a ro hI he (hr.ext hE) b (.inLoop c :: k) cs hro hb hroom
      cases e with
      | normal =>
        obtain ⟨hi1, hlt⟩ := hq
        obtain ⟨e₂, a₂, w₂, hq₂, harr₂⟩ := ih (μ env1 σ1) (hn ▸ hlt) C1 env1 σ1 a₁ rfl hi1 (hE.trans hE1) hI1 he1
        exact ⟨e₂, a₂, w₂, hq₂, .of_steps (StepsIn.trans harr (.one (fenced_calm hb hroom rfl) stepR_inLoop)) harr₂⟩
      | exit id => exact ⟨_, a₁, _, ⟨C1, env1, σ1, rfl, hE.trans hE1, hI1, he1, hq⟩, .pass (x := .inLoop c) rfl (fun _ _ => .inl (by simp)) harr⟩
      | goto l => exact ⟨_, a₁, _, ⟨C1, env1, σ1, rfl, hE.trans hE1, hI1, he1, hq⟩, .pass (x := .inLoop c) rfl (fun _ _ => .inl (by simp)) harr⟩
      | ret => exact ⟨_, a₁, _, ⟨C1, env1, σ1, rfl, hE.trans hE1, hI1, he1, hq⟩, .pass (x := .inLoop c) rfl (fun _ _ => .inl (by simp)) harr⟩
      | panic ch => exact ⟨_, a₁, _, ⟨C1, env1, σ1, rfl, hE.trans hE1, hI1, he1, hq⟩, .pass (x := .inLoop c) rfl (fun _ _ => .inl (by simp)) harr⟩
      | outgrown => exact ⟨_, a₁, _, ⟨C1, env1, σ1, rfl, hE.trans hE1, hI1, he1, hq⟩, .pass (x := .inLoop c) rfl (fun _ _ => .inl (by simp)) harr⟩
  obtain ⟨e, a', w', hq, harr⟩ := key _ C env σ a rfl h0 (Ext.refl C) hI he
  exact ⟨e, a', w', hq, .of_steps (.one (fenced_calm hb hroom rfl) stepR_loop) harr⟩

/-! ### functions -/
def ares1 (P : Program) (t : List AV) (σ : Heap) : ResultVar → Option AV
  | .tmp i => some (t.getD i .any)
  | .cell a ty => aload P ty (t.getD a .any) σ
def aresL (P : Program) (t : List AV) (σ : Heap) : List ResultVar → Option (List AV)
  | [] => some []
  | r :: rs => match ares1 P t σ r, aresL P t σ rs with
    | some v, some vs => some (v :: vs)
    | _, _ => none
def ares (P : Program) (rs : List ResultVar) (t : List AV) (σ : Heap) : Option AV :=
  match rs with
  | [r] => ares1 P t σ r
  | _ => (aresL P t σ rs).map AV.tup
/-- behind a function's body -/
def QFn (P : Program) (fn : Func) (R : AV → Heap → Prop) : Exit → Env → Heap → Prop
  | .normal, env, σ | .ret, env, σ => env.m = [] ∧ match ares P fn.results.toList env.t σ with
    | some v => R v σ
    | none => False
  | _, _, _ => False
def resF (tmps : Array Value) : ResultVar → Sem Value
  | .tmp t => pure (tmps.getD t undef)
  | .cell a t => do loadVar t (← asAddr (tmps.getD a undef))
theorem results_eq (fn : Func) (tmps : Array Value) : results fn tmps = (do let vs ← fn.results.mapM (resF tmps); pure (if h : vs.size = 1 then vs[0] else .tuple vs)) := by
  unfold results
  congr 1
theorem ares1_sound {C : Ctx} {env : Env} {a : Act} {σ : Heap} (hI : Inv C σ) (he : ER C env a) {r : ResultVar} {v : AV} (h : ares1 P env.t σ r = some v) :
    ∃ c, (resF a.tmps r).run P C.w = .ok c C.w ∧ VR C v c := by
  cases r with
  | tmp i =>
    simp only [ares1, Option.some.injEq] at h
    subst h
    exact ⟨_, rfl, he.eval (.tmp i)⟩
  | cell x t =>
    simp only [ares1] at h
    obtain ⟨cv, hr, hv⟩ := aload_sound (P := P) hI (he.eval (.tmp x)) h
    refine ⟨cv, ?_, hv⟩
    simp only [Instr.loadAt, Act.eval] at hr
    simp only [resF]
    revert hr
    generalize a.tmps.getD x undef = q
    cases q <;> simp [Instr.sureAddr, asAddr]
    rename_i p
    cases p <;> simp
theorem aresL_sound {C : Ctx} {env : Env} {a : Act} {σ : Heap} (hI : Inv C σ) (he : ER C env a) : ∀ (rs : List ResultVar) (vs : List AV), aresL P env.t σ rs = some vs →
    ∃ cs : List Value, (rs.mapM (resF a.tmps)).run P C.w = .ok cs C.w ∧ VRs C vs cs := by
  intro rs
  induction rs with
  | nil => intro vs h; simp only [aresL, Option.some.injEq] at h; subst h; exact ⟨[], rfl, .nil C⟩
  | cons r rs ih =>
    intro vs h
    simp only [aresL] at h
    split at h
    · rename_i v vs' h1 h2
      simp only [Option.some.injEq] at h
      subst h
      obtain ⟨c, hc, hv⟩ := ares1_sound hI he h1
      obtain ⟨cs, hcs, hvs⟩ := ih vs' h2
      refine ⟨c :: cs, ?_, .cons hv hvs⟩
      rw [List.mapM_cons]
      simp only [Sem.run_bind, Sem.run_pure]
      rw [hc]
      simp only [Result.andThen_ok]
      rw [hcs]
      rfl
    · cases h
theorem ares_sound {C : Ctx} {env : Env} {a : Act} {σ : Heap} (hI : Inv C σ) (he : ER C env a) {fn : Func} {v : AV} (h : ares P fn.results.toList env.t σ = some v) : ∃ c, (results fn a.tmps).run P C.w = .ok c C.w ∧ VR C v c := by
  have key : ∀ vs, aresL P env.t σ fn.results.toList = some vs → ∃ cs : List Value, (fn.results.mapM (resF a.tmps)).run P C.w = .ok cs.toArray C.w ∧ VRs C vs cs := by
    intro vs hvs
    obtain ⟨cs, hcs, hr⟩ := aresL_sound hI he _ vs hvs
    refine ⟨cs, ?_, hr⟩
    rw [Array.mapM_eq_mapM_toList, Sem.run_map, hcs]
    rfl
  unfold ares at h
  rw [results_eq]
  split at h
  · rename_i r hr
    have h1 : aresL P env.t σ fn.results.toList = some [v] := by rw [hr]; simp [aresL, h]
    obtain ⟨cs, hcs, hv⟩ := key _ h1
    obtain ⟨c, cs', rfl, hc, hrest⟩ := hv.inv
    obtain rfl := hrest.of_nil
    refine ⟨c, ?_, hc⟩
    simp only [Sem.run_bind]
    rw [hcs]
    simp
  · rename_i hne
    rw [Option.map_eq_some_iff] at h
    obtain ⟨vs, hvs, rfl⟩ := h
    obtain ⟨cs, hcs, hv⟩ := key _ hvs
    refine ⟨.tuple cs.toArray, ?_, .tup vs cs hv.len hv.at_⟩
    simp only [Sem.run_bind]
    rw [hcs]
    have hl : cs.length ≠ 1 := by
      intro e1
      have h2 := hv.len
      rw [e1] at h2
      have h3 : ∀ (l : List ResultVar) (vs : List AV), aresL P env.t σ l = some vs → vs.length = l.length := by
        intro l
        induction l with
        | nil => intro vs h; simp [aresL] at h; simp [h]
        | cons r l ih =>
          intro vs h
          simp only [aresL] at h
          split at h
          · rename_i v vs' h1 h2
            simp only [Option.some.injEq] at h
            subst h
            simp [ih vs' h2]
          · cases h
      have h4 := h3 _ _ hvs
      rw [h2] at h4
      match hm : fn.results.toList with
      | [r] => exact hne r hm
      | [] => rw [hm] at h4; cases h4
      | _ :: _ :: _ => rw [hm] at h4; simp at h4
    simp [hl]
/-- A FUNCTION's CONTRACT, FROM ITS BODY. -/
theorem aenter_of {f : FuncId} {fn : Func} {c : Code} {args : List AV} {σ : Heap} {R : AV → Heap → Prop} (hf : P.funcs[f]? = some fn) (hb : fn.body = some c) (hen : Enters P f)
    (h : ACode P none c (QFn P fn R) { t := args ++ List.replicate (fn.ntmps - args.length) .any } σ) : AEnter P f args σ R := by
  refine ⟨hen, fun C cargs hI hv => ?_⟩
  have hl := hv.len
  refine callsIn_of_wp hf hb trivial ?_ rfl
  have he : ER C { t := args ++ List.replicate (fn.ntmps - args.length) .any } { tmps := cargs.toArray ++ Array.replicate (fn.ntmps - cargs.toArray.size) undef, defers := [] } := by
    refine ⟨?_, rfl, fun i r d h => by simp at h⟩
    have h2 : VRs C (List.replicate (fn.ntmps - args.length) .any) (List.replicate (fn.ntmps - args.length) undef) := ⟨by simp, fun i x c hx hc => by
      obtain ⟨_, hx⟩ := List.getElem?_eq_some_iff.1 hx
      simp at hx
      subst hx
      exact .any _⟩
    have := hv.append h2
    simpa [hl] using this
  refine wpIn_mono (h C _ none hI he rfl) ?_
  rintro e a' w' ⟨C', env', σ', rfl, hE, hI', he', hq⟩
  have key : env'.m = [] → (match ares P fn.results.toList env'.t σ' with | some v => R v σ' | none => False) →
      a'.defers = [] ∧ ∃ v, (results fn a'.tmps).run P C'.w = .ok v C'.w ∧ (∃ (v' : Value) (C'' : Ctx) (av : AV) (σ'' : Heap), Ending.returned v = .returned v' ∧ C''.w = C'.w ∧ Ext C C'' ∧ Inv C'' σ'' ∧ VR C'' av v' ∧ R av σ'') := by
    intro hm hq
    split at hq
    · rename_i v hv'
      obtain ⟨c, hc, hvr⟩ := ares_sound hI' he' hv'
      refine ⟨?_, c, hc, c, C', v, σ', rfl, rfl, hE, hI', hvr, hq⟩
      have := he'.m
      rw [hm] at this
      exact List.eq_nil_of_length_eq_zero this
    · cases hq
  cases e with
  | normal => exact key hq.1 hq.2
  | ret => exact key hq.1 hq.2
  | _ => cases hq
theorem acalls_of {f : FuncId} {fn : Func} {c : Code} {args : List AV} {σ : Heap} {R : AV → Heap → Prop} (hf : P.funcs[f]? = some fn) (hb : fn.body = some c) (hen : Enters P f)
    (h : ACode P none c (QFn P fn R) { t := args ++ List.replicate (fn.ntmps - args.length) .any } σ) : ACalls P f args σ R := .inl (aenter_of hf hb hen h)
end Ab
namespace Ab
open Go Go.RowKit
variable [Mode]
variable {P : Program}

/-! ### which operations come ahead of which -/
def maskStep (acc : List Nat) (o : Oper) : Nat := o.after.toList.foldl (fun s e => if Region.binds .any e then s ||| 2 ^ e.on ||| acc.getD e.on 0 else s) 0
def masksFrom (acc : List Nat) : List Oper → List Nat
  | [] => acc
  | o :: rest => masksFrom (acc ++ [maskStep acc o]) rest
def masks (ops : List Oper) : List Nat := masksFrom [] ops
/-- operation j comes ahead of i -/
def bef (ms : List Nat) (i j : Nat) : Bool := (ms.getD i 0).testBit j
theorem foldl_bits (acc : List Nat) (es : List Edge) (j : Nat) : ∀ (s : Nat), (es.foldl (fun s e => if Region.binds .any e then s ||| 2 ^ e.on ||| acc.getD e.on 0 else s) s).testBit j = true →
    s.testBit j = true ∨ ∃ e ∈ es, Region.binds .any e = true ∧ (j = e.on ∨ (acc.getD e.on 0).testBit j = true) := by
  induction es with
  | nil => intro s h; exact .inl h
  | cons e es ih =>
    intro s h
    simp only [List.foldl_cons] at h
    rcases ih _ h with h | ⟨e', he', h1, h2⟩
    · split at h
      · rename_i hb
        simp only [Nat.testBit_or, Bool.or_eq_true] at h
        rcases h with (h | h) | h
        · exact .inl h
        · rw [Nat.testBit_two_pow] at h
          simp at h
          exact .inr ⟨e, by simp, hb, .inl h.symm⟩
        · exact .inr ⟨e, by simp, hb, .inr h⟩
      · exact .inl h
    · exact .inr ⟨e', by simp [he'], h1, h2⟩
theorem masks_good (ops : List Oper) : ∀ (rest dn : List Oper) (acc : List Nat), ops = dn ++ rest → acc.length = dn.length → (∀ i o, i < acc.length → ops[i]? = some o → acc[i]? = some (maskStep (acc.take i) o)) →
    (masksFrom acc rest).length = ops.length ∧ ∀ i o, ops[i]? = some o → (masksFrom acc rest)[i]? = some (maskStep ((masksFrom acc rest).take i) o) := by
  intro rest
  induction rest with
  | nil => intro dn acc h1 h2 h3; simp [masksFrom, h1] at *; exact ⟨h2, fun i o ho => h3 i o (by rw [h2]; exact (List.getElem?_eq_some_iff.1 ho).1) ho⟩
  | cons o rest ih =>
    intro dn acc h1 h2 h3
    simp only [masksFrom]
    refine ih (dn ++ [o]) _ (by simp [h1]) (by simp [h2]) (fun i o' hi ho' => ?_)
    simp at hi
    rcases Nat.lt_or_ge i acc.length with h | h
    · rw [List.getElem?_append_left h, h3 i o' h ho', List.take_append_of_le_length (by omega)]
    · obtain rfl : i = acc.length := by omega
      rw [h1, h2] at ho'
      simp at ho'
      subst ho'
      simp
theorem bef_edge {ops : List Oper} {i j : Nat} {o : Oper} (ho : ops[i]? = some o) (h : bef (masks ops) i j = true) : ∃ e ∈ o.after, Region.binds .any e = true ∧ (j = e.on ∨ (e.on < i ∧ bef (masks ops) e.on j = true)) := by
  obtain ⟨_, hg⟩ := masks_good ops ops [] [] rfl rfl (fun i o hi => by simp at hi)
  have hm := hg i o ho
  unfold bef masks at h
  rw [List.getD_eq_getElem?_getD, hm] at h
  simp only [Option.getD_some, maskStep] at h
  rcases foldl_bits _ _ _ _ h with h | ⟨e, he, h1, h2⟩
  · simp at h
  · refine ⟨e, by simpa using he, h1, ?_⟩
    rcases h2 with h2 | h2
    · exact .inl h2
    · refine .inr ?_
      rw [List.getD_eq_getElem?_getD, List.getElem?_take] at h2
      by_cases hlt : e.on < i
      · rw [if_pos hlt] at h2
        exact ⟨hlt, by unfold bef masks; rw [List.getD_eq_getElem?_getD]; exact h2⟩
      · rw [if_neg hlt] at h2
        simp at h2
/-- a set of operations that holds with each all that come ahead of it -/
def Closed (ops : List Oper) (L : Nat → Bool) : Prop := ∀ (i : Nat) (o : Oper), ops[i]? = some o → L i = true → ∀ e ∈ o.after, Region.binds .any e = true → L e.on = true
theorem Closed.bef {ops : List Oper} {L : Nat → Bool} (hc : Closed ops L) : ∀ (i j : Nat) (o : Oper), ops[i]? = some o → L i = true → bef (masks ops) i j = true → L j = true := by
  intro i
  induction i using Nat.strongRecOn with
  | _ i ih =>
    intro j o ho hi hb
    obtain ⟨e, he, h1, h2⟩ := bef_edge ho hb
    have hl := hc i o ho hi e he h1
    rcases h2 with rfl | ⟨h2, h3⟩
    · exact hl
    · have hlt : e.on < ops.length := Nat.lt_trans h2 (List.getElem?_eq_some_iff.1 ho).1
      exact ih e.on h2 j _ (List.getElem?_eq_getElem hlt) hl h3

/-- the temporaries that an operation looks at or writes -/
def tnames (ops : List Oper) (o : Oper) : List Tmp :=
  o.dst.toList ++ o.op.operands.toList.filterMap (fun | .tmp t => some t | _ => none) ++ (match o.guard with | some (j, _) => ((ops[j]?).bind (·.dst)).toList | none => [])
/-- what touches is ordered; edges lead backwards; the heavy operations stand in a row -/
def drawOk (ops : List Oper) (H : List Nat) : Bool :=
  let ms := masks ops
  (ops.zipIdx.all fun (o, i) => (o.after.all fun e => !Region.binds .any e || decide (e.on < i)) &&
    (ops.zipIdx.all fun (o', j) => !decide (i < j) || bef ms j i ||
      (!(o.dst.toList.any fun d => (tnames ops o').contains d) && !(o'.dst.toList.any fun d => (tnames ops o).contains d) && !(H.contains i && H.contains j)))) &&
  (H.zipIdx.all fun (h, p) => decide (h < ops.length) && H.zipIdx.all fun (h', p') => !decide (p < p') || decide (h < h'))

/-! ### the temporaries when some operations are done -/
def envF (ops : List Oper) (r : Nat → AV) (env : Env) (L : Nat → Bool) : Nat → Env
  | 0 => env
  | k + 1 => if L k then (envF ops r env L k).put ((ops[k]?).bind (·.dst)) (r k) else envF ops r env L k
theorem envF_m (ops : List Oper) (r : Nat → AV) (env : Env) (L : Nat → Bool) (k : Nat) : (envF ops r env L k).m = env.m ∧ (envF ops r env L k).t.length = env.t.length := by
  induction k with
  | zero => exact ⟨rfl, rfl⟩
  | succ k ih =>
    simp only [envF]
    split
    · cases (ops[k]?).bind (·.dst) with
      | none => exact ih
      | some d => exact ⟨ih.1, by simp [Env.put, ih.2]⟩
    · exact ih
theorem put_get (e : Env) (d : Option Tmp) (v : AV) (t : Tmp) (h : d ≠ some t) : (e.put d v).t.getD t .any = e.t.getD t .any := by
  cases d with
  | none => rfl
  | some d =>
    have : d ≠ t := fun x => h (by rw [x])
    simp only [Env.put, List.getD_eq_getElem?_getD, List.getElem?_set, if_neg this]
theorem envF_get {ops : List Oper} {r : Nat → AV} {env : Env} {L : Nat → Bool} {i : Nat} {t : Tmp} : ∀ (n : Nat), (∀ j, j < n → (ops[j]?).bind (·.dst) = some t → (L j = true ↔ j < i)) →
    (envF ops r env L n).t.getD t .any = (envF ops r env (fun _ => true) (min n i)).t.getD t .any := by
  intro n
  induction n with
  | zero => intro _; simp [envF]
  | succ n ih =>
    intro h
    have ih' := ih fun j hj hd => h j (by omega) hd
    by_cases hd : (ops[n]?).bind (·.dst) = some t
    · have hn := h n (by omega) hd
      by_cases hlt : n < i
      · rw [show min (n + 1) i = n + 1 by omega]
        simp only [envF, hn.2 hlt, if_true]
        rw [show min n i = n by omega] at ih'
        rw [hd]
        have l1 := (envF_m ops r env L n).2
        have l2 := (envF_m ops r env (fun _ => true) n).2
        simp only [Env.put, List.getD_eq_getElem?_getD, List.getElem?_set, l1, l2]
        by_cases ht : t < env.t.length
        · simp [ht]
        · simp [ht]
      · have hf : L n = false := by
          cases hL : L n
          · rfl
          · exact absurd (hn.1 hL) hlt
        rw [show min (n + 1) i = min n i by omega]
        simp only [envF, hf, Bool.false_eq_true, if_false]
        exact ih'
    · have e1 : (envF ops r env L (n + 1)).t.getD t .any = (envF ops r env L n).t.getD t .any := by
        simp only [envF]
        split
        · exact put_get _ _ _ _ hd
        · rfl
      rw [e1, ih']
      by_cases hlt : n < i
      · rw [show min (n + 1) i = n + 1 by omega, show min n i = n by omega]
        simp only [envF, if_true]
        rw [put_get _ _ _ _ hd]
      · rw [show min (n + 1) i = min n i by omega]
theorem put_comm (e : Env) {d d' : Option Tmp} (v v' : AV) (h : ∀ t, d = some t → d' ≠ some t) : (e.put d v).put d' v' = (e.put d' v').put d v := by
  cases d with
  | none => rfl
  | some d =>
    cases d' with
    | none => rfl
    | some d' =>
      have : d ≠ d' := fun x => h d rfl (by rw [x])
      simp only [Env.put, List.set_comm _ _ this]
theorem envF_set {ops : List Oper} {r : Nat → AV} {env : Env} {L : Nat → Bool} {i : Nat} (hi : L i = false) : ∀ (n : Nat), i < n → (∀ j, i < j → j < n → L j = true → ∀ t, (ops[i]?).bind (·.dst) = some t → (ops[j]?).bind (·.dst) ≠ some t) →
    envF ops r env (fun j => if j = i then true else L j) n = (envF ops r env L n).put ((ops[i]?).bind (·.dst)) (r i) := by
  intro n
  induction n with
  | zero => intro h; omega
  | succ n ih =>
    intro h hd
    have same : ∀ k, k ≤ i → envF ops r env (fun j => if j = i then true else L j) k = envF ops r env L k := by
      intro k
      induction k with
      | zero => intro _; rfl
      | succ k ihk => intro hk; simp only [envF, ihk (by omega), if_neg (show ¬ k = i by omega)]
    by_cases e : n = i
    · subst e
      simp only [envF, if_true, hi, Bool.false_eq_true, if_false, same n (Nat.le_refl _)]
    · have ih' := ih (by omega) fun j h1 h2 => hd j h1 (by omega)
      simp only [envF, if_neg e]
      split
      · rename_i hl
        rw [ih', put_comm _ _ _ (fun t ht => hd n (by omega) (by omega) hl t ht)]
      · exact ih'

/-! ### an operation hangs on what it looks at -/
theorem map_congr_op {t t' : List AV} (l : List Operand) (h : ∀ x ∈ l, aval t x = aval t' x) : l.map (aval t) = l.map (aval t') := List.map_congr_left h
theorem omap_congr {t t' : List AV} (x : Option Operand) (h : ∀ y, x = some y → aval t y = aval t' y) : x.map (aval t) = x.map (aval t') := by
  cases x with
  | none => rfl
  | some y => simp only [Option.map_some, h y rfl]
theorem pmap_congr {t t' : List AV} (ps : Array (Nat × Operand)) (h : ∀ x ∈ ps.toList.map (·.2), aval t x = aval t' x) : (ps.toList.map fun p => (p.1, aval t p.2)) = ps.toList.map fun p => (p.1, aval t' p.2) := by
  apply List.map_congr_left
  intro p hp
  rw [h p.2 (List.mem_map.2 ⟨p, hp, rfl⟩)]
theorem aop_call_congr {t t' : List AV} {σ : Heap} {dst : Option Tmp} {ty : TypeId} {pos : String} {after : Array Edge} {guard : Option (Nat × Bool)} {c : Call} (h : ∀ x ∈ c.operands, aval t x = aval t' x) :
    aop P t σ { dst, op := .call c, type := ty, pos, after, guard } = aop P t' σ { dst, op := .call c, type := ty, pos, after, guard } := by
  obtain ⟨callee, args, ts⟩ := c
  cases callee <;> simp only [aop]
  rw [map_congr_op args.toList (fun y hy => h y (by simp [Call.operands]; simpa using hy))]
theorem aop_congr {t t' : List AV} {σ : Heap} {o : Oper} (h : ∀ x ∈ o.op.operands, aval t x = aval t' x) : aop P t σ o = aop P t' σ o := by
  obtain ⟨dst, op, ty, pos, after, guard⟩ := o
  simp only at h
  cases op
  case makeMap ty q => cases q <;> rfl
  case lookup ty x i ok => simp only [Op.operands] at h; simp only [aop]; rw [h x (by simp), h i (by simp)]
  case mapUpdate ty m k x => simp only [Op.operands] at h; simp only [aop]; rw [h m (by simp), h k (by simp), h x (by simp)]
  case call c => exact aop_call_congr h
  all_goals simp only [Op.operands] at h
  all_goals first
    | rfl
    | (simp only [aop]; rw [h _ (by simp)]; done)
    | (rename_i x; simp only [aop]; rw [h x (by simp)]; done)
    | (rename_i x y; simp only [aop]; rw [h x (by simp), h y (by simp)]; done)
    | (rename_i x y z; simp only [aop]; rw [h x (by simp), h y (by simp), h z (by simp)]; done)
    | (rename_i x y z; simp only [aop]; rw [h y (by simp), h z (by simp)]; done)
    | (rename_i a b x y c; simp only [aop]; rw [h x (by simp), h y (by simp)]; done)
    | (rename_i x ps; simp only [aop]; rw [pmap_congr ps (fun y hy => h y (by simpa using hy))]; done)
    | (rename_i x n ps; simp only [aop]; rw [pmap_congr ps (fun y hy => h y (by simpa using hy))]; done)
    | (rename_i f xs ys; simp only [aop]; rw [map_congr_op xs.toList (fun y hy => h y (by simp; exact .inl (by simpa using hy))), map_congr_op ys.toList (fun y hy => h y (by simp; exact .inr (by simpa using hy)))]; done)
    | (rename_i t2 x lo hi mx; simp only [aop]; rw [h x (by simp), omap_congr lo (fun y hy => h y (by simp [hy])), omap_congr hi (fun y hy => h y (by simp [hy])), omap_congr mx (fun y hy => h y (by simp [hy]))]; done)
theorem aw1_congr {o : Oper} {K : AV → Heap → Prop} {env env' : Env} {σ : Heap} (h : ∀ x ∈ o.op.operands, aval env.t x = aval env'.t x) (hw : aw1 P o K env σ) : aw1 P o K env' σ := by
  unfold aw1 at hw ⊢
  split at hw
  · rename_i f args ts hop
    rw [hop] at h
    have h1 : aval env'.t f = aval env.t f := (h f (by simp [Op.operands, Call.operands])).symm
    have h2 : args.toList.map (aval env'.t) = args.toList.map (aval env.t) := map_congr_op _ fun y hy => (h y (by simp [Op.operands, Call.operands]; exact .inr (by simpa using hy))).symm
    rw [h1, h2]
    exact hw
  · rename_i hne
    rw [aop_congr h] at hw
    exact hw
end Ab
namespace Ab
open Go Go.RowKit
variable [Mode]
variable {P : Program}

def awantB (ops : List Oper) (t : List AV) (g : Option (Nat × Bool)) : Option Bool :=
  match aguard ops t g with
  | some none => some true
  | some (some (_, b, want)) => some (b == want)
  | none => none
theorem awantB_sound {C : Ctx} {env : Env} {a : Act} (he : ER C env a) {ops : Array Oper} {o : Oper} {b : Bool} (h : awantB ops.toList env.t o.guard = some b) : Region.wanted o (yielded ops a.tmps) = b := by
  unfold awantB at h
  split at h
  · rename_i hg
    simp only [Option.some.injEq] at h
    subst h
    unfold Region.wanted; rw [aguard_none hg]
  · rename_i d p want hg
    simp only [Option.some.injEq] at h
    rw [← h]
    exact (aguard_sound he hg).1
  · cases h
theorem awantB_congr {ops : List Oper} {t t' : List AV} {g : Option (Nat × Bool)} (h : ∀ j w d, g = some (j, w) → (ops[j]?).bind (·.dst) = some d → t.getD d .any = t'.getD d .any) : awantB ops t g = awantB ops t' g := by
  unfold awantB aguard
  cases g with
  | none => rfl
  | some jw =>
    obtain ⟨j, w⟩ := jw
    simp only
    cases hd : (ops[j]?).bind (·.dst) with
    | none => rfl
    | some d => simp only [h j w d rfl hd]
def tr : Nat → Bool := fun _ => true
/-- one operation whose outcome is fixed -/
def awFix (P : Program) (o : Oper) (v : AV) (s' : Heap) (env : Env) (s : Heap) : Prop := aw1 P o (fun v' s2 => v' = v ∧ s2 = s') env s
def isCall (o : Oper) : Bool := match o.op with | .call { callee := .value _, .. } => true | _ => false
/-- a slice literal: its block may be taken as one that is never written again -/
def isLit (o : Oper) : Bool := match o.op with | .buildSlice _ _ _ => true | _ => false
/-- an operation that gives v and turns no object, whatever the objects are -/
def Lit (P : Program) (o : Oper) (v : AV) (env : Env) : Prop :=
  ∀ (s : Heap) (env' : Env) (C : Ctx) (a : Act), (∀ x ∈ o.op.operands, aval env.t x = aval env'.t x) → Inv C s → ER C env' a → ∀ (ro : Option Nat) (next : Act → World → Prop) (Q : Exit → Act → World → Prop),
    (∀ (C' : Ctx) (c : Value), Ext C C' → Inv C' s → VR C' v c → next (a.put o.dst c) C'.w) → o.wpIn (WF ro) 0 P a C.w next Q
/-- A region's run in the order of its text: what each operation gives, and the objects behind each heavy one. -/
structure Draws (P : Program) (ops : List Oper) (H : List Nat) (env : Env) (σ : Heap) (r : Nat → AV) (S : Nat → Heap) : Prop where
  s0 : S 0 = σ
  light : ∀ (i : Nat) (o : Oper), ops[i]? = some o → i ∉ H →
    (awantB ops (envF ops r env tr i).t o.guard = some true ∧
      (Lit P o (r i) (envF ops r env tr i) ∨ ∀ m, m ≤ H.length → (∀ p h, H[p]? = some h → (bef (masks ops) i h = true → p < m) ∧ (bef (masks ops) h i = true → m ≤ p)) → aw1 P o (fun v s => v = r i ∧ s = S m) (envF ops r env tr i) (S m))) ∨
    (awantB ops (envF ops r env tr i).t o.guard = some false ∧ r i = .tup [])
  heavy : ∀ (p i : Nat) (o : Oper), H[p]? = some i → ops[i]? = some o →
    (awantB ops (envF ops r env tr i).t o.guard = some true ∧ aw1 P o (fun v s => v = r i ∧ s = S (p + 1)) (envF ops r env tr i) (S p)) ∨
    (awantB ops (envF ops r env tr i).t o.guard = some false ∧ r i = .tup [] ∧ S (p + 1) = S p)
theorem drawOk_inv {ops : List Oper} {H : List Nat} (h : drawOk ops H = true) :
    (∀ (i : Nat) (o : Oper), ops[i]? = some o → ∀ e ∈ o.after, Region.binds .any e = true → e.on < i) ∧
    (∀ (i j : Nat) (o o' : Oper), ops[i]? = some o → ops[j]? = some o' → i < j → bef (masks ops) j i = true ∨
      ((∀ d, o.dst = some d → d ∉ tnames ops o') ∧ (∀ d, o'.dst = some d → d ∉ tnames ops o) ∧ ¬ (i ∈ H ∧ j ∈ H))) ∧
    (∀ (p : Nat) (h : Nat), H[p]? = some h → h < ops.length) ∧ (∀ (p p' h h' : Nat), H[p]? = some h → H[p']? = some h' → p < p' → h < h') := by
  unfold drawOk at h
  simp only [Bool.and_eq_true, List.all_eq_true] at h
  obtain ⟨h1, h2⟩ := h
  have mem : ∀ {α : Type} {l : List α} {i : Nat} {x : α}, l[i]? = some x → (x, i) ∈ l.zipIdx := fun h => List.mem_zipIdx_iff_getElem?.2 h
  refine ⟨fun i o ho e he hb => ?_, fun i j o o' ho ho' hij => ?_, fun p h hp => ?_, fun p p' h h' hp hp' hlt => ?_⟩
  · have := (h1 _ (mem ho)).1
    rw [Array.all_eq_true_iff_forall_mem] at this
    have := this e he
    simp [hb] at this
    exact this
  · have := (h1 _ (mem ho)).2 _ (mem ho')
    simp only [hij, decide_true, Bool.not_true, Bool.false_or, Bool.or_eq_true, Bool.and_eq_true, Bool.not_eq_true'] at this
    rcases this with this | ⟨⟨g1, g2⟩, g3⟩
    · exact .inl this
    · refine .inr ⟨fun d hd hm => ?_, fun d hd hm => ?_, fun ⟨hi, hj⟩ => ?_⟩
      · rw [hd] at g1; simp at g1; exact g1 hm
      · rw [hd] at g2; simp at g2; exact g2 hm
      · simp [hi, hj] at g3
  · have := (h2 _ (mem hp)).1
    simpa using this
  · have := (h2 _ (mem hp)).2 _ (mem hp')
    simpa [hlt] using this
theorem mem_of_getElem? {l : List Nat} {p h : Nat} (hp : l[p]? = some h) : h ∈ l := List.mem_of_getElem? hp

theorem ACode_draw {rd : Option Nat} {id : Nat} {opsA : Array Oper} {Q : Exit → Env → Heap → Prop} {env : Env} {σ : Heap} (hm : P.follows .mixedOrders = true) (H : List Nat) (r : Nat → AV) (S : Nat → Heap)
    (hok : drawOk opsA.toList H = true) (hd : Draws P opsA.toList H env σ r S) (hQ : Q .normal (envF opsA.toList r env tr opsA.size) (S H.length)) : ACode P rd (.region id opsA true) Q env σ := by
  intro C a ro hI he _
  obtain ⟨hedge, hpair, hHlt, hHord⟩ := drawOk_inv hok
  refine wpIn_region_any hm ?_
  have key : ∀ (fuel : Nat) (listed : Array Bool) (C' : Ctx) (a : Act) (m : Nat), listed.size = opsA.size → Closed opsA.toList (fun i => listed.getD i false) →
      ((List.range opsA.size).countP fun i => !listed.getD i false) ≤ fuel → m ≤ H.length → (∀ p h, H[p]? = some h → (listed.getD h false = true ↔ p < m)) →
      Ext C C' → Inv C' (S m) → ER C' (envF opsA.toList r env (fun i => listed.getD i false) opsA.size) a →
      wpAnyIn (WF ro) 0 P .any opsA (Post C Q) fuel listed a C'.w := by
    intro fuel
    have done : ∀ (listed : Array Bool) (C' : Ctx) (a : Act) (m : Nat), listed.size = opsA.size → m ≤ H.length → (∀ p h, H[p]? = some h → (listed.getD h false = true ↔ p < m)) →
        Ext C C' → Inv C' (S m) → ER C' (envF opsA.toList r env (fun i => listed.getD i false) opsA.size) a → Region.ready .any opsA listed = [] → Post C Q .normal a C'.w := by
      intro listed C' a m hsz hmle hmm hE hI' he' hr
      have hall : ∀ i, i < opsA.size → listed.getD i false = true := by
        intro i
        induction i using Nat.strongRecOn with
        | _ i ih =>
          intro hi
          cases hl : listed.getD i false with
          | true => rfl
          | false =>
            have : i ∈ Region.ready .any opsA listed := by
              rw [mem_ready]
              refine ⟨?_, opsA[i], Array.getElem?_eq_getElem hi, fun e he hb => ?_⟩
              · have hi' : i < listed.size := by omega
                simp only [Array.getD_eq_getD_getElem?, Array.getElem?_eq_getElem hi', Option.getD_some] at hl ⊢
                exact hl
              · have hlt := hedge i opsA[i] (by simp [hi]) e he hb
                exact ih e.on hlt (by omega)
            rw [hr] at this
            cases this
      have hmH : m = H.length := by
        rcases Nat.lt_or_ge m H.length with h | h
        · have h1 := hHlt m H[m] (List.getElem?_eq_getElem h)
          have h2 := (hmm m H[m] (List.getElem?_eq_getElem h)).1 (hall _ (by simpa using h1))
          omega
        · omega
      have henv : ∀ k, k ≤ opsA.size → envF opsA.toList r env (fun i => listed.getD i false) k = envF opsA.toList r env tr k := by
        intro k
        induction k with
        | zero => intro _; rfl
        | succ k ih => intro hk; simp only [envF, ih (by omega), hall k (by omega), tr]
      rw [henv _ (Nat.le_refl _)] at he'
      subst hmH
      exact ⟨C', _, _, rfl, hE, hI', he', hQ⟩
    induction fuel with
    | zero =>
      intro listed C' a m hsz hcl hcnt hmle hmm hE hI' he'
      have hr : Region.ready .any opsA listed = [] := by
        rw [List.eq_nil_iff_forall_not_mem]
        intro i hi
        rw [mem_ready] at hi
        obtain ⟨h1, o, ho, _⟩ := hi
        have hlt := (Array.getElem?_eq_some_iff.1 ho).1
        have h2 : 0 < (List.range opsA.size).countP fun i => !listed.getD i false := by
          rw [List.countP_pos_iff]
          refine ⟨i, by simpa using hlt, ?_⟩
          have hi' : i < listed.size := by omega
          simp only [Array.getD_eq_getD_getElem?, Array.getElem?_eq_getElem hi', Option.getD_some] at h1 ⊢
          simp [h1]
        omega
      exact ⟨hr, done listed C' a m hsz hmle hmm hE hI' he' hr⟩
    | succ fuel ih =>
      intro listed C' a m hsz hcl hcnt hmle hmm hE hI' he'
      refine ⟨fun hr => done listed C' a m hsz hmle hmm hE hI' he' hr, fun i hi => ?_⟩
      rw [mem_ready] at hi
      obtain ⟨hul, o, ho, hpre⟩ := hi
      have hlt := (Array.getElem?_eq_some_iff.1 ho).1
      have hol : opsA.toList[i]? = some o := by simpa using ho
      have hun : listed.getD i false = false := by
        have hi' : i < listed.size := by omega
        simp only [Array.getD_eq_getD_getElem?, Array.getElem?_eq_getElem hi', Option.getD_some] at hul ⊢
        exact hul
      -- the next set
      have hset : ∀ j, (listed.setIfInBounds i true).getD j false = (if j = i then true else listed.getD j false) := by
        intro j
        simp only [Array.getD_eq_getD_getElem?, Array.getElem?_setIfInBounds]
        by_cases e : i = j
        · subst e; simp [show i < listed.size by omega]
        · rw [if_neg e, if_neg (fun x => e x.symm)]
      have hcl' : Closed opsA.toList (fun j => (listed.setIfInBounds i true).getD j false) := by
        intro j o' ho' hj e he hb
        simp only [hset] at hj ⊢
        split at hj
        · rename_i e1
          subst e1
          rw [hol] at ho'
          obtain rfl : o = o' := by simpa using ho'
          have := hpre e he hb
          split
          · rfl
          · exact this
        · have := hcl j o' ho' hj e he hb
          split
          · rfl
          · exact this
      have hcnt' : ((List.range opsA.size).countP fun j => !(listed.setIfInBounds i true).getD j false) ≤ fuel := by
        have h1 : ((List.range opsA.size).countP fun j => !(listed.setIfInBounds i true).getD j false) + 1 ≤ (List.range opsA.size).countP fun j => !listed.getD j false := by
          have hmem : i ∈ List.range opsA.size := by simpa using hlt
          obtain ⟨l1, l2, hl⟩ := List.append_of_mem hmem
          rw [hl]
          simp only [List.countP_append, List.countP_cons, hset, if_true, hun]
          have hle : ∀ l : List Nat, (l.countP fun j => !if j = i then true else listed.getD j false) ≤ l.countP fun j => !listed.getD j false := by
            intro l
            apply List.countP_mono_left
            intro j _ hj
            simp at hj ⊢
            exact hj.2
          have a1 := hle l1
          have a2 := hle l2
          simp at a1 a2 ⊢
          omega
        omega
      -- what the operation looks at is as in the order of the text
      have hval : ∀ t ∈ tnames opsA.toList o, (envF opsA.toList r env (fun i => listed.getD i false) opsA.size).t.getD t .any = (envF opsA.toList r env tr i).t.getD t .any := by
        intro t ht
        have := envF_get (ops := opsA.toList) (r := r) (env := env) (L := fun i => listed.getD i false) (i := i) (t := t) opsA.size (fun j hj hdj => by
          obtain ⟨oj, hoj, hdj⟩ := Option.bind_eq_some_iff.1 hdj
          rcases Nat.lt_trichotomy j i with h | h | h
          · refine ⟨fun _ => h, fun _ => ?_⟩
            rcases hpair j i oj o hoj hol h with hb | ⟨h1, _, _⟩
            · -- j ahead of i: its edge leads to a listed one
              obtain ⟨e, he, hbi, hje⟩ := bef_edge hol hb
              have hl := hpre e he hbi
              rcases hje with rfl | ⟨h2, h3⟩
              · exact hl
              · have hlt2 : e.on < opsA.toList.length := by simp; omega
                exact Closed.bef (L := fun i => listed.getD i false) hcl e.on j _ (List.getElem?_eq_getElem hlt2) hl h3
            · exact absurd ht (h1 t hdj)
          · subst h
            exact ⟨(fun hx => by rw [hun] at hx; cases hx), fun hx => absurd hx (Nat.lt_irrefl _)⟩
          · refine ⟨fun hx => ?_, fun hx => by omega⟩
            rcases hpair i j o oj hol hoj h with hb | ⟨_, h2, _⟩
            · have := Closed.bef (L := fun i => listed.getD i false) hcl j i oj hoj hx hb
              rw [hun] at this; cases this
            · exact absurd ht (h2 t hdj))
        rw [this, show min opsA.size i = i by omega]
        rfl
      have hav : ∀ x ∈ o.op.operands, aval (envF opsA.toList r env tr i).t x = aval (envF opsA.toList r env (fun i => listed.getD i false) opsA.size).t x := by
        intro x hx
        cases x with
        | tmp t =>
          simp only [aval]
          refine (hval t ?_).symm
          simp only [tnames, List.mem_append]
          exact .inl (.inr (List.mem_filterMap.2 ⟨.tmp t, by simpa using hx, rfl⟩))
        | _ => rfl
      have haw : awantB opsA.toList (envF opsA.toList r env tr i).t o.guard = awantB opsA.toList (envF opsA.toList r env (fun i => listed.getD i false) opsA.size).t o.guard := by
        refine awantB_congr fun j w d hg hd => (hval d ?_).symm
        simp only [tnames, List.mem_append, hg]
        exact .inr (by rw [hd]; simp)
      have hnext : envF opsA.toList r env (fun j => (listed.setIfInBounds i true).getD j false) opsA.size = (envF opsA.toList r env (fun i => listed.getD i false) opsA.size).put o.dst (r i) := by
        have e1 : (fun j => (listed.setIfInBounds i true).getD j false) = fun j => if j = i then true else listed.getD j false := funext hset
        rw [e1, envF_set (L := fun i => listed.getD i false) hun opsA.size hlt (fun j h1 h2 hl t ht hj => by
          obtain ⟨oj, hoj, hdj⟩ := Option.bind_eq_some_iff.1 hj
          rcases hpair i j o oj hol hoj h1 with hb | ⟨h3, _, _⟩
          · have := Closed.bef (L := fun i => listed.getD i false) hcl j i oj hoj hl hb
            rw [hun] at this; cases this
          · have : o.dst = some t := by rw [hol] at ht; simpa using ht
            refine h3 t this ?_
            simp only [tnames, List.mem_append, hdj]
            exact .inl (.inl (by simp)))]
        rw [hol]
        rfl
      have hbefi : ∀ h, bef (masks opsA.toList) i h = true → listed.getD h false = true := by
        intro h hb
        obtain ⟨e, he, hbi, hje⟩ := bef_edge hol hb
        have hl := hpre e he hbi
        rcases hje with rfl | ⟨h2, h3⟩
        · exact hl
        · have hlt2 : e.on < opsA.toList.length := by simp; omega
          exact Closed.bef (L := fun i => listed.getD i false) hcl e.on h _ (List.getElem?_eq_getElem hlt2) hl h3
      unfold wpOpIn
      rw [ho]
      simp only
      by_cases hH : i ∈ H
      · -- a heavy one
        obtain ⟨p, hp⟩ := List.mem_iff_getElem?.1 hH
        have hpm : p = m := by
          have h1 : ¬ p < m := fun hx => by rw [(hmm p i hp).2 hx] at hun; cases hun
          rcases Nat.lt_trichotomy p m with h | h | h
          · exact absurd h h1
          · exact h
          · have hmlt : m < H.length := by have := (List.getElem?_eq_some_iff.1 hp).1; omega
            have hm' := List.getElem?_eq_getElem hmlt
            have hord := hHord m p H[m] i hm' hp h
            have hlt3 := hHlt m H[m] hm'
            rcases hpair H[m] i opsA.toList[H[m]] o (List.getElem?_eq_getElem hlt3) hol hord with hb | ⟨_, _, h3⟩
            · have := (hmm m H[m] hm').1 (hbefi _ hb)
              omega
            · exact absurd ⟨mem_of_getElem? hm', hH⟩ h3
        subst hpm
        have hmm' : ∀ q h, H[q]? = some h → ((listed.setIfInBounds i true).getD h false = true ↔ q < p + 1) := by
          intro q h hq
          rw [hset]
          by_cases e : h = i
          · subst e
            simp only [if_true, true_iff]
            rcases Nat.lt_trichotomy q p with g | g | g
            · omega
            · omega
            · have := hHord p q h h hp hq g; omega
          · rw [if_neg e, hmm q h hq]
            constructor
            · intro g; omega
            · intro g
              rcases Nat.lt_or_ge q p with g2 | g2
              · exact g2
              · obtain rfl : q = p := by omega
                rw [hp] at hq
                exact absurd (by simpa using hq.symm) e
        have hple : p + 1 ≤ H.length := (List.getElem?_eq_some_iff.1 hp).1
        rcases hd.heavy p i o hp hol with ⟨hw, hr⟩ | ⟨hw, hr, hS⟩
        · rw [haw] at hw
          rw [awantB_sound he' hw, if_pos rfl]
          refine aw1_sound hI' he' (aw1_congr hav hr) ro _ _ fun C2 c v s hE2 hI2 hv ⟨h1, h2⟩ => ?_
          subst h1; subst h2
          refine ih _ C2 _ (p + 1) (by simpa using hsz) hcl' hcnt' hple hmm' (hE.trans hE2) hI2 ?_
          rw [hnext]
          exact (he'.ext hE2).put hv o.dst
        · rw [haw] at hw
          rw [awantB_sound he' hw, if_neg (by simp)]
          refine ⟨fun _ _ => trivial, ih _ C' _ (p + 1) (by simpa using hsz) hcl' hcnt' hple hmm' hE (by rw [hS]; exact hI') ?_⟩
          rw [hnext, hr]
          exact he'.put (.tup [] [] rfl (fun i x c h => by simp at h)) o.dst
      · -- a light one
        have hmm' : ∀ q h, H[q]? = some h → ((listed.setIfInBounds i true).getD h false = true ↔ q < m) := by
          intro q h hq
          rw [hset, if_neg (fun e : h = i => hH (by rw [← e]; exact mem_of_getElem? hq))]
          exact hmm q h hq
        rcases hd.light i o hol hH with ⟨hw, hr⟩ | ⟨hw, hr⟩
        · rw [haw] at hw
          rw [awantB_sound he' hw, if_pos rfl]
          rcases hr with hr | hr
          · refine hr _ _ _ _ hav hI' he' ro _ _ fun C2 c hE2 hI2 hv => ?_
            refine ih _ C2 _ m (by simpa using hsz) hcl' hcnt' hmle hmm' (hE.trans hE2) hI2 ?_
            rw [hnext]
            exact (he'.ext hE2).put hv o.dst
          have hlev := hr m hmle (fun p h hp => ⟨fun hb => (hmm p h hp).1 (hbefi h hb), fun hb => by
            rcases Nat.lt_or_ge p m with g | g
            · have hl := (hmm p h hp).2 g
              have hlt3 := hHlt p h hp
              have := Closed.bef (L := fun i => listed.getD i false) hcl h i _ (List.getElem?_eq_getElem hlt3) hl hb
              rw [hun] at this; cases this
            · exact g⟩)
          refine aw1_sound hI' he' (aw1_congr hav hlev) ro _ _ fun C2 c v s hE2 hI2 hv ⟨h1, h2⟩ => ?_
          subst h1; subst h2
          refine ih _ C2 _ m (by simpa using hsz) hcl' hcnt' hmle hmm' (hE.trans hE2) hI2 ?_
          rw [hnext]
          exact (he'.ext hE2).put hv o.dst
        · rw [haw] at hw
          rw [awantB_sound he' hw, if_neg (by simp)]
          refine ⟨fun _ _ => trivial, ih _ C' _ m (by simpa using hsz) hcl' hcnt' hmle hmm' hE hI' ?_⟩
          rw [hnext, hr]
          exact he'.put (.tup [] [] rfl (fun i x c h => by simp at h)) o.dst
  have h0 : ∀ i, (Array.replicate opsA.size false).getD i false = false := by
    intro i
    simp only [Array.getD_eq_getD_getElem?, Array.getElem?_replicate]
    split <;> rfl
  have hdr : Ext C (C.at_ C.w.drew) := Ext.drew
  refine key opsA.size (Array.replicate opsA.size false) (C.at_ C.w.drew) a 0 (by simp) (fun i o _ hx => by simp only [h0] at hx; cases hx) ?_ (Nat.zero_le _) (fun p h _ => by rw [h0]; simp) hdr ?_ ?_
  · have := List.countP_le_length (p := fun i => !(Array.replicate opsA.size false).getD i false) (l := List.range opsA.size)
    simpa using this
  · rw [hd.s0]; exact hI.drew
  · have henv : ∀ k, envF opsA.toList r env (fun i => (Array.replicate opsA.size false).getD i false) k = env := by
      intro k
      induction k with
      | zero => rfl
      | succ k ih => simp only [envF, h0, Bool.false_eq_true, if_false]; simpa only [h0] using ih
    rw [henv]
    exact he.ext hdr
end Ab
namespace Ab
open Go Go.RowKit
variable [Mode]
variable {P : Program}

/-- the levels at which a light operation must be looked at besides its own -/
def levelsOk (ops : List Oper) (H : List Nat) (W : List (Nat × Nat)) : Bool :=
  let ms := masks ops
  (List.range ops.length).all fun i => H.contains i || (List.range (H.length + 1)).all fun m =>
    (m == H.countP (fun h => decide (h < i))) || W.contains (i, m) ||
      H.zipIdx.any fun (h, p) => (bef ms i h && !decide (p < m)) || (bef ms h i && !decide (m ≤ p))
/-- the rest of a region's operations: i the next one's number, rs what those before gave, es the temporaries ahead of each, ss the objects at each level -/
def adr (P : Program) (ops : List Oper) (H : List Nat) (W : List (Nat × Nat)) (K : Env → Heap → Prop) : List Oper → Nat → Env → Heap → List AV → List Env → List Heap → Prop
  | [], _, env, s, rs, es, ss => (∀ x ∈ W, match ops[x.1]?, rs[x.1]?, es[x.1]?, ss[x.2]? with
      | some o, some v, some e, some s => awantB ops e.t o.guard = some false ∨ awFix P o v s e s
      | _, _, _, _ => False) ∧ K env s
  | o :: rest, i, env, s, rs, es, ss =>
    match awantB ops env.t o.guard with
    | some true =>
      (∃ v, (isLit o && !H.contains i) = true ∧ Lit P o v env ∧ adr P ops H W K rest (i + 1) (env.put o.dst v) s (rs ++ [v]) (es ++ [env]) ss) ∨
      if isCall o then
        (if H.contains i then ∃ v s', awFix P o v s' env s ∧ adr P ops H W K rest (i + 1) (env.put o.dst v) s' (rs ++ [v]) (es ++ [env]) (ss ++ [s'])
         else ∃ v, awFix P o v s env s ∧ adr P ops H W K rest (i + 1) (env.put o.dst v) s (rs ++ [v]) (es ++ [env]) ss)
      else
        (match aop P env.t s o with
         | some (v, s') => if H.contains i then adr P ops H W K rest (i + 1) (env.put o.dst v) s' (rs ++ [v]) (es ++ [env]) (ss ++ [s'])
            else s' = s ∧ adr P ops H W K rest (i + 1) (env.put o.dst v) s (rs ++ [v]) (es ++ [env]) ss
         | none => False)
    | some false => if H.contains i then adr P ops H W K rest (i + 1) (env.put o.dst (.tup [])) s (rs ++ [.tup []]) (es ++ [env]) (ss ++ [s]) else adr P ops H W K rest (i + 1) (env.put o.dst (.tup [])) s (rs ++ [.tup []]) (es ++ [env]) ss
    | none => False
theorem awFix_of_aop {o : Oper} {v : AV} {s s' : Heap} {env : Env} (hc : isCall o = false) (h : aop P env.t s o = some (v, s')) : awFix P o v s' env s := by
  unfold awFix aw1
  split
  · rename_i f args ts hop
    unfold isCall at hc
    rw [hop] at hc
    cases hc
  · rw [h]; exact ⟨rfl, rfl⟩
def rOf (rs : List AV) : Nat → AV := fun i => rs.getD i .any
def sOf (ss : List Heap) : Nat → Heap := fun m => ss.getD m []
theorem envF_rs {ops : List Oper} {env : Env} {rs rs' : List AV} : ∀ k, k ≤ rs.length → envF ops (rOf (rs ++ rs')) env tr k = envF ops (rOf rs) env tr k := by
  intro k
  induction k with
  | zero => intro _; rfl
  | succ k ih =>
    intro h
    simp only [envF]
    rw [ih (by omega)]
    congr 1
    simp only [rOf, List.getD_eq_getElem?_getD]
    rw [List.getElem?_append_left (by omega)]
/-- what is known of the operations that were run -/
structure Done (P : Program) (ops : List Oper) (H : List Nat) (env0 : Env) (i : Nat) (rs : List AV) (es : List Env) (ss : List Heap) : Prop where
  rl : rs.length = i
  el : es.length = i
  sl : ss.length = H.countP (fun h => decide (h < i)) + 1
  env : ∀ j e, es[j]? = some e → e = envF ops (rOf rs) env0 tr j
  one : ∀ (j : Nat) (o : Oper), j < i → ops[j]? = some o →
    (awantB ops (envF ops (rOf rs) env0 tr j).t o.guard = some true ∧ ((H.contains j = false ∧ Lit P o (rOf rs j) (envF ops (rOf rs) env0 tr j)) ∨ awFix P o (rOf rs j) (sOf ss (H.countP (fun h => decide (h < j + 1)))) (envF ops (rOf rs) env0 tr j) (sOf ss (H.countP (fun h => decide (h < j)))))) ∨
    (awantB ops (envF ops (rOf rs) env0 tr j).t o.guard = some false ∧ rOf rs j = .tup [] ∧ sOf ss (H.countP (fun h => decide (h < j + 1))) = sOf ss (H.countP (fun h => decide (h < j))))
theorem countP_succ {H : List Nat} (hH : ∀ (p p' h h' : Nat), H[p]? = some h → H[p']? = some h' → p < p' → h < h') (i : Nat) : H.countP (fun h => decide (h < i + 1)) = H.countP (fun h => decide (h < i)) + if H.contains i then 1 else 0 := by
  induction H with
  | nil => simp
  | cons a H ih =>
    have ih' := ih fun p p' h h' h1 h2 h3 => hH (p + 1) (p' + 1) h h' (by simpa using h1) (by simpa using h2) (by omega)
    have hlt : ∀ b ∈ H, a < b := fun b hb => by
      obtain ⟨p, hp⟩ := List.mem_iff_getElem?.1 hb
      exact hH 0 (p + 1) a b rfl (by simpa using hp) (by omega)
    simp only [List.countP_cons, ih', List.contains_cons]
    by_cases e : i = a
    · subst e
      have : H.contains i = false := by
        rw [Bool.eq_false_iff]
        intro hx
        have := hlt i (by simpa using hx)
        omega
      simp only [beq_self_eq_true, Bool.true_or, if_true, this, Bool.false_eq_true, if_false]
      simp
    · have e' : (i == a) = false := by simpa using e
      rw [e', Bool.false_or]
      by_cases h1 : a < i
      · have a1 : decide (a < i) = true := by simpa using h1
        have a2 : decide (a < i + 1) = true := by simp; omega
        simp only [a1, a2, if_true]; omega
      · have a1 : decide (a < i) = false := by simpa using h1
        have a2 : decide (a < i + 1) = false := by simp; omega
        simp only [a1, a2, Bool.false_eq_true, if_false]; omega
theorem Done.step {ops : List Oper} {H : List Nat} {env0 : Env} {i : Nat} {rs : List AV} {es : List Env} {ss ss' : List Heap} {v : AV} {o : Oper} (hH : ∀ (p p' h h' : Nat), H[p]? = some h → H[p']? = some h' → p < p' → h < h')
    (hd : Done P ops H env0 i rs es ss) (ho : ops[i]? = some o) (hs : if H.contains i then ∃ s', ss' = ss ++ [s'] else ss' = ss)
    (h1 : (awantB ops (envF ops (rOf rs) env0 tr i).t o.guard = some true ∧ ((H.contains i = false ∧ Lit P o v (envF ops (rOf rs) env0 tr i)) ∨ awFix P o v (sOf ss' (H.countP (fun h => decide (h < i + 1)))) (envF ops (rOf rs) env0 tr i) (sOf ss' (H.countP (fun h => decide (h < i)))))) ∨
      (awantB ops (envF ops (rOf rs) env0 tr i).t o.guard = some false ∧ v = .tup [] ∧ sOf ss' (H.countP (fun h => decide (h < i + 1))) = sOf ss' (H.countP (fun h => decide (h < i))))) :
    Done P ops H env0 (i + 1) (rs ++ [v]) (es ++ [envF ops (rOf rs) env0 tr i]) ss' := by
  have hrl := hd.rl
  have hel := hd.el
  have hsl := hd.sl
  have hc := countP_succ hH i
  have sold : ∀ m, m < ss.length → sOf ss' m = sOf ss m := by
    intro m hm
    split at hs
    · obtain ⟨s', rfl⟩ := hs
      simp only [sOf, List.getD_eq_getElem?_getD]
      rw [List.getElem?_append_left hm]
    · rw [hs]
  refine ⟨by simp [hrl], by simp [hel], ?_, fun j e hj => ?_, fun j o' hj ho' => ?_⟩
  · rw [hc]
    split at hs
    · rename_i hcc
      obtain ⟨s', rfl⟩ := hs
      rw [if_pos hcc, List.length_append, hsl]; rfl
    · rename_i hcc
      rw [hs, hsl, if_neg hcc]
  · rcases Nat.lt_or_ge j i with h | h
    · rw [List.getElem?_append_left (by omega)] at hj
      rw [envF_rs j (by omega)]
      exact hd.env j e hj
    · have : j = i := by
        have := (List.getElem?_eq_some_iff.1 hj).1
        simp at this; omega
      subst this
      rw [List.getElem?_append_right (by omega), hel] at hj
      simp at hj
      rw [envF_rs j (by omega)]
      exact hj.symm
  · rw [envF_rs j (by omega)]
    rcases Nat.lt_or_ge j i with h | h
    · have hr : rOf (rs ++ [v]) j = rOf rs j := by
        simp only [rOf, List.getD_eq_getElem?_getD]
        rw [List.getElem?_append_left (by omega)]
      have hmono : ∀ a b : Nat, a ≤ b → H.countP (fun h => decide (h < a)) ≤ H.countP (fun h => decide (h < b)) := fun a b hab => List.countP_mono_left fun x _ hx => by simp at hx ⊢; omega
      have m1 := hmono (j + 1) i (by omega)
      have m2 := hmono j i (by omega)
      rw [hr, sold _ (by omega), sold _ (by omega)]
      exact hd.one j o' h ho'
    · have : j = i := by omega
      subst this
      rw [ho] at ho'
      obtain rfl : o = o' := by simpa using ho'
      have hr : rOf (rs ++ [v]) j = v := by
        simp only [rOf, List.getD_eq_getElem?_getD]
        rw [List.getElem?_append_right (by omega), hrl]
        simp
      rw [hr]
      exact h1
theorem Done.draws {ops : List Oper} {H : List Nat} {W : List (Nat × Nat)} {env0 : Env} {σ : Heap} {rs : List AV} {es : List Env} {ss : List Heap} (hok : drawOk ops H = true) (hlv : levelsOk ops H W = true) (hs0 : ss[0]? = some σ)
    (hd : Done P ops H env0 ops.length rs es ss) (hW : ∀ x ∈ W, match ops[x.1]?, rs[x.1]?, es[x.1]?, ss[x.2]? with
      | some o, some v, some e, some s => awantB ops e.t o.guard = some false ∨ awFix P o v s e s
      | _, _, _, _ => False) : Draws P ops H env0 σ (rOf rs) (sOf ss) := by
  obtain ⟨_, _, hHlt, hHord⟩ := drawOk_inv hok
  refine ⟨by simp [sOf, hs0], fun i o ho hi => ?_, fun p i o hp ho => ?_⟩
  · have hlt := (List.getElem?_eq_some_iff.1 ho).1
    have hcc : H.contains i = false := by simpa using hi
    have hc := countP_succ hHord i
    rw [hcc] at hc
    simp only [Bool.false_eq_true, if_false, Nat.add_zero] at hc
    rcases hd.one i o hlt ho with ⟨h1, h2⟩ | ⟨h1, h2, _⟩
    · rcases h2 with ⟨_, h2⟩ | h2
      · exact .inl ⟨h1, .inl h2⟩
      refine .inl ⟨h1, .inr fun m hm hall => ?_⟩
      rw [hc] at h2
      by_cases e : m = H.countP (fun h => decide (h < i))
      · subst e; exact h2
      · unfold levelsOk at hlv
        simp only [List.all_eq_true, List.mem_range, Bool.or_eq_true] at hlv
        rcases hlv i hlt with h | h
        · rw [hcc] at h; cases h
        · rcases h m (by omega) with (h | h) | h
          · simp at h; exact absurd h e
          · have := hW (i, m) (by simpa using h)
            simp only at this
            rw [ho] at this
            have hr := List.getElem?_eq_getElem (show i < rs.length by rw [hd.rl]; exact hlt)
            have he := List.getElem?_eq_getElem (show i < es.length by rw [hd.el]; exact hlt)
            have hsl := hd.sl
            have hcn : H.countP (fun h => decide (h < ops.length)) = H.length := by
              rw [List.countP_eq_length]
              intro a ha
              obtain ⟨q, hq⟩ := List.mem_iff_getElem?.1 ha
              simpa using hHlt q a hq
            have hs := List.getElem?_eq_getElem (show m < ss.length by omega)
            rw [hr, he, hs] at this
            simp only at this
            have e1 := hd.env i _ he
            rcases this with this | this
            · rw [e1, h1] at this; cases this
            · rw [e1] at this
              have e2 : rs[i]'(by rw [hd.rl]; exact hlt) = rOf rs i := by simp [rOf, hr]
              have e3 : ss[m]'(by omega) = sOf ss m := by simp [sOf, hs]
              rw [e2, e3] at this
              exact this
          · rw [List.any_eq_true] at h
            obtain ⟨⟨h', p⟩, hmem, hx⟩ := h
            have hp := List.mem_zipIdx_iff_getElem?.1 hmem
            simp only at hp hx
            have hpp : H[p]? = some h' := by simpa using hp
            obtain ⟨a1, a2⟩ := hall p h' hpp
            simp only [Bool.or_eq_true, Bool.and_eq_true, Bool.not_eq_true', decide_eq_false_iff_not] at hx
            rcases hx with ⟨b1, b2⟩ | ⟨b1, b2⟩
            · exact absurd (a1 b1) b2
            · exact absurd (a2 b1) b2
    · exact .inr ⟨h1, h2⟩
  · have hlt := (List.getElem?_eq_some_iff.1 ho).1
    have hcp : H.countP (fun h => decide (h < i)) = p := by
      have hpl := (List.getElem?_eq_some_iff.1 hp).1
      have e1 : (H.take p).countP (fun h => decide (h < i)) = p := by
        rw [List.countP_eq_length.2]
        · simp; omega
        · intro a ha
          obtain ⟨q, hq⟩ := List.mem_iff_getElem?.1 ha
          have hql := (List.getElem?_eq_some_iff.1 hq).1
          simp at hql
          rw [List.getElem?_take_of_lt (by omega)] at hq
          simpa using hHord q p a i hq hp (by omega)
      have e2 : (H.drop p).countP (fun h => decide (h < i)) = 0 := by
        rw [List.countP_eq_zero]
        intro a ha
        obtain ⟨q, hq⟩ := List.mem_iff_getElem?.1 ha
        rw [List.getElem?_drop] at hq
        rcases Nat.eq_zero_or_pos q with h0 | h0
        · subst h0; simp at hq; rw [hp] at hq; simp at hq; subst hq; simp
        · have := hHord p (p + q) i a hp hq (by omega)
          simp; omega
      rw [← List.take_append_drop p H, List.countP_append, e1, e2, Nat.add_zero]
    have hc := countP_succ hHord i
    have hci : H.contains i = true := by simpa using mem_of_getElem? hp
    rw [hci] at hc
    simp only [if_true] at hc
    rw [hcp] at hc
    rcases hd.one i o hlt ho with ⟨h1, h2⟩ | ⟨h1, h2, h3⟩
    · rcases h2 with ⟨h2, _⟩ | h2
      · rw [hci] at h2; cases h2
      rw [hc, hcp] at h2; exact .inl ⟨h1, h2⟩
    · rw [hc, hcp] at h3; exact .inr ⟨h1, h2, h3⟩
theorem adr_sound {ops : List Oper} {H : List Nat} {W : List (Nat × Nat)} {K : Env → Heap → Prop} {env0 : Env} {σ : Heap} (hok : drawOk ops H = true) (hlv : levelsOk ops H W = true) : ∀ (rest dn : List Oper) (i : Nat) (s : Heap) (rs : List AV) (es : List Env) (ss : List Heap), ops = dn ++ rest → dn.length = i →
    Done P ops H env0 i rs es ss → ss[0]? = some σ → sOf ss (H.countP (fun h => decide (h < i))) = s → adr P ops H W K rest i (envF ops (rOf rs) env0 tr i) s rs es ss →
    ∃ (r : Nat → AV) (S : Nat → Heap), Draws P ops H env0 σ r S ∧ K (envF ops r env0 tr ops.length) (S H.length) := by
  obtain ⟨_, _, hHlt, hHord⟩ := drawOk_inv hok
  intro rest
  induction rest with
  | nil =>
    intro dn i s rs es ss h1 h2 hd hs0 hs h
    simp at h1
    subst h1
    subst h2
    obtain ⟨hW, hK⟩ := h
    have hcn : H.countP (fun h => decide (h < ops.length)) = H.length := by
      rw [List.countP_eq_length]
      intro a ha
      obtain ⟨q, hq⟩ := List.mem_iff_getElem?.1 ha
      simpa using hHlt q a hq
    refine ⟨rOf rs, sOf ss, hd.draws hok hlv hs0 hW, ?_⟩
    rw [hcn] at hs
    rw [hs]
    exact hK
  | cons o rest ih =>
    intro dn i s rs es ss h1 h2 hd hs0 hs h
    have ho : ops[i]? = some o := by rw [h1, ← h2]; simp
    have hc := countP_succ hHord i
    have hrl := hd.rl
    have hsl := hd.sl
    have next : ∀ (v : AV) (ss' : List Heap) (s' : Heap), (if H.contains i then ss' = ss ++ [s'] else ss' = ss ∧ s' = s) →
        ((awantB ops (envF ops (rOf rs) env0 tr i).t o.guard = some true ∧ ((H.contains i = false ∧ Lit P o v (envF ops (rOf rs) env0 tr i)) ∨ awFix P o v s' (envF ops (rOf rs) env0 tr i) s)) ∨
          (awantB ops (envF ops (rOf rs) env0 tr i).t o.guard = some false ∧ v = .tup [] ∧ s' = s)) →
        adr P ops H W K rest (i + 1) ((envF ops (rOf rs) env0 tr i).put o.dst v) s' (rs ++ [v]) (es ++ [envF ops (rOf rs) env0 tr i]) ss' →
        ∃ (r : Nat → AV) (S : Nat → Heap), Draws P ops H env0 σ r S ∧ K (envF ops r env0 tr ops.length) (S H.length) := by
      intro v ss' s' hss hw hrest
      have hs1 : sOf ss' (H.countP (fun h => decide (h < i))) = s := by
        rw [← hs]
        split at hss
        · rw [hss]
          simp only [sOf, List.getD_eq_getElem?_getD]
          rw [List.getElem?_append_left (by omega)]
        · rw [hss.1]
      have hs2 : sOf ss' (H.countP (fun h => decide (h < i + 1))) = s' := by
        rw [hc]
        split at hss
        · rename_i hcc
          rw [hss, if_pos hcc]
          simp only [sOf, List.getD_eq_getElem?_getD]
          rw [List.getElem?_append_right (by omega), hsl]
          simp
        · rename_i hcc
          rw [if_neg hcc, Nat.add_zero, hss.1, hs, hss.2]
      have hd' := hd.step (v := v) (ss' := ss') hHord ho (by
        split
        · rename_i hcc; rw [if_pos hcc] at hss; exact ⟨s', hss⟩
        · rename_i hcc; rw [if_neg hcc] at hss; exact hss.1) (by rw [hs1, hs2]; exact hw)
      have henv : envF ops (rOf (rs ++ [v])) env0 tr (i + 1) = (envF ops (rOf rs) env0 tr i).put o.dst v := by
        simp only [envF, ho, tr, if_true]
        rw [envF_rs i (by omega), Option.bind_some]
        congr 1
        simp only [rOf, List.getD_eq_getElem?_getD]
        rw [List.getElem?_append_right (by omega), hrl]
        simp
      refine ih (dn ++ [o]) (i + 1) s' _ _ ss' (by simp [h1]) (by simp [h2]) hd' ?_ hs2 ?_
      · split at hss
        · rw [hss, List.getElem?_append_left (by omega)]; exact hs0
        · rw [hss.1]; exact hs0
      · rw [henv]; exact hrest
    unfold adr at h
    split at h
    · rename_i hw
      rcases h with ⟨v, hlit, hf, hr⟩ | h
      · have hcc : H.contains i = false := by
          rw [Bool.and_eq_true, Bool.not_eq_true'] at hlit
          exact hlit.2
        exact next v _ s (by rw [hcc]; exact ⟨rfl, rfl⟩) (.inl ⟨hw, .inl ⟨hcc, hf⟩⟩) hr
      split at h
      · split at h
        · rename_i hcc
          obtain ⟨v, s', hf, hr⟩ := h
          exact next v _ s' (by rw [if_pos hcc]) (.inl ⟨hw, .inr hf⟩) hr
        · rename_i hcc
          obtain ⟨v, hf, hr⟩ := h
          exact next v _ s (by rw [if_neg hcc]; exact ⟨rfl, rfl⟩) (.inl ⟨hw, .inr hf⟩) hr
      · rename_i hcall
        split at h
        · rename_i v s' hop
          have hf := awFix_of_aop (by simpa using hcall) hop
          split at h
          · rename_i hcc
            exact next v _ s' (by rw [if_pos hcc]) (.inl ⟨hw, .inr hf⟩) h
          · rename_i hcc
            obtain ⟨rfl, hr⟩ := h
            exact next v _ s' (by rw [if_neg hcc]; exact ⟨rfl, rfl⟩) (.inl ⟨hw, .inr hf⟩) hr
        · cases h
    · rename_i hw
      split at h
      · rename_i hcc
        exact next (.tup []) _ s (by rw [if_pos hcc]) (.inr ⟨hw, rfl, rfl⟩) h
      · rename_i hcc
        exact next (.tup []) _ s (by rw [if_neg hcc]; exact ⟨rfl, rfl⟩) (.inr ⟨hw, rfl, rfl⟩) h
    · cases h
/-- A REGION THAT DRAWS: H the operations that add or turn objects, W where the others must be looked at besides. -/
theorem ACode_draws {rd : Option Nat} {id : Nat} {opsA : Array Oper} {Q : Exit → Env → Heap → Prop} {env : Env} {σ : Heap} (H : List Nat) (W : List (Nat × Nat)) (hm : P.follows .mixedOrders = true) (hok : (drawOk opsA.toList H && levelsOk opsA.toList H W) = true)
    (h : adr P opsA.toList H W (Q .normal) opsA.toList 0 env σ [] [] [σ]) : ACode P rd (.region id opsA true) Q env σ := by
  rw [Bool.and_eq_true] at hok
  obtain ⟨r, S, hd, hK⟩ := adr_sound (P := P) (env0 := env) (σ := σ) hok.1 hok.2 opsA.toList [] 0 σ [] [] [σ] rfl rfl ⟨rfl, rfl, by simp, fun j e h => by simp at h, fun j o h => by omega⟩ rfl (by simp [sOf]) h
  exact ACode_draw hm H r S hok.1 hd (by simpa using hK)
end Ab
namespace Ab
open Go Go.RowKit
variable [Mode]
attribute [simp] abuiltin ofValue ofCell abin aint astr aun anilCheck QThen QBlock QFn ares aresL abd AV.cells AV.one AV.known
theorem enters_fn {P : Program} {f : FuncId} {fn : Func} (hf : P.funcs[f]? = some fn) (hn : (fn.name == "runtime.NumGoroutine") = false) (hb : fn.body.isNone = false) : Enters P f := by
  intro args w
  simp only [callFunc, Sem.run_bind, run_program, Result.andThen_ok, hf, hn, Bool.false_eq_true, if_false, hb, Sem.run_pure]
end Ab
