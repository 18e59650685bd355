/-
  CALLS WHOSE OWN OBJECTS ARE FORGOTTEN, where old ones have turned; lent objects.
  OWN OBJECTS THAT ARE LENT FOR GOOD: at a call they are taken as what they hold, and never written again.
  CLOSED RUNS over regions whose heavy operations may run in several orders: each outcome goes on by itself.
-/
import Derived.Test.YtcoikmapjepdjaaGreatDoorA07
import Derived.Test.YtcoikmapjepdjaaGreatDoorA09
import Derived.Test.YtcoikmapjepdjaaGreatDoorA10
import Derived.Test.YtcoikmapjepdjaaGreatDoorA12
set_option linter.unusedSimpArgs false
set_option linter.unusedVariables false
set_option linter.unusedSectionVars false
namespace Ab
open Go Go.RowKit
variable [Mode]
variable {P : Program}
theorem Inv.frzT {C₀ C : Ctx} {σ τ g : Heap} (hI₀ : Inv C₀ σ) (hE : Ext C₀ C) (hI : Inv C (τ ++ g)) (hlt : τ.length = σ.length)
    (hold : ∀ (r : Nat) (o : AObj), τ[r]? = some o → σ[r]? = some o ∨ ∃ cs, o = .cells cs ∧ ∀ y ∈ cs, Fz τ.length (τ ++ g) y y) : Inv (C.frz τ.length (τ ++ g)) τ := by
  have hlen := hI.len
  have hlen₀ := hI₀.len
  simp at hlen
  have hb : ∀ r b, (C.frz τ.length (τ ++ g)).blk[r]? = some b → C.blk[r]? = some b ∧ r < τ.length := by
    intro r b hr
    simp only [Ctx.frz] at hr
    rcases Nat.lt_or_ge r τ.length with h | h
    · rw [List.getElem?_take_of_lt h] at hr; exact ⟨hr, h⟩
    · rw [List.getElem?_eq_none (by simp; omega)] at hr; cases hr
  have up : ∀ (r : Nat) (o : AObj), r < τ.length → τ[r]? = some o → (τ ++ g)[r]? = some o := fun r o h1 h2 => by rw [List.getElem?_append_left h1]; exact h2
  refine ⟨by simp [Ctx.frz, hlen], hI.glob, hI.base, fun b hb => .inl (hI.basep b hb), fun b hb => ?_, fun r b o hr ho hl => ?_, fun r1 r2 b o1 o2 h1 h2 ho1 ho2 hl1 hl2 => ?_⟩
  · rcases hb with hb | ⟨r, o, _, h1, h2, h3⟩
    · exact hI.plt b hb
    · obtain ⟨_, c, hc, _⟩ := hI.live r b o h1 h2 h3
      exact (Array.getElem?_eq_some_iff.1 hc).1
  · obtain ⟨h1, h2⟩ := hb r b hr
    obtain ⟨hnp, c, hc, hR⟩ := hI.live r b o h1 (up r o h2 ho) hl
    refine ⟨?_, c, hc, ?_⟩
    · rintro (hp | ⟨r', o', g1, g2, g3, g4⟩)
      · exact hnp hp
      · have := hI.inj r r' b o o' h1 g2 (up r o h2 ho) g3 hl g4
        omega
    · rcases hold r o ho with ho | ⟨cs, rfl, hz⟩
      · have h0 : C₀.blk[r]? = some (C₀.blk[r]'(by omega)) := List.getElem?_eq_getElem (by omega)
        obtain ⟨_, c₀, _, hR₀⟩ := hI₀.live r _ o h0 ho hl
        exact hR₀.frz_old (by omega) hR
      · cases hR with
        | cells _ vs e lo hi q1 q2 q3 =>
          refine .cells cs vs e lo hi q1 q2 fun i x v hx hv => ?_
          exact (q3 i x v hx hv).frz hI (hz x (List.mem_of_getElem? hx))
  · obtain ⟨h1, h1'⟩ := hb r1 b h1
    obtain ⟨h2, h2'⟩ := hb r2 b h2
    exact hI.inj r1 r2 b o1 o2 h1 h2 (up _ _ h1' ho1) (up _ _ h2' ho2) hl1 hl2
/-- **A CALL WHOSE OWN OBJECTS ARE FORGOTTEN, an old one having turned.** -/
theorem ACalls.forgetT {f : FuncId} {args : List AV} {σ : Heap} {R : AV → Heap → Prop} (h : ACalls P f args σ fun v σ' => ∃ τ g v', σ' = τ ++ g ∧ τ.length = σ.length ∧
      (∀ (r : Nat) (o : AObj), τ[r]? = some o → σ[r]? = some o ∨ ∃ cs, o = .cells cs ∧ ∀ y ∈ cs, Fz τ.length (τ ++ g) y y) ∧ Fz τ.length σ' v v' ∧ R v' τ) : ACalls P f args σ R := by
  have ext : ∀ {C C' : Ctx} {τ g : Heap}, Inv C σ → Ext C C' → τ.length = σ.length → Ext C (C'.frz τ.length (τ ++ g)) := by
    intro C C' τ g hI hE hl
    obtain ⟨e, he⟩ := hE.blk
    have hl0 := hI.len
    exact ⟨hE.w0, ⟨[], by simp only [Ctx.frz]; rw [he, List.append_nil, hl, ← hl0, List.take_left]⟩, fun b hb => .inl (hE.pers b hb), hE.keep, hE.shape, hE.size, hE.drawn⟩
  rcases h with h | h
  · refine .inl ⟨h.1, fun C cargs hI hv => (h.2 C cargs hI hv).mono ?_⟩
    rintro e w' ⟨v, C', av, σ', rfl, rfl, hE, hI', hv', τ, g, v', rfl, hl, ho, hf, hR⟩
    exact ⟨v, C'.frz τ.length (τ ++ g), v', τ, rfl, rfl, ext hI hE hl, hI.frzT hE hI' hl ho, hv'.frz hI' hf, hR⟩
  · refine .inr fun C cargs hI hv => ?_
    obtain ⟨v, C', av, σ', hr, hE, hI', hv', τ, g, v', rfl, hl, ho, hf, hR⟩ := h C cargs hI hv
    exact ⟨v, C'.frz τ.length (τ ++ g), v', τ, hr, ext hI hE hl, hI.frzT hE hI' hl ho, hv'.frz hI' hf, hR⟩
/-- **A CALL THAT IS LENT OWN OBJECTS**: it reads them as what they hold, and changes nothing. -/
theorem APure.lend {f : FuncId} {args args' : List AV} {v : AV} (h : APure P f args v) {σ : Heap} (hl : args'.length = args.length)
    (hz : ∀ (i : Nat) (x y : AV), args'[i]? = some x → args[i]? = some y → Fz 0 σ x y) (hp : ∀ (C C' : Ctx) (c : Value), VR C v c → VR C' v c) : ACalls P f args' σ fun v' σ' => v' = v ∧ σ' = σ := by
  have lent : ∀ {C : Ctx} {cargs : List Value}, Inv C σ → VRs C args' cargs → VRs (C.frz 0 σ) args cargs := by
    intro C cargs hI hv
    refine ⟨hl ▸ hv.len, fun i y c hy hc => ?_⟩
    have hi := (List.getElem?_eq_some_iff.1 hy).1
    have hx : args'[i]? = some (args'[i]'(by omega)) := List.getElem?_eq_getElem (by omega)
    exact (hv.at_ i _ c hx hc).frz hI (hz i _ y hx hy)
  rcases h [] with h | h
  · refine .inl ⟨h.1, fun C cargs hI hv => (h.2 (C.frz 0 σ) cargs hI.base0 (lent hI hv)).mono ?_⟩
    rintro e w' ⟨c, C', av, s, rfl, rfl, hE, hI', hv', rfl, rfl⟩
    obtain ⟨h1, h2⟩ := hI.back0 hE hI'
    exact ⟨c, C.at_ C'.w, _, σ, rfl, rfl, h1, h2, hp _ _ _ hv', rfl, rfl⟩
  · refine .inr fun C cargs hI hv => ?_
    obtain ⟨c, C', av, s, hr, hE, hI', hv', rfl, rfl⟩ := h (C.frz 0 σ) cargs hI.base0 (lent hI hv)
    obtain ⟨h1, h2⟩ := hI.back0 hE hI'
    exact ⟨c, C.at_ C'.w, _, σ, hr, h1, h2, hp _ _ _ hv', rfl, rfl⟩
/-- an empty slice is nil, or it is not -/
theorem ACalls.pl0 {f : FuncId} {k : Nat} {σ : Heap} {R : AV → Heap → Prop} (hen : Enters P f) (h1 : ACalls P f [.nils] σ R) (h2 : ACalls P f [.nn] σ R) : ACalls P f [.pl k []] σ R := by
  have ent : ∀ {a : AV}, ACalls P f [a] σ R → ∀ C : Ctx, Inv C σ → (∃ c, VR C a c) → AEnter P f [a] σ R := by
    intro a h C hI ⟨c, hc⟩
    rcases h with h | h
    · exact h
    · obtain ⟨v, C', av, σ', hr, _⟩ := h C [c] hI ⟨rfl, fun i x c' hx hc' => by
        match i, hx, hc' with
        | 0, hx, hc' => simp at hx hc'; subst hx; subst hc'; exact hc
        | i + 1, hx, _ => simp at hx⟩
      rw [hen] at hr
      cases hr
  refine .inl ⟨hen, fun C cargs hI hv => ?_⟩
  obtain ⟨x, r, rfl, hx, hr⟩ := hv.inv
  obtain rfl := hr.of_nil
  obtain ⟨A, cap, rfl, _, _⟩ := hx.pl_inv
  have hcap := hx.pl_cap
  have one : ∀ (a : AV) (c : Value), VR C a c → VRs C [a] [c] := fun a c h => ⟨rfl, fun i x c' hx hc' => by
    match i, hx, hc' with
    | 0, hx, hc' => simp at hx hc'; subst hx; subst hc'; exact h
    | i + 1, hx, _ => simp at hx⟩
  cases A with
  | none =>
    obtain rfl := hcap rfl
    exact (ent h1 C hI ⟨_, .nils⟩).2 C _ hI (one _ _ .nils)
  | some a => exact (ent h2 C hI ⟨_, .nn a cap⟩).2 C _ hI (one _ _ (.nn a cap))
end Ab
namespace Ab
open Go Go.RowKit
variable [Mode]
variable {P : Program}
/-- objects n and behind are dead -/
def cold (n : Nat) (σ : Heap) : Heap := σ.take n ++ List.replicate (σ.length - n) .dead
theorem cold_length {n : Nat} {σ : Heap} : (cold n σ).length = σ.length := by
  unfold cold; simp; omega
theorem cold_get {n r : Nat} {σ : Heap} (h : r < n) : (cold n σ)[r]? = σ[r]? := by
  unfold cold
  rcases Nat.lt_or_ge r σ.length with h1 | h1
  · rw [List.getElem?_append_left (by simp; omega), List.getElem?_take_of_lt h]
  · rw [List.getElem?_eq_none (by simp; omega), List.getElem?_eq_none h1]
theorem cold_live {n r : Nat} {σ : Heap} {o : AObj} (h : (cold n σ)[r]? = some o) (hl : o.live = true) : r < n ∧ σ[r]? = some o := by
  rcases Nat.lt_or_ge r n with h1 | h1
  · exact ⟨h1, by rw [← cold_get h1]; exact h⟩
  · exfalso
    have h2 := (List.getElem?_eq_some_iff.1 h).1
    rw [cold_length] at h2
    unfold cold at h
    rw [List.getElem?_append_right (by simp; omega), List.getElem?_replicate] at h
    split at h
    · cases h; cases hl
    · cases h
/-- the state with objects n and behind never written again, their numbers kept -/
def Ctx.ice (C : Ctx) (n : Nat) (σ : Heap) : Ctx :=
  { C with pers := fun b => C.pers b ∨ ∃ (r : Nat) (o : AObj), n ≤ r ∧ C.blk[r]? = some b ∧ σ[r]? = some o ∧ o.live = true }
theorem Ext.ice {C : Ctx} (n : Nat) (σ : Heap) : Ext C (C.ice n σ) := ⟨rfl, ⟨[], by simp [Ctx.ice]⟩, fun _ h => .inl h, fun _ _ => rfl, fun _ _ h => h, Nat.le_refl _, fun _ => Nat.le_refl _⟩
theorem Ext.frz_ice {C : Ctx} (n : Nat) (σ : Heap) : Ext (C.frz n σ) (C.ice n σ) :=
  ⟨rfl, ⟨C.blk.drop n, by simp [Ctx.ice, Ctx.frz]⟩, fun _ h => h, fun _ _ => rfl, fun _ _ h => h, Nat.le_refl _, fun _ => Nat.le_refl _⟩
theorem Inv.ice {C : Ctx} {σ : Heap} (hI : Inv C σ) (n : Nat) : Inv (C.ice n σ) (cold n σ) := by
  refine ⟨by rw [cold_length]; exact hI.len, hI.glob, hI.base, fun b hb => .inl (hI.basep b hb), fun b hb => ?_, fun r b o hr ho hl => ?_, fun r1 r2 b o1 o2 h1 h2 ho1 ho2 hl1 hl2 => ?_⟩
  · rcases hb with hb | ⟨r, o, _, h1, h2, h3⟩
    · exact hI.plt b hb
    · obtain ⟨_, c, hc, _⟩ := hI.live r b o h1 h2 h3
      exact (Array.getElem?_eq_some_iff.1 hc).1
  · obtain ⟨h1, h2⟩ := cold_live ho hl
    obtain ⟨hnp, c, hc, hR⟩ := hI.live r b o hr h2 hl
    refine ⟨?_, c, hc, hR.ext (Ext.ice n σ)⟩
    rintro (hp | ⟨r', o', g1, g2, g3, g4⟩)
    · exact hnp hp
    · have := hI.inj r r' b o o' hr g2 h2 g3 hl g4
      omega
  · exact hI.inj r1 r2 b o1 o2 h1 h2 (cold_live ho1 hl1).2 (cold_live ho2 hl2).2 hl1 hl2
/-- **A CALL WITH OBJECTS THAT WILL NOT BE WRITTEN AGAIN.** -/
theorem ACalls.freeze {f : FuncId} {args args' : List AV} {σ : Heap} {R : AV → Heap → Prop} (n : Nat) (h : ACalls P f args' (cold n σ) R) (hl : args'.length = args.length)
    (hz : ∀ (i : Nat) (x y : AV), args[i]? = some x → args'[i]? = some y → Fz n σ x y) : ACalls P f args σ R := by
  have lent : ∀ {C : Ctx} {cargs : List Value}, Inv C σ → VRs C args cargs → VRs (C.ice n σ) args' cargs := by
    intro C cargs hI hv
    refine ⟨hl ▸ hv.len, fun i y c hy hc => ?_⟩
    have hi := (List.getElem?_eq_some_iff.1 hy).1
    have hx : args[i]? = some (args[i]'(by omega)) := List.getElem?_eq_getElem (by omega)
    exact ((hv.at_ i _ c hx hc).frz hI (hz i _ y hx hy)).ext (Ext.frz_ice n σ)
  rcases h with h | h
  · refine .inl ⟨h.1, fun C cargs hI hv => (h.2 (C.ice n σ) cargs (hI.ice n) (lent hI hv)).mono ?_⟩
    rintro e w' ⟨v, C', av, s, rfl, rfl, hE, hI', hv', hR⟩
    exact ⟨v, C', av, s, rfl, rfl, (Ext.ice n σ).trans hE, hI', hv', hR⟩
  · refine .inr fun C cargs hI hv => ?_
    obtain ⟨v, C', av, s, hr, hE, hI', hv', hR⟩ := h (C.ice n σ) cargs (hI.ice n) (lent hI hv)
    exact ⟨v, C', av, s, hr, (Ext.ice n σ).trans hE, hI', hv', hR⟩
theorem Fz.tup2 {n : Nat} {σ : Heap} {a b a' b' : AV} (h1 : Fz n σ a a') (h2 : Fz n σ b b') : Fz n σ (.tup [a, b]) (.tup [a', b']) :=
  .tup _ _ rfl fun i x y hx hy => by
    match i with
    | 0 => simp at hx hy; subst hx; subst hy; exact h1
    | 1 => simp at hx hy; subst hx; subst hy; exact h2
    | i + 2 => simp at hx
theorem Fz.agg2 {n : Nat} {σ : Heap} {a b a' b' : AV} (h1 : Fz n σ a a') (h2 : Fz n σ b b') : Fz n σ (.agg [a, b]) (.agg [a', b']) :=
  .agg _ _ rfl fun i x y hx hy => by
    match i with
    | 0 => simp at hx hy; subst hx; subst hy; exact h1
    | 1 => simp at hx hy; subst hx; subst hy; exact h2
    | i + 2 => simp at hx
theorem Acc.shift {σ s g : Heap} {k : Nat} {v : AV} {l : List AV} {o : Option Nat} (h : Acc (σ ++ s) g k v l o) : Acc σ (s ++ g) k v l (o.map (s.length + ·)) := ⟨h.len, by
  have := h.val
  cases o with
  | none => exact this
  | some j =>
    obtain ⟨h1, h2⟩ := this
    refine ⟨by rw [h1, List.length_append, Nat.add_assoc], ?_⟩
    show (s ++ g)[s.length + j]? = _
    rw [List.getElem?_append_right (by omega), show s.length + j - s.length = j by omega]
    exact h2⟩
end Ab
namespace Ab
open Go Go.RowKit
variable [Mode]
variable {P : Program}
/-- equal values; nothing is known of both -/
def eqA (a b : AV) : Bool := match a, b with
  | .any, .any => true
  | _, _ => AV.eqb 20 a b
theorem eqA_eq {a b : AV} (h : eqA a b = true) : a = b := by
  unfold eqA at h
  split at h
  · rfl
  · exact AV.eqb_eq _ _ _ h
/-- what a light operation gives; calls as F answers them -/
def evf2 (P : Program) (F : FOrc) (o : Oper) (t : List AV) (σ : Heap) : Option AV :=
  if isCall o then evf P F o t σ else if lightOp P o then (aop P t σ o).map (·.1) else none
theorem evf2_sound {F : FOrc} (hF : F.Good P) {o : Oper} {env : Env} {σ : Heap} {v : AV} (h : evf2 P F o env.t σ = some v) : aw1 P o (fun v1 s1 => v1 = v ∧ s1 = σ) env σ := by
  unfold evf2 at h
  split at h
  · have := evf_sound hF h []
    simpa using this
  · rename_i hc
    split at h
    case isFalse => cases h
    rename_i hl
    rw [Option.map_eq_some_iff] at h
    obtain ⟨⟨v', s⟩, h1, rfl⟩ := h
    obtain rfl := light_same hl h1
    exact awFix_of_aop (by simpa using hc) h1
section
variable (P : Program) (F : FOrc) (ops : List Oper) (H : List Nat) (env : Env) (σ : Heap)
/-- h may run behind the heavy operations of s -/
def readyT (s : List Nat) (h : Nat) : Bool := !s.contains h && H.all fun h' => !bef (masks ops) h h' || s.contains h'
/-- what the light operations give behind s, in the order of the text; the heavy ones gave hv -/
def lightT (s : List Nat) (hv : Nat → AV) (heap : Heap) : List Oper → Nat → Env → List AV → List AV
  | [], _, _, rs => rs
  | o :: rest, i, env, rs =>
    let v := if H.contains i then hv i else if H.all (fun h => !bef (masks ops) i h || s.contains h) then (match awantB ops env.t o.guard with
      | some true => (evf2 P F o env.t heap).getD .any
      | some false => .tup []
      | none => .any) else .any
    lightT s hv heap rest (i + 1) (env.put o.dst v) (rs ++ [v])
/-- what all operations gave, and the objects, behind heavy operations (the last one first) -/
def ndT : List Nat → Option (List AV × Heap)
  | [] => some (lightT P F ops H [] (fun _ => .any) σ ops 0 env [], σ)
  | h :: q => match ndT q, ops[h]? with
    | some (vs, heap), some o => (aop P (envF ops (fun i => vs.getD i .any) env tr h).t heap o).map fun x => (lightT P F ops H (h :: q) (fun i => if i = h then x.1 else vs.getD i .any) x.2 ops 0 env [], x.2)
    | _, _ => none
def rT (s : List Nat) : Nat → AV := fun i => ((ndT P F ops H env σ s.reverse).getD ([], [])).1.getD i .any
def sT (s : List Nat) : Heap := ((ndT P F ops H env σ s.reverse).getD ([], [])).2
def moreT (L : List (List Nat)) : List (List Nat) := L.flatMap fun s => (H.filter (readyT ops H s)).map fun h => s ++ [h]
def levT : Nat → List (List Nat)
  | 0 => [[]]
  | n + 1 => moreT ops H (levT n)
def allT : List (List Nat) := (List.range (H.length + 1)).flatMap fun n => levT ops H n
def okLight (s : List Nat) (i : Nat) : Bool := match ops[i]? with
  | some o => H.contains i || !(H.all fun h => !bef (masks ops) i h || s.contains h) || !(H.all fun h => !bef (masks ops) h i || !s.contains h) || (match awantB ops (envF ops (rT P F ops H env σ s) env tr i).t o.guard with
    | some true => (match evf2 P F o (envF ops (rT P F ops H env σ s) env tr i).t (sT P F ops H env σ s) with
      | some v => eqA v (rT P F ops H env σ s i)
      | none => false)
    | some false => eqA (rT P F ops H env σ s i) (.tup [])
    | none => false)
  | none => true
def okHeavy (s : List Nat) (h : Nat) : Bool := !readyT ops H s h || ((allT ops H).contains (s ++ [h]) && (match ops[h]? with
  | some o => o.guard.isNone && !isCall o && (ndT P F ops H env σ s.reverse).isSome && (ndT P F ops H env σ (h :: s.reverse)).isSome && (match aop P (envF ops (rT P F ops H env σ s) env tr h).t (sT P F ops H env σ s) o with
    | some (v, _) => eqA v (rT P F ops H env σ (s ++ [h]) h)
    | none => false) && ((List.range ops.length).all fun j => j == h || !(H.all fun h' => !bef (masks ops) j h' || s.contains h') || (H.contains j && !s.contains j) || eqA (rT P F ops H env σ (s ++ [h]) j) (rT P F ops H env σ s j))
  | none => false))
/-- a region's outcomes -/
def evT : Option (List (Env × Heap)) :=
  if drawOk ops [] && (H.all fun h => decide (h < ops.length)) && ((allT ops H).all fun s => decide ((((ndT P F ops H env σ s.reverse).getD ([], [])).1).length ≤ ops.length) && ((List.range ops.length).all (okLight P F ops H env σ s)) && H.all (okHeavy P F ops H env σ s)) then
    some (((allT ops H).filter fun s => H.all s.contains).map fun s => (envF ops (rT P F ops H env σ s) env tr ops.length, sT P F ops H env σ s))
  else none
end
theorem evT_sound {F : FOrc} (hF : F.Good P) (hm : P.follows .mixedOrders = true) {rd : Option Nat} {id : Nat} {opsA : Array Oper} {H : List Nat} {Q : Exit → Env → Heap → Prop} {env : Env} {σ : Heap} {outs : List (Env × Heap)}
    (h : evT P F opsA.toList H env σ = some outs) (hQ : ∀ o ∈ outs, Q .normal o.1 o.2) : ACode P rd (.region id opsA true) Q env σ := by
  unfold evT at h
  split at h
  case isFalse => cases h
  rename_i hc
  simp only [Bool.and_eq_true, List.all_eq_true, decide_eq_true_eq] at hc
  obtain ⟨⟨hd, hlt⟩, hall⟩ := hc
  simp only [Option.some.injEq] at h
  subst h
  have hrev : ∀ (s : List Nat) (i : Nat), (s ++ [i]).reverse = i :: s.reverse := fun s i => by simp
  refine ACode_drawT hm H (fun s => s ∈ allT opsA.toList H) (rT P F opsA.toList H env σ) (sT P F opsA.toList H env σ) hd (fun h hh => by simpa using hlt h hh) ⟨?_, ?_, ?_, ?_, ?_⟩ ?_
  · unfold allT
    rw [List.mem_flatMap]
    exact ⟨0, by simp, by simp [levT]⟩
  · simp [sT, ndT]
  · intro i o s ho hi hs hb ha
    have hk := ((hall s hs).1.2) i (by have := (List.getElem?_eq_some_iff.1 ho).1; simpa using this)
    unfold okLight at hk
    rw [ho] at hk
    have c1 : H.contains i = false := by simpa using hi
    have c2 : (H.all fun h => !bef (masks opsA.toList) i h || s.contains h) = true := by
      rw [List.all_eq_true]; intro h hh
      cases hbf : bef (masks opsA.toList) i h
      · rfl
      · simpa using hb h hh hbf
    have c3 : (H.all fun h => !bef (masks opsA.toList) h i || !s.contains h) = true := by
      rw [List.all_eq_true]; intro h hh
      cases hbf : bef (masks opsA.toList) h i
      · rfl
      · simpa using ha h hh hbf
    simp only [c1, c2, c3, Bool.not_true, Bool.or_self, Bool.false_or] at hk
    split at hk
    · rename_i hw
      split at hk
      · rename_i v hv
        have hve := eqA_eq hk
        refine .inl ⟨hw, .inr ?_⟩
        have := evf2_sound hF hv
        rw [hve] at this
        exact this
      · cases hk
    · rename_i hw
      exact .inr ⟨hw, eqA_eq hk⟩
    · cases hk
  · intro i o s ho hi hs his hb
    have hk := ((hall s hs).2) i hi
    have c0 : readyT opsA.toList H s i = true := by
      unfold readyT
      rw [Bool.and_eq_true, List.all_eq_true]
      refine ⟨by simpa using his, fun h hh => ?_⟩
      cases hbf : bef (masks opsA.toList) i h
      · rfl
      · simpa using hb h hh hbf
    unfold okHeavy at hk
    rw [c0, ho] at hk
    simp only [Bool.not_true, Bool.false_or, Bool.and_eq_true, Bool.not_eq_true'] at hk
    obtain ⟨hmem, ⟨⟨⟨⟨hg, hcall⟩, hn1⟩, hn2⟩, hop⟩, _⟩ := hk
    refine ⟨by simpa using hmem, .inl ⟨?_, ?_⟩⟩
    · have : o.guard = none := by simpa using hg
      rw [this]; rfl
    · split at hop
      · rename_i v heap' hv
        have hve := eqA_eq hop
        have hheap : sT P F opsA.toList H env σ (s ++ [i]) = heap' := by
          unfold sT at hv ⊢
          unfold rT at hv
          rw [hrev]
          obtain ⟨x, hx⟩ := Option.isSome_iff_exists.1 hn1
          rw [hx, Option.getD_some] at hv
          obtain ⟨vs, hp⟩ := x
          simp only [ndT, hx, ho, hv, Option.map_some, Option.getD_some]
        rw [hheap, ← hve]
        exact awFix_of_aop hcall hv
      · cases hop
  · intro s i j hs hs' hiH his hbi hji hb hj
    rcases Nat.lt_or_ge j opsA.toList.length with hjl | hjl
    · have c0 : readyT opsA.toList H s i = true := by
        unfold readyT
        rw [Bool.and_eq_true, List.all_eq_true]
        refine ⟨by simpa using his, fun h hh => ?_⟩
        cases hbf : bef (masks opsA.toList) i h
        · rfl
        · simpa using hbi h hh hbf
      · have hk := ((hall s hs).2) i hiH
        have hil : i < opsA.toList.length := hlt i hiH
        unfold okHeavy at hk
        rw [c0, List.getElem?_eq_getElem hil] at hk
        simp only [Bool.not_true, Bool.false_or, Bool.and_eq_true, List.all_eq_true] at hk
        have := hk.2.2 j (by simpa using hjl)
        have c2 : (H.all fun h => !bef (masks opsA.toList) j h || s.contains h) = true := by
          rw [List.all_eq_true]; intro h hh
          cases hbf : bef (masks opsA.toList) j h
          · rfl
          · simpa using hb h hh hbf
        rw [c2] at this
        have c4 : (H.contains j && !s.contains j) = false := by
          by_cases hjH : j ∈ H
          · have := hj hjH; simp [hjH, this]
          · simp [hjH]
        rw [c4] at this
        simp only [Bool.not_true, Bool.or_false, Bool.or_eq_true, beq_iff_eq] at this
        rcases this with h1 | h1
        · exact absurd h1 hji
        · exact eqA_eq h1
    · have k1 := (hall _ hs').1.1
      have k2 := (hall _ hs).1.1
      unfold rT
      rw [List.getD_eq_getElem?_getD, List.getD_eq_getElem?_getD, List.getElem?_eq_none (by omega), List.getElem?_eq_none (by omega)]
  · intro s hs hh
    have := hQ _ (List.mem_map.2 ⟨s, List.mem_filter.2 ⟨hs, by rw [List.all_eq_true]; intro h hm'; simpa using hh h hm'⟩, rfl⟩)
    simpa using this
end Ab
