/-
  CALLS WHOSE OWN OBJECTS ARE FORGOTTEN, where old ones have turned; lent objects.
  OWN OBJECTS THAT ARE LENT FOR GOOD: at a call they are taken as what they hold, and never written again.
  echo.Distance: how far two texts are from each other.
  The book: small functions, and Check.
  A LOOP WHOSE ROUNDS FREEZE what lies.
-/
import Derived.Test.YtcoikmapjepdjaaGreatDoorC07
import Derived.Test.YtcoikmapjepdjaaGreatDoorC09
import Derived.Test.YtcoikmapjepdjaaGreatDoorC20
import Derived.Test.YtcoikmapjepdjaaGreatDoorC21
import Derived.Test.YtcoikmapjepdjaaGreatDoorC12
set_option linter.unusedSimpArgs false
set_option linter.unusedVariables false
set_option linter.unusedSectionVars false
namespace Oyez
variable {α : Type} [DecidableEq α]
/-- the longest list of common elements, behind one element: f is that of what is behind it -/
def lcsRow (a : α) (f : List α → Nat) : List α → Nat
  | [] => 0
  | b :: y => if a = b then max (max (f (b :: y)) (lcsRow a f y)) (f y + 1) else max (f (b :: y)) (lcsRow a f y)
/-- how many common elements two lists have at most, in their order -/
def lcs : List α → List α → Nat
  | [], _ => 0
  | a :: x, y => lcsRow a (lcs x) y
/-- so many elements are left out or put in between two lists -/
inductive Far : Nat → List α → List α → Prop
  | nil : Far 0 [] []
  | keep {n x y} (a : α) : Far n x y → Far n (a :: x) (a :: y)
  | del {n x y} (a : α) : Far n x y → Far (n + 1) (a :: x) y
  | ins {n x y} (b : α) : Far n x y → Far (n + 1) x (b :: y)
theorem Far.symm {n : Nat} {x y : List α} (h : Far n x y) : Far n y x := by
  induction h with
  | nil => exact .nil
  | keep a _ ih => exact .keep a ih
  | del a _ ih => exact .ins a ih
  | ins b _ ih => exact .del b ih
theorem Far.trans {n : Nat} {x y : List α} (h : Far n x y) : ∀ {m : Nat} {z : List α}, Far m y z → ∃ k, k ≤ n + m ∧ Far k x z := by
  induction h with
  | nil => exact fun h => ⟨_, by omega, h⟩
  | @keep n x y a h ih =>
    intro m z h'
    generalize hy : a :: y = y' at h'
    induction h' with
    | nil => cases hy
    | keep b h' _ => cases hy; obtain ⟨k, hk, hf⟩ := ih h'; exact ⟨k, hk, .keep _ hf⟩
    | del b h' _ => cases hy; obtain ⟨k, hk, hf⟩ := ih h'; exact ⟨k + 1, by omega, .del _ hf⟩
    | ins b h' ih' => obtain ⟨k, hk, hf⟩ := ih' hy; exact ⟨k + 1, by omega, .ins _ hf⟩
  | @del n x y a h ih =>
    intro m z h'
    obtain ⟨k, hk, hf⟩ := ih h'
    exact ⟨k + 1, by omega, .del _ hf⟩
  | @ins n x y b h ih =>
    intro m z h'
    generalize hy : b :: y = y' at h'
    induction h' with
    | nil => cases hy
    | keep c h' _ => cases hy; obtain ⟨k, hk, hf⟩ := ih h'; exact ⟨k + 1, by omega, .ins _ hf⟩
    | del c h' _ => cases hy; obtain ⟨k, hk, hf⟩ := ih h'; exact ⟨k, by omega, hf⟩
    | ins c h' ih' => obtain ⟨k, hk, hf⟩ := ih' hy; exact ⟨k + 1, by omega, .ins _ hf⟩
/-- how far two lists are from each other -/
def dist (x y : List α) : Nat := x.length + y.length - 2 * lcs x y
end Oyez
namespace Ab
open Go Go.RowKit
variable [Mode]
variable {P : Program}
theorem Inv.frzT {C₀ C : Ctx} {σ τ g : Heap} (hI₀ : Inv C₀ σ) (hE : Ext C₀ C) (hI : Inv C (τ ++ g)) (hlt : τ.length = σ.length)
    (hold : ∀ (r : Nat) (o : AObj), τ[r]? = some o → σ[r]? = some o ∨ ∃ cs, o = .cells cs ∧ ∀ y ∈ cs, Fz τ.length (τ ++ g) y y) : Inv (C.frz τ.length (τ ++ g)) τ := by
  have hlen := hI.len
  have hlen₀ := hI₀.len
  simp at hlen
  have hb : ∀ r b, (C.frz τ.length (τ ++ g)).blk[r]? = some b → C.blk[r]? = some b ∧ r < τ.length := by
    intro r b hr
    simp only [Ctx.frz] at hr
    rcases Nat.lt_or_ge r τ.length with h | h
    · rw [List.getElem?_take_of_lt h] at hr; exact ⟨hr, h⟩
    · rw [List.getElem?_eq_none (by simp; omega)] at hr; cases hr
  have up : ∀ (r : Nat) (o : AObj), r < τ.length → τ[r]? = some o → (τ ++ g)[r]? = some o := fun r o h1 h2 => by rw [List.getElem?_append_left h1]; exact h2
  refine ⟨by simp [Ctx.frz, hlen], hI.glob, hI.base, fun b hb => .inl (hI.basep b hb), fun b hb => ?_, fun r b o hr ho hl => ?_, fun r1 r2 b o1 o2 h1 h2 ho1 ho2 hl1 hl2 => ?_⟩
  · rcases hb with hb | ⟨r, o, _, h1, h2, h3⟩
    · exact hI.plt b hb
    · obtain ⟨_, c, hc, _⟩ := hI.live r b o h1 h2 h3
      exact (Array.getElem?_eq_some_iff.1 hc).1
  · obtain ⟨h1, h2⟩ := hb r b hr
    obtain ⟨hnp, c, hc, hR⟩ := hI.live r b o h1 (up r o h2 ho) hl
    refine ⟨?_, c, hc, ?_⟩
    · rintro (hp | ⟨r', o', g1, g2, g3, g4⟩)
      · exact hnp hp
      · have := hI.inj r r' b o o' h1 g2 (up r o h2 ho) g3 hl g4
        omega
    · rcases hold r o ho with ho | ⟨cs, rfl, hz⟩
      · have h0 : C₀.blk[r]? = some (C₀.blk[r]'(by omega)) := List.getElem?_eq_getElem (by omega)
        obtain ⟨_, c₀, _, hR₀⟩ := hI₀.live r _ o h0 ho hl
        exact hR₀.frz_old (by omega) hR
      · cases hR with
        | cells _ vs e lo hi q1 q2 q3 =>
          refine .cells cs vs e lo hi q1 q2 fun i x v hx hv => ?_
          exact (q3 i x v hx hv).frz hI (hz x (List.mem_of_getElem? hx))
  · obtain ⟨h1, h1'⟩ := hb r1 b h1
    obtain ⟨h2, h2'⟩ := hb r2 b h2
    exact hI.inj r1 r2 b o1 o2 h1 h2 (up _ _ h1' ho1) (up _ _ h2' ho2) hl1 hl2
/-- **A CALL WHOSE OWN OBJECTS ARE FORGOTTEN, an old one having turned.** -/
theorem ACalls.forgetT {f : FuncId} {args : List AV} {σ : Heap} {R : AV → Heap → Prop} (h : ACalls P f args σ fun v σ' => ∃ τ g v', σ' = τ ++ g ∧ τ.length = σ.length ∧
      (∀ (r : Nat) (o : AObj), τ[r]? = some o → σ[r]? = some o ∨ ∃ cs, o = .cells cs ∧ ∀ y ∈ cs, Fz τ.length (τ ++ g) y y) ∧ Fz τ.length σ' v v' ∧ R v' τ) : ACalls P f args σ R := by
  have ext : ∀ {C C' : Ctx} {τ g : Heap}, Inv C σ → Ext C C' → τ.length = σ.length → Ext C (C'.frz τ.length (τ ++ g)) := by
    intro C C' τ g hI hE hl
    obtain ⟨e, he⟩ := hE.blk
    have hl0 := hI.len
    exact ⟨hE.w0, ⟨[], by simp only [Ctx.frz]; rw [he, List.append_nil, hl, ← hl0, List.take_left]⟩, fun b hb => .inl (hE.pers b hb), hE.keep, hE.shape, hE.size, hE.drawn⟩
  rcases h with h | h
  · refine .inl ⟨h.1, fun C cargs hI hv => (h.2 C cargs hI hv).mono ?_⟩
    rintro e w' ⟨v, C', av, σ', rfl, rfl, hE, hI', hv', τ, g, v', rfl, hl, ho, hf, hR⟩
    exact ⟨v, C'.frz τ.length (τ ++ g), v', τ, rfl, rfl, ext hI hE hl, hI.frzT hE hI' hl ho, hv'.frz hI' hf, hR⟩
  · refine .inr fun C cargs hI hv => ?_
    obtain ⟨v, C', av, σ', hr, hE, hI', hv', τ, g, v', rfl, hl, ho, hf, hR⟩ := h C cargs hI hv
    exact ⟨v, C'.frz τ.length (τ ++ g), v', τ, hr, ext hI hE hl, hI.frzT hE hI' hl ho, hv'.frz hI' hf, hR⟩
/-- an empty slice is nil, or it is not -/
theorem ACalls.pl0 {f : FuncId} {k : Nat} {σ : Heap} {R : AV → Heap → Prop} (hen : Enters P f) (h1 : ACalls P f [.nils] σ R) (h2 : ACalls P f [.nn] σ R) : ACalls P f [.pl k []] σ R := by
  have ent : ∀ {a : AV}, ACalls P f [a] σ R → ∀ C : Ctx, Inv C σ → (∃ c, VR C a c) → AEnter P f [a] σ R := by
    intro a h C hI ⟨c, hc⟩
    rcases h with h | h
    · exact h
    · obtain ⟨v, C', av, σ', hr, _⟩ := h C [c] hI ⟨rfl, fun i x c' hx hc' => by
        match i, hx, hc' with
        | 0, hx, hc' => simp at hx hc'; subst hx; subst hc'; exact hc
        | i + 1, hx, _ => simp at hx⟩
      rw [hen] at hr
      cases hr
  refine .inl ⟨hen, fun C cargs hI hv => ?_⟩
  obtain ⟨x, r, rfl, hx, hr⟩ := hv.inv
  obtain rfl := hr.of_nil
  obtain ⟨A, cap, rfl, _, _⟩ := hx.pl_inv
  have hcap := hx.pl_cap
  have one : ∀ (a : AV) (c : Value), VR C a c → VRs C [a] [c] := fun a c h => ⟨rfl, fun i x c' hx hc' => by
    match i, hx, hc' with
    | 0, hx, hc' => simp at hx hc'; subst hx; subst hc'; exact h
    | i + 1, hx, _ => simp at hx⟩
  cases A with
  | none =>
    obtain rfl := hcap rfl
    exact (ent h1 C hI ⟨_, .nils⟩).2 C _ hI (one _ _ .nils)
  | some a => exact (ent h2 C hI ⟨_, .nn a cap⟩).2 C _ hI (one _ _ (.nn a cap))
end Ab
namespace Ab
open Go Go.RowKit
variable [Mode]
variable {P : Program}
/-- objects n and behind are dead -/
def cold (n : Nat) (σ : Heap) : Heap := σ.take n ++ List.replicate (σ.length - n) .dead
theorem cold_length {n : Nat} {σ : Heap} : (cold n σ).length = σ.length := by
  unfold cold; simp; omega
theorem cold_get {n r : Nat} {σ : Heap} (h : r < n) : (cold n σ)[r]? = σ[r]? := by
  unfold cold
  rcases Nat.lt_or_ge r σ.length with h1 | h1
  · rw [List.getElem?_append_left (by simp; omega), List.getElem?_take_of_lt h]
  · rw [List.getElem?_eq_none (by simp; omega), List.getElem?_eq_none h1]
theorem cold_live {n r : Nat} {σ : Heap} {o : AObj} (h : (cold n σ)[r]? = some o) (hl : o.live = true) : r < n ∧ σ[r]? = some o := by
  rcases Nat.lt_or_ge r n with h1 | h1
  · exact ⟨h1, by rw [← cold_get h1]; exact h⟩
  · exfalso
    have h2 := (List.getElem?_eq_some_iff.1 h).1
    rw [cold_length] at h2
    unfold cold at h
    rw [List.getElem?_append_right (by simp; omega), List.getElem?_replicate] at h
    split at h
    · cases h; cases hl
    · cases h
/-- the state with objects n and behind never written again, their numbers kept -/
def Ctx.ice (C : Ctx) (n : Nat) (σ : Heap) : Ctx :=
  { C with pers := fun b => C.pers b ∨ ∃ (r : Nat) (o : AObj), n ≤ r ∧ C.blk[r]? = some b ∧ σ[r]? = some o ∧ o.live = true }
theorem Ext.ice {C : Ctx} (n : Nat) (σ : Heap) : Ext C (C.ice n σ) := ⟨rfl, ⟨[], by simp [Ctx.ice]⟩, fun _ h => .inl h, fun _ _ => rfl, fun _ _ h => h, Nat.le_refl _, fun _ => Nat.le_refl _⟩
theorem Ext.frz_ice {C : Ctx} (n : Nat) (σ : Heap) : Ext (C.frz n σ) (C.ice n σ) :=
  ⟨rfl, ⟨C.blk.drop n, by simp [Ctx.ice, Ctx.frz]⟩, fun _ h => h, fun _ _ => rfl, fun _ _ h => h, Nat.le_refl _, fun _ => Nat.le_refl _⟩
theorem Inv.ice {C : Ctx} {σ : Heap} (hI : Inv C σ) (n : Nat) : Inv (C.ice n σ) (cold n σ) := by
  refine ⟨by rw [cold_length]; exact hI.len, hI.glob, hI.base, fun b hb => .inl (hI.basep b hb), fun b hb => ?_, fun r b o hr ho hl => ?_, fun r1 r2 b o1 o2 h1 h2 ho1 ho2 hl1 hl2 => ?_⟩
  · rcases hb with hb | ⟨r, o, _, h1, h2, h3⟩
    · exact hI.plt b hb
    · obtain ⟨_, c, hc, _⟩ := hI.live r b o h1 h2 h3
      exact (Array.getElem?_eq_some_iff.1 hc).1
  · obtain ⟨h1, h2⟩ := cold_live ho hl
    obtain ⟨hnp, c, hc, hR⟩ := hI.live r b o hr h2 hl
    refine ⟨?_, c, hc, hR.ext (Ext.ice n σ)⟩
    rintro (hp | ⟨r', o', g1, g2, g3, g4⟩)
    · exact hnp hp
    · have := hI.inj r r' b o o' hr g2 h2 g3 hl g4
      omega
  · exact hI.inj r1 r2 b o1 o2 h1 h2 (cold_live ho1 hl1).2 (cold_live ho2 hl2).2 hl1 hl2
/-- **A CALL WITH OBJECTS THAT WILL NOT BE WRITTEN AGAIN.** -/
theorem ACalls.freeze {f : FuncId} {args args' : List AV} {σ : Heap} {R : AV → Heap → Prop} (n : Nat) (h : ACalls P f args' (cold n σ) R) (hl : args'.length = args.length)
    (hz : ∀ (i : Nat) (x y : AV), args[i]? = some x → args'[i]? = some y → Fz n σ x y) : ACalls P f args σ R := by
  have lent : ∀ {C : Ctx} {cargs : List Value}, Inv C σ → VRs C args cargs → VRs (C.ice n σ) args' cargs := by
    intro C cargs hI hv
    refine ⟨hl ▸ hv.len, fun i y c hy hc => ?_⟩
    have hi := (List.getElem?_eq_some_iff.1 hy).1
    have hx : args[i]? = some (args[i]'(by omega)) := List.getElem?_eq_getElem (by omega)
    exact ((hv.at_ i _ c hx hc).frz hI (hz i _ y hx hy)).ext (Ext.frz_ice n σ)
  rcases h with h | h
  · refine .inl ⟨h.1, fun C cargs hI hv => (h.2 (C.ice n σ) cargs (hI.ice n) (lent hI hv)).mono ?_⟩
    rintro e w' ⟨v, C', av, s, rfl, rfl, hE, hI', hv', hR⟩
    exact ⟨v, C', av, s, rfl, rfl, (Ext.ice n σ).trans hE, hI', hv', hR⟩
  · refine .inr fun C cargs hI hv => ?_
    obtain ⟨v, C', av, s, hr, hE, hI', hv', hR⟩ := h (C.ice n σ) cargs (hI.ice n) (lent hI hv)
    exact ⟨v, C', av, s, hr, (Ext.ice n σ).trans hE, hI', hv', hR⟩
theorem Fz.tup2 {n : Nat} {σ : Heap} {a b a' b' : AV} (h1 : Fz n σ a a') (h2 : Fz n σ b b') : Fz n σ (.tup [a, b]) (.tup [a', b']) :=
  .tup _ _ rfl fun i x y hx hy => by
    match i with
    | 0 => simp at hx hy; subst hx; subst hy; exact h1
    | 1 => simp at hx hy; subst hx; subst hy; exact h2
    | i + 2 => simp at hx
theorem Acc.shift {σ s g : Heap} {k : Nat} {v : AV} {l : List AV} {o : Option Nat} (h : Acc (σ ++ s) g k v l o) : Acc σ (s ++ g) k v l (o.map (s.length + ·)) := ⟨h.len, by
  have := h.val
  cases o with
  | none => exact this
  | some j =>
    obtain ⟨h1, h2⟩ := this
    refine ⟨by rw [h1, List.length_append, Nat.add_assoc], ?_⟩
    show (s ++ g)[s.length + j]? = _
    rw [List.getElem?_append_right (by omega), show s.length + j - s.length = j by omega]
    exact h2⟩
end Ab
namespace Ab
open Go Go.RowKit Go.Proofs
/-- numbers, as a row that is never written again -/
def intsAV (l : List Int) : AV := .pl 1 (l.map fun x => .int .i64 x)
def rowsAV (l : List (List Int)) : AV := .pl 1 (l.map fun x => intsAV x)
/-- the first element for which it holds -/
def idxI {α : Type} (l : List α) (p : α → Bool) : Int := match l.findIdx? p with | some i => i | none => -1
theorem take_false {α : Type} {l : List α} {p : α → Bool} {i : Nat} (h : i < l.length) (hd : ∀ x ∈ l.take i, p x = false) (hx : p l[i] = false) : ∀ x ∈ l.take (i + 1), p x = false := by
  intro x hm
  rw [List.take_succ_eq_append_getElem h] at hm
  rcases List.mem_append.1 hm with hm | hm
  · exact hd x hm
  · rw [List.mem_singleton.1 hm]; exact hx
theorem idxI_at {α : Type} {l : List α} {p : α → Bool} {i : Nat} (h : i < l.length) (hd : ∀ x ∈ l.take i, p x = false) (hx : p l[i] = true) : idxI l p = i := by
  unfold idxI
  have : l.findIdx? p = some i := by
    rw [List.findIdx?_eq_some_iff_getElem]
    refine ⟨h, hx, fun j hj => ?_⟩
    have := hd l[j] (by rw [List.mem_iff_getElem]; exact ⟨j, by simp; omega, by simp⟩)
    simp [this]
  rw [this]
theorem idxI_none {α : Type} {l : List α} {p : α → Bool} (hd : ∀ x ∈ l, p x = false) : idxI l p = -1 := by
  unfold idxI
  have : l.findIdx? p = none := by rw [List.findIdx?_eq_none_iff]; exact hd
  rw [this]
theorem idxI_any {α : Type} (l : List α) (p : α → Bool) : decide (0 ≤ idxI l p) = l.any p := by
  unfold idxI
  rw [← List.findIdx?_isSome]
  cases l.findIdx? p <;> simp
theorem any_not {α : Type} (l : List α) (p : α → Bool) : (!(l.any fun x => !p x)) = l.all p := by
  rw [List.all_eq_not_any_not]
attribute [local irreducible] aws awp aw1 Og Om Oc Oa Ogd Ov Ot awd aw1d awh aw1h Ogh Ohd awl Ogl Ohl awv Ogv Ohv QThen QBlock QFn QFnM QRo QBe ACode AYield
theorem idxf_int (l : List (Int)) (p : Int → Bool) (h : FuncId) (fs cs : List AV) (hl : l.length ≤ 2 ^ 40) (σ : Heap) (hc : ∀ x ∈ l, ACalls Tryz.prog h (fs ++ [AV.int .i64 x] ++ cs) σ fun v s => v = .bool (p x) ∧ s = σ) :
    ACalls Tryz.prog 152 [.pl 1 (l.map fun x => AV.int .i64 x), .fn (.func h) fs cs] σ fun v s => v = .int .i64 (idxI l p) ∧ s = σ := by
  refine acalls_fn Tryz.func152 rfl (enters_fn Tryz.func152 (by decide) rfl) ?_
  simp [Tryz.ntmps152]
  refine ACode_loopT (fun env σ' => ∃ (u : List AV) (i : Nat), env = { t := u } ∧ u.length = 19 ∧ tg u 0 = .pl 1 (l.map fun x => AV.int .i64 x) ∧ tg u 1 = .fn (.func h) fs cs ∧ tg u 7 = .int .i64 l.length ∧ tg u 8 = .int .i64 i ∧ σ' = σ ∧ i ≤ l.length ∧ ∀ x ∈ l.take i, p x = false)
    (fun env _ => match tg env.t 8 with | .int _ i => l.length - i.toNat | _ => 0) ⟨_, 0, rfl, by simp, by simp, by simp, by simp, by simp, rfl, by omega, fun x hx => by simp at hx⟩ ?_
  rintro env σ' ⟨u, i, rfl, hl0, g0, g1, g7, g8, rfl, hi, hd⟩
  rcases Nat.lt_or_ge i l.length with hlt | hge
  · have hlt' : (i : Int) < (l.length : Int) := by omega
    simp [hl0, g0, g1, g7, g8, hlt', hlt]
    have hci := hc _ (List.getElem_mem hlt)
    simp only [List.append_assoc, List.cons_append, List.nil_append] at hci
    refine StA.of (hci.mono ?_)
    rintro v σ'' ⟨rfl, rfl⟩
    cases hx : p l[i] with
    | false =>
      have hw1 := w64 (n := (i : Int) + 1) (by omega) (by omega)
      simp [hl0, g0, g1, g7, g8, hw1]
      exact ⟨⟨i + 1, by simp, hlt, take_false hlt hd hx⟩, by omega⟩
    | true =>
      simp [hl0, g0, g1, g7, g8, idxI_at hlt hd hx]
  · have hge' : ¬ (i : Int) < (l.length : Int) := by omega
    rw [List.take_of_length_le hge] at hd
    simp [hl0, g0, g1, g7, g8, hge', idxI_none hd]
theorem contf_int (l : List (Int)) (p : Int → Bool) (h : FuncId) (fs cs : List AV) (hl : l.length ≤ 2 ^ 40) (σ : Heap) (hc : ∀ x ∈ l, ACalls Tryz.prog h (fs ++ [AV.int .i64 x] ++ cs) σ fun v s => v = .bool (p x) ∧ s = σ) :
    ACalls Tryz.prog 184 [.pl 1 (l.map fun x => AV.int .i64 x), .fn (.func h) fs cs] σ fun v s => v = .bool (l.any p) ∧ s = σ := by
  refine acalls_fn Tryz.func184 rfl (enters_fn Tryz.func184 (by decide) rfl) ?_
  simp [Tryz.ntmps184]
  refine StA.of ((idxf_int l p h fs cs hl σ hc).mono ?_)
  rintro v σ' ⟨rfl, rfl⟩
  simp [idxI_any]
/-- every word is right -/
def eword (w : Int) : Bool := decide (0 ≤ w) && decide (w ≤ 9)
/-- numbers, as they lie in rows -/
abbrev R1 (l : List Int) : AV := .pl 1 (l.map fun y => AV.int .i64 y)
/-! ### the common words -/
/-- a table of numbers -/
def grid (f : Nat → Nat → Int) : List AV := (List.range 49).map fun n => AV.int .i64 (f (n / 7) (n % 7))
/-- how many words two lists have in common behind so many -/
def comL (a b : List Int) (i k : Nat) : Int := Oyez.lcs (a.drop i) (b.drop k)
/-- the table when so much is told -/
def comG (a b : List Int) (i k : Int) : Nat → Nat → Int := fun i' k' => if i < i' ∨ ((i' : Int) = i ∧ k < k') then comL a b i' k' else 0
/-- the common words that are found, from a place in both on -/
def etr (a b : List Int) : Nat → Nat → Nat → List Int
  | 0, _, _ => []
  | n + 1, i, k => if h : i < a.length ∧ k < b.length then (if a[i] = b[k] then a[i] :: etr a b n (i + 1) (k + 1) else if comL a b i (k + 1) ≤ comL a b (i + 1) k then etr a b n (i + 1) k else etr a b n i (k + 1)) else []
theorem Acc.under {σ g : Heap} {X : AObj} {k : Nat} {v : AV} {l : List AV} {o : Option Nat} (h : Acc (σ ++ [X]) g k v l o) : Acc σ (X :: g) k v l (o.map (· + 1)) := ⟨h.len, by
  have hv := h.val
  cases o with
  | none => exact hv
  | some j =>
    simp only [Option.map_some, List.length_append, List.length_singleton, List.getElem?_cons_succ] at hv ⊢
    rw [hv.1, show σ.length + 1 + j = σ.length + (j + 1) from by omega]
    exact ⟨rfl, hv.2⟩⟩
end Ab
namespace Ab
open Go Go.RowKit Go.Proofs
/-- a cry -/
structure Cr where
  hour : Int
  stand : Int
  notice : Int
structure Bk where
  houses : Int
  notices : Int
  hears : List (List (List Int))
  reads : List Int
  cries : List Cr
/-- a book, as it lies -/
def bkAV (b : Bk) : AV := .agg [.int .i64 b.houses, .int .i64 b.notices, .pl 1 (b.hears.map fun x => AV.pl 1 (x.map fun z => AV.pl 1 (z.map fun y => AV.int .i64 y))), .pl 1 (b.reads.map fun x => AV.int .i64 x), .pl 3 (b.cries.map fun x => AV.agg [.int .i64 x.hour, .int .i64 x.stand, .int .i64 x.notice])]
def bk_inB (n lo hi : Int) : Bool := decide (lo ≤ n) && decide (n ≤ hi)
attribute [local irreducible] aws awp aw1 Og Om Oc Oa Ogd Ov Ot awd aw1d awh aw1h Ogh Ohd awl Ogl Ohl awv Ogv Ohv QThen QBlock QFn QFnM QRo QBe ACode AYield
theorem bin_calls (n lo hi : Int) : APure Tryz.prog 323 [.int .i64 n, .int .i64 lo, .int .i64 hi] (.bool (bk_inB n lo hi)) := by
  intro σ
  refine acalls_fn Tryz.func323 rfl (enters_fn Tryz.func323 (by decide) rfl) ?_
  simp [Tryz.ntmps323, bk_inB]
  by_cases h : lo ≤ n <;> by_cases h2 : n ≤ hi <;> simp [h, h2]
theorem bhouse_calls (b : Bk) (n : Int) (h : -9223372036854775808 ≤ b.houses - 1 ∧ b.houses - 1 ≤ 9223372036854775807) : APure Tryz.prog 328 [bkAV b, .int .i64 n] (.bool (bk_inB n 0 (b.houses - 1))) := by
  refine APure.of fun σ => ?_
  refine acalls_fn Tryz.func328 rfl (enters_fn Tryz.func328 (by decide) rfl) ?_
  have hw := w64 h.1 h.2
  simp [Tryz.ntmps328, bkAV, hw]
  refine (bin_calls _ _ _).use ?_
  simp
theorem bnotice_calls (b : Bk) (n : Int) (h : -9223372036854775808 ≤ b.notices - 1 ∧ b.notices - 1 ≤ 9223372036854775807) : APure Tryz.prog 324 [bkAV b, .int .i64 n] (.bool (bk_inB n 0 (b.notices - 1))) := by
  refine APure.of fun σ => ?_
  refine acalls_fn Tryz.func324 rfl (enters_fn Tryz.func324 (by decide) rfl) ?_
  have hw := w64 h.1 h.2
  simp [Tryz.ntmps324, bkAV, hw]
  refine (bin_calls _ _ _).use ?_
  simp
theorem bhour_calls (b : Bk) (n : Int) (h : b.reads.length ≤ 2 ^ 40) : APure Tryz.prog 322 [bkAV b, .int .i64 n] (.bool (bk_inB n 0 (b.reads.length - 1))) := by
  refine APure.of fun σ => ?_
  refine acalls_fn Tryz.func322 rfl (enters_fn Tryz.func322 (by decide) rfl) ?_
  have hw := w64 (n := (b.reads.length : Int) - 1) (by omega) (by omega)
  simp [Tryz.ntmps322, bkAV, hw]
  refine (bin_calls _ _ _).use ?_
  simp
theorem bk_index_calls (l : List Int) (n : Int) (hl : l.length ≤ 2 ^ 40) : APure Tryz.prog 129 [.pl 1 (l.map fun x => AV.int .i64 x), .int .i64 n] (.int .i64 (idxI l fun x => decide (n = x))) := by
  intro σ
  refine acalls_fn Tryz.func129 rfl (enters_fn Tryz.func129 (by decide) rfl) ?_
  simp [Tryz.ntmps129]
  refine ACode_loopT (fun env σ' => ∃ (u : List AV) (i : Nat), env = { t := u } ∧ u.length = 19 ∧ tg u 0 = .pl 1 (l.map fun x => AV.int .i64 x) ∧ tg u 1 = .int .i64 n ∧ tg u 7 = .int .i64 l.length ∧ tg u 8 = .int .i64 i ∧ σ' = σ ∧ i ≤ l.length ∧ ∀ x ∈ l.take i, (decide (n = x)) = false)
    (fun env _ => match tg env.t 8 with | .int _ i => l.length - i.toNat | _ => 0) ⟨_, 0, rfl, by simp, by simp, by simp, by simp, by simp, rfl, by omega, fun x hx => by simp at hx⟩ ?_
  rintro env σ' ⟨u, i, rfl, hl0, g0, g1, g7, g8, rfl, hi, hd⟩
  rcases Nat.lt_or_ge i l.length with hlt | hge
  · have hlt' : (i : Int) < (l.length : Int) := by omega
    have hw1 := w64 (n := (i : Int) + 1) (by omega) (by omega)
    by_cases hx : n = l[i]
    · have h2 := idxI_at (p := fun x => decide (n = x)) hlt hd (by simp [hx])
      simp [hl0, g0, g1, g7, g8, hlt', hlt, hx]
      rw [hx] at h2
      simpa using h2.symm
    · simp [hl0, g0, g1, g7, g8, hlt', hlt, hx, hw1]
      exact ⟨⟨i + 1, by simp, hlt, fun x hm => by simpa using take_false hlt hd (by simp [hx]) x hm⟩, by omega⟩
  · have hge' : ¬ (i : Int) < (l.length : Int) := by omega
    rw [List.take_of_length_le hge] at hd
    simp [hl0, g0, g1, g7, g8, hge']
    exact (idxI_none (p := fun x => decide (n = x)) hd).symm
theorem bk_contains_calls (l : List Int) (n : Int) (hl : l.length ≤ 2 ^ 40) : APure Tryz.prog 48 [.pl 1 (l.map fun x => AV.int .i64 x), .int .i64 n] (.bool (decide (n ∈ l))) := by
  intro σ
  refine acalls_fn Tryz.func48 rfl (enters_fn Tryz.func48 (by decide) rfl) ?_
  simp [Tryz.ntmps48]
  refine (bk_index_calls l n hl).use ?_
  have := idxI_any l fun x => decide (n = x)
  have h2 : (0 ≤ idxI l fun x => decide (n = x)) ↔ n ∈ l := by
    have h3 : (decide (0 ≤ idxI l fun x => decide (n = x)) = true) ↔ ((l.any fun x => decide (n = x)) = true) := by rw [this]
    simpa using h3
  simp [h2]
/-- a book's houses: each one once, and there -/
def listedB (b : Bk) (l : List Int) : Prop := l.Nodup ∧ ∀ x ∈ l, 0 ≤ x ∧ x ≤ b.houses - 1
theorem bk_listed_calls (b : Bk) (l : List Int) (h : -9223372036854775808 ≤ b.houses - 1 ∧ b.houses - 1 ≤ 9223372036854775807) (hl : l.length ≤ 2 ^ 40) (ho : listedB b l) : APure Tryz.prog 317 [bkAV b, .pl 1 (l.map fun x => AV.int .i64 x)] (.int .i64 0) := by
  refine APure.of fun σ => ?_
  refine acalls_fn Tryz.func317 rfl (enters_fn Tryz.func317 (by decide) rfl) ?_
  simp [Tryz.ntmps317, bkAV]
  refine ACode_loopT (fun env σ' => ∃ (u : List AV) (i : Nat), env = { t := u } ∧ u.length = 24 ∧ tg u 1 = .pl 1 (l.map fun x => AV.int .i64 x) ∧ tg u 2 = .ptr σ.length 0 ∧ tg u 7 = .pl 1 (l.map fun x => AV.int .i64 x) ∧ tg u 8 = .int .i64 l.length ∧ tg u 9 = .int .i64 i ∧ σ' = σ ++ [.cells (bkAV b).cells] ∧ i ≤ l.length)
    (fun env _ => match tg env.t 9 with | .int _ i => l.length - i.toNat | _ => 0) ⟨_, 0, rfl, by simp, by simp, by simp, by simp, by simp, by simp, by simp [bkAV], by omega⟩ ?_
  rintro env σ' ⟨u, i, rfl, hl0, g1, g2, g7, g8, g9, rfl, hi⟩
  rcases Nat.lt_or_ge i l.length with hlt | hge
  · have hlt' : (i : Int) < (l.length : Int) := by omega
    have hw1 := w64 (n := (i : Int) + 1) (by omega) (by omega)
    simp [hl0, g1, g2, g7, g8, g9, hlt', hlt, bkAV]
    refine (bhouse_calls b l[i] h).use ?_
    have hr := ho.2 _ (List.getElem_mem hlt)
    have hin : bk_inB l[i] 0 (b.houses - 1) = true := by simp [bk_inB, hr]
    simp [hl0, g1, g2, g7, g8, g9, hin]
    have hnc : ¬ l[i] ∈ l.take i := by
      intro hm
      obtain ⟨j, hj, he⟩ := List.mem_iff_getElem.1 hm
      simp at hj he
      have := (List.getElem_inj ho.1).1 he
      omega
    simp [hi, ← List.map_take]
    refine (bk_contains_calls (l.take i) l[i] (by simp; omega)).use ?_
    simp [hl0, g1, g2, g7, g8, g9, hnc, hw1]
    exact ⟨⟨i + 1, by simp, hlt⟩, by omega⟩
  · have hge' : ¬ (i : Int) < (l.length : Int) := by omega
    simp [hl0, g1, g2, g7, g8, g9, hge']
end Ab
namespace Ab
open Go Go.RowKit
variable [Mode]
variable {P : Program}
/-- A PIECE OF CODE ahead of which objects n and behind are never written again. -/
theorem ACode.frz {rd : Option Nat} {c : Code} {Q : Exit → Env → Heap → Prop} {u u' : List AV} {m : List Nat} {σ : Heap} (n : Nat) (h : ACode P rd c Q { t := u', m := m } (cold n σ)) (hl : u'.length = u.length)
    (hz : ∀ (i : Nat) (x y : AV), u[i]? = some x → u'[i]? = some y → Fz n σ x y) : ACode P rd c Q { t := u, m := m } σ := by
  intro C a ro hI he hr
  have he' : ER (C.ice n σ) { t := u', m := m } a := ⟨⟨hl ▸ he.t.len, fun i y c hy hc => by
    have hi : i < u'.length := (List.getElem?_eq_some_iff.1 hy).1
    have hx : u[i]? = some (u[i]'(by omega)) := List.getElem?_eq_getElem (by omega)
    exact ((he.t.at_ i _ c hx hc).frz hI (hz i _ y hx hy)).ext (Ext.frz_ice n σ)⟩, he.m, fun i r d h1 h2 => he.mark i r d h1 h2⟩
  exact wpIn_mono (h (C.ice n σ) a ro (hI.ice n) he' (hr.ext (Ext.ice n σ))) fun _ _ _ hp => hp.ext (Ext.ice n σ)
/-- these temporaries, and none else -/
def pickT (u : List AV) (l : List (Nat × AV)) : List AV := l.foldl (fun t p => ts t p.1 p.2) (List.replicate u.length .any)
theorem pickT_len (u : List AV) (l : List (Nat × AV)) : (pickT u l).length = u.length := by
  unfold pickT
  suffices h : ∀ (l : List (Nat × AV)) (t : List AV), (l.foldl (fun t p => ts t p.1 p.2) t).length = t.length by rw [h, List.length_replicate]
  intro l
  induction l with
  | nil => intro t; rfl
  | cons p l ih => intro t; rw [List.foldl_cons, ih]; simp [ts]
end Ab
