/-
  COPIES JOINED, SETTLED: the program's functions, exactly.
  COPIES JOINED, SETTLED: the walks of both.
  COPIES SETTLED: the walk.
  DIFFERENCES AND CHANGES TAKEN BACK: the program's Diff and Back.
  THE WALK CUT: what holds behind a piece of code is said once, and the rest is walked once, however many ways lead there.
  CHANGES THAT DO TWO LISTS: the reference.
  CHANGES THAT DO TWO LISTS: the walk of the program's After.
  CHANGES THAT ARE NEVER WRITTEN AGAIN: what Diff, Back and After give.
  COPIES SETTLED, the choices being a slice of the caller's own.
-/
import Derived.Test.YtdifgaapdnbliaaGreatDoorP06
import Derived.Test.YtdifgaapdnbliaaGreatDoorP25
import Derived.Test.YtdifgaapdnbliaaGreatDoorP34
import Derived.Test.YtdifgaapdnbliaaGreatDoorP38
import Derived.Test.YtdifgaapdnbliaaGreatDoorP33
set_option linter.unusedSimpArgs false
set_option linter.unusedVariables false
set_option linter.unusedSectionVars false
namespace Ab
open Go Go.RowKit Go.Proofs
attribute [local irreducible] aws awp aw1 Og Om Oc Oa Ogd Ov Ot awd aw1d awh aw1h Ogh Ohd awl Ogl Ohl awv Ogv Ohv QThen QBlock QFn QFnM QRo QBe ACode AYield
/-- the first file's error that has one -/
def chk3 (a b c : List Oyez.Rec) : Int := if Oyez.check a ≠ 0 then Oyez.check a else if Oyez.check b ≠ 0 then Oyez.check b else Oyez.check c
/-- the objects ahead of round i of checked -/
def ckH (n : Nat) (a b c : List Oyez.Rec) : Nat → Heap
  | 0 => []
  | 1 => deskG n a ++ [.cells [.ptr n 0], .cells [.ptr n 0]]
  | 2 => deskG n a ++ [.cells [.ptr n 0], .dead] ++ deskG (n + 4) b ++ [.cells [.ptr (n + 4) 0], .cells [.ptr n 0, .ptr (n + 4) 0]]
  | _ => deskG n a ++ [.cells [.ptr n 0], .dead] ++ deskG (n + 4) b ++ [.cells [.ptr (n + 4) 0], .dead] ++ deskG (n + 8) c ++ [.cells [.ptr (n + 8) 0], .cells [.ptr n 0, .ptr (n + 4) 0, .ptr (n + 8) 0]]
def ckV (n : Nat) : Nat → AV
  | 0 => .nils
  | 1 => .arr 1 (n + 3) 0 1
  | 2 => .arr 1 (n + 7) 0 2
  | _ => .arr 1 (n + 11) 0 3
end Ab
namespace Ab
open Go Go.RowKit Go.Proofs
attribute [local irreducible] aws awp aw1 Og Om Oc Oa Ogd Ov Ot awd aw1d awh aw1h Ogh Ohd awl Ogl Ohl awv Ogv Ohv QThen QBlock QFn QFnM QRo QBe ACode AYield
theorem aw1d_makeFunc {P : Program} {dst : Option Tmp} {ty : TypeId} {pos : String} {after : Array Edge} {g : Option (Nat × Bool)} {f : Fn} {xs ys : Array Operand} {Kv : AV → Prop} {env : Env} {σ : Heap} :
    aw1d P ⟨dst, .makeFunc f xs ys, ty, pos, after, g⟩ Kv env σ = Kv (.fn f (xs.toList.map (aval env.t)) (ys.toList.map (aval env.t))) := by
  have h : aw1d P ⟨dst, .makeFunc f xs ys, ty, pos, after, g⟩ Kv env σ = aw1 P ⟨dst, .makeFunc f xs ys, ty, pos, after, g⟩ (fun v s => s = σ ∧ Kv v) env σ := aw1d_no rfl rfl
  rw [h, aw1_makeFunc]
  simp
attribute [simp] aw1d_makeFunc
/-- what Join gives -/
def joinR (a b c : List Oyez.Rec) : List Oyez.Rec × List Oyez.Place × Int :=
  if chk3 a b c ≠ 0 then ([], [], chk3 a b c) else if 40 < (Oyez.join a b c []).out.length then ([], [], 2) else ((Oyez.join a b c []).out, (Oyez.join a b c []).conf.map Oyez.Chg.place, 0)
end Ab
namespace Ab
open Go Go.RowKit Go.Proofs
attribute [local irreducible] aws awp aw1 Og Om Oc Oa Ogd Ov Ot awd aw1d awh aw1h Ogh Ohd awl Ogl Ohl awv Ogv Ohv QThen QBlock QFn QFnM QRo QBe ACode AYield
/-- what Settle gives -/
def settleR (a b c : List Oyez.Rec) (sec : List Bool) : List Oyez.Rec × Int :=
  if chk3 a b c ≠ 0 then ([], chk3 a b c) else if (Oyez.join a b c []).conf.length ≠ sec.length then ([], 2) else if 40 < (Oyez.join a b c sec).out.length then ([], 2) else ((Oyez.join a b c sec).out, 0)
end Ab
namespace Ab
open Go Go.RowKit Go.Proofs
attribute [local irreducible] aws awp aw1 Og Om Oc Oa Ogd Ov Ot awd aw1d awh aw1h Ogh Ohd awl Ogl Ohl awv Ogv Ohv QThen QBlock QFn QFnM QRo QBe ACode AYield
/-- the first file's error that has one -/
def chk2 (a b : List Oyez.Rec) : Int := if Oyez.check a ≠ 0 then Oyez.check a else Oyez.check b
def ck2H (n : Nat) (a b : List Oyez.Rec) : Nat → Heap
  | 0 => []
  | 1 => deskG n a ++ [.cells [.ptr n 0], .cells [.ptr n 0]]
  | _ => deskG n a ++ [.cells [.ptr n 0], .dead] ++ deskG (n + 4) b ++ [.cells [.ptr (n + 4) 0], .cells [.ptr n 0, .ptr (n + 4) 0]]
def ck2V (n : Nat) : Nat → AV
  | 0 => .nils
  | 1 => .arr 1 (n + 3) 0 1
  | _ => .arr 1 (n + 7) 0 2
/-- changes as they lie -/
theorem MC.own {σ g : Heap} {L : List Oyez.Chg} {v : AV} (h : MC σ g L v) : OwnC asIs σ.length (σ ++ g) L v := by
  obtain ⟨o, vals, h1, h0, hlo, h2, h3⟩ := h.ex
  have hv := h1.val
  cases o with
  | none =>
    obtain ⟨rfl, rfl⟩ := hv
    exact ⟨.inl ⟨List.eq_nil_of_length_eq_zero h2.symm, rfl⟩⟩
  | some r =>
    obtain ⟨rfl, hg⟩ := hv
    have hgr : (σ ++ g)[σ.length + r]? = some (.cells (vals.flatMap AV.cells)) := by rw [List.getElem?_append_right (by omega), Nat.add_sub_cancel_left]; exact hg
    have hone : ∀ x ∈ vals, x.cells.length = 6 := fun x hx => (h1.len x hx).1
    refine ⟨.inr ⟨σ.length + r, by omega, by rw [h2], _, hgr, by rw [flat_len _ hone, h2], fun i c hc => ?_⟩⟩
    obtain ⟨w1, w2, a, b, d⟩ := h3 i c hc
    refine ⟨w1, w2, ?_, fun w ws hw => ?_⟩
    · apply List.ext_getElem?
      intro j
      rcases Nat.lt_or_ge j 6 with hj | hj
      · rw [List.getElem?_take_of_lt hj, List.getElem?_drop, flat_get (k := 6) _ hone (by decide), show (i * 6 + j) / 6 = i by omega, show (i * 6 + j) % 6 = j by omega, a]
        rfl
      · rw [List.getElem?_eq_none (by simp; omega), List.getElem?_eq_none (by simpa using hj)]
    · have key : ∀ {w : AV} {ws : List (List UInt8)}, RW σ.length g (some r) w ws → (ws = [] ∧ w = .pl 1 []) ∨ ∃ (q : Nat) (xs : List AV), σ.length ≤ q ∧ q ≠ σ.length + r ∧ w = .arr 1 q 0 ws.length ∧ (σ ++ g)[q]? = some (.cells xs) ∧ asIs ws xs := by
        intro w ws hw
        rcases hw with hw | ⟨j, a1, a2, a3⟩
        · exact .inl hw
        · have hne : r ≠ j := fun e => a3 (by rw [e])
          exact .inr ⟨σ.length + j, strs ws, by omega, by omega, a1, by rw [List.getElem?_append_right (by omega), Nat.add_sub_cancel_left]; exact a2, rfl⟩
      rcases hw with hw | hw
      · obtain ⟨rfl, rfl⟩ := Prod.mk.inj hw; exact key b
      · obtain ⟨rfl, rfl⟩ := Prod.mk.inj hw; exact key d
/-- what Diff gives -/
def diffR (a b : List Oyez.Rec) : List Oyez.Chg × Int := if chk2 a b ≠ 0 then ([], chk2 a b) else (Oyez.diff a b, 0)
end Ab
namespace Ab
open Go Go.RowKit
variable [Mode]
variable {P : Program}
theorem Cs.mono {b : Bool} {X Y X' Y' : Prop} (h : Cs b X Y) (hx : X → X') (hy : Y → Y') : Cs b X' Y' := ⟨fun e => hx (h.1 e), fun e => hy (h.2 e)⟩
theorem AYield.mono0 {r : Nat} {args : List AV} {σ : Heap} {K K' : AV → Heap → Prop} (h : AYield P r args σ K) (hk : ∀ v s, K v s → K' v s) : AYield P r args σ K' := by
  unfold AYield at h ⊢
  split at h
  · refine ⟨h.1, h.2.mono fun e env σ hq => ?_⟩
    cases e with
    | normal =>
      simp only [QBegin] at hq ⊢
      split at hq
      · refine ⟨hq.1, hq.2.mono fun e env σ hr => ?_⟩
        cases e with
        | normal =>
          simp only [QRound] at hr ⊢
          split at hr
          · exact hk _ _ hr
          · exact hr.elim
        | _ => exact hr
      · exact hq.elim
    | _ => exact hq
  · exact h.elim
theorem aw1_mono {o : Oper} {K K' : AV → Heap → Prop} {env : Env} {σ : Heap} (h : aw1 P o K env σ) (hk : ∀ v s, K v s → K' v s) : aw1 P o K' env σ := by
  unfold aw1 at h ⊢
  split at h
  · split at h
    · exact h.mono hk
    · exact h.mono0 hk
    · exact h.elim
  · split at h
    · exact hk _ _ h
    · exact h.elim
theorem aws_mono {ops : List Oper} : ∀ {l : List Oper} {K K' : Env → Heap → Prop} {env : Env} {σ : Heap}, aws P ops l K env σ → (∀ env s, K env s → K' env s) → aws P ops l K' env σ := by
  intro l
  induction l with
  | nil => intro K K' env σ h hk; exact hk _ _ h
  | cons o rest ih =>
    intro K K' env σ h hk
    unfold aws at h ⊢
    split at h
    · exact aw1_mono h fun v s h => ih h hk
    · exact h.mono (fun h => aw1_mono h fun v s h => ih h hk) fun h => ih h hk
    · exact h.elim
theorem awp_mono {rd : Option Nat} (c : Code) : ∀ {Q Q' : Exit → Env → Heap → Prop} {env : Env} {σ : Heap}, awp P rd c Q env σ → (∀ e env s, Q e env s → Q' e env s) → awp P rd c Q' env σ := by
  induction c with
  | skip => intro Q Q' env σ h hq; exact hq _ _ _ h
  | label l => intro Q Q' env σ h hq; exact hq _ _ _ h
  | exit id => intro Q Q' env σ h hq; exact hq _ _ _ h
  | goto l => intro Q Q' env σ h hq; exact hq _ _ _ h
  | ret => intro Q Q' env σ h hq; exact hq _ _ _ h
  | region id ops draw =>
    intro Q Q' env σ h hq
    cases draw with
    | false => exact aws_mono (l := ops.toList) h fun env s h => hq _ _ _ h
    | true => exact ACode.mono h hq
  | seq x y ihx ihy =>
    intro Q Q' env σ h hq
    refine ihx (Q := QThen (awp P rd y Q) Q) h fun e env s h => ?_
    cases e with
    | normal => exact ihy h hq
    | _ => exact hq _ _ _ h
  | cond t x y ihx ihy =>
    intro Q Q' env σ h hq
    unfold awp at h ⊢
    split at h
    · exact h.mono (fun h => ihx h hq) fun h => ihy h hq
    · exact h.elim
  | block id x ih =>
    intro Q Q' env σ h hq
    refine ih (Q := QBlock id Q) h fun e env s h => ?_
    cases e with
    | exit id' =>
      simp only [QBlock] at h ⊢
      split at h
      · rename_i e; rw [if_pos e]; exact hq _ _ _ h
      · rename_i e; rw [if_neg e]; exact hq _ _ _ h
    | _ => exact hq _ _ _ h
  | _ => intro Q Q' env σ h hq; exact ACode.mono h hq
/-- **THE CUT.** -/
theorem awp_cut {rd : Option Nat} {c : Code} (I : Env → Heap → Prop) {N : Env → Heap → Prop} {Q : Exit → Env → Heap → Prop} {env : Env} {σ : Heap} (head : awp P rd c (QThen I Q) env σ) (tail : ∀ env σ, I env σ → N env σ) : awp P rd c (QThen N Q) env σ :=
  awp_mono c head fun e env s h => by
    cases e with
    | normal => exact tail _ _ h
    | _ => exact h
end Ab
namespace Oyez
/-- which change is that of a place -/
def idxC : List Chg → Place → Option Nat
  | [], _ => none
  | c :: t, p => if c.place = p then some 0 else (idxC t p).map (· + 1)
end Oyez
namespace Ab
open Go Go.RowKit Go.Proofs
attribute [local irreducible] aws awp aw1 Og Om Oc Oa Ogd Ov Ot awd aw1d awh aw1h Ogh Ohd awl Ogl Ohl awv Ogv Ohv QThen QBlock QFn QFnM QRo QBe ACode AYield
def atI (o : Option Nat) : Int := match o with
  | none => -1
  | some i => i
/-- what the reference's After gives -/
def refAfterR (x y : List Oyez.Chg) : List Oyez.Chg × Int := match Oyez.after x y with
  | .error _ => ([], 7)
  | .ok l => if 80 < l.length then ([], 2) else (l, 0)
end Ab
namespace Ab
open Go Go.RowKit Go.Proofs
attribute [local irreducible] aws awp aw1 Og Om Oc Oa Ogd Ov Ot awd aw1d awh aw1h Ogh Ohd awl Ogl Ohl awv Ogv Ohv QThen QBlock QFn QFnM QRo QBe ACode AYield
/-- the changes of places that another list has none of -/
def restC (x l : List Oyez.Chg) : List Oyez.Chg := l.filter fun d => decide (d.place ∉ x.map Oyez.Chg.place)
end Ab
namespace Ab
open Go Go.RowKit Go.Proofs
attribute [local irreducible] aws awp aw1 Og Om Oc Oa Ogd Ov Ot awd aw1d awh aw1h Ogh Ohd awl Ogl Ohl awv Ogv Ohv QThen QBlock QFn QFnM QRo QBe ACode AYield
/-- own words, read as what they hold once objects n and behind are never written again -/
theorem fz_strsM {n : Nat} {τ : Heap} {q : Nat} (ws : List (List UInt8)) (hn : n ≤ q) (h : τ[q]? = some (.cells (strs ws))) : Fz n τ (.arr 1 q 0 ws.length) (wordsAV ws) := by
  have hl : ws.length = (strs ws).length := by simp [strs]
  rw [hl]
  refine Fz.arr 1 q 0 (strs ws) (strs ws) (fun i _ => (strs ws).getD i .any) hn h (fun i x hx => ?_) (fun i x hx j y hy => ?_)
  · have hx' := hx
    simp only [strs, List.getElem?_map, Option.map_eq_some_iff] at hx
    obtain ⟨s, hs, rfl⟩ := hx
    refine ⟨rfl, fun j y hy => ?_⟩
    match j, hy with
    | 0, hy =>
      simp [AV.cells] at hy; subst hy
      refine ⟨rfl, ?_⟩
      rw [Nat.zero_add, Nat.mul_one, Nat.add_zero, List.getD_eq_getElem?_getD, hx']
      rfl
    | j + 1, hy => simp [AV.cells] at hy
  · have hx' := hx
    simp only [strs, List.getElem?_map, Option.map_eq_some_iff] at hx
    obtain ⟨s, hs, rfl⟩ := hx
    match j, hy with
    | 0, hy =>
      simp [AV.cells] at hy; subst hy
      rw [List.getD_eq_getElem?_getD, hx']
      exact .str _
    | j + 1, hy => simp [AV.cells] at hy
/-- what is lent are the changes -/
theorem OwnC.fzN {n : Nat} {τ : Heap} {lo : Nat} {L : List Oyez.Chg} {v : AV} (hn : n ≤ lo) (h : OwnC asIs lo τ L v) : Fz n τ v (chgsAV L) := by
  rcases h.row with ⟨rfl, rfl⟩ | ⟨r, hlr, rfl, cs, h3, h4, h5⟩
  · exact .nils_pl 6
  · have hl : L.length = (L.map chgAV).length := by simp
    rw [hl]
    have hcell : ∀ (i : Nat) (c : Oyez.Chg), L[i]? = some c → ∃ w1 w2, (∀ j, j < 6 → cs[i * 6 + j]? = [AV.int .i64 c.kind, .int .i64 c.number, .bool c.had, .bool c.has, w1, w2][j]?) ∧ Fz n τ w1 (wordsAV c.old) ∧ Fz n τ w2 (wordsAV c.new) := by
      intro i c hc
      obtain ⟨w1, w2, g1, g2⟩ := h5 i c hc
      have key : ∀ w ws, (w, ws) = (w1, c.old) ∨ (w, ws) = (w2, c.new) → Fz n τ w (wordsAV ws) := by
        intro w ws hw
        rcases g2 w ws hw with ⟨a, rfl⟩ | ⟨q, xs, a1, a2, rfl, a4, a5⟩
        · rw [a]; exact .pl0 1 1
        · rw [show xs = strs ws from a5] at a4
          exact fz_strsM _ (by omega) a4
      refine ⟨w1, w2, fun j hj => ?_, key _ _ (.inl rfl), key _ _ (.inr rfl)⟩
      rw [← g1, List.getElem?_take_of_lt hj, List.getElem?_drop]
    refine Fz.arr 6 r 0 cs (L.map chgAV) (fun i j => (cs[i * 6 + j]?).getD .any) (by omega) h3 (fun i x hx => ?_) (fun i x hx j y hy => ?_)
    · rw [List.getElem?_map, Option.map_eq_some_iff] at hx
      obtain ⟨c, hc, rfl⟩ := hx
      obtain ⟨w1, w2, g1, g2⟩ := hcell i c hc
      refine ⟨rfl, fun j y hy => ?_⟩
      have hj : j < 6 := (List.getElem?_eq_some_iff.1 hy).1
      refine ⟨?_, ?_⟩
      · match j, hj, hy with
        | 0, _, hy => simp [AV.cells] at hy; subst hy; rfl
        | 1, _, hy => simp [AV.cells] at hy; subst hy; rfl
        | 2, _, hy => simp [AV.cells] at hy; subst hy; rfl
        | 3, _, hy => simp [AV.cells] at hy; subst hy; rfl
        | 4, _, hy => simp [AV.cells] at hy; subst hy; rfl
        | 5, _, hy => simp [AV.cells] at hy; subst hy; rfl
      · have := g1 j hj
        rw [Nat.zero_add, this]
        match j, hj with
        | 0, _ => rfl
        | 1, _ => rfl
        | 2, _ => rfl
        | 3, _ => rfl
        | 4, _ => rfl
        | 5, _ => rfl
    · rw [List.getElem?_map, Option.map_eq_some_iff] at hx
      obtain ⟨c, hc, rfl⟩ := hx
      obtain ⟨w1, w2, g1, g2, g3⟩ := hcell i c hc
      have hj : j < 6 := (List.getElem?_eq_some_iff.1 hy).1
      rw [g1 j hj]
      match j, hj, hy with
      | 0, _, hy => simp [AV.cells] at hy; subst hy; exact .int _ _
      | 1, _, hy => simp [AV.cells] at hy; subst hy; exact .int _ _
      | 2, _, hy => simp [AV.cells] at hy; subst hy; exact .bool _
      | 3, _, hy => simp [AV.cells] at hy; subst hy; exact .bool _
      | 4, _, hy => simp [AV.cells] at hy; subst hy; exact g2
      | 5, _, hy => simp [AV.cells] at hy; subst hy; exact g3
/-- what Back gives -/
def backR (l : List Oyez.Chg) : List Oyez.Chg × Int := if Oyez.checkChg l ≠ 0 then ([], Oyez.checkChg l) else (Oyez.back l, 0)
end Ab
namespace Ab
open Go Go.RowKit Go.Proofs
attribute [local irreducible] aws awp aw1 Og Om Oc Oa Ogd Ov Ot awd aw1d awh aw1h Ogh Ohd awl Ogl Ohl awv Ogv Ohv QThen QBlock QFn QFnM QRo QBe ACode AYield
end Ab
