/-
  DIFFERENCES AND CHANGES TAKEN BACK: the program's Diff and Back.
  THE WALK CUT: what holds behind a piece of code is said once, and the rest is walked once, however many ways lead there.
  CHANGES THAT DO TWO LISTS: the reference.
  CHANGES THAT DO TWO LISTS: the walk of the program's After.
  CHANGES THAT ARE NEVER WRITTEN AGAIN: what Diff, Back and After give.
-/
import Derived.Test.YtdifgaapdnbliaaGreatDoorM06
import Derived.Test.YtdifgaapdnbliaaGreatDoorM30
import Derived.Test.YtdifgaapdnbliaaGreatDoorM31
import Derived.Test.YtdifgaapdnbliaaGreatDoorM34
import Derived.Test.YtdifgaapdnbliaaGreatDoorM33
import Derived.Test.YtdifgaapdnbliaaGreatDoorM38
set_option linter.unusedSimpArgs false
set_option linter.unusedVariables false
set_option linter.unusedSectionVars false
namespace Ab
open Go Go.RowKit Go.Proofs
attribute [local irreducible] aws awp aw1 Og Om Oc Oa Ogd Ov Ot awd aw1d awh aw1h Ogh Ohd awl Ogl Ohl awv Ogv Ohv QThen QBlock QFn QFnM QRo QBe ACode AYield
/-- the first file's error that has one -/
def chk2 (a b : List Oyez.Rec) : Int := if Oyez.check a ≠ 0 then Oyez.check a else Oyez.check b
def ck2H (n : Nat) (a b : List Oyez.Rec) : Nat → Heap
  | 0 => []
  | 1 => deskG n a ++ [.cells [.ptr n 0], .cells [.ptr n 0]]
  | _ => deskG n a ++ [.cells [.ptr n 0], .dead] ++ deskG (n + 4) b ++ [.cells [.ptr (n + 4) 0], .cells [.ptr n 0, .ptr (n + 4) 0]]
def ck2V (n : Nat) : Nat → AV
  | 0 => .nils
  | 1 => .arr 1 (n + 3) 0 1
  | _ => .arr 1 (n + 7) 0 2
/-- changes as they lie -/
theorem MC.own {σ g : Heap} {L : List Oyez.Chg} {v : AV} (h : MC σ g L v) : OwnC asIs σ.length (σ ++ g) L v := by
  obtain ⟨o, vals, h1, h0, hlo, h2, h3⟩ := h.ex
  have hv := h1.val
  cases o with
  | none =>
    obtain ⟨rfl, rfl⟩ := hv
    exact ⟨.inl ⟨List.eq_nil_of_length_eq_zero h2.symm, rfl⟩⟩
  | some r =>
    obtain ⟨rfl, hg⟩ := hv
    have hgr : (σ ++ g)[σ.length + r]? = some (.cells (vals.flatMap AV.cells)) := by rw [List.getElem?_append_right (by omega), Nat.add_sub_cancel_left]; exact hg
    have hone : ∀ x ∈ vals, x.cells.length = 6 := fun x hx => (h1.len x hx).1
    refine ⟨.inr ⟨σ.length + r, by omega, by rw [h2], _, hgr, by rw [flat_len _ hone, h2], fun i c hc => ?_⟩⟩
    obtain ⟨w1, w2, a, b, d⟩ := h3 i c hc
    refine ⟨w1, w2, ?_, fun w ws hw => ?_⟩
    · apply List.ext_getElem?
      intro j
      rcases Nat.lt_or_ge j 6 with hj | hj
      · rw [List.getElem?_take_of_lt hj, List.getElem?_drop, flat_get (k := 6) _ hone (by decide), show (i * 6 + j) / 6 = i by omega, show (i * 6 + j) % 6 = j by omega, a]
        rfl
      · rw [List.getElem?_eq_none (by simp; omega), List.getElem?_eq_none (by simpa using hj)]
    · have key : ∀ {w : AV} {ws : List (List UInt8)}, RW σ.length g (some r) w ws → (ws = [] ∧ w = .pl 1 []) ∨ ∃ (q : Nat) (xs : List AV), σ.length ≤ q ∧ q ≠ σ.length + r ∧ w = .arr 1 q 0 ws.length ∧ (σ ++ g)[q]? = some (.cells xs) ∧ asIs ws xs := by
        intro w ws hw
        rcases hw with hw | ⟨j, a1, a2, a3⟩
        · exact .inl hw
        · have hne : r ≠ j := fun e => a3 (by rw [e])
          exact .inr ⟨σ.length + j, strs ws, by omega, by omega, a1, by rw [List.getElem?_append_right (by omega), Nat.add_sub_cancel_left]; exact a2, rfl⟩
      rcases hw with hw | hw
      · obtain ⟨rfl, rfl⟩ := Prod.mk.inj hw; exact key b
      · obtain ⟨rfl, rfl⟩ := Prod.mk.inj hw; exact key d
/-- what Diff gives -/
def diffR (a b : List Oyez.Rec) : List Oyez.Chg × Int := if chk2 a b ≠ 0 then ([], chk2 a b) else (Oyez.diff a b, 0)
end Ab
namespace Ab
open Go Go.RowKit
variable [Mode]
variable {P : Program}
theorem Cs.mono {b : Bool} {X Y X' Y' : Prop} (h : Cs b X Y) (hx : X → X') (hy : Y → Y') : Cs b X' Y' := ⟨fun e => hx (h.1 e), fun e => hy (h.2 e)⟩
end Ab
namespace Oyez
/-- which change is that of a place -/
def idxC : List Chg → Place → Option Nat
  | [], _ => none
  | c :: t, p => if c.place = p then some 0 else (idxC t p).map (· + 1)
end Oyez
namespace Ab
open Go Go.RowKit Go.Proofs
attribute [local irreducible] aws awp aw1 Og Om Oc Oa Ogd Ov Ot awd aw1d awh aw1h Ogh Ohd awl Ogl Ohl awv Ogv Ohv QThen QBlock QFn QFnM QRo QBe ACode AYield
def atI (o : Option Nat) : Int := match o with
  | none => -1
  | some i => i
/-- what the reference's After gives -/
def refAfterR (x y : List Oyez.Chg) : List Oyez.Chg × Int := match Oyez.after x y with
  | .error _ => ([], 7)
  | .ok l => if 80 < l.length then ([], 2) else (l, 0)
end Ab
namespace Ab
open Go Go.RowKit Go.Proofs
attribute [local irreducible] aws awp aw1 Og Om Oc Oa Ogd Ov Ot awd aw1d awh aw1h Ogh Ohd awl Ogl Ohl awv Ogv Ohv QThen QBlock QFn QFnM QRo QBe ACode AYield
/-- the changes of places that another list has none of -/
def restC (x l : List Oyez.Chg) : List Oyez.Chg := l.filter fun d => decide (d.place ∉ x.map Oyez.Chg.place)
end Ab
namespace Ab
open Go Go.RowKit Go.Proofs
attribute [local irreducible] aws awp aw1 Og Om Oc Oa Ogd Ov Ot awd aw1d awh aw1h Ogh Ohd awl Ogl Ohl awv Ogv Ohv QThen QBlock QFn QFnM QRo QBe ACode AYield
/-- own words, read as what they hold once objects n and behind are never written again -/
theorem fz_strsM {n : Nat} {τ : Heap} {q : Nat} (ws : List (List UInt8)) (hn : n ≤ q) (h : τ[q]? = some (.cells (strs ws))) : Fz n τ (.arr 1 q 0 ws.length) (wordsAV ws) := by
  have hl : ws.length = (strs ws).length := by simp [strs]
  rw [hl]
  refine Fz.arr 1 q 0 (strs ws) (strs ws) (fun i _ => (strs ws).getD i .any) hn h (fun i x hx => ?_) (fun i x hx j y hy => ?_)
  · have hx' := hx
    simp only [strs, List.getElem?_map, Option.map_eq_some_iff] at hx
    obtain ⟨s, hs, rfl⟩ := hx
    refine ⟨rfl, fun j y hy => ?_⟩
    match j, hy with
    | 0, hy =>
      simp [AV.cells] at hy; subst hy
      refine ⟨rfl, ?_⟩
      rw [Nat.zero_add, Nat.mul_one, Nat.add_zero, List.getD_eq_getElem?_getD, hx']
      rfl
    | j + 1, hy => simp [AV.cells] at hy
  · have hx' := hx
    simp only [strs, List.getElem?_map, Option.map_eq_some_iff] at hx
    obtain ⟨s, hs, rfl⟩ := hx
    match j, hy with
    | 0, hy =>
      simp [AV.cells] at hy; subst hy
      rw [List.getD_eq_getElem?_getD, hx']
      exact .str _
    | j + 1, hy => simp [AV.cells] at hy
/-- what is lent are the changes -/
theorem OwnC.fzN {n : Nat} {τ : Heap} {lo : Nat} {L : List Oyez.Chg} {v : AV} (hn : n ≤ lo) (h : OwnC asIs lo τ L v) : Fz n τ v (chgsAV L) := by
  rcases h.row with ⟨rfl, rfl⟩ | ⟨r, hlr, rfl, cs, h3, h4, h5⟩
  · exact .nils_pl 6
  · have hl : L.length = (L.map chgAV).length := by simp
    rw [hl]
    have hcell : ∀ (i : Nat) (c : Oyez.Chg), L[i]? = some c → ∃ w1 w2, (∀ j, j < 6 → cs[i * 6 + j]? = [AV.int .i64 c.kind, .int .i64 c.number, .bool c.had, .bool c.has, w1, w2][j]?) ∧ Fz n τ w1 (wordsAV c.old) ∧ Fz n τ w2 (wordsAV c.new) := by
      intro i c hc
      obtain ⟨w1, w2, g1, g2⟩ := h5 i c hc
      have key : ∀ w ws, (w, ws) = (w1, c.old) ∨ (w, ws) = (w2, c.new) → Fz n τ w (wordsAV ws) := by
        intro w ws hw
        rcases g2 w ws hw with ⟨a, rfl⟩ | ⟨q, xs, a1, a2, rfl, a4, a5⟩
        · rw [a]; exact .pl0 1 1
        · rw [show xs = strs ws from a5] at a4
          exact fz_strsM _ (by omega) a4
      refine ⟨w1, w2, fun j hj => ?_, key _ _ (.inl rfl), key _ _ (.inr rfl)⟩
      rw [← g1, List.getElem?_take_of_lt hj, List.getElem?_drop]
    refine Fz.arr 6 r 0 cs (L.map chgAV) (fun i j => (cs[i * 6 + j]?).getD .any) (by omega) h3 (fun i x hx => ?_) (fun i x hx j y hy => ?_)
    · rw [List.getElem?_map, Option.map_eq_some_iff] at hx
      obtain ⟨c, hc, rfl⟩ := hx
      obtain ⟨w1, w2, g1, g2⟩ := hcell i c hc
      refine ⟨rfl, fun j y hy => ?_⟩
      have hj : j < 6 := (List.getElem?_eq_some_iff.1 hy).1
      refine ⟨?_, ?_⟩
      · match j, hj, hy with
        | 0, _, hy => simp [AV.cells] at hy; subst hy; rfl
        | 1, _, hy => simp [AV.cells] at hy; subst hy; rfl
        | 2, _, hy => simp [AV.cells] at hy; subst hy; rfl
        | 3, _, hy => simp [AV.cells] at hy; subst hy; rfl
        | 4, _, hy => simp [AV.cells] at hy; subst hy; rfl
        | 5, _, hy => simp [AV.cells] at hy; subst hy; rfl
      · have := g1 j hj
        rw [Nat.zero_add, this]
        match j, hj with
        | 0, _ => rfl
        | 1, _ => rfl
        | 2, _ => rfl
        | 3, _ => rfl
        | 4, _ => rfl
        | 5, _ => rfl
    · rw [List.getElem?_map, Option.map_eq_some_iff] at hx
      obtain ⟨c, hc, rfl⟩ := hx
      obtain ⟨w1, w2, g1, g2, g3⟩ := hcell i c hc
      have hj : j < 6 := (List.getElem?_eq_some_iff.1 hy).1
      rw [g1 j hj]
      match j, hj, hy with
      | 0, _, hy => simp [AV.cells] at hy; subst hy; exact .int _ _
      | 1, _, hy => simp [AV.cells] at hy; subst hy; exact .int _ _
      | 2, _, hy => simp [AV.cells] at hy; subst hy; exact .bool _
      | 3, _, hy => simp [AV.cells] at hy; subst hy; exact .bool _
      | 4, _, hy => simp [AV.cells] at hy; subst hy; exact g2
      | 5, _, hy => simp [AV.cells] at hy; subst hy; exact g3
/-- one element more, from a slice literal -/
theorem Acc.push1 {σ g : Heap} {k : Nat} {v : AV} {l : List AV} {o : Option Nat} (h : Acc σ g k v l o) {P : Program} {t e : TypeId} {ag : Bool} {x : AV} (he : telem P t = some e) (hs : tsa P e = some (k, ag)) (hz : tzk P e k = true) (hk : 0 < k)
    (hx : x.cells.length = k ∧ ∀ y ∈ x.cells, y.one = true) (hb : (l.length + 1) * tby P e ≤ 140737488355328) :
    ∃ v' g' o', aappend P #[t, t] v (.arr k (σ.length + g.length) 0 1) (σ ++ (g ++ [.cells x.cells])) = some (v', σ ++ g') ∧ Acc σ g' k v' (l ++ [x]) o' ∧ g.length ≤ g'.length ∧ (∀ j, some j ≠ o → j < g.length → g'[j]? = g[j]?) ∧ (o' = o ∨ ∃ m, g.length + 1 ≤ m ∧ o' = some m) := by
  have h2 : Acc σ (g ++ [.cells x.cells]) k v l o := ⟨h.len, by
    have := h.val
    cases o with
    | none => exact this
    | some j => exact ⟨this.1, by rw [List.getElem?_append_left (List.getElem?_eq_some_iff.1 this.2).1]; exact this.2⟩⟩
  obtain ⟨v', g', o', h3, h4, h5, h6, h7⟩ := h2.app (P := P) (ys := [x]) (y := .arr k (σ.length + g.length) 0 1) he hs hz hk (by simpa using hx) (by
    have hl : x.cells.length = k := hx.1
    have ha : x.cells.all AV.one = true := by simpa using hx.2
    have ht : x.cells.take k = x.cells := by rw [← hl]; exact List.take_length
    simp only [acells, hget_add]
    simp [-AV.one, -AV.cells, sub, hl, ht]
    exact hx.2) (by simpa using hb)
  refine ⟨v', g', o', h3, h4, by simp at h5; omega, fun j hj hlt => ?_, ?_⟩
  · rw [h6 j hj (by simp; omega), List.getElem?_append_left hlt]
  · rcases h7 with h7 | h7
    · exact .inl h7
    · exact .inr ⟨_, by simp, h7⟩
/-- what Back gives -/
def backR (l : List Oyez.Chg) : List Oyez.Chg × Int := if Oyez.checkChg l ≠ 0 then ([], Oyez.checkChg l) else (Oyez.back l, 0)
end Ab
