/-
  THE WALK CUT: what holds behind a piece of code is said once, and the rest is walked once, however many ways lead there.
  CHANGES THAT DO TWO LISTS: the reference.
  CHANGES THAT DO TWO LISTS: the walk of the program's After.
  CHANGES: lists of them copied; a list of the call's own, read as what it holds, and its words cleared.
-/
import Derived.Test.YtdifgaapdnbliaaGreatDoorR06
import Derived.Test.YtdifgaapdnbliaaGreatDoorR31
import Derived.Test.YtdifgaapdnbliaaGreatDoorR34
import Derived.Test.YtdifgaapdnbliaaGreatDoorR35
set_option linter.unusedSimpArgs false
set_option linter.unusedVariables false
set_option linter.unusedSectionVars false
namespace Ab
open Go Go.RowKit
variable [Mode]
variable {P : Program}
theorem Cs.mono {b : Bool} {X Y X' Y' : Prop} (h : Cs b X Y) (hx : X → X') (hy : Y → Y') : Cs b X' Y' := ⟨fun e => hx (h.1 e), fun e => hy (h.2 e)⟩
theorem AYield.mono0 {r : Nat} {args : List AV} {σ : Heap} {K K' : AV → Heap → Prop} (h : AYield P r args σ K) (hk : ∀ v s, K v s → K' v s) : AYield P r args σ K' := by
  unfold AYield at h ⊢
  split at h
  · refine ⟨h.1, h.2.mono fun e env σ hq => ?_⟩
    cases e with
    | normal =>
      simp only [QBegin] at hq ⊢
      split at hq
      · refine ⟨hq.1, hq.2.mono fun e env σ hr => ?_⟩
        cases e with
        | normal =>
          simp only [QRound] at hr ⊢
          split at hr
          · exact hk _ _ hr
          · exact hr.elim
        | _ => exact hr
      · exact hq.elim
    | _ => exact hq
  · exact h.elim
theorem aw1_mono {o : Oper} {K K' : AV → Heap → Prop} {env : Env} {σ : Heap} (h : aw1 P o K env σ) (hk : ∀ v s, K v s → K' v s) : aw1 P o K' env σ := by
  unfold aw1 at h ⊢
  split at h
  · split at h
    · exact h.mono hk
    · exact h.mono0 hk
    · exact h.elim
  · split at h
    · exact hk _ _ h
    · exact h.elim
theorem aws_mono {ops : List Oper} : ∀ {l : List Oper} {K K' : Env → Heap → Prop} {env : Env} {σ : Heap}, aws P ops l K env σ → (∀ env s, K env s → K' env s) → aws P ops l K' env σ := by
  intro l
  induction l with
  | nil => intro K K' env σ h hk; exact hk _ _ h
  | cons o rest ih =>
    intro K K' env σ h hk
    unfold aws at h ⊢
    split at h
    · exact aw1_mono h fun v s h => ih h hk
    · exact h.mono (fun h => aw1_mono h fun v s h => ih h hk) fun h => ih h hk
    · exact h.elim
theorem awp_mono {rd : Option Nat} (c : Code) : ∀ {Q Q' : Exit → Env → Heap → Prop} {env : Env} {σ : Heap}, awp P rd c Q env σ → (∀ e env s, Q e env s → Q' e env s) → awp P rd c Q' env σ := by
  induction c with
  | skip => intro Q Q' env σ h hq; exact hq _ _ _ h
  | label l => intro Q Q' env σ h hq; exact hq _ _ _ h
  | exit id => intro Q Q' env σ h hq; exact hq _ _ _ h
  | goto l => intro Q Q' env σ h hq; exact hq _ _ _ h
  | ret => intro Q Q' env σ h hq; exact hq _ _ _ h
  | region id ops draw =>
    intro Q Q' env σ h hq
    cases draw with
    | false => exact aws_mono (l := ops.toList) h fun env s h => hq _ _ _ h
    | true => exact ACode.mono h hq
  | seq x y ihx ihy =>
    intro Q Q' env σ h hq
    refine ihx (Q := QThen (awp P rd y Q) Q) h fun e env s h => ?_
    cases e with
    | normal => exact ihy h hq
    | _ => exact hq _ _ _ h
  | cond t x y ihx ihy =>
    intro Q Q' env σ h hq
    unfold awp at h ⊢
    split at h
    · exact h.mono (fun h => ihx h hq) fun h => ihy h hq
    · exact h.elim
  | block id x ih =>
    intro Q Q' env σ h hq
    refine ih (Q := QBlock id Q) h fun e env s h => ?_
    cases e with
    | exit id' =>
      simp only [QBlock] at h ⊢
      split at h
      · rename_i e; rw [if_pos e]; exact hq _ _ _ h
      · rename_i e; rw [if_neg e]; exact hq _ _ _ h
    | _ => exact hq _ _ _ h
  | _ => intro Q Q' env σ h hq; exact ACode.mono h hq
/-- **THE CUT.** -/
theorem awp_cut {rd : Option Nat} {c : Code} (I : Env → Heap → Prop) {N : Env → Heap → Prop} {Q : Exit → Env → Heap → Prop} {env : Env} {σ : Heap} (head : awp P rd c (QThen I Q) env σ) (tail : ∀ env σ, I env σ → N env σ) : awp P rd c (QThen N Q) env σ :=
  awp_mono c head fun e env s h => by
    cases e with
    | normal => exact tail _ _ h
    | _ => exact h
end Ab
namespace Oyez
/-- which change is that of a place -/
def idxC : List Chg → Place → Option Nat
  | [], _ => none
  | c :: t, p => if c.place = p then some 0 else (idxC t p).map (· + 1)
end Oyez
namespace Ab
open Go Go.RowKit Go.Proofs
attribute [local irreducible] aws awp aw1 Og Om Oc Oa Ogd Ov Ot awd aw1d awh aw1h Ogh Ohd awl Ogl Ohl awv Ogv Ohv QThen QBlock QFn QFnM QRo QBe ACode AYield
theorem chgErr_good {c : Oyez.Chg} (h : Oyez.chgErr c = 0) : ¬ badC c := by
  obtain ⟨_, _, _, h1, h2, _⟩ := Oyez.chgErr_zero h
  rintro (⟨a, b⟩ | ⟨a, b⟩)
  · exact b (h1 a)
  · exact b (h2 a)
theorem wordsErr_len {k n : Int} {ws : List (List UInt8)} (h : Oyez.wordsErr k n ws = 0) : ws.length ≤ 6 := by
  unfold Oyez.wordsErr at h
  split at h
  · cases h
  · omega
theorem chgErr_words {c : Oyez.Chg} (h : Oyez.chgErr c = 0) : c.old.length ≤ 6 ∧ c.new.length ≤ 6 := by
  obtain ⟨_, h1, h2, _⟩ := Oyez.chgErr_zero h
  exact ⟨wordsErr_len h1, wordsErr_len h2⟩
def atI (o : Option Nat) : Int := match o with
  | none => -1
  | some i => i
/-- what the reference's After gives -/
def refAfterR (x y : List Oyez.Chg) : List Oyez.Chg × Int := match Oyez.after x y with
  | .error _ => ([], 7)
  | .ok l => if 80 < l.length then ([], 2) else (l, 0)
end Ab
namespace Ab
open Go Go.RowKit Go.Proofs
attribute [local irreducible] aws awp aw1 Og Om Oc Oa Ogd Ov Ot awd aw1d awh aw1h Ogh Ohd awl Ogl Ohl awv Ogv Ohv QThen QBlock QFn QFnM QRo QBe ACode AYield
/-- the changes of places that another list has none of -/
def restC (x l : List Oyez.Chg) : List Oyez.Chg := l.filter fun d => decide (d.place ∉ x.map Oyez.Chg.place)
end Ab
namespace Oyez
end Oyez
namespace Ab
open Go Go.RowKit Go.Proofs
attribute [local irreducible] aws awp aw1 Og Om Oc Oa Ogd Ov Ot awd aw1d awh aw1h Ogh Ohd awl Ogl Ohl awv Ogv Ohv QThen QBlock QFn QFnM QRo QBe ACode AYield
/-- the cells of changes -/
def cellsC (l : List Oyez.Chg) : List AV := l.flatMap chgCells
theorem cellsC_map (l : List Oyez.Chg) : (l.map chgAV).flatMap AV.cells = cellsC l := by unfold cellsC; rw [List.flatMap_map]; rfl
theorem cellsC_len (l : List Oyez.Chg) : (cellsC l).length = l.length * 6 := by
  unfold cellsC
  induction l with
  | nil => rfl
  | cons p t ih => rw [List.flatMap_cons, List.length_append, ih]; simp [chgCells]; omega
theorem cellsC_at (l : List Oyez.Chg) {i j : Nat} (h : i < l.length) (hj : j < 6) : (cellsC l)[i * 6 + j]? = (chgCells l[i])[j]? := by
  rw [← cellsC_map, flat_get (k := 6) _ (fun x hx => by obtain ⟨c, _, rfl⟩ := List.mem_map.1 hx; rfl) (by decide), show (i * 6 + j) / 6 = i by omega, show (i * 6 + j) % 6 = j by omega, List.getElem?_map, List.getElem?_eq_getElem h]
  rfl
theorem cellsC_sub (l : List Oyez.Chg) {i : Nat} (h : i < l.length) : List.take 6 (List.drop (i * 6) (cellsC l)) = chgCells l[i] := by
  apply List.ext_getElem?
  intro j
  rcases Nat.lt_or_ge j 6 with hj | hj
  · rw [List.getElem?_take_of_lt hj, List.getElem?_drop, cellsC_at l h hj]
  · rw [List.getElem?_eq_none (by simp; omega), List.getElem?_eq_none (by simpa [chgCells] using hj)]
theorem cellsC_put (l : List Oyez.Chg) {i j : Nat} (h : i < l.length) (hj : j < 6) (v : AV) (hv : (chgCells l[i])[j]? = some v) : List.take (i * 6 + j) (cellsC l) ++ v :: List.drop (i * 6 + j + 1) (cellsC l) = cellsC l := by
  have hl := cellsC_len l
  have h1 := cellsC_at l h hj
  have hlt : i * 6 + j < (cellsC l).length := by omega
  rw [hv, List.getElem?_eq_getElem hlt] at h1
  rw [← Option.some.inj h1, ← List.drop_eq_getElem_cons hlt, List.take_append_drop]
theorem copyC_calls (l : List Oyez.Chg) (hl : l.length ≤ 2 ^ 30) (σ : Heap) : ACalls Tryz.prog 105 [chgsAV l] σ fun v σ' => v = .arr 6 σ.length 0 l.length ∧ σ' = σ ++ [.cells (cellsC l)] := by
  refine acalls_fn Tryz.func105 rfl (enters_fn Tryz.func105 (by decide) rfl) ?_
  have h1 : (l.length : Int) * 72 ≤ 281474976710656 := by omega
  have h2 : (l.length : Int) ≤ 9223372036854775807 := by omega
  simp [Tryz.ntmps105, h1, h2]
  rw [sum_const l 6]
  case h => exact fun _ => rfl
  rw [List.drop_eq_nil_of_le (by simp), List.append_nil]
  exact cellsC_map l
set_option maxHeartbeats 4000000 in
theorem owned_calls (l : List Oyez.Chg) (hl : l.length ≤ 2 ^ 30) (hw : ∀ c ∈ l, c.old.length ≤ 2 ^ 30 ∧ c.new.length ≤ 2 ^ 30) : APure Tryz.prog 37 [chgsAV l] (chgsAV l) := by
  refine APure.of fun σ => ?_
  refine acalls_fn Tryz.func37 rfl (enters_fn Tryz.func37 (by decide) rfl) ?_
  simp [Tryz.ntmps37]
  refine StA.of ((copyC_calls l hl σ).mono ?_)
  rintro _ _ ⟨rfl, rfl⟩
  simp
  refine ACode_loopT (fun env σ' => ∃ (u : List AV) (i : Nat) (g : Heap), env = { t := u } ∧ u.length = 31 ∧ tg u 3 = .arr 6 σ.length 0 l.length ∧ tg u 8 = .arr 6 σ.length 0 l.length ∧ tg u 9 = .int .i64 l.length ∧ tg u 10 = .int .i64 i ∧ σ' = σ ++ .cells (cellsC l) :: g ∧ i ≤ l.length)
    (fun env _ => match tg env.t 10 with | .int _ i => l.length - i.toNat | _ => 0) ⟨_, 0, [], rfl, by simp, by simp, by simp, by simp, by simp, by simp, by omega⟩ ?_
  rintro env σ' ⟨u, i, g, rfl, hl', g3, g8, g9, g10, rfl, hi⟩
  rcases Nat.lt_or_ge i l.length with hlt | hge
  · have hlt' : (i : Int) < (l.length : Int) := by omega
    have hx := w64 (n := (i : Int) + 1) (by omega) (by omega)
    have hlen := cellsC_len l
    have hs := cellsC_sub l hlt
    have hput4 := cellsC_put l hlt (show 4 < 6 by omega) (wordsAV l[i].old) rfl
    have hput5 := cellsC_put l hlt (show 5 < 6 by omega) (wordsAV l[i].new) rfl
    have hb : i * 6 + 6 ≤ l.length * 6 := by omega
    have hb4 : i * 6 + 4 + 1 ≤ l.length * 6 := by omega
    have hb5 : i * 6 + 5 + 1 ≤ l.length * 6 := by omega
    have hwi := hw _ (List.getElem_mem hlt)
    simp [chgCells] at hs
    simp at hput4 hput5
    simp [hl', g3, g8, g9, g10, hlt', hlt, hlen, hs, hb]
    refine ACode_drawV [12, 15] [(2, 1), (3, 1)] mixed (by kernel_rfl) (by kernel_rfl) ?_
    simp [hl', g3, g8, g9, g10, hlt', hlt, hlen, hs, hb, Nat.add_assoc]
    refine Ou_use0 (copyS_calls l[i].old hwi.1) ?_
    try simp [hl', g3, g8, g9, g10, hlt', hlt, hlen, hs, hb, Nat.add_assoc]
    refine Ou_use0 (copyS_calls l[i].new hwi.2) ?_
    simp [hl', g3, g8, g9, g10, hlt', hlt, hlen, hs, hb, hb4, hb5, hx, hput4, hput5, Nat.add_assoc]
    exact ⟨⟨i + 1, by simp, by omega⟩, by omega⟩
  · have hge' : ¬ (i : Int) < (l.length : Int) := by omega
    have hA : Acc σ (.cells (cellsC l) :: g) 6 (.arr 6 σ.length 0 l.length) (l.map chgAV) (some 0) := ⟨fun x hx => by
      obtain ⟨r, _, rfl⟩ := List.mem_map.1 hx
      exact ⟨rfl, by simp [AV.cells, AV.one]⟩, by simp, by rw [cellsC_map]; rfl⟩
    have hz := hA.fz (fz_chgs _ _ _)
    simpa [hl', g3, g8, g9, g10, hge'] using hz
/-- what is lent are the changes -/
theorem OwnC.fz {τ : Heap} {lo : Nat} {L : List Oyez.Chg} {v : AV} (h : OwnC asIs lo τ L v) : Fz 0 τ v (chgsAV L) := by
  rcases h.row with ⟨rfl, rfl⟩ | ⟨r, _, rfl, cs, h3, h4, h5⟩
  · exact .nils_pl 6
  · have hl : L.length = (L.map chgAV).length := by simp
    rw [hl]
    have hcell : ∀ (i : Nat) (c : Oyez.Chg), L[i]? = some c → ∃ w1 w2, (∀ j, j < 6 → cs[i * 6 + j]? = [AV.int .i64 c.kind, .int .i64 c.number, .bool c.had, .bool c.has, w1, w2][j]?) ∧ Fz 0 τ w1 (wordsAV c.old) ∧ Fz 0 τ w2 (wordsAV c.new) := by
      intro i c hc
      obtain ⟨w1, w2, g1, g2⟩ := h5 i c hc
      have key : ∀ w ws, (w, ws) = (w1, c.old) ∨ (w, ws) = (w2, c.new) → Fz 0 τ w (wordsAV ws) := by
        intro w ws hw
        rcases g2 w ws hw with ⟨a, rfl⟩ | ⟨q, xs, a1, a2, rfl, a4, a5⟩
        · rw [a]; exact .pl0 1 1
        · rw [show xs = strs ws from a5] at a4
          exact fz_strs0 _ a4
      refine ⟨w1, w2, fun j hj => ?_, key _ _ (.inl rfl), key _ _ (.inr rfl)⟩
      rw [← g1, List.getElem?_take_of_lt hj, List.getElem?_drop]
    refine Fz.arr 6 r 0 cs (L.map chgAV) (fun i j => (cs[i * 6 + j]?).getD .any) (Nat.zero_le _) h3 (fun i x hx => ?_) (fun i x hx j y hy => ?_)
    · rw [List.getElem?_map, Option.map_eq_some_iff] at hx
      obtain ⟨c, hc, rfl⟩ := hx
      obtain ⟨w1, w2, g1, g2⟩ := hcell i c hc
      refine ⟨rfl, fun j y hy => ?_⟩
      have hj : j < 6 := (List.getElem?_eq_some_iff.1 hy).1
      refine ⟨?_, ?_⟩
      · match j, hj, hy with
        | 0, _, hy => simp [AV.cells] at hy; subst hy; rfl
        | 1, _, hy => simp [AV.cells] at hy; subst hy; rfl
        | 2, _, hy => simp [AV.cells] at hy; subst hy; rfl
        | 3, _, hy => simp [AV.cells] at hy; subst hy; rfl
        | 4, _, hy => simp [AV.cells] at hy; subst hy; rfl
        | 5, _, hy => simp [AV.cells] at hy; subst hy; rfl
      · have := g1 j hj
        rw [Nat.zero_add, this]
        match j, hj with
        | 0, _ => rfl
        | 1, _ => rfl
        | 2, _ => rfl
        | 3, _ => rfl
        | 4, _ => rfl
        | 5, _ => rfl
    · rw [List.getElem?_map, Option.map_eq_some_iff] at hx
      obtain ⟨c, hc, rfl⟩ := hx
      obtain ⟨w1, w2, g1, g2, g3⟩ := hcell i c hc
      have hj : j < 6 := (List.getElem?_eq_some_iff.1 hy).1
      rw [g1 j hj]
      match j, hj, hy with
      | 0, _, hy => simp [AV.cells] at hy; subst hy; exact .int _ _
      | 1, _, hy => simp [AV.cells] at hy; subst hy; exact .int _ _
      | 2, _, hy => simp [AV.cells] at hy; subst hy; exact .bool _
      | 3, _, hy => simp [AV.cells] at hy; subst hy; exact .bool _
      | 4, _, hy => simp [AV.cells] at hy; subst hy; exact g2
      | 5, _, hy => simp [AV.cells] at hy; subst hy; exact g3
theorem hmade (x : AV) (l : List Oyez.Chg) (h : (x = .nils ∧ l = []) ∨ x = chgsAV l) (hf : l.length ≤ 2 ^ 40) (S : Heap) : ACalls Tryz.prog 43 [x] S fun v s => v = chgsAV l ∧ s = S := by
  rcases h with ⟨rfl, rfl⟩ | rfl
  · refine APure.lend (cmade_calls [] (by simp)) rfl (fun i x y hx hy => ?_) (fun C C' c hv => ?_)
    · match i, hx, hy with
      | 0, hx, hy => simp at hx hy; subst hx; subst hy; exact .nils_pl 6
      | i + 1, hx, _ => simp at hx
    · obtain ⟨A, cap, rfl, _, _⟩ := hv.pl_inv
      exact .pl0 6 A cap hv.pl_cap
  · exact cmade_calls l hf S
theorem fz_chgsAV (n : Nat) (S : Heap) (l : List Oyez.Chg) : Fz n S (chgsAV l) (chgsAV l) := .pl 6 _ fun i x hx j y hy => fz_chgs n S l x (List.mem_of_getElem? hx) y (List.mem_of_getElem? hy)
theorem halike {S : Heap} {lo : Nat} {l : List Oyez.Chg} {v : AV} (h : OwnC asIs lo S l v) (hf : l.length ≤ 2 ^ 40) (hw : ∀ c ∈ l, c.old.length ≤ 2 ^ 40 ∧ c.new.length ≤ 2 ^ 40) : ACalls Tryz.prog 42 [v, chgsAV l] S fun v s => v = .bool true ∧ s = S := by
  have k := calike_calls l l hf hw
  simp only [decide_true] at k
  refine APure.lend k rfl (fun i x y hx hy => ?_) (fun C C' c hv => ?_)
  · match i, hx, hy with
    | 0, hx, hy => simp only [List.getElem?_cons_zero, Option.some.injEq] at hx hy; subst hx; subst hy; exact h.fz
    | 1, hx, hy => simp only [List.getElem?_cons_zero, List.getElem?_cons_succ, Option.some.injEq] at hx hy; subst hx; subst hy; exact fz_chgsAV _ _ _
    | i + 2, hx, _ => simp at hx
  · cases hv; exact .bool _
/-- one object as it is, the others with other values in as many cells -/
structure Keep2 (r : Nat) (τ τ' : Heap) : Prop where
  out : r < τ.length → τ'[r]? = τ[r]?
  cells : ∀ (q : Nat) (cs : List AV), τ[q]? = some (.cells cs) → ∃ cs', τ'[q]? = some (.cells cs') ∧ cs'.length = cs.length
  len : τ.length ≤ τ'.length
theorem Keep2.refl (r : Nat) (τ : Heap) : Keep2 r τ τ := ⟨fun _ => rfl, fun q cs h => ⟨cs, h, rfl⟩, Nat.le_refl _⟩
theorem Keep2.app {r : Nat} {τ τ' : Heap} (h : Keep2 r τ τ') (g : Heap) : Keep2 r τ (τ' ++ g) := by
  have hl := h.len
  refine ⟨fun h1 => ?_, fun r cs h1 => ?_, by rw [List.length_append]; omega⟩
  · rw [List.getElem?_append_left (by omega)]; exact h.out h1
  · obtain ⟨cs', h2, h3⟩ := h.cells r cs h1
    exact ⟨cs', get_app h2, h3⟩
theorem Keep2.set {r : Nat} {τ τ' : Heap} (h : Keep2 r τ τ') {q : Nat} {cs cs' : List AV} (h1 : q ≠ r) (hq : τ'[q]? = some (.cells cs)) (hl : cs'.length = cs.length) : Keep2 r τ (τ'.set q (.cells cs')) := by
  refine ⟨fun g1 => ?_, fun p ds g1 => ?_, by rw [List.length_set]; exact h.len⟩
  · rw [List.getElem?_set_ne h1]; exact h.out g1
  · obtain ⟨ds', g2, g3⟩ := h.cells p ds g1
    by_cases e : q = p
    · subst e
      rw [hq] at g2
      obtain rfl : cs = ds' := by simpa using g2
      exact ⟨cs', List.getElem?_set_self (List.getElem?_eq_some_iff.1 hq).1, by omega⟩
    · exact ⟨ds', by rw [List.getElem?_set_ne e]; exact g2, g3⟩
end Ab
