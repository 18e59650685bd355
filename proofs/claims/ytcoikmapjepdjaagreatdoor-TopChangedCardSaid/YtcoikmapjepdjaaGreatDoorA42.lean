/-
  TopChanged: words as numbers, how far words are from each other, a change that is looked for.
-/
import Derived.Test.YtcoikmapjepdjaaGreatDoorA39
import Derived.Test.YtcoikmapjepdjaaGreatDoorA41
import Derived.Test.YtcoikmapjepdjaaGreatDoorA33
import Derived.Test.YtcoikmapjepdjaaGreatDoorA35
set_option linter.unusedSimpArgs false
set_option linter.unusedVariables false
set_option linter.unusedSectionVars false
namespace Ab
open Go Go.RowKit Go.Proofs
section
variable [Mode]
variable {P : Program}
/-- what an old object may have become, when new ones are forgotten -/
def Turned (n : Nat) (S : Heap) (o : AObj) : Prop := (∃ cs, o = .cells cs ∧ ∀ y ∈ cs, Fz n S y y) ∨ ∃ es, o = .map es ∧ ∀ e ∈ es, Fz n S e.1 e.1 ∧ Fz n S e.2 e.2
theorem Inv.frzM {C₀ C : Ctx} {σ τ g : Heap} (hI₀ : Inv C₀ σ) (hE : Ext C₀ C) (hI : Inv C (τ ++ g)) (hlt : τ.length = σ.length)
    (hold : ∀ (r : Nat) (o : AObj), τ[r]? = some o → σ[r]? = some o ∨ Turned τ.length (τ ++ g) o) : Inv (C.frz τ.length (τ ++ g)) τ := by
  have hlen := hI.len
  have hlen₀ := hI₀.len
  simp at hlen
  have hb : ∀ r b, (C.frz τ.length (τ ++ g)).blk[r]? = some b → C.blk[r]? = some b ∧ r < τ.length := by
    intro r b hr
    simp only [Ctx.frz] at hr
    rcases Nat.lt_or_ge r τ.length with h | h
    · rw [List.getElem?_take_of_lt h] at hr; exact ⟨hr, h⟩
    · rw [List.getElem?_eq_none (by simp; omega)] at hr; cases hr
  have up : ∀ (r : Nat) (o : AObj), r < τ.length → τ[r]? = some o → (τ ++ g)[r]? = some o := fun r o h1 h2 => by rw [List.getElem?_append_left h1]; exact h2
  refine ⟨by simp [Ctx.frz, hlen], hI.glob, hI.base, fun b hb => .inl (hI.basep b hb), fun b hb => ?_, fun r b o hr ho hl => ?_, fun r1 r2 b o1 o2 h1 h2 ho1 ho2 hl1 hl2 => ?_⟩
  · rcases hb with hb | ⟨r, o, _, h1, h2, h3⟩
    · exact hI.plt b hb
    · obtain ⟨_, c, hc, _⟩ := hI.live r b o h1 h2 h3
      exact (Array.getElem?_eq_some_iff.1 hc).1
  · obtain ⟨h1, h2⟩ := hb r b hr
    obtain ⟨hnp, c, hc, hR⟩ := hI.live r b o h1 (up r o h2 ho) hl
    refine ⟨?_, c, hc, ?_⟩
    · rintro (hp | ⟨r', o', g1, g2, g3, g4⟩)
      · exact hnp hp
      · have := hI.inj r r' b o o' h1 g2 (up r o h2 ho) g3 hl g4
        omega
    · rcases hold r o ho with ho | ⟨cs, rfl, hz⟩ | ⟨es, rfl, hz⟩
      · have h0 : C₀.blk[r]? = some (C₀.blk[r]'(by omega)) := List.getElem?_eq_getElem (by omega)
        obtain ⟨_, c₀, _, hR₀⟩ := hI₀.live r _ o h0 ho hl
        exact hR₀.frz_old (by omega) hR
      · cases hR with
        | cells _ vs e lo hi q1 q2 q3 =>
          refine .cells cs vs e lo hi q1 q2 fun i x v hx hv => ?_
          exact (q3 i x v hx hv).frz hI (hz x (List.mem_of_getElem? hx))
      · cases hR with
        | map _ ces clock q1 q2 =>
          refine .map es ces clock q1 fun i x e hx he => ?_
          have := q2 i x e hx he
          exact ⟨this.1.frz hI (hz x (List.mem_of_getElem? hx)).1, this.2.frz hI (hz x (List.mem_of_getElem? hx)).2⟩
  · obtain ⟨h1, h1'⟩ := hb r1 b h1
    obtain ⟨h2, h2'⟩ := hb r2 b h2
    exact hI.inj r1 r2 b o1 o2 h1 h2 (up _ _ h1' ho1) (up _ _ h2' ho2) hl1 hl2
/-- **A CALL WHOSE OWN OBJECTS ARE FORGOTTEN, an old one having turned (a map too).** -/
theorem ACalls.forgetM {f : FuncId} {args : List AV} {σ : Heap} {R : AV → Heap → Prop} (h : ACalls P f args σ fun v σ' => ∃ τ g v', σ' = τ ++ g ∧ τ.length = σ.length ∧
      (∀ (r : Nat) (o : AObj), τ[r]? = some o → σ[r]? = some o ∨ Turned τ.length (τ ++ g) o) ∧ Fz τ.length σ' v v' ∧ R v' τ) : ACalls P f args σ R := by
  have ext : ∀ {C C' : Ctx} {τ g : Heap}, Inv C σ → Ext C C' → τ.length = σ.length → Ext C (C'.frz τ.length (τ ++ g)) := by
    intro C C' τ g hI hE hl
    obtain ⟨e, he⟩ := hE.blk
    have hl0 := hI.len
    exact ⟨hE.w0, ⟨[], by simp only [Ctx.frz]; rw [he, List.append_nil, hl, ← hl0, List.take_left]⟩, fun b hb => .inl (hE.pers b hb), hE.keep, hE.shape, hE.size, hE.drawn⟩
  rcases h with h | h
  · refine .inl ⟨h.1, fun C cargs hI hv => (h.2 C cargs hI hv).mono ?_⟩
    rintro e w' ⟨v, C', av, σ', rfl, rfl, hE, hI', hv', τ, g, v', rfl, hl, ho, hf, hR⟩
    exact ⟨v, C'.frz τ.length (τ ++ g), v', τ, rfl, rfl, ext hI hE hl, hI.frzM hE hI' hl ho, hv'.frz hI' hf, hR⟩
  · refine .inr fun C cargs hI hv => ?_
    obtain ⟨v, C', av, σ', hr, hE, hI', hv', τ, g, v', rfl, hl, ho, hf, hR⟩ := h C cargs hI hv
    exact ⟨v, C'.frz τ.length (τ ++ g), v', τ, hr, ext hI hE hl, hI.frzM hE hI' hl ho, hv'.frz hI' hf, hR⟩
end
/-! ### words as numbers -/
abbrev W8 := List UInt8
/-- one more word, if it is new -/
def addW1 (ns : List W8) (w : W8) : List W8 := if w ∈ ns then ns else ns ++ [w]
def addW (ns l : List W8) : List W8 := l.foldl addW1 ns
/-- names: words of the list, each once -/
structure NS (ns : List W8) : Prop where
  nd : ns.Nodup
  sub : ∀ w ∈ ns, w ∈ wordL
theorem nodup_len {α : Type} [DecidableEq α] {l : List α} : ∀ {m : List α}, l.Nodup → (∀ p ∈ l, p ∈ m) → l.length ≤ m.length := by
  induction l with
  | nil => intros; simp
  | cons x t ih =>
    intro m h hs
    rw [List.nodup_cons] at h
    have hx := hs x (by simp)
    have h1 := ih (m := m.erase x) h.2 fun p hp => (List.mem_erase_of_ne (fun e : p = x => h.1 (by rw [← e]; exact hp))).2 (hs p (by simp [hp]))
    rw [List.length_erase_of_mem hx] at h1
    have : 0 < m.length := List.length_pos_of_mem hx
    simp only [List.length_cons]
    omega
theorem NS.len {ns : List W8} (h : NS ns) : ns.length ≤ 8 := nodup_len h.nd h.sub
theorem NS.nil : NS [] := ⟨List.nodup_nil, by simp⟩
theorem NS.add1 {ns : List W8} (h : NS ns) {w : W8} (hw : w ∈ wordL) : NS (addW1 ns w) := by
  unfold addW1
  split
  · exact h
  · rename_i hn
    refine ⟨List.nodup_append.2 ⟨h.nd, by simp, fun a ha b hb => ?_⟩, fun x hx => ?_⟩
    · rw [List.mem_singleton.1 hb]; rintro rfl; exact hn ha
    · rcases List.mem_append.1 hx with hx | hx
      · exact h.sub x hx
      · rw [List.mem_singleton.1 hx]; exact hw
theorem NS.add {ns : List W8} : ∀ {l : List W8}, NS ns → (∀ w ∈ l, w ∈ wordL) → NS (addW ns l) := by
  intro l
  induction l generalizing ns with
  | nil => intro h _; exact h
  | cons w t ih => intro h hw; exact ih (h.add1 (hw w (by simp))) fun x hx => hw x (by simp [hx])
theorem mem_add1 (ns : List W8) (w : W8) : w ∈ addW1 ns w := by unfold addW1; split <;> simp_all
theorem mem_add1' {ns : List W8} {w x : W8} (h : x ∈ ns) : x ∈ addW1 ns w ∧ (addW1 ns w).idxOf x = ns.idxOf x := by
  unfold addW1
  split
  · exact ⟨h, rfl⟩
  · refine ⟨by simp [h], ?_⟩
    rw [List.idxOf_append, if_pos h]
theorem mem_addW' : ∀ {l ns : List W8} {x : W8}, x ∈ ns → x ∈ addW ns l ∧ (addW ns l).idxOf x = ns.idxOf x := by
  intro l
  induction l with
  | nil => intro ns x h; exact ⟨h, rfl⟩
  | cons w t ih =>
    intro ns x h
    obtain ⟨h1, h2⟩ := mem_add1' (w := w) h
    obtain ⟨h3, h4⟩ := ih h1
    exact ⟨h3, h4.trans h2⟩
theorem mem_addW : ∀ {l ns : List W8} {x : W8}, x ∈ l → x ∈ addW ns l := by
  intro l
  induction l with
  | nil => intro ns x h; simp at h
  | cons w t ih =>
    intro ns x h
    rcases List.mem_cons.1 h with rfl | h
    · exact (mem_addW' (mem_add1 ns x)).1
    · exact ih h
def numW (ns : List W8) (w : W8) : Int := ns.idxOf w
theorem addW_snoc (ns l : List W8) (w : W8) : addW ns (l ++ [w]) = addW1 (addW ns l) w := by unfold addW; rw [List.foldl_append]; rfl
theorem num_more {ns l m : List W8} : l.map (numW (addW (addW ns l) m)) = l.map (numW (addW ns l)) := by
  refine List.map_congr_left fun x hx => ?_
  unfold numW
  rw [(mem_addW' (mem_addW hx)).2]
theorem num_inj {ns : List W8} {a b : W8} (ha : a ∈ ns) (h : numW ns a = numW ns b) : a = b := by
  unfold numW at h
  have h' : ns.idxOf a = ns.idxOf b := by omega
  have hl : ns.idxOf a < ns.length := List.idxOf_lt_length_of_mem ha
  have e1 := List.getElem_idxOf hl
  have hl2 : ns.idxOf b < ns.length := by omega
  have e2 := List.getElem_idxOf hl2
  rw [← e1, ← e2]
  simp only [h']
theorem num_eword {ns : List W8} (h : NS ns) {w : W8} : eword (numW ns w) = true := by
  have := h.len
  have := List.idxOf_le_length (l := ns) (a := w)
  unfold eword numW
  simp
  omega
/-- the map of names -/
def entsW (ns : List W8) (e : Nat := 0) : List (AV × AV) := (ns.zipIdx e).map fun x => (AV.str x.1, AV.int .i64 x.2)
theorem entsW_len (ns : List W8) (e : Nat) : (entsW ns e).length = ns.length := by simp [entsW]
theorem entsW_snoc (ns : List W8) (w : W8) : entsW ns ++ [(AV.str w, AV.int .i64 ns.length)] = entsW (ns ++ [w]) := by
  simp [entsW, List.zipIdx_append]
theorem afindW (w : W8) : ∀ (ns : List W8) (e i : Nat), afind1 3 (.str w) (entsW ns e) i = some (if w ∈ ns then some (i + ns.idxOf w, .int .i64 ((e + ns.idxOf w : Nat) : Int)) else none) := by
  intro ns
  induction ns with
  | nil => intro e i; simp [entsW, afind1]
  | cons x t ih =>
    intro e i
    have hs : entsW (x :: t) e = (AV.str x, AV.int .i64 e) :: entsW t (e + 1) := by simp [entsW]
    rw [hs]
    unfold afind1
    by_cases h : w = x
    · subst h
      simp [aeq1]
    · have hb : aeq1 3 (.str w) (.str x) = some false := by simp [aeq1, h]
      rw [hb]
      simp only
      rw [ih]
      have hx : ¬ x = w := fun e => h e.symm
      by_cases hm : w ∈ t
      · have hi : (x :: t).idxOf w = t.idxOf w + 1 := by rw [List.idxOf_cons]; simp [hx]
        rw [if_pos hm, if_pos (by simp [hm]), hi]
        simp only [Option.some.injEq, Prod.mk.injEq, AV.int.injEq, true_and]
        omega
      · rw [if_neg hm, if_neg (by simp [hm, h])]
attribute [local irreducible] aws awp aw1 Og Om Oc Oa Ogd Ov Ot awd aw1d awh aw1h Ogh Ohd awl Ogl Ohl awv Ogv Ohv QThen QBlock QFn QFnM QRo QBe ACode AYield
/-! ### the law's own functions -/
/-- no change -/
def chgZ : AV := .agg [.int .i64 0, .int .i64 0, .bool false, .bool false, .nils, .nils]
theorem toP_calls (c d : Oyez.Chg) (σ : Heap) (r : Nat) (h : σ[r]? = some (.cells [.int .i64 c.kind, .int .i64 c.number, .bool c.had, .bool c.has, wordsAV c.old, wordsAV c.new])) :
    ACalls Tryz.prog 34 [chgAV d, .ptr r 0] σ fun v s => v = .bool (decide (d.place = c.place)) ∧ s = σ := by
  refine ACalls.forget ?_
  refine acalls_fn Tryz.func34 rfl (enters_fn Tryz.func34 (by decide) rfl) ?_
  have h' : ∀ X : Heap, (σ ++ X)[r]? = σ[r]? := fun X => by rw [List.getElem?_append_left (List.getElem?_eq_some_iff.1 h).1]
  have e : decide (d.place = c.place) = (decide (d.kind = c.kind) && decide (d.number = c.number)) := by
    simp only [Oyez.Chg.place, Oyez.Place.mk.injEq, Bool.decide_and]
  rw [e]
  by_cases h1 : d.kind = c.kind <;> by_cases h2 : d.number = c.number <;> simp [Tryz.ntmps34, h', h, h1, h2]
theorem idxC_calls (l : List Oyez.Chg) (c : Oyez.Chg) (hl : l.length ≤ 2 ^ 40) (σ : Heap) (r : Nat) (h : σ[r]? = some (.cells [.int .i64 c.kind, .int .i64 c.number, .bool c.had, .bool c.has, wordsAV c.old, wordsAV c.new])) :
    ACalls Tryz.prog 33 [chgsAV l, .fn (.func 34) [] [.ptr r 0]] σ fun v s => v = .int .i64 (idxI l fun d => decide (d.place = c.place)) ∧ s = σ := by
  refine acalls_fn Tryz.func33 rfl (enters_fn Tryz.func33 (by decide) rfl) ?_
  simp [Tryz.ntmps33]
  refine ACode_loopT (fun env σ' => ∃ (u : List AV) (i : Nat), env = { t := u } ∧ u.length = 19 ∧ tg u 0 = chgsAV l ∧ tg u 1 = .fn (.func 34) [] [.ptr r 0] ∧ tg u 7 = .int .i64 l.length ∧ tg u 8 = .int .i64 i ∧ σ' = σ ∧ i ≤ l.length ∧ ∀ x ∈ l.take i, decide (x.place = c.place) = false)
    (fun env _ => match tg env.t 8 with | .int _ i => l.length - i.toNat | _ => 0) ⟨_, 0, rfl, by simp, by simp, by simp, by simp, by simp, rfl, by omega, fun x hx => by simp at hx⟩ ?_
  rintro env σ' ⟨u, i, rfl, hl0, g0, g1, g7, g8, rfl, hi, hd⟩
  rcases Nat.lt_or_ge i l.length with hlt | hge
  · have hlt' : (i : Int) < (l.length : Int) := by omega
    simp [hl0, g0, g1, g7, g8, hlt', hlt]
    refine StA.of ((toP_calls c l[i] σ' r h).mono ?_)
    rintro v σ'' ⟨rfl, rfl⟩
    cases hx : decide (l[i].place = c.place) with
    | false =>
      have hw1 := w64 (n := (i : Int) + 1) (by omega) (by omega)
      simp [hl0, g0, g1, g7, g8, hw1]
      exact ⟨⟨i + 1, by simp, hlt, by simpa using take_false hlt hd hx⟩, by omega⟩
    | true =>
      simp [hl0, g0, g1, g7, g8, idxI_at hlt hd hx]
  · have hge' : ¬ (i : Int) < (l.length : Int) := by omega
    rw [List.take_of_length_le hge] at hd
    simp [hl0, g0, g1, g7, g8, hge', idxI_none hd]
theorem idxI_find {l : List Oyez.Chg} {p : Oyez.Chg → Bool} : (idxI l p = -1 ∧ l.find? p = none) ∨ ∃ (i : Nat) (h : i < l.length), idxI l p = i ∧ l.find? p = some l[i] := by
  unfold idxI
  cases hf : l.findIdx? p with
  | none =>
    refine .inl ⟨rfl, ?_⟩
    rw [List.find?_eq_none]
    rw [List.findIdx?_eq_none_iff] at hf
    intro x hx
    simp [hf x hx]
  | some i =>
    rw [List.findIdx?_eq_some_iff_getElem] at hf
    obtain ⟨h, h1, h2⟩ := hf
    refine .inr ⟨i, h, rfl, ?_⟩
    rw [List.find?_eq_some_iff_getElem]
    exact ⟨h1, i, h, rfl, fun j hj => by simpa using h2 j hj⟩
/-- a change at the same place -/
theorem to_calls (l : List Oyez.Chg) (c : Oyez.Chg) (hl : l.length ≤ 2 ^ 40) :
    APure Tryz.prog 32 [chgsAV l, chgAV c] (.tup [match Oyez.findC l c.place with | some d => chgAV d | none => chgZ, .bool (Oyez.findC l c.place).isSome]) := by
  refine APure.of fun σ => ?_
  refine acalls_fn Tryz.func32 rfl (enters_fn Tryz.func32 (by decide) rfl) ?_
  simp [Tryz.ntmps32]
  refine StA.of ((idxC_calls l c hl _ σ.length (by simp)).mono ?_)
  rintro v s ⟨rfl, rfl⟩
  unfold Oyez.findC
  have hd : (fun d : Oyez.Chg => decide (d.place = c.place)) = fun d => decide (d.place = c.place) := rfl
  rcases idxI_find (l := l) (p := fun d => decide (d.place = c.place)) with ⟨h1, h2⟩ | ⟨i, hi, h1, h2⟩
  · rw [h1, h2]
    simp [chgZ]
    exact .nils
  · rw [h1, h2]
    have : ¬ (i : Int) < 0 := by omega
    simp [this, hi]
/-- where the names lie -/
structure NamesAt (σ : Heap) (t m : Nat) (ns : List W8) : Prop where
  var : σ[t]? = some (.cells [.mp m])
  map : σ[m]? = some (.map (entsW ns))
theorem names_turned (σ : Heap) (m : Nat) (ns : List W8) (g : Heap) : ∀ (r : Nat) (o : AObj), (σ.set m (.map (entsW ns)))[r]? = some o → σ[r]? = some o ∨ Turned (σ.set m (.map (entsW ns))).length (σ.set m (.map (entsW ns)) ++ g) o := by
  intro r o ho
  rw [List.getElem?_set] at ho
  split at ho
  · split at ho
    · cases ho
      refine .inr (.inr ⟨_, rfl, fun e he => ?_⟩)
      unfold entsW at he
      obtain ⟨x, _, rfl⟩ := List.mem_map.1 he
      exact ⟨.str _, .int _ _⟩
    · cases ho
  · exact .inl ho
/-- the names, and the numbers, when so many words are numbered -/
def namesTo (ns l : List W8) (i : Nat) : List W8 := addW ns (l.take i)
def numsTo (ns l : List W8) (i : Nat) : List AV := (l.take i).map fun w => AV.int .i64 (numW (namesTo ns l i) w)
set_option maxHeartbeats 2000000 in
theorem numbered_calls (l : List W8) (hl : ∀ w ∈ l, w ∈ wordL) (hn : l.length ≤ 6) (σ : Heap) (t m : Nat) (ns : List W8) (h : NamesAt σ t m ns) (hN : NS ns) :
    ACalls Tryz.prog 29 [wordsAV l, .ptr t 0] σ fun v s => v = R1 (l.map (numW (addW ns l))) ∧ s = σ.set m (.map (entsW (addW ns l))) := by
  refine ACalls.forgetM ?_
  have ht := (List.getElem?_eq_some_iff.1 h.var).1
  have hm := (List.getElem?_eq_some_iff.1 h.map).1
  have htm : t ≠ m := fun e => by
    have h1 := h.var
    rw [e, h.map] at h1
    cases h1
  have hst : ∀ (o : AObj) (X : Heap), (σ.set m o ++ X)[t]? = some (.cells [.mp m]) := fun o X => by
    rw [List.getElem?_append_left (by simpa using ht), List.getElem?_set, if_neg (fun e => htm e.symm)]
    exact h.var
  have hsm : ∀ (o : AObj) (X : Heap), (σ.set m o ++ X)[m]? = some o := fun o X => by
    rw [List.getElem?_append_left (by simpa using hm), List.getElem?_set, if_pos rfl, if_pos hm]
  have hss : ∀ (o o' : AObj) (X : Heap), (σ.set m o ++ X).set m o' = σ.set m o' ++ X := fun o o' X => by
    rw [List.set_append_left _ _ (by simpa using hm), List.set_set]
  have h0 : σ = σ.set m (.map (entsW (namesTo ns l 0))) ++ [] := by
    rw [List.append_nil]
    apply List.ext_getElem?
    intro i
    rw [List.getElem?_set]
    split
    · rename_i e; subst e; first | exact h.map | (simp only [hm, if_true]; exact h.map)
    · rfl
  refine acalls_fn Tryz.func29 rfl (enters_fn Tryz.func29 (by decide) rfl) ?_
  simp [Tryz.ntmps29]
  refine ACode_loopT (fun env σ' => ∃ (u : List AV) (i : Nat) (v : AV) (g : Heap) (o : Option Nat), env = { t := u } ∧ u.length = 36 ∧ tg u 1 = .ptr t 0 ∧ tg u 4 = v ∧ tg u 9 = wordsAV l ∧ tg u 10 = .int .i64 l.length ∧ tg u 11 = .int .i64 i ∧ i ≤ l.length ∧
      Acc (σ.set m (.map (entsW (namesTo ns l i)))) g 1 v (numsTo ns l i) o ∧ σ' = σ.set m (.map (entsW (namesTo ns l i))) ++ g)
    (fun env _ => match tg env.t 11 with | .int _ i => l.length - i.toNat | _ => 0) ⟨_, 0, .nils, [], none, rfl, by simp, by simp, by simp, by simp, by simp, by simp, by omega, .nil _ _ _, h0⟩ ?_
  rintro env σ' ⟨u, i, v, g, o, rfl, hl0, g1, g4, g9, g10, g11, hi, hA, rfl⟩
  have hNi : NS (namesTo ns l i) := hN.add fun w hw => hl w (List.mem_of_mem_take hw)
  have hlen := hNi.len
  obtain ⟨nsi, hnsi⟩ : ∃ x, namesTo ns l i = x := ⟨_, rfl⟩
  rcases Nat.lt_or_ge i l.length with hlt | hge
  · have hlt' : (i : Int) < (l.length : Int) := by omega
    have hw1 := w64 (n := (i : Int) + 1) (by omega) (by omega)
    have htk := List.take_succ_eq_append_getElem hlt
    have hadd : namesTo ns l (i + 1) = addW1 nsi l[i] := by unfold namesTo at hnsi ⊢; rw [htk, addW_snoc, hnsi]
    have hf := afindW l[i] nsi 0 0
    have hnum : numsTo ns l (i + 1) = numsTo ns l i ++ [.int .i64 ((addW1 nsi l[i]).idxOf l[i] : Nat)] := by
      unfold numsTo
      rw [hadd, hnsi, htk, List.map_append]
      congr 1
      refine List.map_congr_left fun x hx => ?_
      have hx' : x ∈ nsi := by rw [← hnsi]; exact mem_addW hx
      unfold numW
      rw [(mem_add1' hx').2]
    have hni : (numsTo ns l i).length ≤ 6 := by unfold numsTo; simp; omega
    rw [hnsi] at hA hNi hlen
    rw [hnsi]
    have hlen1 := (hNi.add1 (hl _ (List.getElem_mem hlt))).len
    have hel : (entsW nsi).length = nsi.length := entsW_len _ _
    have hA1 : Acc (σ.set m (.map (entsW (addW1 nsi l[i])))) g 1 v (numsTo ns l i) o := hA.len_eq (τ := σ.set m (.map (entsW (addW1 nsi l[i])))) (by simp)
    have hf2 := afindW l[i] (addW1 nsi l[i]) 0 0
    rw [if_pos (mem_add1 _ _)] at hf2
    obtain ⟨v', g', o', he, hA', _⟩ := (hA1.push (P := Tryz.prog) (t := 32) (e := 3) (ag := false) (x := .int .i64 ((addW1 nsi l[i]).idxOf l[i] : Nat)) (by simp) (by simp) (by simp) (by omega) ⟨by simp [AV.cells], by simp [AV.cells, AV.one]⟩ (by simp; omega))
    simp [-aappend] at he
    rw [← hnum, ← hadd] at hA'
    have fin : (∃ x : Nat, (i : Int) + 1 = x ∧ x ≤ l.length ∧ ∃ y, (∃ z, Acc (σ.set m (.map (entsW (namesTo ns l x)))) y 1 v' (numsTo ns l x) z) ∧ σ.set m (.map (entsW (namesTo ns l (i + 1)))) ++ g' = σ.set m (.map (entsW (namesTo ns l x))) ++ y) ∧ l.length - (i + 1) < l.length - i :=
      ⟨⟨i + 1, by simp, by omega, g', ⟨o', hA'⟩, rfl⟩, by omega⟩
    by_cases hmem : l[i] ∈ nsi
    · rw [if_pos hmem] at hf
      have ha1 : addW1 nsi l[i] = nsi := by unfold addW1; rw [if_pos hmem]
      rw [ha1] at he
      simp [-aappend, -afind1, hl0, g1, g4, g9, g10, g11, hlt', hlt, hst, hsm, hf, hw1]
      rw [he, Om_some]
      rw [hadd, ha1] at fin
      simpa [hadd, ha1] using fin
    · rw [if_neg hmem] at hf
      have ha1 : addW1 nsi l[i] = nsi ++ [l[i]] := by unfold addW1; rw [if_neg hmem]
      have hrem : (nsi.length : Int).tmod 10 = nsi.length := Int.tmod_eq_of_lt (by omega) (by omega)
      have hsn : entsW nsi ++ [(AV.str l[i], AV.int .i64 nsi.length)] = entsW (addW1 nsi l[i]) := by rw [ha1, entsW_snoc]
      simp [-aappend, -afind1, hl0, g1, g4, g9, g10, g11, hlt', hlt, hst, hsm, hss, hf, hel, hw1, hrem, hsn, hf2]
      rw [he, Om_some]
      rw [hadd] at fin
      simpa [hadd] using fin
  · have hge' : ¬ (i : Int) < (l.length : Int) := by omega
    obtain rfl : i = l.length := by omega
    have e1 : namesTo ns l l.length = addW ns l := by unfold namesTo; rw [List.take_length]
    have e2 : numsTo ns l l.length = l.map fun w => AV.int .i64 (numW (addW ns l) w) := by unfold numsTo; rw [e1, List.take_length]
    rw [e1, e2] at hA
    rw [e1]
    have hfz := hA.fz fun x hx y hy => by
      obtain ⟨w, _, rfl⟩ := List.mem_map.1 hx
      simp [AV.cells] at hy
      subst hy
      exact .int _ _
    simp at hfz
    simp [hl0, g1, g4, g9, g10, g11]
    refine ⟨_, g, rfl, by simp, names_turned σ m _ _, _, by simpa using hfz, by simp [Function.comp_def], rfl⟩
theorem fz_R1 (n : Nat) (σ : Heap) (X : List Int) : Fz n σ (R1 X) (R1 X) := .pl 1 _ fun i x hx j y hy => by
  have hm := List.mem_of_getElem? hx
  obtain ⟨w, _, rfl⟩ := List.mem_map.1 hm
  have := List.mem_of_getElem? hy
  simp [AV.cells] at this
  subst this
  exact .int _ _
/-- two texts in a row of the call's own -/
theorem fz_two (τ : Heap) (X Y : List Int) : Fz 0 (τ ++ [.cells [R1 X, R1 Y]]) (.arr 1 τ.length 0 2) (.pl 1 [R1 X, R1 Y]) := by
  refine Fz.arr 1 τ.length 0 [R1 X, R1 Y] [R1 X, R1 Y] (fun i j => ([R1 X, R1 Y][i]?).getD .any) (Nat.zero_le _) (by simp) (fun i x hx => ?_) (fun i x hx j y hy => ?_)
  · match i, hx with
    | 0, hx =>
      simp at hx; subst hx
      refine ⟨rfl, fun j y hy => ?_⟩
      match j, hy with
      | 0, hy => simp [AV.cells] at hy; subst hy; exact ⟨rfl, rfl⟩
      | j + 1, hy => simp [AV.cells] at hy
    | 1, hx =>
      simp at hx; subst hx
      refine ⟨rfl, fun j y hy => ?_⟩
      match j, hy with
      | 0, hy => simp [AV.cells] at hy; subst hy; exact ⟨rfl, rfl⟩
      | j + 1, hy => simp [AV.cells] at hy
    | i + 2, hx => simp at hx
  · match i, hx with
    | 0, hx =>
      simp at hx; subst hx
      match j, hy with
      | 0, hy => simp [AV.cells] at hy; subst hy; exact fz_R1 _ _ _
      | j + 1, hy => simp [AV.cells] at hy
    | 1, hx =>
      simp at hx; subst hx
      match j, hy with
      | 0, hy => simp [AV.cells] at hy; subst hy; exact fz_R1 _ _ _
      | j + 1, hy => simp [AV.cells] at hy
    | i + 2, hx => simp at hx
theorem far_calls (a b : List W8) (ha : ∀ w ∈ a, w ∈ wordL) (hb : ∀ w ∈ b, w ∈ wordL) (la : a.length ≤ 6) (lb : b.length ≤ 6) (σ : Heap) (t2 t m : Nat) (ns : List W8) (h2 : σ[t2]? = some (.cells [.fn (.func 29) [] [.ptr t 0]])) (h : NamesAt σ t m ns) (hN : NS ns) :
    ACalls Tryz.prog 30 [wordsAV a, wordsAV b, .ptr t2 0] σ fun v s => v = .tup [.int .i64 (Oyez.dist a b), .bool true] ∧ s = σ.set m (.map (entsW (addW (addW ns a) b))) := by
  have hm := (List.getElem?_eq_some_iff.1 h.map).1
  have ht2 := (List.getElem?_eq_some_iff.1 h2).1
  have htm : t ≠ m := fun e => by
    have h1 := h.var
    rw [e, h.map] at h1
    cases h1
  have htm2 : t2 ≠ m := fun e => by
    rw [e, h.map] at h2
    cases h2
  have hN1 := hN.add ha
  have hN2 := hN1.add hb
  have c1 := numbered_calls a ha la σ t m ns h hN
  have h' : NamesAt (σ.set m (.map (entsW (addW ns a)))) t m (addW ns a) := ⟨by rw [List.getElem?_set, if_neg (fun e => htm e.symm)]; exact h.var, by rw [List.getElem?_set]; simp [hm]⟩
  have c2 := numbered_calls b hb lb _ t m _ h' hN1
  rw [List.set_set] at c2
  have h2' : ∀ o, (σ.set m o)[t2]? = some (.cells [.fn (.func 29) [] [.ptr t 0]]) := fun o => by rw [List.getElem?_set, if_neg (fun e => htm2 e.symm)]; exact h2
  have ea : a.map (numW (addW (addW ns a) b)) = a.map (numW (addW ns a)) := num_more
  have hd : Oyez.dist (a.map (numW (addW ns a))) (b.map (numW (addW (addW ns a) b))) = Oyez.dist a b := by
    rw [← ea]
    exact Oyez.dist_map _ _ _ fun x hx y _ he => num_inj (mem_addW' (mem_addW hx)).1 he
  have wX : (a.map (numW (addW ns a))).all eword = true := by
    rw [List.all_map, List.all_eq_true]; intro w _; exact num_eword hN1
  have wY : (b.map (numW (addW (addW ns a) b))).all eword = true := by
    rw [List.all_map, List.all_eq_true]; intro w _; exact num_eword hN2
  have lX : (a.map (numW (addW ns a))).length = a.length := List.length_map _
  have lY : (b.map (numW (addW (addW ns a) b))).length = b.length := List.length_map _
  clear ea
  obtain ⟨X, hX⟩ : ∃ X, a.map (numW (addW ns a)) = X := ⟨_, rfl⟩
  obtain ⟨Y, hY⟩ : ∃ Y, b.map (numW (addW (addW ns a) b)) = Y := ⟨_, rfl⟩
  obtain ⟨τ, hτ⟩ : ∃ τ, σ.set m (.map (entsW (addW (addW ns a) b))) = τ := ⟨_, rfl⟩
  have hτl : τ.length = σ.length := by rw [← hτ]; simp
  have hturn : ∀ (g : Heap) (r : Nat) (o : AObj), τ[r]? = some o → σ[r]? = some o ∨ Turned τ.length (τ ++ g) o := fun g => by rw [← hτ]; exact names_turned σ m _ g
  rw [hX] at c1 hd wX lX
  rw [hY, hτ] at c2
  rw [hY] at hd wY lY
  rw [hτ, ← hd]
  have fin : ∀ (g : Heap) (v : AV) (d : Nat), d = Oyez.dist X Y → v = .tup [.int .i64 d, .bool true] → ∃ τ' g' v', τ ++ g = τ' ++ g' ∧ τ'.length = σ.length ∧ (∀ (r : Nat) (o : AObj), τ'[r]? = some o → σ[r]? = some o ∨ Turned τ'.length (τ' ++ g') o) ∧ Fz τ'.length (τ ++ g) v v' ∧ v' = .tup [.int .i64 (Oyez.dist X Y), .bool true] ∧ τ' = τ := by
    rintro g v d rfl rfl
    refine ⟨τ, g, _, rfl, hτl, hturn g, .tup _ _ rfl fun i x y hx hy => ?_, rfl, rfl⟩
    match i, hx, hy with
    | 0, hx, hy => simp at hx hy; subst hx; subst hy; exact .int _ _
    | 1, hx, hy => simp at hx hy; subst hx; subst hy; exact .bool _
    | i + 2, hx, _ => simp at hx
  refine ACalls.forgetM ?_
  refine acalls_fn Tryz.func30 rfl (enters_fn Tryz.func30 (by decide) rfl) ?_
  simp [Tryz.ntmps30, h2]
  refine ACode_drawL [2, 5] [(3, 0), (4, 0)] mixed (by kernel_rfl) (by kernel_rfl) ?_
  simp [h2, h2']
  refine OuH_of c1 ?_
  simp [h2, h2']
  refine OuH_of c2 ?_
  simp [h2, h2']
  have wx := w64 (n := (X.length : Int)) (by omega) (by omega)
  have wy := w64 (n := (Y.length : Int)) (by omega) (by omega)
  by_cases hx0 : X = []
  · subst hx0
    simp [wy]
    simpa using fin [] (.tup [.int .i64 (Y.length : Nat), .bool true]) Y.length (by simp [Oyez.dist, Oyez.lcs_nil]) rfl
  by_cases hy0 : Y = []
  · subst hy0
    simp [hx0, wx]
    simpa using fin [] (.tup [.int .i64 (X.length : Nat), .bool true]) X.length (by simp [Oyez.dist, Oyez.lcs_nil']) rfl
  have hx1 : 1 ≤ X.length := List.length_pos_iff.2 hx0
  have hy1 : 1 ≤ Y.length := List.length_pos_iff.2 hy0
  simp [hx0, hy0]
  have hdc : ACalls Tryz.prog 31 [.agg [.arr 1 τ.length 0 2, .nils, .int .i64 0], .int .i64 0, .int .i64 1] (τ ++ [.cells [R1 X, R1 Y]]) fun v s => v = .tup [.int .i64 (Oyez.dist X Y), .int .i64 0] ∧ s = τ ++ [.cells [R1 X, R1 Y]] := by
    refine APure.lend (distance_calls X Y ⟨hx1, by omega⟩ ⟨hy1, by omega⟩ wX wY) rfl (fun i x y hx hy => ?_) (fun C C' c hv => ?_)
    · match i, hx, hy with
      | 0, hx, hy =>
        simp only [List.getElem?_cons_zero, Option.some.injEq] at hx hy
        subst hx; subst hy
        exact Fz.agg_iff.2 (FzL.cons_iff.2 ⟨fz_two τ X Y, FzL.cons_iff.2 ⟨.nils_pl 1, FzL.cons_iff.2 ⟨.int _ _, FzL.nil_iff.2 trivial⟩⟩⟩)
      | 1, hx, hy => simp at hx hy; subst hx; subst hy; exact .int _ _
      | 2, hx, hy => simp at hx hy; subst hx; subst hy; exact .int _ _
      | i + 3, hx, _ => simp at hx
    · obtain ⟨ds, rfl, hds⟩ := hv.tup_inv
      refine .tup _ ds hds.len fun i x d hx hd => ?_
      match i, hx with
      | 0, hx => simp at hx; subst hx; have := hds.at_ 0 _ d rfl hd; cases this; exact .int _ _
      | 1, hx => simp at hx; subst hx; have := hds.at_ 1 _ d rfl hd; cases this; exact .int _ _
      | i + 2, hx => simp at hx
  refine StA.of (hdc.mono ?_)
  rintro v s ⟨rfl, rfl⟩
  simp
  simpa using fin [.cells [R1 X, R1 Y]] _ _ rfl rfl
end Ab
