/-
  THE REFERENCE: are two places alike; two copies joined.
  THE REFERENCE: two copies joined.
  COPIES: what is looked at (long, great), records as the reference's, lists copied, choices compared: the law's own functions.
  CHANGES: the law's own functions on them.
  THE REFERENCE: two copies joined, the walk.
-/
import Derived.Test.YtdifgaapdnbliaaGreatDoorL24
import Derived.Test.YtdifgaapdnbliaaGreatDoorL15
import Derived.Test.YtdifgaapdnbliaaGreatDoorL14
set_option linter.unusedSimpArgs false
set_option linter.unusedVariables false
set_option linter.unusedSectionVars false
namespace Oyez
theorem st_eq (x y : St) : x = y ↔ x.isSome = y.isSome ∧ x.getD [] = y.getD [] := by
  cases x <;> cases y <;> simp
/-- the places ahead of one -/
def upTo (k n : Nat) : List Place := allPlaces.take (1000 * k + n)
/-- the join of the places ahead of one -/
def joinTo (base a b : List Rec) (second : List Bool) (k n : Nat) : Jn := (upTo k n).foldl (joinAt base a b second) ⟨[], []⟩
theorem join_len (base a b : List Rec) (s : List Bool) : ∀ (l : List Place) (x : Jn), (l.foldl (joinAt base a b s) x).out.length ≤ x.out.length + l.length ∧ (l.foldl (joinAt base a b s) x).conf.length ≤ x.conf.length + l.length := by
  intro l
  induction l with
  | nil => intro x; simp
  | cons p t ih =>
    intro x
    have h1 := ih (joinAt base a b s x p)
    have h2 := joinAt_len base a b s x p
    rw [List.foldl_cons, List.length_cons]
    omega
end Oyez
namespace Ab
open Go Go.RowKit Go.Proofs
attribute [local irreducible] aws awp aw1 Og Om Oc Oa Ogd Ov Ot awd aw1d QThen QBlock QFn QFnM ACode AYield
/-- a change -/
def chgAV (c : Oyez.Chg) : AV := .agg [.int .i64 c.kind, .int .i64 c.number, .bool c.had, .bool c.has, wordsAV c.old, wordsAV c.new]
def chgsAV (l : List Oyez.Chg) : AV := .pl 6 (l.map chgAV)
attribute [simp] chgAV chgsAV
end Ab
namespace Oyez
def putJ (J : Jn) (p : Place) (w : St) : Jn := ⟨match w with | some ws => J.out ++ [⟨p.kind, p.number, ws⟩] | none => J.out, J.conf⟩
/-- what a conflict has -/
def pickJ (second : List Bool) (i : Nat) (x y z : St) : St := match second[i]? with | none => x | some c => if c then z else y
def stepJ (x y z : St) (second : List Bool) (p : Place) (J : Jn) : Jn :=
  if y = z ∨ z = x then putJ J p y else if y = x then putJ J p z else putJ ⟨J.out, J.conf ++ [chg p y z]⟩ p (pickJ second J.conf.length x y z)
theorem joinAt_step (base a b : List Rec) (second : List Bool) (J : Jn) (p : Place) : joinAt base a b second J p = stepJ (getIn base p) (getIn a p) (getIn b p) second p J := rfl
theorem stepJ_same {x y z : St} {second : List Bool} {p : Place} {J : Jn} (h : y = z) : stepJ x y z second p J = putJ J p y := if_pos (.inl h)
theorem stepJ_zx {x y z : St} {second : List Bool} {p : Place} {J : Jn} (h : z = x) : stepJ x y z second p J = putJ J p y := if_pos (.inr h)
theorem stepJ_yx {x y z : St} {second : List Bool} {p : Place} {J : Jn} (h : ¬ y = z) (h2 : y = x) : stepJ x y z second p J = putJ J p z := by
  unfold stepJ
  rw [if_neg, if_pos h2]
  rintro (h3 | h3)
  · exact h h3
  · exact h (h2.trans h3.symm)
theorem stepJ_clash {x y z : St} {second : List Bool} {p : Place} {J : Jn} (h : ¬ y = z) (h2 : ¬ y = x) (h3 : ¬ z = x) : stepJ x y z second p J = putJ ⟨J.out, J.conf ++ [chg p y z]⟩ p (pickJ second J.conf.length x y z) := by
  unfold stepJ
  rw [if_neg (by rintro (h4 | h4); exact h h4; exact h3 h4), if_neg h2]
end Oyez
namespace Ab
open Go Go.RowKit Go.Proofs
attribute [local irreducible] aws awp aw1 Og Om Oc Oa Ogd Ov Ot awd aw1d QThen QBlock QFn QFnM ACode AYield
def chgCells (c : Oyez.Chg) : List AV := [.int .i64 c.kind, .int .i64 c.number, .bool c.had, .bool c.has, wordsAV c.old, wordsAV c.new]
structure JS (σ : Heap) (J : Oyez.Jn) (v1 v2 : AV) (g : Heap) : Prop where
  ex : ∃ o1 o2, Acc σ g 3 v1 (J.out.map recAV) o1 ∧ Acc σ g 6 v2 (J.conf.map chgAV) o2 ∧ ∀ j, o1 = some j → o2 = some j → False
theorem Acc.lt {σ g : Heap} {k : Nat} {v : AV} {l : List AV} {j : Nat} (h : Acc σ g k v l (some j)) : j < g.length := (List.getElem?_eq_some_iff.1 h.val.2).1
theorem Acc.keep {σ g g' : Heap} {k : Nat} {v : AV} {l : List AV} {o : Option Nat} (h : Acc σ g k v l o) (hk : ∀ j, o = some j → g'[j]? = g[j]?) : Acc σ g' k v l o := ⟨h.len, by
  have hv := h.val
  cases o with
  | none => exact hv
  | some j => exact ⟨hv.1, by rw [hk j rfl]; exact hv.2⟩⟩
theorem JS.put {σ : Heap} {J : Oyez.Jn} {v1 v2 : AV} {g : Heap} (h : JS σ J v1 v2 g) (hl : J.out.length ≤ 2 ^ 40) (r : Oyez.Rec) :
    ∃ v1' g', aappend Tryz.prog #[27, 27] v1 (.arr 3 (σ.length + g.length) 0 1) (σ ++ (g ++ [.cells (recCells r)])) = some (v1', σ ++ g') ∧ JS σ ⟨J.out ++ [r], J.conf⟩ v1' v2 g' := by
  obtain ⟨o1, o2, h1, h2, h3⟩ := h.ex
  obtain ⟨v', g', o', he, hA', hgl, hkeep, ho⟩ := h1.push (P := Tryz.prog) (t := 27) (e := 96) (ag := true) (x := recAV r) (by simp) (by simp) (by simp) (by omega) ⟨by simp [AV.cells], by simp [AV.cells, AV.one]⟩ (by simp; omega)
  refine ⟨v', g', he, ⟨o', o2, by simpa using hA', h2.keep fun j hj => ?_, fun j hj hj2 => ?_⟩⟩
  · subst hj
    exact hkeep j (fun e => h3 j e.symm rfl) h2.lt
  · subst hj2
    have hlt := h2.lt
    rcases ho with rfl | ⟨m, hm, rfl⟩
    · exact h3 j hj rfl
    · simp only [Option.some.injEq] at hj; omega
theorem JS.clash {σ : Heap} {J : Oyez.Jn} {v1 v2 : AV} {g : Heap} (h : JS σ J v1 v2 g) (hl : J.conf.length ≤ 2 ^ 40) (c : Oyez.Chg) :
    ∃ v2' g', aappend Tryz.prog #[44, 44] v2 (.arr 6 (σ.length + g.length) 0 1) (σ ++ (g ++ [.cells (chgCells c)])) = some (v2', σ ++ g') ∧ JS σ ⟨J.out, J.conf ++ [c]⟩ v1 v2' g' := by
  obtain ⟨o1, o2, h1, h2, h3⟩ := h.ex
  obtain ⟨v', g', o', he, hA', hgl, hkeep, ho⟩ := h2.push (P := Tryz.prog) (t := 44) (e := 57) (ag := true) (x := chgAV c) (by simp) (by simp) (by simp) (by omega) ⟨by simp [AV.cells], by simp [AV.cells, AV.one]⟩ (by simp; omega)
  refine ⟨v', g', he, ⟨o1, o', h1.keep fun j hj => ?_, by simpa using hA', fun j hj hj2 => ?_⟩⟩
  · subst hj
    exact hkeep j (fun e => h3 j rfl e.symm) h1.lt
  · subst hj
    have hlt := h1.lt
    rcases ho with rfl | ⟨m, hm, rfl⟩
    · exact h3 j rfl hj2
    · simp only [Option.some.injEq] at hj2; omega
theorem JS.len {σ : Heap} {J : Oyez.Jn} {v1 v2 : AV} {g : Heap} (h : JS σ J v1 v2 g) : alen Tryz.prog 44 v2 (σ ++ g) = some (.int .i64 J.conf.length) := by
  obtain ⟨o1, o2, h1, h2, h3⟩ := h.ex
  have hv := h2.val
  cases o2 with
  | none =>
    obtain ⟨rfl, hl⟩ := hv
    have : J.conf = [] := by simpa using hl
    simp [this]
  | some j =>
    obtain ⟨rfl, _⟩ := hv
    simp
theorem fz_chgs (n : Nat) (σ : Heap) (l : List Oyez.Chg) : ∀ x ∈ l.map chgAV, ∀ y ∈ x.cells, Fz n σ y y := fun x hx y hy => by
  obtain ⟨r, _, rfl⟩ := List.mem_map.1 hx
  simp [AV.cells] at hy
  rcases hy with rfl | rfl | rfl | rfl | rfl | rfl
  · exact .int _ _
  · exact .int _ _
  · exact .bool _
  · exact .bool _
  · exact (Fz_strs _ _ _).2 trivial
  · exact (Fz_strs _ _ _).2 trivial
end Ab
namespace Ab
open Go Go.RowKit Go.Proofs
attribute [local irreducible] aws awp aw1 Og Om Oc Oa Ogd Ov Ot awd aw1d awh aw1h Ogh Ohd awl Ogl Ohl awv Ogv Ohv QThen QBlock QFn QFnM QRo QBe ACode AYield
/-- words that are more than what is looked at -/
def longB (ws : List (List UInt8)) : Bool := ws.any (fun w => decide (90 < w.length)) || decide (10 < ws.length)
/-- records that are -/
def greatB (f : List Oyez.Rec) : Bool := f.any (fun r => longB r.words) || decide (60 < f.length)
/-- choices -/
def boolsAV (l : List Bool) : AV := .pl 1 (l.map AV.bool)
attribute [simp] boolsAV
theorem sum_const {α : Type} (l : List α) (k : Nat) (f : α → Nat) (h : ∀ a, f a = k) : (l.map f).sum = l.length * k := by
  induction l with
  | nil => simp
  | cons a t ih => rw [List.map_cons, List.sum_cons, ih, h, List.length_cons, Nat.add_mul]; omega
theorem fz_row {σ g : Heap} {k : Nat} (xs : List AV) (h : ∀ x ∈ xs, x.cells.length = k ∧ ∀ y ∈ x.cells, y.one = true) (hf : ∀ (n : Nat) (τ : Heap), ∀ x ∈ xs, ∀ y ∈ x.cells, Fz n τ y y) : Fz σ.length (σ ++ .cells (xs.flatMap AV.cells) :: g) (.arr k σ.length 0 xs.length) (.pl k xs) :=
  Acc.fz (o := some 0) ⟨h, rfl, rfl⟩ (hf _ _)
/-- the cells of records -/
def cellsR (f : List Oyez.Rec) : List AV := f.flatMap recCells
theorem cellsR_map (f : List Oyez.Rec) : (f.map recAV).flatMap AV.cells = cellsR f := by unfold cellsR; rw [List.flatMap_map]; rfl
theorem cellsR_len (f : List Oyez.Rec) : (cellsR f).length = f.length * 3 := by
  unfold cellsR
  induction f with
  | nil => rfl
  | cons p t ih => rw [List.flatMap_cons, List.length_append, ih]; simp [recCells]; omega
theorem cellsR_at (f : List Oyez.Rec) {i j : Nat} (h : i < f.length) (hj : j < 3) : (cellsR f)[i * 3 + j]? = (recCells f[i])[j]? := by rw [← cellsR_map]; exact flat_rec f i j h hj
theorem cellsR_sub (f : List Oyez.Rec) {i : Nat} (h : i < f.length) : List.take 3 (List.drop (i * 3) (cellsR f)) = [.int .i64 f[i].kind, .int .i64 f[i].number, wordsAV f[i].words] := by
  apply List.ext_getElem?
  intro j
  rcases Nat.lt_or_ge j 3 with hj | hj
  · rw [List.getElem?_take_of_lt hj, List.getElem?_drop, cellsR_at f h hj]
    rfl
  · rw [List.getElem?_eq_none (by simp; omega), List.getElem?_eq_none (by simpa using hj)]
theorem cellsR_put (f : List Oyez.Rec) {i : Nat} (h : i < f.length) : List.take (i * 3 + 2) (cellsR f) ++ wordsAV f[i].words :: List.drop (i * 3 + 3) (cellsR f) = cellsR f := by
  have hl := cellsR_len f
  have h1 := cellsR_at f h (show 2 < 3 by omega)
  have hlt : i * 3 + 2 < (cellsR f).length := by omega
  rw [List.getElem?_eq_getElem hlt] at h1
  have h2 : (cellsR f)[i * 3 + 2] = wordsAV f[i].words := by simpa [recCells] using h1
  rw [← h2, ← List.drop_eq_getElem_cons hlt, List.take_append_drop]
theorem copyS_calls (l : List (List UInt8)) (hl : l.length ≤ 2 ^ 30) : APure Tryz.prog 78 [wordsAV l] (wordsAV l) := by
  refine APure.of fun σ => ?_
  refine acalls_fn Tryz.func78 rfl (enters_fn Tryz.func78 (by decide) rfl) ?_
  have h1 : (l.length : Int) * 16 ≤ 281474976710656 := by omega
  have h2 : (l.length : Int) ≤ 9223372036854775807 := by omega
  simp [Tryz.ntmps78, h1, h2]
  rw [sum_const l 1]
  case h => exact fun _ => rfl
  rw [Nat.mul_one, Nat.sub_self, List.replicate_zero, List.append_nil]
  have := fz_row (σ := σ) (g := []) (k := 1) (l.map AV.str) (fun x hx => by obtain ⟨b, _, rfl⟩ := List.mem_map.1 hx; exact ⟨rfl, by simp [AV.cells, AV.one]⟩) (fun n τ x hx y hy => by
    obtain ⟨b, _, rfl⟩ := List.mem_map.1 hx
    simp [AV.cells] at hy; subst hy; exact .str _)
  rwa [List.length_map] at this
theorem copyR_calls (f : List Oyez.Rec) (hl : f.length ≤ 2 ^ 30) (σ : Heap) : ACalls Tryz.prog 97 [fileAV f] σ fun v σ' => v = .arr 3 σ.length 0 f.length ∧ σ' = σ ++ [.cells (cellsR f)] := by
  refine acalls_fn Tryz.func97 rfl (enters_fn Tryz.func97 (by decide) rfl) ?_
  have h1 : (f.length : Int) * 40 ≤ 281474976710656 := by omega
  have h2 : (f.length : Int) ≤ 9223372036854775807 := by omega
  simp [Tryz.ntmps97, h1, h2]
  rw [sum_const f 3]
  case h => exact fun _ => rfl
  rw [List.drop_eq_nil_of_le (by simp), List.append_nil]
  exact cellsR_map f
set_option maxHeartbeats 2000000 in
theorem own_calls (f : List Oyez.Rec) (hl : f.length ≤ 2 ^ 30) (hw : ∀ r ∈ f, r.words.length ≤ 2 ^ 30) : APure Tryz.prog 28 [fileAV f] (fileAV f) := by
  refine APure.of fun σ => ?_
  refine acalls_fn Tryz.func28 rfl (enters_fn Tryz.func28 (by decide) rfl) ?_
  simp [Tryz.ntmps28]
  refine StA.of ((copyR_calls f hl σ).mono ?_)
  rintro _ _ ⟨rfl, rfl⟩
  simp
  refine ACode_loopT (fun env σ' => ∃ (u : List AV) (i : Nat) (g : Heap), env = { t := u } ∧ u.length = 24 ∧ tg u 3 = .arr 3 σ.length 0 f.length ∧ tg u 8 = .arr 3 σ.length 0 f.length ∧ tg u 9 = .int .i64 f.length ∧ tg u 10 = .int .i64 i ∧ σ' = σ ++ .cells (cellsR f) :: g ∧ i ≤ f.length)
    (fun env _ => match tg env.t 10 with | .int _ i => f.length - i.toNat | _ => 0) ⟨_, 0, [], rfl, by simp, by simp, by simp, by simp, by simp, by simp, by omega⟩ ?_
  rintro env σ' ⟨u, i, g, rfl, hl', g3, g8, g9, g10, rfl, hi⟩
  rcases Nat.lt_or_ge i f.length with hlt | hge
  · have hlt' : (i : Int) < (f.length : Int) := by omega
    have hx := w64 (n := (i : Int) + 1) (by omega) (by omega)
    have hlen := cellsR_len f
    have hs := cellsR_sub f hlt
    have hput := cellsR_put f hlt
    have hb : i * 3 + 3 ≤ f.length * 3 := by omega
    simp [hl', g3, g8, g9, g10, hlt', hlt, hlen, hs, hb]
    refine (copyS_calls f[i].words (hw _ (List.getElem_mem hlt))).use ?_
    simp [hl', g3, g8, g9, g10, hlt', hlt, hlen, hs, hb, hx]
    exact ⟨⟨i + 1, by simp, hput, by omega⟩, by omega⟩
  · have hge' : ¬ (i : Int) < (f.length : Int) := by omega
    have hA : Acc σ (.cells (cellsR f) :: g) 3 (.arr 3 σ.length 0 f.length) (f.map recAV) (some 0) := ⟨fun x hx => by
      obtain ⟨r, _, rfl⟩ := List.mem_map.1 hx
      exact ⟨rfl, by simp [AV.cells, AV.one]⟩, by simp, by rw [cellsR_map]; rfl⟩
    have hz := hA.fz (fz_recs _ _ _)
    simpa [hl', g3, g8, g9, g10, hge'] using hz
end Ab
namespace Ab
open Go Go.RowKit Go.Proofs
attribute [local irreducible] aws awp aw1 Og Om Oc Oa Ogd Ov Ot awd aw1d awh aw1h Ogh Ohd awl Ogl Ohl awv Ogv Ohv QThen QBlock QFn QFnM QRo QBe ACode AYield
/-- changes that are more than what is looked at -/
def manyB (l : List Oyez.Chg) : Bool := l.any (fun c => longB c.old || longB c.new) || decide (90 < l.length)
theorem chg_ext {r q : Oyez.Chg} (h1 : r.kind = q.kind) (h2 : r.number = q.number) (h3 : r.had = q.had) (h4 : r.has = q.has) (h5 : r.old = q.old) (h6 : r.new = q.new) : r = q := by
  cases r; cases q; simp_all
set_option maxHeartbeats 8000000 in
theorem calike_calls (a b : List Oyez.Chg) (ha : a.length ≤ 2 ^ 40) (hw : ∀ c ∈ a, c.old.length ≤ 2 ^ 40 ∧ c.new.length ≤ 2 ^ 40) : APure Tryz.prog 42 [chgsAV a, chgsAV b] (.bool (decide (a = b))) := by
  refine APure.of fun σ => ?_
  refine acalls_fn Tryz.func42 rfl (enters_fn Tryz.func42 (by decide) rfl) ?_
  by_cases hab : a.length = b.length
  · obtain ⟨n, hn⟩ : ∃ n, b.length = n := ⟨_, rfl⟩
    have han : a.length = n := hab.trans hn
    simp [Tryz.ntmps42, han, hn]
    refine ACode_loopT (fun env σ' => ∃ (u : List AV) (i : Nat) (g : Heap), env = { t := u } ∧ u.length = 67 ∧ tg u 0 = chgsAV a ∧ tg u 1 = chgsAV b ∧ tg u 13 = chgsAV a ∧ tg u 14 = .int .i64 n ∧ tg u 15 = .int .i64 i ∧ σ' = σ ++ g ∧ i ≤ n ∧ a.take i = b.take i)
      (fun env _ => match tg env.t 15 with | .int _ i => n - i.toNat | _ => 0) ⟨_, 0, [], rfl, by simp, by simp, by simp, by simp, by simp, by simp, by simp, by omega, by simp⟩ ?_
    rintro env σ' ⟨u, i, g, rfl, hl, g0, g1, g13, g14, g15, rfl, hi, hd⟩
    rcases Nat.lt_or_ge i n with hlt | hge
    · have hlt' : (i : Int) < (n : Int) := by omega
      have hx := w64 (n := (i : Int) + 1) (by omega) (by omega)
      have hia : i < a.length := by omega
      have hib : i < b.length := by omega
      have hwi := hw _ (List.getElem_mem hia)
      have hne : ¬ a[i] = b[i] → ¬ a = b := fun he h => he (by subst h; rfl)
      by_cases hk : a[i].kind = b[i].kind
      case neg =>
        have hne' := hne fun h => hk (by rw [h])
        simp [hl, g0, g1, g13, g14, g15, hlt', han, hn, hlt, hk, hne']
      by_cases hm : a[i].number = b[i].number
      case neg =>
        have hne' := hne fun h => hm (by rw [h])
        simp [hl, g0, g1, g13, g14, g15, hlt', han, hn, hlt, hk, hm, hne']
      by_cases h3 : a[i].had = b[i].had
      case neg =>
        have hne' := hne fun h => h3 (by rw [h])
        have hbb : (a[i].had != b[i].had) = true := by simpa using h3
        simp [hbb, hl, g0, g1, g13, g14, g15, hlt', han, hn, hlt, hk, hm, h3, hne']
      by_cases h4 : a[i].has = b[i].has
      case neg =>
        have hne' := hne fun h => h4 (by rw [h])
        have hbb : (a[i].has != b[i].has) = true := by simpa using h4
        simp [hbb, hl, g0, g1, g13, g14, g15, hlt', han, hn, hlt, hk, hm, h3, h4, hne']
      simp [Nat.add_assoc, hl, g0, g1, g13, g14, g15, hlt', han, hn, hlt, hk, hm, h3, h4]
      refine (like_calls _ _ hwi.1).use ?_
      by_cases h5 : a[i].old = b[i].old
      case neg =>
        have hne' := hne fun h => h5 (by rw [h])
        simp [Nat.add_assoc, hl, g0, g1, g13, g14, g15, hlt', han, hn, hlt, hk, hm, h3, h4, h5, hne']
      simp [Nat.add_assoc, hl, g0, g1, g13, g14, g15, hlt', han, hn, hlt, hk, hm, h3, h4, h5]
      refine (like_calls _ _ hwi.2).use ?_
      by_cases h6 : a[i].new = b[i].new
      case neg =>
        have hne' := hne fun h => h6 (by rw [h])
        simp [Nat.add_assoc, hl, g0, g1, g13, g14, g15, hlt', han, hn, hlt, hk, hm, h3, h4, h5, h6, hne']
      have he := chg_ext hk hm h3 h4 h5 h6
      simp [Nat.add_assoc, hl, g0, g1, g13, g14, g15, hlt', han, hn, hlt, hk, hm, h3, h4, h5, h6, hx]
      refine ⟨⟨i + 1, by simp, hlt, ?_⟩, by omega⟩
      rw [List.take_succ_eq_append_getElem hia, List.take_succ_eq_append_getElem hib, hd, he]
    · have hge' : ¬ (i : Int) < (n : Int) := by omega
      have hE : a = b := by
        rw [List.take_of_length_le (by omega), List.take_of_length_le (by omega)] at hd
        exact hd
      simp [hl, g0, g1, g13, g14, g15, hge', hE]
  · have hne : ¬ a = b := fun h => hab (by rw [h])
    have hab' : ¬ (a.length : Int) = (b.length : Int) := by omega
    simp [Tryz.ntmps42, hab', hne, hab]
end Ab
namespace Ab
open Go Go.RowKit Go.Proofs
attribute [local irreducible] aws awp aw1 Og Om Oc Oa Ogd Ov Ot awd aw1d QThen QBlock QFn QFnM ACode AYield

/-- the choices of a join: nil, or a list -/
def secAV (o : Option (List Bool)) : AV := match o with | none => .nils | some l => .pl 1 (l.map AV.bool)
end Ab
