/-
  THE REFERENCE: are two places alike; two copies joined.
  THE REFERENCE: two copies joined.
  CHANGES: the law's own functions on them.
-/
import Derived.Test.YtdifgaapdnbliaaGreatDoorR18
import Derived.Test.YtdifgaapdnbliaaGreatDoorR22
import Derived.Test.YtdifgaapdnbliaaGreatDoorR23
import Derived.Test.YtdifgaapdnbliaaGreatDoorR24
set_option linter.unusedSimpArgs false
set_option linter.unusedVariables false
set_option linter.unusedSectionVars false
namespace Oyez
theorem st_eq (x y : St) : x = y ↔ x.isSome = y.isSome ∧ x.getD [] = y.getD [] := by
  cases x <;> cases y <;> simp
/-- the places ahead of one -/
def upTo (k n : Nat) : List Place := allPlaces.take (1000 * k + n)
theorem allPlaces_len : allPlaces.length = 5000 := by
  unfold allPlaces
  rw [List.length_flatMap]
  simp
  rfl
theorem flatRow_get {α : Type} (g : Nat → Nat → α) : ∀ (m k n : Nat), k < m → n < 1000 → ((List.range m).flatMap fun k => (List.range 1000).map fun n => g k n)[1000 * k + n]? = some (g k n) := by
  intro m
  induction m with
  | zero => intro k n h; omega
  | succ m ih =>
    intro k n hk hn
    rw [List.range_succ (n := m), List.flatMap_append]
    have hl : ((List.range m).flatMap fun k => (List.range 1000).map fun n => g k n).length = 1000 * m := by
      rw [List.length_flatMap]
      simp [List.map_const', List.sum_replicate_nat]
      omega
    rcases Nat.lt_or_ge k m with h | h
    · rw [List.getElem?_append_left (by omega), ih k n h hn]
    · obtain rfl : k = m := by omega
      rw [List.getElem?_append_right (by omega), hl]
      simp only [List.flatMap_cons, List.flatMap_nil, List.append_nil]
      rw [show 1000 * k + n - 1000 * k = n by omega, List.getElem?_map, List.getElem?_range hn]
      rfl
theorem allPlaces_get {k n : Nat} (hk : k < 5) (hn : n < 1000) : allPlaces[1000 * k + n]? = some ⟨k, n⟩ := flatRow_get (fun (k n : Nat) => (⟨(k : Int), (n : Int)⟩ : Place)) 5 k n hk hn
theorem upTo_snoc {k n : Nat} (hk : k < 5) (hn : n < 1000) : upTo k (n + 1) = upTo k n ++ [⟨k, n⟩] := by
  unfold upTo
  have h := allPlaces_get hk hn
  obtain ⟨h1, h2⟩ := List.getElem?_eq_some_iff.1 h
  rw [← Nat.add_assoc, List.take_succ_eq_append_getElem h1, h2]
theorem upTo_row (k : Nat) : upTo k 1000 = upTo (k + 1) 0 := by unfold upTo; congr 1
theorem upTo_all : upTo 5 0 = allPlaces := by
  unfold upTo
  exact List.take_of_length_le (by rw [allPlaces_len]; omega)
theorem upTo_len (k n : Nat) : (upTo k n).length ≤ 5000 := by
  unfold upTo
  rw [List.length_take, allPlaces_len]
  omega
/-- the join of the places ahead of one -/
def joinTo (base a b : List Rec) (second : List Bool) (k n : Nat) : Jn := (upTo k n).foldl (joinAt base a b second) ⟨[], []⟩
end Oyez
namespace Ab
open Go Go.RowKit Go.Proofs
attribute [local irreducible] aws awp aw1 Og Om Oc Oa Ogd Ov Ot awd aw1d QThen QBlock QFn QFnM ACode AYield
set_option maxHeartbeats 1000000 in
theorem same_ref_calls (a b : List (List UInt8)) (ha : a.length ≤ 2 ^ 50) : APure Tryz.prog 164 [wordsAV a, wordsAV b] (.bool (decide (a = b))) := by
  intro σ
  refine acalls_fn Tryz.func164 rfl (enters_fn Tryz.func164 (by decide) rfl) ?_
  by_cases hab : a.length = b.length
  · obtain ⟨n, hn⟩ : ∃ n, b.length = n := ⟨_, rfl⟩
    have han : a.length = n := hab.trans hn
    simp [Tryz.ntmps164, han, hn]
    refine ACode_loopT (fun env σ' => ∃ (u : List AV) (i : Nat), env = { t := u } ∧ u.length = 26 ∧ tg u 0 = wordsAV a ∧ tg u 1 = wordsAV b ∧ tg u 5 = .int .i64 i ∧ σ' = σ ∧ i ≤ n ∧ a.take i = b.take i)
      (fun env _ => match tg env.t 5 with | .int _ i => n - i.toNat | _ => 0) ⟨_, 0, rfl, by simp, by simp, by simp, by simp, rfl, by omega, by simp⟩ ?_
    rintro env σ' ⟨u, i, rfl, hl, g0, g1, g5, rfl, hi, hd⟩
    rcases Nat.lt_or_ge i n with hlt | hge
    · have hlt' : (i : Int) < (n : Int) := by omega
      have hx := w64 (n := (i : Int) + 1) (by omega) (by omega)
      have hia : i < a.length := by omega
      have hib : i < b.length := by omega
      simp [hl, g0, g1, g5, hlt', han]
      refine ACode_draw0 mixed (by kernel_rfl) ?_
      by_cases he : a[i] = b[i]
      · simp [hl, g0, g1, g5, han, hn, hlt, hlt', he, hx]
        refine ⟨⟨i + 1, by simp, by omega, ?_⟩, by omega⟩
        rw [List.take_succ_eq_append_getElem hia, List.take_succ_eq_append_getElem hib, hd, he]
      · have hne : ¬ a = b := fun h => he (by subst h; rfl)
        simp [hl, g0, g1, g5, han, hn, hlt, hlt', he, hne]
    · have hge' : ¬ (i : Int) < (n : Int) := by omega
      have hE : a = b := by
        rw [List.take_of_length_le (by omega), List.take_of_length_le (by omega)] at hd
        exact hd
      have hge2 : ¬ i < n := by omega
      subst hE
      simp [hl, g0, g1, g5, hge', hge2, hn]
  · have hne : ¬ a = b := fun h => hab (by rw [h])
    have hab' : ¬ (a.length : Int) = (b.length : Int) := by omega
    simp [Tryz.ntmps164, hab', hne, hab]
theorem alike_calls (x y : Oyez.St) (hx : (getW x).length ≤ 2 ^ 50) : APure Tryz.prog 98 [wordsAV (getW x), .bool x.isSome, wordsAV (getW y), .bool y.isSome] (.bool (decide (x = y))) := by
  intro σ
  refine acalls_fn Tryz.func98 rfl (enters_fn Tryz.func98 (by decide) rfl) ?_
  by_cases h : x.isSome = y.isSome
  · have e : decide (x = y) = decide (getW x = getW y) := by
      rw [decide_eq_decide, Oyez.st_eq]
      simp [h, getW]
    simp [Tryz.ntmps98, h]
    refine (same_ref_calls _ _ hx).use ?_
    simp [e]
  · have e : ¬ x = y := fun e => h (by rw [e])
    have hb : (x.isSome == y.isSome) = false := by simpa using h
    simp [Tryz.ntmps98, hb, e]
/-- a change -/
def chgAV (c : Oyez.Chg) : AV := .agg [.int .i64 c.kind, .int .i64 c.number, .bool c.had, .bool c.has, wordsAV c.old, wordsAV c.new]
def chgsAV (l : List Oyez.Chg) : AV := .pl 6 (l.map chgAV)
attribute [simp] chgAV chgsAV
end Ab
namespace Oyez
def putJ (J : Jn) (p : Place) (w : St) : Jn := ⟨match w with | some ws => J.out ++ [⟨p.kind, p.number, ws⟩] | none => J.out, J.conf⟩
/-- what a conflict has -/
def pickJ (second : List Bool) (i : Nat) (x y z : St) : St := match second[i]? with | none => x | some c => if c then z else y
def stepJ (x y z : St) (second : List Bool) (p : Place) (J : Jn) : Jn :=
  if y = z ∨ z = x then putJ J p y else if y = x then putJ J p z else putJ ⟨J.out, J.conf ++ [chg p y z]⟩ p (pickJ second J.conf.length x y z)
end Oyez
namespace Ab
open Go Go.RowKit Go.Proofs
attribute [local irreducible] aws awp aw1 Og Om Oc Oa Ogd Ov Ot awd aw1d QThen QBlock QFn QFnM ACode AYield
def chgCells (c : Oyez.Chg) : List AV := [.int .i64 c.kind, .int .i64 c.number, .bool c.had, .bool c.has, wordsAV c.old, wordsAV c.new]
structure JS (σ : Heap) (J : Oyez.Jn) (v1 v2 : AV) (g : Heap) : Prop where
  ex : ∃ o1 o2, Acc σ g 3 v1 (J.out.map recAV) o1 ∧ Acc σ g 6 v2 (J.conf.map chgAV) o2 ∧ ∀ j, o1 = some j → o2 = some j → False
theorem Acc.lt {σ g : Heap} {k : Nat} {v : AV} {l : List AV} {j : Nat} (h : Acc σ g k v l (some j)) : j < g.length := (List.getElem?_eq_some_iff.1 h.val.2).1
theorem Acc.keep {σ g g' : Heap} {k : Nat} {v : AV} {l : List AV} {o : Option Nat} (h : Acc σ g k v l o) (hk : ∀ j, o = some j → g'[j]? = g[j]?) : Acc σ g' k v l o := ⟨h.len, by
  have hv := h.val
  cases o with
  | none => exact hv
  | some j => exact ⟨hv.1, by rw [hk j rfl]; exact hv.2⟩⟩
theorem JS.put {σ : Heap} {J : Oyez.Jn} {v1 v2 : AV} {g : Heap} (h : JS σ J v1 v2 g) (hl : J.out.length ≤ 2 ^ 40) (r : Oyez.Rec) :
    ∃ v1' g', aappend Tryz.prog #[27, 27] v1 (.arr 3 (σ.length + g.length) 0 1) (σ ++ (g ++ [.cells (recCells r)])) = some (v1', σ ++ g') ∧ JS σ ⟨J.out ++ [r], J.conf⟩ v1' v2 g' := by
  obtain ⟨o1, o2, h1, h2, h3⟩ := h.ex
  obtain ⟨v', g', o', he, hA', hgl, hkeep, ho⟩ := h1.push (P := Tryz.prog) (t := 27) (e := 96) (ag := true) (x := recAV r) (by simp) (by simp) (by simp) (by omega) ⟨by simp [AV.cells], by simp [AV.cells, AV.one]⟩ (by simp; omega)
  refine ⟨v', g', he, ⟨o', o2, by simpa using hA', h2.keep fun j hj => ?_, fun j hj hj2 => ?_⟩⟩
  · subst hj
    exact hkeep j (fun e => h3 j e.symm rfl) h2.lt
  · subst hj2
    have hlt := h2.lt
    rcases ho with rfl | ⟨m, hm, rfl⟩
    · exact h3 j hj rfl
    · simp only [Option.some.injEq] at hj; omega
theorem JS.clash {σ : Heap} {J : Oyez.Jn} {v1 v2 : AV} {g : Heap} (h : JS σ J v1 v2 g) (hl : J.conf.length ≤ 2 ^ 40) (c : Oyez.Chg) :
    ∃ v2' g', aappend Tryz.prog #[44, 44] v2 (.arr 6 (σ.length + g.length) 0 1) (σ ++ (g ++ [.cells (chgCells c)])) = some (v2', σ ++ g') ∧ JS σ ⟨J.out, J.conf ++ [c]⟩ v1 v2' g' := by
  obtain ⟨o1, o2, h1, h2, h3⟩ := h.ex
  obtain ⟨v', g', o', he, hA', hgl, hkeep, ho⟩ := h2.push (P := Tryz.prog) (t := 44) (e := 57) (ag := true) (x := chgAV c) (by simp) (by simp) (by simp) (by omega) ⟨by simp [AV.cells], by simp [AV.cells, AV.one]⟩ (by simp; omega)
  refine ⟨v', g', he, ⟨o1, o', h1.keep fun j hj => ?_, by simpa using hA', fun j hj hj2 => ?_⟩⟩
  · subst hj
    exact hkeep j (fun e => h3 j rfl e.symm) h1.lt
  · subst hj
    have hlt := h1.lt
    rcases ho with rfl | ⟨m, hm, rfl⟩
    · exact h3 j rfl hj2
    · simp only [Option.some.injEq] at hj2; omega
theorem JS.len {σ : Heap} {J : Oyez.Jn} {v1 v2 : AV} {g : Heap} (h : JS σ J v1 v2 g) : alen Tryz.prog 44 v2 (σ ++ g) = some (.int .i64 J.conf.length) := by
  obtain ⟨o1, o2, h1, h2, h3⟩ := h.ex
  have hv := h2.val
  cases o2 with
  | none =>
    obtain ⟨rfl, hl⟩ := hv
    have : J.conf = [] := by simpa using hl
    simp [this]
  | some j =>
    obtain ⟨rfl, _⟩ := hv
    simp
theorem fz_chgs (n : Nat) (σ : Heap) (l : List Oyez.Chg) : ∀ x ∈ l.map chgAV, ∀ y ∈ x.cells, Fz n σ y y := fun x hx y hy => by
  obtain ⟨r, _, rfl⟩ := List.mem_map.1 hx
  simp [AV.cells] at hy
  rcases hy with rfl | rfl | rfl | rfl | rfl | rfl
  · exact .int _ _
  · exact .int _ _
  · exact .bool _
  · exact .bool _
  · exact (Fz_strs _ _ _).2 trivial
  · exact (Fz_strs _ _ _).2 trivial
end Ab
namespace Ab
open Go Go.RowKit Go.Proofs
attribute [local irreducible] aws awp aw1 Og Om Oc Oa Ogd Ov Ot awd aw1d awh aw1h Ogh Ohd awl Ogl Ohl awv Ogv Ohv QThen QBlock QFn QFnM QRo QBe ACode AYield
/-- changes that are more than what is looked at -/
def manyB (l : List Oyez.Chg) : Bool := l.any (fun c => longB c.old || longB c.new) || decide (90 < l.length)
set_option maxHeartbeats 2000000 in
theorem many_calls (l : List Oyez.Chg) (hl0 : l.length ≤ 9223372036854775807) (hw : ∀ c ∈ l, c.old.length ≤ 9223372036854775807 ∧ c.new.length ≤ 9223372036854775807) : APure Tryz.prog 36 [chgsAV l] (.bool (manyB l)) := by
  refine APure.of fun σ => ?_
  obtain ⟨B, hB⟩ : ∃ B, manyB l = B := ⟨_, rfl⟩
  rw [hB]
  refine acalls_fn Tryz.func36 rfl (enters_fn Tryz.func36 (by decide) rfl) ?_
  simp [Tryz.ntmps36]
  refine ACode_loopT (fun env σ' => ∃ (u : List AV) (i : Nat) (g : Heap), env = { t := u } ∧ u.length = 23 ∧ tg u 0 = chgsAV l ∧ tg u 5 = chgsAV l ∧ tg u 6 = .int .i64 l.length ∧ tg u 7 = .int .i64 i ∧ σ' = σ ++ g ∧ i ≤ l.length ∧ (l.take i).any (fun c => longB c.old || longB c.new) = false)
    (fun env _ => match tg env.t 7 with | .int _ i => l.length - i.toNat | _ => 0) ⟨_, 0, [], rfl, by simp, by simp, by simp, by simp, by simp, by simp, by omega, by simp⟩ ?_
  rintro env σ' ⟨u, i, g, rfl, hl, g0, g5, g6, g7, rfl, hi, hd⟩
  rcases Nat.lt_or_ge i l.length with hlt | hge
  · have hlt' : (i : Int) < (l.length : Int) := by omega
    have hx := w64 (n := (i : Int) + 1) (by omega) (by omega)
    have hn := any_take _ l hlt hd
    have hwi := hw _ (List.getElem_mem hlt)
    simp [hl, g0, g5, g6, g7, hlt', hlt]
    refine (long_calls l[i].old hwi.1).use ?_
    cases hb : longB l[i].old with
    | true =>
      have e : B = true := by
        rw [← hB]; unfold manyB
        rw [any_at (fun c : Oyez.Chg => longB c.old || longB c.new) l hlt (by simp [hb])]
        rfl
      subst e
      simp [hl, g0, g5, g6, g7, hlt', hlt, hb]
    | false =>
      simp [hl, g0, g5, g6, g7, hlt', hlt, hb]
      refine (long_calls l[i].new hwi.2).use ?_
      cases hb2 : longB l[i].new with
      | true =>
        have e : B = true := by
          rw [← hB]; unfold manyB
          rw [any_at (fun c : Oyez.Chg => longB c.old || longB c.new) l hlt (by simp [hb2])]
          rfl
        subst e
        simp [hl, g0, g5, g6, g7, hlt', hlt, hb, hb2]
      | false =>
        simp [hl, g0, g5, g6, g7, hlt', hlt, hb, hb2, hx]
        have hn' := hn.trans (show (longB l[i].old || longB l[i].new) = false by simp [hb, hb2])
        exact ⟨⟨i + 1, by simp, by omega, by simpa using hn'⟩, by omega⟩
  · have hge' : ¬ (i : Int) < (l.length : Int) := by omega
    rw [List.take_of_length_le hge] at hd
    unfold manyB at hB
    rw [hd] at hB
    by_cases h10 : 90 < l.length
    · have h10' : (90 : Int) < (l.length : Int) := by omega
      have e : B = true := by rw [← hB]; simp [h10]
      subst e
      simp [hl, g0, g5, g6, g7, hge', h10, h10']
    · have h10' : ¬ (90 : Int) < (l.length : Int) := by omega
      have e : B = false := by rw [← hB]; simp; omega
      subst e
      simp [hl, g0, g5, g6, g7, hge', h10, h10']
set_option maxHeartbeats 4000000 in
theorem changed_calls (l : List Oyez.Chg) (hf : l.length ≤ 2 ^ 40) : APure Tryz.prog 38 [chgsAV l] (chgsAV l) := by
  refine APure.of fun σ => ?_
  refine acalls_fn Tryz.func38 rfl (enters_fn Tryz.func38 (by decide) rfl) ?_
  simp [Tryz.ntmps38]
  refine ACode_loopT (fun env σ' => ∃ (u : List AV) (i : Nat) (v : AV) (g : Heap) (o : Option Nat), env = { t := u } ∧ u.length = 30 ∧ tg u 0 = chgsAV l ∧ tg u 3 = v ∧ tg u 6 = chgsAV l ∧ tg u 7 = .int .i64 l.length ∧ tg u 8 = .int .i64 i ∧ σ' = σ ++ g ∧ i ≤ l.length ∧ Acc σ g 6 v ((l.take i).map chgAV) o)
    (fun env _ => match tg env.t 8 with | .int _ i => l.length - i.toNat | _ => 0) ⟨_, 0, .nils, [], none, rfl, by simp, by simp, by simp, by simp, by simp, by simp, by simp, by omega, by simpa using Acc.nil _ _ _⟩ ?_
  rintro env σ' ⟨u, i, v, g, o, rfl, hl, g0, g3, g6, g7, g8, rfl, hi, hA⟩
  rcases Nat.lt_or_ge i l.length with hlt | hge
  · have hlt' : (i : Int) < (l.length : Int) := by omega
    have hx := w64 (n := (i : Int) + 1) (by omega) (by omega)
    have hA1 := ((hA.more [.cells (chgCells l[i])]).push (P := Tryz.prog) (t := 44) (e := 57) (ag := true) (x := chgAV l[i]) (by simp) (by simp) (by simp) (by omega) ⟨by simp [AV.cells], by simp [AV.cells, AV.one]⟩ (by simp; omega))
    obtain ⟨v', g', o', he, hA', _⟩ := hA1
    simp [-aappend, chgCells] at he
    rw [← Nat.add_assoc] at he
    simp [-aappend, hl, g0, g3, g6, g7, g8, hlt', hlt, hx, he]
    refine ⟨⟨i + 1, by simp, hlt, o', ?_⟩, by omega⟩
    rw [List.take_succ_eq_append_getElem (by simpa using hlt), List.getElem_map, ← List.map_take]
    exact hA'
  · have hge' : ¬ (i : Int) < (l.length : Int) := by omega
    rw [List.take_of_length_le hge] at hA
    have hz := hA.fz (fz_chgs _ _ _)
    simpa [hl, g0, g3, g6, g7, g8, hge'] using hz
set_option maxHeartbeats 4000000 in
theorem cmade_calls (l : List Oyez.Chg) (hf : l.length ≤ 2 ^ 40) : APure Tryz.prog 43 [chgsAV l] (chgsAV l) := by
  refine APure.of fun σ => ?_
  refine acalls_fn Tryz.func43 rfl (enters_fn Tryz.func43 (by decide) rfl) ?_
  simp [Tryz.ntmps43]
  refine ACode_loopT (fun env σ' => ∃ (u : List AV) (i : Nat) (v : AV) (g : Heap) (o : Option Nat), env = { t := u } ∧ u.length = 30 ∧ tg u 0 = chgsAV l ∧ tg u 3 = v ∧ tg u 6 = chgsAV l ∧ tg u 7 = .int .i64 l.length ∧ tg u 8 = .int .i64 i ∧ σ' = σ ++ g ∧ i ≤ l.length ∧ Acc σ g 6 v ((l.take i).map chgAV) o)
    (fun env _ => match tg env.t 8 with | .int _ i => l.length - i.toNat | _ => 0) ⟨_, 0, .nils, [], none, rfl, by simp, by simp, by simp, by simp, by simp, by simp, by simp, by omega, by simpa using Acc.nil _ _ _⟩ ?_
  rintro env σ' ⟨u, i, v, g, o, rfl, hl, g0, g3, g6, g7, g8, rfl, hi, hA⟩
  rcases Nat.lt_or_ge i l.length with hlt | hge
  · have hlt' : (i : Int) < (l.length : Int) := by omega
    have hx := w64 (n := (i : Int) + 1) (by omega) (by omega)
    have hA1 := ((hA.more [.cells (chgCells l[i])]).push (P := Tryz.prog) (t := 62) (e := 74) (ag := true) (x := chgAV l[i]) (by simp) (by simp) (by simp) (by omega) ⟨by simp [AV.cells], by simp [AV.cells, AV.one]⟩ (by simp; omega))
    obtain ⟨v', g', o', he, hA', _⟩ := hA1
    simp [-aappend, chgCells] at he
    rw [← Nat.add_assoc] at he
    simp [-aappend, hl, g0, g3, g6, g7, g8, hlt', hlt, hx, he]
    refine ⟨⟨i + 1, by simp, hlt, o', ?_⟩, by omega⟩
    rw [List.take_succ_eq_append_getElem (by simpa using hlt), List.getElem_map, ← List.map_take]
    exact hA'
  · have hge' : ¬ (i : Int) < (l.length : Int) := by omega
    rw [List.take_of_length_le hge] at hA
    have hz := hA.fz (fz_chgs _ _ _)
    simpa [hl, g0, g3, g6, g7, g8, hge'] using hz
theorem chg_ext {r q : Oyez.Chg} (h1 : r.kind = q.kind) (h2 : r.number = q.number) (h3 : r.had = q.had) (h4 : r.has = q.has) (h5 : r.old = q.old) (h6 : r.new = q.new) : r = q := by
  cases r; cases q; simp_all
set_option maxHeartbeats 8000000 in
theorem calike_calls (a b : List Oyez.Chg) (ha : a.length ≤ 2 ^ 40) (hw : ∀ c ∈ a, c.old.length ≤ 2 ^ 40 ∧ c.new.length ≤ 2 ^ 40) : APure Tryz.prog 42 [chgsAV a, chgsAV b] (.bool (decide (a = b))) := by
  refine APure.of fun σ => ?_
  refine acalls_fn Tryz.func42 rfl (enters_fn Tryz.func42 (by decide) rfl) ?_
  by_cases hab : a.length = b.length
  · obtain ⟨n, hn⟩ : ∃ n, b.length = n := ⟨_, rfl⟩
    have han : a.length = n := hab.trans hn
    simp [Tryz.ntmps42, han, hn]
    refine ACode_loopT (fun env σ' => ∃ (u : List AV) (i : Nat) (g : Heap), env = { t := u } ∧ u.length = 67 ∧ tg u 0 = chgsAV a ∧ tg u 1 = chgsAV b ∧ tg u 13 = chgsAV a ∧ tg u 14 = .int .i64 n ∧ tg u 15 = .int .i64 i ∧ σ' = σ ++ g ∧ i ≤ n ∧ a.take i = b.take i)
      (fun env _ => match tg env.t 15 with | .int _ i => n - i.toNat | _ => 0) ⟨_, 0, [], rfl, by simp, by simp, by simp, by simp, by simp, by simp, by simp, by omega, by simp⟩ ?_
    rintro env σ' ⟨u, i, g, rfl, hl, g0, g1, g13, g14, g15, rfl, hi, hd⟩
    rcases Nat.lt_or_ge i n with hlt | hge
    · have hlt' : (i : Int) < (n : Int) := by omega
      have hx := w64 (n := (i : Int) + 1) (by omega) (by omega)
      have hia : i < a.length := by omega
      have hib : i < b.length := by omega
      have hwi := hw _ (List.getElem_mem hia)
      have hne : ¬ a[i] = b[i] → ¬ a = b := fun he h => he (by subst h; rfl)
      by_cases hk : a[i].kind = b[i].kind
      case neg =>
        have hne' := hne fun h => hk (by rw [h])
        simp [hl, g0, g1, g13, g14, g15, hlt', han, hn, hlt, hk, hne']
      by_cases hm : a[i].number = b[i].number
      case neg =>
        have hne' := hne fun h => hm (by rw [h])
        simp [hl, g0, g1, g13, g14, g15, hlt', han, hn, hlt, hk, hm, hne']
      by_cases h3 : a[i].had = b[i].had
      case neg =>
        have hne' := hne fun h => h3 (by rw [h])
        have hbb : (a[i].had != b[i].had) = true := by simpa using h3
        simp [hbb, hl, g0, g1, g13, g14, g15, hlt', han, hn, hlt, hk, hm, h3, hne']
      by_cases h4 : a[i].has = b[i].has
      case neg =>
        have hne' := hne fun h => h4 (by rw [h])
        have hbb : (a[i].has != b[i].has) = true := by simpa using h4
        simp [hbb, hl, g0, g1, g13, g14, g15, hlt', han, hn, hlt, hk, hm, h3, h4, hne']
      simp [Nat.add_assoc, hl, g0, g1, g13, g14, g15, hlt', han, hn, hlt, hk, hm, h3, h4]
      refine (like_calls _ _ hwi.1).use ?_
      by_cases h5 : a[i].old = b[i].old
      case neg =>
        have hne' := hne fun h => h5 (by rw [h])
        simp [Nat.add_assoc, hl, g0, g1, g13, g14, g15, hlt', han, hn, hlt, hk, hm, h3, h4, h5, hne']
      simp [Nat.add_assoc, hl, g0, g1, g13, g14, g15, hlt', han, hn, hlt, hk, hm, h3, h4, h5]
      refine (like_calls _ _ hwi.2).use ?_
      by_cases h6 : a[i].new = b[i].new
      case neg =>
        have hne' := hne fun h => h6 (by rw [h])
        simp [Nat.add_assoc, hl, g0, g1, g13, g14, g15, hlt', han, hn, hlt, hk, hm, h3, h4, h5, h6, hne']
      have he := chg_ext hk hm h3 h4 h5 h6
      simp [Nat.add_assoc, hl, g0, g1, g13, g14, g15, hlt', han, hn, hlt, hk, hm, h3, h4, h5, h6, hx]
      refine ⟨⟨i + 1, by simp, hlt, ?_⟩, by omega⟩
      rw [List.take_succ_eq_append_getElem hia, List.take_succ_eq_append_getElem hib, hd, he]
    · have hge' : ¬ (i : Int) < (n : Int) := by omega
      have hE : a = b := by
        rw [List.take_of_length_le (by omega), List.take_of_length_le (by omega)] at hd
        exact hd
      simp [hl, g0, g1, g13, g14, g15, hge', hE]
  · have hne : ¬ a = b := fun h => hab (by rw [h])
    have hab' : ¬ (a.length : Int) = (b.length : Int) := by omega
    simp [Tryz.ntmps42, hab', hne, hab]
end Ab
