/-
  The book, plainly: verdicts, the fewest complaints, winds that turn.
  The book: an hour's round over the winds near a place; endings.
  The book: an ending is looked for.
  The book: lists of numbers compared.
-/
import Derived.Test.YtcoikmapjepdjaaGreatDoorC15
import Derived.Test.YtcoikmapjepdjaaGreatDoorC32
import Derived.Test.YtcoikmapjepdjaaGreatDoorC34
import Derived.Test.YtcoikmapjepdjaaGreatDoorC31
set_option linter.unusedSimpArgs false
set_option linter.unusedVariables false
set_option linter.unusedSectionVars false
namespace Ab
open Go Go.RowKit Go.Proofs
abbrev Ends := List (List Bool × List Int)
/-- in how many endings a mark is set -/
def manyG (l : Ends) (k : Nat) : Nat := (l.filter fun e => e.1[k]?.getD false).length
theorem manyG_snoc (l : Ends) (e : List Bool × List Int) (k : Nat) : manyG (l ++ [e]) k = manyG l k + if e.1[k]?.getD false then 1 else 0 := by
  unfold manyG
  rw [List.filter_append]
  by_cases h : e.1[k]?.getD false = true <;> simp [h]
theorem manyG_le (l : Ends) (k : Nat) : manyG l k ≤ l.length := List.length_filter_le _ _
def verd1 (l : Ends) (h n : Nat) : Int := if manyG l (h * 4 + n) = l.length then 1 else if manyG l (h * 4 + n) = 0 then 2 else 0
def verdB (l : Ends) (hs ns : Nat) : List (List Int) := (List.range hs).map fun h => (List.range ns).map fun n => verd1 l h n
/-- lists of numbers compared -/
def cmpL : List Int → List Int → Int
  | [], [] => 0
  | [], _ :: _ => -1
  | _ :: _, [] => 1
  | x :: a, y :: b => if cmpI x y = 0 then cmpL a b else cmpI x y
def betterF (own best : List Int) : Bool := decide (own.length < best.length) || decide (own.length = best.length) && decide (cmpL own best < 0)
def fewTo (cs : List Cm) (l : Ends) (best : List Int) : List Int := l.foldl (fun best x => if betterF (wrongN cs x.1 cs.length) best then wrongN cs x.1 cs.length else best) best
def fewB (cs : List Cm) : Ends → List Int
  | [] => []
  | e :: l => fewTo cs l (wrongN cs e.1 cs.length)
theorem near_turn : ∀ (w : Nat), w < 8 → ∀ (d : Int), (d = -1 ∨ d = 0 ∨ d = 1) → nearB ((w + d) % 8) w = true ∧ nearB w ((w + d) % 8) = true := by
  intro w hw d hd
  have : w = 0 ∨ w = 1 ∨ w = 2 ∨ w = 3 ∨ w = 4 ∨ w = 5 ∨ w = 6 ∨ w = 7 := by omega
  rcases this with rfl | rfl | rfl | rfl | rfl | rfl | rfl | rfl <;> rcases hd with rfl | rfl | rfl <;> decide
theorem endTo_snoc (l : List At) (x : At) : endTo (l ++ [x]) = if (endTo l).any fun e => e.1 == x.got then endTo l else endTo l ++ [(x.got, x.course)] := by
  unfold endTo
  rw [List.foldl_append]
  rfl
theorem endTo_of {l : List At} : ∀ e ∈ endTo l, ∃ x ∈ l, e = (x.got, x.course) := by
  have key : ∀ (l : List At) (out : List (List Bool × List Int)), ∀ e ∈ l.foldl (fun out x => if out.any fun e => e.1 == x.got then out else out ++ [(x.got, x.course)]) out, e ∈ out ∨ ∃ x ∈ l, e = (x.got, x.course) := by
    intro l
    induction l with
    | nil => intro out e he; exact .inl he
    | cons x l ih =>
      intro out e he
      rcases ih _ e he with h | ⟨y, hy, rfl⟩
      · dsimp only at h
        split at h
        · exact .inl h
        · rcases List.mem_append.1 h with h | h
          · exact .inl h
          · exact .inr ⟨x, by simp, List.mem_singleton.1 h⟩
      · exact .inr ⟨y, by simp [hy], rfl⟩
  intro e he
  rcases key l [] e he with h | h
  · simp at h
  · exact h
theorem endTo_len (l : List At) : (endTo l).length ≤ l.length := by
  have key : ∀ (l : List At) (out : List (List Bool × List Int)), (l.foldl (fun out x => if out.any fun e => e.1 == x.got then out else out ++ [(x.got, x.course)]) out).length ≤ out.length + l.length := by
    intro l
    induction l with
    | nil => intro out; simp
    | cons x l ih =>
      intro out
      have h1 := ih (if out.any fun e => e.1 == x.got then out else out ++ [(x.got, x.course)])
      have h2 : (if out.any fun e => e.1 == x.got then out else out ++ [(x.got, x.course)]).length ≤ out.length + 1 := by split <;> simp
      simp only [List.foldl_cons, List.length_cons]
      omega
  have := key l []
  unfold endTo
  simpa using this
end Ab
namespace Ab
open Go Go.RowKit Go.Proofs
theorem AccN.loose {n : Nat} {v : AV} {next : List At} {g : Heap} {L : List AV} {o : Option Nat} (h : AccN n v next g L o) {j : Nat} (X : AObj) {y : AObj} (hy : g[j]? = some y) (hj : ∀ cs, y ≠ .cells cs) : AccN n v next (g.set j X) L o :=
  ⟨fun σ hs => by
    have ha := h.acc σ hs
    refine ⟨ha.len, ?_⟩
    have hv := ha.val
    cases o with
    | none => exact hv
    | some jo =>
      obtain ⟨h1, h2⟩ := hv
      refine ⟨h1, ?_⟩
      have hne : j ≠ jo := fun e => by subst e; exact hj _ (Option.some.inj (hy.symm.trans h2))
      rw [List.getElem?_set_ne hne]
      exact h2, h.len, fun i a ha => by
    obtain ⟨h1, k, h2, h3, h4⟩ := h.el i a ha
    refine ⟨h1, k, h2, h3, ?_⟩
    have hne : j ≠ k := fun e => by subst e; exact hj _ (Option.some.inj (hy.symm.trans h4))
    rw [List.getElem?_set_ne hne]
    exact h4⟩
theorem Keeps.turn {g : Heap} {o : Option Nat} {K : List (Nat × AObj)} {j : Nat} {y : AObj} (h : Keeps g o ((j, y) :: K)) (X : AObj) (hK : ∀ p ∈ K, p.1 ≠ j) : Keeps (g.set j X) o ((j, X) :: K) := fun p hp => by
  rcases List.mem_cons.1 hp with rfl | hp
  · obtain ⟨h1, h2⟩ := h _ (List.mem_cons_self ..)
    have hl := (List.getElem?_eq_some_iff.1 h2).1
    exact ⟨h1, by simp at hl; simp [hl]⟩
  · obtain ⟨h1, h2⟩ := h p (List.mem_cons_of_mem _ hp)
    exact ⟨h1, by rw [List.getElem?_set_ne (fun e => hK p hp e.symm)]; exact h2⟩
theorem Keeps.sub {g : Heap} {o : Option Nat} {K K' : List (Nat × AObj)} (h : Keeps g o K) (hs : ∀ p ∈ K', p ∈ K) : Keeps g o K' := fun p hp => h p (hs p hp)
theorem sixB_at (W : Heap) (b : Bk) (n q h : Nat) (v : AV) (next : List At) (g : Heap) (j : Nat) : (W ++ (sixB b n q h v next ++ g))[W.length + (6 + j)]? = g[j]? := by
  rw [List.getElem?_append_right (by omega), List.getElem?_append_right (by simp [sixB])]
  congr 1
  simp [sixB]
theorem sixB_set (W : Heap) (b : Bk) (n q h : Nat) (v : AV) (next : List At) (g : Heap) (j : Nat) (X : AObj) : (W ++ (sixB b n q h v next ++ g)).set (W.length + (6 + j)) X = W ++ (sixB b n q h v next ++ g.set j X) := by
  rw [List.set_append_right _ _ (by omega), List.set_append_right _ _ (by simp [sixB])]
  congr 3
  simp [sixB]
theorem AccN.o_lt {n : Nat} {v : AV} {next : List At} {g : Heap} {L : List AV} {o : Option Nat} (h : AccN n v next g L o) : ∀ j, g.length ≤ j → some j ≠ o := fun j hj e => by
  have ha := (h.acc (List.replicate n .dead) (by simp)).val
  subst e
  have := (List.getElem?_eq_some_iff.1 ha.2).1
  omega
theorem Keeps.new {g : Heap} {o : Option Nat} {K : List (Nat × AObj)} (h : Keeps g o K) (ho : ∀ j, g.length ≤ j → some j ≠ o) (y : Heap) (K' : List (Nat × AObj)) (hK : ∀ p ∈ K', ∃ i, p.1 = g.length + i ∧ y[i]? = some p.2) : Keeps (g ++ y) o (K' ++ K) := fun p hp => by
  rcases List.mem_append.1 hp with hp | hp
  · obtain ⟨i, h1, h2⟩ := hK p hp
    exact ⟨ho _ (by omega), by rw [h1, List.getElem?_append_right (by omega), Nat.add_sub_cancel_left]; exact h2⟩
  · exact h.more y p hp
/-- a place with its course, as it lies -/
def atAV (x : At) : AV := .agg (.int .i64 x.wind :: x.got.map AV.bool ++ [.pl 1 (intsV x.course)])
/-- the winds below k that are near -/
def nearK (w k : Nat) : List Nat := (List.range k).filter fun v => nearB v w
theorem nearK_succ (w k : Nat) : nearK w (k + 1) = if nearB k w then nearK w k ++ [k] else nearK w k := by
  unfold nearK
  rw [List.range_succ, List.filter_append]
  by_cases h : nearB (k : Int) (w : Int) = true <;> simp [h]
theorem atAV_cells (x : At) : (atAV x).cells = .int .i64 x.wind :: x.got.map AV.bool ++ [.pl 1 (intsV x.course)] := rfl
/-- the row of what comes next, as it is seen once it is whole -/
theorem AccN.vw {W : Heap} {b : Bk} {q h : Nat} {v : AV} {next : List At} {g : Heap} {L : List AV} {o : Option Nat} (hA : AccN (W.length + 6) v next g L o) (hg : ∀ a ∈ next, a.got.length = 24) {n : Nat} (hn : n ≤ W.length) :
    Vw (cellsP n (W ++ (sixB b W.length q h v next ++ g))) (W ++ (sixB b W.length q h v next ++ g)) v (.pl 26 (next.map atAV)) := by
  have ha := hA.acc (List.replicate (W.length + 6) .dead) (by simp)
  have hv := ha.val
  have hlen := hA.len
  have at_ := sixB_at W b W.length q h v next g
  cases o with
  | none =>
    obtain ⟨rfl, rfl⟩ := hv
    obtain rfl : next = [] := List.eq_nil_of_length_eq_zero (by simpa using hlen.symm)
    exact .inr (.nils_pl 26)
  | some jo =>
    obtain ⟨e, hjo⟩ := hv
    have e2 : v = .arr 26 (W.length + (6 + jo)) 0 (next.map atAV).length := by rw [e]; simp [hlen]; omega
    generalize hT : W ++ (sixB b W.length q h v next ++ g) = T at at_ ⊢
    rw [e2]
    have hjoT : T[W.length + (6 + jo)]? = some (.cells (L.flatMap AV.cells)) := by rw [at_ jo]; exact hjo
    refine .inr (.arr 26 _ 0 (L.flatMap AV.cells) (next.map atAV) (fun i j => ((L[i]?.getD .any).cells[j]?).getD .any) (Nat.zero_le _) (bar_cellsP hjoT (by omega)) (fun i x hx => ?_) fun i x hx j y hy => ?_)
    · rw [List.getElem?_map, Option.map_eq_some_iff] at hx
      obtain ⟨a, ha', rfl⟩ := hx
      have hal := hg a (List.mem_of_getElem? ha')
      obtain ⟨hc, k, hk, hLi, hgk⟩ := hA.el i a ha'
      rw [atAV_cells]
      refine ⟨by simp [hal], fun j y hy => ⟨?_, ?_⟩⟩
      · have hm := List.mem_of_getElem? hy
        rcases List.mem_append.1 hm with hm | hm
        · rcases List.mem_cons.1 hm with rfl | hm
          · rfl
          · obtain ⟨z, _, rfl⟩ := List.mem_map.1 hm; rfl
        · rw [List.mem_singleton.1 hm]; rfl
      · have hjl := (List.getElem?_eq_some_iff.1 hy).1
        have hj : j < 26 := by simp [hal] at hjl; omega
        rw [flat_get L (fun x hx => (ha.len x hx).1) (by omega), show (0 + i) * 26 + j = 26 * i + j by omega, show (26 * i + j) / 26 = i by omega, show (26 * i + j) % 26 = j by omega, hLi]
        simp only [Option.bind_some, Option.getD_some]
        have hl2 : (AV.agg (.int .i64 a.wind :: a.got.map AV.bool ++ [.arr 1 (W.length + 6 + k) 0 a.course.length])).cells.length = 26 := by simp [AV.cells, hal]
        rw [List.getElem?_eq_getElem (by omega)]
        rfl
    · rw [List.getElem?_map, Option.map_eq_some_iff] at hx
      obtain ⟨a, ha', rfl⟩ := hx
      have hal := hg a (List.mem_of_getElem? ha')
      obtain ⟨hc, k, hk, hLi, hgk⟩ := hA.el i a ha'
      rw [atAV_cells] at hy
      have hjl := (List.getElem?_eq_some_iff.1 hy).1
      have hj : j < 26 := by simp [hal] at hjl; omega
      simp only [hLi, Option.getD_some]
      have ec : (AV.agg (.int .i64 a.wind :: a.got.map AV.bool ++ [.arr 1 (W.length + 6 + k) 0 a.course.length])).cells = (.int .i64 a.wind :: a.got.map AV.bool) ++ [.arr 1 (W.length + 6 + k) 0 a.course.length] := rfl
      rw [ec]
      have hl3 : (AV.int .i64 a.wind :: a.got.map AV.bool).length = 25 := by simp [hal]
      rcases Nat.lt_or_ge j 25 with hj2 | hj2
      · rw [List.getElem?_append_left (by omega)] at hy ⊢
        rw [hy]
        simp only [Option.getD_some]
        rcases List.mem_cons.1 (List.mem_of_getElem? hy) with rfl | hm
        · exact .int _ _
        · obtain ⟨z, _, rfl⟩ := List.mem_map.1 hm; exact .bool _
      · rw [List.getElem?_append_right (by omega), hl3, show j - 25 = 0 by omega] at hy ⊢
        simp at hy
        subst hy
        simp only [List.getElem?_cons_zero, Option.getD_some]
        have hgT : T[W.length + (6 + k)]? = some (.cells (intsV a.course)) := by rw [at_ k]; exact hgk
        rw [show W.length + 6 + k = W.length + (6 + k) by omega, show a.course.length = (intsV a.course).length by simp [intsV]]
        refine .arr 1 _ 0 (intsV a.course) (intsV a.course) (fun i j => ((intsV a.course)[i]?).getD .any) (Nat.zero_le _) (bar_cellsP hgT (by omega)) (fun i x hx => ?_) fun i x hx j y hy => ?_
        · have hm := List.mem_of_getElem? hx
          obtain ⟨z, _, rfl⟩ := List.mem_map.1 hm
          refine ⟨rfl, fun j y hy => ?_⟩
          cases j with
          | zero =>
            simp [AV.cells] at hy
            subst hy
            exact ⟨rfl, by rw [show (0 + i) * 1 + 0 = i by omega, hx]; rfl⟩
          | succ j => simp [AV.cells] at hy
        · have hm := List.mem_of_getElem? hx
          obtain ⟨z, _, rfl⟩ := List.mem_map.1 hm
          cases j with
          | zero =>
            simp [AV.cells] at hy
            subst hy
            rw [hx]
            exact .int _ _
          | succ j => simp [AV.cells] at hy
end Ab
namespace Ab
open Go Go.RowKit Go.Proofs
def endAV (e : List Bool × List Int) : AV := .agg (e.1.map AV.bool ++ [.pl 1 (intsV e.2)])
attribute [local irreducible] aws awp aw1 Og Om Oc Oa Ogd Ov Ot awd aw1d awh aw1h Ogh Ohd awl Ogl Ohl awv Ogv Ohv QThen QBlock QFn QFnM QRo QBe ACode AYield
theorem bk_endeq_calls (e : List Bool × List Int) (he : e.1.length = 24) (x : At) (hx : x.got.length = 24) (c : Nat) (σ : Heap) (hc : σ[c]? = some (.cells (atAV x).cells)) :
    ACalls Tryz.prog 276 [endAV e, .ptr c 0] σ fun v s => v = .bool (e.1 == x.got) ∧ s = σ := by
  refine ACalls.forget ?_
  refine acalls_fn Tryz.func276 rfl (enters_fn Tryz.func276 (by decide) rfl) ?_
  have hcl : c < σ.length := (List.getElem?_eq_some_iff.1 hc).1
  have hc' : ∀ g : Heap, (σ ++ g)[c]? = some (.cells (.int .i64 x.wind :: (x.got.map AV.bool ++ [.pl 1 (intsV x.course)]))) := fun g => by rw [List.getElem?_append_left hcl]; exact hc
  have ht : List.take 24 (e.1.map AV.bool ++ [.pl 1 (intsV e.2)]) = e.1.map AV.bool := by rw [List.take_append_of_le_length (by simp; omega), List.take_of_length_le (by simp; omega)]
  have htx : List.take 24 (x.got.map AV.bool ++ [.pl 1 (intsV x.course)]) = x.got.map AV.bool := by rw [List.take_append_of_le_length (by simp; omega), List.take_of_length_le (by simp; omega)]
  have hq := bk_aeqs_bools e.1 x.got (by omega)
  rw [he] at hq
  simp [Tryz.ntmps276, endAV, he, hx, hc', ht, htx]
  rw [show [2, 2, 2, 2, 2, 2, 2, 2, 2, 2, 2, 2, 2, 2, 2, 2, 2, 2, 2, 2, 2, 2, 2, 2] = List.replicate 24 2 from rfl, hq]
  simp
theorem endAV_len {e : List Bool × List Int} (he : e.1.length = 24) : (endAV e).cells.length = 25 := by simp [endAV, AV.cells, he]
theorem endAV_one (e : List Bool × List Int) : ∀ y ∈ (endAV e).cells, y.one = true := by
  intro y hy
  rcases List.mem_append.1 hy with hy | hy
  · obtain ⟨z, _, rfl⟩ := List.mem_map.1 hy; rfl
  · rw [List.mem_singleton.1 hy]; rfl
/-- an ending, in the row -/
theorem endRow_at {out : Ends} (ho : ∀ e ∈ out, e.1.length = 24) {i : Nat} (hi : i < out.length) : List.take 25 (List.drop (i * 25) ((out.map endAV).flatMap AV.cells)) = (endAV out[i]).cells := by
  have hl : ∀ x ∈ out.map endAV, x.cells.length = 25 := fun x hx => by obtain ⟨e, he, rfl⟩ := List.mem_map.1 hx; exact endAV_len (ho e he)
  apply List.ext_getElem?
  intro j
  rcases Nat.lt_or_ge j 25 with hj | hj
  · rw [List.getElem?_take_of_lt hj, List.getElem?_drop, flat_get _ hl (by omega), show (i * 25 + j) / 25 = i by omega, show (i * 25 + j) % 25 = j by omega]
    simp [hi]
  · rw [List.getElem?_eq_none (by simp; omega), List.getElem?_eq_none (by rw [endAV_len (ho _ (List.getElem_mem hi))]; exact hj)]
set_option maxHeartbeats 1000000 in
theorem idxf_end (out : Ends) (ho : ∀ e ∈ out, e.1.length = 24) (hol : out.length ≤ 2 ^ 30) (x : At) (hx : x.got.length = 24) (c r : Nat) (σ : Heap) (hc : σ[c]? = some (.cells (atAV x).cells)) (hr : σ[r]? = some (.cells ((out.map endAV).flatMap AV.cells))) :
    ACalls Tryz.prog 327 [.arr 25 r 0 out.length, .fn (.func 276) [] [.ptr c 0]] σ fun v s => v = .int .i64 (idxI out fun e => e.1 == x.got) ∧ s = σ := by
  refine acalls_fn Tryz.func327 rfl (enters_fn Tryz.func327 (by decide) rfl) ?_
  simp [Tryz.ntmps327]
  refine ACode_loopT (fun env σ' => ∃ (u : List AV) (i : Nat), env = { t := u } ∧ u.length = 19 ∧ tg u 0 = .arr 25 r 0 out.length ∧ tg u 1 = .fn (.func 276) [] [.ptr c 0] ∧ tg u 7 = .int .i64 out.length ∧ tg u 8 = .int .i64 i ∧ σ' = σ ∧ i ≤ out.length ∧ ∀ x' ∈ out.take i, (x'.1 == x.got) = false)
    (fun env _ => match tg env.t 8 with | .int _ i => out.length - i.toNat | _ => 0) ⟨_, 0, rfl, by simp, by simp, by simp, by simp, by simp, rfl, by omega, fun x hx => by simp at hx⟩ ?_
  rintro env σ' ⟨u, i, rfl, hl0, g0, g1, g7, g8, rfl, hi, hd⟩
  rcases Nat.lt_or_ge i out.length with hlt | hge
  · have hlt' : (i : Int) < (out.length : Int) := by omega
    have hw1 := w64 (n := (i : Int) + 1) (by omega) (by omega)
    have hat := endRow_at ho hlt
    have hlen := endAV_len (ho _ (List.getElem_mem hlt))
    have hone := endAV_one out[i]
    have hfl : ((out.map endAV).flatMap AV.cells).length = out.length * 25 := (flat_len (k := 25) (out.map endAV) fun x hx => by obtain ⟨e, he, rfl⟩ := List.mem_map.1 hx; exact endAV_len (ho e he)).trans (by simp)
    obtain ⟨Z, hZ⟩ : ∃ Z, (out.map endAV).flatMap AV.cells = Z := ⟨_, rfl⟩
    rw [hZ] at hat hr hfl
    have hle : i * 25 + 25 ≤ Z.length := by omega
    simp [hl0, g0, g1, g7, g8, hlt', hlt, hr, hat, hle]
    refine StA.of ((bk_endeq_calls out[i] (ho _ (List.getElem_mem hlt)) x hx c σ' hc).mono ?_)
    rintro v σ'' ⟨rfl, rfl⟩
    cases hxe : out[i].1 == x.got with
    | false =>
      simp [hl0, g0, g1, g7, g8, hw1]
      exact ⟨⟨i + 1, by simp, hlt, fun a b' hm => by simpa using take_false (p := fun e : List Bool × List Int => e.1 == x.got) hlt hd hxe (a, b') hm⟩, by omega⟩
    | true =>
      simp [hl0, g0, g1, g7, g8, idxI_at (p := fun e : List Bool × List Int => e.1 == x.got) hlt hd hxe]
  · have hge' : ¬ (i : Int) < (out.length : Int) := by omega
    rw [List.take_of_length_le hge] at hd
    simp [hl0, g0, g1, g7, g8, hge', idxI_none hd]
theorem contf_end (out : Ends) (ho : ∀ e ∈ out, e.1.length = 24) (hol : out.length ≤ 2 ^ 30) (x : At) (hx : x.got.length = 24) (c : Nat) (v : AV) (σ : Heap) (hc : σ[c]? = some (.cells (atAV x).cells)) (hv : (v = .nils ∧ out = []) ∨ ∃ r, v = .arr 25 r 0 out.length ∧ σ[r]? = some (.cells ((out.map endAV).flatMap AV.cells))) :
    ACalls Tryz.prog 275 [v, .fn (.func 276) [] [.ptr c 0]] σ fun v s => v = .bool (out.any fun e => e.1 == x.got) ∧ s = σ := by
  rcases hv with ⟨rfl, rfl⟩ | ⟨r, rfl, hr⟩
  · refine acalls_fn Tryz.func275 rfl (enters_fn Tryz.func275 (by decide) rfl) ?_
    simp [Tryz.ntmps275]
    have hn : ACalls Tryz.prog 327 [.nils, .fn (.func 276) [] [.ptr c 0]] σ fun v s => v = .int .i64 (-1) ∧ s = σ := by
      refine acalls_fn Tryz.func327 rfl (enters_fn Tryz.func327 (by decide) rfl) ?_
      simp [Tryz.ntmps327]
      refine ACode_loopT (fun env σ' => ∃ (u : List AV), env = { t := u } ∧ u.length = 19 ∧ tg u 7 = .int .i64 0 ∧ tg u 8 = .int .i64 0 ∧ σ' = σ) (fun _ _ => 0) ⟨_, rfl, by simp, by simp, by simp, rfl⟩ ?_
      rintro env σ' ⟨u, rfl, hl0, g7, g8, rfl⟩
      simp [hl0, g7, g8]
    refine StA.of (hn.mono ?_)
    rintro v s ⟨rfl, rfl⟩
    simp
  · refine acalls_fn Tryz.func275 rfl (enters_fn Tryz.func275 (by decide) rfl) ?_
    simp [Tryz.ntmps275]
    refine StA.of ((idxf_end out ho hol x hx c r σ hc hr).mono ?_)
    rintro v s ⟨rfl, rfl⟩
    simp [idxI_any]
end Ab
namespace Ab
open Go Go.RowKit Go.Proofs
theorem cmpL_drop (a b : List Int) (i : Nat) (ha : i < a.length) (hb : i < b.length) : cmpL (a.drop i) (b.drop i) = if cmpI a[i] b[i] = 0 then cmpL (a.drop (i + 1)) (b.drop (i + 1)) else cmpI a[i] b[i] := by
  rw [List.drop_eq_getElem_cons ha, List.drop_eq_getElem_cons hb, cmpL]
attribute [local irreducible] aws awp aw1 Og Om Oc Oa Ogd Ov Ot awd aw1d awh aw1h Ogh Ohd awl Ogl Ohl awv Ogv Ohv QThen QBlock QFn QFnM QRo QBe ACode AYield
theorem bk_compare_calls (a b : List Int) (ha : a.length ≤ 2 ^ 40) (hb : b.length ≤ 2 ^ 40) : APure Tryz.prog 70 [.pl 1 (a.map fun x => AV.int .i64 x), .pl 1 (b.map fun x => AV.int .i64 x)] (.int .i64 (cmpL a b)) := by
  intro σ
  generalize hX : cmpL a b = X
  refine acalls_fn Tryz.func70 rfl (enters_fn Tryz.func70 (by decide) rfl) ?_
  simp [Tryz.ntmps70]
  refine ACode_loopT (fun env σ' => ∃ (u : List AV) (i : Nat), env = { t := u } ∧ u.length = 36 ∧ tg u 0 = .pl 1 (a.map fun x => AV.int .i64 x) ∧ tg u 1 = .pl 1 (b.map fun x => AV.int .i64 x) ∧ tg u 9 = .pl 1 (a.map fun x => AV.int .i64 x) ∧ tg u 10 = .int .i64 a.length ∧ tg u 11 = .int .i64 i ∧ σ' = σ ∧ i ≤ a.length ∧ cmpL (a.drop i) (b.drop i) = X ∧ i ≤ b.length)
    (fun env _ => match tg env.t 11 with | .int _ i => a.length - i.toNat | _ => 0) ⟨_, 0, rfl, by simp, by simp, by simp, by simp, by simp, by simp, rfl, by omega, by simpa using hX, by omega⟩ ?_
  rintro env σ' ⟨u, i, rfl, hl0, g0, g1, g9, g10, g11, rfl, hi, hd, hib⟩
  rcases Nat.lt_or_ge i a.length with hlt | hge
  · have hlt' : (i : Int) < (a.length : Int) := by omega
    rcases Nat.lt_or_ge i b.length with hbt | hbge
    · have hbt' : ¬ (b.length : Int) ≤ (i : Int) := by omega
      rw [cmpL_drop a b i hlt hbt] at hd
      simp [hl0, g0, g1, g9, g10, g11, hlt', hlt, hbt, hbt']
      refine (cmp155_calls _ _).use ?_
      have hw1 := w64 (n := (i : Int) + 1) (by omega) (by omega)
      by_cases hc : cmpI a[i] b[i] = 0
      · rw [if_pos hc] at hd
        simp [hl0, g0, g1, g9, g10, g11, hc, hw1]
        exact ⟨⟨i + 1, by simp, hlt, hd, hbt⟩, by omega⟩
      · rw [if_neg hc] at hd
        rw [hd] at hc
        simp [hl0, g0, g1, g9, g10, g11, hc, hd]
    · have hbge' : (b.length : Int) ≤ (i : Int) := by omega
      rw [List.drop_eq_getElem_cons hlt, List.drop_eq_nil_of_le hbge, cmpL] at hd
      simp [hl0, g0, g1, g9, g10, g11, hlt', hlt, hbge', ← hd]
  · have hge' : ¬ (i : Int) < (a.length : Int) := by omega
    obtain rfl : i = a.length := by omega
    rw [List.drop_eq_nil_of_le hge] at hd
    rcases Nat.lt_or_ge a.length b.length with hbt | hbge
    · have hbt' : (a.length : Int) < (b.length : Int) := by omega
      rw [List.drop_eq_getElem_cons hbt, cmpL] at hd
      simp [hl0, g0, g1, g9, g10, g11, hge', hbt', ← hd]
    · have hbt' : ¬ (a.length : Int) < (b.length : Int) := by omega
      rw [List.drop_eq_nil_of_le hbge, cmpL] at hd
      simp [hl0, g0, g1, g9, g10, g11, hge', hbt', ← hd]
end Ab
