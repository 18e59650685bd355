/-
  PLAIN LAWS: changes that do two lists of changes, as they are found one by one, and put in order.
  CHANGES: a change from one state to another one; the places of changes, in a map.
  CHANGES: put in the order of their places: slices.SortFunc.
  CHANGES THAT DO TWO LISTS: where they lie while they are laid, and when they are put in order; the map of the later ones.
-/
import Derived.Test.YtcoikmapjepdjaaGreatDoorA18
import Derived.Test.YtcoikmapjepdjaaGreatDoorA28
import Derived.Test.YtcoikmapjepdjaaGreatDoorA29
import Derived.Test.YtcoikmapjepdjaaGreatDoorA17
import Derived.Test.YtcoikmapjepdjaaGreatDoorA30
set_option linter.unusedSimpArgs false
set_option linter.unusedVariables false
set_option linter.unusedSectionVars false
namespace Oyez
theorem findC_mem {l : List Chg} {p : Place} {c : Chg} (h : findC l p = some c) : c ∈ l ∧ c.place = p := by
  unfold findC at h
  exact ⟨List.mem_of_find?_eq_some h, by simpa using List.find?_some h⟩
theorem sortedP_nodup {l : List Place} (h : Sorted l) : l.Nodup := h.imp fun {p q} h e => by rw [e, Place.lt_irrefl] at h; cases h
theorem findC_of : ∀ {l : List Chg}, Sorted (l.map Chg.place) → ∀ {c : Chg}, c ∈ l → findC l c.place = some c := by
  intro l
  induction l with
  | nil => intro _ c h; simp at h
  | cons d t ih =>
    intro hs c hc
    rw [List.map_cons] at hs
    obtain ⟨h1, h2⟩ := List.pairwise_cons.1 hs
    unfold findC
    rw [List.find?_cons]
    by_cases e : d.place = c.place
    · rw [e]
      simp only [decide_true]
      rcases List.mem_cons.1 hc with rfl | hm
      · rfl
      · have := h1 c.place (List.mem_map_of_mem hm)
        rw [e, Place.lt_irrefl] at this
        cases this
    · simp only [e, decide_false]
      rcases List.mem_cons.1 hc with rfl | hm
      · exact absurd rfl e
      · exact ih h2 hm
theorem findC_isSome {l : List Chg} {p : Place} (h : p ∈ l.map Chg.place) : ∃ c, findC l p = some c := by
  obtain ⟨c, hc, rfl⟩ := List.mem_map.1 h
  cases hf : findC l c.place with
  | some d => exact ⟨d, rfl⟩
  | none =>
    unfold findC at hf
    rw [List.find?_eq_none] at hf
    exact absurd (decide_eq_true rfl) (hf c hc)
/-- what becomes of a change of the first list -/
def aft1 (y : List Chg) (c : Chg) : Option Chg := match findC y c.place with
  | none => some c
  | some d => if c.was = d.now then none else some (chg c.place c.was d.now)
def clash1 (y : List Chg) (c : Chg) : Prop := ∃ d, findC y c.place = some d ∧ c.now ≠ d.was
theorem aft1_place {y : List Chg} {c d : Chg} (h : aft1 y c = some d) : d.place = c.place := by
  unfold aft1 at h
  split at h
  · cases h; rfl
  · split at h
    · cases h
    · cases h; rfl
/-- what becomes of a place -/
def aftP (x y : List Chg) (p : Place) : Option Chg := match afterAt x y p with
  | .ok o => o
  | .error _ => none
theorem aftP_place {x y : List Chg} {p : Place} {c : Chg} (h : aftP x y p = some c) : c.place = p := by
  unfold aftP afterAt at h
  cases hx : findC x p with
  | none =>
    cases hy : findC y p with
    | none => simp [hx, hy] at h
    | some d => simp [hx, hy] at h; subst h; exact (findC_mem hy).2
  | some e =>
    cases hy : findC y p with
    | none => simp [hx, hy] at h; subst h; exact (findC_mem hx).2
    | some d =>
      simp only [hx, hy] at h
      by_cases h1 : e.now = d.was
      · by_cases h2 : e.was = d.now
        · simp [h1, h2] at h
        · simp [h1, h2] at h; subst h; rfl
      · simp [h1] at h
theorem afterL_err {x y : List Chg} : ∀ {ps : List Place}, (∃ p ∈ ps, afterAt x y p = .error ()) → afterL x y ps = .error () := by
  intro ps
  induction ps with
  | nil => rintro ⟨p, hp, _⟩; simp at hp
  | cons q t ih =>
    rintro ⟨p, hp, he⟩
    rw [afterL]
    rcases List.mem_cons.1 hp with rfl | hp
    · rw [he]
    · have := ih ⟨p, hp, he⟩
      cases hq : afterAt x y q with
      | error e => rfl
      | ok o =>
        cases o with
        | none => exact this
        | some c => simp only [this]
theorem afterL_ok {x y : List Chg} : ∀ {ps : List Place}, (∀ p ∈ ps, ∃ o, afterAt x y p = .ok o) → afterL x y ps = .ok (ps.filterMap (aftP x y)) := by
  intro ps
  induction ps with
  | nil => intro _; rfl
  | cons q t ih =>
    intro h
    have ht := ih fun p hp => h p (List.mem_cons_of_mem _ hp)
    obtain ⟨o, ho⟩ := h q (by simp)
    rw [afterL, ho, List.filterMap_cons]
    have hq : aftP x y q = o := by unfold aftP; rw [ho]
    rw [hq]
    cases o with
    | none => exact ht
    | some c => simp only [ht]
theorem after_clash {x y : List Chg} (hx : Sorted (x.map Chg.place)) {c : Chg} (hc : c ∈ x) (h : clash1 y c) : after x y = .error () := by
  unfold after
  refine afterL_err ⟨c.place, (mem_placesOf _ _).2 (List.mem_map_of_mem (List.mem_append_left _ hc)), ?_⟩
  obtain ⟨d, hd, hne⟩ := h
  unfold afterAt
  rw [findC_of hx hc, hd]
  simp only
  rw [if_neg hne]
theorem after_ok {x y : List Chg} (h : ∀ c ∈ x, ¬ clash1 y c) : after x y = .ok ((placesOf ((x ++ y).map Chg.place)).filterMap (aftP x y)) := by
  unfold after
  refine afterL_ok fun p _ => ?_
  unfold afterAt
  cases hx : findC x p with
  | none => cases findC y p <;> exact ⟨_, rfl⟩
  | some c =>
    cases hy : findC y p with
    | none => exact ⟨_, rfl⟩
    | some d =>
      obtain ⟨hc, rfl⟩ := findC_mem hx
      have : c.now = d.was := Classical.byContradiction fun e => h c hc ⟨d, hy, e⟩
      simp only
      rw [if_pos this]
      exact ⟨_, rfl⟩
/-- the changes as they are found -/
def aftA (x y : List Chg) : List Chg := x.filterMap (aft1 y) ++ y.filter fun d => decide (d.place ∉ x.map Chg.place)
theorem mem_aft {x y : List Chg} (hx : Sorted (x.map Chg.place)) (hy : Sorted (y.map Chg.place)) (h : ∀ c ∈ x, ¬ clash1 y c) (c : Chg) : c ∈ (placesOf ((x ++ y).map Chg.place)).filterMap (aftP x y) ↔ c ∈ aftA x y := by
  unfold aftA
  rw [List.mem_append, List.mem_filterMap, List.mem_filterMap, List.mem_filter]
  constructor
  · rintro ⟨p, hp, hc⟩
    have hcp := aftP_place hc
    unfold aftP afterAt at hc
    cases h1 : findC x p with
    | none =>
      cases h2 : findC y p with
      | none => simp [h1, h2] at hc
      | some d =>
        simp [h1, h2] at hc
        subst hc
        refine .inr ⟨(findC_mem h2).1, ?_⟩
        simp only [decide_eq_true_eq]
        intro hm
        rw [hcp] at hm
        obtain ⟨e, he⟩ := findC_isSome hm
        rw [h1] at he
        cases he
    | some e =>
      obtain ⟨he, hep⟩ := findC_mem h1
      cases h2 : findC y p with
      | none =>
        simp [h1, h2] at hc
        subst hc
        exact .inl ⟨e, he, by unfold aft1; rw [hep, h2]⟩
      | some d =>
        have hnc : e.now = d.was := Classical.byContradiction fun q => h e he ⟨d, by rw [hep]; exact h2, q⟩
        simp only [h1, h2, if_pos hnc] at hc
        refine .inl ⟨e, he, ?_⟩
        unfold aft1
        rw [hep, h2]
        simp only
        split at hc
        · cases hc
        · rename_i hw
          rw [if_neg hw]
          exact hc
  · rintro (⟨e, he, hc⟩ | ⟨hc, hn⟩)
    · refine ⟨e.place, (mem_placesOf _ _).2 (List.mem_map_of_mem (List.mem_append_left _ he)), ?_⟩
      unfold aftP afterAt
      rw [findC_of hx he]
      unfold aft1 at hc
      cases h2 : findC y e.place with
      | none => rw [h2] at hc; exact hc
      | some d =>
        have hnc : e.now = d.was := Classical.byContradiction fun q => h e he ⟨d, h2, q⟩
        rw [h2] at hc
        simp only [if_pos hnc]
        simp only at hc
        split at hc
        · cases hc
        · rename_i hw
          rw [if_neg hw]
          exact hc
    · simp only [decide_eq_true_eq] at hn
      refine ⟨c.place, (mem_placesOf _ _).2 (List.mem_map_of_mem (List.mem_append_right _ hc)), ?_⟩
      unfold aftP afterAt
      rw [findC_none hn, findC_of hy hc]
theorem aftP_sorted (x y : List Chg) {ps : List Place} (h : Sorted ps) : Sorted ((ps.filterMap (aftP x y)).map Chg.place) := by
  have : (ps.filterMap (aftP x y)).map Chg.place = ps.filter fun p => (aftP x y p).isSome := by
    clear h
    induction ps with
    | nil => rfl
    | cons p t ih =>
      rw [List.filterMap_cons, List.filter_cons]
      cases hF : aftP x y p with
      | none => simp [ih]
      | some c => simp [ih, aftP_place hF]
  rw [this]
  exact h.filter _
theorem sortedC_eq {l l' : List Chg} (hs : Sorted (l.map Chg.place)) (hs' : Sorted (l'.map Chg.place)) (h : ∀ c, c ∈ l ↔ c ∈ l') : l = l' := by
  have e : l.map Chg.place = l'.map Chg.place := sorted_eq hs hs' fun q => by
    simp only [List.mem_map]
    exact ⟨fun ⟨c, hc, e⟩ => ⟨c, (h c).1 hc, e⟩, fun ⟨c, hc, e⟩ => ⟨c, (h c).2 hc, e⟩⟩
  have hl : l.length = l'.length := by simpa using congrArg List.length e
  refine List.ext_getElem hl fun i h1 h2 => ?_
  have hp : l[i].place = l'[i].place := by
    have := congrArg (fun m => m[i]?) e
    simp only [List.getElem?_map, List.getElem?_eq_getElem h1, List.getElem?_eq_getElem h2, Option.map_some, Option.some.injEq] at this
    exact this
  have g1 := findC_of hs' ((h l[i]).1 (List.getElem_mem h1))
  have g2 := findC_of hs' (List.getElem_mem h2)
  rw [hp, g2] at g1
  exact (Option.some.inj g1).symm
theorem aftA_nodup {x y : List Chg} (hx : Sorted (x.map Chg.place)) (hy : Sorted (y.map Chg.place)) : ((aftA x y).map Chg.place).Nodup := by
  unfold aftA
  rw [List.map_append, List.nodup_append]
  have hsub : ∀ p ∈ (x.filterMap (aft1 y)).map Chg.place, p ∈ x.map Chg.place := by
    intro p hp
    obtain ⟨c, hc, rfl⟩ := List.mem_map.1 hp
    obtain ⟨e, he, hec⟩ := List.mem_filterMap.1 hc
    rw [aft1_place hec]
    exact List.mem_map_of_mem he
  refine ⟨?_, ?_, ?_⟩
  · have : (x.filterMap (aft1 y)).map Chg.place = (x.filter fun c => (aft1 y c).isSome).map Chg.place := by
      clear hx hsub
      induction x with
      | nil => rfl
      | cons c t ih =>
        rw [List.filterMap_cons, List.filter_cons]
        cases hF : aft1 y c with
        | none => simp [ih]
        | some d => simp [ih, aft1_place hF]
    rw [this]
    exact (sortedP_nodup hx).sublist (List.filter_sublist.map _)
  · exact (sortedP_nodup hy).sublist (List.filter_sublist.map _)
  · intro p hp q hq e
    subst e
    obtain ⟨d, hd, rfl⟩ := List.mem_map.1 hq
    have := (List.mem_filter.1 hd).2
    simp only [decide_eq_true_eq] at this
    exact this (hsub _ hp)
/-- **PUT IN ORDER, THEY ARE WHAT IS SPECIFIED.** -/
theorem after_perm {x y l : List Chg} (hx : Sorted (x.map Chg.place)) (hy : Sorted (y.map Chg.place)) (h : ∀ c ∈ x, ¬ clash1 y c) (hp : l.Perm (aftA x y)) (ho : l.Pairwise fun c d => d.place.lt c.place = false) : after x y = .ok l := by
  rw [after_ok h]
  congr 1
  refine sortedC_eq (aftP_sorted x y (placesOf_sorted _)) ?_ fun c => ?_
  · have h1 : (l.map Chg.place).Pairwise fun p q => q.lt p = false := List.pairwise_map.2 ho
    have h2 : (l.map Chg.place).Nodup := (hp.map Chg.place).nodup_iff.2 (aftA_nodup hx hy)
    refine (h1.and h2).imp fun {p q} ⟨g1, g2⟩ => ?_
    cases h3 : p.lt q with
    | true => rfl
    | false => exact absurd (Place.lt_tri h3 g1) g2
  · rw [mem_aft hx hy h, hp.mem_iff]
theorem findC_filter {p : Place} {q : Chg → Bool} : ∀ {l : List Chg}, (∀ c ∈ l, c.place = p → q c = true) → findC (l.filter q) p = findC l p := by
  intro l
  induction l with
  | nil => intro _; rfl
  | cons c t ih =>
    intro h
    have ht := ih fun d hd => h d (List.mem_cons_of_mem _ hd)
    unfold findC at ht ⊢
    rw [List.filter_cons]
    by_cases e : c.place = p
    · rw [h c (by simp) e]
      simp [e]
    · rw [List.find?_cons, show decide (c.place = p) = false by simp [e]]
      cases q c with
      | true => simp only [if_true, List.find?_cons, show decide (c.place = p) = false by simp [e]]; exact ht
      | false => exact ht
theorem places_ne {l : List Chg} (hs : Sorted (l.map Chg.place)) {i j : Nat} (hi : i < l.length) (hj : j < l.length) (hij : i ≠ j) : l[i].place ≠ l[j].place := by
  have h := sortedP_nodup hs
  intro e
  apply hij
  have : (l.map Chg.place)[i]'(by simpa using hi) = (l.map Chg.place)[j]'(by simpa using hj) := by simpa using e
  exact (List.getElem_inj h).1 this
theorem take_notin {l : List Chg} (hs : Sorted (l.map Chg.place)) {i : Nat} (hi : i < l.length) : l[i].place ∉ (l.take i).map Chg.place := by
  intro h
  obtain ⟨c, hc, e⟩ := List.mem_map.1 h
  obtain ⟨j, hj, rfl⟩ := List.getElem_of_mem hc
  rw [List.length_take] at hj
  rw [List.getElem_take] at e
  exact places_ne hs (by omega) hi (by omega) e
/-- what is left of a list when changes of another one were done -/
def leftC (x y : List Chg) (i : Nat) : List Chg := y.filter fun d => decide (d.place ∉ (x.take i).map Chg.place)
theorem leftC_zero (x y : List Chg) : leftC x y 0 = y := by
  unfold leftC
  simp
theorem leftC_succ (x y : List Chg) {i : Nat} (hi : i < x.length) : leftC x y (i + 1) = (leftC x y i).filter fun d => decide (d.place ≠ x[i].place) := by
  unfold leftC
  rw [List.filter_filter, List.take_succ_eq_append_getElem hi]
  congr 1
  funext d
  rw [Bool.eq_iff_iff]
  simp only [List.map_append, List.map_cons, List.map_nil, List.mem_append, List.mem_singleton, decide_eq_true_eq, Bool.and_eq_true, not_or]
  exact ⟨fun ⟨a, b⟩ => ⟨b, a⟩, fun ⟨a, b⟩ => ⟨b, a⟩⟩
theorem leftC_find {x y : List Chg} (hx : Sorted (x.map Chg.place)) {i : Nat} (hi : i < x.length) : findC (leftC x y i) x[i].place = findC y x[i].place :=
  findC_filter fun c _ e => by
    rw [e]
    simpa using take_notin hx hi
theorem leftC_keep {x y : List Chg} {i : Nat} (hi : i < x.length) (h : findC y x[i].place = none) : leftC x y (i + 1) = leftC x y i := by
  rw [leftC_succ x y hi, List.filter_eq_self]
  intro d hd
  simp only [decide_eq_true_eq]
  intro e
  unfold findC at h
  rw [List.find?_eq_none] at h
  exact h d (List.mem_filter.1 hd).1 (by simp [e])
theorem leftC_all (x y : List Chg) : leftC x y x.length = y.filter fun d => decide (d.place ∉ x.map Chg.place) := by
  unfold leftC
  rw [List.take_length]
theorem leftC_sorted {x y : List Chg} (hy : Sorted (y.map Chg.place)) (i : Nat) : Sorted ((leftC x y i).map Chg.place) := by
  unfold leftC
  exact List.Pairwise.sublist (List.filter_sublist.map _) hy
theorem leftC_end {x y : List Chg} (hy : Sorted (y.map Chg.place)) {j : Nat} (hj : j < y.length) : findC (leftC x y x.length) y[j].place = if y[j].place ∈ x.map Chg.place then none else some y[j] := by
  rw [leftC_all]
  split
  · rename_i h
    apply findC_none
    intro hm
    obtain ⟨d, hd, e⟩ := List.mem_map.1 hm
    have := (List.mem_filter.1 hd).2
    simp only [decide_eq_true_eq] at this
    exact this (e ▸ h)
  · rename_i h
    rw [findC_filter fun c _ e => by rw [e]; simpa using h]
    exact findC_of hy (List.getElem_mem hj)
theorem aft1_chg {y : List Chg} {c : Chg} (h : chgErr c = 0) : (findC y c.place = none → aft1 y c = some (chg c.place c.was c.now)) ∧ ∀ d, findC y c.place = some d → aft1 y c = if c.was = d.now then none else some (chg c.place c.was d.now) := by
  constructor
  · intro e
    unfold aft1
    rw [e, chg_self h]
  · intro d e
    unfold aft1
    rw [e]
/-- what the changes are, or the error -/
def afterR (x y : List Chg) : List Chg × Int :=
  if checkChg x ≠ 0 then ([], checkChg x) else if checkChg y ≠ 0 then ([], checkChg y) else match after x y with
    | .error _ => ([], 7)
    | .ok l => if 80 < l.length then ([], 2) else (l, 0)
end Oyez
namespace Ab
open Go Go.RowKit Go.Proofs
attribute [local irreducible] aws awp aw1 Og Om Oc Oa Ogd Ov Ot awd aw1d awh aw1h Ogh Ohd awl Ogl Ohl awv Ogv Ohv QThen QBlock QFn QFnM QRo QBe ACode AYield
theorem strs_cells {n : Nat} {m : List Nat} (l : List (List UInt8)) : ORn n m (.cells (strs l)) (.cells (strs l)) := .cells _ _ (Nat.le_refl _) (rn_strsL l).2
set_option maxHeartbeats 4000000 in
theorem change_calls (p : Oyez.Place) (s t : Oyez.St) (hs : (getW s).length ≤ 2 ^ 40) (ht : (getW t).length ≤ 2 ^ 40) (σ : Heap) :
    ACalls Tryz.prog 93 [placeAV p, stAV s, stAV t] σ fun v σ' => v = .agg [.int .i64 p.kind, .int .i64 p.number, .bool s.isSome, .bool t.isSome, cloneV σ.length (getW s), cloneV (σ.length + (cloneG (getW s)).length) (getW t)] ∧ σ' = σ ++ (cloneG (getW s) ++ cloneG (getW t)) := by
  have c1 := fun S => clone_calls (getW s) hs S
  have c2 := fun S => clone_calls (getW t) ht S
  obtain ⟨ws, hws⟩ : ∃ w, getW s = w := ⟨_, rfl⟩
  obtain ⟨us, hus⟩ : ∃ w, getW t = w := ⟨_, rfl⟩
  obtain ⟨b1, hb1⟩ : ∃ b, s.isSome = b := ⟨_, rfl⟩
  obtain ⟨b2, hb2⟩ : ∃ b, t.isSome = b := ⟨_, rfl⟩
  unfold stAV
  rw [hws, hb1, hus, hb2]
  rw [hws] at c1
  rw [hus] at c2
  refine ACalls.canon ?_
  rcases ws with _ | ⟨w, ws⟩ <;> rcases us with _ | ⟨u, us⟩
  · refine acalls_fn Tryz.func93 rfl (enters_fn Tryz.func93 (by decide) rfl) ?_
    simp [Tryz.ntmps93]
    refine ACode_drawV [10, 13, 15] [(0, 1), (0, 2), (1, 1), (1, 2), (2, 1), (2, 2), (3, 1), (3, 2), (4, 1), (4, 2), (5, 1), (5, 2), (6, 1), (6, 2), (7, 1), (7, 2), (11, 0), (12, 0)] mixed (by kernel_rfl) (by kernel_rfl) ?_
    simp [Nat.add_assoc]
    refine OuH_of (c1 _) ?_
    simp [cloneV, cloneG, Nat.add_assoc]
    refine OuH_of (c2 _) ?_
    simp [cloneV, cloneG, Nat.add_assoc]
    refine ⟨[], [], rfl, by decide, ?_, .agg [.int .i64 p.kind, .int .i64 p.number, .bool b1, .bool b2, .pl 1 [], .pl 1 []], .agg _ _ rfl (RnL.cons (.int _ _) (RnL.cons (.int _ _) (RnL.cons (.bool _) (RnL.cons (.bool _) (RnL.cons (.pl0 1 1) (RnL.cons (.pl0 1 1) (RnL.nil _ _))))))).2, rfl, rfl⟩
    exact fun i o' ho => by
      match i, ho with
      | i + 0, ho => simp at ho
  · refine acalls_fn Tryz.func93 rfl (enters_fn Tryz.func93 (by decide) rfl) ?_
    simp [Tryz.ntmps93]
    refine ACode_drawV [10, 13, 15] [(0, 1), (0, 2), (1, 1), (1, 2), (2, 1), (2, 2), (3, 1), (3, 2), (4, 1), (4, 2), (5, 1), (5, 2), (6, 1), (6, 2), (7, 1), (7, 2), (11, 0), (12, 0)] mixed (by kernel_rfl) (by kernel_rfl) ?_
    simp [Nat.add_assoc]
    refine OuH_of (c1 _) ?_
    simp [cloneV, cloneG, Nat.add_assoc]
    refine OuH_of (c2 _) ?_
    simp [cloneV, cloneG, Nat.add_assoc]
    refine ⟨[.cells (strs (u :: us))], [4], rfl, by decide, ?_, .agg [.int .i64 p.kind, .int .i64 p.number, .bool b1, .bool b2, .pl 1 [], .arr 1 σ.length 0 (us.length + 1)], .agg _ _ rfl (RnL.cons (.int _ _) (RnL.cons (.int _ _) (RnL.cons (.bool _) (RnL.cons (.bool _) (RnL.cons (.pl0 1 1) (RnL.cons (.arr 1 0 4 0 _ rfl) (RnL.nil _ _))))))).2, rfl, rfl⟩
    exact fun i o' ho => by
      match i, ho with
      | 0, ho =>
        simp at ho
        subst ho
        exact ⟨4, rfl, _, rfl, strs_cells (u :: us)⟩
      | i + 1, ho => simp at ho
  · refine acalls_fn Tryz.func93 rfl (enters_fn Tryz.func93 (by decide) rfl) ?_
    simp [Tryz.ntmps93]
    refine ACode_drawV [10, 13, 15] [(0, 1), (0, 2), (1, 1), (1, 2), (2, 1), (2, 2), (3, 1), (3, 2), (4, 1), (4, 2), (5, 1), (5, 2), (6, 1), (6, 2), (7, 1), (7, 2), (11, 0), (12, 0)] mixed (by kernel_rfl) (by kernel_rfl) ?_
    simp [Nat.add_assoc]
    refine OuH_of (c1 _) ?_
    simp [cloneV, cloneG, Nat.add_assoc]
    refine OuH_of (c2 _) ?_
    simp [cloneV, cloneG, Nat.add_assoc]
    refine ⟨[.cells (strs (w :: ws))], [4], rfl, by decide, ?_, .agg [.int .i64 p.kind, .int .i64 p.number, .bool b1, .bool b2, .arr 1 σ.length 0 (ws.length + 1), .pl 1 []], .agg _ _ rfl (RnL.cons (.int _ _) (RnL.cons (.int _ _) (RnL.cons (.bool _) (RnL.cons (.bool _) (RnL.cons (.arr 1 0 4 0 _ rfl) (RnL.cons (.pl0 1 1) (RnL.nil _ _))))))).2, rfl, rfl⟩
    exact fun i o' ho => by
      match i, ho with
      | 0, ho =>
        simp at ho
        subst ho
        exact ⟨4, rfl, _, rfl, strs_cells (w :: ws)⟩
      | i + 1, ho => simp at ho
  · refine acalls_fn Tryz.func93 rfl (enters_fn Tryz.func93 (by decide) rfl) ?_
    simp [Tryz.ntmps93]
    refine ACode_drawV [10, 13, 15] [(0, 1), (0, 2), (1, 1), (1, 2), (2, 1), (2, 2), (3, 1), (3, 2), (4, 1), (4, 2), (5, 1), (5, 2), (6, 1), (6, 2), (7, 1), (7, 2), (11, 0), (12, 0)] mixed (by kernel_rfl) (by kernel_rfl) ?_
    simp [Nat.add_assoc]
    refine OuH_of (c1 _) ?_
    simp [cloneV, cloneG, Nat.add_assoc]
    refine OuH_of (c2 _) ?_
    simp [cloneV, cloneG, Nat.add_assoc]
    refine ⟨[.cells (strs (w :: ws)), .cells (strs (u :: us))], [4, 5], rfl, by decide, ?_, .agg [.int .i64 p.kind, .int .i64 p.number, .bool b1, .bool b2, .arr 1 σ.length 0 (ws.length + 1), .arr 1 (σ.length + 1) 0 (us.length + 1)], .agg _ _ rfl (RnL.cons (.int _ _) (RnL.cons (.int _ _) (RnL.cons (.bool _) (RnL.cons (.bool _) (RnL.cons (.arr 1 0 4 0 _ rfl) (RnL.cons (.arr 1 1 5 0 _ rfl) (RnL.nil _ _))))))).2, rfl, rfl⟩
    exact fun i o' ho => by
      match i, ho with
      | 0, ho =>
        simp at ho
        subst ho
        exact ⟨4, rfl, _, rfl, strs_cells (w :: ws)⟩
      | 1, ho =>
        simp at ho
        subst ho
        exact ⟨5, rfl, _, rfl, strs_cells (u :: us)⟩
      | i + 2, ho => simp at ho
end Ab
namespace Ab
open Go Go.RowKit Go.Proofs
attribute [local irreducible] aws awp aw1 Og Om Oc Oa Ogd Ov Ot awd aw1d awh aw1h Ogh Ohd awl Ogl Ohl QThen QBlock QFn QFnM QRo QBe ACode AYield
section
variable [Mode]
/-- a change of which the place is known -/
def unAV (p : Oyez.Place) : AV := .agg [.int .i64 p.kind, .int .i64 p.number, .un, .un, .un, .un]
theorem cplace_M (p : Oyez.Place) : APure Tryz.prog 95 [unAV p] (placeAV p) := by
  refine APure.of fun σ => ?_
  refine acalls_fn Tryz.func95 rfl (enters_fn Tryz.func95 (by decide) rfl) ?_
  simp [Tryz.ntmps95, unAV]
theorem cmp115_M (p q : Oyez.Place) : APure Tryz.prog 99 [unAV p, unAV q] (.int .i64 (cmpP p q)) := by
  refine APure.of fun σ => ?_
  refine acalls_fn Tryz.func99 rfl (enters_fn Tryz.func99 (by decide) rfl) ?_
  simp [Tryz.ntmps99, unAV]
  refine ACode_draw0 mixed (by kernel_rfl) ?_
  simp
  refine Ou_use0 (cplace_M p) ?_
  refine Ou_use0 (cplace_M q) ?_
  refine Ou_use0 (compare_M p q) ?_
  simp
end
theorem cmp4_exact (x y : El 4) (W : World) (hW : GoodW W) : Calls Tryz.prog 99 #[.agg x.l.toArray, .agg y.l.toArray] W fun e w' => e = .returned (.int .i64 (cmpP x.place y.place)) ∧ ∃ q os', w' = Go.Sort.grow (W.drewN q) os' := by
  have key := exact_of (enters_fn Tryz.func99 (by decide) rfl) (@cmp115_M strictM x.place y.place) hW (cargs := [.agg x.l.toArray, .agg y.l.toArray]) (fun C _ _ => by
    have one : ∀ x : El 4, VR C (unAV x.place) (.agg x.l.toArray) := fun x => by
      obtain ⟨t, ht⟩ := x.key
      have hl := x.len
      have ho := x.one
      refine .agg _ _ hl.symm fun i a c ha hc => ?_
      have hm := ho c (List.mem_of_getElem? hc)
      rw [ht] at hc
      match i, ha, hc with
      | 0, ha, hc => simp at ha hc; subst ha; subst hc; exact .int _ _
      | 1, ha, hc => simp at ha hc; subst ha; subst hc; exact .int _ _
      | 2, ha, hc => simp at ha; subst ha; exact .un _ hm
      | 3, ha, hc => simp at ha; subst ha; exact .un _ hm
      | 4, ha, hc => simp at ha; subst ha; exact .un _ hm
      | 5, ha, hc => simp at ha; subst ha; exact .un _ hm
      | i + 6, ha, _ => simp at ha
    exact .cons (one x) (.cons (one y) (.nil C)))
  exact key
theorem sortCh_calls {σ : Heap} {r : Nat} (rows : List AV) (hrow : ∀ x ∈ rows, ElRow 4 x) (hr : σ[r]? = some (.cells (rows.flatMap AV.cells))) (hn : rows.length ≤ 2 ^ 40) :
    ACalls Tryz.prog 98 [.arr 6 r 0 rows.length, .fn (.func 99) [] []] σ fun v σ' => v = .tup [] ∧ ∃ rows' : List AV, rows'.Perm rows ∧ rows'.Pairwise (fun x y => (keyOf y).lt (keyOf x) = false) ∧ σ' = σ.set r (.cells (rows'.flatMap AV.cells)) :=
  sort_calls (m := 4) Tryz.sortCh (g := 99) (fid := 98) rfl (enters_fn Tryz.func98 (by decide) rfl) Tryz.isAgg75 Tryz.sizeOf75 (enters_fn Tryz.func99 (by decide) rfl) cmp4_exact rows hrow hr (by omega)
theorem sortCh_nil : APure Tryz.prog 98 [.nils, .fn (.func 99) [] []] (.tup []) := by
  refine APure.kit (enters_fn Tryz.func98 (by decide) rfl) fun C cargs σ hI hv => ?_
  obtain ⟨x, q, rfl, hx, hq⟩ := hv.inv
  obtain ⟨y, q, rfl, hy, hq⟩ := hq.inv
  obtain rfl := hq.of_nil
  cases hx
  refine (AnyF.slices_SortFunc_none Tryz.sortCh none 0 y C.w).mono ?_
  rintro e w' ⟨rfl, rfl⟩
  exact ⟨_, rfl, .tup [] [] rfl (by simp), Below.refl _ _⟩
end Ab
namespace Ab
open Go Go.RowKit Go.Proofs
theorem Acc.base {σ σ' g : Heap} {k : Nat} {v : AV} {l : List AV} {o : Option Nat} (h : Acc σ g k v l o) (hl : σ.length = σ'.length) : Acc σ' g k v l o := ⟨h.len, by
  have hv := h.val
  cases o with
  | none => exact hv
  | some j => rw [← hl]; exact hv⟩
/-- words of a change that is being laid -/
def RW (n : Nat) (g : Heap) (o : Option Nat) (w : AV) (ws : List (List UInt8)) : Prop := (ws = [] ∧ w = .pl 1 []) ∨ ∃ j, w = .arr 1 (n + j) 0 ws.length ∧ g[j]? = some (.cells (strs ws)) ∧ o ≠ some j
/-- changes that are being laid -/
structure MC (σ g : Heap) (L : List Oyez.Chg) (v : AV) : Prop where
  ex : ∃ (o : Option Nat) (vals : List AV), Acc σ g 6 v vals o ∧ (o = none ∨ vals ≠ []) ∧ (∀ j, o = some j → 2 ≤ j) ∧ vals.length = L.length ∧ ∀ (i : Nat) (c : Oyez.Chg), L[i]? = some c → ∃ w1 w2, vals[i]? = some (.agg [.int .i64 c.kind, .int .i64 c.number, .bool c.had, .bool c.has, w1, w2]) ∧ RW σ.length g o w1 c.old ∧ RW σ.length g o w2 c.new
theorem RW.one {n : Nat} {g : Heap} {o : Option Nat} {w : AV} {ws : List (List UInt8)} (h : RW n g o w ws) : w.one = true := by rcases h with ⟨_, rfl⟩ | ⟨j, rfl, _⟩ <;> rfl
theorem RW.more {n : Nat} {g : Heap} {o : Option Nat} {w : AV} {ws : List (List UInt8)} (h : RW n g o w ws) (X : Heap) : RW n (g ++ X) o w ws := by
  rcases h with h | ⟨j, h1, h2, h3⟩
  · exact .inl h
  · exact .inr ⟨j, h1, get_app h2, h3⟩
theorem MC.nil (σ g : Heap) : MC σ g [] .nils := ⟨none, [], Acc.nil _ _ _, .inl rfl, fun j h => (by cases h), rfl, fun i c h => by simp at h⟩
theorem MC.base {σ σ' g : Heap} {L : List Oyez.Chg} {v : AV} (h : MC σ g L v) (hl : σ.length = σ'.length) : MC σ' g L v := by
  obtain ⟨o, vals, h1, h0, hlo, h2, h3⟩ := h.ex
  exact ⟨o, vals, h1.base hl, h0, hlo, h2, by rw [← hl]; exact h3⟩
theorem MC.more {σ g : Heap} {L : List Oyez.Chg} {v : AV} (h : MC σ g L v) (X : Heap) : MC σ (g ++ X) L v := by
  obtain ⟨o, vals, h1, h0, hlo, h2, h3⟩ := h.ex
  exact ⟨o, vals, h1.more X, h0, hlo, h2, fun i c hc => by obtain ⟨w1, w2, a, b, d⟩ := h3 i c hc; exact ⟨w1, w2, a, b.more X, d.more X⟩⟩
theorem MC.len {σ g : Heap} {L : List Oyez.Chg} {v : AV} (h : MC σ g L v) (S : Heap) : alen Tryz.prog 60 v S = some (.int .i64 L.length) := by
  obtain ⟨o, vals, h1, h0, hlo, h2, _⟩ := h.ex
  have hv := h1.val
  cases o with
  | none =>
    obtain ⟨rfl, rfl⟩ := hv
    rw [← h2]
    simp
  | some j =>
    obtain ⟨rfl, _⟩ := hv
    rw [← h2]
    simp
theorem RW.clone {n : Nat} {g Y : Heap} {o : Option Nat} (ws : List (List UInt8)) (ho : ∀ j, o = some j → j < g.length) : RW n (g ++ (cloneG ws ++ Y)) o (cloneV (n + g.length) ws) ws := by
  unfold cloneV cloneG
  by_cases h : ws = []
  · exact .inl ⟨h, by rw [if_pos h]⟩
  · rw [if_neg h, if_neg h]
    refine .inr ⟨g.length, rfl, by simp, fun e => ?_⟩
    have := ho _ e
    omega
theorem MC.put0 {σ g : Heap} {L : List Oyez.Chg} {v : AV} (h : MC σ g L v) (hl : L.length ≤ 2 ^ 40) (hg2 : 2 ≤ g.length) (c : Oyez.Chg) :
    ∃ v' g', aappend Tryz.prog #[60, 60] v (.arr 6 (σ.length + (g ++ (cloneG c.old ++ cloneG c.new)).length) 0 1)
      (σ ++ ((g ++ (cloneG c.old ++ cloneG c.new)) ++ [.cells [.int .i64 c.kind, .int .i64 c.number, .bool c.had, .bool c.has, cloneV (σ.length + g.length) c.old, cloneV (σ.length + (g.length + (cloneG c.old).length)) c.new]])) = some (v', σ ++ g') ∧ MC σ g' (L ++ [c]) v' ∧ ∀ j, j < 2 → g'[j]? = g[j]? := by
  obtain ⟨o, vals, h1, h0, hlo, h2, h3⟩ := h.ex
  have hlt : ∀ j, o = some j → j < g.length := fun j e => by subst e; exact h1.lt
  have n1 : RW σ.length (g ++ (cloneG c.old ++ cloneG c.new)) o (cloneV (σ.length + g.length) c.old) c.old := RW.clone _ hlt
  have n2 : RW σ.length (g ++ (cloneG c.old ++ cloneG c.new)) o (cloneV (σ.length + (g.length + (cloneG c.old).length)) c.new) c.new := by
    have := RW.clone (n := σ.length) (g := g ++ cloneG c.old) (Y := []) (o := o) c.new fun j e => by have := hlt j e; rw [List.length_append]; omega
    rwa [List.append_nil, List.append_assoc, List.length_append] at this
  obtain ⟨v', g', o', he, hA', hgl, hkeep, ho⟩ := (h1.more (cloneG c.old ++ cloneG c.new)).push (P := Tryz.prog) (t := 60) (e := 75) (ag := true) (x := .agg [.int .i64 c.kind, .int .i64 c.number, .bool c.had, .bool c.has, cloneV (σ.length + g.length) c.old, cloneV (σ.length + (g.length + (cloneG c.old).length)) c.new])
    (by simp) (by simp) (by simp) (by omega) ⟨rfl, fun y hy => by
      simp only [AV.cells, List.mem_cons, List.not_mem_nil, or_false] at hy
      rcases hy with rfl | rfl | rfl | rfl | rfl | rfl
      · rfl
      · rfl
      · rfl
      · rfl
      · exact n1.one
      · exact n2.one⟩ (by simp; omega)
  have hlo' : ∀ j, o' = some j → 2 ≤ j := by
    intro j e
    rcases ho with e2 | ⟨m, hm, e2⟩
    · exact hlo j (e2 ▸ e)
    · rw [e] at e2
      have := Option.some.inj e2
      rw [List.length_append] at hm
      omega
  refine ⟨v', g', he, ⟨o', vals ++ [_], hA', .inr (by simp), hlo', by simp [h2], fun i d hd => ?_⟩, fun j hj => ?_⟩
  rotate_left
  · rw [hkeep j (fun e => by have := hlo j e.symm; omega) (by rw [List.length_append]; omega), List.getElem?_append_left (by omega)]
  have turn : ∀ {w : AV} {ws : List (List UInt8)}, RW σ.length (g ++ (cloneG c.old ++ cloneG c.new)) o w ws → RW σ.length g' o' w ws := by
    intro w ws hw
    rcases hw with hw | ⟨j, a1, a2, a3⟩
    · exact .inl hw
    · have hj := (List.getElem?_eq_some_iff.1 a2).1
      refine .inr ⟨j, a1, by rw [hkeep j (fun e => a3 e.symm) hj]; exact a2, fun e => ?_⟩
      rcases ho with e2 | ⟨m, hm, e2⟩
      · exact a3 (e2 ▸ e)
      · rw [e] at e2
        have := Option.some.inj e2
        omega
  rcases Nat.lt_or_ge i L.length with hi | hi
  · rw [List.getElem?_append_left hi] at hd
    obtain ⟨w1, w2, a, b, e⟩ := h3 i d hd
    exact ⟨w1, w2, by rw [List.getElem?_append_left (by omega)]; exact a, turn (b.more _), turn (e.more _)⟩
  · rw [List.getElem?_append_right hi] at hd
    have hi0 : i - L.length = 0 := by
      have := (List.getElem?_eq_some_iff.1 hd).1
      simp at this
      omega
    rw [hi0] at hd
    simp at hd
    subst hd
    exact ⟨_, _, by rw [List.getElem?_append_right (by omega), show i - vals.length = 0 by omega]; rfl, turn n1, turn n2⟩
theorem MC.put {σ g : Heap} {a b : AObj} {L : List Oyez.Chg} {v : AV} (h : MC σ (a :: b :: g) L v) (hl : L.length ≤ 2 ^ 40) (c : Oyez.Chg) :
    ∃ v' g', aappend Tryz.prog #[60, 60] v (.arr 6 (σ.length + ((a :: b :: g) ++ (cloneG c.old ++ cloneG c.new)).length) 0 1)
      (σ ++ (((a :: b :: g) ++ (cloneG c.old ++ cloneG c.new)) ++ [.cells [.int .i64 c.kind, .int .i64 c.number, .bool c.had, .bool c.has, cloneV (σ.length + (a :: b :: g).length) c.old, cloneV (σ.length + ((a :: b :: g).length + (cloneG c.old).length)) c.new]])) = some (v', σ ++ (a :: b :: g')) ∧ MC σ (a :: b :: g') (L ++ [c]) v' := by
  obtain ⟨v', g', h1, h2, h3⟩ := h.put0 hl (by simp) c
  have h30 := h3 0 (by omega)
  have h31 := h3 1 (by omega)
  rcases g' with _ | ⟨p, _ | ⟨q, t⟩⟩
  · simp at h30
  · simp at h31
  · simp at h30 h31
    subst h30; subst h31
    exact ⟨v', t, h1, h2⟩
theorem MC.zero {σ g : Heap} {v : AV} (h : MC σ g [] v) : v = .nils := by
  obtain ⟨o, vals, h1, h0, hlo, h2, _⟩ := h.ex
  have hv : vals = [] := List.eq_nil_of_length_eq_zero h2
  subst hv
  rcases h0 with rfl | h0
  · exact h1.val.1
  · exact absurd rfl h0
/-- the map ahead of them is another one -/
theorem MC.map {σ g : Heap} {a : AObj} {es : List (AV × AV)} {L : List Oyez.Chg} {v : AV} (h : MC σ (a :: .map es :: g) L v) (es' : List (AV × AV)) : MC σ (a :: .map es' :: g) L v := by
  have key : ∀ (j : Nat) (cs : List AV), (a :: .map es :: g)[j]? = some (.cells cs) → (a :: .map es' :: g)[j]? = some (.cells cs) := by
    intro j cs hj
    match j, hj with
    | 0, hj => exact hj
    | 1, hj => simp at hj
    | j + 2, hj => exact hj
  obtain ⟨o, vals, h1, h0, hlo, h2, h3⟩ := h.ex
  have hA : Acc σ (a :: .map es' :: g) 6 v vals o := ⟨h1.len, by
    have hv := h1.val
    cases o with
    | none => exact hv
    | some j => exact ⟨hv.1, key j _ hv.2⟩⟩
  have turn : ∀ {w : AV} {ws : List (List UInt8)}, RW σ.length (a :: .map es :: g) o w ws → RW σ.length (a :: .map es' :: g) o w ws := by
    intro w ws hw
    rcases hw with hw | ⟨j, a1, a2, a3⟩
    · exact .inl hw
    · exact .inr ⟨j, a1, key j _ a2, a3⟩
  exact ⟨o, vals, hA, h0, hlo, h2, fun i c hc => by obtain ⟨w1, w2, x1, x2, x3⟩ := h3 i c hc; exact ⟨w1, w2, x1, turn x2, turn x3⟩⟩
/-- changes of the call's own, as they lie; each list of words is as X says -/
structure OwnC (X : List (List UInt8) → List AV → Prop) (lo : Nat) (τ : Heap) (L : List Oyez.Chg) (v : AV) : Prop where
  row : (L = [] ∧ v = .nils) ∨ ∃ r, lo ≤ r ∧ v = .arr 6 r 0 L.length ∧ ∃ cs, τ[r]? = some (.cells cs) ∧ cs.length = L.length * 6 ∧ ∀ (i : Nat) (c : Oyez.Chg), L[i]? = some c → ∃ w1 w2,
    List.take 6 (List.drop (i * 6) cs) = [.int .i64 c.kind, .int .i64 c.number, .bool c.had, .bool c.has, w1, w2] ∧
    (∀ w ws, (w, ws) = (w1, c.old) ∨ (w, ws) = (w2, c.new) → (ws = [] ∧ w = .pl 1 []) ∨ ∃ (q : Nat) (xs : List AV), lo ≤ q ∧ q ≠ r ∧ w = .arr 1 q 0 ws.length ∧ τ[q]? = some (.cells xs) ∧ X ws xs)
/-- the row of values that were put in order -/
theorem MC.sorted {σ g : Heap} {L : List Oyez.Chg} {v : AV} (h : MC σ g L v) (hL : L ≠ []) : ∃ (r : Nat) (vals : List AV), v = .arr 6 (σ.length + r) 0 vals.length ∧ vals.length = L.length ∧ (σ ++ g)[σ.length + r]? = some (.cells (vals.flatMap AV.cells)) ∧ (∀ x ∈ vals, ElRow 4 x) ∧
    ∀ vals' : List AV, vals'.Perm vals → vals'.Pairwise (fun x y => (keyOf y).lt (keyOf x) = false) → ∃ L' : List Oyez.Chg, L'.Perm L ∧ L'.Pairwise (fun c d => d.place.lt c.place = false) ∧ OwnC asIs σ.length ((σ ++ g).set (σ.length + r) (.cells (vals'.flatMap AV.cells))) L' v := by
  obtain ⟨o, vals, h1, h0, hlo, h2, h3⟩ := h.ex
  have hv := h1.val
  cases o with
  | none =>
    obtain ⟨rfl, rfl⟩ := hv
    exact absurd (List.eq_nil_of_length_eq_zero h2.symm) hL
  | some r =>
    obtain ⟨rfl, hg⟩ := hv
    have hgr : (σ ++ g)[σ.length + r]? = some (.cells (vals.flatMap AV.cells)) := by rw [List.getElem?_append_right (by omega), Nat.add_sub_cancel_left]; exact hg
    have hrl := (List.getElem?_eq_some_iff.1 hgr).1
    -- each value with its change
    have hz : (vals.zip L).map Prod.fst = vals := List.map_fst_zip (by omega)
    have hz2 : (vals.zip L).map Prod.snd = L := List.map_snd_zip (by omega)
    have hpair : ∀ x ∈ vals.zip L, ∃ w1 w2, x.1 = .agg [.int .i64 x.2.kind, .int .i64 x.2.number, .bool x.2.had, .bool x.2.has, w1, w2] ∧ RW σ.length g (some r) w1 x.2.old ∧ RW σ.length g (some r) w2 x.2.new := by
      intro x hx
      obtain ⟨i, hi⟩ := List.getElem?_of_mem hx
      rw [List.getElem?_zip_eq_some] at hi
      obtain ⟨w1, w2, a, b, d⟩ := h3 i x.2 hi.2
      rw [hi.1] at a
      exact ⟨w1, w2, Option.some.inj a, b, d⟩
    refine ⟨r, vals, rfl, h2, hgr, fun x hx => ?_, fun vals' hp hs => ?_⟩
    · rw [← hz] at hx
      obtain ⟨y, hy, rfl⟩ := List.mem_map.1 hx
      obtain ⟨w1, w2, a, b, d⟩ := hpair y hy
      exact ⟨y.2.kind, y.2.number, [.bool y.2.had, .bool y.2.has, w1, w2], by rw [a]; rfl, rfl, by simp [-AV.one, b.one, d.one]; exact ⟨rfl, rfl⟩⟩
    · obtain ⟨z', hz1, hz3⟩ := perm_map Prod.fst hp hz.symm
      have hmem : ∀ x ∈ z', x ∈ vals.zip L := fun x hx => hz1.mem_iff.1 hx
      have hl' : z'.length = L.length := by rw [hz1.length_eq, List.length_zip]; omega
      refine ⟨z'.map Prod.snd, by rw [← hz2]; exact hz1.map _, ?_, ⟨.inr ⟨σ.length + r, by omega, by rw [List.length_map, hl', h2], _, List.getElem?_set_self hrl, ?_, fun i c hc => ?_⟩⟩⟩
      · rw [← hz3, List.pairwise_map] at hs
        rw [List.pairwise_map]
        refine hs.imp_of_mem fun {x y} hx hy hxy => ?_
        obtain ⟨_, _, a, _, _⟩ := hpair x (hmem x hx)
        obtain ⟨_, _, b, _, _⟩ := hpair y (hmem y hy)
        rw [a, b] at hxy
        exact hxy
      · have : (vals'.flatMap AV.cells).length = vals'.length * 6 := flat_len _ fun x hx => by
          rw [← hz3] at hx
          obtain ⟨y, hy, rfl⟩ := List.mem_map.1 hx
          obtain ⟨_, _, a, _, _⟩ := hpair y (hmem y hy)
          rw [a]; rfl
        rw [this, ← hz3, List.length_map, List.length_map]
      · rw [List.getElem?_map, Option.map_eq_some_iff] at hc
        obtain ⟨y, hy, rfl⟩ := hc
        obtain ⟨w1, w2, a, b, d⟩ := hpair y (hmem y (List.mem_of_getElem? hy))
        refine ⟨w1, w2, ?_, fun w ws hw => ?_⟩
        · apply List.ext_getElem?
          intro j
          rcases Nat.lt_or_ge j 6 with hj | hj
          · rw [List.getElem?_take_of_lt hj, List.getElem?_drop, flat_get (k := 6) _ (fun x hx => by
              rw [← hz3] at hx
              obtain ⟨y, hy, rfl⟩ := List.mem_map.1 hx
              obtain ⟨_, _, a, _, _⟩ := hpair y (hmem y hy)
              rw [a]; rfl) (by decide), show (i * 6 + j) / 6 = i by omega, show (i * 6 + j) % 6 = j by omega, ← hz3, List.getElem?_map, hy]
            simp only [Option.map_some, Option.bind_some]
            rw [a]
            rfl
          · rw [List.getElem?_eq_none (by simp; omega), List.getElem?_eq_none (by simpa using hj)]
        · have key : ∀ {w : AV} {ws : List (List UInt8)}, RW σ.length g (some r) w ws → (ws = [] ∧ w = .pl 1 []) ∨ ∃ (q : Nat) (xs : List AV), σ.length ≤ q ∧ q ≠ σ.length + r ∧ w = .arr 1 q 0 ws.length ∧ ((σ ++ g).set (σ.length + r) (.cells (vals'.flatMap AV.cells)))[q]? = some (.cells xs) ∧ asIs ws xs := by
            intro w ws hw
            rcases hw with hw | ⟨j, a1, a2, a3⟩
            · exact .inl hw
            · have hne : r ≠ j := fun e => a3 (by rw [e])
              exact .inr ⟨σ.length + j, strs ws, by omega, by omega, a1, by rw [List.getElem?_set_ne (by omega), List.getElem?_append_right (by omega), Nat.add_sub_cancel_left]; exact a2, rfl⟩
          rcases hw with hw | hw
          · obtain ⟨rfl, rfl⟩ := Prod.mk.inj hw; exact key b
          · obtain ⟨rfl, rfl⟩ := Prod.mk.inj hw; exact key d
theorem one_int (k : IntKind) (n : Int) : (AV.int k n).one = true := rfl
theorem one_bool (b : Bool) : (AV.bool b).one = true := rfl
theorem one_clone (n : Nat) (ws : List (List UInt8)) : (cloneV n ws).one = true := by unfold cloneV; split <;> rfl
/-- the entries of changes in a map -/
def entsC (l : List Oyez.Chg) : List (AV × AV) := l.map fun c => (placeAV c.place, chgAV c)
theorem afindC_none (p : Oyez.Place) : ∀ (l : List Oyez.Chg) (i : Nat), Oyez.findC l p = none → afind [1, 1] [.int .i64 p.kind, .int .i64 p.number] (entsC l) i = some none := by
  intro l
  induction l with
  | nil => intro i _; rfl
  | cons c t ih =>
    intro i h
    unfold Oyez.findC at h
    rw [List.find?_cons] at h
    by_cases e : c.place = p
    · simp [e] at h
    · simp only [e, decide_false] at h
      have hne : decide (p = c.place) = false := by simpa using fun e2 : p = c.place => e e2.symm
      have hc : entsC (c :: t) = (placeAV c.place, chgAV c) :: entsC t := rfl
      rw [hc]
      show (match aeqs [1, 1] [.int .i64 p.kind, .int .i64 p.number] [.int .i64 c.place.kind, .int .i64 c.place.number] with
        | some true => some (some (i, chgAV c))
        | some false => afind [1, 1] [.int .i64 p.kind, .int .i64 p.number] (entsC t) (i + 1)
        | none => none) = some none
      rw [aeqs_place, hne]
      exact ih (i + 1) h
theorem afindC_some (p : Oyez.Place) (d : Oyez.Chg) : ∀ (l : List Oyez.Chg) (i : Nat), Oyez.Sorted (l.map Oyez.Chg.place) → Oyez.findC l p = some d → ∃ j, afind [1, 1] [.int .i64 p.kind, .int .i64 p.number] (entsC l) i = some (some (i + j, chgAV d)) ∧ (entsC l).eraseIdx j = entsC (l.filter fun c => decide (c.place ≠ p)) := by
  intro l
  induction l with
  | nil => intro i _ h; cases h
  | cons c t ih =>
    intro i hs h
    rw [List.map_cons] at hs
    obtain ⟨s1, s2⟩ := List.pairwise_cons.1 hs
    unfold Oyez.findC at h
    rw [List.find?_cons] at h
    have hc : entsC (c :: t) = (placeAV c.place, chgAV c) :: entsC t := rfl
    have hstep : afind [1, 1] [.int .i64 p.kind, .int .i64 p.number] (entsC (c :: t)) i = (match aeqs [1, 1] [.int .i64 p.kind, .int .i64 p.number] [.int .i64 c.place.kind, .int .i64 c.place.number] with
        | some true => some (some (i, chgAV c))
        | some false => afind [1, 1] [.int .i64 p.kind, .int .i64 p.number] (entsC t) (i + 1)
        | none => none) := rfl
    rw [hstep, aeqs_place]
    by_cases e : c.place = p
    · subst e
      simp only [decide_true, Option.some.injEq] at h
      subst h
      refine ⟨0, by simp, ?_⟩
      rw [hc, List.eraseIdx_cons_zero, List.filter_cons, if_neg (by simp)]
      congr 1
      symm
      rw [List.filter_eq_self]
      intro a ha
      have := s1 a.place (List.mem_map_of_mem ha)
      simp only [decide_eq_true_eq]
      intro e2
      rw [e2, Oyez.Place.lt_irrefl] at this
      cases this
    · simp only [e, decide_false] at h
      have hne : decide (p = c.place) = false := by simpa using fun e2 : p = c.place => e e2.symm
      rw [hne]
      obtain ⟨j, h1, h2⟩ := ih (i + 1) s2 h
      refine ⟨j + 1, ?_, ?_⟩
      · show afind [1, 1] [.int .i64 p.kind, .int .i64 p.number] (entsC t) (i + 1) = _
        rw [h1]
        congr 2
        congr 1
        omega
      · rw [hc, List.eraseIdx_cons_succ, h2, List.filter_cons, if_pos (by simpa using e)]
        rfl
end Ab
