/-
  PLAIN LAWS: what is joined, place by place; changes that are differences; what a file has at a place, as a text.
-/
import Derived.Test.YtdifgaapdnbliaaGreatDoorL15
import Derived.Test.YtdifgaapdnbliaaGreatDoorL14
import Derived.Test.YtdifgaapdnbliaaGreatDoorL25
set_option linter.unusedSimpArgs false
set_option linter.unusedVariables false
set_option linter.unusedSectionVars false
namespace Oyez
/-! ### what a file has, as a text -/
def hasS : St → S
  | none => []
  | some ws => 32 :: glueW ws
def WordSt (x : St) : Prop := ∀ ws, x = some ws → ∀ w ∈ ws, word w = true
theorem getIn_mem {f : List Rec} {p : Place} {ws : List S} (h : getIn f p = some ws) : ∃ r ∈ f, r.place = p ∧ r.words = ws := by
  unfold getIn at h
  rw [Option.map_eq_some_iff] at h
  obtain ⟨r, h1, rfl⟩ := h
  exact ⟨r, List.mem_of_find?_eq_some h1, by simpa using List.find?_some h1, rfl⟩
/-! ### joins, place by place -/
def clashAt (x y z : St) : Bool := decide (¬ y = z ∧ ¬ y = x ∧ ¬ z = x)
def confAt (base a b : List Rec) (p : Place) : Bool := clashAt (getIn base p) (getIn a p) (getIn b p)
def joinV (base a b : List Rec) (s : List Bool) (i : Nat) (p : Place) : St :=
  if getIn a p = getIn b p ∨ getIn b p = getIn base p then getIn a p else if getIn a p = getIn base p then getIn b p else pickJ s i (getIn base p) (getIn a p) (getIn b p)
def joinPl (base a b : List Rec) : List Place := placesOf ((base ++ a ++ b).map Rec.place)
/-- the places of the conflicts -/
def confsOf (base a b : List Rec) : List Place := (joinPl base a b).filter (confAt base a b)
theorem joinAt_out (base a b : List Rec) (s : List Bool) (J : Jn) (p : Place) :
    (joinAt base a b s J p).out = J.out ++ (recAt (joinV base a b s J.conf.length) p).toList ∧ (joinAt base a b s J p).conf.map Chg.place = J.conf.map Chg.place ++ if confAt base a b p then [p] else [] := by
  rw [joinAt_step]
  have hput : ∀ (J : Jn) (w : St), (putJ J p w).out = J.out ++ (w.map fun ws => (⟨p.kind, p.number, ws⟩ : Rec)).toList ∧ (putJ J p w).conf = J.conf := by
    intro J w
    unfold putJ
    cases w <;> simp
  unfold stepJ recAt joinV confAt clashAt
  by_cases h1 : getIn a p = getIn b p ∨ getIn b p = getIn base p
  · rw [if_pos h1, if_pos h1, (hput _ _).1, (hput _ _).2]
    refine ⟨rfl, ?_⟩
    have : ¬ (¬ getIn a p = getIn b p ∧ ¬ getIn a p = getIn base p ∧ ¬ getIn b p = getIn base p) := fun ⟨h2, _, h3⟩ => by rcases h1 with h | h <;> contradiction
    simp only [decide_eq_false this, Bool.false_eq_true, if_false, List.append_nil]
  · rw [if_neg h1, if_neg h1]
    by_cases h2 : getIn a p = getIn base p
    · rw [if_pos h2, if_pos h2, (hput _ _).1, (hput _ _).2]
      refine ⟨rfl, ?_⟩
      have : ¬ (¬ getIn a p = getIn b p ∧ ¬ getIn a p = getIn base p ∧ ¬ getIn b p = getIn base p) := fun ⟨_, h3, _⟩ => h3 h2
      simp only [decide_eq_false this, Bool.false_eq_true, if_false, List.append_nil]
    · rw [if_neg h2, if_neg h2, (hput _ _).1, (hput _ _).2]
      refine ⟨rfl, ?_⟩
      rw [not_or] at h1
      have : ¬ getIn a p = getIn b p ∧ ¬ getIn a p = getIn base p ∧ ¬ getIn b p = getIn base p := ⟨h1.1, h2, h1.2⟩
      simp only [decide_eq_true this, if_true]
      simp [chg, Chg.place]
theorem filterMap_snoc' {α β : Type} (f : α → Option β) (l : List α) (x : α) : (l ++ [x]).filterMap f = l.filterMap f ++ (f x).toList := by
  rw [List.filterMap_append, List.filterMap_cons]
  cases f x <;> simp
theorem idxOf_split {pre rest : List Place} {p : Place} (h : p ∉ pre) : (pre ++ p :: rest).idxOf p = pre.length := by
  rw [List.idxOf_append, if_neg h, List.idxOf_cons_self, Nat.zero_add]
theorem join_pl (base a b : List Rec) (s : List Bool) :
    (join base a b s).out = (joinPl base a b).filterMap (recAt fun p => joinV base a b s ((confsOf base a b).idxOf p) p) ∧ (join base a b s).conf.map Chg.place = confsOf base a b := by
  unfold join
  have hs : Sorted (joinPl base a b) := placesOf_sorted _
  obtain ⟨ps, hps⟩ : ∃ ps, joinPl base a b = ps := ⟨_, rfl⟩
  rw [hps] at hs ⊢
  have hps' : placesOf ((base ++ a ++ b).map Rec.place) = ps := hps
  rw [hps']
  have hc : confsOf base a b = ps.filter (confAt base a b) := by unfold confsOf; rw [hps]
  rw [hc]
  clear hc hps hps'
  suffices hh : ∀ (rest pre : List Place) (J : Jn), ps = pre ++ rest → J.out = pre.filterMap (recAt fun p => joinV base a b s ((ps.filter (confAt base a b)).idxOf p) p) → J.conf.map Chg.place = pre.filter (confAt base a b) →
      (rest.foldl (joinAt base a b s) J).out = ps.filterMap (recAt fun p => joinV base a b s ((ps.filter (confAt base a b)).idxOf p) p) ∧ (rest.foldl (joinAt base a b s) J).conf.map Chg.place = ps.filter (confAt base a b) from
    hh ps [] ⟨[], []⟩ rfl rfl rfl
  intro rest
  induction rest with
  | nil =>
    intro pre J e h1 h2
    rw [List.append_nil] at e
    subst e
    exact ⟨h1, h2⟩
  | cons p t ih =>
    intro pre J e h1 h2
    rw [List.foldl_cons]
    obtain ⟨k1, k2⟩ := joinAt_out base a b s J p
    have hnp : p ∉ pre := fun hm => by
      unfold Sorted at hs
      rw [e, List.pairwise_append] at hs
      have := hs.2.2 p hm p (by simp)
      rw [Place.lt_irrefl] at this
      cases this
    refine ih (pre ++ [p]) _ (by simp [e]) ?_ ?_
    · rw [k1, h1, filterMap_snoc']
      congr 2
      unfold recAt
      congr 1
      by_cases hcf : confAt base a b p = true
      · have hl : J.conf.length = (ps.filter (confAt base a b)).idxOf p := by
          rw [e, List.filter_append, List.filter_cons, if_pos hcf, idxOf_split (fun hm => hnp (List.mem_filter.1 hm).1), ← h2, List.length_map]
        rw [hl]
      · have hno : ∀ i j, joinV base a b s i p = joinV base a b s j p := by
          intro i j
          unfold joinV
          split
          · rfl
          · rename_i g1
            split
            · rfl
            · rename_i g2
              refine absurd ?_ hcf
              unfold confAt clashAt
              rw [not_or] at g1
              exact decide_eq_true ⟨g1.1, g2, g1.2⟩
        exact hno _ _
    · rw [k2, h2, List.filter_append, List.filter_cons]
      split <;> simp_all
theorem mem_joinPl {base a b : List Rec} {p : Place} : p ∈ joinPl base a b ↔ p ∈ base.map Rec.place ∨ p ∈ a.map Rec.place ∨ p ∈ b.map Rec.place := by
  unfold joinPl
  rw [mem_placesOf, List.map_append, List.map_append, List.mem_append, List.mem_append, or_assoc]
theorem joinV_none {base a b : List Rec} {s : List Bool} {i : Nat} {p : Place} (h : p ∉ joinPl base a b) : joinV base a b s i p = none ∧ confAt base a b p = false := by
  rw [mem_joinPl, not_or, not_or] at h
  unfold joinV confAt clashAt
  rw [getIn_none h.1, getIn_none h.2.1, getIn_none h.2.2]
  simp
theorem getIn_join (base a b : List Rec) (s : List Bool) (p : Place) : getIn (join base a b s).out p = joinV base a b s ((confsOf base a b).idxOf p) p := by
  have hs : Sorted (joinPl base a b) := placesOf_sorted _
  rw [(join_pl base a b s).1, getIn_filterMap (fun p => joinV base a b s ((confsOf base a b).idxOf p) p) hs]
  split
  · rfl
  · rename_i h
    exact (joinV_none h).1.symm
theorem mem_confs {base a b : List Rec} {p : Place} : p ∈ confsOf base a b ↔ confAt base a b p = true := by
  unfold confsOf
  rw [List.mem_filter]
  refine ⟨fun h => h.2, fun h => ⟨?_, h⟩⟩
  by_cases hm : p ∈ joinPl base a b
  · exact hm
  · rw [(joinV_none (s := []) (i := 0) hm).2] at h; cases h
theorem join_sorted (base a b : List Rec) (s : List Bool) : RSorted (join base a b s).out := by
  rw [(join_pl base a b s).1]
  exact filterMap_sorted _ (placesOf_sorted _)
theorem joinV_cases (base a b : List Rec) (s : List Bool) (i : Nat) (p : Place) : joinV base a b s i p = getIn base p ∨ joinV base a b s i p = getIn a p ∨ joinV base a b s i p = getIn b p := by
  unfold joinV
  split
  · exact .inr (.inl rfl)
  · split
    · exact .inr (.inr rfl)
    · unfold pickJ
      split
      · exact .inl rfl
      · split
        · exact .inr (.inr rfl)
        · exact .inr (.inl rfl)
theorem rec_eta {r : Rec} {p : Place} (h : r.place = p) : r = ⟨p.kind, p.number, r.words⟩ := by subst h; rfl
theorem join_recs {base a b : List Rec} (hx : ∀ r ∈ base, recErr r = 0) (ha : ∀ r ∈ a, recErr r = 0) (hb : ∀ r ∈ b, recErr r = 0) (s : List Bool) : ∀ r ∈ (join base a b s).out, recErr r = 0 := by
  intro r hr
  rw [(join_pl base a b s).1, List.mem_filterMap] at hr
  obtain ⟨p, hp, hq⟩ := hr
  unfold recAt at hq
  rw [Option.map_eq_some_iff] at hq
  obtain ⟨ws, hw, rfl⟩ := hq
  have key : ∀ f : List Rec, (∀ r ∈ f, recErr r = 0) → getIn f p = some ws → recErr ⟨p.kind, p.number, ws⟩ = 0 := by
    intro f hf hg
    obtain ⟨r, hr, h1, h2⟩ := getIn_mem hg
    rw [← h2, ← rec_eta h1]
    exact hf r hr
  rcases joinV_cases base a b s ((confsOf base a b).idxOf p) p with h | h | h
  · exact key base hx (h ▸ hw)
  · exact key a ha (h ▸ hw)
  · exact key b hb (h ▸ hw)
theorem sorted_nodup {l : List Place} (h : Sorted l) : l.Nodup := List.Pairwise.imp (fun {a b} h e => by rw [e, Place.lt_irrefl] at h; cases h) h
theorem nodup_sub_len {l m : List Place} (h : l.Nodup) (hs : ∀ p ∈ l, p ∈ m) : l.length ≤ m.length := by
  induction l generalizing m with
  | nil => simp
  | cons x t ih =>
    rw [List.nodup_cons] at h
    have hx := hs x (by simp)
    have h1 := ih (m := m.erase x) h.2 fun p hp => (List.mem_erase_of_ne (fun e : p = x => h.1 (by rw [← e]; exact hp))).2 (hs p (by simp [hp]))
    rw [List.length_erase_of_mem hx] at h1
    have : 0 < m.length := List.length_pos_of_mem hx
    simp only [List.length_cons]
    omega
theorem join_out_len {base a b : List Rec} {s : List Bool} {m : List Place} (h : ∀ p, p ∈ base.map Rec.place ∨ p ∈ a.map Rec.place ∨ p ∈ b.map Rec.place → p ∈ m) : (join base a b s).out.length ≤ m.length ∧ (confsOf base a b).length ≤ m.length := by
  have h1 : (joinPl base a b).length ≤ m.length := nodup_sub_len (sorted_nodup (placesOf_sorted _)) fun p hp => h p (mem_joinPl.1 hp)
  rw [(join_pl base a b s).1]
  constructor
  · exact Nat.le_trans (List.length_filterMap_le _ _) h1
  · exact Nat.le_trans (List.length_filter_le _ _) h1
theorem right_check {f : List Rec} (h : Right f) : check f = 0 := by
  unfold check
  rw [if_neg (by have := h.len; omega)]
  have key : ∀ (f : List Rec) (p : Option Place), (∀ r ∈ f, recErr r = 0) → RSorted f → (∀ q, p = some q → ∀ r ∈ f, q.lt r.place = true) → checkFrom p f = 0 := by
    intro f
    induction f with
    | nil => intro p _ _ _; rfl
    | cons r t ih =>
      intro p h1 h2 h3
      have hq := List.pairwise_cons.1 h2
      rw [checkFrom, if_neg (by simpa using h1 r (by simp)), if_neg]
      · exact ih _ (fun x hx => h1 x (by simp [hx])) hq.2 fun q e x hx => by
          obtain rfl := Option.some.inj e
          exact hq.1 _ (List.mem_map_of_mem hx)
      · cases p with
        | none => simp
        | some q => simp [h3 q rfl r (by simp)]
  exact key f none h.recs h.sorted fun q e => by cases e
theorem join_right {base a b : List Rec} (hx : Right base) (ha : Right a) (hb : Right b) (s : List Bool) (hl : (join base a b s).out.length ≤ 40) : Right (join base a b s).out :=
  ⟨hl, join_recs hx.recs ha.recs hb.recs s, join_sorted base a b s⟩
theorem joinV_swap (base a b : List Rec) (i j : Nat) (p : Place) : joinV base a b [] i p = joinV base b a [] j p := by
  unfold joinV pickJ
  by_cases h1 : getIn a p = getIn b p
  · rw [if_pos (.inl h1), if_pos (.inl h1.symm), h1]
  · by_cases h2 : getIn b p = getIn base p
    · rw [if_pos (.inr h2)]
      by_cases h3 : getIn a p = getIn base p
      · exact absurd (h3.trans h2.symm) h1
      · rw [if_neg (by rintro (h | h); exact h1 h.symm; exact h3 h), if_pos h2]
    · rw [if_neg (by rintro (h | h); exact h1 h; exact h2 h)]
      by_cases h3 : getIn a p = getIn base p
      · rw [if_pos h3, if_pos (.inr h3)]
      · rw [if_neg h3, if_neg (by rintro (h | h); exact h1 h.symm; exact h3 h), if_neg h2]
        rfl
theorem confAt_swap (base a b : List Rec) (p : Place) : confAt base a b p = confAt base b a p := by
  unfold confAt clashAt
  rw [decide_eq_decide]
  constructor
  · rintro ⟨h1, h2, h3⟩; exact ⟨fun h => h1 h.symm, h3, h2⟩
  · rintro ⟨h1, h2, h3⟩; exact ⟨fun h => h1 h.symm, h3, h2⟩
theorem join_swap (base a b : List Rec) : (join base a b []).out = (join base b a []).out ∧ confsOf base a b = confsOf base b a := by
  have hp : joinPl base a b = joinPl base b a := sorted_eq (placesOf_sorted _) (placesOf_sorted _) fun q => by
    have h1 := @mem_joinPl base a b q
    have h2 := @mem_joinPl base b a q
    show q ∈ joinPl base a b ↔ q ∈ joinPl base b a
    rw [h1, h2, or_comm (a := q ∈ a.map Rec.place)]
  constructor
  · rw [(join_pl base a b []).1, (join_pl base b a []).1, hp]
    congr 1
    funext p
    unfold recAt
    show Option.map _ (joinV base a b [] _ p) = Option.map _ (joinV base b a [] _ p)
    rw [joinV_swap base a b _ ((confsOf base b a).idxOf p)]
  · unfold confsOf
    rw [hp]
    congr 1
    funext p
    exact confAt_swap base a b p
theorem join_one {f a b : List Rec} (ha : RSorted a) (hv : ∀ i p, joinV f a b [] i p = getIn a p) (hc : ∀ p, confAt f a b p = false) : (join f a b []).out = a ∧ confsOf f a b = [] := by
  constructor
  · rw [(join_pl f a b []).1]
    have : (fun p => joinV f a b [] ((confsOf f a b).idxOf p) p) = getIn a := by funext p; exact hv _ p
    rw [this]
    exact file_ext ha (placesOf_sorted _) fun r hr => mem_joinPl.2 (.inr (.inl (List.mem_map_of_mem hr)))
  · unfold confsOf
    rw [List.filter_eq_nil_iff]
    intro p _
    rw [hc p]
    simp
theorem join_base {f a : List Rec} (ha : RSorted a) : (join f a f []).out = a ∧ confsOf f a f = [] := by
  refine join_one ha (fun i p => ?_) fun p => ?_
  · unfold joinV; rw [if_pos (.inr rfl)]
  · unfold confAt clashAt; simp
theorem join_same {f a : List Rec} (ha : RSorted a) : (join f a a []).out = a ∧ confsOf f a a = [] := by
  refine join_one ha (fun i p => ?_) fun p => ?_
  · unfold joinV; rw [if_pos (.inl rfl)]
  · unfold confAt clashAt; simp

/-! ### changes that are differences -/
theorem chg_was (p : Place) (x y : St) : (chg p x y).was = x := by unfold chg Chg.was; cases x <;> rfl
theorem chg_now (p : Place) (x y : St) : (chg p x y).now = y := by unfold chg Chg.now; cases y <;> rfl
theorem chg_place (p : Place) (x y : St) : (chg p x y).place = p := rfl
theorem diffAt_place {f g : List Rec} {p : Place} {c : Chg} (h : diffAt f g p = some c) : c.place = p := by
  unfold diffAt at h
  split at h
  · cases h
  · obtain rfl := Option.some.inj h; rfl
def diffPl (f g : List Rec) : List Place := placesOf ((f ++ g).map Rec.place)
theorem diff_def (f g : List Rec) : diff f g = (diffPl f g).filterMap (diffAt f g) := rfl
theorem diffAt_out {f g : List Rec} {p : Place} (h : p ∉ diffPl f g) : diffAt f g p = none := by
  unfold diffPl at h
  rw [mem_placesOf, List.map_append, List.mem_append, not_or] at h
  unfold diffAt
  rw [getIn_none h.1, getIn_none h.2, if_pos rfl]
theorem findC_filterMap (F : Place → Option Chg) (hF : ∀ p c, F p = some c → c.place = p) : ∀ {ps : List Place}, Sorted ps → ∀ p, findC (ps.filterMap F) p = if p ∈ ps then F p else none := by
  intro ps
  induction ps with
  | nil => intro _ p; rfl
  | cons q t ih =>
    intro hs p
    have hq := List.pairwise_cons.1 hs
    have hqt : q ∉ t := fun hm => by have := hq.1 q hm; rw [Place.lt_irrefl] at this; cases this
    rw [List.filterMap_cons]
    cases hc : F q with
    | none =>
      simp only
      rw [ih hq.2]
      by_cases h : p = q
      · subst h; simp [hqt, hc]
      · simp [h]
    | some c =>
      simp only
      have hp := hF q c hc
      unfold findC at ih ⊢
      rw [List.find?_cons]
      by_cases h : q = p
      · subst h; simp [hp, hc]
      · have : decide (c.place = p) = false := by simp [hp, h]
        rw [this]
        simp only
        rw [ih hq.2]
        simp [Ne.symm h]
theorem findC_diff (f g : List Rec) (p : Place) : findC (diff f g) p = diffAt f g p := by
  have hs : Sorted (diffPl f g) := placesOf_sorted _
  rw [diff_def, findC_filterMap (diffAt f g) (fun p c h => diffAt_place h) hs]
  split
  · rfl
  · rename_i h; exact (diffAt_out h).symm
theorem mem_diff {f g : List Rec} {c : Chg} (h : c ∈ diff f g) : ∃ p, p ∈ diffPl f g ∧ getIn f p ≠ getIn g p ∧ c = chg p (getIn f p) (getIn g p) := by
  rw [diff_def, List.mem_filterMap] at h
  obtain ⟨p, hp, hc⟩ := h
  unfold diffAt at hc
  split at hc
  · cases hc
  · rename_i hne
    exact ⟨p, hp, hne, (Option.some.inj hc).symm⟩
theorem mem_diff_of {f g : List Rec} {p : Place} (h : getIn f p ≠ getIn g p) : chg p (getIn f p) (getIn g p) ∈ diff f g := by
  have h1 : diffAt f g p = some (chg p (getIn f p) (getIn g p)) := by unfold diffAt; rw [if_neg h]
  rw [diff_def, List.mem_filterMap]
  refine ⟨p, ?_, h1⟩
  by_cases hm : p ∈ diffPl f g
  · exact hm
  · rw [diffAt_out hm] at h1; cases h1
theorem diff_places_sorted (F : Place → Option Chg) (hF : ∀ p c, F p = some c → c.place = p) : ∀ {ps : List Place}, Sorted ps → Sorted ((ps.filterMap F).map Chg.place) := by
  intro ps hs
  have : (ps.filterMap F).map Chg.place = ps.filter fun p => (F p).isSome := by
    clear hs
    induction ps with
    | nil => rfl
    | cons p t ih =>
      rw [List.filterMap_cons, List.filter_cons]
      cases hc : F p with
      | none => simp [ih]
      | some c => simp [ih, hF p c hc]
  rw [this]
  exact hs.filter _
theorem diff_sorted (f g : List Rec) : Sorted ((diff f g).map Chg.place) := diff_places_sorted _ (fun p c h => diffAt_place h) (placesOf_sorted _)
theorem wordsErr_nil {p : Place} (hp : p ∈ allPlaces) : wordsErr p.kind p.number [] = 0 := by
  rw [mem_allPlaces] at hp
  have h : recErr ⟨p.kind, p.number, []⟩ = 0 ∨ True := .inr trivial
  unfold wordsErr
  rw [if_neg (by simp), if_neg (by simp), if_neg]
  have h1 : (name p.kind).length ≤ 6 := by
    have : p.kind = 0 ∨ p.kind = 1 ∨ p.kind = 2 ∨ p.kind = 3 ∨ p.kind = 4 := by omega
    rcases this with h | h | h | h | h <;> rw [h] <;> decide
  have h2 : (digits p.number).length ≤ 3 := digits_len 2 p.number.toNat (by omega)
  unfold line
  simp only [List.length_append, List.length_cons, List.length_nil, List.flatMap_nil]
  omega
theorem chg_err {f g : List Rec} (hf : ∀ r ∈ f, recErr r = 0) (hg : ∀ r ∈ g, recErr r = 0) {p : Place} (hp : p ∈ allPlaces) (hne : getIn f p ≠ getIn g p) : chgErr (chg p (getIn f p) (getIn g p)) = 0 := by
  have key : ∀ f : List Rec, (∀ r ∈ f, recErr r = 0) → wordsErr p.kind p.number ((getIn f p).getD []) = 0 := by
    intro f hf
    cases hg : getIn f p with
    | none => exact wordsErr_nil hp
    | some ws =>
      obtain ⟨r, hr, h1, h2⟩ := getIn_mem hg
      have := ((recErr_iff r).1 (hf r hr)).2
      rw [h2] at this
      have h3 : r.kind = p.kind := congrArg Place.kind h1
      have h4 : r.number = p.number := congrArg Place.number h1
      rw [h3, h4] at this
      exact this
  have hpe : placeErr p.kind p.number = 0 := by
    rw [mem_allPlaces] at hp
    unfold placeErr
    rw [if_neg (by omega), if_neg (by omega)]
  have k1 := key f hf
  have k2 := key g hg
  unfold chgErr
  have e1 : (chg p (getIn f p) (getIn g p)).kind = p.kind := rfl
  have e2 : (chg p (getIn f p) (getIn g p)).number = p.number := rfl
  have e3 : (chg p (getIn f p) (getIn g p)).old = (getIn f p).getD [] := rfl
  have e4 : (chg p (getIn f p) (getIn g p)).new = (getIn g p).getD [] := rfl
  have e5 : (chg p (getIn f p) (getIn g p)).had = (getIn f p).isSome := rfl
  have e6 : (chg p (getIn f p) (getIn g p)).has = (getIn g p).isSome := rfl
  rw [e1, e2, e3, e4, e5, e6, if_neg (by simpa using hpe), if_neg (by simpa using k1), if_neg (by simpa using k2), if_neg]
  intro h
  cases hx : getIn f p <;> cases hy : getIn g p <;> simp_all
theorem diffPl_range {f g : List Rec} (hf : InRange f) (hg : InRange g) : ∀ p ∈ diffPl f g, p ∈ allPlaces := fun p hp => by
  unfold diffPl at hp
  rw [mem_placesOf] at hp
  obtain ⟨r, hr, rfl⟩ := List.mem_map.1 hp
  rcases List.mem_append.1 hr with h | h
  · exact hf r h
  · exact hg r h
theorem checkChg_of {l : List Chg} (h : RightC l) : checkChg l = 0 := by
  unfold checkChg
  rw [if_neg (by have := h.len; omega)]
  have key : ∀ (f : List Chg) (p : Option Place), (∀ r ∈ f, chgErr r = 0) → Sorted (f.map Chg.place) → (∀ q, p = some q → ∀ r ∈ f, q.lt r.place = true) → checkChgFrom p f = 0 := by
    intro f
    induction f with
    | nil => intro p _ _ _; rfl
    | cons r t ih =>
      intro p h1 h2 h3
      have hq := List.pairwise_cons.1 h2
      rw [checkChgFrom, if_neg (by simpa using h1 r (by simp)), if_neg]
      · exact ih _ (fun x hx => h1 x (by simp [hx])) hq.2 fun q e x hx => by
          obtain rfl := Option.some.inj e
          exact hq.1 _ (List.mem_map_of_mem hx)
      · cases p with
        | none => simp
        | some q => simp [h3 q rfl r (by simp)]
  exact key l none h.each h.sorted fun q e => by cases e
theorem diff_len {f g : List Rec} {m : List Place} (h : ∀ p, p ∈ f.map Rec.place ∨ p ∈ g.map Rec.place → p ∈ m) : (diff f g).length ≤ m.length := by
  have h1 : (diffPl f g).length ≤ m.length := nodup_sub_len (sorted_nodup (placesOf_sorted _)) fun p hp => by
    unfold diffPl at hp
    rw [mem_placesOf, List.map_append, List.mem_append] at hp
    exact h p hp
  exact Nat.le_trans (List.length_filterMap_le _ _) h1
theorem diff_right {f g : List Rec} (hf : Right f) (hg : Right g) : RightC (diff f g) := by
  refine ⟨?_, fun c hc => ?_, diff_sorted f g⟩
  · have := diff_len (f := f) (g := g) (m := f.map Rec.place ++ g.map Rec.place) fun p hp => List.mem_append.2 hp
    have h1 := hf.len
    have h2 := hg.len
    simp at this
    omega
  · obtain ⟨p, hp, hne, rfl⟩ := mem_diff hc
    exact chg_err hf.recs hg.recs (diffPl_range hf.range hg.range p hp) hne
theorem afterL_okD {x y : List Chg} {F : Place → Option Chg} : ∀ (ps : List Place), (∀ p ∈ ps, afterAt x y p = .ok (F p)) → afterL x y ps = .ok (ps.filterMap F) := by
  intro ps
  induction ps with
  | nil => intro _; rfl
  | cons p t ih =>
    intro h
    rw [afterL, h p (by simp), ih fun q hq => h q (by simp [hq]), List.filterMap_cons]
    cases F p <;> rfl
theorem afterAt_diff (f g h : List Rec) (p : Place) : afterAt (diff f g) (diff g h) p = .ok (diffAt f h p) := by
  unfold afterAt
  rw [findC_diff, findC_diff]
  unfold diffAt
  by_cases h1 : getIn f p = getIn g p
  · by_cases h2 : getIn g p = getIn h p
    · rw [if_pos h1, if_pos h2, if_pos (h1.trans h2)]
    · rw [if_pos h1, if_neg h2, if_neg (fun e => h2 (h1.symm.trans e)), h1]
  · by_cases h2 : getIn g p = getIn h p
    · rw [if_neg h1, if_pos h2, if_neg (fun e => h1 (e.trans h2.symm)), h2]
    · rw [if_neg h1, if_neg h2]
      simp only [chg_was, chg_now, if_true]
theorem after_diff {f g h : List Rec} (hf : InRange f) (hg : InRange g) (hh : InRange h) : after (diff f g) (diff g h) = .ok (diff f h) := by
  have hr : ∀ a b : List Rec, InRange a → InRange b → ∀ c ∈ diff a b, c.place ∈ allPlaces := fun a b ha hb c hc => by
    obtain ⟨p, hp, _, rfl⟩ := mem_diff hc
    exact diffPl_range ha hb p hp
  rw [← after_eq (hr f g hf hg) (hr g h hg hh), afterL_okD allPlaces fun p _ => afterAt_diff f g h p, diff_eq hf hh]
theorem back_diff (f g : List Rec) : back (diff f g) = diff g f := by
  have hp : diffPl f g = diffPl g f := sorted_eq (placesOf_sorted _) (placesOf_sorted _) fun q => by
    show q ∈ placesOf _ ↔ q ∈ placesOf _
    rw [mem_placesOf, mem_placesOf, List.map_append, List.map_append, List.mem_append, List.mem_append, or_comm]
  rw [diff_def, diff_def, ← hp]
  unfold back
  rw [List.map_filterMap]
  congr 1
  funext p
  unfold diffAt
  by_cases h : getIn f p = getIn g p
  · rw [if_pos h, if_pos h.symm]; rfl
  · rw [if_neg h, if_neg (Ne.symm h)]; rfl
theorem diff_self (f : List Rec) : diff f f = [] := by
  rw [diff_def, List.filterMap_eq_nil_iff]
  intro p _
  unfold diffAt
  rw [if_pos rfl]
/-! ### what the other copy changed; changes that are made -/
theorem second_in {f a b : List Rec} (hc : confsOf f a b = []) {c : Chg} (h : c ∈ diff f b) : c ∈ diff f (join f a b []).out := by
  obtain ⟨p, hp, hne, rfl⟩ := mem_diff h
  have hnc : confAt f a b p = false := by
    cases e : confAt f a b p with
    | false => rfl
    | true =>
      have := mem_confs.2 e
      rw [hc] at this
      simp at this
  have hj : getIn (join f a b []).out p = getIn b p := by
    rw [getIn_join]
    unfold joinV
    unfold confAt clashAt at hnc
    rw [decide_eq_false_iff_not] at hnc
    by_cases h1 : getIn a p = getIn b p
    · rw [if_pos (.inl h1), h1]
    · rw [if_neg (by rintro (h | h); exact h1 h; exact hne h.symm)]
      by_cases h2 : getIn a p = getIn f p
      · rw [if_pos h2]
      · exact absurd ⟨h1, h2, fun e => hne e.symm⟩ hnc
  rw [← hj]
  exact mem_diff_of (hj ▸ hne)
theorem joined_len (f a b : List Rec) : (diff f (join f a b []).out).length ≤ (diff f a).length + (diff f b).length := by
  have h : ((diff f (join f a b []).out).map Chg.place).length ≤ ((diff f a).map Chg.place ++ (diff f b).map Chg.place).length := by
    refine nodup_sub_len (sorted_nodup (diff_sorted _ _)) fun p hp => ?_
    obtain ⟨c, hc, rfl⟩ := List.mem_map.1 hp
    obtain ⟨p, _, hne, rfl⟩ := mem_diff hc
    rw [chg_place]
    rw [getIn_join] at hne
    rw [List.mem_append]
    rcases joinV_cases f a b [] ((confsOf f a b).idxOf p) p with h | h | h
    · exact absurd h.symm hne
    · rw [h] at hne
      exact .inl (List.mem_map.2 ⟨_, mem_diff_of hne, chg_place _ _ _⟩)
    · rw [h] at hne
      exact .inr (List.mem_map.2 ⟨_, mem_diff_of hne, chg_place _ _ _⟩)
  simpa using h
end Oyez
