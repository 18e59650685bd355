/-
  PLAIN LAWS: what is joined, place by place; changes that are differences; what a file has at a place, as a text.
  WHAT THE LAWS OF DRAWN FILES SHARE: files that are right, the places that copies of a file can have.
  strings.Join OVER WORDS THAT ARE NEVER WRITTEN AGAIN; what a file has at a place, as a text.
-/
import Derived.Test.YtdifgaapdnbliaaGreatDoorM20
import Derived.Test.YtdifgaapdnbliaaGreatDoorM21
import Derived.Test.YtdifgaapdnbliaaGreatDoorM33
import Derived.Test.YtdifgaapdnbliaaGreatDoorM37
import Derived.Test.YtdifgaapdnbliaaGreatDoorM26
import Derived.Test.YtdifgaapdnbliaaGreatDoorM15
set_option linter.unusedSimpArgs false
set_option linter.unusedVariables false
set_option linter.unusedSectionVars false
namespace Oyez
/-! ### what a file has, as a text -/
def hasS : St → S
  | none => []
  | some ws => 32 :: glueW ws
def WordSt (x : St) : Prop := ∀ ws, x = some ws → ∀ w ∈ ws, word w = true
theorem getIn_mem {f : List Rec} {p : Place} {ws : List S} (h : getIn f p = some ws) : ∃ r ∈ f, r.place = p ∧ r.words = ws := by
  unfold getIn at h
  rw [Option.map_eq_some_iff] at h
  obtain ⟨r, h1, rfl⟩ := h
  exact ⟨r, List.mem_of_find?_eq_some h1, by simpa using List.find?_some h1, rfl⟩
/-! ### joins, place by place -/
def clashAt (x y z : St) : Bool := decide (¬ y = z ∧ ¬ y = x ∧ ¬ z = x)
def confAt (base a b : List Rec) (p : Place) : Bool := clashAt (getIn base p) (getIn a p) (getIn b p)
def joinV (base a b : List Rec) (s : List Bool) (i : Nat) (p : Place) : St :=
  if getIn a p = getIn b p ∨ getIn b p = getIn base p then getIn a p else if getIn a p = getIn base p then getIn b p else pickJ s i (getIn base p) (getIn a p) (getIn b p)
def joinPl (base a b : List Rec) : List Place := placesOf ((base ++ a ++ b).map Rec.place)
/-- the places of the conflicts -/
def confsOf (base a b : List Rec) : List Place := (joinPl base a b).filter (confAt base a b)
theorem joinAt_out (base a b : List Rec) (s : List Bool) (J : Jn) (p : Place) :
    (joinAt base a b s J p).out = J.out ++ (recAt (joinV base a b s J.conf.length) p).toList ∧ (joinAt base a b s J p).conf.map Chg.place = J.conf.map Chg.place ++ if confAt base a b p then [p] else [] := by
  rw [joinAt_step]
  have hput : ∀ (J : Jn) (w : St), (putJ J p w).out = J.out ++ (w.map fun ws => (⟨p.kind, p.number, ws⟩ : Rec)).toList ∧ (putJ J p w).conf = J.conf := by
    intro J w
    unfold putJ
    cases w <;> simp
  unfold stepJ recAt joinV confAt clashAt
  by_cases h1 : getIn a p = getIn b p ∨ getIn b p = getIn base p
  · rw [if_pos h1, if_pos h1, (hput _ _).1, (hput _ _).2]
    refine ⟨rfl, ?_⟩
    have : ¬ (¬ getIn a p = getIn b p ∧ ¬ getIn a p = getIn base p ∧ ¬ getIn b p = getIn base p) := fun ⟨h2, _, h3⟩ => by rcases h1 with h | h <;> contradiction
    simp only [decide_eq_false this, Bool.false_eq_true, if_false, List.append_nil]
  · rw [if_neg h1, if_neg h1]
    by_cases h2 : getIn a p = getIn base p
    · rw [if_pos h2, if_pos h2, (hput _ _).1, (hput _ _).2]
      refine ⟨rfl, ?_⟩
      have : ¬ (¬ getIn a p = getIn b p ∧ ¬ getIn a p = getIn base p ∧ ¬ getIn b p = getIn base p) := fun ⟨_, h3, _⟩ => h3 h2
      simp only [decide_eq_false this, Bool.false_eq_true, if_false, List.append_nil]
    · rw [if_neg h2, if_neg h2, (hput _ _).1, (hput _ _).2]
      refine ⟨rfl, ?_⟩
      rw [not_or] at h1
      have : ¬ getIn a p = getIn b p ∧ ¬ getIn a p = getIn base p ∧ ¬ getIn b p = getIn base p := ⟨h1.1, h2, h1.2⟩
      simp only [decide_eq_true this, if_true]
      simp [chg, Chg.place]
theorem filterMap_snoc' {α β : Type} (f : α → Option β) (l : List α) (x : α) : (l ++ [x]).filterMap f = l.filterMap f ++ (f x).toList := by
  rw [List.filterMap_append, List.filterMap_cons]
  cases f x <;> simp
theorem idxOf_split {pre rest : List Place} {p : Place} (h : p ∉ pre) : (pre ++ p :: rest).idxOf p = pre.length := by
  rw [List.idxOf_append, if_neg h, List.idxOf_cons_self, Nat.zero_add]
theorem join_pl (base a b : List Rec) (s : List Bool) :
    (join base a b s).out = (joinPl base a b).filterMap (recAt fun p => joinV base a b s ((confsOf base a b).idxOf p) p) ∧ (join base a b s).conf.map Chg.place = confsOf base a b := by
  unfold join
  have hs : Sorted (joinPl base a b) := placesOf_sorted _
  obtain ⟨ps, hps⟩ : ∃ ps, joinPl base a b = ps := ⟨_, rfl⟩
  rw [hps] at hs ⊢
  have hps' : placesOf ((base ++ a ++ b).map Rec.place) = ps := hps
  rw [hps']
  have hc : confsOf base a b = ps.filter (confAt base a b) := by unfold confsOf; rw [hps]
  rw [hc]
  clear hc hps hps'
  suffices hh : ∀ (rest pre : List Place) (J : Jn), ps = pre ++ rest → J.out = pre.filterMap (recAt fun p => joinV base a b s ((ps.filter (confAt base a b)).idxOf p) p) → J.conf.map Chg.place = pre.filter (confAt base a b) →
      (rest.foldl (joinAt base a b s) J).out = ps.filterMap (recAt fun p => joinV base a b s ((ps.filter (confAt base a b)).idxOf p) p) ∧ (rest.foldl (joinAt base a b s) J).conf.map Chg.place = ps.filter (confAt base a b) from
    hh ps [] ⟨[], []⟩ rfl rfl rfl
  intro rest
  induction rest with
  | nil =>
    intro pre J e h1 h2
    rw [List.append_nil] at e
    subst e
    exact ⟨h1, h2⟩
  | cons p t ih =>
    intro pre J e h1 h2
    rw [List.foldl_cons]
    obtain ⟨k1, k2⟩ := joinAt_out base a b s J p
    have hnp : p ∉ pre := fun hm => by
      unfold Sorted at hs
      rw [e, List.pairwise_append] at hs
      have := hs.2.2 p hm p (by simp)
      rw [Place.lt_irrefl] at this
      cases this
    refine ih (pre ++ [p]) _ (by simp [e]) ?_ ?_
    · rw [k1, h1, filterMap_snoc']
      congr 2
      unfold recAt
      congr 1
      by_cases hcf : confAt base a b p = true
      · have hl : J.conf.length = (ps.filter (confAt base a b)).idxOf p := by
          rw [e, List.filter_append, List.filter_cons, if_pos hcf, idxOf_split (fun hm => hnp (List.mem_filter.1 hm).1), ← h2, List.length_map]
        rw [hl]
      · have hno : ∀ i j, joinV base a b s i p = joinV base a b s j p := by
          intro i j
          unfold joinV
          split
          · rfl
          · rename_i g1
            split
            · rfl
            · rename_i g2
              refine absurd ?_ hcf
              unfold confAt clashAt
              rw [not_or] at g1
              exact decide_eq_true ⟨g1.1, g2, g1.2⟩
        exact hno _ _
    · rw [k2, h2, List.filter_append, List.filter_cons]
      split <;> simp_all
theorem mem_joinPl {base a b : List Rec} {p : Place} : p ∈ joinPl base a b ↔ p ∈ base.map Rec.place ∨ p ∈ a.map Rec.place ∨ p ∈ b.map Rec.place := by
  unfold joinPl
  rw [mem_placesOf, List.map_append, List.map_append, List.mem_append, List.mem_append, or_assoc]
theorem joinV_none {base a b : List Rec} {s : List Bool} {i : Nat} {p : Place} (h : p ∉ joinPl base a b) : joinV base a b s i p = none ∧ confAt base a b p = false := by
  rw [mem_joinPl, not_or, not_or] at h
  unfold joinV confAt clashAt
  rw [getIn_none h.1, getIn_none h.2.1, getIn_none h.2.2]
  simp
theorem getIn_join (base a b : List Rec) (s : List Bool) (p : Place) : getIn (join base a b s).out p = joinV base a b s ((confsOf base a b).idxOf p) p := by
  have hs : Sorted (joinPl base a b) := placesOf_sorted _
  rw [(join_pl base a b s).1, getIn_filterMap (fun p => joinV base a b s ((confsOf base a b).idxOf p) p) hs]
  split
  · rfl
  · rename_i h
    exact (joinV_none h).1.symm
theorem mem_confs {base a b : List Rec} {p : Place} : p ∈ confsOf base a b ↔ confAt base a b p = true := by
  unfold confsOf
  rw [List.mem_filter]
  refine ⟨fun h => h.2, fun h => ⟨?_, h⟩⟩
  by_cases hm : p ∈ joinPl base a b
  · exact hm
  · rw [(joinV_none (s := []) (i := 0) hm).2] at h; cases h
theorem join_sorted (base a b : List Rec) (s : List Bool) : RSorted (join base a b s).out := by
  rw [(join_pl base a b s).1]
  exact filterMap_sorted _ (placesOf_sorted _)
theorem joinV_cases (base a b : List Rec) (s : List Bool) (i : Nat) (p : Place) : joinV base a b s i p = getIn base p ∨ joinV base a b s i p = getIn a p ∨ joinV base a b s i p = getIn b p := by
  unfold joinV
  split
  · exact .inr (.inl rfl)
  · split
    · exact .inr (.inr rfl)
    · unfold pickJ
      split
      · exact .inl rfl
      · split
        · exact .inr (.inr rfl)
        · exact .inr (.inl rfl)
theorem rec_eta {r : Rec} {p : Place} (h : r.place = p) : r = ⟨p.kind, p.number, r.words⟩ := by subst h; rfl
theorem join_recs {base a b : List Rec} (hx : ∀ r ∈ base, recErr r = 0) (ha : ∀ r ∈ a, recErr r = 0) (hb : ∀ r ∈ b, recErr r = 0) (s : List Bool) : ∀ r ∈ (join base a b s).out, recErr r = 0 := by
  intro r hr
  rw [(join_pl base a b s).1, List.mem_filterMap] at hr
  obtain ⟨p, hp, hq⟩ := hr
  unfold recAt at hq
  rw [Option.map_eq_some_iff] at hq
  obtain ⟨ws, hw, rfl⟩ := hq
  have key : ∀ f : List Rec, (∀ r ∈ f, recErr r = 0) → getIn f p = some ws → recErr ⟨p.kind, p.number, ws⟩ = 0 := by
    intro f hf hg
    obtain ⟨r, hr, h1, h2⟩ := getIn_mem hg
    rw [← h2, ← rec_eta h1]
    exact hf r hr
  rcases joinV_cases base a b s ((confsOf base a b).idxOf p) p with h | h | h
  · exact key base hx (h ▸ hw)
  · exact key a ha (h ▸ hw)
  · exact key b hb (h ▸ hw)
theorem sorted_nodup {l : List Place} (h : Sorted l) : l.Nodup := List.Pairwise.imp (fun {a b} h e => by rw [e, Place.lt_irrefl] at h; cases h) h
theorem nodup_sub_len {l m : List Place} (h : l.Nodup) (hs : ∀ p ∈ l, p ∈ m) : l.length ≤ m.length := by
  induction l generalizing m with
  | nil => simp
  | cons x t ih =>
    rw [List.nodup_cons] at h
    have hx := hs x (by simp)
    have h1 := ih (m := m.erase x) h.2 fun p hp => (List.mem_erase_of_ne (fun e : p = x => h.1 (by rw [← e]; exact hp))).2 (hs p (by simp [hp]))
    rw [List.length_erase_of_mem hx] at h1
    have : 0 < m.length := List.length_pos_of_mem hx
    simp only [List.length_cons]
    omega
theorem join_out_len {base a b : List Rec} {s : List Bool} {m : List Place} (h : ∀ p, p ∈ base.map Rec.place ∨ p ∈ a.map Rec.place ∨ p ∈ b.map Rec.place → p ∈ m) : (join base a b s).out.length ≤ m.length ∧ (confsOf base a b).length ≤ m.length := by
  have h1 : (joinPl base a b).length ≤ m.length := nodup_sub_len (sorted_nodup (placesOf_sorted _)) fun p hp => h p (mem_joinPl.1 hp)
  rw [(join_pl base a b s).1]
  constructor
  · exact Nat.le_trans (List.length_filterMap_le _ _) h1
  · exact Nat.le_trans (List.length_filter_le _ _) h1
theorem right_check {f : List Rec} (h : Right f) : check f = 0 := by
  unfold check
  rw [if_neg (by have := h.len; omega)]
  have key : ∀ (f : List Rec) (p : Option Place), (∀ r ∈ f, recErr r = 0) → RSorted f → (∀ q, p = some q → ∀ r ∈ f, q.lt r.place = true) → checkFrom p f = 0 := by
    intro f
    induction f with
    | nil => intro p _ _ _; rfl
    | cons r t ih =>
      intro p h1 h2 h3
      have hq := List.pairwise_cons.1 h2
      rw [checkFrom, if_neg (by simpa using h1 r (by simp)), if_neg]
      · exact ih _ (fun x hx => h1 x (by simp [hx])) hq.2 fun q e x hx => by
          obtain rfl := Option.some.inj e
          exact hq.1 _ (List.mem_map_of_mem hx)
      · cases p with
        | none => simp
        | some q => simp [h3 q rfl r (by simp)]
  exact key f none h.recs h.sorted fun q e => by cases e
theorem join_right {base a b : List Rec} (hx : Right base) (ha : Right a) (hb : Right b) (s : List Bool) (hl : (join base a b s).out.length ≤ 40) : Right (join base a b s).out :=
  ⟨hl, join_recs hx.recs ha.recs hb.recs s, join_sorted base a b s⟩
/-! ### changes that are differences -/
theorem chg_place (p : Place) (x y : St) : (chg p x y).place = p := rfl
def diffPl (f g : List Rec) : List Place := placesOf ((f ++ g).map Rec.place)
/-! ### what the other copy changed; changes that are made -/
end Oyez
namespace Ab
open Go Go.RowKit Go.Proofs
theorem right_fewF {f : List Oyez.Rec} (h : Oyez.check f = 0) : Few f ∧ f.length ≤ 40 ∧ (Oyez.print f).length ≤ 2600 ∧ ∀ r ∈ f, r.words.length ≤ 2 ^ 40 := by
  have hr := Oyez.check_zero h
  have hl := hr.len
  have hp := print_len hr.recs
  have key : ∀ r ∈ f, tot1 r.words ≤ 64 ∧ r.words.length ≤ 6 := fun r hm => by
    obtain ⟨_, h2⟩ := (Oyez.recErr_iff r).1 (hr.recs r hm)
    obtain ⟨h3, h4, h5⟩ := Oyez.wordsErr_zero h2
    refine ⟨?_, h3⟩
    unfold Oyez.line at h5
    rw [List.length_append, flat_len32] at h5
    omega
  exact ⟨fun r hm => ⟨by have := (key r hm).1; omega, by have := (key r hm).2; omega⟩, hl, by omega, fun r hm => by have := (key r hm).2; omega⟩
theorem GoodF.right {f : List Oyez.Rec} (h : GoodF f) (hl : f.length ≤ 40) : Oyez.Right f := ⟨hl, h.recs, h.sorted⟩
/-- the byte that a damage makes -/
def dmg (b : UInt8) (dm : Nat) : UInt8 := UInt8.ofNat (b.toNat + (1 + dm / 256 % 255))
/-- a copy of a file, and where its records may be -/
structure CopyOf (f a : List Oyez.Rec) (e : List Oyez.Place) : Prop where
  good : GoodF a
  len : a.length ≤ f.length + 3
  few : e.length ≤ 3
  at_ : ∀ r ∈ a, r.place ∈ f.map Oyez.Rec.place ∨ r.place ∈ e
theorem CopyOf.mem {f a : List Oyez.Rec} {e : List Oyez.Place} (h : CopyOf f a e) : ∀ p ∈ a.map Oyez.Rec.place, p ∈ f.map Oyez.Rec.place ++ e := fun p hp => by
  obtain ⟨r, hr, rfl⟩ := List.mem_map.1 hp
  exact List.mem_append.2 (h.at_ r hr)
theorem join_small {f a b : List Oyez.Rec} {ea eb : List Oyez.Place} (ha : CopyOf f a ea) (hb : CopyOf f b eb) (hf : f.length ≤ 20) (s : List Bool) : (Oyez.join f a b s).out.length ≤ 26 ∧ (Oyez.confsOf f a b).length ≤ 26 := by
  have h := Oyez.join_out_len (base := f) (a := a) (b := b) (s := s) (m := f.map Oyez.Rec.place ++ ea ++ eb) fun p hp => by
    rcases hp with hp | hp | hp
    · simp only [List.mem_append]; exact .inl (.inl hp)
    · have := List.mem_append.1 (ha.mem p hp)
      simp only [List.mem_append]
      rcases this with h | h
      · exact .inl (.inl h)
      · exact .inl (.inr h)
    · have := List.mem_append.1 (hb.mem p hp)
      simp only [List.mem_append]
      rcases this with h | h
      · exact .inl (.inl h)
      · exact .inr h
  have h1 := ha.few
  have h2 := hb.few
  simp only [List.length_append, List.length_map] at h
  omega
end Ab
namespace Ab
open Go Go.RowKit Go.Proofs
attribute [local irreducible] aws awp aw1 Og Om Oc Oa Ogd Ov Ot awd aw1d awh aw1h Ogh Ohd awl Ogl Ohl awv Ogv Ohv QThen QBlock QFn QFnM QRo QBe ACode AYield
theorem join32_glue (ws : List (List UInt8)) : join32 ws = Oyez.glueW ws := by
  unfold join32
  rw [List.intercalate]
  cases ws with
  | nil => rfl
  | cons w t =>
    unfold Oyez.glueW
    induction t generalizing w with
    | nil => simp
    | cons v t ih =>
      simp only [List.intersperse, List.flatten_cons, List.flatMap_cons] at ih ⊢
      rw [ih v]
      simp
theorem joinP_calls (ws : List (List UInt8)) (hl : ws.length ≤ 2 ^ 40) (hj : (join32 ws).length ≤ 2 ^ 40) : APure Tryz.prog 49 [wordsAV ws, .str [32]] (.str (Oyez.glueW ws)) := by
  intro σ
  refine .inl ⟨enters_fn Tryz.func49 (by decide) rfl, fun C cargs hI hv => callsIn_wide.2 ?_⟩
  obtain ⟨x, q, rfl, h1, h2⟩ := hv.inv
  obtain ⟨y, q, rfl, h3, h4⟩ := h2.inv
  obtain rfl := h4.of_nil
  obtain ⟨A, cap, rfl, hcap, hrow⟩ := h1.pl_inv
  rw [h3.str_inv]
  have hsl : (strs ws).length = ws.length := by simp [strs]
  by_cases h0 : ws = []
  · subst h0
    refine (Tryz.strings_Join_none A cap ⟨⟨[32]⟩⟩ C.w).mono ?_
    rintro e w' ⟨rfl, rfl⟩
    exact ⟨_, C, .str [], σ, rfl, rfl, Ext.refl C, hI, .str [], rfl, rfl⟩
  · rcases hrow with hrow | ⟨b, o, rfl, hrow⟩
    · exact absurd (List.eq_nil_of_length_eq_zero (by rw [← hsl]; exact congrArg List.length hrow)) h0
    · have hmap : (ws.map fun w => ByteArray.mk ⟨w⟩).map (·.data.toList) = ws := by
        rw [List.map_map]
        exact List.map_id'' (fun w => rfl) ws
      have key := Tryz.strings_Join b o cap (ws.map fun w => ByteArray.mk ⟨w⟩) ⟨⟨[32]⟩⟩ C.w (fun j x hx => by
        rw [List.getElem?_map, Option.map_eq_some_iff] at hx
        obtain ⟨w, hw, rfl⟩ := hx
        obtain ⟨_, hr⟩ := hrow.2 j (.str w) (by simp only [strs, List.getElem?_map, hw]; rfl)
        obtain ⟨_, v, hv, hvr⟩ := hr 0 (.str w) rfl
        rw [Nat.mul_one, Nat.add_zero] at hv
        rw [hv, hvr.str_inv]) (hI.plt b hrow.1) (by rw [List.length_map]; omega) (by rw [List.length_map, ← hsl]; exact hcap) (by
          rw [hmap]
          have : (join32 ws).length ≤ 140737488355328 := by omega
          exact this)
      rw [hmap, List.length_map] at key
      rw [hsl]
      refine key.mono ?_
      rintro e w' ⟨rfl, hbw⟩
      have hE := Ext.below hI.plt hbw (fun h => False.elim h)
      refine ⟨_, C.at_ w', .str (join32 ws), σ, rfl, rfl, hE, hI.below hbw, ?_, by rw [join32_glue], rfl⟩
      have : VR (C.at_ w') (.str (join32 ws)) (.string ⟨⟨join32 ws⟩⟩) := .str _
      simpa [join32, Lib.join] using this
end Ab
