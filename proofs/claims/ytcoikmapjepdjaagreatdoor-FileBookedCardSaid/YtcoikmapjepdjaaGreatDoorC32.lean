/-
  The book, plainly: what courses come to.
  The book: places that are met; lists compared.
-/
import Derived.Test.YtcoikmapjepdjaaGreatDoorC24
import Derived.Test.YtcoikmapjepdjaaGreatDoorC31
set_option linter.unusedSimpArgs false
set_option linter.unusedVariables false
set_option linter.unusedSectionVars false
namespace Ab
open Go Go.RowKit Go.Proofs
/-- where a course can be, what was heard on it, and the course -/
structure At where
  wind : Nat
  got : List Bool
  course : List Int
/-- one step of an hour -/
def stepB (b : Bk) (h : Nat) (x : At) (next : List At) (w : Nat) : List At :=
  if canB b h w then (if next.any fun a => decide (a.wind = w) && a.got == hearG b h w x.got then next else next ++ [⟨w, hearG b h w x.got, x.course ++ [(w : Int)]⟩]) else next
def zeroAt : At := ⟨0, List.replicate 24 false, []⟩
/-- a wind, and those beside it -/
def nearW (w : Nat) : List Nat := (List.range 8).filter fun v => nearB v w
def firstB (b : Bk) (h : Nat) : List At := if h = 0 then (List.range 8).foldl (stepB b h zeroAt) [] else []
def roundB (b : Bk) (h : Nat) (now : List At) : List At := now.foldl (fun next x => (nearW x.wind).foldl (stepB b h x) next) (firstB b h)
def nowB (b : Bk) : Nat → List At
  | 0 => []
  | h + 1 => roundB b h (nowB b h)
def endTo (l : List At) : List (List Bool × List Int) := l.foldl (fun out x => if out.any fun e => e.1 == x.got then out else out ++ [(x.got, x.course)]) []
def endB (b : Bk) : List (List Bool × List Int) := endTo (nowB b b.reads.length)
/-- an element as it is made in hour h -/
structure At.Ok (h : Nat) (x : At) : Prop where
  wind : x.wind < 8
  got : x.got.length = 24
  course : x.course.length ≤ h
  ne : x.course ≠ []
theorem stepB_ok {b : Bk} {h : Nat} {x : At} {next : List At} {w : Nat} (hx : x.got.length = 24 ∧ x.course.length ≤ h) (hw : w < 8) (hn : ∀ a ∈ next, a.Ok (h + 1)) : ∀ a ∈ stepB b h x next w, a.Ok (h + 1) := by
  intro a ha
  unfold stepB at ha
  split at ha
  · split at ha
    · exact hn a ha
    · rcases List.mem_append.1 ha with ha | ha
      · exact hn a ha
      · rw [List.mem_singleton.1 ha]
        exact ⟨hw, by simp [bk_hearG_len, hx.1], by simp; omega, by simp⟩
  · exact hn a ha
theorem stepB_len (b : Bk) (h : Nat) (x : At) (next : List At) (w : Nat) : (stepB b h x next w).length ≤ next.length + 1 := by
  unfold stepB
  split
  · split <;> simp
  · omega
theorem stepB_mem {b : Bk} {h : Nat} {x a : At} {next : List At} {w : Nat} (ha : a ∈ next) : a ∈ stepB b h x next w := by
  unfold stepB
  split
  · split
    · exact ha
    · exact List.mem_append_left _ ha
  · exact ha
theorem stepB_has {b : Bk} {h : Nat} {x : At} {next : List At} {w : Nat} (hc : canB b h w = true) : ∃ a ∈ stepB b h x next w, a.wind = w := by
  unfold stepB
  rw [if_pos hc]
  split
  · rename_i hany
    rw [List.any_eq_true] at hany
    obtain ⟨a, ha, he⟩ := hany
    simp at he
    exact ⟨a, ha, he.1⟩
  · exact ⟨_, List.mem_append_right _ (List.mem_singleton.2 rfl), rfl⟩
theorem steps_ok {b : Bk} {h : Nat} {x : At} (hx : x.got.length = 24 ∧ x.course.length ≤ h) : ∀ (ws : List Nat) (next : List At), (∀ w ∈ ws, w < 8) → (∀ a ∈ next, a.Ok (h + 1)) → ∀ a ∈ ws.foldl (stepB b h x) next, a.Ok (h + 1) := by
  intro ws
  induction ws with
  | nil => intro next _ hn; exact hn
  | cons w ws ih => intro next hw hn; exact ih _ (fun v hv => hw v (by simp [hv])) (stepB_ok hx (hw w (by simp)) hn)
theorem steps_len (b : Bk) (h : Nat) (x : At) : ∀ (ws : List Nat) (next : List At), (ws.foldl (stepB b h x) next).length ≤ next.length + ws.length := by
  intro ws
  induction ws with
  | nil => intro next; simp
  | cons w ws ih =>
    intro next
    have h1 := ih (stepB b h x next w)
    have h2 := stepB_len b h x next w
    simp only [List.foldl_cons, List.length_cons]
    omega
theorem steps_mem {b : Bk} {h : Nat} {x a : At} : ∀ (ws : List Nat) (next : List At), a ∈ next → a ∈ ws.foldl (stepB b h x) next := by
  intro ws
  induction ws with
  | nil => intro next ha; exact ha
  | cons w ws ih => intro next ha; exact ih _ (stepB_mem ha)
theorem steps_has {b : Bk} {h : Nat} {x : At} {w : Nat} (hc : canB b h w = true) : ∀ (ws : List Nat) (next : List At), w ∈ ws → ∃ a ∈ ws.foldl (stepB b h x) next, a.wind = w := by
  intro ws
  induction ws with
  | nil => intro next hw; simp at hw
  | cons v ws ih =>
    intro next hw
    rcases List.mem_cons.1 hw with rfl | hw
    · obtain ⟨a, ha, he⟩ := stepB_has (x := x) (next := next) hc
      exact ⟨a, steps_mem ws _ ha, he⟩
    · exact ih _ hw
theorem nearW_lt {w v : Nat} (h : v ∈ nearW w) : v < 8 := by unfold nearW at h; simp at h; exact h.1
theorem nearW_len (w : Nat) : (nearW w).length ≤ 8 := by
  unfold nearW
  have := List.length_filter_le (fun v : Nat => nearB v w) (List.range 8)
  simpa using this
theorem firstB_ok (b : Bk) (h : Nat) : ∀ a ∈ firstB b h, a.Ok (h + 1) := by
  unfold firstB
  split
  · exact steps_ok ⟨by simp [zeroAt], by simp [zeroAt]⟩ _ _ (fun w hw => by simpa using hw) (by simp)
  · simp
theorem firstB_len (b : Bk) (h : Nat) : (firstB b h).length ≤ 8 := by
  unfold firstB
  split
  · simpa using steps_len b h zeroAt (List.range 8) []
  · simp
theorem firstB_len' (b : Bk) (h : Nat) : (firstB b (h + 1)).length = 0 := rfl
def roundTo (b : Bk) (h : Nat) (l next : List At) : List At := l.foldl (fun next x => (nearW x.wind).foldl (stepB b h x) next) next
theorem roundTo_ok {b : Bk} {h : Nat} : ∀ (l next : List At), (∀ x ∈ l, x.Ok h) → (∀ a ∈ next, a.Ok (h + 1)) → ∀ a ∈ roundTo b h l next, a.Ok (h + 1) := by
  intro l
  induction l with
  | nil => intro next _ hn; exact hn
  | cons x l ih => intro next hx hn; exact ih _ (fun y hy => hx y (by simp [hy])) (steps_ok ⟨(hx x (by simp)).got, (hx x (by simp)).course⟩ _ _ (fun w hw => nearW_lt hw) hn)
theorem roundTo_len (b : Bk) (h : Nat) : ∀ (l next : List At), (roundTo b h l next).length ≤ next.length + 8 * l.length := by
  intro l
  induction l with
  | nil => intro next; simp [roundTo]
  | cons x l ih =>
    intro next
    have h1 := ih ((nearW x.wind).foldl (stepB b h x) next)
    have h2 := steps_len b h x (nearW x.wind) next
    have h3 := nearW_len x.wind
    have e : roundTo b h (x :: l) next = roundTo b h l ((nearW x.wind).foldl (stepB b h x) next) := rfl
    rw [e]
    simp only [List.length_cons]
    omega
theorem roundTo_mem {b : Bk} {h : Nat} {a : At} : ∀ (l next : List At), a ∈ next → a ∈ roundTo b h l next := by
  intro l
  induction l with
  | nil => intro next ha; exact ha
  | cons x l ih => intro next ha; exact ih _ (steps_mem _ _ ha)
theorem roundTo_has {b : Bk} {h w : Nat} {x : At} (hc : canB b h w = true) (hn : w ∈ nearW x.wind) : ∀ (l next : List At), x ∈ l → ∃ a ∈ roundTo b h l next, a.wind = w := by
  intro l
  induction l with
  | nil => intro next hx; simp at hx
  | cons y l ih =>
    intro next hx
    rcases List.mem_cons.1 hx with rfl | hx
    · obtain ⟨a, ha, he⟩ := steps_has (x := x) hc (nearW x.wind) next hn
      exact ⟨a, roundTo_mem l _ ha, he⟩
    · exact ih _ hx
theorem nowB_ok (b : Bk) : ∀ h, ∀ x ∈ nowB b h, x.Ok h := by
  intro h
  induction h with
  | zero => simp [nowB]
  | succ h ih => exact roundTo_ok _ _ ih (firstB_ok b h)
theorem nowB_len (b : Bk) : ∀ h, (nowB b h).length ≤ 8 ^ h := by
  intro h
  induction h with
  | zero => simp [nowB]
  | succ h ih =>
    have h1 := roundTo_len b h (nowB b h) (firstB b h)
    have e : nowB b (h + 1) = roundTo b h (nowB b h) (firstB b h) := rfl
    rw [e, Nat.pow_succ]
    cases h with
    | zero =>
      have h2 := firstB_len b 0
      have h3 : (nowB b 0).length = 0 := rfl
      omega
    | succ h =>
      have h2 := firstB_len' b h
      omega
/-- a course that fits -/
structure Fits (b : Bk) (real : List Nat) : Prop where
  len : real.length = b.reads.length
  lt : ∀ (h : Nat) (w : Nat), real[h]? = some w → w < 8 ∧ canB b h w = true
  near : ∀ (h : Nat) (v w : Nat), real[h]? = some v → real[h + 1]? = some w → nearB w v = true
theorem nowB_has {b : Bk} {real : List Nat} (hf : Fits b real) : ∀ h w, real[h]? = some w → ∃ x ∈ nowB b (h + 1), x.wind = w := by
  intro h
  induction h with
  | zero =>
    intro w hw
    obtain ⟨h1, h2⟩ := hf.lt 0 w hw
    obtain ⟨a, ha, he⟩ := steps_has (x := zeroAt) h2 (List.range 8) [] (by simpa using h1)
    exact ⟨a, roundTo_mem _ _ ha, he⟩
  | succ h ih =>
    intro w hw
    have hlt := (List.getElem?_eq_some_iff.1 hw).1
    obtain ⟨x, hx, he⟩ := ih real[h] (List.getElem?_eq_getElem (by omega))
    obtain ⟨h1, h2⟩ := hf.lt (h + 1) w hw
    have hn := hf.near h real[h] w (List.getElem?_eq_getElem (by omega)) hw
    exact roundTo_has h2 (by unfold nearW; rw [he]; simp [h1, hn]) _ _ hx
theorem endTo_ne {l : List At} (h : l ≠ []) : endTo l ≠ [] := by
  have key : ∀ (l : List At) (out : List (List Bool × List Int)), out ≠ [] → l.foldl (fun out x => if out.any fun e => e.1 == x.got then out else out ++ [(x.got, x.course)]) out ≠ [] := by
    intro l
    induction l with
    | nil => intro out ho; exact ho
    | cons x l ih =>
      intro out ho
      refine ih _ ?_
      dsimp only
      split
      · exact ho
      · simp
  cases l with
  | nil => exact absurd rfl h
  | cons x l => exact key l _ (by simp)
theorem endB_ne {b : Bk} (ok : b.Ok) {real : List Nat} (hf : Fits b real) : endB b ≠ [] := by
  refine endTo_ne fun h => ?_
  have hr := ok.reads
  have hl := hf.len
  obtain ⟨x, hx, _⟩ := nowB_has hf (b.reads.length - 1) real[b.reads.length - 1] (List.getElem?_eq_getElem (by omega))
  rw [Nat.sub_add_cancel hr.1, h] at hx
  simp at hx
end Ab
namespace Ab
open Go Go.RowKit Go.Proofs
/-- a place, as a key -/
def plcAV (w : Nat) (g : List Bool) : AV := .agg (.int .i64 w :: g.map AV.bool)
/-- the places that are met -/
def metE (l : List At) : List (AV × AV) := l.map fun a => (plcAV a.wind a.got, .bool true)
theorem bk_aeqs_bools : ∀ (g g' : List Bool), g.length = g'.length → aeqs (List.replicate g.length 2) (g.map AV.bool) (g'.map AV.bool) = some (g == g') := by
  intro g
  induction g with
  | nil =>
    intro g' h
    obtain rfl := List.eq_nil_of_length_eq_zero h.symm
    rfl
  | cons x g ih =>
    intro g' h
    cases g' with
    | nil => simp at h
    | cons y g' =>
      have := ih g' (by simpa using h)
      simp [List.replicate_succ, aeqs, aeq1, this]
theorem bk_aeqs_place (w w' : Nat) (g g' : List Bool) (h : g.length = 24) (h' : g'.length = 24) : aeqs [1, 2, 2, 2, 2, 2, 2, 2, 2, 2, 2, 2, 2, 2, 2, 2, 2, 2, 2, 2, 2, 2, 2, 2, 2] (.int .i64 w :: g.map AV.bool) (.int .i64 w' :: g'.map AV.bool) = some (decide (w = w') && g == g') := by
  have h1 := bk_aeqs_bools g g' (by omega)
  rw [h] at h1
  have e : [1, 2, 2, 2, 2, 2, 2, 2, 2, 2, 2, 2, 2, 2, 2, 2, 2, 2, 2, 2, 2, 2, 2, 2, 2] = 1 :: List.replicate 24 2 := rfl
  have e2 : ((w : Int) == (w' : Int)) = decide (w = w') := by
    rw [Bool.eq_iff_iff]; simp; omega
  rw [e, aeqs, h1]
  simp [aeq1, e2]
/-- a place is looked for -/
theorem bk_afind_met (w : Nat) (g : List Bool) (hg : g.length = 24) : ∀ (l : List At) (i : Nat), (∀ a ∈ l, a.got.length = 24) →
    if l.any (fun a => decide (a.wind = w) && a.got == g) then ∃ j, afind [1, 2, 2, 2, 2, 2, 2, 2, 2, 2, 2, 2, 2, 2, 2, 2, 2, 2, 2, 2, 2, 2, 2, 2, 2] (.int .i64 w :: g.map AV.bool) (metE l) i = some (some (j, .bool true))
    else afind [1, 2, 2, 2, 2, 2, 2, 2, 2, 2, 2, 2, 2, 2, 2, 2, 2, 2, 2, 2, 2, 2, 2, 2, 2] (.int .i64 w :: g.map AV.bool) (metE l) i = some none := by
  intro l
  induction l with
  | nil => intro i _; rfl
  | cons a l ih =>
    intro i hl
    have h1 := ih (i + 1) fun x hx => hl x (by simp [hx])
    have h2 := bk_aeqs_place w a.wind g a.got hg (hl a (by simp))
    have e : metE (a :: l) = (plcAV a.wind a.got, .bool true) :: metE l := rfl
    have sym : (decide (a.wind = w) && a.got == g) = (decide (w = a.wind) && g == a.got) := by
      rw [Bool.eq_iff_iff]; simp; constructor <;> (rintro ⟨h1, h2⟩; exact ⟨h1.symm, h2.symm⟩)
    rw [e, List.any_cons, sym]
    unfold plcAV afind
    rw [h2]
    cases (decide (w = a.wind) && g == a.got) with
    | true => simp
    | false => simpa using h1
theorem metE_snoc (l : List At) (w : Nat) (g : List Bool) (c : List Int) : metE l ++ [(plcAV w g, .bool true)] = metE (l ++ [⟨w, g, c⟩]) := by simp [metE]
end Ab
