/-
  WHAT IS KNOWN OF CALLS, for closed runs.
-/
import Derived.Test.YtdifgaapdnbliaaGreatDoorI13
import Derived.Test.YtdifgaapdnbliaaGreatDoorI10
import Derived.Test.YtdifgaapdnbliaaGreatDoorK3
set_option linter.unusedSimpArgs false
set_option linter.unusedVariables false
namespace Ab
open Go Go.RowKit Go.Proofs
attribute [local irreducible] aws awp aw1 Og Om Oc Oa Ogd Ov Ot awd aw1d awh aw1h Ogh Ohd awl Ogl Ohl awv Ogv Ohv QThen QBlock QFn QFnM QRo QBe ACode AYield
abbrev twoF : List Oyez.Rec := [⟨1, 3, [[116, 105, 100, 101], [97, 116], [115, 105, 120]]⟩, ⟨3, 12, []⟩]
theorem two_calls : APure Tryz.prog 77 [] (fileAV twoF) := by
  refine APure.of fun σ => ?_
  refine acalls_fn Tryz.func77 rfl (enters_fn Tryz.func77 (by decide) rfl) ?_
  simp [Tryz.ntmps77]
  refine .arr 3 (σ.length + 1) 0 _ [recAV ⟨1, 3, [[116, 105, 100, 101], [97, 116], [115, 105, 120]]⟩, recAV ⟨3, 12, []⟩] (fun i j => match i, j with
    | 0, 0 => .int .i64 1
    | 0, 1 => .int .i64 3
    | 0, _ => .arr 1 σ.length 0 3
    | _, 0 => .int .i64 3
    | _, 1 => .int .i64 12
    | _, _ => .nils) (by omega) (by simp; rfl) ?_ ?_
  · intro i x hx
    match i, hx with
    | 0, hx =>
      simp at hx
      subst hx
      refine ⟨rfl, fun j y hy => ?_⟩
      match j, hy with
      | 0, hy => simp [AV.cells] at hy; subst hy; exact ⟨rfl, rfl⟩
      | 1, hy => simp [AV.cells] at hy; subst hy; exact ⟨rfl, rfl⟩
      | 2, hy => simp [AV.cells] at hy; subst hy; exact ⟨rfl, rfl⟩
      | j + 3, hy => simp [AV.cells] at hy
    | 1, hx =>
      simp at hx
      subst hx
      refine ⟨rfl, fun j y hy => ?_⟩
      match j, hy with
      | 0, hy => simp [AV.cells] at hy; subst hy; exact ⟨rfl, rfl⟩
      | 1, hy => simp [AV.cells] at hy; subst hy; exact ⟨rfl, rfl⟩
      | 2, hy => simp [AV.cells] at hy; subst hy; exact ⟨rfl, rfl⟩
      | j + 3, hy => simp [AV.cells] at hy
    | i + 2, hx => simp at hx
  · intro i x hx j y hy
    match i, hx with
    | 0, hx =>
      simp at hx
      subst hx
      match j, hy with
      | 0, hy => simp [AV.cells] at hy; subst hy; exact .int _ _
      | 1, hy => simp [AV.cells] at hy; subst hy; exact .int _ _
      | 2, hy => simp [AV.cells] at hy; subst hy; exact Fz_off [[116, 105, 100, 101], [97, 116], [115, 105, 120]] 0 (Nat.le_refl _) (by simp)
      | j + 3, hy => simp [AV.cells] at hy
    | 1, hx =>
      simp at hx
      subst hx
      match j, hy with
      | 0, hy => simp [AV.cells] at hy; subst hy; exact .int _ _
      | 1, hy => simp [AV.cells] at hy; subst hy; exact .int _ _
      | 2, hy => simp [AV.cells] at hy; subst hy; exact .nils_pl 1
      | j + 3, hy => simp [AV.cells] at hy
    | i + 2, hx => simp at hx
/-! ### oracles -/
def pureO (f0 : FuncId) (g : List AV → Option AV) : Orc := fun f args σ => if f = f0 then (match g args with
  | some v => some (v, σ)
  | none => none) else none
theorem pureO_good {f0 : FuncId} {g : List AV → Option AV} (h : ∀ args v, g args = some v → APure Tryz.prog f0 args v) : (pureO f0 g).Good Tryz.prog := by
  intro f args σ v σ' hf
  unfold pureO at hf
  split at hf
  · rename_i he
    subst he
    split at hf
    · rename_i w hw
      simp only [Option.some.injEq, Prod.mk.injEq] at hf
      obtain ⟨rfl, rfl⟩ := hf
      exact h args _ hw σ
    · cases hf
  · cases hf
def orO (a b : Orc) : Orc := fun f args σ => match a f args σ with
  | some r => some r
  | none => b f args σ
theorem orO_good {a b : Orc} (ha : a.Good Tryz.prog) (hb : b.Good Tryz.prog) : (orO a b).Good Tryz.prog := by
  intro f args σ v σ' hf
  unfold orO at hf
  split at hf
  · rename_i r hr
    simp only [Option.some.injEq] at hf
    subst hf
    exact ha _ _ _ _ _ hr
  · exact hb _ _ _ _ _ hf
/-- one text -/
def str1 (g : List UInt8 → AV) (args : List AV) : Option AV := match args with
  | [.str s] => if s.length ≤ 1000 then some (g s) else none
  | _ => none
theorem str1_good {f0 : FuncId} {g : List UInt8 → AV} (h : ∀ s : List UInt8, s.length ≤ 1000 → APure Tryz.prog f0 [.str s] (g s)) : (pureO f0 (str1 g)).Good Tryz.prog := pureO_good fun args v hv => by
  unfold str1 at hv
  split at hv
  · split at hv
    · rename_i s hs
      simp only [Option.some.injEq] at hv
      subst hv
      exact h s hs
    · cases hv
  · cases hv
def strsOf : List AV → Option (List (List UInt8))
  | [] => some []
  | .str s :: l => (strsOf l).map (s :: ·)
  | _ => none
theorem strsOf_eq : ∀ (l : List AV) (ws : List (List UInt8)), strsOf l = some ws → l = ws.map AV.str := by
  intro l
  induction l with
  | nil => intro ws h; simp [strsOf] at h; subst h; rfl
  | cons x l ih =>
    intro ws h
    unfold strsOf at h
    split at h
    · rename_i h1; cases h1
    · rename_i s l' h1
      obtain ⟨rfl, rfl⟩ : x = .str s ∧ l = l' := by simpa using h1
      rw [Option.map_eq_some_iff] at h
      obtain ⟨ws', hw, rfl⟩ := h
      rw [ih _ hw]
      rfl
    · cases h
def joinO : Orc := fun f args σ => if f = 159 then (match args with
  | [.arr k r o n] => (match σ[r]? with
    | some (.cells cs) => (match strsOf cs with
      | some ws => if k = 1 ∧ o = 0 ∧ ws.length = n ∧ ws.length ≤ 1000 ∧ (join32 ws).length ≤ 100000 then some (.str (join32 ws), σ) else none
      | none => none)
    | _ => none)
  | _ => none) else none
theorem joinO_good : joinO.Good Tryz.prog := by
  intro f args σ v σ' hf
  unfold joinO at hf
  split at hf
  · rename_i he
    subst he
    split at hf
    · rename_i k r o n
      split at hf
      · rename_i cs hr
        split at hf
        · rename_i ws hws
          split at hf
          · rename_i hc
            obtain ⟨rfl, rfl, rfl, h1, h2⟩ := hc
            simp only [Option.some.injEq, Prod.mk.injEq] at hf
            obtain ⟨rfl, rfl⟩ := hf
            rw [strsOf_eq _ _ hws] at hr
            exact joined_arr σ r ws hr (by omega) (by omega)
          · cases hf
        · cases hf
      · cases hf
    · cases hf
  · cases hf
/-- Print of the file of example 1 -/
def printG (args : List AV) : Option AV := match args with
  | [a] => if AV.eqb 20 a (fileAV twoF) then some (.tup [.str (printC twoF).1, .int .i64 (printC twoF).2]) else none
  | _ => none
def itoaG (args : List AV) : Option AV := match args with
  | [.int .i64 n] => if -9223372036854775808 ≤ n ∧ n ≤ 9223372036854775807 then some (.str (Lib.itoa n)) else none
  | _ => none
def awakeO : Orc := orO (pureO 77 fun args => match args with | [] => some (fileAV twoF) | _ => none) <| orO (pureO 46 printG) <| orO (pureO 17 (str1 fun s => parsedAV (Oyez.parse s))) <|
  orO (pureO 21 (str1 fun s => .tup [.str (Oyez.sealOf s).1, .int .i64 (Oyez.sealOf s).2])) <| orO (pureO 25 (str1 fun s => .tup [.str (mendI s).1, .int .i64 (mendI s).2.1, .int .i64 (mendI s).2.2])) <|
  orO (pureO 152 (str1 fun s => .bool (Oyez.word s))) <| orO (pureO 160 itoaG) joinO
theorem awakeO_good : awakeO.Good Tryz.prog := by
  refine orO_good (pureO_good fun args v hv => ?_) <| orO_good (pureO_good fun args v hv => ?_) <| orO_good (str1_good fun s hs => parse_calls s (by omega)) <| orO_good (str1_good fun s _ => seal_calls s) <| orO_good (str1_good fun s _ => imend_calls s) <|
    orO_good (str1_good fun s hs => iword_calls s (by omega)) <| orO_good (pureO_good fun args v hv => ?_) joinO_good
  · split at hv
    · simp only [Option.some.injEq] at hv
      subst hv
      exact two_calls
    · cases hv
  · unfold printG at hv
    split at hv
    · split at hv
      · rename_i a he
        simp only [Option.some.injEq] at hv
        subst hv
        rw [AV.eqb_eq _ _ _ he]
        exact print_calls twoF (by intro r hr; simp at hr; rcases hr with rfl | rfl <;> decide)
      · cases hv
    · cases hv
  · unfold itoaG at hv
    split at hv
    · split at hv
      · rename_i n hn
        simp only [Option.some.injEq] at hv
        subst hv
        exact itoa_calls n hn.1 hn.2
      · cases hv
    · cases hv
end Ab
