/-
  THE LAST LINE; THE WORDS OF A LINE, one by one.
  THE IMPLEMENTATION's SEALS: sums, Seal.
  THE IMPLEMENTATION's opened.
  THE IMPLEMENTATION's Open, inverse, Mend.
  THE IMPLEMENTATION's read: what a line's rules do.
  THE IMPLEMENTATION's read.
  THE IMPLEMENTATION's Parse.
  WHAT IS KNOWN OF CALLS, for closed runs.
  WHAT IS KNOWN OF CALLS, with whatever objects more: the state at a place.
  AWAKE: the examples of the chapter are answered as the document says (a closed run).
  PARSES: equal lists of words, equal files, the reference's file as ours; the law's function answers true for every text.
  PARSES: the law's function answers true for every text.
  The closed run of the examples: the least load of a roll, the text of a file, the best share of a box.
-/
import Derived.Test.YtcoikmapjepdjaaGreatDoorA08
import Derived.Test.YtcoikmapjepdjaaGreatDoorA09
import Derived.Test.YtcoikmapjepdjaaGreatDoorA10
import Derived.Test.YtcoikmapjepdjaaGreatDoorA14
import Derived.Test.YtcoikmapjepdjaaGreatDoorA15
import Derived.Test.YtcoikmapjepdjaaGreatDoorA21
import Derived.Test.YtcoikmapjepdjaaGreatDoorA22
import Derived.Test.YtcoikmapjepdjaaGreatDoorA19
import Derived.Test.YtcoikmapjepdjaaGreatDoorA18
set_option linter.unusedSimpArgs false
set_option linter.unusedVariables false
set_option linter.unusedSectionVars false
namespace Ab
open Go Go.RowKit Go.Proofs
attribute [local irreducible] aws awp aw1 Og Om Oc Oa Ogd Ov Ot awd aw1d awh aw1h Ogh Ohd awl Ogl Ohl QThen QBlock QFn QFnM ACode
theorem AYield.mono {P : Program} {r : Nat} {args : List AV} {σ : Heap} {K K' : AV → Heap → Prop} (h : AYield P r args σ K) (hk : ∀ v s, K v s → K' v s) : AYield P r args σ K' := by
  have h1 : ∀ e env s, Ab.QRound r K e env s → Ab.QRound r K' e env s := by
    intro e env s hq
    cases e with
    | normal =>
      unfold Ab.QRound at hq ⊢
      simp only at hq ⊢
      split at hq
      · exact hk _ _ hq
      · cases hq
    | _ => cases hq
  unfold AYield at h ⊢
  split at h
  · rename_i hr
    refine ⟨h.1, h.2.mono fun e env s hq => ?_⟩
    cases e with
    | normal =>
      unfold Ab.QBegin at hq ⊢
      simp only at hq ⊢
      split at hq
      · exact ⟨hq.1, hq.2.mono h1⟩
      · cases hq
    | _ => cases hq
  · cases h
theorem StY.of {P : Program} {r : Nat} {args : List AV} {σ : Heap} {K R : AV → Heap → Prop} (h : AYield P r args σ K) (hk : ∀ v s, K v s → R v s) : @StY _ P r args σ ⟨R⟩ := h.mono hk
/-! ### parted -/
end Ab
namespace Ab
open Go Go.RowKit Go.Proofs
attribute [local irreducible] aws awp aw1 Og Om Oc Oa Ogd Ov Ot awd aw1d awh aw1h Ogh Ohd awl Ogl Ohl QThen QBlock QFn QFnM ACode AYield
theorem tarr140 : tarr Tryz.prog 211 = some (2, 3) := by kernel_rfl
attribute [simp] tarr140
def sumsAV (p : Nat × Nat) : AV := .agg [.int .i64 p.1, .int .i64 p.2]
end Ab
namespace Ab
open Go Go.RowKit Go.Proofs
attribute [local irreducible] aws awp aw1 Og Om Oc Oa Ogd Ov Ot awd aw1d awh aw1h Ogh Ohd awl Ogl Ohl QThen QBlock QFn QFnM QRo QBe ACode AYield
theorem abuild140 : abuild Tryz.prog 211 [] = some (.agg [.int .i64 0, .int .i64 0]) := by kernel_rfl
attribute [local simp] tarr140 abuild140
theorem wl0 : IntKind.i64.wrap 0 = 0 := w64 (by decide) (by decide)
theorem wl1 : IntKind.i64.wrap 1 = 1 := w64 (by decide) (by decide)
theorem wl2 : IntKind.i64.wrap 2 = 2 := w64 (by decide) (by decide)
theorem wl3 : IntKind.i64.wrap 3 = 3 := w64 (by decide) (by decide)
attribute [local simp] wl0 wl1 wl2 wl3
def seal4 : List UInt8 := [115, 101, 97, 108]
/-- what the round over the words of the last line leaves -/
def sA (pre : List (List UInt8)) : Int := match pre with | _ :: w :: _ => numVal w | _ => 0
def sB (pre : List (List UInt8)) : Int := match pre with | _ :: _ :: w :: _ => numVal w | _ => 0
def sOk (b : Bool) (pre : List (List UInt8)) : Bool := match pre with
  | [] => b
  | [x] => b && decide (x = seal4)
  | [x, y] => b && decide (x = seal4) && numOk y 65536
  | x :: y :: z :: _ => b && decide (x = seal4) && numOk y 65536 && numOk z 65536
def openC (t : List UInt8) : List UInt8 × Int × Int × Int :=
  match Oyez.openedOf t with
  | .error e => ([], 0, 0, e)
  | .ok (b, m, n) => (b, m, n, 0)
end Ab
namespace Ab
open Go Go.Proofs
attribute [local irreducible] aws awp aw1 Og Om Oc Oa Ogd Ov Ot awd aw1d QThen QBlock QFn QFnM ACode ACalls AYield
/-! ### Open -/
def openAV (x : Except Int (List UInt8 × Nat × Nat)) : AV := match x with
  | .error e => .tup [.str [], .int .i64 e]
  | .ok (b, m, n) => .tup [.str b, .int .i64 (if Oyez.sums b = (m, n) then 0 else 8)]
end Ab
namespace Ab
open Go Go.RowKit Go.Proofs
attribute [local irreducible] aws awp aw1 Og Om Oc Oa Ogd Ov Ot awd aw1d awh aw1h Ogh Ohd awl Ogl Ohl QThen QBlock QFn QFnM QRo QBe ACode AYield
theorem tplain140 : tplain Tryz.prog 211 = some [1, 1] := by kernel_rfl
attribute [local simp] tarr140 abuild140 tplain140 aeqs aeq1
/-- what Open answers -/
def openI (t : List UInt8) : List UInt8 × Int :=
  match Oyez.openedOf t with
  | .error e => ([], e)
  | .ok (b, m, n) => if Oyez.sums b = (m, n) then (b, 0) else ([], 8)
/-- what Mend answers -/
def mendI (t : List UInt8) : List UInt8 × Int × Int :=
  match Oyez.openedOf t with
  | .error e => ([], 0, e)
  | .ok (b, m, n) => if Oyez.sums b = (m, n) then ([], 0, 5) else ((Oyez.mendC t b m n).1, (Oyez.mendC t b m n).2.1, (Oyez.mendC t b m n).2.2)
end Ab
namespace Ab
open Go Go.RowKit Go.Proofs
attribute [local irreducible] aws awp aw1 Og Om Oc Oa Ogd Ov Ot awd aw1d awh aw1h Ogh Ohd awl Ogl Ohl QThen QBlock QFn QFnM QRo QBe ACode AYield
/-- the first error stays -/
def mustH (σ : Heap) (re rw : Nat) (e : Int) (ok : Bool) (w bad : Int) : Heap := if e = 0 ∧ ok = false then (σ.set rw (.cells [.int .i64 w])).set re (.cells [.int .i64 bad]) else σ
/-- the place of a word in a list -/
def idxOf (w : List UInt8) : List (List UInt8) → Nat → Int
  | [], _ => -1
  | x :: t, i => if w = x then i else idxOf w t (i + 1)
end Ab
namespace Ab
open Go Go.RowKit Go.Proofs
attribute [local irreducible] aws awp aw1 Og Om Oc Oa Ogd Ov Ot awd aw1d awh aw1h Ogh Ohd awl Ogl Ohl awv Ogv Ohv QThen QBlock QFn QFnM QRo QBe ACode AYield
def ireadAV (x : Except (Nat × Int) Oyez.Rec) : AV := match x with
  | .ok r => .tup [recAV r, .int .i64 0, .int .i64 0]
  | .error (w, e) => .tup [.agg [.int .i64 0, .int .i64 0, .nils], .int .i64 w, .int .i64 e]
/-! ### a slice of texts, one text more -/
theorem Fz_nils (n : Nat) (σ : Heap) : Fz n σ .nils .nils ↔ True := ⟨fun _ => trivial, fun _ => .nils⟩
attribute [local simp] Fz_nils
theorem Fz_off {n r : Nat} {σ : Heap} (ws : List (List UInt8)) (off : Nat) (hn : n ≤ r) (h : σ[r]? = some (.cells (ws.map AV.str))) : Fz n σ (.arr 1 r off (ws.drop off).length) (.pl 1 ((ws.drop off).map AV.str)) := by
  have := Fz.arr (n := n) (σ := σ) 1 r off (ws.map AV.str) ((ws.drop off).map AV.str) (fun i _ => (ws[off + i]?).elim .any AV.str) hn h (fun i x hx => by
    rw [List.getElem?_map, List.getElem?_drop, Option.map_eq_some_iff] at hx
    obtain ⟨w, hw, rfl⟩ := hx
    refine ⟨rfl, fun j y hy => ?_⟩
    cases j with
    | succ j => simp [AV.cells] at hy
    | zero =>
      simp [AV.cells] at hy
      subst hy
      refine ⟨rfl, ?_⟩
      rw [Nat.mul_one, Nat.add_zero, List.getElem?_map, hw]
      rfl) (fun i x hx j y hy => by
    rw [List.getElem?_map, List.getElem?_drop, Option.map_eq_some_iff] at hx
    obtain ⟨w, hw, rfl⟩ := hx
    cases j with
    | succ j => simp [AV.cells] at hy
    | zero =>
      simp [AV.cells] at hy
      subst hy
      rw [hw]
      exact .str w)
  rwa [List.length_map] at this
/-! ### the first error -/
def mustP (s : Int × Int) (ok : Bool) (w bad : Int) : Int × Int := if s.2 = 0 ∧ ok = false then (w, bad) else s
/-- the words one by one -/
def wst : List (List UInt8) → Nat → Int × Int → Int × Int
  | [], _, s => s
  | w :: t, i, s => wst t (i + 1) (mustP s (decide (i < 2) || Oyez.word w) i 11)
/-- what the first two words tell: kind, number, the word and the error -/
def rule1 (ws : List (List UInt8)) : Int × Int := mustP (0, 0) (decide (0 ≤ kindInt (ws.getD 0 []))) 0 12
def num2 (ws : List (List UInt8)) : Int := if 1 < ws.length then numVal (ws.getD 1 []) else 0
def rule2 (ws : List (List UInt8)) : Int × Int := mustP (rule1 ws) (decide (1 < ws.length) && numOk (ws.getD 1 []) 999) 1 11
def rule3 (ws : List (List UInt8)) : Int × Int := mustP (rule2 ws) (decide (ws.length ≤ 8)) 8 2
def finSt (ws : List (List UInt8)) : Int × Int := wst ws 0 (rule3 ws)
/-- the objects behind the words -/
def rdH (σ p2 : Heap) (ws : List (List UInt8)) (x : List UInt8) (k n : Int) (st : Int × Int) (more : Heap) : Heap :=
  σ ++ (.cells [.int .i64 0, .int .i64 0, .nils] :: .cells [.int .i64 k, .int .i64 n, .nils] :: .cells [.int .i64 st.1] :: .cells [.int .i64 st.2] :: .cells [.arr 1 (σ.length + (p2.length + 8)) 0 ws.length] :: .cells [.str x] :: .deferred :: .dead ::
    (p2 ++ (.cells (ws.map AV.str) :: .cells [.fn (.func 198) [] [.ptr (σ.length + 1) 0], .int .i64 12, .fn (.func 200) [] [.ptr (σ.length + 1) 0], .int .i64 11] :: more)))
end Ab
namespace Ab
open Go Go.RowKit Go.Proofs
attribute [local irreducible] aws awp aw1 Og Om Oc Oa Ogd Ov Ot awd aw1d awh aw1h Ogh Ohd awl Ogl Ohl awv Ogv Ohv QThen QBlock QFn QFnM QRo QBe ACode AYield
/-- what is left to parse -/
def restX (x : List UInt8) (f : List Oyez.Rec) : Oyez.Parsed := glue f (Oyez.parseLines (Oyez.linesOf x) (lastP f) f.length)
end Ab
namespace Ab
open Go Go.RowKit Go.Proofs
attribute [local irreducible] aws awp aw1 Og Om Oc Oa Ogd Ov Ot awd aw1d awh aw1h Ogh Ohd awl Ogl Ohl awv Ogv Ohv QThen QBlock QFn QFnM QRo QBe ACode AYield
abbrev twoF : List Oyez.Rec := [⟨1, 3, [[116, 105, 100, 101], [97, 116], [115, 105, 120]]⟩, ⟨3, 12, []⟩]
theorem two_calls : APure Tryz.prog 75 [] (fileAV twoF) := by
  refine APure.of fun σ => ?_
  refine acalls_fn Tryz.func75 rfl (enters_fn Tryz.func75 (by decide) rfl) ?_
  simp [Tryz.ntmps75]
  refine .arr 3 (σ.length + 1) 0 _ [recAV ⟨1, 3, [[116, 105, 100, 101], [97, 116], [115, 105, 120]]⟩, recAV ⟨3, 12, []⟩] (fun i j => match i, j with
    | 0, 0 => .int .i64 1
    | 0, 1 => .int .i64 3
    | 0, _ => .arr 1 σ.length 0 3
    | _, 0 => .int .i64 3
    | _, 1 => .int .i64 12
    | _, _ => .nils) (by omega) (by simp; rfl) ?_ ?_
  · intro i x hx
    match i, hx with
    | 0, hx =>
      simp at hx
      subst hx
      refine ⟨rfl, fun j y hy => ?_⟩
      match j, hy with
      | 0, hy => simp [AV.cells] at hy; subst hy; exact ⟨rfl, rfl⟩
      | 1, hy => simp [AV.cells] at hy; subst hy; exact ⟨rfl, rfl⟩
      | 2, hy => simp [AV.cells] at hy; subst hy; exact ⟨rfl, rfl⟩
      | j + 3, hy => simp [AV.cells] at hy
    | 1, hx =>
      simp at hx
      subst hx
      refine ⟨rfl, fun j y hy => ?_⟩
      match j, hy with
      | 0, hy => simp [AV.cells] at hy; subst hy; exact ⟨rfl, rfl⟩
      | 1, hy => simp [AV.cells] at hy; subst hy; exact ⟨rfl, rfl⟩
      | 2, hy => simp [AV.cells] at hy; subst hy; exact ⟨rfl, rfl⟩
      | j + 3, hy => simp [AV.cells] at hy
    | i + 2, hx => simp at hx
  · intro i x hx j y hy
    match i, hx with
    | 0, hx =>
      simp at hx
      subst hx
      match j, hy with
      | 0, hy => simp [AV.cells] at hy; subst hy; exact .int _ _
      | 1, hy => simp [AV.cells] at hy; subst hy; exact .int _ _
      | 2, hy => simp [AV.cells] at hy; subst hy; exact Fz_off [[116, 105, 100, 101], [97, 116], [115, 105, 120]] 0 (Nat.le_refl _) (by simp)
      | j + 3, hy => simp [AV.cells] at hy
    | 1, hx =>
      simp at hx
      subst hx
      match j, hy with
      | 0, hy => simp [AV.cells] at hy; subst hy; exact .int _ _
      | 1, hy => simp [AV.cells] at hy; subst hy; exact .int _ _
      | 2, hy => simp [AV.cells] at hy; subst hy; exact .nils_pl 1
      | j + 3, hy => simp [AV.cells] at hy
    | i + 2, hx => simp at hx
/-! ### oracles -/
def pureO (f0 : FuncId) (g : List AV → Option AV) : Orc := fun f args σ => if f = f0 then (match g args with
  | some v => some (v, σ)
  | none => none) else none
theorem pureO_good {f0 : FuncId} {g : List AV → Option AV} (h : ∀ args v, g args = some v → APure Tryz.prog f0 args v) : (pureO f0 g).Good Tryz.prog := by
  intro f args σ v σ' hf
  unfold pureO at hf
  split at hf
  · rename_i he
    subst he
    split at hf
    · rename_i w hw
      simp only [Option.some.injEq, Prod.mk.injEq] at hf
      obtain ⟨rfl, rfl⟩ := hf
      exact h args _ hw σ
    · cases hf
  · cases hf
def orO (a b : Orc) : Orc := fun f args σ => match a f args σ with
  | some r => some r
  | none => b f args σ
theorem orO_good {a b : Orc} (ha : a.Good Tryz.prog) (hb : b.Good Tryz.prog) : (orO a b).Good Tryz.prog := by
  intro f args σ v σ' hf
  unfold orO at hf
  split at hf
  · rename_i r hr
    simp only [Option.some.injEq] at hf
    subst hf
    exact ha _ _ _ _ _ hr
  · exact hb _ _ _ _ _ hf
/-- one text -/
def str1 (g : List UInt8 → AV) (args : List AV) : Option AV := match args with
  | [.str s] => if s.length ≤ 1000 then some (g s) else none
  | _ => none
def strsOf : List AV → Option (List (List UInt8))
  | [] => some []
  | .str s :: l => (strsOf l).map (s :: ·)
  | _ => none
def joinO : Orc := fun f args σ => if f = 189 then (match args with
  | [.arr k r o n] => (match σ[r]? with
    | some (.cells cs) => (match strsOf cs with
      | some ws => if k = 1 ∧ o = 0 ∧ ws.length = n ∧ ws.length ≤ 1000 ∧ (join32 ws).length ≤ 100000 then some (.str (join32 ws), σ) else none
      | none => none)
    | _ => none)
  | _ => none) else none
/-- Print of the file of example 1 -/
def printG (args : List AV) : Option AV := match args with
  | [a] => if AV.eqb 20 a (fileAV twoF) then some (.tup [.str (printC twoF).1, .int .i64 (printC twoF).2]) else none
  | _ => none
def itoaG (args : List AV) : Option AV := match args with
  | [.int .i64 n] => if -9223372036854775808 ≤ n ∧ n ≤ 9223372036854775807 then some (.str (Lib.itoa n)) else none
  | _ => none
def awakeO : Orc := orO (pureO 75 fun args => match args with | [] => some (fileAV twoF) | _ => none) <| orO (pureO 39 printG) <| orO (pureO 43 (str1 fun s => parsedAV (Oyez.parse s))) <|
  orO (pureO 40 (str1 fun s => .tup [.str (Oyez.sealOf s).1, .int .i64 (Oyez.sealOf s).2])) <| orO (pureO 41 (str1 fun s => .tup [.str (mendI s).1, .int .i64 (mendI s).2.1, .int .i64 (mendI s).2.2])) <|
  orO (pureO 201 (str1 fun s => .bool (Oyez.word s))) <| orO (pureO 38 itoaG) joinO
end Ab
namespace Ab
open Go Go.RowKit Go.Proofs
attribute [local irreducible] aws awp aw1 Og Om Oc Oa Ogd Ov Ot awd aw1d awh aw1h Ogh Ohd awl Ogl Ohl awv Ogv Ohv QThen QBlock QFn QFnM QRo QBe ACode AYield
def stateF : FOrc := fun f args σ => if f = 91 then (match args with
  | [.ptr d o, .agg [.int .i64 k, .int .i64 n]] => if o = 0 then (match σ[d]? with
    | some (.cells [rv, .mp m]) => (match σ[m]? with
      | some (.map es) => (match deskAt rv es k n σ with
        | some (w, is) => if w.one = true ∧ fzB σ.length 20 w = true then some (.agg [.bool is, w]) else none
        | none => none)
      | _ => none)
    | _ => none) else none
  | _ => none) else none
def ofF (F : FOrc) : Orc := fun f args σ => (F f args σ).map (·, σ)
abbrev lawO : Orc := orO awakeO (ofF stateF)
end Ab
namespace Ab
open Go Go.RowKit Go.Proofs
end Ab
namespace Ab
open Go Go.RowKit Go.Proofs
attribute [local irreducible] aws awp aw1 Og Om Oc Oa Ogd Ov Ot awd aw1d awh aw1h Ogh Ohd awl Ogl Ohl awv Ogv Ohv QThen QBlock QFn QFnM QRo QBe ACode AYield
set_option maxHeartbeats 1000000 in
theorem equal_calls (a b : List (List UInt8)) (ha : a.length ≤ 2 ^ 40) : APure Tryz.prog 103 [wordsAV a, wordsAV b] (.bool (decide (a = b))) := by
  intro σ
  refine acalls_fn Tryz.func103 rfl (enters_fn Tryz.func103 (by decide) rfl) ?_
  by_cases hab : a.length = b.length
  · obtain ⟨n, hn⟩ : ∃ n, b.length = n := ⟨_, rfl⟩
    have han : a.length = n := hab.trans hn
    simp [Tryz.ntmps103, han, hn]
    refine ACode_loopT (fun env σ' => ∃ (u : List AV) (i : Nat), env = { t := u } ∧ u.length = 26 ∧ tg u 0 = wordsAV a ∧ tg u 1 = wordsAV b ∧ tg u 12 = .int .i64 n ∧ tg u 13 = .int .i64 i ∧ σ' = σ ∧ i ≤ n ∧ a.take i = b.take i)
      (fun env _ => match tg env.t 13 with | .int _ i => n - i.toNat | _ => 0) ⟨_, 0, rfl, by simp, by simp, by simp, by simp, by simp, rfl, by omega, by simp⟩ ?_
    rintro env σ' ⟨u, i, rfl, hl, g0, g1, g12, g13, rfl, hi, hd⟩
    rcases Nat.lt_or_ge i n with hlt | hge
    · have hlt' : (i : Int) < (n : Int) := by omega
      have hx := w64 (n := (i : Int) + 1) (by omega) (by omega)
      have hia : i < a.length := by omega
      have hib : i < b.length := by omega
      simp [hl, g0, g1, g12, g13, hlt']
      refine ACode_draw0 mixed (by kernel_rfl) ?_
      by_cases he : a[i] = b[i]
      · simp [hl, g0, g1, g12, g13, han, hn, hlt, hlt', he, hx]
        refine ⟨⟨i + 1, by simp, by omega, ?_⟩, by omega⟩
        rw [List.take_succ_eq_append_getElem hia, List.take_succ_eq_append_getElem hib, hd, he]
      · have hne : ¬ a = b := fun h => he (by subst h; rfl)
        simp [hl, g0, g1, g12, g13, han, hn, hlt, hlt', he, hne]
    · have hge' : ¬ (i : Int) < (n : Int) := by omega
      have hE : a = b := by
        rw [List.take_of_length_le (by omega), List.take_of_length_le (by omega)] at hd
        exact hd
      simp [hl, g0, g1, g12, g13, hge', hE]
  · have hne : ¬ a = b := fun h => hab (by rw [h])
    have hab' : ¬ (a.length : Int) = (b.length : Int) := by omega
    simp [Tryz.ntmps103, hab', hne, hab]
theorem like_calls (a b : List (List UInt8)) (ha : a.length ≤ 2 ^ 40) : APure Tryz.prog 35 [wordsAV a, wordsAV b] (.bool (decide (a = b))) := by
  intro σ
  refine acalls_fn Tryz.func35 rfl (enters_fn Tryz.func35 (by decide) rfl) ?_
  simp [Tryz.ntmps35]
  refine (equal_calls a b ha).use ?_
  simp
end Ab
namespace Oyez
end Oyez
namespace Ab
open Go Go.RowKit Go.Proofs
attribute [local irreducible] aws awp aw1 Og Om Oc Oa Ogd Ov Ot awd aw1d awh aw1h Ogh Ohd awl Ogl Ohl awv Ogv Ohv QThen QBlock QFn QFnM QRo QBe ACode AYield
end Ab
namespace Ab
open Go Go.RowKit Go.Proofs
/-- the roll of the examples -/
def courtP : AV := .agg [.int .i64 3, .pl 2 [.agg [.int .i64 3, .pl 1 [.int .i64 0, .int .i64 1, .int .i64 2]], .agg [.int .i64 1, .pl 1 [.int .i64 0, .int .i64 1]], .agg [.int .i64 1, .pl 1 [.int .i64 0]], .agg [.int .i64 2, .pl 1 [.int .i64 0, .int .i64 1, .int .i64 2]]]]
def noF : FOrc := fun _ _ _ => none
theorem noF_good : noF.Good Tryz.prog := fun _ _ _ _ h => by cases h
def noO : Orc := fun _ _ _ => none
theorem noO_good : noO.Good Tryz.prog := fun _ _ _ _ _ h => by cases h
set_option maxRecDepth 100000 in
theorem sh00 : okAt Tryz.prog noF noO 300 Tryz.f148 [courtP, .int .i64 0] (.tup [.any, .bool false]) 0 = true := by kernel_rfl
set_option maxRecDepth 100000 in
theorem sh01 : okAt Tryz.prog noF noO 300 Tryz.f148 [courtP, .int .i64 0] (.tup [.any, .bool false]) 1 = true := by kernel_rfl
set_option maxRecDepth 100000 in
theorem sh02 : okAt Tryz.prog noF noO 300 Tryz.f148 [courtP, .int .i64 0] (.tup [.any, .bool false]) 2 = true := by kernel_rfl
set_option maxRecDepth 100000 in
theorem shared0 : APure Tryz.prog 148 [courtP, .int .i64 0] (.tup [.any, .bool false]) := APure.runP 300 mixed noF_good noO_good Tryz.func148 (by kernel_rfl) sh00 sh01 sh02
set_option maxRecDepth 100000 in
theorem sh10 : okAt Tryz.prog noF noO 300 Tryz.f148 [courtP, .int .i64 1] (.tup [.any, .bool false]) 0 = true := by kernel_rfl
set_option maxRecDepth 100000 in
theorem sh11 : okAt Tryz.prog noF noO 300 Tryz.f148 [courtP, .int .i64 1] (.tup [.any, .bool false]) 1 = true := by kernel_rfl
set_option maxRecDepth 100000 in
theorem sh12 : okAt Tryz.prog noF noO 300 Tryz.f148 [courtP, .int .i64 1] (.tup [.any, .bool false]) 2 = true := by kernel_rfl
set_option maxRecDepth 100000 in
theorem shared1 : APure Tryz.prog 148 [courtP, .int .i64 1] (.tup [.any, .bool false]) := APure.runP 300 mixed noF_good noO_good Tryz.func148 (by kernel_rfl) sh10 sh11 sh12
set_option maxRecDepth 100000 in
theorem sh20 : okAt Tryz.prog noF noO 300 Tryz.f148 [courtP, .int .i64 2] (.tup [.any, .bool false]) 0 = true := by kernel_rfl
set_option maxRecDepth 100000 in
theorem sh21 : okAt Tryz.prog noF noO 300 Tryz.f148 [courtP, .int .i64 2] (.tup [.any, .bool false]) 1 = true := by kernel_rfl
set_option maxRecDepth 100000 in
theorem sh22 : okAt Tryz.prog noF noO 300 Tryz.f148 [courtP, .int .i64 2] (.tup [.any, .bool false]) 2 = true := by kernel_rfl
set_option maxRecDepth 100000 in
theorem shared2 : APure Tryz.prog 148 [courtP, .int .i64 2] (.tup [.any, .bool false]) := APure.runP 300 mixed noF_good noO_good Tryz.func148 (by kernel_rfl) sh20 sh21 sh22
set_option maxRecDepth 100000 in
theorem sh30 : okAt Tryz.prog noF noO 300 Tryz.f148 [courtP, .int .i64 3] (.tup [.any, .bool true]) 0 = true := by kernel_rfl
set_option maxRecDepth 100000 in
theorem sh31 : okAt Tryz.prog noF noO 300 Tryz.f148 [courtP, .int .i64 3] (.tup [.any, .bool true]) 1 = true := by kernel_rfl
set_option maxRecDepth 100000 in
theorem sh32 : okAt Tryz.prog noF noO 300 Tryz.f148 [courtP, .int .i64 3] (.tup [.any, .bool true]) 2 = true := by kernel_rfl
set_option maxRecDepth 100000 in
theorem shared3 : APure Tryz.prog 148 [courtP, .int .i64 3] (.tup [.any, .bool true]) := APure.runP 300 mixed noF_good noO_good Tryz.func148 (by kernel_rfl) sh30 sh31 sh32
def courtF : FOrc := orF (lendF 148 [courtP, .int .i64 0] (.tup [.any, .bool false])) (orF (lendF 148 [courtP, .int .i64 1] (.tup [.any, .bool false])) (orF (lendF 148 [courtP, .int .i64 2] (.tup [.any, .bool false])) (lendF 148 [courtP, .int .i64 3] (.tup [.any, .bool true]))))
theorem courtF_good : courtF.Good Tryz.prog := orF_good (lendF_good shared0 rfl) (orF_good (lendF_good shared1 rfl) (orF_good (lendF_good shared2 rfl) (lendF_good shared3 rfl)))
/-- Print of the file of the example, as it lies -/
theorem print_two : APure Tryz.prog 39 [fileAV twoF] (.tup [.str (printC twoF).1, .int .i64 (printC twoF).2]) := print_calls twoF (by intro r hr; simp at hr; rcases hr with rfl | rfl <;> decide)
def twoO : Orc := orO (pureO 75 fun args => match args with | [] => some (fileAV twoF) | _ => none) <| orO (pureO 39 printG) (asO courtF)
theorem twoO_good : twoO.Good Tryz.prog := by
  refine orO_good (pureO_good fun args v hv => ?_) <| orO_good (pureO_good fun args v hv => ?_) (asO_good courtF_good)
  · split at hv
    · simp only [Option.some.injEq] at hv
      subst hv
      exact two_calls
    · cases hv
  · unfold printG at hv
    split at hv
    · split at hv
      · rename_i a he
        simp only [Option.some.injEq] at hv
        subst hv
        rw [AV.eqb_eq _ _ _ he]
        exact print_two
      · cases hv
    · cases hv
set_option maxRecDepth 100000 in
theorem awake11_calls : APure Tryz.prog 15 [] (.bool true) := APure.runG (F := courtF) (O := twoO) 300 mixed courtF_good twoO_good (by kernel_rfl)
end Ab
