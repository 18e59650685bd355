/-
  WHAT IS KNOWN OF CALLS, for closed runs.
  WHAT IS KNOWN OF CALLS, with whatever objects more: the state at a place.
  AWAKE: the examples of the chapter are answered as the document says (a closed run).
  PARSES: equal lists of words, equal files, the reference's file as ours; the law's function answers true for every text.
  PARSES: the law's function answers true for every text.
  THE REFERENCE's Get, Drop, Put and Print.
  COPIES: what is looked at (long, great), records as the reference's, lists copied, choices compared: the law's own functions.
  A ROW OF WHICH THE ROOM IS ASKED: a slice is taken with each room that it can have.
  slices.Insert OF ONE RECORD INTO AN OWN ROW: in place where there is room, else into a new row.
  slices.Insert OF ONE RECORD INTO AN OWN ROW: in place where there is room, else into a new row.
  slices.Insert OF ONE RECORD INTO AN OWN ROW, whatever its room.
  THE ORDER OF RECORDS in a copy that goes its own way.
-/
import Derived.Lib.Overlaps
import Derived.Test.YtcoikmapjepdjaaGreatDoorC22
import Derived.Test.YtcoikmapjepdjaaGreatDoorC13
import Derived.Test.YtcoikmapjepdjaaGreatDoorC12
import Derived.Test.YtcoikmapjepdjaaGreatDoorC25
import Derived.Test.YtcoikmapjepdjaaGreatDoorC19
import Derived.Test.YtcoikmapjepdjaaGreatDoorC26
import Derived.Test.YtcoikmapjepdjaaGreatDoorC15
import Derived.Test.YtcoikmapjepdjaaGreatDoorC14
set_option linter.unusedSimpArgs false
set_option linter.unusedVariables false
set_option linter.unusedSectionVars false
namespace Ab
open Go Go.RowKit Go.Proofs
attribute [local irreducible] aws awp aw1 Og Om Oc Oa Ogd Ov Ot awd aw1d awh aw1h Ogh Ohd awl Ogl Ohl awv Ogv Ohv QThen QBlock QFn QFnM QRo QBe ACode AYield
abbrev twoF : List Oyez.Rec := [⟨1, 3, [[116, 105, 100, 101], [97, 116], [115, 105, 120]]⟩, ⟨3, 12, []⟩]
theorem two_calls : APure Tryz.prog 75 [] (fileAV twoF) := by
  refine APure.of fun σ => ?_
  refine acalls_fn Tryz.func75 rfl (enters_fn Tryz.func75 (by decide) rfl) ?_
  simp [Tryz.ntmps75]
  refine .arr 3 (σ.length + 1) 0 _ [recAV ⟨1, 3, [[116, 105, 100, 101], [97, 116], [115, 105, 120]]⟩, recAV ⟨3, 12, []⟩] (fun i j => match i, j with
    | 0, 0 => .int .i64 1
    | 0, 1 => .int .i64 3
    | 0, _ => .arr 1 σ.length 0 3
    | _, 0 => .int .i64 3
    | _, 1 => .int .i64 12
    | _, _ => .nils) (by omega) (by simp; rfl) ?_ ?_
  · intro i x hx
    match i, hx with
    | 0, hx =>
      simp at hx
      subst hx
      refine ⟨rfl, fun j y hy => ?_⟩
      match j, hy with
      | 0, hy => simp [AV.cells] at hy; subst hy; exact ⟨rfl, rfl⟩
      | 1, hy => simp [AV.cells] at hy; subst hy; exact ⟨rfl, rfl⟩
      | 2, hy => simp [AV.cells] at hy; subst hy; exact ⟨rfl, rfl⟩
      | j + 3, hy => simp [AV.cells] at hy
    | 1, hx =>
      simp at hx
      subst hx
      refine ⟨rfl, fun j y hy => ?_⟩
      match j, hy with
      | 0, hy => simp [AV.cells] at hy; subst hy; exact ⟨rfl, rfl⟩
      | 1, hy => simp [AV.cells] at hy; subst hy; exact ⟨rfl, rfl⟩
      | 2, hy => simp [AV.cells] at hy; subst hy; exact ⟨rfl, rfl⟩
      | j + 3, hy => simp [AV.cells] at hy
    | i + 2, hx => simp at hx
  · intro i x hx j y hy
    match i, hx with
    | 0, hx =>
      simp at hx
      subst hx
      match j, hy with
      | 0, hy => simp [AV.cells] at hy; subst hy; exact .int _ _
      | 1, hy => simp [AV.cells] at hy; subst hy; exact .int _ _
      | 2, hy => simp [AV.cells] at hy; subst hy; exact Fz_off [[116, 105, 100, 101], [97, 116], [115, 105, 120]] 0 (Nat.le_refl _) (by simp)
      | j + 3, hy => simp [AV.cells] at hy
    | 1, hx =>
      simp at hx
      subst hx
      match j, hy with
      | 0, hy => simp [AV.cells] at hy; subst hy; exact .int _ _
      | 1, hy => simp [AV.cells] at hy; subst hy; exact .int _ _
      | 2, hy => simp [AV.cells] at hy; subst hy; exact .nils_pl 1
      | j + 3, hy => simp [AV.cells] at hy
    | i + 2, hx => simp at hx
/-! ### oracles -/
def pureO (f0 : FuncId) (g : List AV → Option AV) : Orc := fun f args σ => if f = f0 then (match g args with
  | some v => some (v, σ)
  | none => none) else none
theorem pureO_good {f0 : FuncId} {g : List AV → Option AV} (h : ∀ args v, g args = some v → APure Tryz.prog f0 args v) : (pureO f0 g).Good Tryz.prog := by
  intro f args σ v σ' hf
  unfold pureO at hf
  split at hf
  · rename_i he
    subst he
    split at hf
    · rename_i w hw
      simp only [Option.some.injEq, Prod.mk.injEq] at hf
      obtain ⟨rfl, rfl⟩ := hf
      exact h args _ hw σ
    · cases hf
  · cases hf
def orO (a b : Orc) : Orc := fun f args σ => match a f args σ with
  | some r => some r
  | none => b f args σ
theorem orO_good {a b : Orc} (ha : a.Good Tryz.prog) (hb : b.Good Tryz.prog) : (orO a b).Good Tryz.prog := by
  intro f args σ v σ' hf
  unfold orO at hf
  split at hf
  · rename_i r hr
    simp only [Option.some.injEq] at hf
    subst hf
    exact ha _ _ _ _ _ hr
  · exact hb _ _ _ _ _ hf
/-- one text -/
def str1 (g : List UInt8 → AV) (args : List AV) : Option AV := match args with
  | [.str s] => if s.length ≤ 1000 then some (g s) else none
  | _ => none
theorem str1_good {f0 : FuncId} {g : List UInt8 → AV} (h : ∀ s : List UInt8, s.length ≤ 1000 → APure Tryz.prog f0 [.str s] (g s)) : (pureO f0 (str1 g)).Good Tryz.prog := pureO_good fun args v hv => by
  unfold str1 at hv
  split at hv
  · split at hv
    · rename_i s hs
      simp only [Option.some.injEq] at hv
      subst hv
      exact h s hs
    · cases hv
  · cases hv
def strsOf : List AV → Option (List (List UInt8))
  | [] => some []
  | .str s :: l => (strsOf l).map (s :: ·)
  | _ => none
theorem strsOf_eq : ∀ (l : List AV) (ws : List (List UInt8)), strsOf l = some ws → l = ws.map AV.str := by
  intro l
  induction l with
  | nil => intro ws h; simp [strsOf] at h; subst h; rfl
  | cons x l ih =>
    intro ws h
    unfold strsOf at h
    split at h
    · rename_i h1; cases h1
    · rename_i s l' h1
      obtain ⟨rfl, rfl⟩ : x = .str s ∧ l = l' := by simpa using h1
      rw [Option.map_eq_some_iff] at h
      obtain ⟨ws', hw, rfl⟩ := h
      rw [ih _ hw]
      rfl
    · cases h
def joinO : Orc := fun f args σ => if f = 189 then (match args with
  | [.arr k r o n] => (match σ[r]? with
    | some (.cells cs) => (match strsOf cs with
      | some ws => if k = 1 ∧ o = 0 ∧ ws.length = n ∧ ws.length ≤ 1000 ∧ (join32 ws).length ≤ 100000 then some (.str (join32 ws), σ) else none
      | none => none)
    | _ => none)
  | _ => none) else none
theorem joinO_good : joinO.Good Tryz.prog := by
  intro f args σ v σ' hf
  unfold joinO at hf
  split at hf
  · rename_i he
    subst he
    split at hf
    · rename_i k r o n
      split at hf
      · rename_i cs hr
        split at hf
        · rename_i ws hws
          split at hf
          · rename_i hc
            obtain ⟨rfl, rfl, rfl, h1, h2⟩ := hc
            simp only [Option.some.injEq, Prod.mk.injEq] at hf
            obtain ⟨rfl, rfl⟩ := hf
            rw [strsOf_eq _ _ hws] at hr
            exact joined_arr σ r ws hr (by omega) (by omega)
          · cases hf
        · cases hf
      · cases hf
    · cases hf
  · cases hf
/-- Print of the file of example 1 -/
def printG (args : List AV) : Option AV := match args with
  | [a] => if AV.eqb 20 a (fileAV twoF) then some (.tup [.str (printC twoF).1, .int .i64 (printC twoF).2]) else none
  | _ => none
def itoaG (args : List AV) : Option AV := match args with
  | [.int .i64 n] => if -9223372036854775808 ≤ n ∧ n ≤ 9223372036854775807 then some (.str (Lib.itoa n)) else none
  | _ => none
def awakeO : Orc := orO (pureO 75 fun args => match args with | [] => some (fileAV twoF) | _ => none) <| orO (pureO 39 printG) <| orO (pureO 43 (str1 fun s => parsedAV (Oyez.parse s))) <|
  orO (pureO 40 (str1 fun s => .tup [.str (Oyez.sealOf s).1, .int .i64 (Oyez.sealOf s).2])) <| orO (pureO 41 (str1 fun s => .tup [.str (mendI s).1, .int .i64 (mendI s).2.1, .int .i64 (mendI s).2.2])) <|
  orO (pureO 201 (str1 fun s => .bool (Oyez.word s))) <| orO (pureO 38 itoaG) joinO
theorem awakeO_good : awakeO.Good Tryz.prog := by
  refine orO_good (pureO_good fun args v hv => ?_) <| orO_good (pureO_good fun args v hv => ?_) <| orO_good (str1_good fun s hs => parse_calls s (by omega)) <| orO_good (str1_good fun s _ => seal_calls s) <| orO_good (str1_good fun s _ => imend_calls s) <|
    orO_good (str1_good fun s hs => iword_calls s (by omega)) <| orO_good (pureO_good fun args v hv => ?_) joinO_good
  · split at hv
    · simp only [Option.some.injEq] at hv
      subst hv
      exact two_calls
    · cases hv
  · unfold printG at hv
    split at hv
    · split at hv
      · rename_i a he
        simp only [Option.some.injEq] at hv
        subst hv
        rw [AV.eqb_eq _ _ _ he]
        exact print_calls twoF (by intro r hr; simp at hr; rcases hr with rfl | rfl <;> decide)
      · cases hv
    · cases hv
  · unfold itoaG at hv
    split at hv
    · split at hv
      · rename_i n hn
        simp only [Option.some.injEq] at hv
        subst hv
        exact itoa_calls n hn.1 hn.2
      · cases hv
    · cases hv
end Ab
namespace Ab
open Go Go.RowKit Go.Proofs
attribute [local irreducible] aws awp aw1 Og Om Oc Oa Ogd Ov Ot awd aw1d awh aw1h Ogh Ohd awl Ogl Ohl awv Ogv Ohv QThen QBlock QFn QFnM QRo QBe ACode AYield
theorem fzB_mono {n m : Nat} (hnm : n ≤ m) : ∀ (k : Nat) (v : AV), fzB n k v = true → fzB m k v = true := by
  intro k
  induction k with
  | zero => intro v h; cases h
  | succ k ih =>
    intro v h
    cases v <;> simp only [fzB, decide_eq_true_eq, Bool.false_eq_true] at h ⊢
    case ptr => omega
    case yld => omega
    case arr => omega
    case pl l => exact List.all_eq_true.2 fun x hx => List.all_eq_true.2 fun y hy => ih _ (List.all_eq_true.1 (List.all_eq_true.1 h x hx) y hy)
    case agg l => exact List.all_eq_true.2 fun x hx => ih _ (List.all_eq_true.1 h x hx)
    case tup l => exact List.all_eq_true.2 fun x hx => ih _ (List.all_eq_true.1 h x hx)
def stateF : FOrc := fun f args σ => if f = 91 then (match args with
  | [.ptr d o, .agg [.int .i64 k, .int .i64 n]] => if o = 0 then (match σ[d]? with
    | some (.cells [rv, .mp m]) => (match σ[m]? with
      | some (.map es) => (match deskAt rv es k n σ with
        | some (w, is) => if w.one = true ∧ fzB σ.length 20 w = true then some (.agg [.bool is, w]) else none
        | none => none)
      | _ => none)
    | _ => none) else none
  | _ => none) else none
theorem stateF_good : stateF.Good Tryz.prog := by
  intro f args σ v hf g
  unfold stateF at hf
  split at hf
  · rename_i he
    subst he
    split at hf
    · rename_i d o k n
      split at hf
      · rename_i ho
        subst ho
        split at hf
        · rename_i rv m h1
          split at hf
          · rename_i es h2
            split at hf
            · rename_i w is h3
              split at hf
              · rename_i hc
                simp only [Option.some.injEq] at hf
                subst hf
                exact state_calls (σ ++ g) d m rv es (get_more h1) (get_more h2) k n w is (deskAt_frame h3) hc.1 fun S => fzB_sound 20 _ _ (fzB_mono (by simp) _ _ hc.2)
              · cases hf
            · cases hf
          · cases hf
        · cases hf
      · cases hf
    · cases hf
  · cases hf
def ofF (F : FOrc) : Orc := fun f args σ => (F f args σ).map (·, σ)
theorem ofF_good {F : FOrc} (h : F.Good Tryz.prog) : (ofF F).Good Tryz.prog := by
  intro f args σ v σ' hf
  unfold ofF at hf
  rw [Option.map_eq_some_iff] at hf
  obtain ⟨v', h1, h2⟩ := hf
  simp only [Prod.mk.injEq] at h2
  obtain ⟨rfl, rfl⟩ := h2
  have := h f args σ v' h1 []
  simpa using this
abbrev lawO : Orc := orO awakeO (ofF stateF)
theorem lawO_good : lawO.Good Tryz.prog := orO_good awakeO_good (ofF_good stateF_good)
end Ab
namespace Ab
open Go Go.RowKit Go.Proofs
set_option maxRecDepth 100000 in
theorem awake_calls : APure Tryz.prog 57 [] (.bool true) := APure.runG (F := stateF) (O := lawO) 300 mixed stateF_good lawO_good (by kernel_rfl)
end Ab
namespace Ab
open Go Go.RowKit Go.Proofs
attribute [local irreducible] aws awp aw1 Og Om Oc Oa Ogd Ov Ot awd aw1d awh aw1h Ogh Ohd awl Ogl Ohl awv Ogv Ohv QThen QBlock QFn QFnM QRo QBe ACode AYield
end Ab
namespace Oyez
end Oyez
namespace Ab
open Go Go.RowKit Go.Proofs
attribute [local irreducible] aws awp aw1 Og Om Oc Oa Ogd Ov Ot awd aw1d awh aw1h Ogh Ohd awl Ogl Ohl awv Ogv Ohv QThen QBlock QFn QFnM QRo QBe ACode AYield
end Ab
namespace Oyez
/-- what the reference's Put lays from here on -/
def putR (r : Rec) : Bool → List Rec → List Rec
  | done, [] => if done then [] else [r]
  | done, x :: t => (if !done && !(x.place.lt r.place) then [r] else []) ++ ((if x.place = r.place then [] else [x]) ++ putR r (done || !(x.place.lt r.place)) t)
end Oyez
namespace Ab
open Go Go.RowKit Go.Proofs
attribute [local irreducible] aws awp aw1 Og Om Oc Oa Ogd Ov Ot awd aw1d QThen QBlock QFn QFnM ACode ACalls AYield
/-- what a place has: the words, and whether it has any -/
def getW (o : Option (List (List UInt8))) : List (List UInt8) := o.getD []
/-- the file without a place, or the error -/
def dropC (f : List Oyez.Rec) (p : Oyez.Place) : List Oyez.Rec × Int := if (Oyez.getIn f p).isSome then (Oyez.drop f p, 0) else ([], 1)
/-- a file with a record put, or the error -/
def putC (f : List Oyez.Rec) (r : Oyez.Rec) : List Oyez.Rec × Int := if 40 < (Oyez.putR r false f).length then ([], 2) else (Oyez.putR r false f, 0)
end Ab
namespace Ab
open Go Go.RowKit Go.Proofs
attribute [local irreducible] aws awp aw1 Og Om Oc Oa Ogd Ov Ot awd aw1d awh aw1h Ogh Ohd awl Ogl Ohl awv Ogv Ohv QThen QBlock QFn QFnM QRo QBe ACode AYield
/-- words that are more than what is looked at -/
def longB (ws : List (List UInt8)) : Bool := ws.any (fun w => decide (90 < w.length)) || decide (10 < ws.length)
/-- records that are -/
def greatB (f : List Oyez.Rec) : Bool := f.any (fun r => longB r.words) || decide (60 < f.length)
/-- choices -/
def boolsAV (l : List Bool) : AV := .pl 1 (l.map AV.bool)
attribute [simp] boolsAV
theorem sum_const {α : Type} (l : List α) (k : Nat) (f : α → Nat) (h : ∀ a, f a = k) : (l.map f).sum = l.length * k := by
  induction l with
  | nil => simp
  | cons a t ih => rw [List.map_cons, List.sum_cons, ih, h, List.length_cons, Nat.add_mul]; omega
theorem fz_row {σ g : Heap} {k : Nat} (xs : List AV) (h : ∀ x ∈ xs, x.cells.length = k ∧ ∀ y ∈ x.cells, y.one = true) (hf : ∀ (n : Nat) (τ : Heap), ∀ x ∈ xs, ∀ y ∈ x.cells, Fz n τ y y) : Fz σ.length (σ ++ .cells (xs.flatMap AV.cells) :: g) (.arr k σ.length 0 xs.length) (.pl k xs) :=
  Acc.fz (o := some 0) ⟨h, rfl, rfl⟩ (hf _ _)
/-- the cells of records -/
def cellsR (f : List Oyez.Rec) : List AV := f.flatMap recCells
theorem cellsR_map (f : List Oyez.Rec) : (f.map recAV).flatMap AV.cells = cellsR f := by unfold cellsR; rw [List.flatMap_map]; rfl
theorem cellsR_len (f : List Oyez.Rec) : (cellsR f).length = f.length * 3 := by
  unfold cellsR
  induction f with
  | nil => rfl
  | cons p t ih => rw [List.flatMap_cons, List.length_append, ih]; simp [recCells]; omega
end Ab
namespace Ab
open Go Go.RowKit
variable [Mode]
variable {P : Program}
/-- one object told otherwise, the world being as it is -/
theorem Inv.retell {C : Ctx} {σ : Heap} (hI : Inv C σ) {r b : Nat} {o o' : AObj} (hb : C.blk[r]? = some b) (ho : σ[r]? = some o) (hl : o.live = true) (hR : ∀ c, C.w.heap[b]? = some c → ORel C o c → ORel C o' c) : Inv C (σ.set r o') := by
  have hrl := (List.getElem?_eq_some_iff.1 ho).1
  have old : ∀ (q : Nat) (p : AObj), (σ.set r o')[q]? = some p → p.live = true → ∃ p', σ[q]? = some p' ∧ p'.live = true := by
    intro q p hq hp
    by_cases e : r = q
    · subst e; exact ⟨o, ho, hl⟩
    · rw [List.getElem?_set_ne e] at hq; exact ⟨p, hq, hp⟩
  refine ⟨by rw [List.length_set]; exact hI.len, hI.glob, hI.base, hI.basep, hI.plt, fun q b' p hq hp hpl => ?_, fun q q' b' p p' hq hq' hp hp' hpl hpl' => ?_⟩
  · by_cases e : r = q
    · subst e
      rw [List.getElem?_set_self hrl] at hp
      obtain rfl := Option.some.inj hp
      rw [hb] at hq
      obtain rfl := Option.some.inj hq
      obtain ⟨h1, c, h2, h3⟩ := hI.live r b o hb ho hl
      exact ⟨h1, c, h2, hR c h2 h3⟩
    · rw [List.getElem?_set_ne e] at hp
      exact hI.live q b' p hq hp hpl
  · obtain ⟨x, hx, hxl⟩ := old q p hp hpl
    obtain ⟨x', hx', hxl'⟩ := old q' p' hp' hpl'
    exact hI.inj q q' b' x x' hq hq' hx hx' hxl hxl'
/-- **A SLICE, WITH EACH ROOM THAT IT CAN HAVE.** -/
theorem ACalls.room {f : FuncId} {k r off len : Nat} {rest : List AV} {σ : Heap} {cs : List AV} {R : AV → Heap → Prop} (hen : Enters P f) (hr : σ[r]? = some (.cells cs)) (hcl : cs.length = (off + len) * k)
    (h : ∀ cap, len ≤ cap → ACalls P f (.arc k r off len cap :: rest) (σ.set r (.cells (cs ++ List.replicate ((cap - len) * k) .any))) fun v σ' => ∃ v' cs' tl,
      (v = v' ∨ ∃ k2 r2 o2 l2 c2, v = .arc k2 r2 o2 l2 c2 ∧ v' = .arr k2 r2 o2 l2) ∧ σ'[r]? = some (.cells (cs' ++ tl)) ∧ R v' (σ'.set r (.cells cs'))) : ACalls P f (.arr k r off len :: rest) σ R := by
  have hrl := (List.getElem?_eq_some_iff.1 hr).1
  refine .inl ⟨hen, fun C cargs hI hv => ?_⟩
  obtain ⟨c, cs', rfl, hx, hrest⟩ := hv.inv
  obtain ⟨b, cap, e, n, hb, hcap, hsh, hbd, rfl⟩ := hx.arr_inv
  obtain ⟨hnp, carr, e', lo, hi, hc, hsz, hfr, hrel⟩ := hI.cells hb hr
  have hn : carr.size = n := by
    simp [World.shape?, hc] at hsh
    exact hsh.2
  have hI2 : Inv C (σ.set r (.cells (cs ++ List.replicate ((cap - len) * k) .any))) := hI.retell hb hr rfl fun c hc' _ => by
    rw [hc] at hc'
    obtain rfl := Option.some.inj hc'
    refine .cells _ carr e' lo hi ?_ hfr fun i x d hx hd => ?_
    · rw [List.length_append, List.length_replicate, hcl, hn, ← Nat.add_mul, show off + len + (cap - len) = off + cap by omega]
      exact hbd.1
    · rcases Nat.lt_or_ge i cs.length with h1 | h1
      · rw [List.getElem?_append_left h1] at hx
        exact hrel i x d hx hd
      · rw [List.getElem?_append_right h1] at hx
        have := List.mem_of_getElem? hx
        rw [List.mem_replicate] at this
        rw [this.2]
        exact .any d
  have hv2 : VRs C (.arc k r off len cap :: rest) (.slice (some ⟨b, off * k, none⟩) len cap :: cs') := .cons (.arc k r off len b cap e n hb hcap hsh hbd) hrest
  have fin : ∀ {C' : Ctx} {v : AV} {d : Value} {σ' : Heap}, Ext C C' → Inv C' σ' → VR C' v d → (∃ v' cs' tl, (v = v' ∨ ∃ k2 r2 o2 l2 c2, v = .arc k2 r2 o2 l2 c2 ∧ v' = .arr k2 r2 o2 l2) ∧ σ'[r]? = some (.cells (cs' ++ tl)) ∧ R v' (σ'.set r (.cells cs'))) →
      ∃ (v' : AV) (σ2 : Heap), Inv C' σ2 ∧ VR C' v' d ∧ R v' σ2 := by
    rintro C' v d σ' hE hI' hv' ⟨v', ds, tl, hvv, hr', hR⟩
    refine ⟨v', _, hI'.retell (hE.blk_at hb) hr' rfl fun c hc' hrel => ?_, ?_, hR⟩
    · obtain ⟨carr, e, lo, hi, rfl, h1, h2, h3⟩ := hrel.cells_inv
      refine .cells ds carr e lo hi (by rw [List.length_append] at h1; omega) h2 fun i x d hx hd => h3 i x d ?_ hd
      rw [List.getElem?_append_left (List.getElem?_eq_some_iff.1 hx).1]
      exact hx
    · rcases hvv with rfl | ⟨k2, r2, o2, l2, c2, rfl, rfl⟩
      · exact hv'
      · obtain ⟨b2, e2, n2, q1, q2, q3, q4, rfl⟩ := hv'.arc_inv
        exact .arr k2 r2 o2 l2 b2 c2 e2 n2 q1 q2 q3 q4
  rcases h cap hcap with h | h
  · refine (h.2 C _ hI2 hv2).mono ?_
    rintro en w' ⟨d, C', av, σ', rfl, rfl, hE, hI', hv', hR⟩
    obtain ⟨v', σ2, a1, a2, a3⟩ := fin hE hI' hv' hR
    exact ⟨d, C', v', σ2, rfl, rfl, hE, a1, a2, a3⟩
  · obtain ⟨d, C', av, σ', hrun, _⟩ := h C _ hI2 hv2
    rw [hen] at hrun
    cases hrun
end Ab
namespace Ab
open Go Go.RowKit Go.Proofs
attribute [local irreducible] aws awp aw1 Og Om Oc Oa Ogd Ov Ot awd aw1d awh aw1h Ogh Ohd awl Ogl Ohl awv Ogv Ohv QThen QBlock QFn QFnM QRo QBe ACode AYield
theorem Fr.tail {n e lo hi k : Nat} (h : Fr n e lo hi) (hk : Kt k e) (h1 : k ≠ 1) : ¬ (lo ≤ n ∧ n < hi) := by
  rcases hk with hk | hk
  · exact absurd hk h1
  · exact h.2.resolve_left hk
/-- what is inserted -/
def insC (cs ds : List AV) (i : Nat) : List AV := cs.take (i * 3) ++ ds ++ cs.drop (i * 3)
end Ab
namespace Ab
open Go Go.RowKit Go.Proofs
attribute [local irreducible] aws awp aw1 Og Om Oc Oa Ogd Ov Ot awd aw1d awh aw1h Ogh Ohd awl Ogl Ohl awv Ogv Ohv QThen QBlock QFn QFnM QRo QBe ACode AYield
end Ab
namespace Ab
open Go Go.RowKit Go.Proofs
attribute [local irreducible] aws awp aw1 Og Om Oc Oa Ogd Ov Ot awd aw1d awh aw1h Ogh Ohd awl Ogl Ohl awv Ogv Ohv QThen QBlock QFn QFnM QRo QBe ACode AYield
/-- what an insertion does: the row in which it is all, the others as they were -/
def InsQ (σ : Heap) (r n i : Nat) (cs ds : List AV) (v : AV) (σ' : Heap) : Prop :=
  ∃ r', v = .arr 3 r' 0 (n + 1) ∧ σ'[r']? = some (.cells (insC cs ds i)) ∧ σ.length ≤ σ'.length ∧ (r' = r ∨ σ.length ≤ r') ∧ ∀ j, j ≠ r → j < σ.length → σ'[j]? = σ[j]?
end Ab
namespace Ab
open Go Go.RowKit Go.Proofs
attribute [local irreducible] aws awp aw1 Og Om Oc Oa Ogd Ov Ot awd aw1d awh aw1h Ogh Ohd awl Ogl Ohl awv Ogv Ohv QThen QBlock QFn QFnM QRo QBe ACode AYield
/-- that of two records -/
def ordB (a b : Oyez.Rec) : Int := if a.kind = b.kind then a.number - b.number else a.kind - b.kind
/-- the numbers of a record are small -/
def SmallR (a : Oyez.Rec) : Prop := -2 ^ 40 ≤ a.kind ∧ a.kind ≤ 2 ^ 40 ∧ -2 ^ 40 ≤ a.number ∧ a.number ≤ 2 ^ 40
end Ab
