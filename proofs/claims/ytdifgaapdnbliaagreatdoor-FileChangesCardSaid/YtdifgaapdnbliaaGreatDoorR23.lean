/-
  PLAIN LAWS: what is printed is parsed as it was, what is parsed is printed as it was; the lines ahead of the first error.
  STRINGS SPLIT AT ONE BYTE: the plain part.
  CALLS WHOSE OWN OBJECTS ARE FORGOTTEN, where old ones have turned; lent objects.
  OWN OBJECTS THAT ARE LENT FOR GOOD: at a call they are taken as what they hold, and never written again.
  THE REFERENCE's Get, Drop, Put and Print.
  THE BELL: numbers that the outright laws draw from their argument.
  THE BELL: strokes, words, and the file that is made of numbers.
  WHAT THE ROWS' LISTED VARIABLES GIVE: a world in which the program's contracts hold; and from a contract to a law's row.
  ROWS WHOSE ARGUMENTS ARE ROWS OF BYTES: what such an argument reads as; the listed variables in their second order.
-/
import Derived.Test.YtdifgaapdnbliaaGreatDoorCards
import Derived.Test.YtdifgaapdnbliaaGreatDoorTie
import Derived.ProofKit
import Derived.OpenShut
import Derived.Lay
import Derived.LaidLaws
import Derived.SevenTiedAt
import Derived.Stop.Joined
import Derived.Deep.DeepHandedRow
import Derived.Lib.LaidTab
import Derived.ChangeSlices
import Derived.Carry
import Derived.Test.YtdifgaapdnbliaaGreatDoorR07
import Derived.Test.YtdifgaapdnbliaaGreatDoorR09
import Derived.Test.YtdifgaapdnbliaaGreatDoorR13
import Derived.Test.YtdifgaapdnbliaaGreatDoorR18
import Derived.Test.YtdifgaapdnbliaaGreatDoorR15
set_option linter.unusedSimpArgs false
set_option linter.unusedVariables false
set_option linter.unusedSectionVars false
namespace Oyez
def glueW : List S → S
  | [] => []
  | w :: t => w ++ t.flatMap (fun x => 32 :: x)
theorem wordsErr_zero {k n : Int} {ws : List S} (h : wordsErr k n ws = 0) : ws.length ≤ 6 ∧ ws.all word = true ∧ (line k n ws).length ≤ 64 := by
  unfold wordsErr at h
  split at h
  · cases h
  · split at h
    · cases h
    · split at h
      · cases h
      · rename_i h1 h2 h3
        exact ⟨by omega, by simpa using h2, by omega⟩
theorem recErr_iff (r : Rec) : recErr r = 0 ↔ placeErr r.kind r.number = 0 ∧ wordsErr r.kind r.number r.words = 0 := by
  refine ⟨recErr_place, fun ⟨h1, h2⟩ => ?_⟩
  unfold recErr oneErr
  rw [if_neg (by simpa using h1)]
  exact h2
/-! ### lines -/
def cat (l : List (S × Bool)) : S := l.flatMap fun x => x.1 ++ if x.2 then [10] else []
def okL : List (S × Bool) → Prop
  | [] => True
  | (w, e) :: t => (10 : UInt8) ∉ w ∧ (e = false → w ≠ [] ∧ t = []) ∧ okL t
end Oyez
namespace Oyez
/-- the pieces of a text at a byte, which each piece keeps or not -/
def sp (c : UInt8) (sv : Bool) : S → List S
  | [] => [[]]
  | b :: t => if b = c then (if sv then [b] else []) :: sp c sv t else
    match sp c sv t with
    | [] => [[b]]
    | w :: r => (b :: w) :: r
def piece (x : S × Bool) : S := x.1 ++ if x.2 then [10] else []
end Oyez
namespace Ab
open Go Go.RowKit
variable [Mode]
variable {P : Program}
/-- **A CALL THAT IS LENT OWN OBJECTS**: it reads them as what they hold, and changes nothing. -/
theorem APure.lend {f : FuncId} {args args' : List AV} {v : AV} (h : APure P f args v) {σ : Heap} (hl : args'.length = args.length)
    (hz : ∀ (i : Nat) (x y : AV), args'[i]? = some x → args[i]? = some y → Fz 0 σ x y) (hp : ∀ (C C' : Ctx) (c : Value), VR C v c → VR C' v c) : ACalls P f args' σ fun v' σ' => v' = v ∧ σ' = σ := by
  have lent : ∀ {C : Ctx} {cargs : List Value}, Inv C σ → VRs C args' cargs → VRs (C.frz 0 σ) args cargs := by
    intro C cargs hI hv
    refine ⟨hl ▸ hv.len, fun i y c hy hc => ?_⟩
    have hi := (List.getElem?_eq_some_iff.1 hy).1
    have hx : args'[i]? = some (args'[i]'(by omega)) := List.getElem?_eq_getElem (by omega)
    exact (hv.at_ i _ c hx hc).frz hI (hz i _ y hx hy)
  rcases h [] with h | h
  · refine .inl ⟨h.1, fun C cargs hI hv => (h.2 (C.frz 0 σ) cargs hI.base0 (lent hI hv)).mono ?_⟩
    rintro e w' ⟨c, C', av, s, rfl, rfl, hE, hI', hv', rfl, rfl⟩
    obtain ⟨h1, h2⟩ := hI.back0 hE hI'
    exact ⟨c, C.at_ C'.w, _, σ, rfl, rfl, h1, h2, hp _ _ _ hv', rfl, rfl⟩
  · refine .inr fun C cargs hI hv => ?_
    obtain ⟨c, C', av, s, hr, hE, hI', hv', rfl, rfl⟩ := h (C.frz 0 σ) cargs hI.base0 (lent hI hv)
    obtain ⟨h1, h2⟩ := hI.back0 hE hI'
    exact ⟨c, C.at_ C'.w, _, σ, hr, h1, h2, hp _ _ _ hv', rfl, rfl⟩
/-- an empty slice is nil, or it is not -/
theorem ACalls.pl0 {f : FuncId} {k : Nat} {σ : Heap} {R : AV → Heap → Prop} (hen : Enters P f) (h1 : ACalls P f [.nils] σ R) (h2 : ACalls P f [.nn] σ R) : ACalls P f [.pl k []] σ R := by
  have ent : ∀ {a : AV}, ACalls P f [a] σ R → ∀ C : Ctx, Inv C σ → (∃ c, VR C a c) → AEnter P f [a] σ R := by
    intro a h C hI ⟨c, hc⟩
    rcases h with h | h
    · exact h
    · obtain ⟨v, C', av, σ', hr, _⟩ := h C [c] hI ⟨rfl, fun i x c' hx hc' => by
        match i, hx, hc' with
        | 0, hx, hc' => simp at hx hc'; subst hx; subst hc'; exact hc
        | i + 1, hx, _ => simp at hx⟩
      rw [hen] at hr
      cases hr
  refine .inl ⟨hen, fun C cargs hI hv => ?_⟩
  obtain ⟨x, r, rfl, hx, hr⟩ := hv.inv
  obtain rfl := hr.of_nil
  obtain ⟨A, cap, rfl, _, _⟩ := hx.pl_inv
  have hcap := hx.pl_cap
  have one : ∀ (a : AV) (c : Value), VR C a c → VRs C [a] [c] := fun a c h => ⟨rfl, fun i x c' hx hc' => by
    match i, hx, hc' with
    | 0, hx, hc' => simp at hx hc'; subst hx; subst hc'; exact h
    | i + 1, hx, _ => simp at hx⟩
  cases A with
  | none =>
    obtain rfl := hcap rfl
    exact (ent h1 C hI ⟨_, .nils⟩).2 C _ hI (one _ _ .nils)
  | some a => exact (ent h2 C hI ⟨_, .nn a cap⟩).2 C _ hI (one _ _ (.nn a cap))
end Ab
namespace Ab
open Go Go.RowKit
variable [Mode]
variable {P : Program}
/-- objects n and behind are dead -/
def cold (n : Nat) (σ : Heap) : Heap := σ.take n ++ List.replicate (σ.length - n) .dead
theorem cold_length {n : Nat} {σ : Heap} : (cold n σ).length = σ.length := by
  unfold cold; simp; omega
theorem cold_get {n r : Nat} {σ : Heap} (h : r < n) : (cold n σ)[r]? = σ[r]? := by
  unfold cold
  rcases Nat.lt_or_ge r σ.length with h1 | h1
  · rw [List.getElem?_append_left (by simp; omega), List.getElem?_take_of_lt h]
  · rw [List.getElem?_eq_none (by simp; omega), List.getElem?_eq_none h1]
theorem cold_live {n r : Nat} {σ : Heap} {o : AObj} (h : (cold n σ)[r]? = some o) (hl : o.live = true) : r < n ∧ σ[r]? = some o := by
  rcases Nat.lt_or_ge r n with h1 | h1
  · exact ⟨h1, by rw [← cold_get h1]; exact h⟩
  · exfalso
    have h2 := (List.getElem?_eq_some_iff.1 h).1
    rw [cold_length] at h2
    unfold cold at h
    rw [List.getElem?_append_right (by simp; omega), List.getElem?_replicate] at h
    split at h
    · cases h; cases hl
    · cases h
theorem cold_app {σ g : Heap} : cold σ.length (σ ++ g) = σ ++ List.replicate g.length .dead := by
  unfold cold; simp
/-- the state with objects n and behind never written again, their numbers kept -/
def Ctx.ice (C : Ctx) (n : Nat) (σ : Heap) : Ctx :=
  { C with pers := fun b => C.pers b ∨ ∃ (r : Nat) (o : AObj), n ≤ r ∧ C.blk[r]? = some b ∧ σ[r]? = some o ∧ o.live = true }
theorem Ext.ice {C : Ctx} (n : Nat) (σ : Heap) : Ext C (C.ice n σ) := ⟨rfl, ⟨[], by simp [Ctx.ice]⟩, fun _ h => .inl h, fun _ _ => rfl, fun _ _ h => h, Nat.le_refl _, fun _ => Nat.le_refl _⟩
theorem Ext.frz_ice {C : Ctx} (n : Nat) (σ : Heap) : Ext (C.frz n σ) (C.ice n σ) :=
  ⟨rfl, ⟨C.blk.drop n, by simp [Ctx.ice, Ctx.frz]⟩, fun _ h => h, fun _ _ => rfl, fun _ _ h => h, Nat.le_refl _, fun _ => Nat.le_refl _⟩
theorem Inv.ice {C : Ctx} {σ : Heap} (hI : Inv C σ) (n : Nat) : Inv (C.ice n σ) (cold n σ) := by
  refine ⟨by rw [cold_length]; exact hI.len, hI.glob, hI.base, fun b hb => .inl (hI.basep b hb), fun b hb => ?_, fun r b o hr ho hl => ?_, fun r1 r2 b o1 o2 h1 h2 ho1 ho2 hl1 hl2 => ?_⟩
  · rcases hb with hb | ⟨r, o, _, h1, h2, h3⟩
    · exact hI.plt b hb
    · obtain ⟨_, c, hc, _⟩ := hI.live r b o h1 h2 h3
      exact (Array.getElem?_eq_some_iff.1 hc).1
  · obtain ⟨h1, h2⟩ := cold_live ho hl
    obtain ⟨hnp, c, hc, hR⟩ := hI.live r b o hr h2 hl
    refine ⟨?_, c, hc, hR.ext (Ext.ice n σ)⟩
    rintro (hp | ⟨r', o', g1, g2, g3, g4⟩)
    · exact hnp hp
    · have := hI.inj r r' b o o' hr g2 h2 g3 hl g4
      omega
  · exact hI.inj r1 r2 b o1 o2 h1 h2 (cold_live ho1 hl1).2 (cold_live ho2 hl2).2 hl1 hl2
/-- **A CALL WITH OBJECTS THAT WILL NOT BE WRITTEN AGAIN.** -/
theorem ACalls.freeze {f : FuncId} {args args' : List AV} {σ : Heap} {R : AV → Heap → Prop} (n : Nat) (h : ACalls P f args' (cold n σ) R) (hl : args'.length = args.length)
    (hz : ∀ (i : Nat) (x y : AV), args[i]? = some x → args'[i]? = some y → Fz n σ x y) : ACalls P f args σ R := by
  have lent : ∀ {C : Ctx} {cargs : List Value}, Inv C σ → VRs C args cargs → VRs (C.ice n σ) args' cargs := by
    intro C cargs hI hv
    refine ⟨hl ▸ hv.len, fun i y c hy hc => ?_⟩
    have hi := (List.getElem?_eq_some_iff.1 hy).1
    have hx : args[i]? = some (args[i]'(by omega)) := List.getElem?_eq_getElem (by omega)
    exact ((hv.at_ i _ c hx hc).frz hI (hz i _ y hx hy)).ext (Ext.frz_ice n σ)
  rcases h with h | h
  · refine .inl ⟨h.1, fun C cargs hI hv => (h.2 (C.ice n σ) cargs (hI.ice n) (lent hI hv)).mono ?_⟩
    rintro e w' ⟨v, C', av, s, rfl, rfl, hE, hI', hv', hR⟩
    exact ⟨v, C', av, s, rfl, rfl, (Ext.ice n σ).trans hE, hI', hv', hR⟩
  · refine .inr fun C cargs hI hv => ?_
    obtain ⟨v, C', av, s, hr, hE, hI', hv', hR⟩ := h (C.ice n σ) cargs (hI.ice n) (lent hI hv)
    exact ⟨v, C', av, s, hr, (Ext.ice n σ).trans hE, hI', hv', hR⟩
theorem Fz.tup2 {n : Nat} {σ : Heap} {a b a' b' : AV} (h1 : Fz n σ a a') (h2 : Fz n σ b b') : Fz n σ (.tup [a, b]) (.tup [a', b']) :=
  .tup _ _ rfl fun i x y hx hy => by
    match i with
    | 0 => simp at hx hy; subst hx; subst hy; exact h1
    | 1 => simp at hx hy; subst hx; subst hy; exact h2
    | i + 2 => simp at hx
theorem Fz.agg2 {n : Nat} {σ : Heap} {a b a' b' : AV} (h1 : Fz n σ a a') (h2 : Fz n σ b b') : Fz n σ (.agg [a, b]) (.agg [a', b']) :=
  .agg _ _ rfl fun i x y hx hy => by
    match i with
    | 0 => simp at hx hy; subst hx; subst hy; exact h1
    | 1 => simp at hx hy; subst hx; subst hy; exact h2
    | i + 2 => simp at hx
theorem Acc.shift {σ s g : Heap} {k : Nat} {v : AV} {l : List AV} {o : Option Nat} (h : Acc (σ ++ s) g k v l o) : Acc σ (s ++ g) k v l (o.map (s.length + ·)) := ⟨h.len, by
  have := h.val
  cases o with
  | none => exact this
  | some j =>
    obtain ⟨h1, h2⟩ := this
    refine ⟨by rw [h1, List.length_append, Nat.add_assoc], ?_⟩
    show (s ++ g)[s.length + j]? = _
    rw [List.getElem?_append_right (by omega), show s.length + j - s.length = j by omega]
    exact h2⟩
end Ab
namespace Oyez
/-- what the reference's Put lays from here on -/
def putR (r : Rec) : Bool → List Rec → List Rec
  | done, [] => if done then [] else [r]
  | done, x :: t => (if !done && !(x.place.lt r.place) then [r] else []) ++ ((if x.place = r.place then [] else [x]) ++ putR r (done || !(x.place.lt r.place)) t)
end Oyez
namespace Ab
open Go Go.RowKit Go.Proofs
attribute [local irreducible] aws awp aw1 Og Om Oc Oa Ogd Ov Ot awd aw1d QThen QBlock QFn QFnM ACode ACalls AYield
theorem fz_recs (n : Nat) (σ : Heap) (f : List Oyez.Rec) : ∀ x ∈ f.map recAV, ∀ y ∈ x.cells, Fz n σ y y := fun x hx y hy => by
  obtain ⟨r, _, rfl⟩ := List.mem_map.1 hx
  simp [AV.cells] at hy
  rcases hy with rfl | rfl | rfl
  · exact .int _ _
  · exact .int _ _
  · exact (Fz_strs _ _ _).2 trivial
/-- what a place has: the words, and whether it has any -/
def getW (o : Option (List (List UInt8))) : List (List UInt8) := o.getD []
set_option maxHeartbeats 1000000 in
theorem refGet_calls (f : List Oyez.Rec) (k n : Int) (hf : f.length ≤ 2 ^ 50) : APure Tryz.prog 59 [fileAV f, .int .i64 k, .int .i64 n] (.tup [wordsAV (getW (Oyez.getIn f ⟨k, n⟩)), .bool (Oyez.getIn f ⟨k, n⟩).isSome]) := by
  refine APure.of fun σ => ?_
  generalize hX : Oyez.getIn f ⟨k, n⟩ = X
  refine acalls_fn Tryz.func59 rfl (enters_fn Tryz.func59 (by decide) rfl) ?_
  simp [Tryz.ntmps59]
  refine ACode_loopT (fun env σ' => ∃ (u : List AV) (i : Nat), env = { t := u } ∧ u.length = 36 ∧ tg u 0 = fileAV f ∧ tg u 1 = .int .i64 k ∧ tg u 2 = .int .i64 n ∧ tg u 8 = .int .i64 i ∧ σ' = σ ∧ i ≤ f.length ∧ Oyez.getIn (f.drop i) ⟨k, n⟩ = X)
    (fun env _ => match tg env.t 8 with | .int _ i => f.length - i.toNat | _ => 0) ⟨_, 0, rfl, by simp, by simp, by simp, by simp, by simp, rfl, by omega, by simp [hX]⟩ ?_
  rintro env σ' ⟨u, i, rfl, hl, g0, g1, g2, g8, rfl, hi, hd⟩
  rcases Nat.lt_or_ge i f.length with hlt | hge
  · have hlt' : (i : Int) < (f.length : Int) := by omega
    have hx := w64 (n := (i : Int) + 1) (by omega) (by omega)
    rw [List.drop_eq_getElem_cons hlt, Oyez.getIn_cons] at hd
    by_cases hk : f[i].kind = k
    · by_cases hn : f[i].number = n
      · have hp : f[i].place = ⟨k, n⟩ := Oyez.Place.ext' hk hn
        rw [if_pos hp] at hd
        subst hd
        simp [hl, g0, g1, g2, g8, hlt', hlt, hk, hn, getW]
      · have hp : ¬ f[i].place = ⟨k, n⟩ := fun h => hn (by rw [show f[i].number = f[i].place.number from rfl, h])
        rw [if_neg hp] at hd
        simp [hl, g0, g1, g2, g8, hlt', hlt, hk, hn, hx]
        exact ⟨⟨i + 1, by simp, hlt, hd⟩, by omega⟩
    · have hp : ¬ f[i].place = ⟨k, n⟩ := fun h => hk (by rw [show f[i].kind = f[i].place.kind from rfl, h])
      rw [if_neg hp] at hd
      simp [hl, g0, g1, g2, g8, hlt', hlt, hk, hx]
      exact ⟨⟨i + 1, by simp, hlt, hd⟩, by omega⟩
  · have hge' : ¬ (i : Int) < (f.length : Int) := by omega
    rw [List.drop_eq_nil_of_le hge] at hd
    have hX2 : X = none := by rw [← hd]; rfl
    subst hX2
    simp [hl, g0, g1, g2, g8, hge', getW]
/-- the file without a place, or the error -/
def dropC (f : List Oyez.Rec) (p : Oyez.Place) : List Oyez.Rec × Int := if (Oyez.getIn f p).isSome then (Oyez.drop f p, 0) else ([], 1)
/-- a file with a record put, or the error -/
def putC (f : List Oyez.Rec) (r : Oyez.Rec) : List Oyez.Rec × Int := if 40 < (Oyez.putR r false f).length then ([], 2) else (Oyez.putR r false f, 0)
end Ab
namespace Ab
open Go Go.RowKit Go.Proofs
attribute [local irreducible] aws awp aw1 Og Om Oc Oa Ogd Ov Ot awd aw1d awh aw1h Ogh Ohd awl Ogl Ohl awv Ogv Ohv QThen QBlock QFn QFnM QRo QBe ACode AYield
def bytesL (l : List UInt8) : List AV := l.map fun b => AV.int .u8 b.toNat
def bellObj (l : List UInt8) (a : Nat) (c : Int) : AObj := .cells [.pl 1 (bytesL l), .int .i64 a, .int .u32 c]
end Ab
namespace Ab
open Go Go.RowKit Go.Proofs
attribute [local irreducible] aws awp aw1 Og Om Oc Oa Ogd Ov Ot awd aw1d awh aw1h Ogh Ohd awl Ogl Ohl awv Ogv Ohv QThen QBlock QFn QFnM QRo QBe ACode AYield
/-- a number from 0 up to m -/
def Drew (l : List UInt8) (d : Nat) (σ : Heap) (m : Int) (v : AV) (σ' : Heap) : Prop := ∃ (n : Int) (a' : Nat) (c' : Int), v = .int .i64 n ∧ 0 ≤ n ∧ n ≤ m ∧ a' ≤ l.length ∧ σ' = σ.set d (bellObj l a' c')
/-- the words that are drawn -/
def wordL : List (List UInt8) := [[116, 105, 100, 101], [115, 116, 111, 114, 109], [113, 117, 97, 121], [112, 117, 114, 115, 101, 55], [98, 101, 108, 108], [97], [48], [108, 111, 97, 102, 52]]
theorem Acc.set {σ g : Heap} {k : Nat} {v : AV} {l : List AV} {o : Option Nat} (h : Acc σ g k v l o) (d : Nat) (X : AObj) : Acc (σ.set d X) g k v l o := ⟨h.len, by
  have := h.val
  cases o with
  | none => exact this
  | some j => rw [List.length_set]; exact this⟩
theorem set_set {σ g : Heap} {d : Nat} (hd : d < σ.length) (X Y : AObj) : (σ.set d X ++ g).set d Y = σ.set d Y ++ g := by
  rw [List.set_append_left _ _ (by simpa using hd), List.set_set]
end Ab
namespace Ab
open Go Go.RowKit Go.Proofs Go.ChangeShapes Go.WideShapes Go.ChangeAt
theorem tyAt {P : Program} {W : World} {ps : List MemPlace} {x : String × DataW Unit} {rest : List (String × DataW Unit)} (h : DataW.LaidVars P W (x :: rest) ps) {g : Nat} {t : TypeId} (hg : P.globalNamed x.1 = some g) (ht : (P.globals[g]?).map (·.type) = some t) :
    (∃ cs fuel p, W.var? P x.1 = some cs ∧ DataW.trod (fun _ => ()) P W 0 (fun _ => true) false fuel t cs.toList = some (x.2, p)) ∧ ∃ q, DataW.LaidVars P W rest q := by
  obtain ⟨g', t', cs, fuel, p, q, hg', ht', hvar, hd, h2, _⟩ := h
  obtain rfl := Option.some.inj (hg.symm.trans hg')
  obtain rfl := Option.some.inj (ht.symm.trans ht')
  exact ⟨⟨cs, fuel, p, hvar, hd⟩, q, h2⟩
theorem lstAt {P : Program} {W : World} {ps : List MemPlace} {x : String × DataW Unit} {rest : List (String × DataW Unit)} (h : DataW.LaidVars P W (x :: rest) ps) : ∃ q, DataW.LaidVars P W rest q := by
  obtain ⟨g', t', cs, fuel, p, q, hg', ht', hvar, hd, h2, _⟩ := h
  exact ⟨q, h2⟩
theorem errAt {P : Program} {W : World} {t : TypeId} {ms : Array (String × TypeId)} {s nm : String} {d : DataW Unit} {fuel : Nat} {p : List MemPlace} {cs : Array Value} (hi : P.underlying t = some (.interface ms)) (hv : W.var? P s = some cs)
    (hd : DataW.trod (fun _ => ()) P W 0 (fun _ => true) false fuel t cs.toList = some (.iface nm d, p)) : ∃ (tp : TypeId) (q : Value), W.var? P s = some #[.iface tp q] := by
  obtain ⟨_, u, v, he, _⟩ := iface_of_trod hi hd
  refine ⟨u, v, ?_⟩
  rw [hv, ← Array.toList_inj.1 (show cs.toList = #[Value.iface u v].toList from he)]
/-- the three variables that the program's contracts ask for -/
theorem goodW_of {W : World} {ps : List MemPlace} {x y : String × DataW Unit} {n1 n2 : String} {d1 d2 : DataW Unit} {rest : List (String × DataW Unit)}
    (h : DataW.LaidVars Tryz.prog W (x :: y :: ("internal/strconv.uint64pow10", Lib.tabData .u64 Lib.pow10Tab) :: ("strconv.ErrRange", .iface n1 d1) :: ("strconv.ErrSyntax", .iface n2 d2) :: rest) ps) : GoodW W := by
  obtain ⟨_, h⟩ := lstAt h
  obtain ⟨_, h⟩ := lstAt h
  obtain ⟨⟨cs, f, p, hv, hd⟩, _, h⟩ := tyAt (g := 5) (t := 308) h (by kernel_rfl) (by kernel_rfl)
  obtain ⟨⟨cs2, f2, p2, hv2, hd2⟩, _, h⟩ := tyAt (g := 4) (t := 181) h (by kernel_rfl) (by kernel_rfl)
  obtain ⟨⟨cs3, f3, p3, hv3, hd3⟩, _, h⟩ := tyAt (g := 3) (t := 181) h (by kernel_rfl) (by kernel_rfl)
  refine ⟨?_, errAt (ms := _) Tryz.underlying181 hv3 hd3, errAt (ms := _) Tryz.underlying181 hv2 hd2⟩
  unfold Lib.TabIs
  rw [hv, ← Lib.cells_of_tab Tryz.underlying308 Tryz.underlying240 (by kernel_rfl) (by kernel_rfl) hd]
/-- A CONTRACT AT A WORLD. -/
theorem APure.law {f : FuncId} {args : List AV} {b : Bool} (hen : Enters Tryz.prog f) (h : APure Tryz.prog f args (.bool b)) {W : World} (hW : GoodW W) {cargs : List Value} (hv : ∀ C : Ctx, C.w = W → (∀ b, b < W.heap.size → C.pers b) → VRs C args cargs) :
    Calls Tryz.prog f cargs.toArray W fun e w' => e = .returned (.bool b) ∧ Below W.heap.size W w' := by
  have hC : All ⟨W, [], fun b => b < W.heap.size, W⟩ := ⟨⟨rfl, hW, Below.refl _ _, fun b hb => hb, fun b hb => hb, fun r b o h => by simp at h, fun r r' b o o' h => by simp at h⟩, rfl, fun b hb => hb⟩
  refine (h.callsC hen hC (hv _ rfl fun _ h => h)).mono ?_
  rintro e w' ⟨⟨c, C', rfl, hc⟩, hb⟩
  rw [hc.bool_inv]
  exact ⟨rfl, hb⟩
end Ab
namespace Ab
open Go Go.RowKit Go.Proofs Go.ChangeShapes Go.WideShapes Go.ChangeAt
theorem laidOut : laidOutB Tryz.prog = true := by kernel_rfl
theorem vrs_cons {C : Ctx} {x : AV} {c : Value} {xs : List AV} {cs : List Value} (h : VR C x c) (hs : VRs C xs cs) : VRs C (x :: xs) (c :: cs) := .cons h hs
end Ab
