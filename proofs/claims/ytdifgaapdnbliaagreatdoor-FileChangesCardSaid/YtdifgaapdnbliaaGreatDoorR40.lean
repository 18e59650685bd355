/-
  REGIONS THAT DRAW, with slice literals that are never written again: these are looked at at no other level.
  THE FILE THAT IS MADE OF NUMBERS.
  THE FILES THAT ARE MADE OF NUMBERS: of up to 20 records, and of up to 15; their words.
  A COPY THAT WENT ITS OWN WAY (the statements' Copied).
  WHAT THE LAWS OF DRAWN FILES SHARE: files that are right, the places that copies of a file can have.
  Put, Drop, Make.
  Get, Drop.
  FILES OF THE CALL's OWN whose words are cleared: what lies as it did.
  FileRecords: the walk.
  CHANGES OF THE CALL's OWN whose words are cleared: what lies as it did.
-/
import Derived.Test.YtdifgaapdnbliaaGreatDoorR09
import Derived.Test.YtdifgaapdnbliaaGreatDoorR18
import Derived.Test.YtdifgaapdnbliaaGreatDoorR23
import Derived.Test.YtdifgaapdnbliaaGreatDoorR24
import Derived.Test.YtdifgaapdnbliaaGreatDoorR34
import Derived.Test.YtdifgaapdnbliaaGreatDoorR38
import Derived.Test.YtdifgaapdnbliaaGreatDoorR29
import Derived.Test.YtdifgaapdnbliaaGreatDoorR33
import Derived.Test.YtdifgaapdnbliaaGreatDoorR39
import Derived.Test.YtdifgaapdnbliaaGreatDoorR37
set_option linter.unusedSimpArgs false
set_option linter.unusedVariables false
set_option linter.unusedSectionVars false
namespace Ab
open Go Go.RowKit
variable [Mode]
variable {P : Program}
def levelsL (ops : List Oper) (H : List Nat) (W : List (Nat × Nat)) : Bool :=
  let ms := masks ops
  (List.range ops.length).all fun i => H.contains i || ((ops[i]?).map isLit).getD false || (List.range (H.length + 1)).all fun m =>
    (m == H.countP (fun h => decide (h < i))) || W.contains (i, m) ||
      H.zipIdx.any fun (h, p) => (bef ms i h && !decide (p < m)) || (bef ms h i && !decide (m ≤ p))
end Ab
namespace Oyez
end Oyez
namespace Ab
open Go Go.RowKit Go.Proofs
attribute [local irreducible] aws awp aw1 Og Om Oc Oa Ogd Ov Ot awd aw1d awh aw1h Ogh Ohd awl Ogl Ohl awv Ogv Ohv QThen QBlock QFn QFnM QRo QBe ACode AYield
end Ab
namespace Ab
open Go Go.RowKit Go.Proofs
attribute [local irreducible] aws awp aw1 Og Om Oc Oa Ogd Ov Ot awd aw1d awh aw1h Ogh Ohd awl Ogl Ohl awv Ogv Ohv QThen QBlock QFn QFnM QRo QBe ACode AYield
end Ab
namespace Ab
open Go Go.RowKit Go.Proofs
attribute [local irreducible] aws awp aw1 Og Om Oc Oa Ogd Ov Ot awd aw1d awh aw1h Ogh Ohd awl Ogl Ohl awv Ogv Ohv QThen QBlock QFn QFnM QRo QBe ACode AYield
/-- records as they are drawn -/
structure GoodF (f : List Oyez.Rec) : Prop where
  recs : ∀ r ∈ f, Oyez.recErr r = 0
  sorted : Oyez.RSorted f
  words : ∀ r ∈ f, ∀ w ∈ r.words, w ∈ wordL
theorem GoodF.nil : GoodF [] := ⟨by simp, by simp [Oyez.RSorted, Oyez.Sorted], by simp⟩
end Ab
namespace Ab
open Go Go.RowKit Go.Proofs
theorem GoodF.right {f : List Oyez.Rec} (h : GoodF f) (hl : f.length ≤ 40) : Oyez.Right f := ⟨hl, h.recs, h.sorted⟩
/-- the byte that a damage makes -/
def dmg (b : UInt8) (dm : Nat) : UInt8 := UInt8.ofNat (b.toNat + (1 + dm / 256 % 255))
/-- a copy of a file, and where its records may be -/
structure CopyOf (f a : List Oyez.Rec) (e : List Oyez.Place) : Prop where
  good : GoodF a
  len : a.length ≤ f.length + 3
  few : e.length ≤ 3
  at_ : ∀ r ∈ a, r.place ∈ f.map Oyez.Rec.place ∨ r.place ∈ e
theorem CopyOf.mem {f a : List Oyez.Rec} {e : List Oyez.Place} (h : CopyOf f a e) : ∀ p ∈ a.map Oyez.Rec.place, p ∈ f.map Oyez.Rec.place ++ e := fun p hp => by
  obtain ⟨r, hr, rfl⟩ := List.mem_map.1 hp
  exact List.mem_append.2 (h.at_ r hr)
end Ab
namespace Oyez
theorem drop_drop (f : List Rec) (p : Place) : drop (drop f p) p = drop f p := by unfold drop; rw [List.filter_filter]; simp
theorem put_drop (f : List Rec) (r : Rec) : put (drop f r.place) r = put f r := by unfold put; rw [drop_drop]
theorem insertR_len (r : Rec) : ∀ l : List Rec, (insertR r l).length = l.length + 1
  | [] => rfl
  | q :: t => by
    unfold insertR
    split
    · rfl
    · rw [List.length_cons, insertR_len r t, List.length_cons]
theorem put_len (f : List Rec) (r : Rec) : (put f r).length ≤ f.length + 1 := by
  unfold put
  rw [insertR_len]
  have := List.length_filter_le (fun r' : Rec => !decide (r'.place = r.place)) f
  unfold drop
  omega
theorem drop_le (f : List Rec) (p : Place) : (drop f p).length ≤ f.length := List.length_filter_le _ _
theorem make_snoc (f : List Rec) (l : List Chg) (c : Chg) : make f (l ++ [c]) = make1 (make f l) c := by unfold make; rw [List.foldl_append]; rfl
/-- what Make's file keeps while it is being made -/
structure Mk (n : Nat) (f : List Rec) : Prop where
  sorted : RSorted f
  len : f.length ≤ n
  words : ∀ r ∈ f, r.words.length ≤ 6
theorem Mk.drop {n : Nat} {f : List Rec} (h : Mk n f) (p : Place) : Mk n (drop f p) := ⟨drop_sorted h.sorted p, Nat.le_trans (drop_le f p) h.len, fun r hr => h.words r (mem_drop.1 hr).1⟩
theorem Mk.put {n : Nat} {f : List Rec} (h : Mk n f) {r : Rec} (hr : r.words.length ≤ 6) : Mk (n + 1) (put f r) := ⟨put_sorted h.sorted r, Nat.le_trans (put_len f r) (Nat.succ_le_succ h.len), fun x hx => by
  rcases mem_put hx with rfl | hx
  · exact hr
  · exact h.words x hx⟩
theorem Mk.up {n m : Nat} {f : List Rec} (h : Mk n f) (hn : n ≤ m) : Mk m f := ⟨h.sorted, Nat.le_trans h.len hn, h.words⟩
theorem Right.mks {f : List Rec} (h : Right f) : Mk 40 f := ⟨h.sorted, h.len, fun r hr => ((recErr_iff r).1 (h.recs r hr)).2 |> fun k => (wordsErr_zero k).1⟩
end Oyez
namespace Ab
open Go Go.RowKit Go.Proofs
attribute [local irreducible] aws awp aw1 Og Om Oc Oa Ogd Ov Ot awd aw1d awh aw1h Ogh Ohd awl Ogl Ohl awv Ogv Ohv QThen QBlock QFn QFnM QRo QBe ACode AYield
def putR (f : List Oyez.Rec) (r : Oyez.Rec) : List Oyez.Rec × Int := if Oyez.check f ≠ 0 then ([], Oyez.check f) else if Oyez.recErr r ≠ 0 then ([], Oyez.recErr r) else if 40 < (Oyez.put f r).length then ([], 2) else (Oyez.put f r, 0)
def makeR (f : List Oyez.Rec) (l : List Oyez.Chg) : List Oyez.Rec × Int := if Oyez.check f ≠ 0 then ([], Oyez.check f) else if Oyez.checkChg l ≠ 0 then ([], Oyez.checkChg l) else if Oyez.fits f l = false then ([], 7) else if 40 < (Oyez.make f l).length then ([], 2) else (Oyez.make f l, 0)
theorem RA.down {lo lo' : Nat} {τ : Heap} {q : Nat} {Y : List (Oyez.Rec × AV)} (h : RA lo τ q Y) (hl : lo' ≤ lo) : RA lo' τ q Y := ⟨Nat.le_trans hl h.low, h.row, fun y hy => (h.wd y hy).mono hl fun j _ h2 o ho => ⟨ho, h2⟩⟩
end Ab
namespace Ab
open Go Go.RowKit Go.Proofs
attribute [local irreducible] aws awp aw1 Og Om Oc Oa Ogd Ov Ot awd aw1d awh aw1h Ogh Ohd awl Ogl Ohl awv Ogv Ohv QThen QBlock QFn QFnM QRo QBe ACode AYield
def getR (f : List Oyez.Rec) (p : Oyez.Place) : List (List UInt8) × Int := if Oyez.check f ≠ 0 then ([], Oyez.check f) else match Oyez.getIn f p with | none => ([], 1) | some ws => (ws, 0)
def dropR (f : List Oyez.Rec) (p : Oyez.Place) : List Oyez.Rec × Int := if (getR f p).2 ≠ 0 then ([], (getR f p).2) else (Oyez.drop f p, 0)
end Ab
namespace Ab
open Go Go.RowKit Go.Proofs
attribute [local irreducible] aws awp aw1 Og Om Oc Oa Ogd Ov Ot awd aw1d awh aw1h Ogh Ohd awl Ogl Ohl awv Ogv Ohv QThen QBlock QFn QFnM QRo QBe ACode AYield
/-- a file in row q, its words in rows from lo to hi, as many as they were -/
structure Cl (lo hi q : Nat) (F : List Oyez.Rec) (τ : Heap) : Prop where
  low : lo ≤ q ∧ q < hi
  row : ∃ cs, τ[q]? = some (.cells cs) ∧ cs.length = F.length * 3 ∧ ∀ (i : Nat) (r : Oyez.Rec), F[i]? = some r → ∃ w, List.take 3 (List.drop (i * 3) cs) = [.int .i64 r.kind, .int .i64 r.number, w] ∧
    ((r.words = [] ∧ w = .pl 1 []) ∨ ∃ (j : Nat) (xs : List AV), lo ≤ j ∧ j < hi ∧ j ≠ q ∧ w = .arr 1 j 0 r.words.length ∧ τ[j]? = some (.cells xs) ∧ xs.length = r.words.length)
/-- rows from lo to hi other than q may have other values in as many cells -/
structure Sm (lo hi q : Nat) (τ τ' : Heap) : Prop where
  out : ∀ r, r < τ.length → ¬ (lo ≤ r ∧ r < hi ∧ r ≠ q) → τ'[r]? = τ[r]?
  cells : ∀ (r : Nat) (cs : List AV), τ[r]? = some (.cells cs) → ∃ cs', τ'[r]? = some (.cells cs') ∧ cs'.length = cs.length
  len : τ.length ≤ τ'.length
theorem Sm.refl (lo hi q : Nat) (τ : Heap) : Sm lo hi q τ τ := ⟨fun _ _ _ => rfl, fun r cs h => ⟨cs, h, rfl⟩, Nat.le_refl _⟩
theorem Sm.app {lo hi q : Nat} {τ τ' : Heap} (h : Sm lo hi q τ τ') (g : Heap) : Sm lo hi q τ (τ' ++ g) := by
  have hl := h.len
  refine ⟨fun r h1 h2 => ?_, fun r cs h1 => ?_, by rw [List.length_append]; omega⟩
  · rw [List.getElem?_append_left (by omega)]; exact h.out r h1 h2
  · obtain ⟨cs', h2, h3⟩ := h.cells r cs h1
    exact ⟨cs', get_app h2, h3⟩
theorem Sm.set {lo hi q : Nat} {τ τ' : Heap} (h : Sm lo hi q τ τ') {p : Nat} {cs cs' : List AV} (h1 : lo ≤ p) (h2 : p < hi) (h3 : p ≠ q) (hp : τ'[p]? = some (.cells cs)) (hl : cs'.length = cs.length) : Sm lo hi q τ (τ'.set p (.cells cs')) := by
  refine ⟨fun r g1 g2 => ?_, fun r ds g1 => ?_, by rw [List.length_set]; exact h.len⟩
  · rw [List.getElem?_set_ne (fun e => g2 (by subst e; exact ⟨h1, h2, h3⟩))]; exact h.out r g1 g2
  · obtain ⟨ds', g2, g3⟩ := h.cells r ds g1
    by_cases e : p = r
    · subst e
      rw [hp] at g2
      obtain rfl : cs = ds' := by simpa using g2
      exact ⟨cs', List.getElem?_set_self (List.getElem?_eq_some_iff.1 hp).1, by omega⟩
    · exact ⟨ds', by rw [List.getElem?_set_ne e]; exact g2, g3⟩
/-- the file whose words are cleared, and one whose words are elsewhere -/
theorem Sm.keep {lo hi q : Nat} {τ τ' : Heap} (h : Sm lo hi q τ τ') {lo2 hi2 q2 : Nat} {F : List Oyez.Rec} (hc : Cl lo2 hi2 q2 F τ) (hq : ¬ (lo ≤ q2 ∧ q2 < hi ∧ q2 ≠ q)) : Cl lo2 hi2 q2 F τ' := by
  obtain ⟨cs, h1, h2, h3⟩ := hc.row
  refine ⟨hc.low, cs, by rw [h.out q2 (List.getElem?_eq_some_iff.1 h1).1 hq]; exact h1, h2, fun i r hr => ?_⟩
  obtain ⟨w, g1, g2⟩ := h3 i r hr
  refine ⟨w, g1, ?_⟩
  rcases g2 with g2 | ⟨j, xs, a1, a2, a3, a4, a5, a6⟩
  · exact .inl g2
  · obtain ⟨xs', b1, b2⟩ := h.cells j xs a5
    exact .inr ⟨j, xs', a1, a2, a3, a4, b1, b2.trans a6⟩
theorem Sm.own {lo hi q : Nat} {τ τ' : Heap} (h : Sm lo hi q τ τ') {F : List Oyez.Rec} (hc : Cl lo hi q F τ) : Cl lo hi q F τ' := h.keep hc (by omega)
theorem RA.cl {lo : Nat} {τ : Heap} {q : Nat} {Y : List (Oyez.Rec × AV)} (h : RA lo τ q Y) : Cl lo τ.length q (Y.map Prod.fst) τ := by
  refine ⟨⟨h.low, (List.getElem?_eq_some_iff.1 h.row).1⟩, _, h.row, by rw [cellsV_len]; simp, fun i r hr => ?_⟩
  rw [List.getElem?_map, Option.map_eq_some_iff] at hr
  obtain ⟨y, hy, rfl⟩ := hr
  obtain ⟨hi, hyi⟩ := List.getElem?_eq_some_iff.1 hy
  have hs := cellsV_sub (Y.map pvY) (i := i) (by simpa using hi)
  rw [List.getElem_map, hyi] at hs
  refine ⟨y.2, hs, ?_⟩
  rcases h.wd y (List.mem_of_getElem? hy) with h1 | ⟨j, h1, h2, h3, h4⟩
  · exact .inl h1
  · exact .inr ⟨j, strs y.1.words, h1, (List.getElem?_eq_some_iff.1 h4).1, h2, h3, h4, by simp [strs]⟩
theorem Cl.more {lo hi q : Nat} {F : List Oyez.Rec} {τ : Heap} (h : Cl lo hi q F τ) (g : Heap) : Cl lo hi q F (τ ++ g) := ((Sm.refl lo hi q τ).app g).own h
/-- a file of the call's own, or none -/
def FileC (lo hi : Nat) (τ : Heap) (v : AV) (F : List Oyez.Rec) : Prop := (F = [] ∧ v = .nils) ∨ ∃ q, v = .arr 3 q 0 F.length ∧ Cl lo hi q F τ
theorem FileO.cl {lo : Nat} {τ : Heap} {v : AV} {F : List Oyez.Rec} (h : FileO lo τ v F) : FileC lo τ.length τ v F := by
  rcases h with h | ⟨q, Y, rfl, rfl, h⟩
  · exact .inl h
  · exact .inr ⟨q, by simp, h.cl⟩
theorem FileC.more {lo hi : Nat} {F : List Oyez.Rec} {v : AV} {τ : Heap} (h : FileC lo hi τ v F) (g : Heap) : FileC lo hi (τ ++ g) v F := by
  rcases h with h | ⟨q, h1, h2⟩
  · exact .inl h
  · exact .inr ⟨q, h1, h2.more g⟩
theorem FileC.one {lo hi : Nat} {F : List Oyez.Rec} {v : AV} {τ : Heap} (h : FileC lo hi τ v F) : v.one = true ∧ v.cells = [v] ∧ ∀ S, alen Tryz.prog 23 v S = some (.int .i64 F.length) := by
  rcases h with ⟨rfl, rfl⟩ | ⟨q, rfl, _⟩
  · exact ⟨rfl, rfl, fun S => by simp⟩
  · exact ⟨rfl, rfl, fun S => by simp⟩
/-- a word row is written -/
theorem FileC.set {lo hi : Nat} {F : List Oyez.Rec} {v : AV} {τ : Heap} (h : FileC lo hi τ v F) {p : Nat} {o : AObj} (hp : p < lo) : FileC lo hi (τ.set p o) v F := by
  rcases h with h | ⟨q, h1, h2⟩
  · exact .inl h
  · obtain ⟨cs, k1, k2, k3⟩ := h2.row
    have hq := h2.low
    refine .inr ⟨q, h1, hq, cs, by rw [List.getElem?_set_ne (by omega)]; exact k1, k2, fun i r hr => ?_⟩
    obtain ⟨w, g1, g2⟩ := k3 i r hr
    refine ⟨w, g1, ?_⟩
    rcases g2 with g2 | ⟨j, xs, a1, a2, a3, a4, a5, a6⟩
    · exact .inl g2
    · exact .inr ⟨j, xs, a1, a2, a3, a4, by rw [List.getElem?_set_ne (by omega)]; exact a5, a6⟩
/-- what is lent is the file -/
theorem same19_own {S : Heap} {lo : Nat} {f : List Oyez.Rec} {v : AV} (h : FileO lo S v f) (hf : f.length ≤ 2 ^ 40) (hw : ∀ r ∈ f, r.words.length ≤ 2 ^ 40) : ACalls Tryz.prog 19 [v, fileAV f] S fun v s => v = .bool true ∧ s = S := by
  have k := same_calls f f hf hw
  simp only [decide_true] at k
  refine APure.lend k rfl (fun i x y hx hy => ?_) (fun C C' c hv => ?_)
  · match i, hx, hy with
    | 0, hx, hy => simp only [List.getElem?_cons_zero, Option.some.injEq] at hx hy; subst hx; subst hy; exact h.fz (Nat.zero_le _)
    | 1, hx, hy => simp only [List.getElem?_cons_zero, List.getElem?_cons_succ, Option.some.injEq] at hx hy; subst hx; subst hy; exact fz_file _ _ _
    | i + 2, hx, _ => simp at hx
  · cases hv; exact .bool _
end Ab
namespace Ab
open Go Go.RowKit Go.Proofs
attribute [local irreducible] aws awp aw1 Og Om Oc Oa Ogd Ov Ot awd aw1d awh aw1h Ogh Ohd awl Ogl Ohl awv Ogv Ohv QThen QBlock QFn QFnM QRo QBe ACode AYield
theorem WdO.more {lo : Nat} {τ : Heap} {v : AV} {ws : List (List UInt8)} (h : WdO lo τ v ws) (X : Heap) : WdO lo (τ ++ X) v ws := by
  rcases h with h | ⟨j, h1, h2, h3⟩
  · exact .inl h
  · exact .inr ⟨j, h1, h2, get_app h3⟩
theorem FileO.more {lo : Nat} {τ : Heap} {v : AV} {F : List Oyez.Rec} (h : FileO lo τ v F) (X : Heap) : FileO lo (τ ++ X) v F := by
  rcases h with h | ⟨q, Y, h1, h2, h3⟩
  · exact .inl h
  · exact .inr ⟨q, Y, h1, h2, ⟨h3.low, get_app h3.row, fun y hy => (h3.wd y hy).mono (Nat.le_refl _) fun j _ h o ho => ⟨get_app ho, h⟩⟩⟩
theorem few_of {f : List Oyez.Rec} (h : greatB f = false) : f.length ≤ 60 ∧ ∀ r ∈ f, r.words.length ≤ 10 ∧ tot1 r.words ≤ 2 ^ 20 := by
  unfold greatB at h
  rw [Bool.or_eq_false_iff] at h
  refine ⟨by simpa using h.2, fun r hr => longB_few ?_⟩
  cases hq : longB r.words with
  | false => rfl
  | true => exact absurd (List.any_eq_true.2 ⟨r, hr, hq⟩) (by rw [h.1]; simp)
theorem ours_nil (x : AV) (f : List Oyez.Rec) (h : (x = .nils ∧ f = []) ∨ x = fileAV f) (hf : f.length ≤ 2 ^ 40) (S : Heap) : ACalls Tryz.prog 20 [x] S fun v s => v = fileAV f ∧ s = S := by
  rcases h with ⟨rfl, rfl⟩ | rfl
  · refine APure.lend (ours_calls [] (by simp)) rfl (fun i x y hx hy => ?_) (fun C C' c hv => ?_)
    · match i, hx, hy with
      | 0, hx, hy => simp at hx hy; subst hx; subst hy; exact .nils_pl 3
      | i + 1, hx, _ => simp at hx
    · obtain ⟨A, cap, rfl, _, _⟩ := hv.pl_inv
      exact .pl0 3 A cap hv.pl_cap
  · exact ours_calls f hf S
/-- both files of the call's own, behind object n -/
def TwoC (n : Nat) (s : Heap) (va vb : AV) (A B : List Oyez.Rec) : Prop := ∃ lo1 hi1 lo2 hi2, FileC lo1 hi1 s va A ∧ FileC lo2 hi2 s vb B ∧ n < lo1 ∧ lo1 ≤ hi1 ∧ hi1 ≤ lo2 ∧ lo2 ≤ hi2 ∧ hi2 ≤ s.length
end Ab
namespace Ab
open Go Go.RowKit Go.Proofs
attribute [local irreducible] aws awp aw1 Og Om Oc Oa Ogd Ov Ot awd aw1d awh aw1h Ogh Ohd awl Ogl Ohl awv Ogv Ohv QThen QBlock QFn QFnM QRo QBe ACode AYield
/-- words in a row from lo to hi other than q, as many as they were -/
def WdC (lo hi q : Nat) (τ : Heap) (w : AV) (ws : List (List UInt8)) : Prop := (ws = [] ∧ w = .pl 1 []) ∨ ∃ (j : Nat) (xs : List AV), lo ≤ j ∧ j < hi ∧ j ≠ q ∧ w = .arr 1 j 0 ws.length ∧ τ[j]? = some (.cells xs) ∧ xs.length = ws.length
/-- changes in row q, their words in rows from lo to hi -/
structure ClC (lo hi q : Nat) (L : List Oyez.Chg) (τ : Heap) : Prop where
  low : lo ≤ q ∧ q < hi
  row : ∃ cs, τ[q]? = some (.cells cs) ∧ cs.length = L.length * 6 ∧ ∀ (i : Nat) (c : Oyez.Chg), L[i]? = some c → ∃ w1 w2, List.take 6 (List.drop (i * 6) cs) = [.int .i64 c.kind, .int .i64 c.number, .bool c.had, .bool c.has, w1, w2] ∧ WdC lo hi q τ w1 c.old ∧ WdC lo hi q τ w2 c.new
theorem WdC.sm {lo hi q lo2 hi2 q2 : Nat} {τ τ' : Heap} {w : AV} {ws : List (List UInt8)} (h : WdC lo2 hi2 q2 τ w ws) (hs : Sm lo hi q τ τ') : WdC lo2 hi2 q2 τ' w ws := by
  rcases h with h | ⟨j, xs, a1, a2, a3, a4, a5, a6⟩
  · exact .inl h
  · obtain ⟨xs', b1, b2⟩ := hs.cells j xs a5
    exact .inr ⟨j, xs', a1, a2, a3, a4, b1, b2.trans a6⟩
theorem Sm.keepC {lo hi q : Nat} {τ τ' : Heap} (h : Sm lo hi q τ τ') {lo2 hi2 q2 : Nat} {L : List Oyez.Chg} (hc : ClC lo2 hi2 q2 L τ) (hq : ¬ (lo ≤ q2 ∧ q2 < hi ∧ q2 ≠ q)) : ClC lo2 hi2 q2 L τ' := by
  obtain ⟨cs, h1, h2, h3⟩ := hc.row
  refine ⟨hc.low, cs, by rw [h.out q2 (List.getElem?_eq_some_iff.1 h1).1 hq]; exact h1, h2, fun i c hr => ?_⟩
  obtain ⟨w1, w2, g1, g2, g3⟩ := h3 i c hr
  exact ⟨w1, w2, g1, g2.sm h, g3.sm h⟩
theorem Sm.ownC {lo hi q : Nat} {τ τ' : Heap} (h : Sm lo hi q τ τ') {L : List Oyez.Chg} (hc : ClC lo hi q L τ) : ClC lo hi q L τ' := h.keepC hc (by omega)
theorem ClC.more {lo hi q : Nat} {L : List Oyez.Chg} {τ : Heap} (h : ClC lo hi q L τ) (g : Heap) : ClC lo hi q L (τ ++ g) := ((Sm.refl lo hi q τ).app g).ownC h
/-- changes of the call's own, or none -/
def ChgC (lo hi : Nat) (τ : Heap) (v : AV) (L : List Oyez.Chg) : Prop := (L = [] ∧ v = .nils) ∨ ∃ q, v = .arr 6 q 0 L.length ∧ ClC lo hi q L τ
theorem OwnC.cl {lo : Nat} {τ : Heap} {L : List Oyez.Chg} {v : AV} (h : OwnC asIs lo τ L v) : ChgC lo τ.length τ v L := by
  rcases h.row with h | ⟨q, h1, h2, cs, h3, h4, h5⟩
  · exact .inl h
  · refine .inr ⟨q, h2, ⟨h1, (List.getElem?_eq_some_iff.1 h3).1⟩, cs, h3, h4, fun i c hc => ?_⟩
    obtain ⟨w1, w2, g1, g2⟩ := h5 i c hc
    have key : ∀ w ws, (w, ws) = (w1, c.old) ∨ (w, ws) = (w2, c.new) → WdC lo τ.length q τ w ws := by
      intro w ws hw
      rcases g2 w ws hw with h | ⟨j, xs, a1, a2, a3, a4, a5⟩
      · exact .inl h
      · exact .inr ⟨j, xs, a1, (List.getElem?_eq_some_iff.1 a4).1, a2, a3, a4, by rw [show xs = strs ws from a5]; simp [strs]⟩
    exact ⟨w1, w2, g1, key _ _ (.inl rfl), key _ _ (.inr rfl)⟩
theorem ChgC.more {lo hi : Nat} {L : List Oyez.Chg} {v : AV} {τ : Heap} (h : ChgC lo hi τ v L) (g : Heap) : ChgC lo hi (τ ++ g) v L := by
  rcases h with h | ⟨q, h1, h2⟩
  · exact .inl h
  · exact .inr ⟨q, h1, h2.more g⟩
theorem ChgC.one {lo hi : Nat} {L : List Oyez.Chg} {v : AV} {τ : Heap} (h : ChgC lo hi τ v L) : v.one = true ∧ v.cells = [v] ∧ ∀ S, alen Tryz.prog 62 v S = some (.int .i64 L.length) := by
  rcases h with ⟨rfl, rfl⟩ | ⟨q, rfl, _⟩
  · exact ⟨rfl, rfl, fun S => by simp⟩
  · exact ⟨rfl, rfl, fun S => by simp⟩
/-- another call's rows may be written -/
theorem ChgC.sm {lo hi lo2 hi2 q : Nat} {τ τ' : Heap} {L : List Oyez.Chg} {v : AV} (h : ChgC lo2 hi2 τ v L) (hs : Sm lo hi q τ τ') (hd : hi2 ≤ lo ∨ hi ≤ lo2) : ChgC lo2 hi2 τ' v L := by
  rcases h with h | ⟨q', h1, h2⟩
  · exact .inl h
  · exact .inr ⟨q', h1, hs.keepC h2 (by have := h2.low; omega)⟩
/-- of two lists of changes whose words are cleared one after the other: number i, and what is left when it is done -/
theorem pick_chgs {τ' : Heap} {va vb : AV} {A B : List Oyez.Chg} {lo1 hi1 lo2 hi2 : Nat} (ha : ChgC lo1 hi1 τ' va A) (hb : ChgC lo2 hi2 τ' vb B) (h11 : lo1 ≤ hi1) (h12 : hi1 ≤ lo2) {i : Nat} (hi : i < 2) :
    ∃ (v : AV) (L : List Oyez.Chg) (lo hi q : Nat), [va, vb][i]? = some v ∧ lo1 ≤ lo ∧ hi ≤ max hi1 hi2 ∧ (L = [] ∧ v = .nils ∨ v = .arr 6 q 0 L.length ∧ ClC lo hi q L τ') ∧ (A.length < 2 ^ 40 → B.length < 2 ^ 40 → L.length < 2 ^ 40) ∧
      ∀ τ'', Sm lo hi q τ' τ'' → ChgC lo1 hi1 τ'' va A ∧ ChgC lo2 hi2 τ'' vb B := by
  have k1 : ∀ {τ'' : Heap} {q : Nat}, (∀ q', va = .arr 6 q' 0 A.length → q' = q) → Sm lo1 hi1 q τ' τ'' → ChgC lo1 hi1 τ'' va A ∧ ChgC lo2 hi2 τ'' vb B := by
    intro τ'' q hq hs
    refine ⟨?_, hb.sm hs (.inr h12)⟩
    rcases ha with ha | ⟨q', h1, h2⟩
    · exact .inl ha
    · obtain rfl := hq q' h1
      exact .inr ⟨q', h1, hs.ownC h2⟩
  have k2 : ∀ {τ'' : Heap} {q : Nat}, (∀ q', vb = .arr 6 q' 0 B.length → q' = q) → Sm lo2 hi2 q τ' τ'' → ChgC lo1 hi1 τ'' va A ∧ ChgC lo2 hi2 τ'' vb B := by
    intro τ'' q hq hs
    refine ⟨ha.sm hs (.inl h12), ?_⟩
    rcases hb with hb | ⟨q', h1, h2⟩
    · exact .inl hb
    · obtain rfl := hq q' h1
      exact .inr ⟨q', h1, hs.ownC h2⟩
  match i, hi with
  | 0, _ =>
    rcases ha with ⟨h1, h2⟩ | ⟨q, h1, h2⟩
    · exact ⟨va, A, lo1, hi1, 0, rfl, Nat.le_refl _, Nat.le_max_left _ _, .inl ⟨h1, h2⟩, fun h _ => h, fun τ'' hs => k1 (fun q' e => by rw [h2] at e; cases e) hs⟩
    · exact ⟨va, A, lo1, hi1, q, rfl, Nat.le_refl _, Nat.le_max_left _ _, .inr ⟨h1, h2⟩, fun h _ => h, fun τ'' hs => k1 (fun q' e => by rw [h1] at e; cases e; rfl) hs⟩
  | 1, _ =>
    rcases hb with ⟨h1, h2⟩ | ⟨q, h1, h2⟩
    · exact ⟨vb, B, lo2, hi2, 0, rfl, by omega, Nat.le_max_right _ _, .inl ⟨h1, h2⟩, fun _ h => h, fun τ'' hs => k2 (fun q' e => by rw [h2] at e; cases e) hs⟩
    · exact ⟨vb, B, lo2, hi2, q, rfl, by omega, Nat.le_max_right _ _, .inr ⟨h1, h2⟩, fun _ h => h, fun τ'' hs => k2 (fun q' e => by rw [h1] at e; cases e; rfl) hs⟩
theorem OwnC.more {lo : Nat} {τ : Heap} {L : List Oyez.Chg} {v : AV} (h : OwnC asIs lo τ L v) (g : Heap) : OwnC asIs lo (τ ++ g) L v := by
  rcases h.row with h | ⟨r, h1, h2, cs, h3, h4, h5⟩
  · exact ⟨.inl h⟩
  · refine ⟨.inr ⟨r, h1, h2, cs, get_app h3, h4, fun i c hc => ?_⟩⟩
    obtain ⟨w1, w2, a, b⟩ := h5 i c hc
    refine ⟨w1, w2, a, fun w ws hw => ?_⟩
    rcases b w ws hw with b | ⟨q, xs, b1, b2, b3, b4, b5⟩
    · exact .inl b
    · exact .inr ⟨q, xs, b1, b2, b3, get_app b4, b5⟩
/-- words are cleared in one file: another lies as it did -/
theorem FileC.sm {lo hi lo2 hi2 q : Nat} {τ τ' : Heap} {F : List Oyez.Rec} {v : AV} (h : FileC lo2 hi2 τ v F) (hs : Sm lo hi q τ τ') (hd : hi2 ≤ lo ∨ hi ≤ lo2) : FileC lo2 hi2 τ' v F := by
  rcases h with h | ⟨q', h1, h2⟩
  · exact .inl h
  · exact .inr ⟨q', h1, hs.keep h2 (by have := h2.low; omega)⟩
end Ab
