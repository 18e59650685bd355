/-
  FILES OF THE CALL's OWN: where they lie, one canonical order of their objects.
  COPIES JOINED: the program's merge.
  REGIONS THAT DRAW, where variables are laid in any order: what is to be shown of one, parted into what its text alone says, and its values.
  COPIES JOINED: the walk of the program's merge.
-/
import Derived.Test.YtcoikmapjepdjaaGreatDoorA10
import Derived.Test.YtcoikmapjepdjaaGreatDoorA26
import Derived.Test.YtcoikmapjepdjaaGreatDoorA28
set_option linter.unusedSimpArgs false
set_option linter.unusedVariables false
set_option linter.unusedSectionVars false
namespace Ab
open Go Go.RowKit Go.Proofs
/-- lists of values, old and new -/
def RnL (n : Nat) (m : List Nat) (xs ys : List AV) : Prop := xs.length = ys.length ∧ ∀ (i : Nat) (x y : AV), xs[i]? = some x → ys[i]? = some y → Rn n m x y
theorem RnL.nil (n : Nat) (m : List Nat) : RnL n m [] [] := ⟨rfl, fun i x y h => by simp at h⟩
theorem RnL.cons {n : Nat} {m : List Nat} {x y : AV} {xs ys : List AV} (h : Rn n m x y) (hs : RnL n m xs ys) : RnL n m (x :: xs) (y :: ys) :=
  ⟨by simp [hs.1], fun i a b ha hb => by
    cases i with
    | zero => simp at ha hb; subst ha; subst hb; exact h
    | succ i => simp at ha hb; exact hs.2 i a b ha hb⟩
theorem RnL.append {n : Nat} {m : List Nat} {xs ys xs' ys' : List AV} (h : RnL n m xs ys) (hs : RnL n m xs' ys') : RnL n m (xs ++ xs') (ys ++ ys') := by
  induction xs generalizing ys with
  | nil =>
    have : ys = [] := List.eq_nil_of_length_eq_zero (by have := h.1; simpa using this.symm)
    subst this
    exact hs
  | cons x xs ih =>
    cases ys with
    | nil => have := h.1; simp at this
    | cons y ys => exact .cons (h.2 0 x y rfl rfl) (ih ⟨by have := h.1; simpa using this, fun i a b ha hb => h.2 (i + 1) a b (by simpa using ha) (by simpa using hb)⟩)
/-- the words of a file that are some -/
def wne (f : List Oyez.Rec) : List (List (List UInt8)) := (f.map (·.words)).filter fun w => !w.isEmpty
theorem wne_nil : wne [] = [] := rfl
theorem wne_cons (r : Oyez.Rec) (t : List Oyez.Rec) : wne (r :: t) = if r.words = [] then wne t else r.words :: wne t := by
  unfold wne
  rw [List.map_cons, List.filter_cons]
  by_cases h : r.words = [] <;> simp [h]
theorem wne_append (f g : List Oyez.Rec) : wne (f ++ g) = wne f ++ wne g := by unfold wne; rw [List.map_append, List.filter_append]
theorem wne_one (r : Oyez.Rec) : wne [r] = if r.words = [] then [] else [r.words] := by rw [wne_cons, wne_nil]
/-- the records, words that are some lying in the objects qs behind n -/
def rowsQ (n : Nat) : List Oyez.Rec → List Nat → List AV
  | [], _ => []
  | r :: t, qs => if r.words = [] then .agg [.int .i64 r.kind, .int .i64 r.number, .pl 1 []] :: rowsQ n t qs
    else .agg [.int .i64 r.kind, .int .i64 r.number, .arr 1 (n + qs.headD 0) 0 r.words.length] :: rowsQ n t qs.tail
theorem rowsQ_len (n : Nat) : ∀ (f : List Oyez.Rec) (qs : List Nat), (rowsQ n f qs).length = f.length
  | [], _ => rfl
  | r :: t, qs => by
    unfold rowsQ
    split <;> simp [rowsQ_len n t]
theorem rowsQ_snoc (n : Nat) (r : Oyez.Rec) (q : Nat) : ∀ (f : List Oyez.Rec) (qs : List Nat), qs.length = (wne f).length →
    rowsQ n (f ++ [r]) (qs ++ (if r.words = [] then [] else [q])) = rowsQ n f qs ++ [.agg [.int .i64 r.kind, .int .i64 r.number, if r.words = [] then .pl 1 [] else .arr 1 (n + q) 0 r.words.length]]
  | [], qs, h => by
    have : qs = [] := List.eq_nil_of_length_eq_zero (by simpa [wne_nil] using h)
    subst this
    by_cases hw : r.words = [] <;> simp [rowsQ, hw]
  | x :: t, qs, h => by
    rw [wne_cons] at h
    rw [List.cons_append]
    by_cases hx : x.words = []
    · rw [if_pos hx] at h
      rw [rowsQ, if_pos hx, rowsQ_snoc n r q t qs h, rowsQ, if_pos hx, List.cons_append]
    · rw [if_neg hx] at h
      cases qs with
      | nil => simp at h
      | cons q0 qs =>
        rw [rowsQ, if_neg hx, rowsQ, if_neg hx, List.cons_append, List.cons_append]
        simp only [List.headD_cons, List.tail_cons]
        rw [rowsQ_snoc n r q t qs (by simpa using h)]
theorem rn_rowsQ {n : Nat} {m : List Nat} : ∀ (f : List Oyez.Rec) (qs ps : List Nat), qs.length = (wne f).length → ps.length = (wne f).length → (∀ (i q p : Nat), qs[i]? = some q → ps[i]? = some p → m[p]? = some q) →
    RnL n m ((rowsQ n f qs).flatMap AV.cells) ((rowsQ n f ps).flatMap AV.cells)
  | [], qs, ps, _, _, _ => .nil n m
  | x :: t, qs, ps, hq, hp, h => by
    rw [wne_cons] at hq hp
    by_cases hx : x.words = []
    · rw [if_pos hx] at hq hp
      rw [rowsQ, if_pos hx, rowsQ, if_pos hx, List.flatMap_cons, List.flatMap_cons]
      exact .append (.cons (.int _ _) (.cons (.int _ _) (.cons (.pl0 1 1) (.nil n m)))) (rn_rowsQ t qs ps hq hp h)
    · rw [if_neg hx] at hq hp
      cases qs with
      | nil => simp at hq
      | cons q0 qs =>
        cases ps with
        | nil => simp at hp
        | cons p0 ps =>
          rw [rowsQ, if_neg hx, rowsQ, if_neg hx, List.flatMap_cons, List.flatMap_cons]
          simp only [List.headD_cons, List.tail_cons]
          exact .append (.cons (.int _ _) (.cons (.int _ _) (.cons (.arr 1 p0 q0 0 _ (h 0 q0 p0 rfl rfl)) (.nil n m)))) (rn_rowsQ t qs ps (by simpa using hq) (by simpa using hp) fun i q p h1 h2 => h (i + 1) q p (by simpa using h1) (by simpa using h2))
/-- the canonical objects of a file, of places -/
def ownG (n s : Nat) (f : List Oyez.Rec) : Heap := if f = [] then [] else .cells ((rowsQ n f (List.range' (s + 1) (wne f).length)).flatMap AV.cells) :: (wne f).map fun ws => .cells (strs ws)
def ownV (n s : Nat) (f : List Oyez.Rec) : AV := if f = [] then .nils else .arr 3 (n + s) 0 f.length
def confG (l : List Oyez.Place) : Heap := if l = [] then [] else [.cells (cellsP l)]
def confV (n s : Nat) (l : List Oyez.Place) : AV := if l = [] then .nils else .arr 2 (n + s) 0 l.length
/-- a file lies in the object o behind n, its words in qs -/
structure OwnAt (n : Nat) (g : Heap) (f : List Oyez.Rec) (v : AV) (o : Option Nat) (qs : List Nat) : Prop where
  val : match o with
    | none => v = .nils ∧ f = []
    | some j => v = .arr 3 (n + j) 0 f.length ∧ f ≠ [] ∧ g[j]? = some (.cells ((rowsQ n f qs).flatMap AV.cells))
  len : qs.length = (wne f).length
  words : ∀ (i q : Nat) (ws : List (List UInt8)), qs[i]? = some q → (wne f)[i]? = some ws → g[q]? = some (.cells (strs ws))
structure ConfAt (n : Nat) (g : Heap) (l : List Oyez.Place) (v : AV) (o : Option Nat) : Prop where
  val : match o with
    | none => v = .nils ∧ l = []
    | some j => v = .arr 2 (n + j) 0 l.length ∧ l ≠ [] ∧ g[j]? = some (.cells (cellsP l))
def PwAt (n : Nat) (m : List Nat) (g : Heap) (m1 : List Nat) (objs : Heap) : Prop := ∀ (i : Nat) (o' : AObj), objs[i]? = some o' → ∃ (j : Nat) (o : AObj), m1[i]? = some j ∧ g[j]? = some o ∧ ORn n m o o'
theorem PwAt.append {n : Nat} {m : List Nat} {g : Heap} {m1 m2 : List Nat} {a b : Heap} (h1 : PwAt n m g m1 a) (h2 : PwAt n m g m2 b) (hl : m1.length = a.length) : PwAt n m g (m1 ++ m2) (a ++ b) := by
  intro i o' ho
  rcases Nat.lt_or_ge i a.length with h | h
  · rw [List.getElem?_append_left h] at ho
    obtain ⟨j, o, g1, g2, g3⟩ := h1 i o' ho
    exact ⟨j, o, by rw [List.getElem?_append_left (by omega)]; exact g1, g2, g3⟩
  · rw [List.getElem?_append_right h] at ho
    obtain ⟨j, o, g1, g2, g3⟩ := h2 _ o' ho
    exact ⟨j, o, by rw [List.getElem?_append_right (by omega), hl]; exact g1, g2, g3⟩
theorem rn_ints {n : Nat} {m : List Nat} (l : List Oyez.Place) : RnL n m (cellsP l) (cellsP l) := by
  unfold cellsP
  induction l with
  | nil => exact .nil n m
  | cons p t ih =>
    rw [List.flatMap_cons]
    exact .append (.cons (.int _ _) (.cons (.int _ _) (.nil n m))) ih
theorem rn_strsL {n : Nat} {m : List Nat} (l : List (List UInt8)) : RnL n m (strs l) (strs l) := by
  unfold strs
  induction l with
  | nil => exact .nil n m
  | cons p t ih => exact .cons (.str _) ih
/-- **THE CANONICAL ORDER.** -/
theorem canon_own {n : Nat} {g : Heap} {f : List Oyez.Rec} {l : List Oyez.Place} {v1 v2 : AV} {o1 o2 : Option Nat} {qs : List Nat} (h1 : OwnAt n g f v1 o1 qs) (h2 : ConfAt n g l v2 o2) (hnd : (o1.toList ++ qs ++ o2.toList).Nodup) :
    ∃ m : List Nat, m.length = (ownG n 0 f ++ confG l).length ∧ m.Nodup ∧ PwAt n m g m (ownG n 0 f ++ confG l) ∧ Rn n m v1 (ownV n 0 f) ∧ Rn n m v2 (confV n (ownG n 0 f).length l) := by
  have hlen := h1.len
  have hv1 := h1.val
  have hv2 := h2.val
  refine ⟨o1.toList ++ qs ++ o2.toList, ?_⟩
  have hl1 : (o1.toList ++ qs).length = (ownG n 0 f).length := by
    unfold ownG
    cases o1 with
    | none =>
      obtain ⟨_, rfl⟩ := hv1
      rw [wne_nil] at hlen
      simpa using hlen
    | some j => rw [if_neg hv1.2.1]; simp [hlen]
  have hl2 : o2.toList.length = (confG l).length := by
    unfold confG
    cases o2 with
    | none => rw [if_pos hv2.2]; rfl
    | some j => rw [if_neg hv2.2.1]; rfl
  have hm : ∀ i q : Nat, qs[i]? = some q → f ≠ [] → (o1.toList ++ qs ++ o2.toList)[1 + i]? = some q := by
    intro i q hq hf
    have hi := (List.getElem?_eq_some_iff.1 hq).1
    cases o1 with
    | none => exact absurd hv1.2 hf
    | some j =>
      rw [Option.toList_some, List.append_assoc, List.cons_append, List.nil_append, Nat.add_comm, List.getElem?_cons_succ, List.getElem?_append_left hi]
      exact hq
  have hrow : PwAt n (o1.toList ++ qs ++ o2.toList) g (o1.toList ++ qs) (ownG n 0 f) := by
    intro i o' ho
    unfold ownG at ho
    cases o1 with
    | none => rw [if_pos hv1.2] at ho; simp at ho
    | some j =>
      obtain ⟨_, hf, hg⟩ := hv1
      rw [if_neg hf] at ho
      cases i with
      | zero =>
        simp at ho
        subst ho
        have hR := rn_rowsQ (n := n) (m := (some j).toList ++ qs ++ o2.toList) f qs (List.range' 1 (wne f).length) hlen (by simp) fun i q p h3 h4 => by
          have hi : i < (wne f).length := by have := (List.getElem?_eq_some_iff.1 h3).1; omega
          rw [List.getElem?_range' hi] at h4
          simp at h4
          subst h4
          exact hm i q h3 hf
        exact ⟨j, _, rfl, hg, .cells _ _ (Nat.le_of_eq hR.1.symm) hR.2⟩
      | succ i =>
        rw [List.getElem?_cons_succ, List.getElem?_map, Option.map_eq_some_iff] at ho
        obtain ⟨ws, hws, rfl⟩ := ho
        have hi : i < qs.length := by have := (List.getElem?_eq_some_iff.1 hws).1; omega
        have hR := rn_strsL (n := n) (m := (some j).toList ++ qs ++ o2.toList) ws
        exact ⟨qs[i], _, by simp [hi], h1.words i _ ws (List.getElem?_eq_getElem hi) hws, .cells _ _ (Nat.le_refl _) hR.2⟩
  have hconf : PwAt n (o1.toList ++ qs ++ o2.toList) g o2.toList (confG l) := by
    intro i o' ho
    unfold confG at ho
    cases o2 with
    | none => rw [if_pos hv2.2] at ho; simp at ho
    | some j =>
      rw [if_neg hv2.2.1] at ho
      cases i with
      | zero =>
        simp at ho
        subst ho
        exact ⟨j, _, rfl, hv2.2.2, .cells _ _ (Nat.le_refl _) (rn_ints l).2⟩
      | succ i => simp at ho
  refine ⟨by rw [List.length_append, hl1, hl2, List.length_append], hnd, hrow.append hconf hl1, ?_, ?_⟩
  · unfold ownV
    cases o1 with
    | none =>
      obtain ⟨rfl, rfl⟩ := hv1
      exact .nils
    | some j =>
      obtain ⟨rfl, hf, _⟩ := hv1
      rw [if_neg hf]
      exact .arr 3 0 j 0 _ rfl
  · unfold confV
    cases o2 with
    | none =>
      obtain ⟨rfl, rfl⟩ := hv2
      exact .nils
    | some j =>
      obtain ⟨rfl, hf, _⟩ := hv2
      rw [if_neg hf, ← hl1]
      exact .arr 2 _ j 0 _ (by rw [List.getElem?_append_right (Nat.le_refl _), Nat.sub_self]; rfl)
end Ab
namespace Oyez
/-- the join of the first places -/
def jk (base a b : List Rec) (s : List Bool) (ps : List Place) (i : Nat) : Jn := (ps.take i).foldl (joinAt base a b s) ⟨[], []⟩
theorem placesOf_len (l : List Place) : (placesOf l).length ≤ l.length := by
  have hi : ∀ (p : Place) (m : List Place), (insertP p m).length ≤ m.length + 1 := by
    intro p m
    induction m with
    | nil => simp [insertP]
    | cons q t ih =>
      unfold insertP
      split
      · simp
      · split
        · simp; omega
        · simp
  have hf : ∀ (l m : List Place), (l.foldl (fun a p => insertP p a) m).length ≤ m.length + l.length := by
    intro l
    induction l with
    | nil => intro m; simp
    | cons p t ih =>
      intro m
      have h1 := ih (insertP p m)
      have h2 := hi p m
      rw [List.foldl_cons, List.length_cons]
      omega
  have := hf l []
  simpa [placesOf] using this
end Oyez
namespace Ab
open Go Go.RowKit Go.Proofs
/-- the state of a merge -/
structure MS (σ g : Heap) (J : Oyez.Jn) (v1 v2 : AV) : Prop where
  ex : ∃ (o1 o2 : Option Nat) (qs : List Nat), Acc σ g 3 v1 (rowsQ σ.length J.out qs) o1 ∧ Acc σ g 2 v2 ((J.conf.map Oyez.Chg.place).map placeAV) o2 ∧ qs.length = (wne J.out).length ∧
    (∀ (i q : Nat) (ws : List (List UInt8)), qs[i]? = some q → (wne J.out)[i]? = some ws → g[q]? = some (.cells (strs ws))) ∧ (o1.toList ++ qs ++ o2.toList).Nodup ∧ (o1 = none ∨ J.out ≠ []) ∧ (o2 = none ∨ J.conf ≠ [])
theorem Acc.ltO {σ g : Heap} {k : Nat} {v : AV} {l : List AV} {o : Option Nat} (h : Acc σ g k v l o) : ∀ j ∈ o.toList, j < g.length := by
  intro j hj
  cases o with
  | none => simp at hj
  | some i => simp at hj; subst hj; exact h.lt
theorem words_lt {g : Heap} {J : Oyez.Jn} {qs : List Nat} (hl : qs.length = (wne J.out).length) (hw : ∀ (i q : Nat) (ws : List (List UInt8)), qs[i]? = some q → (wne J.out)[i]? = some ws → g[q]? = some (.cells (strs ws))) : ∀ q ∈ qs, q < g.length := by
  intro q hq
  obtain ⟨i, hi, rfl⟩ := List.getElem_of_mem hq
  exact (List.getElem?_eq_some_iff.1 (hw i _ _ (List.getElem?_eq_getElem hi) (List.getElem?_eq_getElem (by omega)))).1
theorem MS.more {σ g : Heap} {J : Oyez.Jn} {v1 v2 : AV} (h : MS σ g J v1 v2) (y : Heap) : MS σ (g ++ y) J v1 v2 := by
  obtain ⟨o1, o2, qs, h1, h2, h3, h4, h5, h6, h7⟩ := h.ex
  exact ⟨o1, o2, qs, h1.more y, h2.more y, h3, fun i q ws hq hw => get_app (h4 i q ws hq hw), h5, h6, h7⟩
theorem MS.put {σ g : Heap} {J : Oyez.Jn} {v1 v2 : AV} (h : MS σ g J v1 v2) (hl : J.out.length ≤ 2 ^ 40) (p : Oyez.Place) (ws : List (List UInt8)) :
    ∃ v1' g', aappend Tryz.prog #[57, 57] v1 (.arr 3 (σ.length + (g ++ cloneG ws).length) 0 1) (σ ++ ((g ++ cloneG ws) ++ [.cells [.int .i64 p.kind, .int .i64 p.number, cloneV (σ.length + g.length) ws]])) = some (v1', σ ++ g') ∧ MS σ g' (Oyez.putJ J p (some ws)) v1' v2 := by
  obtain ⟨o1, o2, qs, h1, h2, h3, h4, h5, h6, h7⟩ := h.ex
  have hone : (cloneV (σ.length + g.length) ws).one = true := by unfold cloneV; split <;> rfl
  obtain ⟨v', g', o', he, hA', hgl, hkeep, ho⟩ := (h1.more (cloneG ws)).push (P := Tryz.prog) (t := 57) (e := 88) (ag := true) (x := .agg [.int .i64 p.kind, .int .i64 p.number, cloneV (σ.length + g.length) ws]) (by simp) (by simp) (by simp) (by omega) ⟨by simp [AV.cells], fun y hy => by
    simp [AV.cells] at hy
    rcases hy with rfl | rfl | rfl
    · rfl
    · rfl
    · exact hone⟩ (by rw [rowsQ_len]; simp; omega)
  have hlt2 : ∀ j ∈ qs ++ o2.toList, j < g.length := by
    intro j hj
    rcases List.mem_append.1 hj with hj | hj
    · exact words_lt h3 h4 j hj
    · exact h2.ltO j hj
  have hnd : (o1.toList ++ (qs ++ o2.toList)).Nodup := by rw [← List.append_assoc]; exact h5
  have hne : ∀ j ∈ qs ++ o2.toList, some j ≠ o1 := by
    intro j hj e
    subst e
    exact (List.nodup_append.1 hnd).2.2 j (by simp) j hj rfl
  have hgl0 : g.length ≤ (g ++ cloneG ws).length := by simp
  have hold : ∀ j ∈ qs ++ o2.toList, g'[j]? = g[j]? := by
    intro j hj
    have hj2 := hlt2 j hj
    rw [hkeep j (hne j hj) (by omega), List.getElem?_append_left hj2]
  have hq := (List.nodup_append.1 hnd).2.1
  refine ⟨v', g', by simpa [AV.cells] using he, ⟨o', o2, qs ++ (if ws = [] then [] else [g.length]), ?_, h2.keep fun j hj => ?_, ?_, ?_, ?_, .inr (by simp [Oyez.putJ]), h7⟩⟩
  · have hs := rowsQ_snoc σ.length ⟨p.kind, p.number, ws⟩ g.length J.out qs h3
    simp only at hs
    show Acc σ g' 3 v' (rowsQ σ.length (J.out ++ [⟨p.kind, p.number, ws⟩]) _) o'
    rw [hs]
    unfold cloneV at hA'
    exact hA'
  · subst hj
    exact hold j (by simp)
  · show _ = (wne (J.out ++ [⟨p.kind, p.number, ws⟩])).length
    rw [wne_append, wne_one, List.length_append, List.length_append, h3]
    by_cases hw : ws = [] <;> simp [hw]
  · intro i q w hqi hwi
    have hwi' : (wne (J.out ++ [⟨p.kind, p.number, ws⟩]))[i]? = some w := hwi
    rw [wne_append, wne_one] at hwi'
    rcases Nat.lt_or_ge i qs.length with hi | hi
    · rw [List.getElem?_append_left hi] at hqi
      rw [List.getElem?_append_left (by omega)] at hwi'
      rw [hold q (by simp [List.mem_of_getElem? hqi])]
      exact h4 i q w hqi hwi'
    · rw [List.getElem?_append_right hi] at hqi
      rw [List.getElem?_append_right (by omega)] at hwi'
      by_cases hw : ws = []
      · simp [hw] at hqi
      · rw [if_neg hw] at hqi
        simp only [hw, if_false] at hwi'
        have hi0 : i - qs.length = 0 := by have := (List.getElem?_eq_some_iff.1 hqi).1; simp at this; omega
        rw [hi0] at hqi
        rw [show i - (wne J.out).length = 0 by omega] at hwi'
        simp at hqi hwi'
        subst hqi; subst hwi'
        have hcg : cloneG ws = [.cells (strs ws)] := by unfold cloneG; rw [if_neg hw]
        have hne1 : some g.length ≠ o1 := fun e => by
          have := h1.ltO g.length (by rw [← e]; simp)
          omega
        rw [hkeep g.length hne1 (by rw [hcg]; simp), hcg, List.getElem?_append_right (Nat.le_refl _), Nat.sub_self]
        rfl
  · rw [List.append_assoc, List.nodup_append]
    have hin : ∀ y ∈ (qs ++ (if ws = [] then [] else [g.length])) ++ o2.toList, y ∈ qs ++ o2.toList ∨ (y = g.length ∧ ¬ ws = []) := by
      intro y hy
      rcases List.mem_append.1 hy with hy | hy
      · rcases List.mem_append.1 hy with hy | hy
        · exact .inl (by simp [hy])
        · by_cases hw : ws = []
          · simp [hw] at hy
          · simp [hw] at hy; exact .inr ⟨hy, hw⟩
      · exact .inl (by simp [hy])
    refine ⟨by cases o' <;> simp, ?_, fun x hx y hy e => ?_⟩
    · by_cases hw : ws = []
      · simp only [hw, if_true, List.append_nil]; exact hq
      · simp only [hw, if_false]
        rw [List.append_assoc]
        obtain ⟨q1, q2, q3⟩ := List.nodup_append.1 hq
        refine List.nodup_append.2 ⟨q1, List.nodup_append.2 ⟨by simp, q2, fun x hx y hy e => ?_⟩, fun x hx y hy e => ?_⟩
        · simp at hx; subst hx; subst e
          have := hlt2 g.length (by simp [hy]); omega
        · subst e
          rcases List.mem_append.1 hy with hy | hy
          · simp at hy; subst hy
            have := hlt2 g.length (by simp [hx]); omega
          · exact q3 x hx x hy rfl
    · subst e
      rcases hin x hy with hy | ⟨rfl, hw⟩
      · rcases ho with rfl | ⟨m, hm, rfl⟩
        · exact hne x hy (by cases o' <;> simp at hx; rw [hx])
        · simp at hx
          have := hlt2 x hy
          omega
      · rcases ho with rfl | ⟨m, hm, rfl⟩
        · have := h1.ltO g.length hx; omega
        · simp at hx
          have hcg : (cloneG ws).length = 1 := by unfold cloneG; rw [if_neg hw]; rfl
          rw [List.length_append, hcg] at hm
          omega
theorem MS.len {σ g : Heap} {J : Oyez.Jn} {v1 v2 : AV} (h : MS σ g J v1 v2) : alen Tryz.prog 129 v2 (σ ++ g) = some (.int .i64 J.conf.length) := by
  obtain ⟨o1, o2, qs, h1, h2, _⟩ := h.ex
  have hv := h2.val
  cases o2 with
  | none =>
    obtain ⟨rfl, hl⟩ := hv
    have : J.conf = [] := by simpa using hl
    simp [this]
  | some j =>
    obtain ⟨rfl, _⟩ := hv
    simp
/-- **what a merge leaves.** -/
theorem MS.canon {σ g : Heap} {J : Oyez.Jn} {v1 v2 : AV} (h : MS σ g J v1 v2) : ∃ m : List Nat, m.length = (ownG σ.length 0 J.out ++ confG (J.conf.map Oyez.Chg.place)).length ∧ m.Nodup ∧ PwAt σ.length m g m (ownG σ.length 0 J.out ++ confG (J.conf.map Oyez.Chg.place)) ∧
    Rn σ.length m v1 (ownV σ.length 0 J.out) ∧ Rn σ.length m v2 (confV σ.length (ownG σ.length 0 J.out).length (J.conf.map Oyez.Chg.place)) := by
  obtain ⟨o1, o2, qs, h1, h2, h3, h4, h5, h6, h7⟩ := h.ex
  have hv1 := h1.val
  have hv2 := h2.val
  refine canon_own (qs := qs) (o1 := o1) (o2 := o2) ⟨?_, h3, h4⟩ ⟨?_⟩ h5
  · cases o1 with
    | none =>
      refine ⟨hv1.1, List.eq_nil_of_length_eq_zero ?_⟩
      rw [← rowsQ_len σ.length J.out qs, hv1.2]
      rfl
    | some j =>
      obtain ⟨e1, e2⟩ := hv1
      rw [rowsQ_len] at e1
      exact ⟨e1, by simpa using h6, e2⟩
  · cases o2 with
    | none => exact ⟨hv2.1, by simpa using hv2.2⟩
    | some j =>
      obtain ⟨e1, e2⟩ := hv2
      rw [cellsP_map] at e2
      exact ⟨by simpa using e1, by simpa using h7, e2⟩
end Ab
namespace Ab
open Go Go.RowKit
variable [Mode]
variable {P : Program}
def okUc (ops : List Oper) (A : List Nat) (a u : Nat) : Bool := match ops[u]? with
  | some o => (match o.op with
    | .store ty (.tmp d) x => o.guard.isNone && o.dst.isNone && ((ops[a]?).bind (·.dst) == some d) && bef (masks ops) u a && (match x with
      | .tmp t => notD ops A t
      | _ => true)
    | _ => false)
  | none => false
def okLc (ops : List Oper) (A : List Nat) (i : Nat) : Bool := match ops[i]? with
  | some o => (tnames ops o).all (notD ops A) && o.guard.isNone
  | none => true
theorem LayA.of {ops : List Oper} {A U : List Nat} {env : Env} {σ : Heap} {r : Nat → AV} {zc st : Nat → List AV} {n : Nat} (hlen : A.length = U.length) (h1 : nodupB A = true) (h2 : nodupB U = true) (h3 : A.all (okA P ops n) = true) (hn : env.t.length = n)
    (hz : ∀ a ∈ A, zcOf P ops a = zc a) (h4 : ((List.range A.length).all fun p => okUc ops A (A.getD p 0) (U.getD p 0)) = true)
    (hUv : ∀ (p a u : Nat), A[p]? = some a → U[p]? = some u → ∀ (o : Oper) (ty : TypeId) (d : Tmp) (x : Operand), ops[u]? = some o → o.op = .store ty (.tmp d) x → ∀ (τ : Heap) (q : Nat), τ[q]? = some (.cells (zc a)) → astore P ty (.ptr q 0) (aval (envF ops r env tr u).t x) τ = some (τ.set q (.cells (st a))))
    (h5 : ((List.range ops.length).all fun i => A.contains i || U.contains i || okLc ops A i) = true)
    (hL : ∀ (i : Nat) (o : Oper), ops[i]? = some o → i ∉ A → i ∉ U → ∀ g : Heap, aw1 P o (fun v s => v = r i ∧ s = σ ++ g) (envF ops r env tr i) (σ ++ g))
    (hfr : ∀ i, i ∉ A → Fz σ.length [] (r i) (r i)) (hfz : ∀ a ∈ A, ∀ y ∈ st a, Fz σ.length [] y y) : LayA P ops A U env σ r zc st := by
  have nd := nodupB_sound _ h1
  have none' : ∀ g : Option (Nat × Bool), g.isNone = true → g = none := fun g hg => by cases g <;> first | rfl | cases hg
  refine ⟨hlen, nd, nodupB_sound _ h2, ?_, ?_, ?_, hfr, hfz⟩
  · intro a ha
    have := List.all_eq_true.1 h3 a ha
    unfold okA at this
    split at this
    · rename_i o ho
      split at this
      · rename_i e d hop hd
        simp only [Bool.and_eq_true, decide_eq_true_eq] at this
        obtain ⟨⟨⟨g1, g2⟩, g3⟩, g4⟩ := this
        refine ⟨o, d, e, ho, hop, none' _ g1, hd, hn ▸ g2, fun j hj => ?_, fun τ => ?_⟩
        · have hlt : j < ops.length := by
            rw [Option.bind_eq_some_iff] at hj
            obtain ⟨x, hx, _⟩ := hj
            exact (List.getElem?_eq_some_iff.1 hx).1
          have := List.all_eq_true.1 g3 j (by simpa using hlt)
          rw [hj] at this
          simpa using this
        · split at g4
          · rename_i z hzz
            rw [← hz a ha]
            unfold zcOf
            rw [ho]
            simp only [hop, hzz, Option.bind_some, abox, g4, if_true]
          · cases g4
      · cases this
    · cases this
  · intro p a u ha hu
    have hp := (List.getElem?_eq_some_iff.1 ha).1
    have := List.all_eq_true.1 h4 p (by simpa using hp)
    have hA : A.getD p 0 = a := by rw [List.getD_eq_getElem?_getD, ha]; rfl
    have hU : U.getD p 0 = u := by rw [List.getD_eq_getElem?_getD, hu]; rfl
    rw [hA, hU] at this
    unfold okUc at this
    split at this
    · rename_i o ho
      split at this
      · rename_i ty d x hop
        simp only [Bool.and_eq_true] at this
        obtain ⟨⟨⟨⟨g1, g2⟩, g3⟩, g4⟩, g5⟩ := this
        refine ⟨o, ty, d, x, ho, hop, none' _ g1, by cases hd : o.dst <;> first | rfl | (rw [hd] at g2; cases g2), by simpa using g3, g4, fun t ht a' ha' => ?_, fun τ q hq => hUv p a u ha hu o ty d x ho hop τ q hq⟩
        subst ht
        simp only [notD] at g5
        simpa using List.all_eq_true.1 g5 a' ha'
      · cases this
    · cases this
  · intro i o ho hiA hiU
    have hlt := (List.getElem?_eq_some_iff.1 ho).1
    have := List.all_eq_true.1 h5 i (by simpa using hlt)
    have c1 : A.contains i = false := by simpa using hiA
    have c2 : U.contains i = false := by simpa using hiU
    rw [c1, c2] at this
    simp only [Bool.false_or] at this
    unfold okLc at this
    rw [ho] at this
    simp only [Bool.and_eq_true] at this
    refine ⟨fun t ht a ha => ?_, .inl ⟨?_, hL i o ho hiA hiU⟩⟩
    · have h6 := List.all_eq_true.1 this.1 t ht
      simpa using List.all_eq_true.1 h6 a ha
    · rw [none' _ this.2]
      rfl
end Ab
namespace Ab
open Go Go.RowKit Go.Proofs
attribute [local irreducible] aws awp aw1 Og Om Oc Oa Ogd Ov Ot awd aw1d awh aw1h Ogh Ohd awl Ogl Ohl awv Ogv Ohv QThen QBlock QFn QFnM QRo QBe ACode AYield
end Ab
