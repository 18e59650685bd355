/-
  PLAIN LAWS: what is printed is parsed as it was, what is parsed is printed as it was; the lines ahead of the first error.
  STRINGS SPLIT AT ONE BYTE: the plain part.
  THE REFERENCE's Get, Drop, Put and Print.
  THE REFERENCE: are two places alike; two copies joined.
  THE REFERENCE: two copies joined.
  THE BELL: strokes, words, and the file that is made of numbers.
  THE REFERENCE: two copies joined, the walk.
-/
import Derived.Test.YtdifgaapdnbliaaGreatDoorN10
import Derived.Test.YtdifgaapdnbliaaGreatDoorN18
import Derived.Test.YtdifgaapdnbliaaGreatDoorN14
import Derived.Test.YtdifgaapdnbliaaGreatDoorN19
import Derived.Test.YtdifgaapdnbliaaGreatDoorN17
import Derived.Test.YtdifgaapdnbliaaGreatDoorN20
set_option linter.unusedSimpArgs false
set_option linter.unusedVariables false
set_option linter.unusedSectionVars false
namespace Oyez
def glueW : List S → S
  | [] => []
  | w :: t => w ++ t.flatMap (fun x => 32 :: x)
theorem glue_split : ∀ ws : List S, ws ≠ [] → (∀ w ∈ ws, (32 : UInt8) ∉ w) → splitAt 32 (glueW ws) = ws := by
  intro ws
  induction ws with
  | nil => intro h; exact absurd rfl h
  | cons w t ih =>
    intro _ h
    cases t with
    | nil =>
      have := splitAt_none 32 w (h w (by simp)) [] [] [] rfl
      simpa [glueW] using this
    | cons v t =>
      have h2 := ih (by simp) fun x hx => h x (List.mem_cons_of_mem _ hx)
      have h3 : splitAt 32 (32 :: glueW (v :: t)) = [] :: (v :: t) := by rw [splitAt, if_pos rfl, h2]
      have h4 := splitAt_none 32 w (h w (by simp)) _ _ _ h3
      simpa [glueW] using h4
theorem word_not {w : S} (h : word w = true) : (32 : UInt8) ∉ w ∧ (10 : UInt8) ∉ w := by
  unfold word at h
  rw [Bool.and_eq_true] at h
  have := List.all_eq_true.1 h.1
  constructor
  · intro hc; have := this _ hc; revert this; decide
  · intro hc; have := this _ hc; revert this; decide
theorem wordsErr_zero {k n : Int} {ws : List S} (h : wordsErr k n ws = 0) : ws.length ≤ 6 ∧ ws.all word = true ∧ (line k n ws).length ≤ 64 := by
  unfold wordsErr at h
  split at h
  · cases h
  · split at h
    · cases h
    · split at h
      · cases h
      · rename_i h1 h2 h3
        exact ⟨by omega, by simpa using h2, by omega⟩
theorem placeErr_rng {k n : Int} (h : placeErr k n = 0) : (0 ≤ k ∧ k ≤ 4) ∧ 0 ≤ n ∧ n ≤ 999 := by
  unfold placeErr at h
  split at h
  · cases h
  · split at h
    · cases h
    · omega
theorem recErr_iff (r : Rec) : recErr r = 0 ↔ placeErr r.kind r.number = 0 ∧ wordsErr r.kind r.number r.words = 0 := by
  refine ⟨recErr_place, fun ⟨h1, h2⟩ => ?_⟩
  unfold recErr oneErr
  rw [if_neg (by simpa using h1)]
  exact h2
/-! ### lines -/
def cat (l : List (S × Bool)) : S := l.flatMap fun x => x.1 ++ if x.2 then [10] else []
def okL : List (S × Bool) → Prop
  | [] => True
  | (w, e) :: t => (10 : UInt8) ∉ w ∧ (e = false → w ≠ [] ∧ t = []) ∧ okL t
end Oyez
namespace Oyez
/-- the pieces of a text at a byte, which each piece keeps or not -/
def sp (c : UInt8) (sv : Bool) : S → List S
  | [] => [[]]
  | b :: t => if b = c then (if sv then [b] else []) :: sp c sv t else
    match sp c sv t with
    | [] => [[b]]
    | w :: r => (b :: w) :: r
def piece (x : S × Bool) : S := x.1 ++ if x.2 then [10] else []
end Oyez
namespace Oyez
/-- what the reference's Put lays from here on -/
def putR (r : Rec) : Bool → List Rec → List Rec
  | done, [] => if done then [] else [r]
  | done, x :: t => (if !done && !(x.place.lt r.place) then [r] else []) ++ ((if x.place = r.place then [] else [x]) ++ putR r (done || !(x.place.lt r.place)) t)
end Oyez
namespace Ab
open Go Go.RowKit Go.Proofs
attribute [local irreducible] aws awp aw1 Og Om Oc Oa Ogd Ov Ot awd aw1d QThen QBlock QFn QFnM ACode ACalls AYield
theorem fz_recs (n : Nat) (σ : Heap) (f : List Oyez.Rec) : ∀ x ∈ f.map recAV, ∀ y ∈ x.cells, Fz n σ y y := fun x hx y hy => by
  obtain ⟨r, _, rfl⟩ := List.mem_map.1 hx
  simp [AV.cells] at hy
  rcases hy with rfl | rfl | rfl
  · exact .int _ _
  · exact .int _ _
  · exact (Fz_strs _ _ _).2 trivial
/-- what a place has: the words, and whether it has any -/
def getW (o : Option (List (List UInt8))) : List (List UInt8) := o.getD []
/-- the file without a place, or the error -/
def dropC (f : List Oyez.Rec) (p : Oyez.Place) : List Oyez.Rec × Int := if (Oyez.getIn f p).isSome then (Oyez.drop f p, 0) else ([], 1)
/-- a file with a record put, or the error -/
def putC (f : List Oyez.Rec) (r : Oyez.Rec) : List Oyez.Rec × Int := if 40 < (Oyez.putR r false f).length then ([], 2) else (Oyez.putR r false f, 0)
end Ab
namespace Oyez
theorem st_eq (x y : St) : x = y ↔ x.isSome = y.isSome ∧ x.getD [] = y.getD [] := by
  cases x <;> cases y <;> simp
/-- the places ahead of one -/
def upTo (k n : Nat) : List Place := allPlaces.take (1000 * k + n)
/-- the join of the places ahead of one -/
def joinTo (base a b : List Rec) (second : List Bool) (k n : Nat) : Jn := (upTo k n).foldl (joinAt base a b second) ⟨[], []⟩
end Oyez
namespace Ab
open Go Go.RowKit Go.Proofs
attribute [local irreducible] aws awp aw1 Og Om Oc Oa Ogd Ov Ot awd aw1d QThen QBlock QFn QFnM ACode AYield
/-- a change -/
def chgAV (c : Oyez.Chg) : AV := .agg [.int .i64 c.kind, .int .i64 c.number, .bool c.had, .bool c.has, wordsAV c.old, wordsAV c.new]
def chgsAV (l : List Oyez.Chg) : AV := .pl 6 (l.map chgAV)
attribute [simp] chgAV chgsAV
end Ab
namespace Oyez
def putJ (J : Jn) (p : Place) (w : St) : Jn := ⟨match w with | some ws => J.out ++ [⟨p.kind, p.number, ws⟩] | none => J.out, J.conf⟩
/-- what a conflict has -/
def pickJ (second : List Bool) (i : Nat) (x y z : St) : St := match second[i]? with | none => x | some c => if c then z else y
def stepJ (x y z : St) (second : List Bool) (p : Place) (J : Jn) : Jn :=
  if y = z ∨ z = x then putJ J p y else if y = x then putJ J p z else putJ ⟨J.out, J.conf ++ [chg p y z]⟩ p (pickJ second J.conf.length x y z)
end Oyez
namespace Ab
open Go Go.RowKit Go.Proofs
attribute [local irreducible] aws awp aw1 Og Om Oc Oa Ogd Ov Ot awd aw1d QThen QBlock QFn QFnM ACode AYield
def chgCells (c : Oyez.Chg) : List AV := [.int .i64 c.kind, .int .i64 c.number, .bool c.had, .bool c.has, wordsAV c.old, wordsAV c.new]
structure JS (σ : Heap) (J : Oyez.Jn) (v1 v2 : AV) (g : Heap) : Prop where
  ex : ∃ o1 o2, Acc σ g 3 v1 (J.out.map recAV) o1 ∧ Acc σ g 6 v2 (J.conf.map chgAV) o2 ∧ ∀ j, o1 = some j → o2 = some j → False
theorem Acc.lt {σ g : Heap} {k : Nat} {v : AV} {l : List AV} {j : Nat} (h : Acc σ g k v l (some j)) : j < g.length := (List.getElem?_eq_some_iff.1 h.val.2).1
theorem Acc.keep {σ g g' : Heap} {k : Nat} {v : AV} {l : List AV} {o : Option Nat} (h : Acc σ g k v l o) (hk : ∀ j, o = some j → g'[j]? = g[j]?) : Acc σ g' k v l o := ⟨h.len, by
  have hv := h.val
  cases o with
  | none => exact hv
  | some j => exact ⟨hv.1, by rw [hk j rfl]; exact hv.2⟩⟩
theorem JS.put {σ : Heap} {J : Oyez.Jn} {v1 v2 : AV} {g : Heap} (h : JS σ J v1 v2 g) (hl : J.out.length ≤ 2 ^ 40) (r : Oyez.Rec) :
    ∃ v1' g', aappend Tryz.prog #[27, 27] v1 (.arr 3 (σ.length + g.length) 0 1) (σ ++ (g ++ [.cells (recCells r)])) = some (v1', σ ++ g') ∧ JS σ ⟨J.out ++ [r], J.conf⟩ v1' v2 g' := by
  obtain ⟨o1, o2, h1, h2, h3⟩ := h.ex
  obtain ⟨v', g', o', he, hA', hgl, hkeep, ho⟩ := h1.push (P := Tryz.prog) (t := 27) (e := 96) (ag := true) (x := recAV r) (by simp) (by simp) (by simp) (by omega) ⟨by simp [AV.cells], by simp [AV.cells, AV.one]⟩ (by simp; omega)
  refine ⟨v', g', he, ⟨o', o2, by simpa using hA', h2.keep fun j hj => ?_, fun j hj hj2 => ?_⟩⟩
  · subst hj
    exact hkeep j (fun e => h3 j e.symm rfl) h2.lt
  · subst hj2
    have hlt := h2.lt
    rcases ho with rfl | ⟨m, hm, rfl⟩
    · exact h3 j hj rfl
    · simp only [Option.some.injEq] at hj; omega
theorem JS.clash {σ : Heap} {J : Oyez.Jn} {v1 v2 : AV} {g : Heap} (h : JS σ J v1 v2 g) (hl : J.conf.length ≤ 2 ^ 40) (c : Oyez.Chg) :
    ∃ v2' g', aappend Tryz.prog #[44, 44] v2 (.arr 6 (σ.length + g.length) 0 1) (σ ++ (g ++ [.cells (chgCells c)])) = some (v2', σ ++ g') ∧ JS σ ⟨J.out, J.conf ++ [c]⟩ v1 v2' g' := by
  obtain ⟨o1, o2, h1, h2, h3⟩ := h.ex
  obtain ⟨v', g', o', he, hA', hgl, hkeep, ho⟩ := h2.push (P := Tryz.prog) (t := 44) (e := 57) (ag := true) (x := chgAV c) (by simp) (by simp) (by simp) (by omega) ⟨by simp [AV.cells], by simp [AV.cells, AV.one]⟩ (by simp; omega)
  refine ⟨v', g', he, ⟨o1, o', h1.keep fun j hj => ?_, by simpa using hA', fun j hj hj2 => ?_⟩⟩
  · subst hj
    exact hkeep j (fun e => h3 j rfl e.symm) h1.lt
  · subst hj
    have hlt := h1.lt
    rcases ho with rfl | ⟨m, hm, rfl⟩
    · exact h3 j rfl hj2
    · simp only [Option.some.injEq] at hj2; omega
theorem JS.len {σ : Heap} {J : Oyez.Jn} {v1 v2 : AV} {g : Heap} (h : JS σ J v1 v2 g) : alen Tryz.prog 44 v2 (σ ++ g) = some (.int .i64 J.conf.length) := by
  obtain ⟨o1, o2, h1, h2, h3⟩ := h.ex
  have hv := h2.val
  cases o2 with
  | none =>
    obtain ⟨rfl, hl⟩ := hv
    have : J.conf = [] := by simpa using hl
    simp [this]
  | some j =>
    obtain ⟨rfl, _⟩ := hv
    simp
end Ab
namespace Ab
open Go Go.RowKit Go.Proofs
attribute [local irreducible] aws awp aw1 Og Om Oc Oa Ogd Ov Ot awd aw1d awh aw1h Ogh Ohd awl Ogl Ohl awv Ogv Ohv QThen QBlock QFn QFnM QRo QBe ACode AYield
/-- a number from 0 up to m -/
def Drew (l : List UInt8) (d : Nat) (σ : Heap) (m : Int) (v : AV) (σ' : Heap) : Prop := ∃ (n : Int) (a' : Nat) (c' : Int), v = .int .i64 n ∧ 0 ≤ n ∧ n ≤ m ∧ a' ≤ l.length ∧ σ' = σ.set d (bellObj l a' c')
theorem stroke_calls (σ : Heap) (d : Nat) (l : List UInt8) (a : Nat) (c m : Int) (h : σ[d]? = some (bellObj l a c)) (ha : a ≤ l.length) (hl : l.length ≤ 9223372036854775807) (hm : 0 ≤ m) (hm2 : m ≤ 2 ^ 40) :
    ACalls Tryz.prog 116 [.ptr d 0, .int .i64 m] σ (Drew l d σ m) := by
  refine acalls_fn Tryz.func116 rfl (enters_fn Tryz.func116 (by decide) rfl) ?_
  simp [Tryz.ntmps116]
  refine StA.of ((ring_calls σ d l a c h ha hl).mono ?_)
  rintro v σ' ⟨n, a', c', rfl, h0, h1, ha', rfl⟩
  have hx := w64 (n := m + 1) (by omega) (by omega)
  have hne : ¬ m + 1 = 0 := by omega
  have hif : (if 1 < m + 1 then m + 1 else 1) = m + 1 := by split <;> omega
  simp [hx, hne]
  rw [hif, if_neg hne]
  simp only [Option.map_some, Om_some]
  have h3 := Int.tmod_lt_of_pos n (show 0 < m + 1 by omega)
  exact ⟨_, a', c', rfl, Int.tmod_nonneg _ h0, by omega, ha', rfl⟩
theorem strike_calls (σ : Heap) (d : Nat) (l : List UInt8) (a : Nat) (c lo hi : Int) (h : σ[d]? = some (bellObj l a c)) (ha : a ≤ l.length) (hl : l.length ≤ 9223372036854775807) (h0 : 0 ≤ lo) (h1 : lo ≤ hi) (h2 : hi ≤ 2 ^ 40) :
    ACalls Tryz.prog 117 [.ptr d 0, .int .i64 lo, .int .i64 hi] σ (fun v σ' => ∃ (n : Int) (a' : Nat) (c' : Int), v = .int .i64 n ∧ lo ≤ n ∧ n ≤ hi ∧ a' ≤ l.length ∧ σ' = σ.set d (bellObj l a' c')) := by
  refine acalls_fn Tryz.func117 rfl (enters_fn Tryz.func117 (by decide) rfl) ?_
  have hx := w64 (n := hi - lo) (by omega) (by omega)
  simp [Tryz.ntmps117, hx]
  refine StA.of ((stroke_calls σ d l a c (hi - lo) h ha hl (by omega) (by omega)).mono ?_)
  rintro v σ' ⟨n, a', c', rfl, h0, h1, ha', rfl⟩
  have hx2 := w64 (n := lo + n) (by omega) (by omega)
  simp [hx2]
  exact ⟨by omega, by omega, a', ha', c', rfl⟩
/-- the words that are drawn -/
def wordL : List (List UInt8) := [[116, 105, 100, 101], [115, 116, 111, 114, 109], [113, 117, 97, 121], [112, 117, 114, 115, 101, 55], [98, 101, 108, 108], [97], [48], [108, 111, 97, 102, 52]]
theorem bell_hold {σ : Heap} {d : Nat} {l : List UInt8} {a : Nat} {c : Int} {n : Nat} {S : Heap} (hd : d < σ.length) : ∀ (r : Nat) (o : AObj), (σ.set d (bellObj l a c))[r]? = some o → σ[r]? = some o ∨ ∃ cs, o = .cells cs ∧ ∀ y ∈ cs, Fz n S y y := by
  intro r o h
  rw [List.getElem?_set] at h
  split at h
  · obtain rfl := Option.some.inj h
    refine .inr ⟨_, rfl, fun y hy => ?_⟩
    simp at hy
    rcases hy with rfl | rfl | rfl
    · refine .pl 1 _ fun i x hx j y hy => ?_
      unfold bytesL at hx
      rw [List.getElem?_map, Option.map_eq_some_iff] at hx
      obtain ⟨b, _, rfl⟩ := hx
      match j, hy with
      | 0, hy => simp [AV.cells] at hy; subst hy; exact .int _ _
      | j + 1, hy => simp [AV.cells] at hy
    · exact .int _ _
    · exact .int _ _
  · exact .inl h
theorem Acc.set {σ g : Heap} {k : Nat} {v : AV} {l : List AV} {o : Option Nat} (h : Acc σ g k v l o) (d : Nat) (X : AObj) : Acc (σ.set d X) g k v l o := ⟨h.len, by
  have := h.val
  cases o with
  | none => exact this
  | some j => rw [List.length_set]; exact this⟩
theorem Acc.len_eq {σ τ g : Heap} {k : Nat} {v : AV} {l : List AV} {o : Option Nat} (h : Acc σ g k v l o) (e : σ.length = τ.length) : Acc τ g k v l o := ⟨h.len, by
  have := h.val
  cases o with
  | none => exact this
  | some j => rw [← e]; exact this⟩
theorem set_set {σ g : Heap} {d : Nat} (hd : d < σ.length) (X Y : AObj) : (σ.set d X ++ g).set d Y = σ.set d Y ++ g := by
  rw [List.set_append_left _ _ (by simpa using hd), List.set_set]
theorem bell_at {σ g : Heap} {d : Nat} (hd : d < σ.length) (X : AObj) : (σ.set d X ++ g)[d]? = some X := by
  rw [List.getElem?_append_left (by simpa using hd)]; simp [hd]
set_option maxHeartbeats 4000000 in
theorem Worded_calls (σ : Heap) (d : Nat) (l : List UInt8) (a : Nat) (c m : Int) (h : σ[d]? = some (bellObj l a c)) (ha : a ≤ l.length) (hl : l.length ≤ 9223372036854775807) (hm : 0 ≤ m) (hm2 : m ≤ 2 ^ 10) :
    ACalls Tryz.prog 118 [.ptr d 0, .int .i64 m] σ (fun v σ' => ∃ (ws : List (List UInt8)) (a' : Nat) (c' : Int), v = wordsAV ws ∧ (ws.length : Int) ≤ m ∧ (∀ w ∈ ws, w ∈ wordL) ∧ a' ≤ l.length ∧ σ' = σ.set d (bellObj l a' c')) := by
  have hd := (List.getElem?_eq_some_iff.1 h).1
  refine ACalls.forgetT ?_
  refine acalls_fn Tryz.func118 rfl (enters_fn Tryz.func118 (by decide) rfl) ?_
  simp [Tryz.ntmps118]
  refine StA.of ((stroke_calls σ d l a c m h ha hl hm (by omega)).mono ?_)
  rintro v σ' ⟨n, a1, c1, rfl, h0, h1, ha1, rfl⟩
  obtain ⟨n, rfl⟩ : ∃ k : Nat, n = k := ⟨n.toNat, by omega⟩
  simp
  refine ACode_loopT (fun env σ' => ∃ (u : List AV) (i : Nat) (v : AV) (ws : List (List UInt8)) (g : Heap) (o : Option Nat) (a2 : Nat) (c2 : Int), env = { t := u } ∧ u.length = 21 ∧ tg u 0 = .ptr d 0 ∧ tg u 5 = v ∧ tg u 8 = .int .i64 n ∧ tg u 9 = .int .i64 i ∧ σ' = σ.set d (bellObj l a2 c2) ++ g ∧ a2 ≤ l.length ∧ i ≤ n ∧ ws.length = i ∧ (∀ w ∈ ws, w ∈ wordL) ∧ Acc σ g 1 v (strs ws) o)
    (fun env _ => match tg env.t 9 with | .int _ i => n - i.toNat | _ => 0) ⟨_, 0, .nils, [], [], none, a1, c1, rfl, by simp, by simp, by simp, by simp, by simp, by simp, ha1, by omega, rfl, by simp, by simpa using Acc.nil _ _ _⟩ ?_
  rintro env σ' ⟨u, i, v, ws, g, o, a2, c2, rfl, hl2, g0, g5, g8, g9, rfl, ha2, hi, hws, hwl, hA⟩
  rcases Nat.lt_or_ge i n with hlt | hge
  · have hlt' : (i : Int) < (n : Int) := by omega
    have hx := w64 (n := (i : Int) + 1) (by omega) (by omega)
    simp [-aappend, hl2, g0, g5, g8, g9, hlt']
    refine StA.of ((stroke_calls _ d l a2 c2 7 (bell_at hd _) ha2 hl (by omega) (by omega)).mono ?_)
    rintro v2 σ' ⟨n2, a3, c3, rfl, k0, k1, ha3, rfl⟩
    rw [set_set hd]
    obtain ⟨k, rfl⟩ : ∃ k : Nat, n2 = k := ⟨n2.toNat, by omega⟩
    have hk : k < 8 := by omega
    have hw : ∃ w, wordL[k]? = some w ∧ w ∈ wordL := ⟨wordL[k], List.getElem?_eq_getElem hk, List.getElem_mem _⟩
    obtain ⟨w, hw1, hw2⟩ := hw
    have hA1 := (((hA.more [.cells (strs wordL)]).set d (bellObj l a3 c3)).push (P := Tryz.prog) (t := 55) (e := 9) (ag := false) (x := .str w) (by simp) (by simp) (by simp) (by omega) ⟨by simp [AV.cells], by simp [AV.cells, AV.one]⟩ (by simp; omega))
    obtain ⟨v', g', o', he, hA', _⟩ := hA1
    simp [-aappend, wordL] at he
    have hA2 : Acc σ g' 1 v' (strs (ws ++ [w])) o' := by
      have := hA'.len_eq (τ := σ) (by simp)
      simpa [strs] using this
    have hwl2 : ∀ x ∈ ws ++ [w], x ∈ wordL := fun x hx => by
      rcases List.mem_append.1 hx with hx | hx
      · exact hwl x hx
      · rw [List.mem_singleton.1 hx]; exact hw2
    have hln : (ws ++ [w]).length = i + 1 := by simp [hws]
    have h8 : k = 0 ∨ k = 1 ∨ k = 2 ∨ k = 3 ∨ k = 4 ∨ k = 5 ∨ k = 6 ∨ k = 7 := by omega
    clear hA hA' hw2
    generalize hW : ws ++ [w] = W at hA2 hwl2 hln
    rcases h8 with rfl | rfl | rfl | rfl | rfl | rfl | rfl | rfl <;> (
      simp [wordL] at hw1
      subst hw1
      simp [-aappend, hl2, g0, g5, g8, g9, hlt', hx, he]
      exact ⟨⟨i + 1, by simp, W, g', o', a3, ⟨c3, rfl⟩, ha3, hlt, hln, hwl2, by simpa [strs] using hA2⟩, by omega⟩)
  · have hge' : ¬ (i : Int) < (n : Int) := by omega
    simp [hl2, g0, g5, g8, g9, hge']
    refine ⟨_, g, rfl, by simp, bell_hold hd, wordsAV ws, ?_, ws, rfl, by omega, hwl, a2, ha2, c2, rfl⟩
    exact (hA.len_eq (τ := σ.set d (bellObj l a2 c2)) (by simp)).fz (fun x hx y hy => by
      simp only [strs, List.mem_map] at hx
      obtain ⟨w, _, rfl⟩ := hx
      simp [AV.cells] at hy
      subst hy
      exact .str _)
end Ab
namespace Ab
open Go Go.RowKit Go.Proofs
attribute [local irreducible] aws awp aw1 Og Om Oc Oa Ogd Ov Ot awd aw1d QThen QBlock QFn QFnM ACode AYield

/-- the choices of a join: nil, or a list -/
def secAV (o : Option (List Bool)) : AV := match o with | none => .nils | some l => .pl 1 (l.map AV.bool)
end Ab
