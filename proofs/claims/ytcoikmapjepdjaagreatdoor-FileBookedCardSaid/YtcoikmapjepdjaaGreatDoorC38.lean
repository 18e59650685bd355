/-
  The book that is made of numbers.
-/
import Derived.Test.YtcoikmapjepdjaaGreatDoorC35
import Derived.Test.YtcoikmapjepdjaaGreatDoorC36
import Derived.Test.YtcoikmapjepdjaaGreatDoorC37
set_option linter.unusedSimpArgs false
set_option linter.unusedVariables false
set_option linter.unusedSectionVars false
namespace Ab
open Go Go.RowKit Go.Proofs
/-- all behind n but the row o -/
def MdP (n : Nat) (o : Option Nat) (r : Nat) : Bool := decide (n ≤ r) && decide (o ≠ some (r - n))
theorem flat_one {L : List AV} (h : ∀ y ∈ L, y.cells = [y]) : L.flatMap AV.cells = L := by
  induction L with
  | nil => rfl
  | cons x L ih => rw [List.flatMap_cons, ih fun y hy => h y (by simp [hy]), h x (by simp)]; rfl
theorem View.acc {S g : Heap} {v : AV} {L L' : List AV} {o : Option Nat} (hA : Acc S g 1 v L o) (hl : L'.length = L.length) (h0 : ∀ y ∈ L, y.cells = [y]) (h1 : ∀ y ∈ L', y.one = true ∧ y.cells = [y])
    (hz : ∀ (i : Nat) (x y : AV), L[i]? = some x → L'[i]? = some y → Vw (MdP S.length o) (S ++ g) x y) : ∃ g', g'.length = g.length ∧ View (MdP S.length o) (S ++ g) (S ++ g') ∧ Acc S g' 1 v L' o := by
  refine ⟨g.mapIdx fun j _ => if o = some j then .cells L' else .dead, by simp, ⟨by simp, fun r o' ho hlv => ?_⟩, ⟨fun x hx => ⟨by rw [(h1 x hx).2]; rfl, fun y hy => by rw [(h1 x hx).2, List.mem_singleton] at hy; rw [hy]; exact (h1 x hx).1⟩, ?_⟩⟩
  · rcases Nat.lt_or_ge r S.length with h | h
    · rw [List.getElem?_append_left h] at ho
      exact ⟨by unfold MdP; simp; omega, o', by rw [List.getElem?_append_left h]; exact ho, hlv, .inl rfl⟩
    · rw [List.getElem?_append_right h, List.getElem?_mapIdx, Option.map_eq_some_iff] at ho
      obtain ⟨x, hx, rfl⟩ := ho
      split at hlv
      · rename_i e
        subst e
        have hv := hA.val
        rw [flat_one h0] at hv
        refine ⟨by unfold MdP; simp, .cells L, by rw [List.getElem?_append_right h]; exact hv.2, rfl, .inr ⟨L, L', rfl, by rw [if_pos rfl], hl, hz⟩⟩
      · cases hlv
  · have hv := hA.val
    cases o with
    | none => exact ⟨hv.1, List.eq_nil_of_length_eq_zero (by rw [hl, hv.2]; rfl)⟩
    | some j =>
      refine ⟨by rw [hv.1, hl], ?_⟩
      have hj := (List.getElem?_eq_some_iff.1 hv.2).1
      rw [List.getElem?_mapIdx, List.getElem?_eq_getElem hj, flat_one fun y hy => (h1 y hy).2]
      simp
def zBk : AObj := .cells [.int .i64 0, .int .i64 0, .nils, .nils, .nils]
/-- a list of houses that is right -/
def GoodL (hs : Nat) (w : List Int) : Prop := w.Nodup ∧ (∀ y ∈ w, 0 ≤ y ∧ y < (hs : Int)) ∧ w.length ≤ hs
/-- ahead of a stand -/
def Md1 (l : List UInt8) (d : Nat) (σ : Heap) (hs ns n : Nat) (env : Env) (σ' : Heap) : Prop := ∃ (u : List AV) (i : Nat) (v : AV) (L : List AV) (H : List (List (List Int))) (g : Heap) (o : Option Nat) (a : Nat) (c : Int), env = { t := u } ∧ u.length = 112 ∧ tg u 0 = .ptr d 0 ∧ tg u 4 = .int .i64 5 ∧ tg u 10 = .ptr σ.length 0 ∧ tg u 12 = .ptr (σ.length + 1) 0 ∧ tg u 27 = .int .i64 n ∧ tg u 28 = .int .i64 i ∧ i ≤ n ∧
  σ' = (σ.set d (bellObj l a c) ++ [zBk]) ++ (.cells [.int .i64 hs, .int .i64 ns, v, .nils, .nils] :: g) ∧ a ≤ l.length ∧ Acc (σ ++ [zBk, zBk]) g 1 v L o ∧ H.length = i ∧ L.length = i ∧ (∀ y ∈ L, y.cells = [y]) ∧ (∀ x ∈ H, x.length = 8 ∧ ∀ w ∈ x, GoodL hs w) ∧
  ∀ (j : Nat) (x y : AV), L[j]? = some x → (H.map rowsI)[j]? = some y → Vw (MdP (σ.length + 2) o) σ' x y
/-- ahead of a wind -/
def Md2 (l : List UInt8) (d : Nat) (σ : Heap) (hs ns n i : Nat) (v : AV) (gH : Heap) (env : Env) (σ' : Heap) : Prop := ∃ (u : List AV) (k : Nat) (w : AV) (W : List (List Int)) (g : Heap) (o : Option Nat) (a : Nat) (c : Int), env = { t := u } ∧ u.length = 112 ∧ tg u 0 = .ptr d 0 ∧ tg u 4 = .int .i64 5 ∧ tg u 10 = .ptr σ.length 0 ∧ tg u 12 = .ptr (σ.length + 1) 0 ∧ tg u 27 = .int .i64 n ∧ tg u 28 = .int .i64 i ∧ tg u 13 = w ∧ tg u 30 = .int .i64 k ∧ k ≤ 8 ∧
  σ' = (σ.set d (bellObj l a c) ++ [zBk]) ++ (.cells [.int .i64 hs, .int .i64 ns, v, .nils, .nils] :: (gH ++ g)) ∧ a ≤ l.length ∧ Acc (σ ++ [zBk, zBk] ++ gH) g 1 w (W.map rowI) o ∧ W.length = k ∧ ∀ w ∈ W, GoodL hs w
/-- winds, and what was read of them -/
structure Rd (reals : List Nat) (reads : List Int) (w : Int) : Prop where
  len : reals.length = reads.length
  lt : ∀ (h x : Nat), reals[h]? = some x → x < 8 ∧ ∃ y, reads[h]? = some y ∧ (y = -1 ∨ (0 ≤ y ∧ y ≤ 7) ∧ nearB x y = true)
  near : ∀ (h x y : Nat), reals[h]? = some x → reals[h + 1]? = some y → nearB y x = true
  last : ∀ x : Nat, reals.getLast? = some x → (x : Int) = w
  w : 0 ≤ w ∧ w ≤ 7
theorem Rd.nil {w : Int} (hw : 0 ≤ w ∧ w ≤ 7) : Rd [] [] w := ⟨rfl, fun h x e => by simp at e, fun h x y e => by simp at e, fun x e => by simp at e, hw⟩
theorem Rd.snoc {reals : List Nat} {reads : List Int} {w : Int} (h : Rd reals reads w) {d : Int} (hd : d = -1 ∨ d = 0 ∨ d = 1) {e : Int} (he : e = -1 ∨ e = 0 ∨ e = 1) (b : Bool) :
    Rd (reals ++ [((w + d) % 8).toNat]) (reads ++ [if b then -1 else ((w + d) % 8 + e) % 8]) ((w + d) % 8) := by
  have hm : 0 ≤ (w + d) % 8 ∧ (w + d) % 8 ≤ 7 := by omega
  have hn : ((((w + d) % 8).toNat : Nat) : Int) = (w + d) % 8 := by omega
  obtain ⟨W, hW⟩ : ∃ W : Nat, w = W := ⟨w.toNat, by have := h.w; omega⟩
  have hw8 : W < 8 := by have := h.w; omega
  refine ⟨by simp [h.len], fun i x hx => ?_, fun i x y hx hy => ?_, fun x hx => ?_, hm⟩
  · rcases Nat.lt_or_ge i reals.length with h1 | h1
    · rw [List.getElem?_append_left h1] at hx
      rw [List.getElem?_append_left (by rw [← h.len]; exact h1)]
      exact h.lt i x hx
    · have h2 := (List.getElem?_eq_some_iff.1 hx).1
      simp at h2
      obtain rfl : i = reals.length := by omega
      rw [List.getElem?_append_right (Nat.le_refl _)] at hx
      simp at hx
      rw [List.getElem?_append_right (by rw [h.len]; exact Nat.le_refl _), h.len]
      refine ⟨by omega, _, by simp; rfl, ?_⟩
      cases b with
      | true => exact .inl rfl
      | false =>
        have := (near_turn x (by omega) e he).2
        rw [← hx, hn] at this
        rw [← hx, hn]
        exact .inr ⟨by simp; omega, by simpa using this⟩
  · rcases Nat.lt_or_ge (i + 1) reals.length with h1 | h1
    · rw [List.getElem?_append_left (by omega)] at hx
      rw [List.getElem?_append_left h1] at hy
      exact h.near i x y hx hy
    · have h2 := (List.getElem?_eq_some_iff.1 hy).1
      simp at h2
      have e2 : reals.length = i + 1 := by omega
      rw [List.getElem?_append_right h1] at hy
      simp [e2] at hy
      rw [List.getElem?_append_left (by omega)] at hx
      have hl := h.last x (by rw [List.getLast?_eq_getElem?, e2]; exact hx)
      have := (near_turn W hw8 d hd).1
      rw [← hy, hn, hl, hW]
      exact this
  · simp at hx
    rw [← hx]; exact hn
/-- ahead of an hour -/
def Md3 (l : List UInt8) (d : Nat) (σ : Heap) (hs ns n : Nat) (HE : AV) (env : Env) (σ' : Heap) : Prop := ∃ (u : List AV) (i : Nat) (w : Int) (v1 v2 : AV) (reals : List Nat) (reads : List Int) (g : Heap) (o1 o2 : Option Nat) (a : Nat) (c : Int), env = { t := u } ∧ u.length = 112 ∧ tg u 0 = .ptr d 0 ∧ tg u 10 = .ptr σ.length 0 ∧ tg u 12 = .ptr (σ.length + 1) 0 ∧ tg u 15 = .int .i64 w ∧ tg u 16 = v1 ∧ tg u 57 = .int .i64 n ∧ tg u 58 = .int .i64 i ∧ i ≤ n ∧
  σ' = (σ.set d (bellObj l a c) ++ [zBk]) ++ (.cells [.int .i64 hs, .int .i64 ns, HE, v2, .nils] :: g) ∧ a ≤ l.length ∧ Acc (σ ++ [zBk, zBk]) g 1 v1 (intsA (reals.map fun (x : Nat) => (x : Int))) o1 ∧ Acc (σ ++ [zBk, zBk]) g 1 v2 (intsA reads) o2 ∧ (∀ j, o1 = some j → o2 ≠ some j) ∧ reals.length = i ∧ Rd reals reads w
/-- a cry that is right -/
def GoodC (hs ns nh st : Nat) (c : Cr) : Prop := (0 ≤ c.hour ∧ c.hour < (nh : Int)) ∧ (0 ≤ c.stand ∧ c.stand < (st : Int)) ∧ 0 ≤ c.notice ∧ c.notice < (ns : Int)
/-- ahead of a cry -/
def Md5 (l : List UInt8) (d : Nat) (σ : Heap) (hs ns : Nat) (H : List (List (List Int))) (reals : List Nat) (reads : List Int) (n : Nat) (env : Env) (σ' : Heap) : Prop := ∃ (u : List AV) (i : Nat) (v : AV) (cs : List Cr) (g : Heap) (o : Option Nat) (a : Nat) (c : Int), env = { t := u } ∧ u.length = 112 ∧ tg u 0 = .ptr d 0 ∧ tg u 10 = .ptr σ.length 0 ∧ tg u 12 = .ptr (σ.length + 1) 0 ∧ tg u 16 = .pl 1 (intsA (reals.map fun (x : Nat) => (x : Int))) ∧ tg u 84 = .int .i64 n ∧ tg u 85 = .int .i64 i ∧ i ≤ n ∧
  σ' = (σ.set d (bellObj l a c) ++ [zBk]) ++ (.cells [.int .i64 hs, .int .i64 ns, .pl 1 (H.map rowsI), .pl 1 (intsA reads), v] :: g) ∧ a ≤ l.length ∧ Acc (σ ++ [zBk, zBk]) g 3 v (cs.map crAV) o ∧ cs.length = i ∧ ∀ x ∈ cs, GoodC hs ns reads.length H.length x
theorem cut2s {n : Nat} {a b : Code} : (cutC (n + 1) (.seq a b)).2 = (cutC n b).2 := rfl
theorem cut2z {c : Code} : (cutC 0 c).2 = c := by cases c <;> rfl
section
variable {P : Program}
theorem acalls_cutF {f : FuncId} {fn : Func} {c : Code} {args : List AV} {σ : Heap} {R : AV → Heap → Prop} (n : Nat) (I : Env → Heap → Prop) (hf : P.funcs[f]? = some fn) (hb : fn.body = some c) (hen : Enters P f)
    (h1 : awp P none (cutC n c).1 (QThen I (QFn P fn R)) { t := te args fn.ntmps } σ) (h2 : ∀ (env : Env) (σ : Heap), I env σ → ACode P none (cutC n c).2 (QFn P fn R) env σ) : ACalls P f args σ R :=
  acalls_of hf hb hen (ACode_cutA I h2 h1)
end
theorem Acc.kept {S g g' : Heap} {k : Nat} {v : AV} {L : List AV} {o o2 : Option Nat} (h : Acc S g k v L o2) (hk : ∀ j, some j ≠ o → j < g.length → g'[j]? = g[j]?) (ho : ∀ j, o = some j → o2 ≠ some j) : Acc S g' k v L o2 := ⟨h.len, by
  have hv := h.val
  cases o2 with
  | none => exact hv
  | some j =>
    refine ⟨hv.1, ?_⟩
    have h2 := hv.2
    rw [hk j (fun e => ho j e.symm rfl) (List.getElem?_eq_some_iff.1 h2).1]
    exact h2⟩
theorem appI {S g : Heap} {v : AV} {L : List Int} {o : Option Nat} (hA : Acc S g 1 v (intsA L) o) (x : Int) (hl : L.length ≤ 2 ^ 30) :
    ∃ v' g' jo, aappend Tryz.prog #[32, 32] v (.pl 1 [.int .i64 x]) (S ++ g) = some (v', S ++ g') ∧ Acc S g' 1 v' (intsA (L ++ [x])) (some jo) ∧ v' = .arr 1 (S.length + jo) 0 (L.length + 1) ∧ (∀ j, some j ≠ o → j < g.length → g'[j]? = g[j]?) ∧ (some jo = o ∨ jo = g.length) := by
  obtain ⟨v', g', o', he, hA', hlen, hkeep, ho⟩ := hA.app (P := Tryz.prog) (t := 32) (e := 3) (ag := false) (ys := [.int .i64 x]) (y := .pl 1 [.int .i64 x]) (by simp) (by simp) (by simp) (by omega) (fun y hy => by
    rw [List.mem_singleton.1 hy]
    exact ⟨rfl, by simp [AV.cells, AV.one]⟩) (by simp [AV.cells]) (by simp [intsA]; omega)
  have e : intsA L ++ [.int .i64 x] = intsA (L ++ [x]) := by simp [intsA]
  rw [e] at hA'
  obtain ⟨jo, rfl⟩ : ∃ jo, o' = some jo := by
    cases o' with
    | none => exact absurd hA'.val.2 (by simp [intsA])
    | some jo => exact ⟨jo, rfl⟩
  refine ⟨v', g', jo, he, hA', by rw [hA'.val.1]; simp [intsA], hkeep, ?_⟩
  rcases ho with h | h
  · exact .inl h
  · exact .inr (by simpa using h)
theorem appC {S g : Heap} {v : AV} {L : List Cr} {o : Option Nat} (hA : Acc S g 3 v (L.map crAV) o) (x : Cr) (hl : L.length ≤ 2 ^ 30) :
    ∃ v' g' jo, aappend Tryz.prog #[98, 98] v (.pl 3 [crAV x]) (S ++ g) = some (v', S ++ g') ∧ Acc S g' 3 v' ((L ++ [x]).map crAV) (some jo) ∧ v' = .arr 3 (S.length + jo) 0 (L.length + 1) := by
  obtain ⟨v', g', o', he, hA', hlen, hkeep, ho⟩ := hA.app (P := Tryz.prog) (t := 98) (e := 108) (ag := true) (ys := [crAV x]) (y := .pl 3 [crAV x]) (by simp) (by simp) (by simp) (by omega) (fun y hy => by
    rw [List.mem_singleton.1 hy]
    exact ⟨rfl, by simp [AV.cells, AV.one, crAV]⟩) (by simp [AV.cells, crAV]) (by simp; omega)
  have e : L.map crAV ++ [crAV x] = (L ++ [x]).map crAV := by simp
  rw [e] at hA'
  obtain ⟨jo, rfl⟩ : ∃ jo, o' = some jo := by
    cases o' with
    | none => exact absurd hA'.val.2 (by simp)
    | some jo => exact ⟨jo, rfl⟩
  exact ⟨v', g', jo, he, hA', by rw [hA'.val.1]; simp⟩
theorem Rd.fits {hs ns : Int} {H : List (List (List Int))} {reals : List Nat} {reads : List Int} {w : Int} {cs : List Cr} (h : Rd reals reads w) : Fits ⟨hs, ns, H, reads, cs⟩ reals := by
  refine ⟨h.len, fun i x hx => ?_, h.near⟩
  obtain ⟨h1, y, h2, h3⟩ := h.lt i x hx
  refine ⟨h1, ?_⟩
  unfold canB
  simp only [h2]
  rcases h3 with rfl | ⟨_, h3⟩
  · simp
  · simp [h3]
attribute [local irreducible] aws awp aw1 Og Om Oc Oa Ogd Ov Ot awd aw1d awh aw1h Ogh Ohd awl Ogl Ohl awv Ogv Ohv QThen QBlock QFn QFnM QRo QBe ACode AYield
set_option maxHeartbeats 4000000 in
theorem bk_made_calls (σ : Heap) (d : Nat) (l : List UInt8) (a : Nat) (c : Int) (h : σ[d]? = some (bellObj l a c)) (ha : a ≤ l.length) (hl : l.length ≤ 9223372036854775807) :
    ACalls Tryz.prog 49 [.ptr d 0, .int .i64 4, .int .i64 3, .int .i64 3, .int .i64 5] σ fun v s => ∃ (b : Bk) (real : List Nat) (a' : Nat) (c' : Int), v = .tup [bkAV b, .pl 1 (intsA (real.map fun (x : Nat) => (x : Int)))] ∧ b.Ok ∧ Fits b real ∧ b.cries.length ≤ 6 ∧ b.houses ≤ 4 ∧ b.notices ≤ 3 ∧ b.hears.length ≤ 3 ∧ b.reads.length ≤ 5 ∧ a' ≤ l.length ∧ s = σ.set d (bellObj l a' c') := by
  have hd := (List.getElem?_eq_some_iff.1 h).1
  have h0 : σ.set d (bellObj l a c) = σ := by
    apply List.ext_getElem?
    intro i
    rw [List.getElem?_set]
    split
    · rename_i e; subst e; exact h.symm
    · rfl
  refine ACalls.forgetT ?_
  refine acalls_cutF 3 (fun env σ' => ∃ hs ns n, (1 ≤ hs ∧ hs ≤ 4) ∧ (1 ≤ ns ∧ ns ≤ 3) ∧ (1 ≤ n ∧ n ≤ 3) ∧ tg env.t 28 = .int .i64 (n : Nat) ∧ Md1 l d σ hs ns n env σ') Tryz.func49 rfl (enters_fn Tryz.func49 (by decide) rfl) ?_ ?_
  · simp [-aappend, Tryz.ntmps49]
    have hbA : ∀ (B : AObj) (X : Heap), (σ.set d B ++ X)[d]? = some B := fun B X => bell_at hd B
    refine StA.of ((strikeZ_calls _ d l a c 1 4 (by rw [List.getElem?_append_left hd]; exact h) ha hl (by omega) (by omega) (by omega)).mono ?_)
    rintro _ _ ⟨hs, a1, c1, rfl, hs1, hs2, ha1, rfl⟩
    rw [List.set_append_left _ _ hd]
    try simp [-aappend]
    refine StA.of ((strikeZ_calls _ d l a1 c1 1 3 (hbA _ _) ha1 hl (by omega) (by omega) (by omega)).mono ?_)
    rintro _ _ ⟨ns, a2, c2, rfl, ns1, ns2, ha2, rfl⟩
    rw [set_set hd]
    try simp [-aappend]
    refine StA.of ((strikeZ_calls _ d l a2 c2 1 3 (hbA _ _) ha2 hl (by omega) (by omega) (by omega)).mono ?_)
    rintro _ _ ⟨n, a3, c3, rfl, n1, n2, ha3, rfl⟩
    rw [set_set hd]
    obtain ⟨hs, rfl⟩ : ∃ m : Nat, hs = m := ⟨hs.toNat, by omega⟩
    obtain ⟨ns, rfl⟩ : ∃ m : Nat, ns = m := ⟨ns.toNat, by omega⟩
    obtain ⟨n, rfl⟩ : ∃ m : Nat, n = m := ⟨n.toNat, by omega⟩
    try simp [-aappend]
    refine ACode_loopTV (Md1 l d σ hs ns n) (fun env _ => match tg env.t 28 with | .int _ i => n - i.toNat | _ => 0) ⟨_, 0, .nils, [], [], [], none, a3, c3, rfl, by simp, by simp, by simp, by simp, by simp, by simp, by simp, by omega, by simp [zBk], ha3, Acc.nil _ _ _, rfl, rfl, by simp, by simp, by simp⟩ ?_
    rintro env _ ⟨u, i, v, L, H, g, o, a4, c4, rfl, hl2, g0, g4, g10, g12, g27, g28, hi, rfl, ha4, hA, hHl, hLl, hL1, hH, hz⟩
    rcases Nat.lt_or_ge i n with hlt | hge
    · obtain ⟨S, hS⟩ : ∃ S, (σ.set d (bellObj l a4 c4) ++ [zBk]) ++ [AObj.cells [.int .i64 hs, .int .i64 ns, v, .nils, .nils]] = S := ⟨_, rfl⟩
      have hSl : S.length = σ.length + 2 := by rw [← hS]; simp
      have hSg : (σ.set d (bellObj l a4 c4) ++ [zBk]) ++ (AObj.cells [.int .i64 hs, .int .i64 ns, v, .nils, .nils] :: g) = S ++ g := by rw [← hS]; simp
      rw [hSg] at hz ⊢
      obtain ⟨gH, hgHl, hV, hA2⟩ := View.acc (S := S) (L' := H.map rowsI) (hA.base (by rw [hSl]; simp)) (by simp [hHl, hLl]) hL1 (fun y hy => by obtain ⟨z, _, rfl⟩ := List.mem_map.1 hy; exact ⟨rfl, rfl⟩) (by rw [hSl]; exact hz)
      refine .inr ⟨_, _, pickT u [(0, .ptr d 0), (4, .int .i64 5), (10, .ptr σ.length 0), (12, .ptr (σ.length + 1) 0), (27, .int .i64 (n : Int)), (28, .int .i64 (i : Int))], hV, pickT_len _ _, pickT_vw (by
        simp only [List.mem_cons, List.not_mem_nil, or_false]
        rintro p (rfl | rfl | rfl | rfl | rfl | rfl) <;> dsimp only <;> first | (rw [g0]; exact .inl rfl) | (rw [g4]; exact .inl rfl) | (rw [g10]; exact .inl rfl) | (rw [g12]; exact .inl rfl) | (rw [g27]; exact .inl rfl) | (rw [g28]; exact .inl rfl)), ?_⟩
      have e0 : (match tg u 28 with | .int _ i => n - i.toNat | _ => 0) = n - i := by rw [g28]; simp
      have hl3 := (pickT_len u [(0, .ptr d 0), (4, .int .i64 5), (10, .ptr σ.length 0), (12, .ptr (σ.length + 1) 0), (27, .int .i64 (n : Int)), (28, .int .i64 (i : Int))]).trans hl2
      have k0 : tg (pickT u [(0, .ptr d 0), (4, .int .i64 5), (10, .ptr σ.length 0), (12, .ptr (σ.length + 1) 0), (27, .int .i64 (n : Int)), (28, .int .i64 (i : Int))]) 0 = .ptr d 0 := by simp [pickT, hl2]
      have k4 : tg (pickT u [(0, .ptr d 0), (4, .int .i64 5), (10, .ptr σ.length 0), (12, .ptr (σ.length + 1) 0), (27, .int .i64 (n : Int)), (28, .int .i64 (i : Int))]) 4 = .int .i64 5 := by simp [pickT, hl2]
      have k10 : tg (pickT u [(0, .ptr d 0), (4, .int .i64 5), (10, .ptr σ.length 0), (12, .ptr (σ.length + 1) 0), (27, .int .i64 (n : Int)), (28, .int .i64 (i : Int))]) 10 = .ptr σ.length 0 := by simp [pickT, hl2]
      have k12 : tg (pickT u [(0, .ptr d 0), (4, .int .i64 5), (10, .ptr σ.length 0), (12, .ptr (σ.length + 1) 0), (27, .int .i64 (n : Int)), (28, .int .i64 (i : Int))]) 12 = .ptr (σ.length + 1) 0 := by simp [pickT, hl2]
      have k27 : tg (pickT u [(0, .ptr d 0), (4, .int .i64 5), (10, .ptr σ.length 0), (12, .ptr (σ.length + 1) 0), (27, .int .i64 (n : Int)), (28, .int .i64 (i : Int))]) 27 = .int .i64 (n : Int) := by simp [pickT, hl2]
      have k28 : tg (pickT u [(0, .ptr d 0), (4, .int .i64 5), (10, .ptr σ.length 0), (12, .ptr (σ.length + 1) 0), (27, .int .i64 (n : Int)), (28, .int .i64 (i : Int))]) 28 = .int .i64 (i : Int) := by simp [pickT, hl2]
      obtain ⟨u', hu'⟩ : ∃ x, pickT u [(0, .ptr d 0), (4, .int .i64 5), (10, .ptr σ.length 0), (12, .ptr (σ.length + 1) 0), (27, .int .i64 (n : Int)), (28, .int .i64 (i : Int))] = x := ⟨_, rfl⟩
      rw [hu'] at hl3 k0 k4 k10 k12 k27 k28 ⊢
      dsimp only
      rw [e0]
      clear hz hV hA hLl hL1 hl2 g0 g4 g10 g12 g27 g28 hu' e0 hSg
      have hlt' : (i : Int) < (n : Int) := by omega
      have hx := w64 (n := (i : Int) + 1) (by omega) (by omega)
      rw [← hS]
      simp [-aappend, hl3, k0, k4, k10, k12, k27, k28, hlt']
      refine ACode_loopT (Md2 l d σ hs ns n i v gH) (fun env _ => match tg env.t 30 with | .int _ i => 8 - i.toNat | _ => 0) ⟨_, 0, .nils, [], [], none, a4, c4, rfl, by simp [hl3], by simp [hl3, k0], by simp [hl3, k4], by simp [hl3, k10], by simp [hl3, k12], by simp [hl3, k27], by simp [hl3, k28], by simp [hl3], by simp [hl3], by omega, by simp, ha4, Acc.nil _ _ _, rfl, by simp⟩ ?_
      clear hl3 k0 k4 k10 k12 k27 k28 u' hS ha4
      rintro env _ ⟨u, k, w, W, g2, o2, a4, c4, rfl, hl2, g0, g4, g10, g12, g27, g28, g13, g30, hk, rfl, ha4, hAw, hWl, hW⟩
      rcases Nat.lt_or_ge k 8 with hk8 | hk8
      · have hk8' : (k : Int) < 8 := by omega
        have hx2 := w64 (n := (k : Int) + 1) (by omega) (by omega)
        have hbA : ∀ (B : AObj) (X : Heap), (σ.set d B ++ X)[d]? = some B := fun B X => bell_at hd B
        have hcA : ∀ (B c : AObj) (X : Heap), (σ.set d B ++ zBk :: c :: X)[σ.length + 1]? = some c := fun B c X => by rw [List.getElem?_append_right (by simp)]; simp
        simp [-aappend, hl2, g0, g4, g10, g12, g27, g28, g13, g30, hk8', hcA]
        refine StA.of ((rung_calls _ d l a4 c4 hs (hbA _ _) ha4 hl (by omega)).mono ?_)
        rintro _ _ ⟨R, a5, c5, rfl, hRl, hRn, hRm, ha5, rfl⟩
        rw [set_set hd]
        simp [-aappend, hl2, g0, g4, g10, g12, g27, g28, g13, g30, hk8', hcA, intsA]
        refine StA.of ((stroke_calls _ d l a5 c5 R.length (hbA _ _) ha5 hl (by omega) (by omega)).mono ?_)
        rintro _ _ ⟨m, a6, c6, rfl, hm0, hm1, ha6, rfl⟩
        rw [set_set hd]
        obtain ⟨m, rfl⟩ : ∃ x : Nat, m = x := ⟨m.toNat, by omega⟩
        have hmR : m ≤ R.length := by omega
        have hgood : GoodL hs (R.take m) := ⟨hRn.sublist (List.take_sublist _ _), fun y hy => hRm y (List.mem_of_mem_take hy), by simp; omega⟩
        have hA3 := (hAw.base (σ' := σ.set d (bellObj l a6 c6) ++ (zBk :: AObj.cells [.int .i64 hs, .int .i64 ns, v, .nils, .nils] :: gH)) (by simp)).push (P := Tryz.prog) (t := 38) (e := 32) (ag := false) (x := rowI (R.take m)) (by simp) (by simp) (by simp) (by omega) ⟨by simp [AV.cells, rowI], by simp [AV.cells, AV.one, rowI]⟩ (by simp; omega)
        obtain ⟨v', g', o', he, hA4, _⟩ := hA3
        simp [-aappend, Nat.add_assoc] at he
        simp [-aappend, hl2, g0, g4, g10, g12, g27, g28, g13, g30, hk8', hcA, hmR]
        have hil : m ≤ (intsA R).length := by simp [intsA]; omega
        have hti : List.take m (intsA R) = (R.take m).map fun x => AV.int .i64 x := by simp [intsA, List.map_take]
        rw [if_pos hil, Om_some, hti]
        simp [-aappend, hl2, g0, g4, g10, g12, g27, g28, g13, g30, hk8', hcA, hx2]
        have he' : aappend Tryz.prog #[38, 38] w (.arr 1 (σ.length + (gH.length + g2.length + 1 + 1)) 0 1) (List.set σ d (bellObj l a6 c6) ++ zBk :: AObj.cells [AV.int IntKind.i64 hs, AV.int IntKind.i64 ns, v, AV.nils, AV.nils] :: (gH ++ (g2 ++ [AObj.cells [AV.pl 1 (List.take m (List.map (fun x => AV.int IntKind.i64 x) R))]]))) = some (v', List.set σ d (bellObj l a6 c6) ++ zBk :: AObj.cells [AV.int IntKind.i64 hs, AV.int IntKind.i64 ns, v, AV.nils, AV.nils] :: (gH ++ g')) := by
          rw [show gH.length + (2 + g2.length) = gH.length + g2.length + 1 + 1 by omega] at he
          rw [← List.map_take]
          exact he
        rw [he', Om_some]
        exact ⟨⟨_, k + 1, v', W ++ [R.take m], g', o', a6, c6, rfl, by simp [hl2], by simp [hl2, g0], by simp [hl2, g4], by simp [hl2, g10], by simp [hl2, g12], by simp [hl2, g27], by simp [hl2, g28], by simp [hl2], by simp [hl2], hk8, by simp, ha6, by rw [List.map_append]; exact hA4.base (by simp), by simp [hWl], fun x hx => by
          rcases List.mem_append.1 hx with hx | hx
          · exact hW x hx
          · rw [List.mem_singleton.1 hx]; exact hgood⟩, by omega⟩
      · obtain rfl : k = 8 := by omega
        have hcA : ∀ (B c : AObj) (X : Heap), (σ.set d B ++ zBk :: c :: X)[σ.length + 1]? = some c := fun B c X => by rw [List.getElem?_append_right (by simp)]; simp
        have hcS : ∀ (B c : AObj) (X : Heap) (Y : AObj), (σ.set d B ++ zBk :: c :: X).set (σ.length + 1) Y = σ.set d B ++ zBk :: Y :: X := fun B c X Y => by rw [List.set_append_right _ _ (by simp)]; simp
        obtain ⟨jw, rr, hrr, rfl, hjw⟩ : ∃ jw rr, rr = σ.length + 2 + gH.length + jw ∧ w = .arr 1 rr 0 8 ∧ g2[jw]? = some (.cells (W.map rowI)) := by
          have hv := hAw.val
          rw [flat_one (fun y hy => by obtain ⟨z, _, rfl⟩ := List.mem_map.1 hy; rfl)] at hv
          cases o2 with
          | none => have := congrArg List.length hv.2; simp [hWl] at this
          | some j => exact ⟨j, _, rfl, by rw [hv.1]; simp [hWl]; omega, hv.2⟩
        have hA3 := ((hA2.base (σ' := σ.set d (bellObj l a4 c4) ++ (zBk :: AObj.cells [.int .i64 hs, .int .i64 ns, v, .nils, .nils] :: [])) (by rw [hSl]; simp)).more g2).push (P := Tryz.prog) (t := 97) (e := 38) (ag := false) (x := .arr 1 rr 0 8) (by simp) (by simp) (by simp) (by omega) ⟨by simp [AV.cells], by simp [AV.cells, AV.one]⟩ (by simp; omega)
        obtain ⟨v', g', o', he, hA4, hgl, hkeep, ho⟩ := hA3
        simp [-aappend, Nat.add_assoc] at he
        have he' : aappend Tryz.prog #[97, 97] v (.arr 1 (σ.length + (gH.length + g2.length + 1 + 1)) 0 1) (List.set σ d (bellObj l a4 c4) ++ zBk :: AObj.cells [AV.int IntKind.i64 hs, AV.int IntKind.i64 ns, v, AV.nils, AV.nils] :: (gH ++ (g2 ++ [AObj.cells [AV.arr 1 rr 0 8]]))) = some (v', List.set σ d (bellObj l a4 c4) ++ zBk :: AObj.cells [AV.int IntKind.i64 hs, AV.int IntKind.i64 ns, v, AV.nils, AV.nils] :: g') := by
          rw [show 2 + (gH.length + g2.length) = gH.length + g2.length + 1 + 1 by omega] at he
          exact he
        have hv1 : v'.one = true ∧ v'.cells = [v'] := by
          have hv := hA4.val
          cases o' with
          | none => exact absurd hv.2 (by simp)
          | some j => rw [hv.1]; exact ⟨rfl, rfl⟩
        obtain ⟨jo, rfl⟩ : ∃ jo, o' = some jo := by
          cases o' with
          | none => exact absurd hA4.val.2 (by simp)
          | some jo => exact ⟨jo, rfl⟩
        have hv2 := hA4.val.1
        subst hv2
        simp [-aappend, hl2, g0, g4, g10, g12, g27, g28, g13, g30, hcA, he', hcS, hx]
        have hA5 : Acc (σ ++ [zBk, zBk]) g' 1 (.arr 1 (σ.length + 2 + jo) 0 (H.length + 1)) (H.map rowsI ++ [.arr 1 rr 0 8]) (some jo) := by
          have := hA4.base (σ' := σ ++ [zBk, zBk]) (by simp)
          have e1 : (H.map rowsI ++ [AV.arr 1 rr 0 8]).length = H.length + 1 := by simp
          have e2 : (List.set σ d (bellObj l a4 c4) ++ [zBk, AObj.cells [AV.int IntKind.i64 hs, AV.int IntKind.i64 ns, v, AV.nils, AV.nils]]).length = σ.length + 2 := by simp
          rw [e1, e2] at this
          exact this
        have hjl := (List.getElem?_eq_some_iff.1 hjw).1
        have hol : ∀ j, o = some j → j < gH.length := fun j e => by
          have := hA2.val
          rw [e] at this
          exact (List.getElem?_eq_some_iff.1 this.2).1
        have hjw' : g'[gH.length + jw]? = some (.cells (W.map rowI)) := by
          rw [hkeep _ (fun e => by have := hol _ e.symm; omega) (by simp; omega), List.getElem?_append_right (by omega), Nat.add_sub_cancel_left]
          exact hjw
        have hne : jo ≠ gH.length + jw := by
          rcases ho with e | ⟨m, h1, e⟩
          · have := hol _ e.symm; omega
          · simp at h1 e; omega
        refine ⟨⟨_, i + 1, .arr 1 (σ.length + 2 + jo) 0 (H.length + 1), H.map rowsI ++ [.arr 1 rr 0 8], H ++ [W], g', some jo, a4, c4, rfl, by simp [hl2], by simp [hl2, g0], by simp [hl2, g4], by simp [hl2, g10], by simp [hl2, g12], by simp [hl2, g27], by simp [hl2], hlt, by simp, ha4, hA5, by simp [hHl], by simp [hHl], fun y hy => by
          rcases List.mem_append.1 hy with hy | hy
          · obtain ⟨z, _, rfl⟩ := List.mem_map.1 hy; rfl
          · rw [List.mem_singleton.1 hy]; rfl, fun x hx => by
          rcases List.mem_append.1 hx with hx | hx
          · exact hH x hx
          · rw [List.mem_singleton.1 hx]; exact ⟨hWl, hW⟩, fun j x y hxj hyj => ?_⟩, by omega⟩
        rcases Nat.lt_or_ge j H.length with hj | hj
        · rw [List.getElem?_append_left (by simpa using hj)] at hxj
          rw [List.map_append, List.getElem?_append_left (by simpa using hj)] at hyj
          exact .inl (Option.some.inj (hxj.symm.trans hyj))
        · have hjl2 := (List.getElem?_eq_some_iff.1 hxj).1
          simp at hjl2
          obtain rfl : j = H.length := by omega
          rw [List.getElem?_append_right (by simp)] at hxj
          rw [List.map_append, List.getElem?_append_right (by simp)] at hyj
          simp at hxj hyj
          subst hxj
          subst hyj
          refine .inr ?_
          have hTr : (List.set σ d (bellObj l a4 c4) ++ zBk :: AObj.cells [AV.int IntKind.i64 hs, AV.int IntKind.i64 ns, .arr 1 (σ.length + 2 + jo) 0 (H.length + 1), AV.nils, AV.nils] :: g')[rr]? = some (.cells (W.map rowI)) := by
            rw [hrr, List.getElem?_append_right (by simp; omega)]
            rw [show σ.length + 2 + gH.length + jw - (List.set σ d (bellObj l a4 c4)).length = gH.length + jw + 1 + 1 by simp; omega]
            simpa using hjw'
          have := fz_cells1 (n := 0) (cs := W.map rowI) (Nat.zero_le rr) (barP_get (p := MdP (σ.length + 2) (some jo)) hTr (by unfold MdP; simp; omega)) (fun y hy => by obtain ⟨z, _, rfl⟩ := List.mem_map.1 hy; exact ⟨rfl, rfl, fz_rowI _ _ _⟩)
          rw [List.length_map, hWl] at this
          exact this
    · obtain rfl : i = n := by omega
      refine .inl ?_
      simp [-aappend, hl2, g0, g4, g10, g12, g27, g28]
      exact ⟨hs, by omega, ns, by omega, i, by omega, rfl, _, i, v, L, H, g, o, a4, c4, rfl, by simp [hl2], by simp [hl2, g0], by simp [hl2, g4], by simp [hl2, g10], by simp [hl2, g12], by simp [hl2, g27], by simp [hl2, g28], by omega, by simp, ha4, hA, hHl, hLl, hL1, hH, by simpa using hz⟩
  · rintro env _ ⟨hs, ns, n, ⟨hs1, hs2⟩, ⟨ns1, ns2⟩, ⟨n1, n2⟩, gi, u, i, v, L, H, g, o, a4, c4, rfl, hl2, g0, g4, g10, g12, g27, g28, hi, rfl, ha4, hA, hHl, hLl, hL1, hH, hz⟩
    obtain rfl : i = n := by
      have : AV.int .i64 (i : Int) = .int .i64 (n : Int) := g28.symm.trans gi
      simp at this
      omega
    have hvw : Vw (fun r => decide ((List.set σ d (bellObj l a4 c4) ++ [zBk]).length + 1 ≤ r)) ((List.set σ d (bellObj l a4 c4) ++ [zBk]) ++ (.cells [.int .i64 hs, .int .i64 ns, v, .nils, .nils] :: g)) v (.pl 1 (H.map rowsI)) := by
      have hv := hA.val
      rw [flat_one hL1] at hv
      cases o with
      | none => have := congrArg List.length hv.2; simp only [List.length_nil] at this; omega
      | some jo =>
        obtain ⟨hv1, hv2⟩ := hv
        obtain ⟨T, hT⟩ : ∃ T, (List.set σ d (bellObj l a4 c4) ++ [zBk]) ++ (AObj.cells [.int .i64 hs, .int .i64 ns, v, .nils, .nils] :: g) = T := ⟨_, rfl⟩
        have hTr : T[σ.length + 2 + jo]? = some (.cells L) := by
          rw [← hT, List.getElem?_append_right (by simp; omega), show σ.length + 2 + jo - (List.set σ d (bellObj l a4 c4) ++ [zBk]).length = jo + 1 by rw [List.length_append, List.length_set]; simp; omega]
          exact hv2
        rw [hT] at hz ⊢
        refine .inr ?_
        rw [hv1, show (σ ++ [zBk, zBk]).length + jo = σ.length + 2 + jo by simp, show L.length = (H.map rowsI).length by simp [hLl, hHl]]
        refine .arr 1 _ 0 L _ (fun i _ => (L[i]?).getD .any) (Nat.zero_le _) (barP_get hTr (by simp)) (fun k x hx => ?_) fun k x hx j y hy => ?_
        · have hkl := (List.getElem?_eq_some_iff.1 hx).1
          obtain ⟨z, _, rfl⟩ := List.mem_map.1 (List.mem_of_getElem? hx)
          refine ⟨rfl, fun j y hy => ?_⟩
          cases j with
          | zero =>
            simp [AV.cells, rowsI] at hy
            subst hy
            simp at hkl
            exact ⟨rfl, by rw [show (0 + k) * 1 + 0 = k by omega, List.getElem?_eq_getElem (by omega)]; rfl⟩
          | succ j => simp [AV.cells, rowsI] at hy
        · have hkl := (List.getElem?_eq_some_iff.1 hx).1
          simp at hkl
          have hLk : L[k]? = some (L[k]'(by omega)) := List.getElem?_eq_getElem (by omega)
          have hzk := hz k _ _ hLk hx
          obtain ⟨z, _, rfl⟩ := List.mem_map.1 (List.mem_of_getElem? hx)
          cases j with
          | zero =>
            have hy' : y = rowsI z := by simp [AV.cells, rowsI] at hy; rw [← hy]; rfl
            subst hy'
            rw [hLk]
            rcases hzk with e | e
            · simp only [Option.getD_some]
              rw [e]
              exact fz_rowsI _ _ _
            · exact e.bar_mono fun r hr => by unfold MdP at hr; simp at hr ⊢; omega
          | succ j => simp [AV.cells, rowsI] at hy
    refine ACode.view (u' := pickT u [(0, .ptr d 0), (4, .int .i64 5), (10, .ptr σ.length 0), (12, .ptr (σ.length + 1) 0)]) _ (View.rows (C' := [.int .i64 hs, .int .i64 ns, .pl 1 (H.map rowsI), .nils, .nils]) (by simp) (fun k x y hx hy => by
      match k, hx, hy with
      | 0, hx, hy => simp at hx hy; subst hx; subst hy; exact .inl rfl
      | 1, hx, hy => simp at hx hy; subst hx; subst hy; exact .inl rfl
      | 2, hx, hy => simp only [List.getElem?_cons_succ, List.getElem?_cons_zero, Option.some.injEq] at hx hy; subst hx; subst hy; exact hvw
      | 3, hx, hy => simp at hx hy; subst hx; subst hy; exact .inl rfl
      | 4, hx, hy => simp at hx hy; subst hx; subst hy; exact .inl rfl
      | k + 5, hx, hy => simp at hx)) ?_ (pickT_len _ _) (pickT_vw (by
        simp only [List.mem_cons, List.not_mem_nil, or_false]
        rintro p (rfl | rfl | rfl | rfl) <;> dsimp only <;> first | (rw [g0]; exact .inl rfl) | (rw [g4]; exact .inl rfl) | (rw [g10]; exact .inl rfl) | (rw [g12]; exact .inl rfl)))
    have hl3 := (pickT_len u [(0, .ptr d 0), (4, .int .i64 5), (10, .ptr σ.length 0), (12, .ptr (σ.length + 1) 0)]).trans hl2
    have k0 : tg (pickT u [(0, .ptr d 0), (4, .int .i64 5), (10, .ptr σ.length 0), (12, .ptr (σ.length + 1) 0)]) 0 = .ptr d 0 := by simp [pickT, hl2]
    have k4 : tg (pickT u [(0, .ptr d 0), (4, .int .i64 5), (10, .ptr σ.length 0), (12, .ptr (σ.length + 1) 0)]) 4 = .int .i64 5 := by simp [pickT, hl2]
    have k10 : tg (pickT u [(0, .ptr d 0), (4, .int .i64 5), (10, .ptr σ.length 0), (12, .ptr (σ.length + 1) 0)]) 10 = .ptr σ.length 0 := by simp [pickT, hl2]
    have k12 : tg (pickT u [(0, .ptr d 0), (4, .int .i64 5), (10, .ptr σ.length 0), (12, .ptr (σ.length + 1) 0)]) 12 = .ptr (σ.length + 1) 0 := by simp [pickT, hl2]
    obtain ⟨u', hu'⟩ : ∃ x, pickT u [(0, .ptr d 0), (4, .int .i64 5), (10, .ptr σ.length 0), (12, .ptr (σ.length + 1) 0)] = x := ⟨_, rfl⟩
    rw [hu'] at hl3 k0 k4 k10 k12 ⊢
    obtain ⟨dd, hdd⟩ : ∃ dd, g.map (fun _ => AObj.dead) = dd := ⟨_, rfl⟩
    rw [hdd]
    clear hz hvw hA hLl hL1 hl2 g0 g4 g10 g12 g27 g28 gi hu' hdd g u
    obtain ⟨HE, hHE⟩ : ∃ HE, AV.pl 1 (H.map rowsI) = HE := ⟨_, rfl⟩
    have hHE1 : HE.one = true ∧ HE.cells = [HE] := by rw [← hHE]; exact ⟨rfl, rfl⟩
    rw [hHE]
    refine ACode_cutA (n := 3) (fun env σ' => ∃ nh, (1 ≤ nh ∧ nh ≤ 5) ∧ tg env.t 58 = .int .i64 (nh : Nat) ∧ Md3 l d σ hs ns nh HE env σ') ?_ ?_
    · rintro env _ ⟨nh, ⟨nh1, nh2⟩, gi, u, i2, w, v1, v2, reals, reads, g, o1, o2, a4, c4, rfl, hl2, g0, g10, g12, g15, g16, g57, g58, hi2, rfl, ha4, hA1, hA2, hoo, hrl, hR⟩
      obtain rfl : i2 = nh := by
        have : AV.int .i64 (i2 : Int) = .int .i64 (nh : Int) := g58.symm.trans gi
        simp at this
        omega
      have hv1 := (hA1.base (σ' := (List.set σ d (bellObj l a4 c4) ++ [zBk]) ++ [AObj.cells [.int .i64 hs, .int .i64 ns, HE, v2, .nils]]) (by simp)).vw (p := fun r => decide ((List.set σ d (bellObj l a4 c4) ++ [zBk]).length + 1 ≤ r)) (fun r hr => by simp at hr ⊢; omega)
      have hv2 := (hA2.base (σ' := (List.set σ d (bellObj l a4 c4) ++ [zBk]) ++ [AObj.cells [.int .i64 hs, .int .i64 ns, HE, v2, .nils]]) (by simp)).vw (p := fun r => decide ((List.set σ d (bellObj l a4 c4) ++ [zBk]).length + 1 ≤ r)) (fun r hr => by simp at hr ⊢; omega)
      rw [List.append_assoc _ [_] g] at hv1 hv2
      refine ACode.view (u' := pickT u [(0, .ptr d 0), (10, .ptr σ.length 0), (12, .ptr (σ.length + 1) 0), (16, .pl 1 (intsA (reals.map fun (x : Nat) => (x : Int))))]) _ (View.rows (C' := [.int .i64 hs, .int .i64 ns, HE, .pl 1 (intsA reads), .nils]) (by simp) (fun k x y hx hy => by
        match k, hx, hy with
        | 0, hx, hy => simp at hx hy; subst hx; subst hy; exact .inl rfl
        | 1, hx, hy => simp at hx hy; subst hx; subst hy; exact .inl rfl
        | 2, hx, hy => simp at hx hy; subst hx; subst hy; exact .inl rfl
        | 3, hx, hy => simp only [List.getElem?_cons_succ, List.getElem?_cons_zero, Option.some.injEq] at hx hy; subst hx; subst hy; exact hv2
        | 4, hx, hy => simp at hx hy; subst hx; subst hy; exact .inl rfl
        | k + 5, hx, hy => simp at hx)) (awp_sound _ ?_) (pickT_len _ _) (pickT_vw (by
          simp only [List.mem_cons, List.not_mem_nil, or_false]
          rintro p (rfl | rfl | rfl | rfl) <;> dsimp only <;> first | (rw [g0]; exact .inl rfl) | (rw [g10]; exact .inl rfl) | (rw [g12]; exact .inl rfl) | (rw [g16]; exact hv1)))
      have hl3 := (pickT_len u [(0, .ptr d 0), (10, .ptr σ.length 0), (12, .ptr (σ.length + 1) 0), (16, .pl 1 (intsA (reals.map fun (x : Nat) => (x : Int))))]).trans hl2
      have k0 : tg (pickT u [(0, .ptr d 0), (10, .ptr σ.length 0), (12, .ptr (σ.length + 1) 0), (16, .pl 1 (intsA (reals.map fun (x : Nat) => (x : Int))))]) 0 = .ptr d 0 := by simp [pickT, hl2]
      have k10 : tg (pickT u [(0, .ptr d 0), (10, .ptr σ.length 0), (12, .ptr (σ.length + 1) 0), (16, .pl 1 (intsA (reals.map fun (x : Nat) => (x : Int))))]) 10 = .ptr σ.length 0 := by simp [pickT, hl2]
      have k12 : tg (pickT u [(0, .ptr d 0), (10, .ptr σ.length 0), (12, .ptr (σ.length + 1) 0), (16, .pl 1 (intsA (reals.map fun (x : Nat) => (x : Int))))]) 12 = .ptr (σ.length + 1) 0 := by simp [pickT, hl2]
      have k16 : tg (pickT u [(0, .ptr d 0), (10, .ptr σ.length 0), (12, .ptr (σ.length + 1) 0), (16, .pl 1 (intsA (reals.map fun (x : Nat) => (x : Int))))]) 16 = .pl 1 (intsA (reals.map fun (x : Nat) => (x : Int))) := by simp [pickT, hl2]
      obtain ⟨u', hu'⟩ : ∃ x, pickT u [(0, .ptr d 0), (10, .ptr σ.length 0), (12, .ptr (σ.length + 1) 0), (16, .pl 1 (intsA (reals.map fun (x : Nat) => (x : Int))))] = x := ⟨_, rfl⟩
      rw [hu'] at hl3 k0 k10 k12 k16 ⊢
      obtain ⟨dd, hdd⟩ : ∃ dd, g.map (fun _ => AObj.dead) = dd := ⟨_, rfl⟩
      rw [hdd]
      clear hv1 hv2 hA1 hA2 hoo hl2 g0 g10 g12 g15 g16 g57 g58 gi hu' hdd g u
      subst hHE
      have hbA : ∀ (B : AObj) (X : Heap), (σ.set d B ++ X)[d]? = some B := fun B X => bell_at hd B
      have hcA : ∀ (B c : AObj) (X : Heap), (σ.set d B ++ zBk :: c :: X)[σ.length + 1]? = some c := fun B c X => by rw [List.getElem?_append_right (by simp)]; simp
      have hcS : ∀ (B c : AObj) (X : Heap) (Y : AObj), (σ.set d B ++ zBk :: c :: X).set (σ.length + 1) Y = σ.set d B ++ zBk :: Y :: X := fun B c X Y => by rw [List.set_append_right _ _ (by simp)]; simp
      simp [-aappend, cut2s, cut2z, hl3, k0, k10, k12, k16]
      refine StA.of ((stroke_calls _ d l a4 c4 6 (hbA _ _) ha4 hl (by omega) (by omega)).mono ?_)
      rintro _ _ ⟨nc, a5, c5, rfl, hc0, hc1, ha5, rfl⟩
      rw [set_set hd]
      obtain ⟨nc, rfl⟩ : ∃ m : Nat, nc = m := ⟨nc.toNat, by omega⟩
      try simp [-aappend, hl3, k0, k10, k12, k16]
      refine ACode_loopT (Md5 l d σ hs ns H reals reads nc) (fun env _ => match tg env.t 85 with | .int _ i => nc - i.toNat | _ => 0) ⟨_, 0, .nils, [], dd, none, a5, c5, rfl, by simp [hl3], by simp [hl3, k0], by simp [hl3, k10], by simp [hl3, k12], by simp [hl3, k16], by simp [hl3], by simp [hl3], by omega, by simp, ha5, Acc.nil _ _ _, rfl, by simp⟩ ?_
      clear hl3 k0 k10 k12 k16 u' dd ha4 ha5
      rintro env _ ⟨u, i3, v, cs, g, o, a4, c4, rfl, hl2, g0, g10, g12, g16, g84, g85, hi3, rfl, ha4, hA, hcl, hcs⟩
      rcases Nat.lt_or_ge i3 nc with hlt | hge
      · have hlt' : (i3 : Int) < (nc : Int) := by omega
        have hx := w64 (n := (i3 : Int) + 1) (by omega) (by omega)
        simp [-aappend, hl2, g0, g10, g12, g16, g84, g85, hlt']
        have hlr : (intsA (reals.map fun (x : Nat) => (x : Int))).length = reals.length := by simp [intsA]
        have hrr : reals.length = reads.length := hR.len
        have hnl : 1 ≤ reals.length := by omega
        have hw1 := w64 (n := (reals.length : Int) - 1) (by omega) (by omega)
        have hw2 := w64 (n := (H.length : Int) - 1) (by omega) (by omega)
        have hw3 := w64 (n := (ns : Int) - 1) (by omega) (by omega)
        refine ACode_drawL [6, 12, 17, 20, 22] [(0, 1), (0, 2), (0, 3), (1, 1), (1, 2), (1, 3), (7, 0), (8, 0), (9, 0), (10, 0), (11, 0), (13, 0), (13, 1), (14, 0), (14, 1), (15, 0), (15, 1), (16, 0), (16, 1)] mixed (by kernel_rfl) (by kernel_rfl) ?_
        simp [-aappend, hl2, g0, g10, g12, g16, g84, g85, hlt', hcA, hlr, hw1]
        obtain ⟨x1, a5, c5, hr1, h10, h11, ha5⟩ := strokeX_calls (List.set σ d (bellObj l a4 c4) ++ zBk :: AObj.cells [AV.int IntKind.i64 hs, AV.int IntKind.i64 ns, AV.pl 1 (List.map rowsI H), AV.pl 1 (intsA reads), v] :: g) d l a4 c4 ((reals.length : Int) - 1) (hbA _ _) ha4 hl (by omega) (by omega)
        refine OuH_of hr1 ?_
        rw [set_set hd]
        simp [-aappend, hl2, g0, g10, g12, g16, g84, g85, hlt', hcA, hlr, hw2]
        obtain ⟨x2, a6, c6, hr2, h20, h21, ha6⟩ := strokeX_calls (List.set σ d (bellObj l a5 c5) ++ zBk :: AObj.cells [AV.int IntKind.i64 hs, AV.int IntKind.i64 ns, AV.pl 1 (List.map rowsI H), AV.pl 1 (intsA reads), v] :: g) d l a5 c5 ((H.length : Int) - 1) (hbA _ _) ha5 hl (by omega) (by omega)
        refine OuH_of hr2 ?_
        rw [set_set hd]
        simp [-aappend, hl2, g0, g10, g12, g16, g84, g85, hlt', hcA, hlr, hw3]
        obtain ⟨x3, a7, c7, hr3, h30, h31, ha7⟩ := strokeX_calls (List.set σ d (bellObj l a6 c6) ++ zBk :: AObj.cells [AV.int IntKind.i64 hs, AV.int IntKind.i64 ns, AV.pl 1 (List.map rowsI H), AV.pl 1 (intsA reads), v] :: g) d l a6 c6 ((ns : Int) - 1) (hbA _ _) ha6 hl (by omega) (by omega)
        refine OuH_of hr3 ?_
        rw [set_set hd]
        simp [-aappend, hl2, g0, g10, g12, g16, g84, g85, hlt', hcA]
        obtain ⟨v', g', jo, he, hB, hv'⟩ := appC (hA.base (σ' := List.set σ d (bellObj l a7 c7) ++ [zBk, AObj.cells [AV.int IntKind.i64 hs, AV.int IntKind.i64 ns, AV.pl 1 (List.map rowsI H), AV.pl 1 (intsA reads), v]]) (by simp)) ⟨x1, x2, x3⟩ (by omega)
        simp only [List.append_assoc, List.cons_append, List.nil_append, crAV] at he
        subst hv'
        simp [-aappend, hl2, g0, g10, g12, g16, g84, g85, hlt', hcA, hcS, he, hx]
        exact ⟨⟨hw2, hw3⟩, ⟨_, i3 + 1, _, cs ++ [⟨x1, x2, x3⟩], g', some jo, a7, c7, rfl, by simp [hl2], by simp [hl2, g0], by simp [hl2, g10], by simp [hl2, g12], by simp [hl2, g16], by simp [hl2, g84], by simp [hl2], hlt, by simp; rfl, ha7, by simpa using hB.base (σ' := σ ++ [zBk, zBk]) (by simp), by simp [hcl], fun x hx => by
          rcases List.mem_append.1 hx with hx | hx
          · exact hcs x hx
          · rw [List.mem_singleton.1 hx]
            refine ⟨⟨h10, ?_⟩, ⟨h20, ?_⟩, h30, ?_⟩ <;> dsimp only <;> omega⟩, by omega⟩
      · obtain rfl : i3 = nc := by omega
        have okb : Bk.Ok ⟨hs, ns, H, reads, cs⟩ := by
          have hrr : reals.length = reads.length := hR.len
          refine ⟨by dsimp only; omega, by dsimp only; omega, by dsimp only; omega, by dsimp only; omega, by dsimp only; omega, fun x hx => (hH x hx).1, fun x hx w hw => ?_, fun r hr => ?_, fun c hc => hcs c hc⟩
          · obtain ⟨h1, h2, h3⟩ := (hH x hx).2 w hw
            exact ⟨⟨h1, fun y hy => by have := h2 y hy; dsimp only; omega⟩, by omega⟩
          · obtain ⟨j, hj, he⟩ := List.mem_iff_getElem.1 hr
            have := hR.lt j (reals[j]'(by dsimp only at hj; omega)) (List.getElem?_eq_getElem _)
            obtain ⟨_, y, hy, h3⟩ := this
            rw [List.getElem?_eq_getElem hj] at hy
            obtain rfl := Option.some.inj hy
            rw [← he]
            rcases h3 with h3 | ⟨h3, _⟩
            · exact .inl h3
            · exact .inr h3
        have hbk : bkAV ⟨hs, ns, H, reads, cs⟩ = .agg [.int .i64 hs, .int .i64 ns, .pl 1 (H.map rowsI), .pl 1 (intsA reads), .pl 3 (cs.map crAV)] := rfl
        have hHz : ∀ (n : Nat) (T : Heap), Fz n T (.pl 1 (H.map rowsI)) (.pl 1 (H.map rowsI)) := fun n T => .pl 1 _ fun i x hx j y hy => by
          obtain ⟨z, _, rfl⟩ := List.mem_map.1 (List.mem_of_getElem? hx)
          cases j with
          | zero => simp [AV.cells, rowsI] at hy; subst hy; exact fz_rowsI _ _ _
          | succ j => simp [AV.cells, rowsI] at hy
        have hfin : ∀ (T : Heap), Fz σ.length T v (.pl 3 (cs.map crAV)) → Fz σ.length T (.tup [.agg [.int .i64 hs, .int .i64 ns, .pl 1 (H.map rowsI), .pl 1 (intsA reads), v], .pl 1 (intsA (reals.map fun (x : Nat) => (x : Int)))]) (.tup [bkAV ⟨hs, ns, H, reads, cs⟩, .pl 1 (intsA (reals.map fun (x : Nat) => (x : Int)))]) := fun T hz => by
          rw [hbk]
          refine .tup2 (Fz.agg_iff.2 ?_) (fz_rowI _ _ _)
          exact FzL.cons_iff.2 ⟨.int _ _, FzL.cons_iff.2 ⟨.int _ _, FzL.cons_iff.2 ⟨hHz _ _, FzL.cons_iff.2 ⟨fz_rowI _ _ _, FzL.cons_iff.2 ⟨hz, FzL.nil_iff.2 trivial⟩⟩⟩⟩⟩
        cases o with
        | none =>
          obtain ⟨rfl, hcs0⟩ := hA.val
          obtain rfl : cs = [] := by simpa using hcs0
          simp [-aappend, hl2, g0, g10, g12, g16, g84, g85, hcA, zBk]
          exact ⟨_, _, rfl, by simp, bell_hold hd, .tup [bkAV ⟨hs, ns, H, reads, []⟩, .pl 1 (intsA (reals.map fun (x : Nat) => (x : Int)))], by rw [List.length_set]; exact hfin _ (.nils_pl 3), ⟨hs, ns, H, reads, []⟩, reals, rfl, okb, hR.fits, by simp, by dsimp only; omega, by dsimp only; omega, by dsimp only; omega, by dsimp only; have := hR.len; omega, a4, ha4, c4, rfl⟩
        | some jo =>
          have hv0 : v = .arr 3 (σ.length + 2 + jo) 0 cs.length := by rw [hA.val.1]; simp
          subst hv0
          simp [-aappend, hl2, g0, g10, g12, g16, g84, g85, hcA, zBk]
          refine ⟨_, _, rfl, by simp, bell_hold hd, .tup [bkAV ⟨hs, ns, H, reads, cs⟩, .pl 1 (intsA (reals.map fun (x : Nat) => (x : Int)))], by
            rw [List.length_set]
            refine hfin _ ?_
            have hz := (hA.base (σ' := List.set σ d (bellObj l a4 c4) ++ [AObj.cells [AV.int IntKind.i64 hs, AV.int IntKind.i64 ns, AV.pl 1 (List.map rowsI H), AV.pl 1 (intsA reads), AV.arr 3 (List.length σ + 2 + jo) 0 cs.length], AObj.cells [AV.int IntKind.i64 hs, AV.int IntKind.i64 ns, AV.pl 1 (List.map rowsI H), AV.pl 1 (intsA reads), AV.arr 3 (List.length σ + 2 + jo) 0 cs.length]]) (by simp)).shift.fz (fun x hx y hy => by
              obtain ⟨z, _, rfl⟩ := List.mem_map.1 hx
              simp [AV.cells, crAV] at hy
              rcases hy with rfl | rfl | rfl <;> exact .int _ _)
            rw [List.length_set] at hz
            exact hz, ⟨hs, ns, H, reads, cs⟩, reals, rfl, okb, hR.fits, by dsimp only; omega, by dsimp only; omega, by dsimp only; omega, by dsimp only; omega, by dsimp only; have := hR.len; omega, a4, ha4, c4, rfl⟩
    · have hbA : ∀ (B : AObj) (X : Heap), (σ.set d B ++ X)[d]? = some B := fun B X => bell_at hd B
      simp [-aappend, cut2s, cut2z, hl3, k0, k4, k10, k12]
      refine StA.of ((stroke_calls _ d l a4 c4 7 (hbA _ _) ha4 hl (by omega) (by omega)).mono ?_)
      rintro _ _ ⟨w0, a5, c5, rfl, hw0, hw1, ha5, rfl⟩
      rw [set_set hd]
      try simp [-aappend, hl3, k0, k4, k10, k12]
      refine StA.of ((strikeZ_calls _ d l a5 c5 1 5 (hbA _ _) ha5 hl (by omega) (by omega) (by omega)).mono ?_)
      rintro _ _ ⟨nh, a6, c6, rfl, hn1, hn2, ha6, rfl⟩
      rw [set_set hd]
      obtain ⟨nh, rfl⟩ : ∃ m : Nat, nh = m := ⟨nh.toNat, by omega⟩
      try simp [-aappend, hl3, k0, k4, k10, k12]
      refine ACode_loopT (Md3 l d σ hs ns nh HE) (fun env _ => match tg env.t 58 with | .int _ i => nh - i.toNat | _ => 0) ⟨_, 0, w0, .nils, .nils, [], [], dd, none, none, a6, c6, rfl, by simp [hl3], by simp [hl3, k0], by simp [hl3, k10], by simp [hl3, k12], by simp [hl3], by simp [hl3], by simp [hl3], by simp [hl3], by omega, by simp, ha6, Acc.nil _ _ _, Acc.nil _ _ _, by simp, rfl, Rd.nil ⟨hw0, hw1⟩⟩ ?_
      clear hl3 k0 k4 k10 k12 u' dd ha4 ha5 ha6 hw0 hw1
      rintro env _ ⟨u, i, w, v1, v2, reals, reads, g, o1, o2, a4, c4, rfl, hl2, g0, g10, g12, g15, g16, g57, g58, hi2, rfl, ha4, hA1, hA2, hoo, hrl, hR⟩
      have hcA : ∀ (B c : AObj) (X : Heap), (σ.set d B ++ zBk :: c :: X)[σ.length + 1]? = some c := fun B c X => by rw [List.getElem?_append_right (by simp)]; simp
      have hcS : ∀ (B c : AObj) (X : Heap) (Y : AObj), (σ.set d B ++ zBk :: c :: X).set (σ.length + 1) Y = σ.set d B ++ zBk :: Y :: X := fun B c X Y => by rw [List.set_append_right _ _ (by simp)]; simp
      rcases Nat.lt_or_ge i nh with hlt | hge
      · have hlt' : (i : Int) < (nh : Int) := by omega
        have hx := w64 (n := (i : Int) + 1) (by omega) (by omega)
        have hwr := hR.w
        try simp [-aappend, hl2, g0, g10, g12, g15, g16, g57, g58, hlt']
        refine StA.of ((strikeZ_calls _ d l a4 c4 (-1) 1 (hbA _ _) ha4 hl (by omega) (by omega) (by omega)).mono ?_)
        rintro _ _ ⟨d1, a5, c5, rfl, hd1, hd2, ha5, rfl⟩
        rw [set_set hd]
        have hxw := w64 (n := w + d1) (by omega) (by omega)
        try simp [-aappend, hl2, g0, g10, g12, g15, g16, g57, g58, hlt', hxw]
        refine (wind_calls (w + d1) (by omega) (by omega)).use ?_
        have hwm : 0 ≤ (w + d1) % 8 ∧ (w + d1) % 8 ≤ 7 := by omega
        try simp [-aappend, hl2, g0, g10, g12, g15, g16, g57, g58, hlt']
        refine StA.of ((strikeZ_calls _ d l a5 c5 (-1) 1 (hbA _ _) ha5 hl (by omega) (by omega) (by omega)).mono ?_)
        rintro _ _ ⟨d2, a6, c6, rfl, hd3, hd4, ha6, rfl⟩
        rw [set_set hd]
        obtain ⟨w', hw'⟩ : ∃ w', (w + d1) % 8 = w' := ⟨_, rfl⟩
        have hRs := fun b => hR.snoc (d := d1) (by omega) (e := d2) (by omega) b
        rw [hw'] at hwm hRs ⊢
        have hxw2 := w64 (n := w' + d2) (by omega) (by omega)
        try simp [-aappend, hl2, g0, g10, g12, g15, g16, g57, g58, hlt', hxw2]
        refine (wind_calls (w' + d2) (by omega) (by omega)).use ?_
        try simp [-aappend, hl2, g0, g10, g12, g15, g16, g57, g58, hlt']
        refine StA.of ((seldom_calls _ d l a6 c6 3 (hbA _ _) ha6 hl (by omega) (by omega)).mono ?_)
        rintro _ _ ⟨b, a7, c7, rfl, ha7, rfl⟩
        rw [set_set hd]
        have hRb := hRs b
        obtain ⟨pt, hpt⟩ : ∃ pt, (if b then (-1 : Int) else (w' + d2) % 8) = pt := ⟨_, rfl⟩
        rw [hpt] at hRb
        have hw'n : ((w'.toNat : Nat) : Int) = w' := by omega
        cases b with
        | true =>
          obtain rfl : -1 = pt := by simpa using hpt
          try simp [-aappend, hl2, g0, g10, g12, g15, g16, g57, g58, hlt']
          refine ACode_drawL [3, 8, 11] [(4, 0), (5, 0), (6, 0)] mixed (by kernel_rfl) (by kernel_rfl) ?_
          simp [-aappend, hl2, g0, g10, g12, g15, g16, g57, g58, hlt', hcA]
          have hAr1 := hA1.base (σ' := List.set σ d (bellObj l a7 c7) ++ [zBk, AObj.cells [AV.int IntKind.i64 hs, AV.int IntKind.i64 ns, HE, v2, AV.nils]]) (by simp)
          have hAr2 := hA2.base (σ' := List.set σ d (bellObj l a7 c7) ++ [zBk, AObj.cells [AV.int IntKind.i64 hs, AV.int IntKind.i64 ns, HE, v2, AV.nils]]) (by simp)
          obtain ⟨v1', gg1, j1, he1, hB1, hv1', hk1, ho1⟩ := appI hAr1 w' (by simp; omega)
          have hAr3 := hAr2.kept hk1 hoo
          obtain ⟨v2', gg2, j2, he2, hB2, hv2', hk2, ho2⟩ := appI hAr3 (-1) (by rw [← hR.len, hrl]; omega)
          have ho2l : ∀ j, o2 = some j → j < g.length := fun j e => by
            have := hA2.val
            rw [e] at this
            exact (List.getElem?_eq_some_iff.1 this.2).1
          have hj1l : j1 < gg1.length := (List.getElem?_eq_some_iff.1 hB1.val.2).1
          have hn12 : ∀ j, o2 = some j → some j1 ≠ some j := fun j e => by
            rcases ho1 with h1 | h1
            · rw [h1]; exact fun e2 => hoo j e2 e
            · have := ho2l j e; simp; omega
          have hB3 := hB1.kept hk2 hn12
          have hj12 : j1 ≠ j2 := by
            rcases ho2 with h1 | h1
            · have := hn12 j2 h1.symm; simpa using this
            · omega
          simp only [List.append_assoc, List.cons_append, List.nil_append] at he1 he2
          subst hv1'
          subst hv2'
          simp [-aappend, hl2, g0, g10, g12, g15, g16, g57, g58, hlt', hcA, hcS, he1, he2, hx]
          refine ⟨⟨_, i + 1, w', _, _, reals ++ [w'.toNat], reads ++ [-1], gg2, some j1, some j2, a7, c7, rfl, by simp [hl2], by simp [hl2, g0], by simp [hl2, g10], by simp [hl2, g12], by simp [hl2], by simp [hl2]; rfl, by simp [hl2, g57], by simp [hl2], hlt, by simp; rfl, ha7, ?_, ?_, fun j e => by simp at e ⊢; omega, by simp [hrl], hRb⟩, by omega⟩
          · rw [List.map_append]
            have := hB3.base (σ' := σ ++ [zBk, zBk]) (by simp)
            simpa [hw'n] using this
          · have := hB2.base (σ' := σ ++ [zBk, zBk]) (by simp)
            simpa using this
        | false =>
          obtain rfl : (w' + d2) % 8 = pt := by simpa using hpt
          simp [-aappend, hl2, g0, g10, g12, g15, g16, g57, g58, hlt']
          refine ACode_drawL [3, 8, 11] [(4, 0), (5, 0), (6, 0)] mixed (by kernel_rfl) (by kernel_rfl) ?_
          simp [-aappend, hl2, g0, g10, g12, g15, g16, g57, g58, hlt', hcA]
          have hAr1 := hA1.base (σ' := List.set σ d (bellObj l a7 c7) ++ [zBk, AObj.cells [AV.int IntKind.i64 hs, AV.int IntKind.i64 ns, HE, v2, AV.nils]]) (by simp)
          have hAr2 := hA2.base (σ' := List.set σ d (bellObj l a7 c7) ++ [zBk, AObj.cells [AV.int IntKind.i64 hs, AV.int IntKind.i64 ns, HE, v2, AV.nils]]) (by simp)
          obtain ⟨v1', gg1, j1, he1, hB1, hv1', hk1, ho1⟩ := appI hAr1 w' (by simp; omega)
          have hAr3 := hAr2.kept hk1 hoo
          obtain ⟨v2', gg2, j2, he2, hB2, hv2', hk2, ho2⟩ := appI hAr3 (((w' + d2) % 8)) (by rw [← hR.len, hrl]; omega)
          have ho2l : ∀ j, o2 = some j → j < g.length := fun j e => by
            have := hA2.val
            rw [e] at this
            exact (List.getElem?_eq_some_iff.1 this.2).1
          have hj1l : j1 < gg1.length := (List.getElem?_eq_some_iff.1 hB1.val.2).1
          have hn12 : ∀ j, o2 = some j → some j1 ≠ some j := fun j e => by
            rcases ho1 with h1 | h1
            · rw [h1]; exact fun e2 => hoo j e2 e
            · have := ho2l j e; simp; omega
          have hB3 := hB1.kept hk2 hn12
          have hj12 : j1 ≠ j2 := by
            rcases ho2 with h1 | h1
            · have := hn12 j2 h1.symm; simpa using this
            · omega
          simp only [List.append_assoc, List.cons_append, List.nil_append] at he1 he2
          subst hv1'
          subst hv2'
          simp [-aappend, hl2, g0, g10, g12, g15, g16, g57, g58, hlt', hcA, hcS, he1, he2, hx]
          refine ⟨⟨_, i + 1, w', _, _, reals ++ [w'.toNat], reads ++ [((w' + d2) % 8)], gg2, some j1, some j2, a7, c7, rfl, by simp [hl2], by simp [hl2, g0], by simp [hl2, g10], by simp [hl2, g12], by simp [hl2], by simp [hl2]; rfl, by simp [hl2, g57], by simp [hl2], hlt, by simp; rfl, ha7, ?_, ?_, fun j e => by simp at e ⊢; omega, by simp [hrl], hRb⟩, by omega⟩
          · rw [List.map_append]
            have := hB3.base (σ' := σ ++ [zBk, zBk]) (by simp)
            simpa [hw'n] using this
          · have := hB2.base (σ' := σ ++ [zBk, zBk]) (by simp)
            simpa using this
      · obtain rfl : i = nh := by omega
        simp [-aappend, hl2, g0, g10, g12, g15, g16, g57, g58]
        exact ⟨i, by omega, rfl, _, i, w, v1, v2, reals, reads, g, o1, o2, a4, c4, rfl, by simp [hl2], by simp [hl2, g0], by simp [hl2, g10], by simp [hl2, g12], by simp [hl2, g15], by simp [hl2, g16], by simp [hl2, g57], by simp [hl2, g58], by omega, by simp, ha4, hA1, hA2, hoo, hrl, hR⟩
end Ab
