/-
  COPIES JOINED, SETTLED: the program's functions, exactly.
  COPIES JOINED, SETTLED: the walks of both.
  COPIES SETTLED: the walk.
  COPIES: what is looked at (long, great), records as the reference's, lists copied, choices compared: the law's own functions.
  CHANGES: the law's own functions on them.
  COPIES SETTLED, the choices being a slice of the caller's own.
  COPIES: a file of the call's own, read as what it holds, and its words cleared; the reference's join and what Join and Settle give.
-/
import Derived.Test.YtdifgaapdnbliaaGreatDoorN10
import Derived.Test.YtdifgaapdnbliaaGreatDoorN29
import Derived.Test.YtdifgaapdnbliaaGreatDoorN21
import Derived.Test.YtdifgaapdnbliaaGreatDoorN25
set_option linter.unusedSimpArgs false
set_option linter.unusedVariables false
set_option linter.unusedSectionVars false
namespace Ab
open Go Go.RowKit Go.Proofs
attribute [local irreducible] aws awp aw1 Og Om Oc Oa Ogd Ov Ot awd aw1d awh aw1h Ogh Ohd awl Ogl Ohl awv Ogv Ohv QThen QBlock QFn QFnM QRo QBe ACode AYield
/-- the first file's error that has one -/
def chk3 (a b c : List Oyez.Rec) : Int := if Oyez.check a ≠ 0 then Oyez.check a else if Oyez.check b ≠ 0 then Oyez.check b else Oyez.check c
/-- the objects ahead of round i of checked -/
def ckH (n : Nat) (a b c : List Oyez.Rec) : Nat → Heap
  | 0 => []
  | 1 => deskG n a ++ [.cells [.ptr n 0], .cells [.ptr n 0]]
  | 2 => deskG n a ++ [.cells [.ptr n 0], .dead] ++ deskG (n + 4) b ++ [.cells [.ptr (n + 4) 0], .cells [.ptr n 0, .ptr (n + 4) 0]]
  | _ => deskG n a ++ [.cells [.ptr n 0], .dead] ++ deskG (n + 4) b ++ [.cells [.ptr (n + 4) 0], .dead] ++ deskG (n + 8) c ++ [.cells [.ptr (n + 8) 0], .cells [.ptr n 0, .ptr (n + 4) 0, .ptr (n + 8) 0]]
def ckV (n : Nat) : Nat → AV
  | 0 => .nils
  | 1 => .arr 1 (n + 3) 0 1
  | 2 => .arr 1 (n + 7) 0 2
  | _ => .arr 1 (n + 11) 0 3
end Ab
namespace Ab
open Go Go.RowKit Go.Proofs
attribute [local irreducible] aws awp aw1 Og Om Oc Oa Ogd Ov Ot awd aw1d awh aw1h Ogh Ohd awl Ogl Ohl awv Ogv Ohv QThen QBlock QFn QFnM QRo QBe ACode AYield
theorem aw1d_makeFunc {P : Program} {dst : Option Tmp} {ty : TypeId} {pos : String} {after : Array Edge} {g : Option (Nat × Bool)} {f : Fn} {xs ys : Array Operand} {Kv : AV → Prop} {env : Env} {σ : Heap} :
    aw1d P ⟨dst, .makeFunc f xs ys, ty, pos, after, g⟩ Kv env σ = Kv (.fn f (xs.toList.map (aval env.t)) (ys.toList.map (aval env.t))) := by
  have h : aw1d P ⟨dst, .makeFunc f xs ys, ty, pos, after, g⟩ Kv env σ = aw1 P ⟨dst, .makeFunc f xs ys, ty, pos, after, g⟩ (fun v s => s = σ ∧ Kv v) env σ := aw1d_no rfl rfl
  rw [h, aw1_makeFunc]
  simp
attribute [simp] aw1d_makeFunc
/-- what Join gives -/
def joinR (a b c : List Oyez.Rec) : List Oyez.Rec × List Oyez.Place × Int :=
  if chk3 a b c ≠ 0 then ([], [], chk3 a b c) else if 40 < (Oyez.join a b c []).out.length then ([], [], 2) else ((Oyez.join a b c []).out, (Oyez.join a b c []).conf.map Oyez.Chg.place, 0)
end Ab
namespace Ab
open Go Go.RowKit Go.Proofs
attribute [local irreducible] aws awp aw1 Og Om Oc Oa Ogd Ov Ot awd aw1d awh aw1h Ogh Ohd awl Ogl Ohl awv Ogv Ohv QThen QBlock QFn QFnM QRo QBe ACode AYield
/-- what Settle gives -/
def settleR (a b c : List Oyez.Rec) (sec : List Bool) : List Oyez.Rec × Int :=
  if chk3 a b c ≠ 0 then ([], chk3 a b c) else if (Oyez.join a b c []).conf.length ≠ sec.length then ([], 2) else if 40 < (Oyez.join a b c sec).out.length then ([], 2) else ((Oyez.join a b c sec).out, 0)
end Ab
namespace Ab
open Go Go.RowKit Go.Proofs
attribute [local irreducible] aws awp aw1 Og Om Oc Oa Ogd Ov Ot awd aw1d awh aw1h Ogh Ohd awl Ogl Ohl awv Ogv Ohv QThen QBlock QFn QFnM QRo QBe ACode AYield
/-- words that are more than what is looked at -/
def longB (ws : List (List UInt8)) : Bool := ws.any (fun w => decide (90 < w.length)) || decide (10 < ws.length)
/-- records that are -/
def greatB (f : List Oyez.Rec) : Bool := f.any (fun r => longB r.words) || decide (60 < f.length)
/-- choices -/
def boolsAV (l : List Bool) : AV := .pl 1 (l.map AV.bool)
attribute [simp] boolsAV
theorem sum_const {α : Type} (l : List α) (k : Nat) (f : α → Nat) (h : ∀ a, f a = k) : (l.map f).sum = l.length * k := by
  induction l with
  | nil => simp
  | cons a t ih => rw [List.map_cons, List.sum_cons, ih, h, List.length_cons, Nat.add_mul]; omega
theorem fz_row {σ g : Heap} {k : Nat} (xs : List AV) (h : ∀ x ∈ xs, x.cells.length = k ∧ ∀ y ∈ x.cells, y.one = true) (hf : ∀ (n : Nat) (τ : Heap), ∀ x ∈ xs, ∀ y ∈ x.cells, Fz n τ y y) : Fz σ.length (σ ++ .cells (xs.flatMap AV.cells) :: g) (.arr k σ.length 0 xs.length) (.pl k xs) :=
  Acc.fz (o := some 0) ⟨h, rfl, rfl⟩ (hf _ _)
/-- the cells of records -/
def cellsR (f : List Oyez.Rec) : List AV := f.flatMap recCells
theorem cellsR_map (f : List Oyez.Rec) : (f.map recAV).flatMap AV.cells = cellsR f := by unfold cellsR; rw [List.flatMap_map]; rfl
theorem cellsR_len (f : List Oyez.Rec) : (cellsR f).length = f.length * 3 := by
  unfold cellsR
  induction f with
  | nil => rfl
  | cons p t ih => rw [List.flatMap_cons, List.length_append, ih]; simp [recCells]; omega
theorem cellsR_at (f : List Oyez.Rec) {i j : Nat} (h : i < f.length) (hj : j < 3) : (cellsR f)[i * 3 + j]? = (recCells f[i])[j]? := by rw [← cellsR_map]; exact flat_rec f i j h hj
theorem cellsR_sub (f : List Oyez.Rec) {i : Nat} (h : i < f.length) : List.take 3 (List.drop (i * 3) (cellsR f)) = [.int .i64 f[i].kind, .int .i64 f[i].number, wordsAV f[i].words] := by
  apply List.ext_getElem?
  intro j
  rcases Nat.lt_or_ge j 3 with hj | hj
  · rw [List.getElem?_take_of_lt hj, List.getElem?_drop, cellsR_at f h hj]
    rfl
  · rw [List.getElem?_eq_none (by simp; omega), List.getElem?_eq_none (by simpa using hj)]
theorem cellsR_put (f : List Oyez.Rec) {i : Nat} (h : i < f.length) : List.take (i * 3 + 2) (cellsR f) ++ wordsAV f[i].words :: List.drop (i * 3 + 3) (cellsR f) = cellsR f := by
  have hl := cellsR_len f
  have h1 := cellsR_at f h (show 2 < 3 by omega)
  have hlt : i * 3 + 2 < (cellsR f).length := by omega
  rw [List.getElem?_eq_getElem hlt] at h1
  have h2 : (cellsR f)[i * 3 + 2] = wordsAV f[i].words := by simpa [recCells] using h1
  rw [← h2, ← List.drop_eq_getElem_cons hlt, List.take_append_drop]
theorem copyS_calls (l : List (List UInt8)) (hl : l.length ≤ 2 ^ 30) : APure Tryz.prog 78 [wordsAV l] (wordsAV l) := by
  refine APure.of fun σ => ?_
  refine acalls_fn Tryz.func78 rfl (enters_fn Tryz.func78 (by decide) rfl) ?_
  have h1 : (l.length : Int) * 16 ≤ 281474976710656 := by omega
  have h2 : (l.length : Int) ≤ 9223372036854775807 := by omega
  simp [Tryz.ntmps78, h1, h2]
  rw [sum_const l 1]
  case h => exact fun _ => rfl
  rw [Nat.mul_one, Nat.sub_self, List.replicate_zero, List.append_nil]
  have := fz_row (σ := σ) (g := []) (k := 1) (l.map AV.str) (fun x hx => by obtain ⟨b, _, rfl⟩ := List.mem_map.1 hx; exact ⟨rfl, by simp [AV.cells, AV.one]⟩) (fun n τ x hx y hy => by
    obtain ⟨b, _, rfl⟩ := List.mem_map.1 hx
    simp [AV.cells] at hy; subst hy; exact .str _)
  rwa [List.length_map] at this
theorem copyR_calls (f : List Oyez.Rec) (hl : f.length ≤ 2 ^ 30) (σ : Heap) : ACalls Tryz.prog 97 [fileAV f] σ fun v σ' => v = .arr 3 σ.length 0 f.length ∧ σ' = σ ++ [.cells (cellsR f)] := by
  refine acalls_fn Tryz.func97 rfl (enters_fn Tryz.func97 (by decide) rfl) ?_
  have h1 : (f.length : Int) * 40 ≤ 281474976710656 := by omega
  have h2 : (f.length : Int) ≤ 9223372036854775807 := by omega
  simp [Tryz.ntmps97, h1, h2]
  rw [sum_const f 3]
  case h => exact fun _ => rfl
  rw [List.drop_eq_nil_of_le (by simp), List.append_nil]
  exact cellsR_map f
set_option maxHeartbeats 2000000 in
theorem own_calls (f : List Oyez.Rec) (hl : f.length ≤ 2 ^ 30) (hw : ∀ r ∈ f, r.words.length ≤ 2 ^ 30) : APure Tryz.prog 28 [fileAV f] (fileAV f) := by
  refine APure.of fun σ => ?_
  refine acalls_fn Tryz.func28 rfl (enters_fn Tryz.func28 (by decide) rfl) ?_
  simp [Tryz.ntmps28]
  refine StA.of ((copyR_calls f hl σ).mono ?_)
  rintro _ _ ⟨rfl, rfl⟩
  simp
  refine ACode_loopT (fun env σ' => ∃ (u : List AV) (i : Nat) (g : Heap), env = { t := u } ∧ u.length = 24 ∧ tg u 3 = .arr 3 σ.length 0 f.length ∧ tg u 8 = .arr 3 σ.length 0 f.length ∧ tg u 9 = .int .i64 f.length ∧ tg u 10 = .int .i64 i ∧ σ' = σ ++ .cells (cellsR f) :: g ∧ i ≤ f.length)
    (fun env _ => match tg env.t 10 with | .int _ i => f.length - i.toNat | _ => 0) ⟨_, 0, [], rfl, by simp, by simp, by simp, by simp, by simp, by simp, by omega⟩ ?_
  rintro env σ' ⟨u, i, g, rfl, hl', g3, g8, g9, g10, rfl, hi⟩
  rcases Nat.lt_or_ge i f.length with hlt | hge
  · have hlt' : (i : Int) < (f.length : Int) := by omega
    have hx := w64 (n := (i : Int) + 1) (by omega) (by omega)
    have hlen := cellsR_len f
    have hs := cellsR_sub f hlt
    have hput := cellsR_put f hlt
    have hb : i * 3 + 3 ≤ f.length * 3 := by omega
    simp [hl', g3, g8, g9, g10, hlt', hlt, hlen, hs, hb]
    refine (copyS_calls f[i].words (hw _ (List.getElem_mem hlt))).use ?_
    simp [hl', g3, g8, g9, g10, hlt', hlt, hlen, hs, hb, hx]
    exact ⟨⟨i + 1, by simp, hput, by omega⟩, by omega⟩
  · have hge' : ¬ (i : Int) < (f.length : Int) := by omega
    have hA : Acc σ (.cells (cellsR f) :: g) 3 (.arr 3 σ.length 0 f.length) (f.map recAV) (some 0) := ⟨fun x hx => by
      obtain ⟨r, _, rfl⟩ := List.mem_map.1 hx
      exact ⟨rfl, by simp [AV.cells, AV.one]⟩, by simp, by rw [cellsR_map]; rfl⟩
    have hz := hA.fz (fz_recs _ _ _)
    simpa [hl', g3, g8, g9, g10, hge'] using hz
end Ab
namespace Ab
open Go Go.RowKit Go.Proofs
attribute [local irreducible] aws awp aw1 Og Om Oc Oa Ogd Ov Ot awd aw1d awh aw1h Ogh Ohd awl Ogl Ohl awv Ogv Ohv QThen QBlock QFn QFnM QRo QBe ACode AYield
/-- changes that are more than what is looked at -/
def manyB (l : List Oyez.Chg) : Bool := l.any (fun c => longB c.old || longB c.new) || decide (90 < l.length)
theorem chg_ext {r q : Oyez.Chg} (h1 : r.kind = q.kind) (h2 : r.number = q.number) (h3 : r.had = q.had) (h4 : r.has = q.has) (h5 : r.old = q.old) (h6 : r.new = q.new) : r = q := by
  cases r; cases q; simp_all
set_option maxHeartbeats 8000000 in
theorem calike_calls (a b : List Oyez.Chg) (ha : a.length ≤ 2 ^ 40) (hw : ∀ c ∈ a, c.old.length ≤ 2 ^ 40 ∧ c.new.length ≤ 2 ^ 40) : APure Tryz.prog 42 [chgsAV a, chgsAV b] (.bool (decide (a = b))) := by
  refine APure.of fun σ => ?_
  refine acalls_fn Tryz.func42 rfl (enters_fn Tryz.func42 (by decide) rfl) ?_
  by_cases hab : a.length = b.length
  · obtain ⟨n, hn⟩ : ∃ n, b.length = n := ⟨_, rfl⟩
    have han : a.length = n := hab.trans hn
    simp [Tryz.ntmps42, han, hn]
    refine ACode_loopT (fun env σ' => ∃ (u : List AV) (i : Nat) (g : Heap), env = { t := u } ∧ u.length = 67 ∧ tg u 0 = chgsAV a ∧ tg u 1 = chgsAV b ∧ tg u 13 = chgsAV a ∧ tg u 14 = .int .i64 n ∧ tg u 15 = .int .i64 i ∧ σ' = σ ++ g ∧ i ≤ n ∧ a.take i = b.take i)
      (fun env _ => match tg env.t 15 with | .int _ i => n - i.toNat | _ => 0) ⟨_, 0, [], rfl, by simp, by simp, by simp, by simp, by simp, by simp, by simp, by omega, by simp⟩ ?_
    rintro env σ' ⟨u, i, g, rfl, hl, g0, g1, g13, g14, g15, rfl, hi, hd⟩
    rcases Nat.lt_or_ge i n with hlt | hge
    · have hlt' : (i : Int) < (n : Int) := by omega
      have hx := w64 (n := (i : Int) + 1) (by omega) (by omega)
      have hia : i < a.length := by omega
      have hib : i < b.length := by omega
      have hwi := hw _ (List.getElem_mem hia)
      have hne : ¬ a[i] = b[i] → ¬ a = b := fun he h => he (by subst h; rfl)
      by_cases hk : a[i].kind = b[i].kind
      case neg =>
        have hne' := hne fun h => hk (by rw [h])
        simp [hl, g0, g1, g13, g14, g15, hlt', han, hn, hlt, hk, hne']
      by_cases hm : a[i].number = b[i].number
      case neg =>
        have hne' := hne fun h => hm (by rw [h])
        simp [hl, g0, g1, g13, g14, g15, hlt', han, hn, hlt, hk, hm, hne']
      by_cases h3 : a[i].had = b[i].had
      case neg =>
        have hne' := hne fun h => h3 (by rw [h])
        have hbb : (a[i].had != b[i].had) = true := by simpa using h3
        simp [hbb, hl, g0, g1, g13, g14, g15, hlt', han, hn, hlt, hk, hm, h3, hne']
      by_cases h4 : a[i].has = b[i].has
      case neg =>
        have hne' := hne fun h => h4 (by rw [h])
        have hbb : (a[i].has != b[i].has) = true := by simpa using h4
        simp [hbb, hl, g0, g1, g13, g14, g15, hlt', han, hn, hlt, hk, hm, h3, h4, hne']
      simp [Nat.add_assoc, hl, g0, g1, g13, g14, g15, hlt', han, hn, hlt, hk, hm, h3, h4]
      refine (like_calls _ _ hwi.1).use ?_
      by_cases h5 : a[i].old = b[i].old
      case neg =>
        have hne' := hne fun h => h5 (by rw [h])
        simp [Nat.add_assoc, hl, g0, g1, g13, g14, g15, hlt', han, hn, hlt, hk, hm, h3, h4, h5, hne']
      simp [Nat.add_assoc, hl, g0, g1, g13, g14, g15, hlt', han, hn, hlt, hk, hm, h3, h4, h5]
      refine (like_calls _ _ hwi.2).use ?_
      by_cases h6 : a[i].new = b[i].new
      case neg =>
        have hne' := hne fun h => h6 (by rw [h])
        simp [Nat.add_assoc, hl, g0, g1, g13, g14, g15, hlt', han, hn, hlt, hk, hm, h3, h4, h5, h6, hne']
      have he := chg_ext hk hm h3 h4 h5 h6
      simp [Nat.add_assoc, hl, g0, g1, g13, g14, g15, hlt', han, hn, hlt, hk, hm, h3, h4, h5, h6, hx]
      refine ⟨⟨i + 1, by simp, hlt, ?_⟩, by omega⟩
      rw [List.take_succ_eq_append_getElem hia, List.take_succ_eq_append_getElem hib, hd, he]
    · have hge' : ¬ (i : Int) < (n : Int) := by omega
      have hE : a = b := by
        rw [List.take_of_length_le (by omega), List.take_of_length_le (by omega)] at hd
        exact hd
      simp [hl, g0, g1, g13, g14, g15, hge', hE]
  · have hne : ¬ a = b := fun h => hab (by rw [h])
    have hab' : ¬ (a.length : Int) = (b.length : Int) := by omega
    simp [Tryz.ntmps42, hab', hne, hab]
end Ab
namespace Ab
open Go Go.RowKit Go.Proofs
attribute [local irreducible] aws awp aw1 Og Om Oc Oa Ogd Ov Ot awd aw1d awh aw1h Ogh Ohd awl Ogl Ohl awv Ogv Ohv QThen QBlock QFn QFnM QRo QBe ACode AYield
end Ab
namespace Ab
open Go Go.RowKit Go.Proofs
/-- a file of the call's own, as it lies; each list of words is as X says -/
structure OwnIn (X : List (List UInt8) → List AV → Prop) (τ : Heap) (lo : Nat) (f : List Oyez.Rec) (v : AV) : Prop where
  row : (f = [] ∧ v = .nils) ∨ (f ≠ [] ∧ v = .arr 3 lo 0 f.length ∧ ∃ cs, τ[lo]? = some (.cells cs) ∧ cs.length = f.length * 3 ∧
    ∀ (i : Nat) (r : Oyez.Rec), f[i]? = some r → ∃ w, List.take 3 (List.drop (i * 3) cs) = [.int .i64 r.kind, .int .i64 r.number, w] ∧
      ((r.words = [] ∧ w = .pl 1 []) ∨ ∃ (q : Nat) (xs : List AV), lo < q ∧ q < lo + 1 + (wne f).length ∧ w = .arr 1 q 0 r.words.length ∧ τ[q]? = some (.cells xs) ∧ X r.words xs))
theorem OwnIn.many {τ : Heap} {lo : Nat} {f : List Oyez.Rec} {v : AV} (h : OwnIn asIs τ lo f v) : OwnIn asMany τ lo f v := by
  refine ⟨?_⟩
  rcases h.row with h | ⟨h1, h2, cs, h3, h4, h5⟩
  · exact .inl h
  · refine .inr ⟨h1, h2, cs, h3, h4, fun i r hr => ?_⟩
    obtain ⟨w, g1, g2⟩ := h5 i r hr
    refine ⟨w, g1, ?_⟩
    rcases g2 with g2 | ⟨q, xs, a1, a2, a3, a4, a5⟩
    · exact .inl g2
    · exact .inr ⟨q, xs, a1, a2, a3, a4, by rw [asMany, show xs = strs r.words from a5]; simp [strs]⟩
/-- what is lent is the file -/
theorem OwnIn.fz {τ : Heap} {lo : Nat} {f : List Oyez.Rec} {v : AV} (h : OwnIn asIs τ lo f v) : Fz 0 τ v (fileAV f) := by
  rcases h.row with ⟨rfl, rfl⟩ | ⟨h1, rfl, cs, h3, h4, h5⟩
  · exact .nils_pl 3
  · have hl : f.length = (f.map recAV).length := by simp
    rw [hl]
    have hcell : ∀ (i : Nat) (r : Oyez.Rec), f[i]? = some r → ∃ w, (∀ j, j < 3 → cs[i * 3 + j]? = [AV.int .i64 r.kind, .int .i64 r.number, w][j]?) ∧ Fz 0 τ w (wordsAV r.words) := by
      intro i r hr
      obtain ⟨w, g1, g2⟩ := h5 i r hr
      refine ⟨w, fun j hj => ?_, ?_⟩
      · rw [← g1, List.getElem?_take_of_lt hj, List.getElem?_drop]
      · rcases g2 with ⟨g2, rfl⟩ | ⟨q, xs, a1, a2, rfl, a4, a5⟩
        · rw [g2]; exact .pl0 1 1
        · rw [show xs = strs r.words from a5] at a4
          exact fz_strs0 _ a4
    refine Fz.arr 3 lo 0 cs (f.map recAV) (fun i j => (cs[i * 3 + j]?).getD .any) (Nat.zero_le _) h3 (fun i x hx => ?_) (fun i x hx j y hy => ?_)
    · rw [List.getElem?_map, Option.map_eq_some_iff] at hx
      obtain ⟨r, hr, rfl⟩ := hx
      obtain ⟨w, g1, g2⟩ := hcell i r hr
      refine ⟨rfl, fun j y hy => ?_⟩
      have hj : j < 3 := (List.getElem?_eq_some_iff.1 hy).1
      refine ⟨?_, ?_⟩
      · match j, hj, hy with
        | 0, _, hy => simp [AV.cells] at hy; subst hy; rfl
        | 1, _, hy => simp [AV.cells] at hy; subst hy; rfl
        | 2, _, hy => simp [AV.cells] at hy; subst hy; rfl
      · have := g1 j hj
        rw [Nat.zero_add, this]
        match j, hj with
        | 0, _ => rfl
        | 1, _ => rfl
        | 2, _ => rfl
    · rw [List.getElem?_map, Option.map_eq_some_iff] at hx
      obtain ⟨r, hr, rfl⟩ := hx
      obtain ⟨w, g1, g2⟩ := hcell i r hr
      have hj : j < 3 := (List.getElem?_eq_some_iff.1 hy).1
      rw [g1 j hj]
      match j, hj, hy with
      | 0, _, hy => simp [AV.cells] at hy; subst hy; exact .int _ _
      | 1, _, hy => simp [AV.cells] at hy; subst hy; exact .int _ _
      | 2, _, hy => simp [AV.cells] at hy; subst hy; exact g2
/-- objects between two numbers have other values in as many cells; the others are as they were -/
structure Keep (lo hi : Nat) (τ τ' : Heap) : Prop where
  out : ∀ r, r < τ.length → ¬ (lo < r ∧ r < hi) → τ'[r]? = τ[r]?
  cells : ∀ (r : Nat) (cs : List AV), τ[r]? = some (.cells cs) → ∃ cs', τ'[r]? = some (.cells cs') ∧ cs'.length = cs.length
  len : τ.length ≤ τ'.length
theorem Keep.refl (lo hi : Nat) (τ : Heap) : Keep lo hi τ τ := ⟨fun _ _ _ => rfl, fun r cs h => ⟨cs, h, rfl⟩, Nat.le_refl _⟩
theorem Keep.app {lo hi : Nat} {τ τ' : Heap} (h : Keep lo hi τ τ') (g : Heap) : Keep lo hi τ (τ' ++ g) := by
  have hl := h.len
  refine ⟨fun r h1 h2 => ?_, fun r cs h1 => ?_, by rw [List.length_append]; omega⟩
  · rw [List.getElem?_append_left (by omega)]; exact h.out r h1 h2
  · obtain ⟨cs', h2, h3⟩ := h.cells r cs h1
    have := (List.getElem?_eq_some_iff.1 h2).1
    exact ⟨cs', by rw [List.getElem?_append_left this]; exact h2, h3⟩
theorem Keep.set {lo hi : Nat} {τ τ' : Heap} (h : Keep lo hi τ τ') {q : Nat} {cs cs' : List AV} (h1 : lo < q) (h2 : q < hi) (hq : τ'[q]? = some (.cells cs)) (hl : cs'.length = cs.length) : Keep lo hi τ (τ'.set q (.cells cs')) := by
  refine ⟨fun r g1 g2 => ?_, fun r ds g1 => ?_, by rw [List.length_set]; exact h.len⟩
  · rw [List.getElem?_set_ne (by omega)]; exact h.out r g1 g2
  · obtain ⟨ds', g2, g3⟩ := h.cells r ds g1
    by_cases e : q = r
    · subst e
      rw [hq] at g2
      obtain rfl : cs = ds' := by simpa using g2
      exact ⟨cs', List.getElem?_set_self (List.getElem?_eq_some_iff.1 hq).1, by omega⟩
    · exact ⟨ds', by rw [List.getElem?_set_ne e]; exact g2, g3⟩
/-- the file whose words are cleared -/
theorem Keep.own {lo hi : Nat} {τ τ' : Heap} (h : Keep lo hi τ τ') {f : List Oyez.Rec} {v : AV} (ho : OwnIn asMany τ lo f v) : OwnIn asMany τ' lo f v := by
  refine ⟨?_⟩
  rcases ho.row with h1 | ⟨h1, h2, cs, h3, h4, h5⟩
  · exact .inl h1
  · have hlo := (List.getElem?_eq_some_iff.1 h3).1
    refine .inr ⟨h1, h2, cs, by rw [h.out lo hlo (by omega)]; exact h3, h4, fun i r hr => ?_⟩
    obtain ⟨w, g1, g2⟩ := h5 i r hr
    refine ⟨w, g1, ?_⟩
    rcases g2 with g2 | ⟨q, xs, a1, a2, a3, a4, a5⟩
    · exact .inl g2
    · obtain ⟨xs', b1, b2⟩ := h.cells q xs a4
      exact .inr ⟨q, xs', a1, a2, a3, b1, b2.trans a5⟩
theorem OwnIn.more {X : List (List UInt8) → List AV → Prop} {τ : Heap} {lo : Nat} {f : List Oyez.Rec} {v : AV} (h : OwnIn X τ lo f v) (g : Heap) : OwnIn X (τ ++ g) lo f v := by
  refine ⟨?_⟩
  rcases h.row with h1 | ⟨h1, h2, cs, h3, h4, h5⟩
  · exact .inl h1
  · refine .inr ⟨h1, h2, cs, get_app h3, h4, fun i r hr => ?_⟩
    obtain ⟨w, g1, g2⟩ := h5 i r hr
    refine ⟨w, g1, ?_⟩
    rcases g2 with g2 | ⟨q, xs, a1, a2, a3, a4, a5⟩
    · exact .inl g2
    · exact .inr ⟨q, xs, a1, a2, a3, get_app a4, a5⟩
end Ab
namespace Oyez
end Oyez
