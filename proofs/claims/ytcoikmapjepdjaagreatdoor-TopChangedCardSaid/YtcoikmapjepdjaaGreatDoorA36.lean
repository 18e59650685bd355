/-
  COPIES JOINED, SETTLED: the program's functions, exactly.
  COPIES JOINED, SETTLED: the walks of both.
  COPIES SETTLED: the walk.
  DIFFERENCES AND CHANGES TAKEN BACK: the program's Diff and Back.
-/
import Derived.Test.YtcoikmapjepdjaaGreatDoorA23
import Derived.Test.YtcoikmapjepdjaaGreatDoorA29
import Derived.Test.YtcoikmapjepdjaaGreatDoorA31
import Derived.Test.YtcoikmapjepdjaaGreatDoorA35
set_option linter.unusedSimpArgs false
set_option linter.unusedVariables false
set_option linter.unusedSectionVars false
namespace Ab
open Go Go.RowKit Go.Proofs
attribute [local irreducible] aws awp aw1 Og Om Oc Oa Ogd Ov Ot awd aw1d awh aw1h Ogh Ohd awl Ogl Ohl awv Ogv Ohv QThen QBlock QFn QFnM QRo QBe ACode AYield
/-- the first file's error that has one -/
def chk3 (a b c : List Oyez.Rec) : Int := if Oyez.check a ≠ 0 then Oyez.check a else if Oyez.check b ≠ 0 then Oyez.check b else Oyez.check c
/-- the objects ahead of round i of checked -/
def ckH (n : Nat) (a b c : List Oyez.Rec) : Nat → Heap
  | 0 => []
  | 1 => deskG n a ++ [.cells [.ptr n 0], .cells [.ptr n 0]]
  | 2 => deskG n a ++ [.cells [.ptr n 0], .dead] ++ deskG (n + 4) b ++ [.cells [.ptr (n + 4) 0], .cells [.ptr n 0, .ptr (n + 4) 0]]
  | _ => deskG n a ++ [.cells [.ptr n 0], .dead] ++ deskG (n + 4) b ++ [.cells [.ptr (n + 4) 0], .dead] ++ deskG (n + 8) c ++ [.cells [.ptr (n + 8) 0], .cells [.ptr n 0, .ptr (n + 4) 0, .ptr (n + 8) 0]]
def ckV (n : Nat) : Nat → AV
  | 0 => .nils
  | 1 => .arr 1 (n + 3) 0 1
  | 2 => .arr 1 (n + 7) 0 2
  | _ => .arr 1 (n + 11) 0 3
end Ab
namespace Ab
open Go Go.RowKit Go.Proofs
attribute [local irreducible] aws awp aw1 Og Om Oc Oa Ogd Ov Ot awd aw1d awh aw1h Ogh Ohd awl Ogl Ohl awv Ogv Ohv QThen QBlock QFn QFnM QRo QBe ACode AYield
theorem aw1d_makeFunc {P : Program} {dst : Option Tmp} {ty : TypeId} {pos : String} {after : Array Edge} {g : Option (Nat × Bool)} {f : Fn} {xs ys : Array Operand} {Kv : AV → Prop} {env : Env} {σ : Heap} :
    aw1d P ⟨dst, .makeFunc f xs ys, ty, pos, after, g⟩ Kv env σ = Kv (.fn f (xs.toList.map (aval env.t)) (ys.toList.map (aval env.t))) := by
  have h : aw1d P ⟨dst, .makeFunc f xs ys, ty, pos, after, g⟩ Kv env σ = aw1 P ⟨dst, .makeFunc f xs ys, ty, pos, after, g⟩ (fun v s => s = σ ∧ Kv v) env σ := aw1d_no rfl rfl
  rw [h, aw1_makeFunc]
  simp
attribute [simp] aw1d_makeFunc
/-- what Join gives -/
def joinR (a b c : List Oyez.Rec) : List Oyez.Rec × List Oyez.Place × Int :=
  if chk3 a b c ≠ 0 then ([], [], chk3 a b c) else if 40 < (Oyez.join a b c []).out.length then ([], [], 2) else ((Oyez.join a b c []).out, (Oyez.join a b c []).conf.map Oyez.Chg.place, 0)
end Ab
namespace Ab
open Go Go.RowKit Go.Proofs
attribute [local irreducible] aws awp aw1 Og Om Oc Oa Ogd Ov Ot awd aw1d awh aw1h Ogh Ohd awl Ogl Ohl awv Ogv Ohv QThen QBlock QFn QFnM QRo QBe ACode AYield
/-- what Settle gives -/
def settleR (a b c : List Oyez.Rec) (sec : List Bool) : List Oyez.Rec × Int :=
  if chk3 a b c ≠ 0 then ([], chk3 a b c) else if (Oyez.join a b c []).conf.length ≠ sec.length then ([], 2) else if 40 < (Oyez.join a b c sec).out.length then ([], 2) else ((Oyez.join a b c sec).out, 0)
end Ab
namespace Ab
open Go Go.RowKit Go.Proofs
attribute [local irreducible] aws awp aw1 Og Om Oc Oa Ogd Ov Ot awd aw1d awh aw1h Ogh Ohd awl Ogl Ohl awv Ogv Ohv QThen QBlock QFn QFnM QRo QBe ACode AYield
/-- the first file's error that has one -/
def chk2 (a b : List Oyez.Rec) : Int := if Oyez.check a ≠ 0 then Oyez.check a else Oyez.check b
def ck2H (n : Nat) (a b : List Oyez.Rec) : Nat → Heap
  | 0 => []
  | 1 => deskG n a ++ [.cells [.ptr n 0], .cells [.ptr n 0]]
  | _ => deskG n a ++ [.cells [.ptr n 0], .dead] ++ deskG (n + 4) b ++ [.cells [.ptr (n + 4) 0], .cells [.ptr n 0, .ptr (n + 4) 0]]
def ck2V (n : Nat) : Nat → AV
  | 0 => .nils
  | 1 => .arr 1 (n + 3) 0 1
  | _ => .arr 1 (n + 7) 0 2
set_option maxHeartbeats 4000000 in
theorem checked2_calls {σ : Heap} {q : Nat} (a b : List Oyez.Rec) (hq : σ[q]? = some (.cells [fileAV a, fileAV b])) (ha : Few a) (hb : Few b) (hl : a.length ≤ 2 ^ 40 ∧ b.length ≤ 2 ^ 40) :
    ACalls Tryz.prog 89 [.arr 1 q 0 2] σ fun v σ' => (chk2 a b ≠ 0 ∧ v = .tup [.nils, .int .i64 (chk2 a b)] ∧ ∃ g, σ' = σ ++ g) ∨ (chk2 a b = 0 ∧ v = .tup [.arr 1 (σ.length + 7) 0 2, .int .i64 0] ∧ σ' = σ ++ ck2H σ.length a b 2) := by
  have hql := (List.getElem?_eq_some_iff.1 hq).1
  have hqa : ∀ g : Heap, (σ ++ g)[q]? = _ := fun g => get_app hq
  refine acalls_fn Tryz.func89 rfl (enters_fn Tryz.func89 (by decide) rfl) ?_
  simp [Tryz.ntmps89]
  refine ACode_loopT (fun env σ' => ∃ (u : List AV) (i : Nat), env = { t := u } ∧ u.length = 26 ∧ tg u 4 = ck2V σ.length i ∧ tg u 8 = .arr 1 q 0 2 ∧ tg u 9 = .int .i64 2 ∧ tg u 10 = .int .i64 i ∧ σ' = σ ++ ck2H σ.length a b i ∧ i ≤ 2 ∧ (0 < i → Oyez.check a = 0) ∧ (1 < i → Oyez.check b = 0))
    (fun env _ => match tg env.t 10 with | .int _ i => 2 - i.toNat | _ => 0) ⟨_, 0, rfl, by simp, by simp [ck2V], by simp, by simp, by simp, by simp [ck2H], by omega, by omega, by omega⟩ ?_
  rintro env _ ⟨u, i, rfl, hl', g4, g8, g9, g10, rfl, hi, h0, h1⟩
  have ax : ∀ n, (deskG n a).length = 2 ∧ (deskG n b).length = 2 := fun n => ⟨rfl, rfl⟩
  have w1 := w64 (n := (1 : Int)) (by omega) (by omega)
  have w2 := w64 (n := (2 : Int)) (by omega) (by omega)
  match i, hi with
  | 0, _ =>
    simp [hl', g4, g8, g9, g10, hqa, ck2V, ck2H, hq, w1, w2]
    refine (check_calls a ha).use ?_
    by_cases he : Oyez.check a = 0
    · simp [hl', g4, g8, g9, g10, hqa, ck2V, ck2H, hq, w1, w2, he]
      have hs := (Oyez.check_zero he).sorted
      refine StA.of ((laid_calls a hs hl.1 _).mono ?_)
      rintro _ _ ⟨rfl, rfl⟩
      simp [hl', g4, g8, g9, g10, hqa, ck2V, ck2H, hq, w1, w2, he, deskG]
      exact ⟨1, rfl, rfl, rfl, by omega, fun h => by omega⟩
    · simp [hl', g4, g8, g9, g10, hqa, ck2V, ck2H, hq, w1, w2, he]
      have e : chk2 a b = Oyez.check a := by simp [chk2, he]
      rw [e]
      exact ⟨he, rfl⟩
  | 1, _ =>
    have ha0 := h0 (by omega)
    simp [hl', g4, g8, g9, g10, hqa, ck2V, ck2H, hq, w1, w2, ha0]
    refine (check_calls b hb).use ?_
    by_cases he : Oyez.check b = 0
    · simp [hl', g4, g8, g9, g10, hqa, ck2V, ck2H, hq, w1, w2, he, ha0]
      have hs := (Oyez.check_zero he).sorted
      refine StA.of ((laid_calls b hs hl.2 _).mono ?_)
      rintro _ _ ⟨rfl, rfl⟩
      simp [hl', g4, g8, g9, g10, hqa, ck2V, ck2H, hq, w1, w2, he, deskG, ha0]
      exact ⟨2, rfl, rfl, rfl, by omega⟩
    · simp [hl', g4, g8, g9, g10, hqa, ck2V, ck2H, hq, w1, w2, he, ha0]
      have e : chk2 a b = Oyez.check b := by simp [chk2, ha0]
      rw [e]
      exact ⟨he, rfl⟩
  | 2, _ =>
    have ha0 := h0 (by omega)
    have hb0 := h1 (by omega)
    simp [hl', g4, g8, g9, g10, hqa, ck2V, ck2H, hq]
    have e : chk2 a b = 0 := by simp [chk2, ha0, hb0]
    exact e
/-- changes as they lie -/
theorem MC.own {σ g : Heap} {L : List Oyez.Chg} {v : AV} (h : MC σ g L v) : OwnC asIs σ.length (σ ++ g) L v := by
  obtain ⟨o, vals, h1, h0, hlo, h2, h3⟩ := h.ex
  have hv := h1.val
  cases o with
  | none =>
    obtain ⟨rfl, rfl⟩ := hv
    exact ⟨.inl ⟨List.eq_nil_of_length_eq_zero h2.symm, rfl⟩⟩
  | some r =>
    obtain ⟨rfl, hg⟩ := hv
    have hgr : (σ ++ g)[σ.length + r]? = some (.cells (vals.flatMap AV.cells)) := by rw [List.getElem?_append_right (by omega), Nat.add_sub_cancel_left]; exact hg
    have hone : ∀ x ∈ vals, x.cells.length = 6 := fun x hx => (h1.len x hx).1
    refine ⟨.inr ⟨σ.length + r, by omega, by rw [h2], _, hgr, by rw [flat_len _ hone, h2], fun i c hc => ?_⟩⟩
    obtain ⟨w1, w2, a, b, d⟩ := h3 i c hc
    refine ⟨w1, w2, ?_, fun w ws hw => ?_⟩
    · apply List.ext_getElem?
      intro j
      rcases Nat.lt_or_ge j 6 with hj | hj
      · rw [List.getElem?_take_of_lt hj, List.getElem?_drop, flat_get (k := 6) _ hone (by decide), show (i * 6 + j) / 6 = i by omega, show (i * 6 + j) % 6 = j by omega, a]
        rfl
      · rw [List.getElem?_eq_none (by simp; omega), List.getElem?_eq_none (by simpa using hj)]
    · have key : ∀ {w : AV} {ws : List (List UInt8)}, RW σ.length g (some r) w ws → (ws = [] ∧ w = .pl 1 []) ∨ ∃ (q : Nat) (xs : List AV), σ.length ≤ q ∧ q ≠ σ.length + r ∧ w = .arr 1 q 0 ws.length ∧ (σ ++ g)[q]? = some (.cells xs) ∧ asIs ws xs := by
        intro w ws hw
        rcases hw with hw | ⟨j, a1, a2, a3⟩
        · exact .inl hw
        · have hne : r ≠ j := fun e => a3 (by rw [e])
          exact .inr ⟨σ.length + j, strs ws, by omega, by omega, a1, by rw [List.getElem?_append_right (by omega), Nat.add_sub_cancel_left]; exact a2, rfl⟩
      rcases hw with hw | hw
      · obtain ⟨rfl, rfl⟩ := Prod.mk.inj hw; exact key b
      · obtain ⟨rfl, rfl⟩ := Prod.mk.inj hw; exact key d
theorem OwnC.weaken {X : List (List UInt8) → List AV → Prop} {lo lo' : Nat} {τ : Heap} {L : List Oyez.Chg} {v : AV} (h : OwnC X lo τ L v) (hl : lo' ≤ lo) : OwnC X lo' τ L v := by
  rcases h.row with h | ⟨r, h1, h2, cs, h3, h4, h5⟩
  · exact ⟨.inl h⟩
  · refine ⟨.inr ⟨r, by omega, h2, cs, h3, h4, fun i c hc => ?_⟩⟩
    obtain ⟨w1, w2, a, b⟩ := h5 i c hc
    refine ⟨w1, w2, a, fun w ws hw => ?_⟩
    rcases b w ws hw with b | ⟨q, xs, b1, b2, b3⟩
    · exact .inl b
    · exact .inr ⟨q, xs, by omega, b2, b3⟩
/-- what Diff gives -/
def diffR (a b : List Oyez.Rec) : List Oyez.Chg × Int := if chk2 a b ≠ 0 then ([], chk2 a b) else (Oyez.diff a b, 0)
set_option maxHeartbeats 8000000 in
theorem diff68_calls (a b : List Oyez.Rec) (ha : Few a) (hb : Few b) (hl : a.length ≤ 2 ^ 38 ∧ b.length ≤ 2 ^ 38) (σ : Heap) :
    ACalls Tryz.prog 26 [fileAV a, fileAV b] σ fun v σ' => ∃ v1, v = .tup [v1, .int .i64 (diffR a b).2] ∧ (∃ g, σ' = σ ++ g) ∧ OwnC asIs σ.length σ' (diffR a b).1 v1 := by
  obtain ⟨R, hR⟩ : ∃ R, diffR a b = R := ⟨_, rfl⟩
  rw [hR]
  unfold diffR at hR
  refine acalls_fn Tryz.func26 rfl (enters_fn Tryz.func26 (by decide) rfl) ?_
  simp [-aappend, Tryz.ntmps26]
  refine StA.of ((checked2_calls (σ := σ ++ [.cells [fileAV a, fileAV b]]) (q := σ.length) a b (by simp) ha hb (by omega)).mono ?_)
  rintro v σ' (⟨he, rfl, g, rfl⟩ | ⟨he, rfl, rfl⟩)
  · rw [if_pos he] at hR
    subst hR
    simp [-aappend, he]
    exact OwnC.mk (.inl ⟨rfl, rfl⟩)
  · rw [if_neg (by simp [he])] at hR
    have hfew : ∀ (f : List Oyez.Rec) (p : Oyez.Place), Few f → (getW (Oyez.getIn f p)).length ≤ 2 ^ 40 := by
      intro f p hf
      unfold getW Oyez.getIn
      cases h : f.find? (fun r => decide (r.place = p)) with
      | none => simp
      | some r =>
        have := (hf r (List.mem_of_find?_eq_some h)).2
        simp only [Option.map_some, Option.getD_some]
        omega
    obtain ⟨ps, hps⟩ : ∃ ps, Oyez.diffPl a b = ps := ⟨_, rfl⟩
    have hpl : ps.length ≤ 2 ^ 40 := by
      have h1 := Oyez.placesOf_len ((a ++ b).map Oyez.Rec.place)
      have h2 : (Oyez.placesOf ((a ++ b).map Oyez.Rec.place)).length = ps.length := by rw [← hps]; rfl
      rw [List.length_map, List.length_append] at h1
      omega
    have hdd : Oyez.diff a b = ps.filterMap (Oyez.diffAt a b) := by rw [Oyez.diff_def, hps]
    have hpr : Oyez.placesOf ((a ++ b).map Oyez.Rec.place) = ps := hps
    obtain ⟨σ1, hσ1⟩ : ∃ s, s = σ ++ (.cells [fileAV a, fileAV b] :: ck2H (σ.length + 1) a b 2) := ⟨_, rfl⟩
    have hs1 : σ1.length = σ.length + 9 := by rw [hσ1]; simp [ck2H, deskG]
    have D0 : DeskAt σ1 (.ptr (σ.length + 1) 0) a := ⟨σ.length + 1, σ.length + 2, rfl, by rw [hσ1]; simp [ck2H, deskG], by rw [hσ1]; simp [ck2H, deskG]⟩
    have D1 : DeskAt σ1 (.ptr (σ.length + 5) 0) b := ⟨σ.length + 5, σ.length + 6, rfl, by rw [hσ1]; simp [ck2H, deskG], by rw [hσ1]; simp [ck2H, deskG]⟩
    have hq1 : σ1[σ.length + 8]? = some (.cells [.ptr (σ.length + 1) 0, .ptr (σ.length + 5) 0]) := by rw [hσ1]; simp [ck2H, deskG]
    have hq1g : ∀ X : Heap, (σ1 ++ X)[σ.length + 8]? = some (.cells [.ptr (σ.length + 1) 0, .ptr (σ.length + 5) 0]) := fun X => get_app hq1
    have key := places_calls (fs := [a, b]) (v := .arr 1 (σ.length + 8) 0 2) (σ := σ1) ⟨σ.length + 8, _, rfl, hq1, rfl, fun i f d hf hd => by
      match i, hf, hd with
      | 0, hf, hd => simp at hf hd; subst hf; subst hd; exact D0
      | 1, hf, hd => simp at hf hd; subst hf; subst hd; exact D1
      | i + 2, hf, _ => simp at hf⟩ (by simp; omega) (by simp)
    have e2 : [a, b].flatten = a ++ b := by simp
    rw [e2, hpr, hσ1] at key
    simp [-aappend, he, Nat.add_assoc]
    refine StA.of (key.mono ?_)
    rintro _ _ ⟨rfl, rfl⟩
    simp [-aappend]
    refine ACode_loopT (fun env σ' => ∃ (u : List AV) (i : Nat) (v : AV) (g : Heap), env = { t := u } ∧ u.length = 53 ∧ tg u 6 = .arr 1 (σ.length + 8) 0 2 ∧ tg u 8 = v ∧ tg u 24 = .pl 2 (ps.map placeAV) ∧ tg u 25 = .int .i64 ps.length ∧ tg u 26 = .int .i64 i ∧ σ' = σ1 ++ g ∧ i ≤ ps.length ∧ MC σ1 g ((ps.take i).filterMap (Oyez.diffAt a b)) v)
      (fun env _ => match tg env.t 26 with | .int _ i => ps.length - i.toNat | _ => 0) ⟨_, 0, .nils, [], rfl, by simp, by simp, by simp, by simp, by simp, by simp, by rw [hσ1]; simp, by omega, by simpa using MC.nil _ _⟩ ?_
    rintro env _ ⟨u, i, v, g, rfl, hl2, g6, g8, g24, g25, g26, rfl, hi, hM⟩
    rcases Nat.lt_or_ge i ps.length with hlt | hge
    · have hlt' : (i : Int) < (ps.length : Int) := by omega
      have hx := w64 (n := (i : Int) + 1) (by omega) (by omega)
      obtain ⟨p, hpe⟩ : ∃ p, ps[i] = p := ⟨_, rfl⟩
      have htk : ps.take (i + 1) = ps.take i ++ [p] := by rw [List.take_succ_eq_append_getElem hlt, hpe]
      obtain ⟨x, hxe⟩ : ∃ x, Oyez.getIn a p = x := ⟨_, rfl⟩
      obtain ⟨y, hye⟩ : ∃ x, Oyez.getIn b p = x := ⟨_, rfl⟩
      have hlx := hfew a p ha
      have hly := hfew b p hb
      rw [hxe] at hlx
      rw [hye] at hly
      simp [-aappend, hl2, g6, g8, g24, g25, g26, hlt', hlt, hpe]
      refine ACode_drawA mixed [10, 11] [12, 13] (fun i => [AV.arr 1 (σ.length + 8) 0 2, .ptr (σ.length + 8) 0, .ptr (σ.length + 1) 0, placeAV p, stAV x, .arr 1 (σ.length + 8) 0 2, .ptr (σ.length + 8) 1, .ptr (σ.length + 5) 0, placeAV p, stAV y].getD i .any) (fun _ => [.bool false, .nils]) (fun a => if a = 10 then [.bool x.isSome, wordsAV (getW x)] else [.bool y.isSome, wordsAV (getW y)]) (by kernel_rfl)
        (LayA.of (n := 53) rfl rfl rfl (by kernel_rfl) (by simp [hl2]) ?_ (by kernel_rfl) ?_ (by kernel_rfl) ?_ ?_ ?_) ?_
      · intro a ha
        simp at ha
        rcases ha with rfl | rfl <;> simp [zcOf]
      · intro p' a' u' ha hu o ty d x' ho hop τ q hq
        match p', ha, hu with
        | 0, ha, hu =>
          simp at ha hu
          subst ha; subst hu
          simp at ho
          subst ho
          simp at hop
          obtain ⟨rfl, rfl, rfl⟩ := hop
          simp [envF, tr, hq, hl2, stAV]
        | 1, ha, hu =>
          simp at ha hu
          subst ha; subst hu
          simp at ho
          subst ho
          simp at hop
          obtain ⟨rfl, rfl, rfl⟩ := hop
          simp [envF, tr, hq, hl2, stAV]
        | p' + 2, ha, _ => simp at ha
      · intro i' o ho hA hU g'
        have hi' : i' < 14 := (List.getElem?_eq_some_iff.1 ho).1
        simp at hA hU
        have hc : i' = 0 ∨ i' = 1 ∨ i' = 2 ∨ i' = 3 ∨ i' = 4 ∨ i' = 5 ∨ i' = 6 ∨ i' = 7 ∨ i' = 8 ∨ i' = 9 := by omega
        rcases hc with rfl | rfl | rfl | rfl | rfl | rfl | rfl | rfl | rfl | rfl <;> (
          simp at ho
          subst ho
          simp [envF, tr, hl2, g6, hq1g]
          try (refine StA.of ((dstate_calls (D0.more _) p).mono ?_)
               rintro _ _ ⟨rfl, rfl⟩
               rw [hxe]
               simp [stAV])
          try (refine StA.of ((dstate_calls (D1.more _) p).mono ?_)
               rintro _ _ ⟨rfl, rfl⟩
               rw [hye]
               simp [stAV]))
      · intro j hj
        have hall : ∀ v ∈ [AV.arr 1 (σ.length + 8) 0 2, .ptr (σ.length + 8) 0, .ptr (σ.length + 1) 0, placeAV p, stAV x, .arr 1 (σ.length + 8) 0 2, .ptr (σ.length + 8) 1, .ptr (σ.length + 5) 0, placeAV p, stAV y], Fz (σ1 ++ (g ++ [AObj.cells [.int .i64 p.kind, .int .i64 p.number]])).length [] v v := by
          have hpl : ∀ n, Fz n [] (placeAV p) (placeAV p) := fun n => Fz.agg2 (.int _ _) (.int _ _)
          have hst : ∀ n w, Fz n [] (stAV w) (stAV w) := fun n w => Fz.agg2 (.bool _) ((Fz_strs _ _ _).2 trivial)
          intro v hv
          simp only [List.mem_cons, List.not_mem_nil, or_false] at hv
          rcases hv with rfl | rfl | rfl | rfl | rfl | rfl | rfl | rfl | rfl | rfl
          · exact .keep _ _ _ _ (by simp; omega)
          · exact .ptr _ _ (by simp; omega)
          · exact .ptr _ _ (by simp; omega)
          · exact hpl _
          · exact hst _ _
          · exact .keep _ _ _ _ (by simp; omega)
          · exact .ptr _ _ (by simp; omega)
          · exact .ptr _ _ (by simp; omega)
          · exact hpl _
          · exact hst _ _
        rw [List.getD_eq_getElem?_getD]
        cases hv : ([AV.arr 1 (σ.length + 8) 0 2, .ptr (σ.length + 8) 0, .ptr (σ.length + 1) 0, placeAV p, stAV x, .arr 1 (σ.length + 8) 0 2, .ptr (σ.length + 8) 1, .ptr (σ.length + 5) 0, placeAV p, stAV y])[j]? with
        | none => exact .any _
        | some v => exact hall v (List.mem_of_getElem? hv)
      · intro a' ha2 y' hy
        have hst : ∀ n (w : Oyez.St), ∀ y' ∈ [AV.bool w.isSome, wordsAV (getW w)], Fz n [] y' y' := fun n w y' hy => by
          simp only [List.mem_cons, List.not_mem_nil, or_false] at hy
          rcases hy with rfl | rfl
          · exact .bool _
          · exact (Fz_strs _ _ _).2 trivial
        have hy2 : y' ∈ (if a' = 10 then [AV.bool x.isSome, wordsAV (getW x)] else [.bool y.isSome, wordsAV (getW y)]) := hy
        split at hy2
        · exact hst _ x y' hy2
        · exact hst _ y y' hy2
      · have hix0 : List.idxOf 10 [10, 11] = 0 := by decide
        have hix1 : List.idxOf 11 [10, 11] = 1 := by decide
        have hsub : ((ps.take i).filterMap (Oyez.diffAt a b)).length ≤ 2 ^ 40 := Nat.le_trans (List.length_filterMap_le _ _) (by simp; omega)
        have hda : Oyez.diffAt a b p = if x = y then none else some (Oyez.chg p x y) := by unfold Oyez.diffAt; rw [hxe, hye]
        have hfm : (ps.take (i + 1)).filterMap (Oyez.diffAt a b) = (ps.take i).filterMap (Oyez.diffAt a b) ++ (Oyez.diffAt a b p).toList := by rw [htk, Oyez.filterMap_snoc']
        simp [-aappend, envF, tr, rrA, hl2, hix0, hix1, Nat.add_assoc]
        refine (same113_calls x y hlx).use ?_
        by_cases hxy : x = y
        · rw [hda, if_pos hxy, Option.toList_none, List.append_nil] at hfm
          simp [-aappend, hl2, g6, g8, g24, g25, g26, hlt, hpe, hx, hxy]
          exact ⟨⟨i + 1, by simp, by omega, by rw [hfm]; exact hM.more _⟩, by omega⟩
        · rw [hda, if_neg hxy] at hfm
          obtain ⟨v', g', he2, hM', _⟩ := MC.put0 (hM.more [AObj.cells [.int .i64 p.kind, .int .i64 p.number], .cells [.bool x.isSome, wordsAV (getW x)], .cells [.bool y.isSome, wordsAV (getW y)]]) hsub (by simp) (Oyez.chg p x y)
          simp [-aappend, Oyez.chg, getW, Nat.add_assoc] at he2
          simp [-aappend, hl2, g6, g8, g24, g25, g26, hlt, hpe, hx, hxy, Nat.add_assoc]
          refine StA.of ((change_calls p x y hlx hly _).mono ?_)
          rintro _ _ ⟨rfl, rfl⟩
          have hc1 := one_clone
          simp [-aappend, -AV.one, one_int, one_bool, one_clone, hl2, g6, g8, g24, g25, g26, hlt, hpe, hx, hxy, getW, he2, Nat.add_assoc]
          exact ⟨⟨i + 1, by simp, by omega, by rw [hfm]; exact hM'⟩, by omega⟩
    · have hge' : ¬ (i : Int) < (ps.length : Int) := by omega
      rw [List.take_of_length_le hge, ← hdd] at hM
      subst hR
      simp [-aappend, hl2, g6, g8, g24, g25, g26, hge']
      refine ⟨⟨_, by rw [hσ1, List.append_assoc]⟩, ?_⟩
      exact hM.own.weaken (by omega)
end Ab
