/-
  COPIES JOINED, SETTLED: the program's functions, exactly.
  COPIES JOINED, SETTLED: the walks of both.
  COPIES SETTLED: the walk.
  WORDS OF THE CALL's OWN: as they are, as many; read as what they hold.
  slices.BinarySearchFunc by places; a record's twin put into an own row.
  COPIES SETTLED, the choices being a slice of the caller's own.
  THE REFERENCE: two copies joined, the walk.
  COPIES: a file of the call's own, read as what it holds, and its words cleared; the reference's join and what Join and Settle give.
-/
import Derived.Test.YtdifgaapdnbliaaGreatDoorR13
import Derived.Test.YtdifgaapdnbliaaGreatDoorR22
import Derived.Test.YtdifgaapdnbliaaGreatDoorR23
import Derived.Test.YtdifgaapdnbliaaGreatDoorR26
import Derived.Test.YtdifgaapdnbliaaGreatDoorR31
import Derived.Test.YtdifgaapdnbliaaGreatDoorR24
import Derived.Test.YtdifgaapdnbliaaGreatDoorR25
import Derived.Test.YtdifgaapdnbliaaGreatDoorR30
set_option linter.unusedSimpArgs false
set_option linter.unusedVariables false
set_option linter.unusedSectionVars false
namespace Ab
open Go Go.RowKit Go.Proofs
attribute [local irreducible] aws awp aw1 Og Om Oc Oa Ogd Ov Ot awd aw1d awh aw1h Ogh Ohd awl Ogl Ohl awv Ogv Ohv QThen QBlock QFn QFnM QRo QBe ACode AYield
/-- the first file's error that has one -/
def chk3 (a b c : List Oyez.Rec) : Int := if Oyez.check a ≠ 0 then Oyez.check a else if Oyez.check b ≠ 0 then Oyez.check b else Oyez.check c
/-- the objects ahead of round i of checked -/
def ckH (n : Nat) (a b c : List Oyez.Rec) : Nat → Heap
  | 0 => []
  | 1 => deskG n a ++ [.cells [.ptr n 0], .cells [.ptr n 0]]
  | 2 => deskG n a ++ [.cells [.ptr n 0], .dead] ++ deskG (n + 4) b ++ [.cells [.ptr (n + 4) 0], .cells [.ptr n 0, .ptr (n + 4) 0]]
  | _ => deskG n a ++ [.cells [.ptr n 0], .dead] ++ deskG (n + 4) b ++ [.cells [.ptr (n + 4) 0], .dead] ++ deskG (n + 8) c ++ [.cells [.ptr (n + 8) 0], .cells [.ptr n 0, .ptr (n + 4) 0, .ptr (n + 8) 0]]
def ckV (n : Nat) : Nat → AV
  | 0 => .nils
  | 1 => .arr 1 (n + 3) 0 1
  | 2 => .arr 1 (n + 7) 0 2
  | _ => .arr 1 (n + 11) 0 3
end Ab
namespace Ab
open Go Go.RowKit Go.Proofs
attribute [local irreducible] aws awp aw1 Og Om Oc Oa Ogd Ov Ot awd aw1d awh aw1h Ogh Ohd awl Ogl Ohl awv Ogv Ohv QThen QBlock QFn QFnM QRo QBe ACode AYield
theorem aw1d_makeFunc {P : Program} {dst : Option Tmp} {ty : TypeId} {pos : String} {after : Array Edge} {g : Option (Nat × Bool)} {f : Fn} {xs ys : Array Operand} {Kv : AV → Prop} {env : Env} {σ : Heap} :
    aw1d P ⟨dst, .makeFunc f xs ys, ty, pos, after, g⟩ Kv env σ = Kv (.fn f (xs.toList.map (aval env.t)) (ys.toList.map (aval env.t))) := by
  have h : aw1d P ⟨dst, .makeFunc f xs ys, ty, pos, after, g⟩ Kv env σ = aw1 P ⟨dst, .makeFunc f xs ys, ty, pos, after, g⟩ (fun v s => s = σ ∧ Kv v) env σ := aw1d_no rfl rfl
  rw [h, aw1_makeFunc]
  simp
attribute [simp] aw1d_makeFunc
/-- what Join gives -/
def joinR (a b c : List Oyez.Rec) : List Oyez.Rec × List Oyez.Place × Int :=
  if chk3 a b c ≠ 0 then ([], [], chk3 a b c) else if 40 < (Oyez.join a b c []).out.length then ([], [], 2) else ((Oyez.join a b c []).out, (Oyez.join a b c []).conf.map Oyez.Chg.place, 0)
end Ab
namespace Ab
open Go Go.RowKit Go.Proofs
attribute [local irreducible] aws awp aw1 Og Om Oc Oa Ogd Ov Ot awd aw1d awh aw1h Ogh Ohd awl Ogl Ohl awv Ogv Ohv QThen QBlock QFn QFnM QRo QBe ACode AYield
/-- what Settle gives -/
def settleR (a b c : List Oyez.Rec) (sec : List Bool) : List Oyez.Rec × Int :=
  if chk3 a b c ≠ 0 then ([], chk3 a b c) else if (Oyez.join a b c []).conf.length ≠ sec.length then ([], 2) else if 40 < (Oyez.join a b c sec).out.length then ([], 2) else ((Oyez.join a b c sec).out, 0)
end Ab
namespace Ab
open Go Go.RowKit Go.Proofs
/-- as they are -/
def asIs (ws : List (List UInt8)) (xs : List AV) : Prop := xs = strs ws
/-- as many -/
def asMany (ws : List (List UInt8)) (xs : List AV) : Prop := xs.length = ws.length
theorem fz_strs0 {τ : Heap} {q : Nat} (ws : List (List UInt8)) (h : τ[q]? = some (.cells (strs ws))) : Fz 0 τ (.arr 1 q 0 ws.length) (wordsAV ws) := by
  have hl : ws.length = (strs ws).length := by simp [strs]
  rw [hl]
  refine Fz.arr 1 q 0 (strs ws) (strs ws) (fun i _ => (strs ws).getD i .any) (Nat.zero_le _) h (fun i x hx => ?_) (fun i x hx j y hy => ?_)
  · have hx' := hx
    simp only [strs, List.getElem?_map, Option.map_eq_some_iff] at hx
    obtain ⟨s, hs, rfl⟩ := hx
    refine ⟨rfl, fun j y hy => ?_⟩
    match j, hy with
    | 0, hy =>
      simp [AV.cells] at hy; subst hy
      refine ⟨rfl, ?_⟩
      rw [Nat.zero_add, Nat.mul_one, Nat.add_zero, List.getD_eq_getElem?_getD, hx']
      rfl
    | j + 1, hy => simp [AV.cells] at hy
  · have hx' := hx
    simp only [strs, List.getElem?_map, Option.map_eq_some_iff] at hx
    obtain ⟨s, hs, rfl⟩ := hx
    match j, hy with
    | 0, hy =>
      simp [AV.cells] at hy; subst hy
      rw [List.getD_eq_getElem?_getD, hx']
      exact .str _
    | j + 1, hy => simp [AV.cells] at hy
theorem set_behind {σ g : Heap} {q : Nat} (h : σ.length ≤ q) (o : AObj) : (σ ++ g).set q o = σ ++ g.set (q - σ.length) o := by
  rw [List.set_append_right _ _ h]
end Ab
namespace Ab
open Go Go.RowKit Go.Proofs
attribute [local irreducible] aws awp aw1 Og Om Oc Oa Ogd Ov Ot awd aw1d awh aw1h Ogh Ohd awl Ogl Ohl awv Ogv Ohv QThen QBlock QFn QFnM QRo QBe ACode AYield
/-- it is the place of a record -/
structure PlaceAtV (l : List PV) (t : Oyez.Place) (i : Nat) : Prop where
  le : i ≤ l.length
  lo : ∀ (m : Nat) (h : m < l.length), m < i → l[m].1.lt t = true
  hi : ∀ (m : Nat) (h : m < l.length), i ≤ m → l[m].1.lt t = false
set_option maxHeartbeats 2000000 in
theorem bsfV_calls {r : Nat} (l : List PV) (t : Oyez.Place) (hs : ∀ x ∈ l, x.2.one = true) (hsr : Oyez.Sorted (l.map Prod.fst)) (hn : l.length ≤ 2 ^ 20) (σ : Heap) (hr : σ[r]? = some (.cells (cellsV l))) :
    ACalls Tryz.prog 180 [.arr 3 r 0 l.length, placeAV t, .fn (.func 181) [] []] σ fun v σ' => σ' = σ ∧ ∃ (i : Nat) (B : Bool), v = .tup [.int .i64 i, .bool B] ∧ PlaceAtV l t i := by
  refine ACalls.forget ?_
  refine acalls_fn Tryz.func180 rfl (enters_fn Tryz.func180 (by decide) rfl) ?_
  have hgs : ∀ c, (σ ++ [c])[r]? = some (.cells (cellsV l)) := fun c => get_app hr
  have hlen := cellsV_len l
  have hsrt : ∀ (a b : Nat) (hb : b < l.length), (h : a < b) → (l[a]'(by omega)).1.lt l[b].1 = true := by
    intro a b hb h
    unfold Oyez.Sorted at hsr
    rw [List.pairwise_map] at hsr
    exact List.pairwise_iff_getElem.1 hsr a b (by omega) hb h
  obtain ⟨n, hln⟩ : ∃ n, l.length = n := ⟨_, rfl⟩
  rw [hln] at hn hlen ⊢
  simp [Tryz.ntmps180]
  refine ACode_loopT (fun env σ' => ∃ (u : List AV) (i j : Nat), env = { t := u } ∧ u.length = 49 ∧ tg u 0 = .arr 3 r 0 n ∧ tg u 2 = .fn (.func 181) [] [] ∧ tg u 4 = .ptr σ.length 0 ∧ tg u 8 = .int .i64 n ∧ tg u 9 = .int .i64 i ∧ tg u 10 = .int .i64 j ∧ σ' = σ ++ [.cells [.int .i64 t.kind, .int .i64 t.number]] ∧ i ≤ j ∧ j ≤ n ∧
      (∀ (m : Nat) (h : m < l.length), m < i → l[m].1.lt t = true) ∧ (∀ (m : Nat) (h : m < l.length), j ≤ m → l[m].1.lt t = false))
    (fun env _ => match tg env.t 9, tg env.t 10 with | .int _ i, .int _ j => j.toNat - i.toNat | _, _ => 0) ⟨_, 0, n, rfl, by simp, by simp, by simp, by simp, by simp, by simp, by simp, by simp, by omega, by omega, fun m h h2 => by omega, fun m h h2 => by omega⟩ ?_
  rintro env _ ⟨u, i, j, rfl, hl, g0, g2, g4, g8, g9, g10, rfl, hij, hjn, hlo, hhi⟩
  rcases Nat.lt_or_ge i j with hlt | hge
  · obtain ⟨h, hh⟩ : ∃ h, (i + j) / 2 = h := ⟨_, rfl⟩
    have h1 : i ≤ h := by omega
    have h2 : h < j := by omega
    have hhl : h < l.length := by omega
    have hhn : h < n := by omega
    have hhn' : (h : Int) < (n : Int) := by omega
    have hlt' : (i : Int) < (j : Int) := by omega
    have hx1 := w64 (n := (i : Int) + (j : Int)) (by omega) (by omega)
    have hu := wu64 (n := (i : Int) + (j : Int)) (by omega) (by omega)
    have hfd : ((i : Int) + (j : Int)).fdiv (2 ^ min 1 IntKind.u64.bits) = (h : Int) := by
      show ((i : Int) + (j : Int)).fdiv 2 = (h : Int)
      rw [Int.fdiv_eq_ediv_of_nonneg _ (by omega)]
      omega
    have hx2 := w64 (n := (h : Int)) (by omega) (by omega)
    have hx3 := w64 (n := (h : Int) + 1) (by omega) (by omega)
    have hsb := cellsV_sub l hhl
    have hb : h * 3 + 3 ≤ n * 3 := by omega
    simp [-AV.one, hl, g0, g2, g4, g8, g9, g10, hlt', hx1, hu, hfd, hx2]
    refine ACode_draw0 mixed (by kernel_rfl) ?_
    simp [-AV.one, hl, g0, g2, g4, g8, g9, g10, hgs, hhn, hhn', hlen, hsb, hb]
    refine Ou_use0 (cmp181_calls l[h].1 t l[h].2 (hs _ (List.getElem_mem hhl))) ?_
    by_cases ho : cmpP l[h].1 t < 0
    · have hp := (cmpP_neg _ _).1 ho
      simp [-AV.one, hl, g0, g2, g4, g8, g9, g10, ho, hx3]
      refine ⟨⟨h + 1, by simp, j, rfl, by omega, by omega, fun m hm hmi => ?_, hhi⟩, by omega⟩
      rcases Nat.lt_or_ge m h with h3 | h3
      · exact Oyez.Place.lt_trans (hsrt m h hhl h3) hp
      · obtain rfl : m = h := by omega
        exact hp
    · have hp : l[h].1.lt t = false := by
        cases hq : l[h].1.lt t with
        | false => rfl
        | true => exact absurd ((cmpP_neg _ _).2 hq) ho
      simp [-AV.one, hl, g0, g2, g4, g8, g9, g10, ho]
      refine ⟨⟨i, rfl, h, rfl, by omega, by omega, hlo, fun m hm hmi => ?_⟩, by omega⟩
      rcases Nat.lt_or_ge h m with h3 | h3
      · cases hq : l[m].1.lt t with
        | false => rfl
        | true =>
          have := Oyez.Place.lt_trans (hsrt h m hm h3) hq
          rw [hp] at this
          cases this
      · obtain rfl : m = h := by omega
        exact hp
  · obtain rfl : i = j := by omega
    have hP : PlaceAtV l t i := ⟨by omega, hlo, hhi⟩
    simp [-AV.one, hl, g0, g2, g4, g8, g9, g10]
    refine ACode_draw0 mixed (by kernel_rfl) ?_
    by_cases hin : i < n
    · have hin' : (i : Int) < (n : Int) := by omega
      have hil : i < l.length := by omega
      have hsb := cellsV_sub l hil
      have hb : i * 3 + 3 ≤ n * 3 := by omega
      simp [-AV.one, hl, g0, g2, g4, g8, g9, g10, hgs, hin, hin', hlen, hsb, hb]
      refine Ou_use0 (cmp181_calls l[i].1 t l[i].2 (hs _ (List.getElem_mem hil))) ?_
      simp [-AV.one, hl, g0, g2, g4, g8, g9, g10]
      exact ⟨_, Fz.tup2 (.int _ _) (.bool _), i, by by_cases h : cmpP l[i].1 t = 0 <;> simp [h], hP⟩
    · have hin' : ¬ (i : Int) < (n : Int) := by omega
      simp [-AV.one, hl, g0, g2, g4, g8, g9, g10, hin, hin']
      exact ⟨_, Fz.tup2 (.int _ _) (.bool _), i, .inl rfl, hP⟩
theorem cellsV_put (l : List PV) (i : Nat) (w : AV) (h : i < l.length) : List.take (i * 3 + 2) (cellsV l) ++ w :: List.drop (i * 3 + 3) (cellsV l) = cellsV (l.set i (l[i].1, w)) := by
  have hl := cellsV_len l
  have h1 : List.take (i * 3 + 2) (cellsV l) = List.take (i * 3) (cellsV l) ++ [.int .i64 l[i].1.kind, .int .i64 l[i].1.number] := by
    rw [List.take_add]
    congr 1
    have := cellsV_sub l h
    have h2 := congrArg (List.take 2) this
    rw [List.take_take] at h2
    simpa using h2
  rw [h1, ← cellsV_set l i (l[i].1, w) h]
  simp
/-- words of a record that is being laid -/
def RWd (n : Nat) (g : Heap) (o : Option Nat) (w : AV) (ws : List (List UInt8)) : Prop := (ws = [] ∧ w = .pl 1 []) ∨ ∃ j, w = .arr 1 (n + j) 0 ws.length ∧ g[j]? = some (.cells (strs ws)) ∧ o ≠ some j
/-- rows of records whose words are the call's own -/
def RX (n : Nat) (g : Heap) (o : Option Nat) (F : List Oyez.Rec) (X : List PV) : Prop := X.length = F.length ∧ ∀ (i : Nat) (r : Oyez.Rec), F[i]? = some r → ∃ w, X[i]? = some (r.place, w) ∧ RWd n g o w r.words
structure RC (σ g : Heap) (F : List Oyez.Rec) (v : AV) : Prop where
  ex : ∃ (j : Nat) (X : List PV), v = .arr 3 (σ.length + j) 0 X.length ∧ g[j]? = some (.cells (cellsV X)) ∧ RX σ.length g (some j) F X
set_option maxHeartbeats 4000000 in
theorem twin_calls (f : List Oyez.Rec) (hl : f.length ≤ 2 ^ 30) (hw : ∀ r ∈ f, r.words.length ≤ 2 ^ 40) (v : AV) (σ : Heap) (hv : ∀ g, acells 3 v (σ ++ g) = some (cellsR f, f.length)) (hvl : ∀ S, alen Tryz.prog 23 v S = some (.int .i64 f.length)) :
    ACalls Tryz.prog 141 [v] σ fun v' σ' => ∃ g, σ' = σ ++ g ∧ RC σ g f v' := by
  refine acalls_fn Tryz.func141 rfl (enters_fn Tryz.func141 (by decide) rfl) ?_
  have h1 : (f.length : Int) * 40 ≤ 281474976710656 := by omega
  have h2 : (f.length : Int) ≤ 9223372036854775807 := by omega
  have hal : ∀ S : Heap, alen Tryz.prog 23 (.arr 3 σ.length 0 f.length) S = some (.int .i64 f.length) := fun S => by simp
  have hzl : ((List.replicate f.length [AV.int .i64 0, .int .i64 0, .nils]).flatten).length = f.length * 3 := by simp
  have hcopy : acopy Tryz.prog #[23, 23] (.arr 3 σ.length 0 f.length) v (σ ++ [AObj.cells (List.replicate f.length [AV.int .i64 0, .int .i64 0, .nils]).flatten]) = some (.int .i64 f.length, σ ++ [AObj.cells (cellsR f)]) := by
    rw [acopy_arr (off := 0) (A := (List.replicate f.length [AV.int .i64 0, .int .i64 0, .nils]).flatten) (news := cellsR f) (m := f.length) (by simp) (hv _) (Nat.le_refl _) (by rw [hzl]; omega)]
    have : wr (List.replicate f.length [AV.int .i64 0, .int .i64 0, .nils]).flatten (0 * 3) (cellsR f) = cellsR f := by
      unfold wr
      rw [Nat.zero_mul, List.take_zero, List.nil_append, List.drop_eq_nil_of_le (by rw [hzl, cellsR_len]; omega), List.append_nil]
    rw [this]
    simp
  have hcr : cellsR f = cellsV (f.map fun r => (r.place, wordsAV r.words)) := by
    unfold cellsR cellsV
    rw [List.flatMap_map]
    rfl
  rw [hcr] at hcopy
  simp [-alen, -acopy, -acopyC, -acells, Tryz.ntmps141, hvl, hal, hcopy, h1, h2]
  refine ACode_loopT (fun env σ' => ∃ (u : List AV) (i : Nat) (X : List PV) (g : Heap), env = { t := u } ∧ u.length = 28 ∧ tg u 3 = .arr 3 σ.length 0 f.length ∧ tg u 12 = .int .i64 f.length ∧ tg u 13 = .int .i64 i ∧ σ' = σ ++ .cells (cellsV X) :: g ∧ i ≤ f.length ∧ X.length = f.length ∧
      (∀ (m : Nat) (r : Oyez.Rec), f[m]? = some r → m < i → ∃ w, X[m]? = some (r.place, w) ∧ RWd (σ.length + 1) g none w r.words) ∧ (∀ (m : Nat) (r : Oyez.Rec), f[m]? = some r → i ≤ m → X[m]? = some (r.place, wordsAV r.words)))
    (fun env _ => match tg env.t 13 with | .int _ i => f.length - i.toNat | _ => 0) ⟨_, 0, f.map fun r => (r.place, wordsAV r.words), [], rfl, by simp, by simp, by simp, by simp, by simp, by omega, by simp, fun m r _ h => by omega, fun m r h _ => by rw [List.getElem?_map, h]; rfl⟩ ?_
  rintro env _ ⟨u, i, X, g, rfl, hl2, g3, g12, g13, rfl, hi, hXl, hlo, hhi⟩
  rcases Nat.lt_or_ge i f.length with hlt | hge
  · have hlt' : (i : Int) < (f.length : Int) := by omega
    have hx := w64 (n := (i : Int) + 1) (by omega) (by omega)
    have hlen := cellsV_len X
    rw [hXl] at hlen
    have hiX : i < X.length := by omega
    have hxi := hhi i f[i] (List.getElem?_eq_getElem hlt) (Nat.le_refl _)
    rw [List.getElem?_eq_getElem hiX] at hxi
    have hxi := Option.some.inj hxi
    have hb : i * 3 + 2 + 1 ≤ f.length * 3 := by omega
    have hcell : (cellsV X)[i * 3 + 2]? = some (wordsAV f[i].words) := by
      have h1 := cellsV_sub X hiX
      have h2 := congrArg (fun l => l[2]?) h1
      simp only [List.getElem?_take_of_lt (show 2 < 3 by omega), List.getElem?_drop] at h2
      rw [h2, hxi]
      rfl
    have hput := fun w => cellsV_put X i w hiX
    have hwi := hw _ (List.getElem_mem hlt)
    simp [hl2, g3, g12, g13, hlt', hlt, hlen, hb, hcell]
    refine StA.of ((clone_calls f[i].words hwi _).mono ?_)
    rintro _ _ ⟨rfl, rfl⟩
    have more : ∀ (Y : Heap) (w : AV) (ws : List (List UInt8)), RWd (σ.length + 1) g none w ws → RWd (σ.length + 1) (g ++ Y) none w ws := by
      intro Y w ws h
      rcases h with h | ⟨j, h1, h2, h3⟩
      · exact .inl h
      · exact .inr ⟨j, h1, get_app h2, h3⟩
    have fin : ∀ (Y : Heap) (w : AV), RWd (σ.length + 1) (g ++ Y) none w f[i].words → (∀ (m : Nat) (r : Oyez.Rec), f[m]? = some r → m < i + 1 → ∃ w', (X.set i (X[i].1, w))[m]? = some (r.place, w') ∧ RWd (σ.length + 1) (g ++ Y) none w' r.words) ∧ (∀ (m : Nat) (r : Oyez.Rec), f[m]? = some r → i + 1 ≤ m → (X.set i (X[i].1, w))[m]? = some (r.place, wordsAV r.words)) := by
      intro Y w hw'
      refine ⟨fun m r hm hmi => ?_, fun m r hm hmi => ?_⟩
      · by_cases e : m = i
        · subst e
          rw [List.getElem?_eq_getElem hlt] at hm
          obtain rfl := Option.some.inj hm
          exact ⟨w, by rw [List.getElem?_set_self hiX, hxi], hw'⟩
        · rw [List.getElem?_set_ne (Ne.symm e)]
          obtain ⟨w', a, b⟩ := hlo m r hm (by omega)
          exact ⟨w', a, more Y _ _ b⟩
      · rw [List.getElem?_set_ne (by omega)]
        exact hhi m r hm (by omega)
    by_cases h0 : f[i].words = []
    · have hp := hput (.pl 1 [])
      obtain ⟨f1, f2⟩ := fin [] (.pl 1 []) (.inl ⟨h0, rfl⟩)
      rw [List.append_nil] at f1
      generalize X.set i (X[i].1, .pl 1 []) = X2 at hp f1 f2
      have hX2 : X2.length = f.length := by
        have := congrArg List.length hp
        rw [cellsV_len] at this
        simp at this
        omega
      simp [hl2, g3, g12, g13, hlt', hlt, hlen, hb, hx, cloneV, cloneG, h0, hp]
      exact ⟨⟨i + 1, by simp, X2, g, ⟨rfl, rfl⟩, by omega, hX2, f1, f2⟩, by omega⟩
    · have hp := hput (.arr 1 (σ.length + (g.length + 1)) 0 f[i].words.length)
      obtain ⟨f1, f2⟩ := fin [.cells (strs f[i].words)] (.arr 1 (σ.length + (g.length + 1)) 0 f[i].words.length) (.inr ⟨g.length, by rw [show σ.length + (g.length + 1) = σ.length + 1 + g.length from by omega], by simp, by simp⟩)
      generalize X.set i (X[i].1, .arr 1 (σ.length + (g.length + 1)) 0 f[i].words.length) = X2 at hp f1 f2
      have hX2 : X2.length = f.length := by
        have := congrArg List.length hp
        rw [cellsV_len] at this
        simp at this
        omega
      simp [hl2, g3, g12, g13, hlt', hlt, hlen, hb, hx, cloneV, cloneG, h0, hp, Nat.add_assoc]
      exact ⟨⟨i + 1, by simp, X2, _, ⟨rfl, rfl⟩, by omega, hX2, f1, f2⟩, by omega⟩
  · have hge' : ¬ (i : Int) < (f.length : Int) := by omega
    simp [hl2, g3, g12, g13, hge']
    refine ⟨0, X, by rw [hXl]; rfl, rfl, hXl, fun m r hm => ?_⟩
    have hml := (List.getElem?_eq_some_iff.1 hm).1
    obtain ⟨w, h1, h2⟩ := hlo m r hm (by omega)
    refine ⟨w, h1, ?_⟩
    rcases h2 with h2 | ⟨j, a, b, _⟩
    · exact .inl h2
    · exact .inr ⟨j + 1, by rw [a, show σ.length + 1 + j = σ.length + (j + 1) from by omega], b, by simp⟩
end Ab
namespace Ab
open Go Go.RowKit Go.Proofs
attribute [local irreducible] aws awp aw1 Og Om Oc Oa Ogd Ov Ot awd aw1d awh aw1h Ogh Ohd awl Ogl Ohl awv Ogv Ohv QThen QBlock QFn QFnM QRo QBe ACode AYield
end Ab
namespace Ab
open Go Go.RowKit Go.Proofs
attribute [local irreducible] aws awp aw1 Og Om Oc Oa Ogd Ov Ot awd aw1d QThen QBlock QFn QFnM ACode AYield

/-- the choices of a join: nil, or a list -/
def secAV (o : Option (List Bool)) : AV := match o with | none => .nils | some l => .pl 1 (l.map AV.bool)
end Ab
namespace Ab
open Go Go.RowKit Go.Proofs
/-- a file of the call's own, as it lies; each list of words is as X says -/
structure OwnIn (X : List (List UInt8) → List AV → Prop) (τ : Heap) (lo : Nat) (f : List Oyez.Rec) (v : AV) : Prop where
  row : (f = [] ∧ v = .nils) ∨ (f ≠ [] ∧ v = .arr 3 lo 0 f.length ∧ ∃ cs, τ[lo]? = some (.cells cs) ∧ cs.length = f.length * 3 ∧
    ∀ (i : Nat) (r : Oyez.Rec), f[i]? = some r → ∃ w, List.take 3 (List.drop (i * 3) cs) = [.int .i64 r.kind, .int .i64 r.number, w] ∧
      ((r.words = [] ∧ w = .pl 1 []) ∨ ∃ (q : Nat) (xs : List AV), lo < q ∧ q < lo + 1 + (wne f).length ∧ w = .arr 1 q 0 r.words.length ∧ τ[q]? = some (.cells xs) ∧ X r.words xs))
theorem OwnIn.many {τ : Heap} {lo : Nat} {f : List Oyez.Rec} {v : AV} (h : OwnIn asIs τ lo f v) : OwnIn asMany τ lo f v := by
  refine ⟨?_⟩
  rcases h.row with h | ⟨h1, h2, cs, h3, h4, h5⟩
  · exact .inl h
  · refine .inr ⟨h1, h2, cs, h3, h4, fun i r hr => ?_⟩
    obtain ⟨w, g1, g2⟩ := h5 i r hr
    refine ⟨w, g1, ?_⟩
    rcases g2 with g2 | ⟨q, xs, a1, a2, a3, a4, a5⟩
    · exact .inl g2
    · exact .inr ⟨q, xs, a1, a2, a3, a4, by rw [asMany, show xs = strs r.words from a5]; simp [strs]⟩
/-- what is lent is the file -/
theorem OwnIn.fz {τ : Heap} {lo : Nat} {f : List Oyez.Rec} {v : AV} (h : OwnIn asIs τ lo f v) : Fz 0 τ v (fileAV f) := by
  rcases h.row with ⟨rfl, rfl⟩ | ⟨h1, rfl, cs, h3, h4, h5⟩
  · exact .nils_pl 3
  · have hl : f.length = (f.map recAV).length := by simp
    rw [hl]
    have hcell : ∀ (i : Nat) (r : Oyez.Rec), f[i]? = some r → ∃ w, (∀ j, j < 3 → cs[i * 3 + j]? = [AV.int .i64 r.kind, .int .i64 r.number, w][j]?) ∧ Fz 0 τ w (wordsAV r.words) := by
      intro i r hr
      obtain ⟨w, g1, g2⟩ := h5 i r hr
      refine ⟨w, fun j hj => ?_, ?_⟩
      · rw [← g1, List.getElem?_take_of_lt hj, List.getElem?_drop]
      · rcases g2 with ⟨g2, rfl⟩ | ⟨q, xs, a1, a2, rfl, a4, a5⟩
        · rw [g2]; exact .pl0 1 1
        · rw [show xs = strs r.words from a5] at a4
          exact fz_strs0 _ a4
    refine Fz.arr 3 lo 0 cs (f.map recAV) (fun i j => (cs[i * 3 + j]?).getD .any) (Nat.zero_le _) h3 (fun i x hx => ?_) (fun i x hx j y hy => ?_)
    · rw [List.getElem?_map, Option.map_eq_some_iff] at hx
      obtain ⟨r, hr, rfl⟩ := hx
      obtain ⟨w, g1, g2⟩ := hcell i r hr
      refine ⟨rfl, fun j y hy => ?_⟩
      have hj : j < 3 := (List.getElem?_eq_some_iff.1 hy).1
      refine ⟨?_, ?_⟩
      · match j, hj, hy with
        | 0, _, hy => simp [AV.cells] at hy; subst hy; rfl
        | 1, _, hy => simp [AV.cells] at hy; subst hy; rfl
        | 2, _, hy => simp [AV.cells] at hy; subst hy; rfl
      · have := g1 j hj
        rw [Nat.zero_add, this]
        match j, hj with
        | 0, _ => rfl
        | 1, _ => rfl
        | 2, _ => rfl
    · rw [List.getElem?_map, Option.map_eq_some_iff] at hx
      obtain ⟨r, hr, rfl⟩ := hx
      obtain ⟨w, g1, g2⟩ := hcell i r hr
      have hj : j < 3 := (List.getElem?_eq_some_iff.1 hy).1
      rw [g1 j hj]
      match j, hj, hy with
      | 0, _, hy => simp [AV.cells] at hy; subst hy; exact .int _ _
      | 1, _, hy => simp [AV.cells] at hy; subst hy; exact .int _ _
      | 2, _, hy => simp [AV.cells] at hy; subst hy; exact g2
/-- objects between two numbers have other values in as many cells; the others are as they were -/
structure Keep (lo hi : Nat) (τ τ' : Heap) : Prop where
  out : ∀ r, r < τ.length → ¬ (lo < r ∧ r < hi) → τ'[r]? = τ[r]?
  cells : ∀ (r : Nat) (cs : List AV), τ[r]? = some (.cells cs) → ∃ cs', τ'[r]? = some (.cells cs') ∧ cs'.length = cs.length
  len : τ.length ≤ τ'.length
theorem Keep.refl (lo hi : Nat) (τ : Heap) : Keep lo hi τ τ := ⟨fun _ _ _ => rfl, fun r cs h => ⟨cs, h, rfl⟩, Nat.le_refl _⟩
theorem Keep.app {lo hi : Nat} {τ τ' : Heap} (h : Keep lo hi τ τ') (g : Heap) : Keep lo hi τ (τ' ++ g) := by
  have hl := h.len
  refine ⟨fun r h1 h2 => ?_, fun r cs h1 => ?_, by rw [List.length_append]; omega⟩
  · rw [List.getElem?_append_left (by omega)]; exact h.out r h1 h2
  · obtain ⟨cs', h2, h3⟩ := h.cells r cs h1
    have := (List.getElem?_eq_some_iff.1 h2).1
    exact ⟨cs', by rw [List.getElem?_append_left this]; exact h2, h3⟩
theorem Keep.set {lo hi : Nat} {τ τ' : Heap} (h : Keep lo hi τ τ') {q : Nat} {cs cs' : List AV} (h1 : lo < q) (h2 : q < hi) (hq : τ'[q]? = some (.cells cs)) (hl : cs'.length = cs.length) : Keep lo hi τ (τ'.set q (.cells cs')) := by
  refine ⟨fun r g1 g2 => ?_, fun r ds g1 => ?_, by rw [List.length_set]; exact h.len⟩
  · rw [List.getElem?_set_ne (by omega)]; exact h.out r g1 g2
  · obtain ⟨ds', g2, g3⟩ := h.cells r ds g1
    by_cases e : q = r
    · subst e
      rw [hq] at g2
      obtain rfl : cs = ds' := by simpa using g2
      exact ⟨cs', List.getElem?_set_self (List.getElem?_eq_some_iff.1 hq).1, by omega⟩
    · exact ⟨ds', by rw [List.getElem?_set_ne e]; exact g2, g3⟩
/-- the file whose words are cleared -/
theorem Keep.own {lo hi : Nat} {τ τ' : Heap} (h : Keep lo hi τ τ') {f : List Oyez.Rec} {v : AV} (ho : OwnIn asMany τ lo f v) : OwnIn asMany τ' lo f v := by
  refine ⟨?_⟩
  rcases ho.row with h1 | ⟨h1, h2, cs, h3, h4, h5⟩
  · exact .inl h1
  · have hlo := (List.getElem?_eq_some_iff.1 h3).1
    refine .inr ⟨h1, h2, cs, by rw [h.out lo hlo (by omega)]; exact h3, h4, fun i r hr => ?_⟩
    obtain ⟨w, g1, g2⟩ := h5 i r hr
    refine ⟨w, g1, ?_⟩
    rcases g2 with g2 | ⟨q, xs, a1, a2, a3, a4, a5⟩
    · exact .inl g2
    · obtain ⟨xs', b1, b2⟩ := h.cells q xs a4
      exact .inr ⟨q, xs', a1, a2, a3, b1, b2.trans a5⟩
theorem OwnIn.more {X : List (List UInt8) → List AV → Prop} {τ : Heap} {lo : Nat} {f : List Oyez.Rec} {v : AV} (h : OwnIn X τ lo f v) (g : Heap) : OwnIn X (τ ++ g) lo f v := by
  refine ⟨?_⟩
  rcases h.row with h1 | ⟨h1, h2, cs, h3, h4, h5⟩
  · exact .inl h1
  · refine .inr ⟨h1, h2, cs, get_app h3, h4, fun i r hr => ?_⟩
    obtain ⟨w, g1, g2⟩ := h5 i r hr
    refine ⟨w, g1, ?_⟩
    rcases g2 with g2 | ⟨q, xs, a1, a2, a3, a4, a5⟩
    · exact .inl g2
    · exact .inr ⟨q, xs, a1, a2, a3, get_app a4, a5⟩
end Ab
namespace Oyez
end Oyez
