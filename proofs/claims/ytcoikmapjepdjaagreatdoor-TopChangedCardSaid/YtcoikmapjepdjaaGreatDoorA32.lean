/-
  slices.BinarySearchFunc OVER AN OWN ROW OF RECORDS; a record put at its place in an own row.
-/
import Derived.Test.YtcoikmapjepdjaaGreatDoorA13
import Derived.Test.YtcoikmapjepdjaaGreatDoorA17
import Derived.Test.YtcoikmapjepdjaaGreatDoorA25
set_option linter.unusedSimpArgs false
set_option linter.unusedVariables false
set_option linter.unusedSectionVars false
namespace Ab
open Go Go.RowKit Go.Proofs
attribute [local irreducible] aws awp aw1 Og Om Oc Oa Ogd Ov Ot awd aw1d awh aw1h Ogh Ohd awl Ogl Ohl awv Ogv Ohv QThen QBlock QFn QFnM QRo QBe ACode AYield
theorem ordB_lt (a b : Oyez.Rec) : ordB a b < 0 ↔ a.place.lt b.place = true := by
  rw [Oyez.Place.lt_iff]
  unfold ordB Oyez.Rec.place
  simp only
  split <;> omega
theorem ordB_eq (a b : Oyez.Rec) : ordB a b = 0 ↔ a.place = b.place := by
  unfold ordB
  constructor
  · intro h
    split at h
    · exact Oyez.Place.ext' (by assumption) (by show a.number = b.number; omega)
    · omega
  · intro h
    have h1 : a.kind = b.kind := congrArg Oyez.Place.kind h
    have h2 : a.number = b.number := congrArg Oyez.Place.number h
    rw [if_pos h1]
    omega
theorem cellsR_append (l m : List Oyez.Rec) : cellsR (l ++ m) = cellsR l ++ cellsR m := by unfold cellsR; rw [List.flatMap_append]
theorem cellsR_take (l : List Oyez.Rec) (i : Nat) (h : i ≤ l.length) : (cellsR l).take (i * 3) = cellsR (l.take i) ∧ (cellsR l).drop (i * 3) = cellsR (l.drop i) := by
  have e : cellsR l = cellsR (l.take i) ++ cellsR (l.drop i) := by rw [← cellsR_append, List.take_append_drop]
  have h1 : (cellsR (l.take i)).length = i * 3 := by rw [cellsR_len, List.length_take]; omega
  rw [e, ← h1]
  exact ⟨List.take_left, List.drop_left⟩
/-- a record at a place of a list -/
def insAt (l : List Oyez.Rec) (t : Oyez.Rec) (i : Nat) : List Oyez.Rec := l.take i ++ t :: l.drop i
theorem insC_cells (l : List Oyez.Rec) (t : Oyez.Rec) (i : Nat) (h : i ≤ l.length) : insC (cellsR l) (recCells t) i = cellsR (insAt l t i) := by
  obtain ⟨h1, h2⟩ := cellsR_take l i h
  unfold insC insAt
  rw [h1, h2, cellsR_append]
  show _ = _ ++ (recCells t ++ cellsR (l.drop i))
  rw [List.append_assoc]
/-- it is the place of a record -/
structure PlaceAt (l : List Oyez.Rec) (t : Oyez.Rec) (i : Nat) : Prop where
  le : i ≤ l.length
  lo : ∀ (m : Nat) (h : m < l.length), m < i → l[m].place.lt t.place = true
  hi : ∀ (m : Nat) (h : m < l.length), i ≤ m → l[m].place.lt t.place = false
theorem mem_insAt {l : List Oyez.Rec} {t x : Oyez.Rec} {i : Nat} : x ∈ insAt l t i ↔ x = t ∨ x ∈ l := by
  unfold insAt
  rw [List.mem_append, List.mem_cons]
  have : x ∈ l ↔ x ∈ l.take i ∨ x ∈ l.drop i := by
    conv => lhs; rw [← List.take_append_drop i l]
    rw [List.mem_append]
  rw [this]
  constructor
  · rintro (h | h | h)
    · exact .inr (.inl h)
    · exact .inl h
    · exact .inr (.inr h)
  · rintro (h | h | h)
    · exact .inr (.inl h)
    · exact .inl h
    · exact .inr (.inr h)
theorem PlaceAt.found {l : List Oyez.Rec} {t : Oyez.Rec} {i : Nat} (hs : Oyez.RSorted l) (h : PlaceAt l t i) : t.place ∈ l.map Oyez.Rec.place ↔ ∃ hi : i < l.length, l[i].place = t.place := by
  constructor
  · intro hm
    obtain ⟨x, hx, e⟩ := List.mem_map.1 hm
    obtain ⟨m, hml, rfl⟩ := List.mem_iff_getElem.1 hx
    have h1 : i ≤ m := by
      rcases Nat.lt_or_ge m i with h2 | h2
      · have := h.lo m hml h2
        rw [e, Oyez.Place.lt_irrefl] at this
        cases this
      · exact h2
    rcases Nat.lt_or_ge i m with h2 | h2
    · have h3 := h.hi i (by omega) (Nat.le_refl _)
      unfold Oyez.RSorted Oyez.Sorted at hs
      rw [List.pairwise_map] at hs
      have := List.pairwise_iff_getElem.1 hs i m (by omega) hml h2
      rw [e, h3] at this
      cases this
    · obtain rfl : m = i := by omega
      exact ⟨hml, e⟩
  · rintro ⟨hi, e⟩
    exact e ▸ List.mem_map_of_mem (List.getElem_mem hi)
theorem PlaceAt.sorted {l : List Oyez.Rec} {t : Oyez.Rec} {i : Nat} (hs : Oyez.RSorted l) (h : PlaceAt l t i) (hn : t.place ∉ l.map Oyez.Rec.place) : Oyez.RSorted (insAt l t i) := by
  unfold Oyez.RSorted Oyez.Sorted insAt at *
  rw [List.pairwise_map] at hs ⊢
  have e : l = l.take i ++ l.drop i := (List.take_append_drop i l).symm
  rw [e, List.pairwise_append] at hs
  obtain ⟨s1, s2, s3⟩ := hs
  have low : ∀ x ∈ l.take i, x.place.lt t.place = true := fun x hx => by
    obtain ⟨m, hm, rfl⟩ := List.mem_iff_getElem.1 hx
    rw [List.length_take] at hm
    rw [List.getElem_take]
    exact h.lo m (by omega) (by omega)
  have high : ∀ x ∈ l.drop i, t.place.lt x.place = true := fun x hx => by
    have hxl : x ∈ l := List.mem_of_mem_drop hx
    obtain ⟨m, hm, rfl⟩ := List.mem_iff_getElem.1 hx
    rw [List.length_drop] at hm
    have h1 := h.hi (i + m) (by omega) (by omega)
    rw [List.getElem_drop] at hxl ⊢
    cases h2 : t.place.lt l[i + m].place with
    | true => rfl
    | false => exact absurd (Oyez.Place.lt_tri h1 h2 ▸ List.mem_map_of_mem hxl) hn
  refine List.pairwise_append.2 ⟨s1, List.pairwise_cons.2 ⟨high, s2⟩, fun x hx y hy => ?_⟩
  rcases List.mem_cons.1 hy with rfl | hy
  · exact low x hx
  · exact s3 x hx y hy
theorem smallR_of {r : Oyez.Rec} (h : Oyez.recErr r = 0) : SmallR r := by
  have := Oyez.placeErr_rng ((Oyez.recErr_iff r).1 h).1
  unfold SmallR
  omega
theorem InsQ.acc {τ g : Heap} {l : List Oyez.Rec} {t : Oyez.Rec} {i j : Nat} {v : AV} {σ' : Heap} (h : InsQ (τ ++ g) (τ.length + j) l.length i (cellsR l) (recCells t) v σ') (hi : i ≤ l.length) :
    ∃ g' j', σ' = τ ++ g' ∧ Acc τ g' 3 v ((insAt l t i).map recAV) (some j') := by
  obtain ⟨r', rfl, h1, h2, h3, h4⟩ := h
  rw [List.length_append] at h2
  have ht : σ'.take τ.length = τ := by
    apply List.ext_getElem?
    intro k
    rcases Nat.lt_or_ge k τ.length with hk | hk
    · rw [List.getElem?_take_of_lt hk, h4 k (by omega) (by rw [List.length_append]; omega), List.getElem?_append_left hk]
    · rw [List.getElem?_eq_none (by rw [List.length_take]; omega), List.getElem?_eq_none hk]
  have hr' : τ.length ≤ r' := by
    rcases h3 with h3 | h3
    · omega
    · rw [List.length_append] at h3; omega
  have hl : (insAt l t i).length = l.length + 1 := by
    unfold insAt
    rw [List.length_append, List.length_cons, List.length_take, List.length_drop]
    omega
  refine ⟨σ'.drop τ.length, r' - τ.length, ?_, ⟨fun x hx => ?_, ?_, ?_⟩⟩
  · conv => lhs; rw [← List.take_append_drop τ.length σ', ht]
  · obtain ⟨r, _, rfl⟩ := List.mem_map.1 hx
    exact ⟨rfl, by simp [AV.cells, AV.one]⟩
  · rw [List.length_map, hl, show τ.length + (r' - τ.length) = r' by omega]
  · rw [List.getElem?_drop, show τ.length + (r' - τ.length) = r' by omega, h1, insC_cells l t i hi, cellsR_map]
set_option maxHeartbeats 2000000 in
theorem insert_nil {r2 : Nat} {ds : List AV} (σ : Heap) (hr2 : σ[r2]? = some (.cells ds)) (hd : ds.length = 3) (hod : ∀ x ∈ ds, AV.one x = true) :
    ACalls Tryz.prog 88 [.nils, .int .i64 0, .arr 3 r2 0 1] σ fun v σ' => v = .arr 3 σ.length 0 1 ∧ σ' = σ ++ [.cells ds] := by
  refine acalls_fn Tryz.func88 rfl (enters_fn Tryz.func88 (by decide) rfl) ?_
  have he : telem Tryz.prog 57 = some 88 := by simp
  have hs : tsa Tryz.prog 88 = some (3, true) := by simp
  have hz : tzk Tryz.prog 88 3 = true := by simp
  have hb : tby Tryz.prog 88 = 40 := by simp
  have k1 : sub ds (0 * 3) (1 * 3) = ds := by unfold sub; rw [Nat.zero_mul, List.drop_zero, List.take_of_length_le (by omega)]
  have ha : acells 3 (.arr 3 r2 0 1) σ = some (ds, 1) := by rw [acells_row hr2 (by omega) (by rw [k1]; exact hod), k1]
  have hap : aappend Tryz.prog #[57, 57] .nils (.arr 3 r2 0 1) σ = some (.arr 3 σ.length 0 1, σ ++ [.cells ds]) := by
    simp [-acells, aappend, he, hs, hz, hb, ha]
  simp (maxSteps := 400000) [-aappend, -aappendZ, -acopy, -acopyC, Tryz.ntmps88, hap]
theorem wu64 {n : Int} (h1 : 0 ≤ n) (h2 : n ≤ 9223372036854775807) : IntKind.u64.wrap n = n := by
  unfold IntKind.wrap
  have e1 : (IntKind.bits .u64) = 64 := rfl
  have e2 : IntKind.signed .u64 = false := rfl
  simp only [e1, e2, Bool.false_and, Bool.false_eq_true, if_false]
  have e3 : (2 ^ 64 : Int) = 18446744073709551616 := by decide
  rw [e3]; omega
set_option maxHeartbeats 2000000 in
theorem bsf_calls {r : Nat} (l : List Oyez.Rec) (t : Oyez.Rec) (ht : SmallR t) (hs : ∀ x ∈ l, SmallR x) (hsr : Oyez.RSorted l) (hn : l.length ≤ 2 ^ 20) (σ : Heap) (hr : σ[r]? = some (.cells (cellsR l))) :
    ACalls Tryz.prog 86 [.arr 3 r 0 l.length, recAV t, .fn (.func 87) [] []] σ fun v σ' => σ' = σ ∧ ∃ i : Nat, v = .tup [.int .i64 i, .bool (decide (t.place ∈ l.map Oyez.Rec.place))] ∧ PlaceAt l t i := by
  obtain ⟨B, hB⟩ : ∃ B, decide (t.place ∈ l.map Oyez.Rec.place) = B := ⟨_, rfl⟩
  rw [hB]
  refine ACalls.forget ?_
  refine acalls_fn Tryz.func86 rfl (enters_fn Tryz.func86 (by decide) rfl) ?_
  have hgs : ∀ c, (σ ++ [c])[r]? = some (.cells (cellsR l)) := fun c => get_app hr
  have hlen := cellsR_len l
  have hsrt : ∀ (a b : Nat) (hb : b < l.length), (h : a < b) → (l[a]'(by omega)).place.lt l[b].place = true := by
    intro a b hb h
    unfold Oyez.RSorted Oyez.Sorted at hsr
    rw [List.pairwise_map] at hsr
    exact List.pairwise_iff_getElem.1 hsr a b (by omega) hb h
  obtain ⟨n, hln⟩ : ∃ n, l.length = n := ⟨_, rfl⟩
  rw [hln] at hn hlen ⊢
  simp [Tryz.ntmps86]
  refine ACode_loopT (fun env σ' => ∃ (u : List AV) (i j : Nat), env = { t := u } ∧ u.length = 49 ∧ tg u 0 = .arr 3 r 0 n ∧ tg u 2 = .fn (.func 87) [] [] ∧ tg u 4 = .ptr σ.length 0 ∧ tg u 8 = .int .i64 n ∧ tg u 9 = .int .i64 i ∧ tg u 10 = .int .i64 j ∧ σ' = σ ++ [.cells (recCells t)] ∧ i ≤ j ∧ j ≤ n ∧
      (∀ (m : Nat) (h : m < l.length), m < i → l[m].place.lt t.place = true) ∧ (∀ (m : Nat) (h : m < l.length), j ≤ m → l[m].place.lt t.place = false))
    (fun env _ => match tg env.t 9, tg env.t 10 with | .int _ i, .int _ j => j.toNat - i.toNat | _, _ => 0) ⟨_, 0, n, rfl, by simp, by simp, by simp, by simp, by simp, by simp, by simp, by simp [recCells], by omega, by omega, fun m h h2 => by omega, fun m h h2 => by omega⟩ ?_
  rintro env _ ⟨u, i, j, rfl, hl, g0, g2, g4, g8, g9, g10, rfl, hij, hjn, hlo, hhi⟩
  rcases Nat.lt_or_ge i j with hlt | hge
  · obtain ⟨h, hh⟩ : ∃ h, (i + j) / 2 = h := ⟨_, rfl⟩
    have h1 : i ≤ h := by omega
    have h2 : h < j := by omega
    have hhl : h < l.length := by omega
    have hhn : h < n := by omega
    have hhn' : (h : Int) < (n : Int) := by omega
    have hlt' : (i : Int) < (j : Int) := by omega
    have hx1 := w64 (n := (i : Int) + (j : Int)) (by omega) (by omega)
    have hu := wu64 (n := (i : Int) + (j : Int)) (by omega) (by omega)
    have hfd : ((i : Int) + (j : Int)).fdiv (2 ^ min 1 IntKind.u64.bits) = (h : Int) := by
      show ((i : Int) + (j : Int)).fdiv 2 = (h : Int)
      rw [Int.fdiv_eq_ediv_of_nonneg _ (by omega)]
      omega
    have hx2 := w64 (n := (h : Int)) (by omega) (by omega)
    have hx3 := w64 (n := (h : Int) + 1) (by omega) (by omega)
    have hsb := cellsR_sub l hhl
    have hb : h * 3 + 3 ≤ n * 3 := by omega
    simp [hl, g0, g2, g4, g8, g9, g10, hlt', hx1, hu, hfd, hx2]
    refine ACode_draw0 mixed (by kernel_rfl) ?_
    simp [hl, g0, g2, g4, g8, g9, g10, hgs, hhn, hhn', hlen, hsb, hb, recCells]
    refine Ou_use0 (order_calls l[h] t (hs _ (List.getElem_mem hhl)) ht) ?_
    by_cases ho : ordB l[h] t < 0
    · have hp := (ordB_lt _ _).1 ho
      simp [hl, g0, g2, g4, g8, g9, g10, ho, hx3]
      refine ⟨⟨h + 1, by simp, j, rfl, by omega, by omega, fun m hm hmi => ?_, hhi⟩, by omega⟩
      rcases Nat.lt_or_ge m h with h3 | h3
      · exact Oyez.Place.lt_trans (hsrt m h hhl h3) hp
      · obtain rfl : m = h := by omega
        exact hp
    · have hp : l[h].place.lt t.place = false := by
        cases hq : l[h].place.lt t.place with
        | false => rfl
        | true => exact absurd ((ordB_lt _ _).2 hq) ho
      simp [hl, g0, g2, g4, g8, g9, g10, ho]
      refine ⟨⟨i, rfl, h, rfl, by omega, by omega, hlo, fun m hm hmi => ?_⟩, by omega⟩
      rcases Nat.lt_or_ge h m with h3 | h3
      · cases hq : l[m].place.lt t.place with
        | false => rfl
        | true =>
          have := Oyez.Place.lt_trans (hsrt h m hm h3) hq
          rw [hp] at this
          cases this
      · obtain rfl : m = h := by omega
        exact hp
  · obtain rfl : i = j := by omega
    have hP : PlaceAt l t i := ⟨by omega, hlo, hhi⟩
    have hf := hP.found hsr
    simp [hl, g0, g2, g4, g8, g9, g10]
    refine ACode_draw0 mixed (by kernel_rfl) ?_
    by_cases hin : i < n
    · have hin' : (i : Int) < (n : Int) := by omega
      have hil : i < l.length := by omega
      have hsb := cellsR_sub l hil
      have hb : i * 3 + 3 ≤ n * 3 := by omega
      simp [hl, g0, g2, g4, g8, g9, g10, hgs, hin, hin', hlen, hsb, hb, recCells]
      refine Ou_use0 (order_calls l[i] t (hs _ (List.getElem_mem hil)) ht) ?_
      have hd : decide (ordB l[i] t = 0) = decide (t.place ∈ l.map Oyez.Rec.place) := by
        rw [decide_eq_decide, ordB_eq, hf]
        exact ⟨fun h => ⟨hil, h⟩, fun ⟨_, h⟩ => h⟩
      rw [hB] at hd
      simp [-decide_eq_true_eq, hl, g0, g2, g4, g8, g9, g10, hd]
      exact ⟨_, Fz.tup2 (.int _ _) (.bool _), i, rfl, hP⟩
    · have hin' : ¬ (i : Int) < (n : Int) := by omega
      have hd : decide (t.place ∈ l.map Oyez.Rec.place) = false := by
        rw [decide_eq_false_iff_not, hf]
        rintro ⟨h, _⟩
        omega
      rw [hB] at hd
      simp [hl, g0, g2, g4, g8, g9, g10, hin, hin', hd]
      exact ⟨_, Fz.tup2 (.int _ _) (.bool _), i, rfl, hP⟩
end Ab
