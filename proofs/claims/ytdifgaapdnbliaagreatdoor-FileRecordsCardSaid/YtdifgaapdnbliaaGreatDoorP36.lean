/-
  slices.DeleteFunc and slices.BinarySearchFunc over own rows of records, by their places.
-/
import Derived.Test.YtdifgaapdnbliaaGreatDoorP26
import Derived.Test.YtdifgaapdnbliaaGreatDoorP35
set_option linter.unusedSimpArgs false
set_option linter.unusedVariables false
set_option linter.unusedSectionVars false
namespace Ab
open Go Go.RowKit Go.Proofs
attribute [local irreducible] aws awp aw1 Og Om Oc Oa Ogd Ov Ot awd aw1d awh aw1h Ogh Ohd awl Ogl Ohl awv Ogv Ohv QThen QBlock QFn QFnM QRo QBe ACode AYield
theorem pv_nils : AV.nils.one = true := rfl
/-- the records of other places -/
def keepV (X : List PV) (q : Oyez.Place) : List PV := X.filter fun x => !decide (x.1 = q)
theorem keepV_all {X : List PV} {q : Oyez.Place} (h : ∀ x ∈ X, x.1 ≠ q) : keepV X q = X := by
  unfold keepV
  rw [List.filter_eq_self]
  intro x hx
  simpa using h x hx
theorem keepV_snoc (X : List PV) (q : Oyez.Place) (x : PV) : keepV (X ++ [x]) q = if x.1 = q then keepV X q else keepV X q ++ [x] := by
  unfold keepV
  rw [List.filter_append, List.filter_cons]
  by_cases h : x.1 = q <;> simp [h]
/-- a row's cells from a place on are emptied -/
theorem clear_row {r i n : Nat} {cs : List AV} {σ : Heap} (hr : σ[r]? = some (.cells cs)) (hc : cs.length = n * 3) (hi : i < n) :
    ∃ tl, tl.length = (n - i) * 3 ∧ aclear Tryz.prog #[23] (.arr 3 r i (n - i)) σ = some (.tup [], σ.set r (.cells (cs.take (i * 3) ++ tl))) := by
  have he : telem Tryz.prog 23 = some 59 := by simp
  have hs : tsa Tryz.prog 59 = some (3, true) := by simp
  have hz : azero Tryz.prog 59 (n - i) = some (List.replicate (n - i) [AV.int .i64 0, .int .i64 0, .nils]).flatten := by
    rw [azero_eq]
    simp
  have hl : ((List.replicate (n - i) [AV.int .i64 0, .int .i64 0, .nils]).flatten).length = (n - i) * 3 := by simp
  refine ⟨_, hl, ?_⟩
  have hall : ((List.replicate (n - i) [AV.int .i64 0, .int .i64 0, .nils]).flatten).all AV.one = true := by
    rw [List.all_eq_true]
    intro x hx
    rw [List.mem_flatten] at hx
    obtain ⟨l, h1, h2⟩ := hx
    rw [List.mem_replicate] at h1
    rw [h1.2] at h2
    simp at h2
    rcases h2 with rfl | rfl <;> rfl
  simp only [aclear, he, hs, hz, hr]
  rw [if_pos ⟨trivial, by omega, hall⟩]
  have : wr cs (i * 3) (List.replicate (n - i) [AV.int .i64 0, .int .i64 0, .nils]).flatten = cs.take (i * 3) ++ (List.replicate (n - i) [AV.int .i64 0, .int .i64 0, .nils]).flatten := by
    unfold wr
    rw [hl, List.drop_eq_nil_of_le (by rw [hc]; omega), List.append_nil]
  rw [this]
set_option maxHeartbeats 4000000 in
theorem delete_calls {r t : Nat} (X : List PV) (q : Oyez.Place) (hX : ∀ x ∈ X, x.2.one = true) (hn : X.length ≤ 2 ^ 40) (hne : t ≠ r) (σ : Heap) (hr : σ[r]? = some (.cells (cellsV X))) (ht : σ[t]? = some (.cells [.int .i64 q.kind, .int .i64 q.number])) :
    ACalls Tryz.prog 178 [.arr 3 r 0 X.length, .fn (.func 179) [] [.ptr t 0]] σ fun v σ' => v = .arr 3 r 0 (keepV X q).length ∧ ∃ g, σ' = σ.set r (.cells (cellsV (keepV X q))) ++ g := by
  have hrl := (List.getElem?_eq_some_iff.1 hr).1
  have htl := (List.getElem?_eq_some_iff.1 ht).1
  have hself : σ.set r (.cells (cellsV X)) = σ := by
    obtain ⟨h1, h2⟩ := List.getElem?_eq_some_iff.1 hr
    rw [← h2]; exact List.set_getElem_self h1
  obtain ⟨n, hln⟩ : ∃ n, X.length = n := ⟨_, rfl⟩
  have hlen := cellsV_len X
  refine ACalls.fit ?_
  suffices hh : ∀ Post : AV → Heap → Prop, (∀ v σ', (∃ (v' : AV) (r1 : Nat) (cs tl : List AV), (v = v' ∨ ∃ k2 r2 o2 l2 c2, v = .arc k2 r2 o2 l2 c2 ∧ v' = .arr k2 r2 o2 l2) ∧ σ'[r1]? = some (.cells (cs ++ tl)) ∧
      (v' = .arr 3 r 0 (keepV X q).length ∧ ∃ g, σ'.set r1 (.cells cs) = σ.set r (.cells (cellsV (keepV X q))) ++ g)) → Post v σ') → ACalls Tryz.prog 178 [.arr 3 r 0 X.length, .fn (.func 179) [] [.ptr t 0]] σ Post from hh _ fun _ _ h => h
  intro Post hPost
  refine acalls_cutC 5 (fun env σ' => ∃ (u : List AV) (Y : List PV) (tl : List AV) (g : Heap), env = { t := u } ∧ u.length = 42 ∧ tg u 0 = .arr 3 r 0 n ∧ tg u 5 = .int .i64 Y.length ∧ σ' = σ.set r (.cells (cellsV Y ++ tl)) ++ g ∧ Y = keepV X q ∧ (cellsV Y ++ tl).length = n * 3 ∧ 0 < n ∧ Y.length ≤ n) Tryz.func178 rfl (enters_fn Tryz.func178 (by decide) rfl) ?_ ?_
  · simp [-aclear, Tryz.ntmps178]
    refine StA.of ((indexDel_calls X q hX hn σ hr ht).mono ?_)
    rintro v s ⟨hs, ⟨rfl, hall⟩ | ⟨i, hi, rfl, hiq, hno⟩⟩
    · rw [hs]
      simp [-aclear]
      have hk := keepV_all hall
      refine hPost _ _ ⟨_, r, cellsV X, [], .inl rfl, by rw [List.append_nil]; exact hr, by rw [hk], [], by rw [hk, List.append_nil]⟩
    · rw [hs]
      have hi1 : ¬ (i : Int) = -1 := by omega
      have hx := w64 (n := (i : Int) + 1) (by omega) (by omega)
      rw [hln]
      simp [-aclear, hi1, hx]
      refine ACode_loopT (fun env σ' => ∃ (u : List AV) (i j : Nat) (Z : List PV) (g : Heap), env = { t := u } ∧ u.length = 42 ∧ tg u 0 = .arr 3 r 0 n ∧ tg u 1 = .fn (.func 179) [] [.ptr t 0] ∧ tg u 5 = .int .i64 i ∧ tg u 6 = .int .i64 j ∧ σ' = σ.set r (.cells (cellsV Z)) ++ g ∧ i < j ∧ j ≤ n ∧ Z.length = n ∧ Z.take i = keepV (X.take j) q ∧ (∀ m, j ≤ m → Z[m]? = X[m]?))
        (fun env _ => match tg env.t 6 with | .int _ i => n - i.toNat | _ => 0) ⟨_, i, i + 1, X, [], rfl, by simp, by simp, by simp, by simp, by simp, by simp [hself], by omega, by omega, hln, by
          rw [List.take_succ_eq_append_getElem hi, keepV_snoc, if_pos hiq, keepV_all hno], fun m _ => rfl⟩ ?_
      clear hiq hno hi hi1 hx
      rintro env _ ⟨u, i, j, Z, g, rfl, hl, g0, g1, g5, g6, rfl, hij, hj, hZ, hk, hrest⟩
      have hlz := cellsV_len Z
      rw [hZ] at hlz
      have hrg : ∀ (Y : AObj) (g : Heap), (σ.set r Y ++ g)[r]? = some Y := fun Y g => by rw [List.getElem?_append_left (by simpa using hrl)]; simp [hrl]
      have hsg : ∀ (Y Y' : AObj) (g : Heap), (σ.set r Y ++ g).set r Y' = σ.set r Y' ++ g := fun Y Y' g => set_set hrl Y Y'
      rcases Nat.lt_or_ge j n with hlt | hge
      · have hlt' : (j : Int) < (n : Int) := by omega
        have hx := w64 (n := (j : Int) + 1) (by omega) (by omega)
        have hxi := w64 (n := (i : Int) + 1) (by omega) (by omega)
        have hjz : j < Z.length := by omega
        have hjx : j < X.length := by omega
        have hzx : Z[j] = X[j] := by
          have := hrest j (Nat.le_refl _)
          rw [List.getElem?_eq_getElem hjz, List.getElem?_eq_getElem hjx] at this
          exact Option.some.inj this
        have hone : Z[j].2.one = true := by rw [hzx]; exact hX _ (List.getElem_mem hjx)
        have hsb := cellsV_sub Z hjz
        have hb : j * 3 + 3 ≤ n * 3 := by omega
        have hbi : i * 3 + 3 ≤ n * 3 := by omega
        have hin : i < n := by omega
        have hin' : (i : Int) < (n : Int) := by omega
        have hpt : ∀ (Y W : AObj) (g : Heap), (σ.set r Y ++ (g ++ [W]))[σ.length + g.length]? = some W := fun Y W g => by
          rw [List.getElem?_append_right (by rw [List.length_set]; omega), List.length_set, Nat.add_sub_cancel_left, List.getElem?_append_right (Nat.le_refl _), Nat.sub_self]; rfl
        have hst : ∀ (Y W W' : AObj) (g : Heap), (σ.set r Y ++ (g ++ [W])).set (σ.length + g.length) W' = σ.set r Y ++ (g ++ [W']) := fun Y W W' g => by
          rw [List.set_append_right _ _ (by rw [List.length_set]; omega), List.length_set, Nat.add_sub_cancel_left, List.set_append_right _ _ (Nat.le_refl _), Nat.sub_self]; rfl
        have htt : ∀ (Y : AObj) (g : Heap), (σ.set r Y ++ g)[t]? = some (.cells [.int .i64 q.kind, .int .i64 q.number]) := fun Y g => by
          rw [List.getElem?_append_left (by simpa using htl), List.getElem?_set_ne (Ne.symm hne)]; exact ht
        have hset := cellsV_set Z i Z[j] (by omega)
        have htk : X.take (j + 1) = X.take j ++ [X[j]] := List.take_succ_eq_append_getElem hjx
        have hk2 := keepV_snoc (X.take j) q X[j]
        rw [← htk] at hk2
        have hZi : (Z.set i Z[j]).take (i + 1) = Z.take i ++ [Z[j]] := by
          rw [List.take_succ_eq_append_getElem (by rw [List.length_set]; omega), List.getElem_set_self, List.take_set_of_le (Nat.le_refl _)]
        simp [-AV.one, -aclear, hl, g0, g1, g5, g6, hlt', hlt, hrg, hlz, hsb, hb, hpt, hst, pv_int, pv_nils, hone]
        refine StA.of ((del179_calls Z[j].1 q Z[j].2 hone _ (htt _ _)).mono ?_)
        rintro _ _ ⟨rfl, rfl⟩
        by_cases he : Z[j].1 = q
        · simp [-AV.one, -aclear, hl, g0, g1, g5, g6, hlt', hlt, he, hx]
          refine ⟨⟨i, rfl, j + 1, by simp, Z, ⟨_, rfl⟩, by omega, by omega, hZ, ?_, fun m hm => hrest m (by omega)⟩, by omega⟩
          rw [hk2, if_pos (hzx ▸ he), hk]
        · simp [-AV.one, -aclear, hl, g0, g1, g5, g6, hlt', hlt, he, hx, hrg, hsg, hlz, hpt, pv_int, pv_nils, hone, hin, hin', hbi, hset, hxi]
          refine ⟨⟨i + 1, by simp, j + 1, by simp, Z.set i Z[j], ⟨_, rfl⟩, by omega, by omega, by simp [hZ], ?_, fun m hm => ?_⟩, by omega⟩
          · rw [hZi, hk2, if_neg (fun e => he (hzx ▸ e)), hk, hzx]
          · rw [List.getElem?_set_ne (by omega)]
            exact hrest m (by omega)
      · obtain rfl : j = n := by omega
        have hge' : ¬ (j : Int) < (j : Int) := by omega
        have hin : i < j := by omega
        obtain ⟨tl, htl1, hcl⟩ := clear_row (σ := σ.set r (.cells (cellsV Z)) ++ g) (r := r) (i := i) (n := j) (hrg _ _) hlz hin
        have hin1 : i ≤ j := by omega
        have hin2 : ¬ i = j := by omega
        simp [-AV.one, -aclear, hl, g0, g1, g5, g6, hin1, hin2, hcl]
        have hY : Z.take i = keepV X q := by rw [hk, List.take_of_length_le (by omega)]
        have hYl : i = (keepV X q).length := by rw [← hY, List.length_take]; omega
        have hct := (cellsV_take Z i (by omega)).1
        rw [hsg, hct, hY]
        refine ⟨_, by rw [hYl], tl, ⟨_, rfl⟩, rfl, ?_, by omega, by omega⟩
        rw [cellsV_len, htl1, ← hYl, ← Nat.add_mul, show i + (j - i) = j by omega]
  · rintro env _ ⟨u, Y, tl, g, rfl, hl, g0, g5, rfl, hY, hc, hn0, hYn⟩
    refine ACode_room (q := 0) g0 (by omega) (cs := cellsV Y ++ tl) (by rw [List.getElem?_append_left (by simpa using hrl)]; simp [hrl]) hc fun cap hcap => ?_
    refine awp_sound _ ?_
    rw [set_set hrl]
    have hm : Y.length ≤ cap := by omega
    have hm0 : ¬ cap = 0 := by omega
    simp [-AV.one, hl, g0, g5, hm, hm0]
    refine hPost _ _ ⟨.arr 3 r 0 Y.length, r, cellsV Y, tl ++ List.replicate ((cap - n) * 3) .any, .inr ⟨_, _, _, _, _, rfl, rfl⟩, ?_, by rw [hY], g, ?_⟩
    · rw [List.getElem?_append_left (by simpa using hrl)]
      simp [hrl]
    · rw [set_set hrl, hY]
end Ab
