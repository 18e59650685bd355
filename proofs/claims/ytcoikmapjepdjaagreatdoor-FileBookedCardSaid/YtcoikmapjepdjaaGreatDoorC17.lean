/-
  strings.Join, a record's line.
  THE IMPLEMENTATION's RECORDS: names, lines, errors.
  THE IMPLEMENTATION's Check.
-/
import Derived.Test.YtcoikmapjepdjaaGreatDoorC08
import Derived.Test.YtcoikmapjepdjaaGreatDoorC12
import Derived.Test.YtcoikmapjepdjaaGreatDoorC16
import Derived.Test.YtcoikmapjepdjaaGreatDoorC15
set_option linter.unusedSimpArgs false
set_option linter.unusedVariables false
set_option linter.unusedSectionVars false
namespace Ab
open Go Go.RowKit Go.Proofs
attribute [local irreducible] aws awp aw1 Og Om Oc Oa Ogd Ov Ot awd aw1d awh aw1h Ogh Ohd QThen QBlock QFn QFnM ACode AYield
def join32 (ws : List (List UInt8)) : List UInt8 := [32].intercalate ws
theorem join_arr (σ : Heap) (r : Nat) (ws : List (List UInt8)) (h : σ[r]? = some (.cells (ws.map AV.str))) (hl : ws.length ≤ 2 ^ 40) (hj : (join32 ws).length ≤ 2 ^ 40) :
    ACalls Tryz.prog 259 [.arr 1 r 0 ws.length, .str [32]] σ (fun v σ' => v = .str (join32 ws) ∧ σ' = σ) := by
  refine .inl ⟨enters_fn Tryz.func259 (by decide) rfl, fun C cargs hI hv => callsIn_wide.2 ?_⟩
  obtain ⟨x, q, rfl, h1, h2⟩ := hv.inv
  obtain ⟨y, q, rfl, h3, h4⟩ := h2.inv
  obtain rfl := h4.of_nil
  obtain ⟨b, cap, e, n, hb, hc1, hc2, hc3, rfl⟩ := h1.arr_inv
  rw [h3.str_inv]
  have hmap : (ws.map fun w => ByteArray.mk ⟨w⟩).map (·.data.toList) = ws := by
    rw [List.map_map]
    exact List.map_id'' (fun w => rfl) ws
  obtain ⟨_, c, hc, _⟩ := hI.live r b _ hb h rfl
  have hbl : b < C.w.heap.size := (Array.getElem?_eq_some_iff.1 hc).1
  have key := Tryz.strings_Join b (0 * 1) cap (ws.map fun w => ByteArray.mk ⟨w⟩) ⟨⟨[32]⟩⟩ C.w (fun j x hx => by
    rw [List.getElem?_map, Option.map_eq_some_iff] at hx
    obtain ⟨w, hw, rfl⟩ := hx
    obtain ⟨v, hv, hvr⟩ := hI.cell_at hb h j (.str w) (by rw [List.getElem?_map, hw]; rfl)
    rw [Nat.zero_mul, Nat.zero_add, hv, hvr.str_inv]) hbl (by rw [List.length_map]; omega) (by rw [List.length_map]; exact hc1) (by
      rw [hmap]
      have : (join32 ws).length ≤ 140737488355328 := by omega
      exact this)
  rw [hmap, List.length_map] at key
  refine key.mono ?_
  rintro e w' ⟨rfl, hbw⟩
  have hE := Ext.below hI.plt hbw (fun h => False.elim h)
  refine ⟨_, C.at_ w', .str (join32 ws), σ, rfl, rfl, hE, hI.below hbw, ?_, rfl, rfl⟩
  have : VR (C.at_ w') (.str (join32 ws)) (.string ⟨⟨join32 ws⟩⟩) := .str _
  simpa [join32, Lib.join] using this
theorem joined_arr (σ : Heap) (r : Nat) (ws : List (List UInt8)) (h : σ[r]? = some (.cells (ws.map AV.str))) (hl : ws.length ≤ 2 ^ 40) (hj : (join32 ws).length ≤ 2 ^ 40) :
    ACalls Tryz.prog 189 [.arr 1 r 0 ws.length] σ (fun v σ' => v = .str (join32 ws) ∧ σ' = σ) := by
  refine acalls_fn Tryz.func189 rfl (enters_fn Tryz.func189 (by decide) rfl) ?_
  simp [Tryz.ntmps189]
  refine StA.of ((join_arr σ r ws h hl hj).mono ?_)
  rintro v σ' ⟨rfl, rfl⟩
  simp
end Ab
namespace Ab
open Go Go.RowKit Go.Proofs
attribute [local irreducible] aws awp aw1 Og Om Oc Oa Ogd Ov Ot awd aw1d awh aw1h Ogh Ohd awl Ogl Ohl QThen QBlock QFn QFnM ACode AYield
abbrev nameList : List (List UInt8) := [Oyez.nameN 0, Oyez.nameN 1, Oyez.nameN 2, Oyez.nameN 3, Oyez.nameN 4]
theorem names_calls : APure Tryz.prog 190 [] (wordsAV nameList) := by
  refine APure.of fun σ => ?_
  refine acalls_fn Tryz.func190 rfl (enters_fn Tryz.func190 (by decide) rfl) ?_
  simp [Tryz.ntmps190]
  have hA : Acc σ [.cells (nameList.map AV.str)] 1 (.arr 1 (σ.length + 0) 0 5) (nameList.map AV.str) (some 0) := ⟨fun x hx => by
    obtain ⟨w, _, rfl⟩ := List.mem_map.1 hx
    exact ⟨rfl, by simp [AV.cells, AV.one]⟩, rfl, rfl⟩
  exact hA.fz fun x hx y hy => by
    obtain ⟨w, _, rfl⟩ := List.mem_map.1 hx
    simp [AV.cells] at hy
    subst hy
    exact .str w
theorem every1_calls (σ : Heap) (r : Nat) (x : List UInt8) (h : σ[r]? = some (.cells [.fn (.func 201) [] []])) (hx : x.length < 2 ^ 50) : ACalls Tryz.prog 337 [.str x, .ptr r 0] σ (fun v σ' => v = .bool (!Oyez.word x) ∧ σ' = σ) := by
  refine acalls_fn Tryz.func337 rfl (enters_fn Tryz.func337 (by decide) rfl) ?_
  simp [Tryz.ntmps337, h]
  refine (iword_calls x hx).use ?_
  simp
theorem indexFunc_calls (σ : Heap) (r : Nat) (ws : List (List UInt8)) (h : σ[r]? = some (.cells [.fn (.func 201) [] []])) (hw : tot1 ws ≤ 2 ^ 49) (hwl : ws.length ≤ 2 ^ 49) :
    ACalls Tryz.prog 352 [wordsAV ws, .fn (.func 337) [] [.ptr r 0]] σ (fun v σ' => σ' = σ ∧ ∃ n : Int, v = .int .i64 n ∧ decide (0 ≤ n) = !(ws.all Oyez.word)) := by
  refine acalls_fn Tryz.func352 rfl (enters_fn Tryz.func352 (by decide) rfl) ?_
  simp [Tryz.ntmps352]
  refine ACode_loopT (fun env σ' => ∃ (u : List AV) (i : Nat), env = { t := u } ∧ u.length = 19 ∧ tg u 0 = wordsAV ws ∧ tg u 1 = .fn (.func 337) [] [.ptr r 0] ∧ tg u 7 = .int .i64 ws.length ∧ tg u 8 = .int .i64 i ∧ σ' = σ ∧ i ≤ ws.length ∧ ∀ x, x ∈ ws.take i → Oyez.word x = true)
    (fun env _ => match tg env.t 8 with | .int _ i => ws.length - i.toNat | _ => 0) ⟨_, 0, rfl, by simp, by simp, by simp, by simp, by simp, rfl, by omega, fun x hx => by simp at hx⟩ ?_
  rintro env σ' ⟨u, i, rfl, hl, g0, g1, g7, g8, rfl, hi, hd⟩
  rcases Nat.lt_or_ge i ws.length with hlt | hge
  · have hlt' : (i : Int) < (ws.length : Int) := by omega
    have htake : ws.take (i + 1) = ws.take i ++ [ws[i]] := by rw [List.take_add_one, List.getElem?_eq_getElem hlt]; rfl
    have hwi := tot1_mem (List.getElem_mem hlt)
    simp [hl, g0, g1, g7, g8, hlt', hlt]
    refine StA.of ((every1_calls σ' r ws[i] h (by omega)).mono ?_)
    rintro v σ'' ⟨rfl, rfl⟩
    cases hx : Oyez.word ws[i] with
    | true =>
      have hw1 := w64 (n := (i : Int) + 1) (by omega) (by omega)
      simp [hl, g0, g1, g7, g8, hw1]
      refine ⟨⟨i + 1, by simp, hlt, ?_⟩, by omega⟩
      rw [htake]
      intro x hx'
      rcases List.mem_append.1 hx' with h | h
      · exact hd x h
      · simp at h; subst h; exact hx
    | false =>
      have hall : ws.all Oyez.word = false := by
        rw [Bool.eq_false_iff]; intro e
        rw [List.all_eq_true.1 e _ (List.getElem_mem hlt)] at hx
        cases hx
      generalize ws.all Oyez.word = q at hall
      subst hall
      simp [hl, g0, g1, g7, g8]
  · have hge' : ¬ (i : Int) < (ws.length : Int) := by omega
    rw [List.take_of_length_le hge] at hd
    have hall : ws.all Oyez.word = true := List.all_eq_true.2 hd
    generalize ws.all Oyez.word = q at hall
    subst hall
    simp [hl, g0, g1, g7, g8, hge']
theorem every_calls (ws : List (List UInt8)) (hw : tot1 ws ≤ 2 ^ 49) (hwl : ws.length ≤ 2 ^ 49) : APure Tryz.prog 296 [wordsAV ws, .fn (.func 201) [] []] (.bool (ws.all Oyez.word)) := by
  refine APure.of fun σ => ?_
  refine acalls_fn Tryz.func296 rfl (enters_fn Tryz.func296 (by decide) rfl) ?_
  simp [Tryz.ntmps296]
  have h232 : ∀ (σ : Heap) (r : Nat), σ[r]? = some (.cells [.fn (.func 201) [] []]) → ACalls Tryz.prog 336 [wordsAV ws, .fn (.func 337) [] [.ptr r 0]] σ (fun v σ' => v = .bool (!(ws.all Oyez.word)) ∧ σ' = σ) := by
    intro σ r h
    refine acalls_fn Tryz.func336 rfl (enters_fn Tryz.func336 (by decide) rfl) ?_
    simp [Tryz.ntmps336]
    refine StA.of ((indexFunc_calls σ r ws h hw hwl).mono ?_)
    rintro v σ' ⟨rfl, n, rfl, hn⟩
    generalize ws.all Oyez.word = q at hn
    simp [hn]
  refine StA.of ((h232 _ σ.length (by simp)).mono ?_)
  rintro v σ' ⟨rfl, rfl⟩
  generalize ws.all Oyez.word = q
  simp
theorem placeError_calls (p : Oyez.Place) : APure Tryz.prog 233 [placeAV p] (.int .i64 (Oyez.placeErr p.kind p.number)) := by
  refine APure.of fun σ => ?_
  refine acalls_fn Tryz.func233 rfl (enters_fn Tryz.func233 (by decide) rfl) ?_
  simp [Tryz.ntmps233]
  refine (in_calls _ _ _).use ?_
  generalize hX : Oyez.placeErr p.kind p.number = X
  unfold Oyez.placeErr at hX
  by_cases h : p.kind < 0 ∨ 4 < p.kind
  · have e : (decide (0 ≤ p.kind) && decide (p.kind ≤ 4)) = false := by rw [Bool.eq_false_iff]; simp; omega
    rw [if_pos h] at hX
    subst hX
    rw [e]
    simp
  · have e : (decide (0 ≤ p.kind) && decide (p.kind ≤ 4)) = true := by simp; omega
    rw [if_neg h] at hX
    rw [e]
    simp
    refine (in_calls _ _ _).use ?_
    by_cases h2 : p.number < 0 ∨ 999 < p.number
    · have e : (decide (0 ≤ p.number) && decide (p.number ≤ 999)) = false := by rw [Bool.eq_false_iff]; simp; omega
      rw [if_pos h2] at hX
      subst hX
      rw [e]
      simp
    · have e : (decide (0 ≤ p.number) && decide (p.number ≤ 999)) = true := by simp; omega
      rw [if_neg h2] at hX
      subst hX
      rw [e]
      simp

theorem flat_strs (ws : List (List UInt8)) : List.flatMap AV.cells (List.map AV.str ws) = List.map AV.str ws := by
  induction ws with
  | nil => rfl
  | cons w t ih =>
    rw [List.map_cons, List.flatMap_cons, ih]
    rfl
theorem join32_line (a b : List UInt8) (ws : List (List UInt8)) : join32 (a :: b :: ws) = a ++ [32] ++ b ++ ws.flatMap (fun w => 32 :: w) := by
  have key : ∀ (ws : List (List UInt8)) (b : List UInt8), join32 (b :: ws) = b ++ ws.flatMap (fun w => 32 :: w) := by
    intro ws
    induction ws with
    | nil => intro b; simp [join32, List.intercalate]
    | cons w t ih =>
      intro b
      have := ih w
      simp [join32, List.intercalate] at this ⊢
      exact this
  rw [key]
  simp
set_option maxRecDepth 8000 in
set_option maxHeartbeats 1000000 in
theorem line_calls (r : Oyez.Rec) (hk : 0 ≤ r.kind) (hk2 : r.kind ≤ 4) (hn : 0 ≤ r.number) (hn2 : r.number ≤ 2 ^ 20) (hw : tot1 r.words ≤ 2 ^ 38) (hwl : r.words.length ≤ 2 ^ 38) : APure Tryz.prog 114 [recAV r] (.str (Oyez.line r.kind r.number r.words)) := by
  refine APure.of fun σ => ?_
  obtain ⟨k, n, ws⟩ := r
  obtain ⟨m, rfl⟩ : ∃ m : Nat, k = m := ⟨k.toNat, by simp only at hk; omega⟩
  obtain ⟨n, rfl⟩ : ∃ j : Nat, n = j := ⟨n.toNat, by simp only at hn; omega⟩
  simp only at hk hk2 hn hn2 hw hwl ⊢
  have hNl : (nameList.map AV.str).length = 5 := rfl
  have hNm : (nameList.map AV.str)[m]? = some (.str (Oyez.nameN m)) := by
    have : m ≤ 4 := by omega
    match m, this with
    | 0, _ => rfl
    | 1, _ => rfl
    | 2, _ => rfl
    | 3, _ => rfl
    | 4, _ => rfl
  have hN : APure Tryz.prog 190 [] (.pl 1 (nameList.map AV.str)) := names_calls
  generalize nameList.map AV.str = L at hNl hNm hN
  have hnl : (Oyez.nameN m).length ≤ 6 := by have := name_len (m : Int); simpa [Oyez.name] using this
  have hdl := digitsN_len n
  have hline : join32 (Oyez.nameN m :: Oyez.digitsN n :: ws) = Oyez.line m n ws := by
    rw [join32_line]; simp [Oyez.line, Oyez.name, Oyez.digits]
  have hlen : (join32 (Oyez.nameN m :: Oyez.digitsN n :: ws)).length ≤ 2 ^ 40 := by
    rw [join32_line, List.length_append, flat_len32]
    simp
    omega
  have hitoa : APure Tryz.prog 38 [.int .i64 n] (.str (Oyez.digitsN n)) := by rw [← itoa_nat]; exact itoa_calls n (by omega) (by omega)
  refine acalls_fn Tryz.func114 rfl (enters_fn Tryz.func114 (by decide) rfl) ?_
  simp [Tryz.ntmps114]
  refine ACode_drawW [8, 11] [(9, 0), (10, 0)] mixed (by kernel_rfl) (by kernel_rfl) ?_
  simp
  refine Ou_use hN ?_
  have h5 : (m : Int) < 5 := by omega
  have h5n : m < 5 := by omega
  have hNm2 : ∀ (h : m < L.length), L[m] = AV.str (Oyez.nameN m) := fun h => by rw [List.getElem?_eq_getElem h] at hNm; exact Option.some.inj hNm
  simp [hNl, hNm2, h5, h5n]
  refine Ou_use0 hitoa ?_
  have hb : (2 + ws.length) * 16 ≤ 140737488355328 := by omega
  simp [hb]
  rw [flat_strs]
  have hj := joined_arr (σ ++ [.cells [.int .i64 m, .int .i64 n, .pl 1 (List.map AV.str ws)], .dead, .cells (.str (Oyez.nameN m) :: .str (Oyez.digitsN n) :: List.map AV.str ws)]) (σ.length + 2) (Oyez.nameN m :: Oyez.digitsN n :: ws) (by simp) (by simp; omega) hlen
  rw [hline, show (Oyez.nameN m :: Oyez.digitsN n :: ws).length = 2 + ws.length by simp; omega] at hj
  refine Ou_of0 hj ?_
  simp
theorem placeErr_ok {k n : Int} (h : Oyez.placeErr k n = 0) : 0 ≤ k ∧ k ≤ 4 ∧ 0 ≤ n ∧ n ≤ 999 := by
  unfold Oyez.placeErr at h
  split at h
  · cases h
  · split at h
    · cases h
    · omega
/-- words that are few enough to be told -/
def Few (f : List Oyez.Rec) : Prop := ∀ r ∈ f, tot1 r.words ≤ 2 ^ 38 ∧ r.words.length ≤ 2 ^ 38
set_option maxRecDepth 4000 in
theorem worded_calls (r : Oyez.Rec) (hp : Oyez.placeErr r.kind r.number = 0) (hw : tot1 r.words ≤ 2 ^ 38) (hwl : r.words.length ≤ 2 ^ 38) : APure Tryz.prog 234 [recAV r] (.int .i64 (Oyez.wordsErr r.kind r.number r.words)) := by
  refine APure.of fun σ => ?_
  obtain ⟨p1, p2, p3, p4⟩ := placeErr_ok hp
  have hline := line_calls r p1 p2 p3 (by omega) hw hwl
  have hev := every_calls r.words (by omega) (by omega)
  refine acalls_fn Tryz.func234 rfl (enters_fn Tryz.func234 (by decide) rfl) ?_
  generalize hX : Oyez.wordsErr r.kind r.number r.words = X
  unfold Oyez.wordsErr at hX
  by_cases h6 : 6 < r.words.length
  · have h6' : (6 : Int) < (r.words.length : Int) := by omega
    rw [if_pos h6] at hX
    subst hX
    simp [Tryz.ntmps234, h6']
  · have h6' : ¬ (6 : Int) < (r.words.length : Int) := by omega
    rw [if_neg h6] at hX
    simp [Tryz.ntmps234, h6']
    refine hev.use ?_
    cases hall : r.words.all Oyez.word with
    | false =>
      rw [hall, if_pos rfl] at hX
      subst hX
      simp
    | true =>
      rw [hall, if_neg (by simp)] at hX
      simp
      refine hline.use ?_
      by_cases h64 : 64 < (Oyez.line r.kind r.number r.words).length
      · have h64' : (64 : Int) < ((Oyez.line r.kind r.number r.words).length : Int) := by omega
        rw [if_pos h64] at hX
        subst hX
        simp [h64']
      · have h64' : ¬ (64 : Int) < ((Oyez.line r.kind r.number r.words).length : Int) := by omega
        rw [if_neg h64] at hX
        subst hX
        simp [h64']
theorem recError_calls (r : Oyez.Rec) (hw : tot1 r.words ≤ 2 ^ 38) (hwl : r.words.length ≤ 2 ^ 38) : APure Tryz.prog 187 [recAV r] (.int .i64 (Oyez.recErr r)) := by
  refine APure.of fun σ => ?_
  refine acalls_fn Tryz.func187 rfl (enters_fn Tryz.func187 (by decide) rfl) ?_
  simp [Tryz.ntmps187]
  refine (place_calls r).use ?_
  refine (placeError_calls r.place).use ?_
  generalize hX : Oyez.recErr r = X
  unfold Oyez.recErr Oyez.oneErr at hX
  have he : Oyez.placeErr r.place.kind r.place.number = Oyez.placeErr r.kind r.number := rfl
  rw [he]
  by_cases h : Oyez.placeErr r.kind r.number = 0
  · rw [if_neg (by simpa using h)] at hX
    subst hX
    simp [h]
    refine (worded_calls r h hw hwl).use ?_
    simp
  · rw [if_pos (by simpa using h)] at hX
    subst hX
    simp [h]
end Ab
namespace Ab
open Go Go.RowKit Go.Proofs
attribute [local irreducible] aws awp aw1 Og Om Oc Oa Ogd Ov Ot awd aw1d awh aw1h Ogh Ohd awl Ogl Ohl QThen QBlock QFn QFnM ACode AYield
set_option maxHeartbeats 1000000 in
set_option maxRecDepth 8000 in
theorem check_calls (f : List Oyez.Rec) (hf : Few f) : APure Tryz.prog 112 [fileAV f] (.int .i64 (Oyez.check f)) := by
  refine APure.of fun σ => ?_
  refine acalls_fn Tryz.func112 rfl (enters_fn Tryz.func112 (by decide) rfl) ?_
  by_cases h40 : 40 < f.length
  · have h40' : (40 : Int) < (f.length : Int) := by omega
    have hE : Oyez.check f = 2 := by unfold Oyez.check; rw [if_pos h40]
    simp [Tryz.ntmps112, h40', hE]
  · have h40' : ¬ (40 : Int) < (f.length : Int) := by omega
    have hE : Oyez.check f = Oyez.checkFrom none f := by unfold Oyez.check; rw [if_neg h40]
    simp [Tryz.ntmps112, h40']
    refine ACode_loopT (fun env σ' => ∃ (u : List AV) (i : Nat) (g : Heap), env = { t := u } ∧ u.length = 36 ∧ tg u 0 = fileAV f ∧ tg u 9 = fileAV f ∧ tg u 10 = .int .i64 f.length ∧ tg u 11 = .int .i64 i ∧ σ' = σ ++ g ∧ i ≤ f.length ∧ Oyez.checkFrom (prevOf f i) (f.drop i) = Oyez.check f)
      (fun env _ => match tg env.t 11 with | .int _ i => f.length - i.toNat | _ => 0) ⟨_, 0, [], rfl, by simp, by simp, by simp, by simp, by simp, by simp, by omega, by simp [prevOf, hE]⟩ ?_
    rintro env σ' ⟨u, i, g, rfl, hl, g0, g9, g10, g11, rfl, hi, hd⟩
    rcases Nat.lt_or_ge i f.length with hlt | hge
    · have hlt' : (i : Int) < (f.length : Int) := by omega
      have hdr : f.drop i = f[i] :: f.drop (i + 1) := List.drop_eq_getElem_cons hlt
      have hs := hf _ (List.getElem_mem hlt)
      rw [hdr, Oyez.checkFrom] at hd
      simp [hl, g0, g9, g10, g11, hlt', hlt]
      refine (recError_calls f[i] hs.1 hs.2).use ?_
      by_cases h0 : Oyez.recErr f[i] = 0
      · rw [if_neg (by simpa using h0)] at hd
        simp [hl, g0, g9, g10, g11, h0]
        refine ACode_draw0 mixed (by kernel_rfl) ?_
        cases i with
        | zero =>
          have hx1 : IntKind.i64.wrap 1 = 1 := w64 (by omega) (by omega)
          simp [hl, g0, g9, g10, g11, hx1]
          refine ⟨⟨1, rfl, hlt, ?_⟩, by omega⟩
          simpa [prevOf, List.getElem?_eq_getElem hlt] using hd
        | succ j =>
          have hz' : (0 : Int) < (j : Int) + 1 := by omega
          have hx := w64 (n := (j : Int)) (by omega) (by omega)
          have hx2 := w64 (n := (j : Int) + 1 + 1) (by omega) (by omega)
          have hj : j < f.length := by omega
          have hp : prevOf f (j + 1) = some f[j].place := by simp [prevOf, hj]
          rw [hp] at hd
          simp [hl, g0, g9, g10, g11, hz', hlt, hx, hj]
          refine Ou_use0 (place_calls f[j]) ?_
          refine Ou_use0 (place_calls f[j + 1]) ?_
          refine Ou_use0 (compare_calls f[j].place f[j + 1].place) ?_
          have hneg := cmpP_neg f[j].place f[j + 1].place
          generalize cmpP f[j].place f[j + 1].place = q at hneg
          cases hb : f[j].place.lt f[j + 1].place with
          | true =>
            have hq : ¬ (0 : Int) ≤ q := by have := hneg.2 hb; omega
            simp [hl, g0, g9, g10, g11, hx2, hq]
            refine ⟨⟨j + 1 + 1, by simp, hlt, ?_⟩, by omega⟩
            have hp2 : prevOf f (j + 1 + 1) = some f[j + 1].place := by simp [prevOf, hlt]
            rw [hp2, ← hd]
            simp [hb]
          | false =>
            have hq : (0 : Int) ≤ q := by
              rcases Int.lt_or_le q 0 with h | h
              · have := hneg.1 h; rw [hb] at this; cases this
              · exact h
            simp [hl, g0, g9, g10, g11, hq]
            simpa [hb] using hd
      · rw [if_pos (by simpa using h0)] at hd
        simp [hl, g0, g9, g10, g11, h0, ← hd]
    · have hge' : ¬ (i : Int) < (f.length : Int) := by omega
      rw [List.drop_eq_nil_of_le hge, Oyez.checkFrom] at hd
      simp [hl, g0, g9, g10, g11, hge', ← hd]
end Ab
