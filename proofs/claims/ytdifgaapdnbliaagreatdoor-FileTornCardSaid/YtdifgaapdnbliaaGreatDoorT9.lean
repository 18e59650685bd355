/-
  FileTorn: the walk.
-/
import Derived.Test.YtdifgaapdnbliaaGreatDoorT8
import Derived.Test.YtdifgaapdnbliaaGreatDoorJ6
import Derived.Test.YtdifgaapdnbliaaGreatDoorK3
set_option linter.unusedSimpArgs false
set_option linter.unusedVariables false
namespace Ab
open Go Go.RowKit Go.Proofs
attribute [local irreducible] aws awp aw1 Og Om Oc Oa Ogd Ov Ot awd aw1d awh aw1h Ogh Ohd awl Ogl Ohl awv Ogv Ohv QThen QBlock QFn QFnM QRo QBe ACode AYield
theorem right_few {f : List Oyez.Rec} (h : Oyez.check f = 0) : Few f ∧ f.length ≤ 40 ∧ (Oyez.print f).length ≤ 2600 ∧ ∀ r ∈ f, r.words.length ≤ 2 ^ 40 := by
  have hr := Oyez.check_zero h
  have hl := hr.len
  have hp := print_len hr.recs
  have key : ∀ r ∈ f, tot1 r.words ≤ 64 ∧ r.words.length ≤ 6 := fun r hm => by
    obtain ⟨_, h2⟩ := (Oyez.recErr_iff r).1 (hr.recs r hm)
    obtain ⟨h3, h4, h5⟩ := Oyez.wordsErr_zero h2
    refine ⟨?_, h3⟩
    unfold Oyez.line at h5
    rw [List.length_append, flat_len32] at h5
    omega
  exact ⟨fun r hm => ⟨by have := (key r hm).1; omega, by have := (key r hm).2; omega⟩, hl, by omega, fun r hm => by have := (key r hm).2; omega⟩
/-- strings.Join of the first elements of a slice -/
theorem joinN_arr (σ : Heap) (r : Nat) (ws : List (List UInt8)) (rest : List AV) (h : σ[r]? = some (.cells (ws.map AV.str ++ rest))) (hl : ws.length ≤ 2 ^ 40) (hj : ws.flatten.length ≤ 2 ^ 40) :
    ACalls Tryz.prog 49 [.arr 1 r 0 ws.length, .str []] σ (fun v σ' => v = .str ws.flatten ∧ σ' = σ) := by
  refine .inl ⟨enters_fn Tryz.func49 (by decide) rfl, fun C cargs hI hv => callsIn_wide.2 ?_⟩
  obtain ⟨x, q, rfl, h1, h2⟩ := hv.inv
  obtain ⟨y, q, rfl, h3, h4⟩ := h2.inv
  obtain rfl := h4.of_nil
  obtain ⟨b, cap, e, n, hb, hc1, hc2, hc3, rfl⟩ := h1.arr_inv
  rw [h3.str_inv]
  have hmap : (ws.map fun w => ByteArray.mk ⟨w⟩).map (·.data.toList) = ws := by
    rw [List.map_map]
    exact List.map_id'' (fun w => rfl) ws
  have hfl : ∀ l : List (List UInt8), Lib.join l [] = l.flatten := by
    intro l
    unfold Lib.join
    rw [List.intercalate]
    induction l with
    | nil => rfl
    | cons x t ih =>
      cases t with
      | nil => simp
      | cons y t => simp only [List.intersperse, List.flatten_cons, List.nil_append] at ih ⊢; rw [ih]
  obtain ⟨_, c, hc, _⟩ := hI.live r b _ hb h rfl
  have hbl : b < C.w.heap.size := (Array.getElem?_eq_some_iff.1 hc).1
  have key := Tryz.strings_Join b (0 * 1) cap (ws.map fun w => ByteArray.mk ⟨w⟩) ⟨⟨[]⟩⟩ C.w (fun j x hx => by
    rw [List.getElem?_map, Option.map_eq_some_iff] at hx
    obtain ⟨w, hw, rfl⟩ := hx
    obtain ⟨v, hv, hvr⟩ := hI.cell_at hb h j (.str w) (by
      have := (List.getElem?_eq_some_iff.1 hw).1
      rw [List.getElem?_append_left (by simpa using this), List.getElem?_map, hw]; rfl)
    rw [Nat.zero_mul, Nat.zero_add, hv, hvr.str_inv]) hbl (by rw [List.length_map]; omega) (by rw [List.length_map]; exact hc1) (by
      rw [hmap]
      show (Lib.join ws []).length ≤ _
      rw [hfl]
      omega)
  rw [hmap, List.length_map] at key
  refine key.mono ?_
  rintro e w' ⟨rfl, hbw⟩
  have hE := Ext.below hI.plt hbw (fun h => False.elim h)
  refine ⟨_, C.at_ w', .str ws.flatten, σ, rfl, rfl, hE, hI.below hbw, ?_, rfl, rfl⟩
  have h1 : VR (C.at_ w') (.str ws.flatten) (.string ⟨⟨ws.flatten⟩⟩) := .str _
  have h2 : Lib.join ws [] = ws.flatten := hfl ws
  simpa [h2] using h1
theorem joinK_arr (σ : Heap) (r : Nat) (ps : List (List UInt8)) (n : Nat) (h : σ[r]? = some (.cells (ps.map AV.str))) (hn : n ≤ ps.length) (hl : ps.length ≤ 2 ^ 40) (hj : (ps.take n).flatten.length ≤ 2 ^ 40) :
    ACalls Tryz.prog 49 [.arr 1 r 0 n, .str []] σ (fun v σ' => v = .str (ps.take n).flatten ∧ σ' = σ) := by
  have hlen : (ps.take n).length = n := by simp; omega
  have := joinN_arr σ r (ps.take n) ((ps.drop n).map AV.str) (by rw [h, ← List.map_append, List.take_append_drop]) (by omega) hj
  rw [hlen] at this
  exact this
theorem join0 (σ : Heap) : ACalls Tryz.prog 49 [.pl 1 [], .str []] σ (fun v σ' => v = .str [] ∧ σ' = σ) := by
  refine .inl ⟨enters_fn Tryz.func49 (by decide) rfl, fun C cargs hI hv => callsIn_wide.2 ?_⟩
  obtain ⟨x, q, rfl, h1, h2⟩ := hv.inv
  obtain ⟨y, q, rfl, h3, h4⟩ := h2.inv
  obtain rfl := h4.of_nil
  obtain ⟨A, cap, rfl, _, _⟩ := h1.pl_inv
  rw [h3.str_inv]
  refine (Tryz.strings_Join_none A cap ⟨⟨[]⟩⟩ C.w).mono ?_
  rintro e w' ⟨rfl, rfl⟩
  exact ⟨_, C, .str [], σ, rfl, rfl, Ext.refl C, hI, .str [], rfl, rfl⟩
theorem joinS (σ : Heap) (r : Nat) (ps : List (List UInt8)) (n : Nat) (h : σ[r]? = some (.cells (ps.map AV.str))) (hn : n ≤ ps.length) (hl : ps.length ≤ 2 ^ 40) (hj : (ps.take n).flatten.length ≤ 2 ^ 40) :
    ∃ sv, (if 0 = n then some (AV.pl 1 []) else some (.arr 1 r 0 n)) = some sv ∧ ACalls Tryz.prog 49 [sv, .str []] σ (fun v σ' => v = .str (ps.take n).flatten ∧ σ' = σ) := by
  by_cases h0 : 0 = n
  · subst h0
    exact ⟨_, by rw [if_pos rfl], join0 σ⟩
  · exact ⟨_, by rw [if_neg h0], joinK_arr σ r ps n h hn hl hj⟩
theorem cat_take_len (s : List UInt8) (k : Nat) : (Oyez.cat ((Oyez.linesOf s).take k)).length ≤ s.length := by
  have h1 := (Oyez.lines_cat s).1
  have h2 : Oyez.cat (Oyez.linesOf s) = Oyez.cat ((Oyez.linesOf s).take k) ++ Oyez.cat ((Oyez.linesOf s).drop k) := by
    unfold Oyez.cat
    rw [← List.flatMap_append, List.take_append_drop]
  rw [h1] at h2
  have := congrArg List.length h2
  rw [List.length_append] at this
  omega
set_option maxHeartbeats 40000000 in
theorem torn_calls (l : List UInt8) (hl : l.length ≤ 9223372036854775807) (wh : Nat) (hwh : wh < 65536) (wt : UInt8) : APure Tryz.prog 7 [.pl 1 (bytesL l), .int .u16 wh, .int .u8 wt.toNat] (.bool true) := by
  refine APure.of fun σ => ?_
  refine acalls_fn Tryz.func7 rfl (enters_fn Tryz.func7 (by decide) rfl) ?_
  simp [Tryz.ntmps7]
  refine StA.of ((hang_calls σ _ rfl).mono ?_)
  rintro v σ' ⟨rfl, rfl⟩
  refine StA.of ((made_calls (σ ++ [bellObj l 0 0]) σ.length l 0 0 (by simp) (by omega) hl).mono ?_)
  rintro v σ' ⟨f, a', c', rfl, hf, hfl, ha', rfl⟩
  obtain ⟨hfew, hf40, hpl, hfw⟩ := right_few hf
  generalize bellObj l a' c' = B
  simp
  refine (print_calls f hfew).use ?_
  have hpc : printC f = (Oyez.print f, 0) := by unfold printC; rw [if_pos hf]
  rw [hpc]
  obtain ⟨text, ht⟩ : ∃ t, Oyez.print f = t := ⟨_, rfl⟩
  rw [ht] at hpl ⊢
  by_cases h0 : text = []
  · simp [h0]
    refine awake_calls.use ?_
    simp
  · have h0' : ¬ [] = text := fun h => h0 h.symm
    have hpos : 0 < text.length := List.length_pos_iff.2 h0
    obtain ⟨N, hN⟩ : ∃ N, text.length = N := ⟨_, rfl⟩
    have hNz : ¬ (N : Int) = 0 := by omega
    have hNz' : ¬ N = 0 := by omega
    obtain ⟨I, hI⟩ : ∃ I, wh % N = I := ⟨_, rfl⟩
    have hIN : I < N := by rw [← hI]; exact Nat.mod_lt _ (by omega)
    have hw1 : IntKind.i64.wrap (wh : Int) = wh := w64 (by omega) (by omega)
    have hm1 : (wh : Int).tmod (N : Int) = (I : Int) := by rw [← hI]; rfl
    have hw2 : IntKind.i64.wrap (wt.toNat : Int) = (wt.toNat : Int) := w64 (by have := wt.toNat_lt; omega) (by have := wt.toNat_lt; omega)
    obtain ⟨J, hJ⟩ : ∃ J, wt.toNat % 6 = J := ⟨_, rfl⟩
    have hJ6 : J < 6 := by omega
    have hm2 : (wt.toNat : Int).tmod 6 = (J : Int) := by rw [← hJ]; rfl
    have hIt : I < text.length := by omega
    have hIt' : (I : Int) < (N : Int) := by omega
    have hu8 : IntKind.u8.wrap ((text[I].toNat : Int) + 1) = ((text[I] + 1 : UInt8).toNat : Int) := by
      rw [UInt8.toNat_add]
      simp [IntKind.wrap, IntKind.bits, IntKind.signed]
    have hJ6' : (J : Int) < 6 := by omega
    simp [h0, hN, hNz, hNz', hw1, hm1]
    refine ACode_draw0 mixed (by kernel_rfl) ?_
    simp [h0, hN, hNz, hNz', hw1, hm1, hw2, hm2, hIN, hIt, hIt', hJ6, hJ6']
    obtain ⟨pv, hpv⟩ : ∃ pv, ([AV.nils, .pl 1 [.int .u8 (text[I].toNat : Int), .int .u8 (text[I].toNat : Int)], .pl 1 [.int .u8 (wt.toNat : Int)], .pl 1 [.int .u8 (IntKind.u8.wrap ((text[I].toNat : Int) + 1))], .pl 1 [.int .u8 32], .pl 1 [.int .u8 48]] : List AV)[J]'(by simpa using hJ6) = pv := ⟨_, rfl⟩
    have hpv3 : pv = .nils ∨ (∃ b : UInt8, pv = .pl 1 [.int .u8 (b.toNat : Int)]) ∨ ∃ b c : UInt8, pv = .pl 1 [.int .u8 (b.toNat : Int), .int .u8 (c.toNat : Int)] := by
      rw [← hpv, hu8]
      have : J = 0 ∨ J = 1 ∨ J = 2 ∨ J = 3 ∨ J = 4 ∨ J = 5 := by omega
      rcases this with h | h | h | h | h | h
      · subst h; exact .inl rfl
      · subst h; exact .inr (.inr ⟨_, _, rfl⟩)
      · subst h; exact .inr (.inl ⟨_, rfl⟩)
      · subst h; exact .inr (.inl ⟨_, rfl⟩)
      · subst h; exact .inr (.inl ⟨32, rfl⟩)
      · subst h; exact .inr (.inl ⟨48, rfl⟩)
    rw [hpv]
    clear hpv hu8
    have hx1 := w64 (n := (I : Int) + 1) (by omega) (by omega)
    have hIs : I ≤ text.length := by omega
    have hIs1 : I + 1 ≤ text.length := by omega
    subst hN
    have h0I : (0 : Int) ≤ (I : Int) + 1 := by omega
    have hIle : (I : Int) ≤ (text.length : Int) := by omega
    have main : ∀ own : List UInt8, own.length ≤ 2700 → (Oyez.parse own).err = 0 → Oyez.check (Oyez.parse own).recs = 0 ∧ Oyez.print (Oyez.parse own).recs = own ∧ (own = text ↔ (Oyez.parse own).recs = f) := by
      intro own _ he
      obtain ⟨k1, k2⟩ := Oyez.parse_ok he
      refine ⟨k1, k2, fun h => ?_, fun h => by rw [← k2, h, ht]⟩
      rw [h, ← ht, Oyez.parse_print hf]
    have hb0 : I ≤ 9223372036854775807 := by omega
    have hb1 : I ≤ 9223372036854775806 := by omega
    have hb2 : I ≤ 9223372036854775805 := by omega
    have hmn : min I text.length = I := by omega
    have hb3 : I + (text.length - (I + 1)) ≤ 9223372036854775807 := by omega
    have hb4 : I + 1 + (text.length - (I + 1)) ≤ 9223372036854775807 := by omega
    have hb5 : I + 1 + 1 + (text.length - (I + 1)) ≤ 9223372036854775807 := by omega
    have hb6 : I + 2 + (text.length - (I + 1)) ≤ 9223372036854775807 := by omega
    have hb7 : text.length ≤ 9223372036854775807 := by omega
    have hol : ∀ m : List UInt8, m.length ≤ 2 → (text.take I ++ m ++ text.drop (I + 1)).length ≤ 2700 := fun m hm => by
      simp only [List.length_append, List.length_take, List.length_drop]
      omega
    have hl0 := hol [] (by simp)
    have hl1 : ∀ b, (text.take I ++ b :: text.drop (I + 1)).length ≤ 2700 := fun b => by simpa using hol [b] (by simp)
    have hl2 : ∀ b c, (text.take I ++ b :: c :: text.drop (I + 1)).length ≤ 2700 := fun b c => by simpa using hol [b, c] (by simp)
    rw [List.append_nil] at hl0
    clear hol hpl
    rcases hpv3 with rfl | ⟨b, rfl⟩ | ⟨b, c, rfl⟩
    · simp
      refine ACode_draw0 mixed (by kernel_rfl) ?_
      simp [hx1, hIN, hIs, hIs1, hIt', h0I, hIle, hb0, hmn, hb3]
      generalize text.take I ++ text.drop (I + 1) = own at hl0 ⊢
      have hown := hl0
      clear hl0 hl1 hl2
      refine (parse_calls own (by omega)).use ?_
      have hm := main own hown
      have hpe := fun h => Oyez.parse_err (s := own) h
      obtain ⟨X, hX⟩ : ∃ X, Oyez.parse own = X := ⟨_, rfl⟩
      rw [hX] at hm hpe ⊢
      clear hX
      by_cases he : X.err = 0
      · obtain ⟨k1, k2, k3⟩ := hm he
        obtain ⟨j1, j2, j3, j4⟩ := right_few k1
        have hpx : printC X.recs = (own, 0) := by unfold printC; rw [if_pos k1, k2]
        simp [parsedAV, he]
        refine (print_calls X.recs j1).use ?_
        rw [hpx]
        simp
        refine (same_calls X.recs f (by omega) j4).use ?_
        by_cases hot : own = text
        · have := k3.1 hot
          simp [hot, this]
          refine awake_calls.use ?_
          simp
        · have : ¬ X.recs = f := fun h => hot (k3.2 h)
          simp [hot, this]
          refine awake_calls.use ?_
          simp
      · obtain ⟨p1, p2, p3, p4, p5, p6⟩ := hpe he
        have q1 := Oyez.sp_lines_len own
        have q2 := Oyez.sp_lines_words own X.line p2
        have q3 := Oyez.sp_lines_take own X.line (by omega)
        have q4 := Oyez.sp_lines_take own (X.line + 1) (by omega)
        have q5 := cat_take_len own X.line
        have q6 := cat_take_len own (X.line + 1)
        have q7 := Oyez.sp_len 10 true own
        have q8 : own.count 10 ≤ own.length := List.count_le_length
        rw [q2] at p3
        rw [← q3] at p4 p5 q5
        rw [← q4] at p6 q6
        have hlt : X.line < (Oyez.sp 10 true own).length := by omega
        have hpl : (Oyez.sp 10 true own).length ≤ 2 ^ 40 := by omega
        clear q1 q2 q3 q4 q7 q8 p2
        simp [parsedAV, he]
        refine StA.of ((splitAfter_calls own 10 (by omega) (σ ++ [B])).mono ?_)
        rintro v σ' ⟨rfl, rfl⟩
        generalize Oyez.sp 10 true own = ps at p3 p4 p5 p6 q5 q6 hlt hpl ⊢
        have hlt' : ¬ (ps.length : Int) ≤ (X.line : Int) := by omega
        have hz1 : ¬ (X.line : Int) < 0 := by omega
        have hz2 : ¬ (X.word : Int) < 0 := by omega
        have hz3 : (0 : Int) ≤ (X.line : Int) := by omega
        have hz4 : (X.line : Int) < (ps.length : Int) := by omega
        have hz5 : X.line + 1 ≤ ps.length := by omega
        have hg : ps[X.line]?.getD [] = ps[X.line] := by rw [List.getElem?_eq_getElem hlt]; rfl
        rw [hg] at p3
        have hpc : (ps[X.line]).length ≤ 2 ^ 40 := by
          rw [List.take_succ_eq_append_getElem hlt, List.flatten_append, List.length_append] at q6
          simp at q6
          omega
        have hz6 : ¬ ((Oyez.sp 32 false ps[X.line]).length : Int) < (X.word : Int) := by omega
        have hz7 : (X.line : Int) ≤ (ps.length : Int) := by omega
        have hz8 : X.line ≤ ps.length := by omega
        have hz9 : (0 : Int) ≤ (X.line : Int) + 1 := by omega
        have hz10 : (X.line : Int) + 1 ≤ (ps.length : Int) := by omega
        have hx2 := w64 (n := (X.line : Int) + 1) (by omega) (by omega)
        simp [hlt, hlt', hz1, hz2, hz3, hz4, hz5, p1]
        refine StA.of ((goSplit_calls ps[X.line] 32 hpc (σ ++ [B, .cells (ps.map AV.str)])).mono ?_)
        rintro v σ' ⟨rfl, rfl⟩
        simp [hlt, hlt', hz1, hz2, hz3, hz4, hz5, hz6, hz7, hz8, p1]
        obtain ⟨sv, hsv, hjo⟩ := joinS (σ ++ [B, .cells (ps.map AV.str), .cells ((Oyez.sp 32 false ps[X.line]).map AV.str)]) (σ.length + 1) ps X.line (by simp) hz8 hpl (by omega)
        rw [hsv]
        simp
        refine StA.of (hjo.mono ?_)
        rintro v σ' ⟨rfl, rfl⟩
        refine (parse_calls _ (by omega)).use ?_
        simp [parsedAV, p4, p5, hz7, hz8, hz9, hz10, hx2, hz5]
        refine StA.of ((joinK_arr (σ ++ [B, .cells (ps.map AV.str), .cells ((Oyez.sp 32 false ps[X.line]).map AV.str)]) (σ.length + 1) ps (X.line + 1) (by simp) hz5 hpl (by omega)).mono ?_)
        rintro v σ' ⟨rfl, rfl⟩
        refine (parse_calls _ (by omega)).use ?_
        rw [p6]
        simp [parsedAV]
        refine awake_calls.use ?_
        simp
    · simp
      refine ACode_draw0 mixed (by kernel_rfl) ?_
      simp [hx1, hIN, hIs, hIs1, hIt', h0I, hIle, hb1, hmn, hb4, hb7]
      have hown := hl1 b
      clear hl0 hl1 hl2
      generalize text.take I ++ b :: text.drop (I + 1) = own at hown ⊢
      refine (parse_calls own (by omega)).use ?_
      have hm := main own hown
      have hpe := fun h => Oyez.parse_err (s := own) h
      obtain ⟨X, hX⟩ : ∃ X, Oyez.parse own = X := ⟨_, rfl⟩
      rw [hX] at hm hpe ⊢
      clear hX
      by_cases he : X.err = 0
      · obtain ⟨k1, k2, k3⟩ := hm he
        obtain ⟨j1, j2, j3, j4⟩ := right_few k1
        have hpx : printC X.recs = (own, 0) := by unfold printC; rw [if_pos k1, k2]
        simp [parsedAV, he]
        refine (print_calls X.recs j1).use ?_
        rw [hpx]
        simp
        refine (same_calls X.recs f (by omega) j4).use ?_
        by_cases hot : own = text
        · have := k3.1 hot
          simp [hot, this]
          refine awake_calls.use ?_
          simp
        · have : ¬ X.recs = f := fun h => hot (k3.2 h)
          simp [hot, this]
          refine awake_calls.use ?_
          simp
      · obtain ⟨p1, p2, p3, p4, p5, p6⟩ := hpe he
        have q1 := Oyez.sp_lines_len own
        have q2 := Oyez.sp_lines_words own X.line p2
        have q3 := Oyez.sp_lines_take own X.line (by omega)
        have q4 := Oyez.sp_lines_take own (X.line + 1) (by omega)
        have q5 := cat_take_len own X.line
        have q6 := cat_take_len own (X.line + 1)
        have q7 := Oyez.sp_len 10 true own
        have q8 : own.count 10 ≤ own.length := List.count_le_length
        rw [q2] at p3
        rw [← q3] at p4 p5 q5
        rw [← q4] at p6 q6
        have hlt : X.line < (Oyez.sp 10 true own).length := by omega
        have hpl : (Oyez.sp 10 true own).length ≤ 2 ^ 40 := by omega
        clear q1 q2 q3 q4 q7 q8 p2
        simp [parsedAV, he]
        refine StA.of ((splitAfter_calls own 10 (by omega) (σ ++ [B])).mono ?_)
        rintro v σ' ⟨rfl, rfl⟩
        generalize Oyez.sp 10 true own = ps at p3 p4 p5 p6 q5 q6 hlt hpl ⊢
        have hlt' : ¬ (ps.length : Int) ≤ (X.line : Int) := by omega
        have hz1 : ¬ (X.line : Int) < 0 := by omega
        have hz2 : ¬ (X.word : Int) < 0 := by omega
        have hz3 : (0 : Int) ≤ (X.line : Int) := by omega
        have hz4 : (X.line : Int) < (ps.length : Int) := by omega
        have hz5 : X.line + 1 ≤ ps.length := by omega
        have hg : ps[X.line]?.getD [] = ps[X.line] := by rw [List.getElem?_eq_getElem hlt]; rfl
        rw [hg] at p3
        have hpc : (ps[X.line]).length ≤ 2 ^ 40 := by
          rw [List.take_succ_eq_append_getElem hlt, List.flatten_append, List.length_append] at q6
          simp at q6
          omega
        have hz6 : ¬ ((Oyez.sp 32 false ps[X.line]).length : Int) < (X.word : Int) := by omega
        have hz7 : (X.line : Int) ≤ (ps.length : Int) := by omega
        have hz8 : X.line ≤ ps.length := by omega
        have hz9 : (0 : Int) ≤ (X.line : Int) + 1 := by omega
        have hz10 : (X.line : Int) + 1 ≤ (ps.length : Int) := by omega
        have hx2 := w64 (n := (X.line : Int) + 1) (by omega) (by omega)
        simp [hlt, hlt', hz1, hz2, hz3, hz4, hz5, p1]
        refine StA.of ((goSplit_calls ps[X.line] 32 hpc (σ ++ [B, .cells (ps.map AV.str)])).mono ?_)
        rintro v σ' ⟨rfl, rfl⟩
        simp [hlt, hlt', hz1, hz2, hz3, hz4, hz5, hz6, hz7, hz8, p1]
        obtain ⟨sv, hsv, hjo⟩ := joinS (σ ++ [B, .cells (ps.map AV.str), .cells ((Oyez.sp 32 false ps[X.line]).map AV.str)]) (σ.length + 1) ps X.line (by simp) hz8 hpl (by omega)
        rw [hsv]
        simp
        refine StA.of (hjo.mono ?_)
        rintro v σ' ⟨rfl, rfl⟩
        refine (parse_calls _ (by omega)).use ?_
        simp [parsedAV, p4, p5, hz7, hz8, hz9, hz10, hx2, hz5]
        refine StA.of ((joinK_arr (σ ++ [B, .cells (ps.map AV.str), .cells ((Oyez.sp 32 false ps[X.line]).map AV.str)]) (σ.length + 1) ps (X.line + 1) (by simp) hz5 hpl (by omega)).mono ?_)
        rintro v σ' ⟨rfl, rfl⟩
        refine (parse_calls _ (by omega)).use ?_
        rw [p6]
        simp [parsedAV]
        refine awake_calls.use ?_
        simp
    · simp
      refine ACode_draw0 mixed (by kernel_rfl) ?_
      simp [hx1, hIN, hIs, hIs1, hIt', h0I, hIle, hb2, hmn, hb5, hb6]
      have hown := hl2 b c
      clear hl0 hl1 hl2
      generalize text.take I ++ b :: c :: text.drop (I + 1) = own at hown ⊢
      refine (parse_calls own (by omega)).use ?_
      have hm := main own hown
      have hpe := fun h => Oyez.parse_err (s := own) h
      obtain ⟨X, hX⟩ : ∃ X, Oyez.parse own = X := ⟨_, rfl⟩
      rw [hX] at hm hpe ⊢
      clear hX
      by_cases he : X.err = 0
      · obtain ⟨k1, k2, k3⟩ := hm he
        obtain ⟨j1, j2, j3, j4⟩ := right_few k1
        have hpx : printC X.recs = (own, 0) := by unfold printC; rw [if_pos k1, k2]
        simp [parsedAV, he]
        refine (print_calls X.recs j1).use ?_
        rw [hpx]
        simp
        refine (same_calls X.recs f (by omega) j4).use ?_
        by_cases hot : own = text
        · have := k3.1 hot
          simp [hot, this]
          refine awake_calls.use ?_
          simp
        · have : ¬ X.recs = f := fun h => hot (k3.2 h)
          simp [hot, this]
          refine awake_calls.use ?_
          simp
      · obtain ⟨p1, p2, p3, p4, p5, p6⟩ := hpe he
        have q1 := Oyez.sp_lines_len own
        have q2 := Oyez.sp_lines_words own X.line p2
        have q3 := Oyez.sp_lines_take own X.line (by omega)
        have q4 := Oyez.sp_lines_take own (X.line + 1) (by omega)
        have q5 := cat_take_len own X.line
        have q6 := cat_take_len own (X.line + 1)
        have q7 := Oyez.sp_len 10 true own
        have q8 : own.count 10 ≤ own.length := List.count_le_length
        rw [q2] at p3
        rw [← q3] at p4 p5 q5
        rw [← q4] at p6 q6
        have hlt : X.line < (Oyez.sp 10 true own).length := by omega
        have hpl : (Oyez.sp 10 true own).length ≤ 2 ^ 40 := by omega
        clear q1 q2 q3 q4 q7 q8 p2
        simp [parsedAV, he]
        refine StA.of ((splitAfter_calls own 10 (by omega) (σ ++ [B])).mono ?_)
        rintro v σ' ⟨rfl, rfl⟩
        generalize Oyez.sp 10 true own = ps at p3 p4 p5 p6 q5 q6 hlt hpl ⊢
        have hlt' : ¬ (ps.length : Int) ≤ (X.line : Int) := by omega
        have hz1 : ¬ (X.line : Int) < 0 := by omega
        have hz2 : ¬ (X.word : Int) < 0 := by omega
        have hz3 : (0 : Int) ≤ (X.line : Int) := by omega
        have hz4 : (X.line : Int) < (ps.length : Int) := by omega
        have hz5 : X.line + 1 ≤ ps.length := by omega
        have hg : ps[X.line]?.getD [] = ps[X.line] := by rw [List.getElem?_eq_getElem hlt]; rfl
        rw [hg] at p3
        have hpc : (ps[X.line]).length ≤ 2 ^ 40 := by
          rw [List.take_succ_eq_append_getElem hlt, List.flatten_append, List.length_append] at q6
          simp at q6
          omega
        have hz6 : ¬ ((Oyez.sp 32 false ps[X.line]).length : Int) < (X.word : Int) := by omega
        have hz7 : (X.line : Int) ≤ (ps.length : Int) := by omega
        have hz8 : X.line ≤ ps.length := by omega
        have hz9 : (0 : Int) ≤ (X.line : Int) + 1 := by omega
        have hz10 : (X.line : Int) + 1 ≤ (ps.length : Int) := by omega
        have hx2 := w64 (n := (X.line : Int) + 1) (by omega) (by omega)
        simp [hlt, hlt', hz1, hz2, hz3, hz4, hz5, p1]
        refine StA.of ((goSplit_calls ps[X.line] 32 hpc (σ ++ [B, .cells (ps.map AV.str)])).mono ?_)
        rintro v σ' ⟨rfl, rfl⟩
        simp [hlt, hlt', hz1, hz2, hz3, hz4, hz5, hz6, hz7, hz8, p1]
        obtain ⟨sv, hsv, hjo⟩ := joinS (σ ++ [B, .cells (ps.map AV.str), .cells ((Oyez.sp 32 false ps[X.line]).map AV.str)]) (σ.length + 1) ps X.line (by simp) hz8 hpl (by omega)
        rw [hsv]
        simp
        refine StA.of (hjo.mono ?_)
        rintro v σ' ⟨rfl, rfl⟩
        refine (parse_calls _ (by omega)).use ?_
        simp [parsedAV, p4, p5, hz7, hz8, hz9, hz10, hx2, hz5]
        refine StA.of ((joinK_arr (σ ++ [B, .cells (ps.map AV.str), .cells ((Oyez.sp 32 false ps[X.line]).map AV.str)]) (σ.length + 1) ps (X.line + 1) (by simp) hz5 hpl (by omega)).mono ?_)
        rintro v σ' ⟨rfl, rfl⟩
        refine (parse_calls _ (by omega)).use ?_
        rw [p6]
        simp [parsedAV]
        refine awake_calls.use ?_
        simp
end Ab
