/-
  WHAT THE LAWS OF DRAWN FILES SHARE: files that are right, the places that copies of a file can have.
  FileComposed: the walk.
  FileJoined: the walk.
-/
import Derived.Test.YtdifgaapdnbliaaGreatDoorL19
import Derived.Test.YtdifgaapdnbliaaGreatDoorL24
import Derived.Test.YtdifgaapdnbliaaGreatDoorL25
import Derived.Test.YtdifgaapdnbliaaGreatDoorL26
import Derived.Test.YtdifgaapdnbliaaGreatDoorL36
import Derived.Test.YtdifgaapdnbliaaGreatDoorL40
import Derived.Test.YtdifgaapdnbliaaGreatDoorL41
set_option linter.unusedSimpArgs false
set_option linter.unusedVariables false
set_option linter.unusedSectionVars false
namespace Ab
open Go Go.RowKit Go.Proofs
theorem right_fewF {f : List Oyez.Rec} (h : Oyez.check f = 0) : Few f ∧ f.length ≤ 40 ∧ (Oyez.print f).length ≤ 2600 ∧ ∀ r ∈ f, r.words.length ≤ 2 ^ 40 := by
  have hr := Oyez.check_zero h
  have hl := hr.len
  have hp := print_len hr.recs
  have key : ∀ r ∈ f, tot1 r.words ≤ 64 ∧ r.words.length ≤ 6 := fun r hm => by
    obtain ⟨_, h2⟩ := (Oyez.recErr_iff r).1 (hr.recs r hm)
    obtain ⟨h3, h4, h5⟩ := Oyez.wordsErr_zero h2
    refine ⟨?_, h3⟩
    unfold Oyez.line at h5
    rw [List.length_append, flat_len32] at h5
    omega
  exact ⟨fun r hm => ⟨by have := (key r hm).1; omega, by have := (key r hm).2; omega⟩, hl, by omega, fun r hm => by have := (key r hm).2; omega⟩
theorem GoodF.right {f : List Oyez.Rec} (h : GoodF f) (hl : f.length ≤ 40) : Oyez.Right f := ⟨hl, h.recs, h.sorted⟩
/-- the byte that a damage makes -/
def dmg (b : UInt8) (dm : Nat) : UInt8 := UInt8.ofNat (b.toNat + (1 + dm / 256 % 255))
/-- a copy of a file, and where its records may be -/
structure CopyOf (f a : List Oyez.Rec) (e : List Oyez.Place) : Prop where
  good : GoodF a
  len : a.length ≤ f.length + 3
  few : e.length ≤ 3
  at_ : ∀ r ∈ a, r.place ∈ f.map Oyez.Rec.place ∨ r.place ∈ e
theorem CopyOf.mem {f a : List Oyez.Rec} {e : List Oyez.Place} (h : CopyOf f a e) : ∀ p ∈ a.map Oyez.Rec.place, p ∈ f.map Oyez.Rec.place ++ e := fun p hp => by
  obtain ⟨r, hr, rfl⟩ := List.mem_map.1 hp
  exact List.mem_append.2 (h.at_ r hr)
theorem join_small {f a b : List Oyez.Rec} {ea eb : List Oyez.Place} (ha : CopyOf f a ea) (hb : CopyOf f b eb) (hf : f.length ≤ 20) (s : List Bool) : (Oyez.join f a b s).out.length ≤ 26 ∧ (Oyez.confsOf f a b).length ≤ 26 := by
  have h := Oyez.join_out_len (base := f) (a := a) (b := b) (s := s) (m := f.map Oyez.Rec.place ++ ea ++ eb) fun p hp => by
    rcases hp with hp | hp | hp
    · simp only [List.mem_append]; exact .inl (.inl hp)
    · have := List.mem_append.1 (ha.mem p hp)
      simp only [List.mem_append]
      rcases this with h | h
      · exact .inl (.inl h)
      · exact .inl (.inr h)
    · have := List.mem_append.1 (hb.mem p hp)
      simp only [List.mem_append]
      rcases this with h | h
      · exact .inl (.inl h)
      · exact .inr h
  have h1 := ha.few
  have h2 := hb.few
  simp only [List.length_append, List.length_map] at h
  omega
end Ab
namespace Ab
open Go Go.RowKit Go.Proofs
attribute [local irreducible] aws awp aw1 Og Om Oc Oa Ogd Ov Ot awd aw1d awh aw1h Ogh Ohd awl Ogl Ohl awv Ogv Ohv QThen QBlock QFn QFnM QRo QBe ACode AYield
set_option maxHeartbeats 40000000 in
theorem composed_law (l1 l2 : List UInt8) (h1 : l1.length ≤ 9223372036854775807) (h2 : l2.length ≤ 9223372036854775807) : APure Tryz.prog 12 [.pl 1 (bytesL l1), .pl 1 (bytesL l2)] (.bool true) := by
  refine APure.of fun σ => ?_
  refine acalls_fn Tryz.func12 rfl (enters_fn Tryz.func12 (by decide) rfl) ?_
  simp [Tryz.ntmps12]
  refine StA.of ((hang_calls σ _ rfl).mono ?_)
  rintro v σ' ⟨rfl, rfl⟩
  refine StA.of ((made15_calls (σ ++ [bellObj l1 0 0]) σ.length l1 0 0 (by simp) (by omega) h1).mono ?_)
  rintro v σ' ⟨f, a', c', rfl, hf, hfl, hfw, ha', rfl⟩
  simp
  refine StA.of ((hang_calls (σ ++ [bellObj l1 a' c']) _ rfl).mono ?_)
  rintro v σ' ⟨rfl, rfl⟩
  have rf := Oyez.check_zero hf
  have gf : GoodF f := ⟨rf.recs, rf.sorted, hfw⟩
  simp
  refine StA.of ((copied_calls (σ ++ [bellObj l1 a' c', bellObj l2 0 0]) (σ.length + 1) l2 0 0 f (by simp) (by omega) h2 gf (by omega)).mono ?_)
  rintro v σ' ⟨g, eg, a2, c2, rfl, gg, hgl, _, _, ha2, rfl⟩
  simp
  refine StA.of ((copied_calls (σ ++ [bellObj l1 a' c', bellObj l2 a2 c2]) (σ.length + 1) l2 a2 c2 g (by simp) (by omega) h2 gg (by omega)).mono ?_)
  rintro v σ' ⟨h, eh, a3, c3, rfl, gh, hhl, _, _, ha3, rfl⟩
  simp
  refine StA.of ((copied_calls (σ ++ [bellObj l1 a' c', bellObj l2 a3 c3]) (σ.length + 1) l2 a3 c3 h (by simp) (by omega) h2 gh (by omega)).mono ?_)
  rintro v σ' ⟨i, ei, a4, c4, rfl, gi, hil, _, _, ha4, rfl⟩
  have rg : Oyez.Right g := gg.right (by omega)
  have rh : Oyez.Right h := gh.right (by omega)
  have ri : Oyez.Right i := gi.right (by omega)
  have dif : ∀ {a b : List Oyez.Rec}, Oyez.Right a → Oyez.Right b → APure Tryz.prog 68 [fileAV a, fileAV b] (.tup [chgsAV (Oyez.diff a b), .int .i64 0]) := by
    intro a b ra rb
    have k := diffP68 a b (right_fewF (Oyez.right_check ra)).1 (right_fewF (Oyez.right_check rb)).1 (by have := ra.len; have := rb.len; omega)
    rw [diffR_right ra rb] at k
    exact k
  have aft : ∀ {a b c : List Oyez.Rec}, Oyez.Right a → Oyez.Right b → Oyez.Right c → APure Tryz.prog 41 [chgsAV (Oyez.diff a b), chgsAV (Oyez.diff b c)] (.tup [chgsAV (Oyez.diff a c), .int .i64 0]) := by
    intro a b c ra rb rc
    have d1 := Oyez.diff_right ra rb
    have d2 := Oyez.diff_right rb rc
    have k := afterP41 (Oyez.diff a b) (Oyez.diff b c) (right_fewC d1).1 (right_fewC d2).1 (by have := d1.len; omega) (by have := d2.len; omega)
    rw [afterR_diff ra rb rc] at k
    exact k
  have alk : ∀ {a b : List Oyez.Rec}, Oyez.Right a → Oyez.Right b → APure Tryz.prog 42 [chgsAV (Oyez.diff a b), chgsAV (Oyez.diff a b)] (.bool true) := by
    intro a b ra rb
    have d1 := Oyez.diff_right ra rb
    have k := calike_calls (Oyez.diff a b) (Oyez.diff a b) (by have := d1.len; omega) (right_fewC d1).2
    simpa using k
  have bak : ∀ {a b : List Oyez.Rec}, Oyez.Right a → Oyez.Right b → APure Tryz.prog 71 [chgsAV (Oyez.diff a b)] (.tup [chgsAV (Oyez.diff b a), .int .i64 0]) := by
    intro a b ra rb
    have d1 := Oyez.diff_right ra rb
    have k := backP71 (Oyez.diff a b) (right_fewC d1).1 (by have := d1.len; omega)
    rw [backR_diff ra rb] at k
    exact k
  have hnone := Oyez.diff_self f
  simp
  refine (dif rf rg).use ?_
  simp
  refine (dif rg rh).use ?_
  simp
  refine (dif rh ri).use ?_
  simp
  refine (aft rf rg rh).use ?_
  simp
  refine (aft rg rh ri).use ?_
  simp
  refine (dif rf rh).use ?_
  simp
  refine (alk rf rh).use ?_
  simp
  refine (aft rf rh ri).use ?_
  simp
  refine (aft rf rg ri).use ?_
  simp
  refine (dif rf ri).use ?_
  simp
  refine (alk rf ri).use ?_
  simp
  refine (alk rf ri).use ?_
  simp
  refine (bak rf rg).use ?_
  simp
  refine (aft rf rg rf).use ?_
  rw [hnone]
  simp
  refine awake_calls.use ?_
  simp
end Ab
namespace Ab
open Go Go.RowKit Go.Proofs
attribute [local irreducible] aws awp aw1 Og Om Oc Oa Ogd Ov Ot awd aw1d awh aw1h Ogh Ohd awl Ogl Ohl awv Ogv Ohv QThen QBlock QFn QFnM QRo QBe ACode AYield
theorem eqP_calls (l : List Oyez.Place) (hl : l.length ≤ 2 ^ 40) : APure Tryz.prog 136 [placesAV l, placesAV l] (.bool true) := by
  intro σ
  refine acalls_fn Tryz.func136 rfl (enters_fn Tryz.func136 (by decide) rfl) ?_
  simp [Tryz.ntmps136]
  refine ACode_loopT (fun env σ' => ∃ (u : List AV) (i : Nat), env = { t := u } ∧ u.length = 26 ∧ tg u 0 = placesAV l ∧ tg u 1 = placesAV l ∧ tg u 12 = .int .i64 l.length ∧ tg u 13 = .int .i64 i ∧ σ' = σ ∧ i ≤ l.length)
    (fun env _ => match tg env.t 13 with | .int _ i => l.length - i.toNat | _ => 0) ⟨_, 0, rfl, by simp, by simp, by simp, by simp, by simp, rfl, by omega⟩ ?_
  rintro env _ ⟨u, i, rfl, hl2, g0, g1, g12, g13, rfl, hi⟩
  rcases Nat.lt_or_ge i l.length with hlt | hge
  · have hlt' : (i : Int) < (l.length : Int) := by omega
    have hx := w64 (n := (i : Int) + 1) (by omega) (by omega)
    have haq := aeqs_pl l[i] l[i]
    simp only [decide_true] at haq
    simp [-aeqs, hl2, g0, g1, g12, g13, hlt', hlt]
    refine ACode_draw0 mixed (by kernel_rfl) ?_
    simp [-aeqs, hl2, g0, g1, g12, g13, hlt', hlt, haq, hx]
    exact ⟨⟨i + 1, by simp, by omega⟩, by omega⟩
  · have hge' : ¬ (i : Int) < (l.length : Int) := by omega
    simp [hl2, g0, g1, g12, g13, hge']
theorem likeP_calls (l : List Oyez.Place) (hl : l.length ≤ 2 ^ 40) : APure Tryz.prog 67 [placesAV l, placesAV l] (.bool true) := by
  intro σ
  refine acalls_fn Tryz.func67 rfl (enters_fn Tryz.func67 (by decide) rfl) ?_
  simp [Tryz.ntmps67]
  refine (eqP_calls l hl).use ?_
  simp
theorem is70_calls {t : Nat} (m k : Oyez.Chg) (σ : Heap) (ht : σ[t]? = some (.cells (chgCells k))) (hm : m.old.length ≤ 2 ^ 40 ∧ m.new.length ≤ 2 ^ 40) :
    ACalls Tryz.prog 70 [chgAV m, .ptr t 0] σ fun v σ' => v = .bool (decide (m = k)) ∧ σ' = σ := by
  refine ACalls.forget ?_
  refine acalls_fn Tryz.func70 rfl (enters_fn Tryz.func70 (by decide) rfl) ?_
  have htg : ∀ g : Heap, (σ ++ g)[t]? = some (.cells (chgCells k)) := fun g => get_app ht
  have hal := calike_calls [m] [k] (by simp) (fun c hc => by rw [List.mem_singleton.1 hc]; exact hm)
  have hd : decide ([m] = [k]) = decide (m = k) := by simp
  rw [hd] at hal
  have ho : ∀ (c : Oyez.Chg) (g : Heap) (j : Nat), g[j]? = some (.cells (chgCells c)) → Acc σ g 6 (.arr 6 (σ.length + j) 0 1) ([c].map chgAV) (some j) := fun c g j h => ⟨fun x hx => by
    obtain ⟨r, _, rfl⟩ := List.mem_map.1 hx
    exact ⟨rfl, by simp [AV.cells, AV.one]⟩, by simp, by rw [h]; simp [chgCells, AV.cells]⟩
  obtain ⟨B, hB⟩ : ∃ B, decide (m = k) = B := ⟨_, rfl⟩
  rw [hB] at hal ⊢
  simp [Tryz.ntmps70, htg, chgCells]
  have key : ACalls Tryz.prog 42 [.arr 6 (σ.length + 1) 0 1, .arr 6 (σ.length + 2) 0 1] (σ ++ [AObj.cells (chgCells m), AObj.cells (chgCells m), AObj.cells (chgCells k)]) fun v s => v = .bool B ∧ s = σ ++ [AObj.cells (chgCells m), AObj.cells (chgCells m), AObj.cells (chgCells k)] := by
    refine APure.lend hal rfl (fun i x y hx hy => ?_) (fun C C' c hv => ?_)
    · match i, hx, hy with
      | 0, hx, hy =>
        simp only [List.getElem?_cons_zero, Option.some.injEq] at hx hy; subst hx; subst hy
        have := (ho m [AObj.cells (chgCells m), AObj.cells (chgCells m), AObj.cells (chgCells k)] 1 rfl).fz0 (X := []) (by omega) (fz_chgs _ _ _)
        rw [List.append_nil] at this
        exact this
      | 1, hx, hy =>
        simp only [List.getElem?_cons_zero, List.getElem?_cons_succ, Option.some.injEq] at hx hy; subst hx; subst hy
        have := (ho k [AObj.cells (chgCells m), AObj.cells (chgCells m), AObj.cells (chgCells k)] 2 rfl).fz0 (X := []) (by omega) (fz_chgs _ _ _)
        rw [List.append_nil] at this
        exact this
      | i + 2, hx, _ => simp at hx
    · cases hv; exact .bool _
  refine StA.of (key.mono ?_)
  rintro _ _ ⟨rfl, rfl⟩
  simp
theorem index139_calls {t : Nat} (l : List Oyez.Chg) (k : Oyez.Chg) (σ : Heap) (ht : σ[t]? = some (.cells (chgCells k))) (hm : ∀ m ∈ l, m.old.length ≤ 2 ^ 40 ∧ m.new.length ≤ 2 ^ 40) (hl : l.length ≤ 2 ^ 40) (hk : k ∈ l) :
    ACalls Tryz.prog 139 [chgsAV l, .fn (.func 70) [] [.ptr t 0]] σ fun v σ' => (∃ i : Nat, v = .int .i64 i) ∧ σ' = σ := by
  refine acalls_fn Tryz.func139 rfl (enters_fn Tryz.func139 (by decide) rfl) ?_
  simp [Tryz.ntmps139]
  refine ACode_loopT (fun env σ' => ∃ (u : List AV) (i : Nat), env = { t := u } ∧ u.length = 19 ∧ tg u 0 = chgsAV l ∧ tg u 1 = .fn (.func 70) [] [.ptr t 0] ∧ tg u 7 = .int .i64 l.length ∧ tg u 8 = .int .i64 i ∧ σ' = σ ∧ i ≤ l.length ∧ k ∉ l.take i)
    (fun env _ => match tg env.t 8 with | .int _ i => l.length - i.toNat | _ => 0) ⟨_, 0, rfl, by simp, by simp, by simp, by simp, by simp, rfl, by omega, by simp⟩ ?_
  rintro env _ ⟨u, i, rfl, hl2, g0, g1, g7, g8, rfl, hi, hno⟩
  rcases Nat.lt_or_ge i l.length with hlt | hge
  · have hlt' : (i : Int) < (l.length : Int) := by omega
    have hx := w64 (n := (i : Int) + 1) (by omega) (by omega)
    simp [hl2, g0, g1, g7, g8, hlt', hlt]
    refine StA.of ((is70_calls l[i] k _ ht (hm _ (List.getElem_mem hlt))).mono ?_)
    rintro _ _ ⟨rfl, rfl⟩
    by_cases he : l[i] = k
    · simp [hl2, g0, g1, g7, g8, he]
      exact ⟨i, rfl⟩
    · simp [hl2, g0, g1, g7, g8, he, hx]
      refine ⟨⟨i + 1, by simp, by omega, ?_⟩, by omega⟩
      rw [List.take_succ_eq_append_getElem hlt, List.mem_append, List.mem_singleton]
      rintro (h | h)
      · exact hno h
      · exact he h.symm
  · rw [List.take_of_length_le hge] at hno
    exact absurd hk hno
theorem contains69_calls {t : Nat} (l : List Oyez.Chg) (k : Oyez.Chg) (σ : Heap) (ht : σ[t]? = some (.cells (chgCells k))) (hm : ∀ m ∈ l, m.old.length ≤ 2 ^ 40 ∧ m.new.length ≤ 2 ^ 40) (hl : l.length ≤ 2 ^ 40) (hk : k ∈ l) :
    ACalls Tryz.prog 69 [chgsAV l, .fn (.func 70) [] [.ptr t 0]] σ fun v σ' => v = .bool true ∧ σ' = σ := by
  refine acalls_fn Tryz.func69 rfl (enters_fn Tryz.func69 (by decide) rfl) ?_
  simp [Tryz.ntmps69]
  refine StA.of ((index139_calls l k σ ht hm hl hk).mono ?_)
  rintro _ _ ⟨⟨i, rfl⟩, rfl⟩
  simp
set_option maxHeartbeats 40000000 in
theorem joined_law (l1 l2 : List UInt8) (h1 : l1.length ≤ 9223372036854775807) (h2 : l2.length ≤ 9223372036854775807) : APure Tryz.prog 11 [.pl 1 (bytesL l1), .pl 1 (bytesL l2)] (.bool true) := by
  refine APure.of fun σ => ?_
  refine acalls_fn Tryz.func11 rfl (enters_fn Tryz.func11 (by decide) rfl) ?_
  simp [Tryz.ntmps11]
  refine StA.of ((hang_calls σ _ rfl).mono ?_)
  rintro v σ' ⟨rfl, rfl⟩
  refine StA.of ((made20_calls (σ ++ [bellObj l1 0 0]) σ.length l1 0 0 (by simp) (by omega) h1).mono ?_)
  rintro v σ' ⟨f, a', c', rfl, hf, hfl, hfw, ha', rfl⟩
  simp
  refine StA.of ((hang_calls (σ ++ [bellObj l1 a' c']) _ rfl).mono ?_)
  rintro v σ' ⟨rfl, rfl⟩
  have rf := Oyez.check_zero hf
  have gf : GoodF f := ⟨rf.recs, rf.sorted, hfw⟩
  simp
  refine StA.of ((copied_calls (σ ++ [bellObj l1 a' c', bellObj l2 0 0]) (σ.length + 1) l2 0 0 f (by simp) (by omega) h2 gf (by omega)).mono ?_)
  rintro v σ' ⟨a, ea, a2, c2, rfl, ga, hal, hea, hap, ha2, rfl⟩
  simp
  refine StA.of ((copied_calls (σ ++ [bellObj l1 a' c', bellObj l2 a2 c2]) (σ.length + 1) l2 a2 c2 f (by simp) (by omega) h2 gf (by omega)).mono ?_)
  rintro v σ' ⟨b, eb, a3, c3, rfl, gb, hbl, heb, hbp, ha3, rfl⟩
  have ca : CopyOf f a ea := ⟨ga, hal, hea, hap⟩
  have cb : CopyOf f b eb := ⟨gb, hbl, heb, hbp⟩
  have ra : Oyez.Right a := ga.right (by omega)
  have rb : Oyez.Right b := gb.right (by omega)
  have hsm := join_small ca cb hfl []
  have rj := Oyez.join_right rf ra rb [] (by omega)
  have dif : ∀ {a b : List Oyez.Rec}, Oyez.Right a → Oyez.Right b → APure Tryz.prog 68 [fileAV a, fileAV b] (.tup [chgsAV (Oyez.diff a b), .int .i64 0]) := by
    intro a b ra rb
    have k := diffP68 a b (right_fewF (Oyez.right_check ra)).1 (right_fewF (Oyez.right_check rb)).1 (by have := ra.len; have := rb.len; omega)
    rw [diffR_right ra rb] at k
    exact k
  have aft : ∀ {a b c : List Oyez.Rec}, Oyez.Right a → Oyez.Right b → Oyez.Right c → APure Tryz.prog 41 [chgsAV (Oyez.diff a b), chgsAV (Oyez.diff b c)] (.tup [chgsAV (Oyez.diff a c), .int .i64 0]) := by
    intro a b c ra rb rc
    have d1 := Oyez.diff_right ra rb
    have d2 := Oyez.diff_right rb rc
    have k := afterP41 (Oyez.diff a b) (Oyez.diff b c) (right_fewC d1).1 (right_fewC d2).1 (by have := d1.len; omega) (by have := d2.len; omega)
    rw [afterR_diff ra rb rc] at k
    exact k
  have alk : ∀ {a b : List Oyez.Rec}, Oyez.Right a → Oyez.Right b → APure Tryz.prog 42 [chgsAV (Oyez.diff a b), chgsAV (Oyez.diff a b)] (.bool true) := by
    intro a b ra rb
    have d1 := Oyez.diff_right ra rb
    have k := calike_calls (Oyez.diff a b) (Oyez.diff a b) (by have := d1.len; omega) (right_fewC d1).2
    simpa using k
  have sam : ∀ {a : List Oyez.Rec}, Oyez.Right a → APure Tryz.prog 19 [fileAV a, fileAV a] (.bool true) := by
    intro a ra
    have k := same_calls a a (by have := ra.len; omega) (right_fewF (Oyez.right_check ra)).2.2.2
    simpa using k
  have jn : ∀ {a b : List Oyez.Rec}, Oyez.Right a → Oyez.Right b → (Oyez.join f a b []).out.length ≤ 40 → APure Tryz.prog 33 [fileAV f, fileAV a, fileAV b] (.tup [fileAV (Oyez.join f a b []).out, placesAV (Oyez.confsOf f a b), .int .i64 0]) := by
    intro a b ra rb hl
    have k := joinP33 f a b (right_fewF hf).1 (right_fewF (Oyez.right_check ra)).1 (right_fewF (Oyez.right_check rb)).1 (by have := rf.len; have := ra.len; have := rb.len; omega)
    have e : joinR f a b = ((Oyez.join f a b []).out, Oyez.confsOf f a b, 0) := by
      unfold joinR chk3
      rw [hf, Oyez.right_check ra, Oyez.right_check rb, if_neg (by simp), if_neg (by omega), (Oyez.join_pl f a b []).2]
    rw [e] at k
    exact k
  have j1 := jn ra rb (by omega)
  have j2 := jn rb ra (by rw [← (Oyez.join_swap f a b).1]; omega)
  rw [← (Oyez.join_swap f a b).1, ← (Oyez.join_swap f a b).2] at j2
  have j3 := jn ra rf (by rw [(Oyez.join_base (f := f) ra.sorted).1]; exact ra.len)
  rw [(Oyez.join_base (f := f) ra.sorted).1, (Oyez.join_base (f := f) ra.sorted).2] at j3
  have j4 := jn ra ra (by rw [(Oyez.join_same (f := f) ra.sorted).1]; exact ra.len)
  rw [(Oyez.join_same (f := f) ra.sorted).1, (Oyez.join_same (f := f) ra.sorted).2] at j4
  have hsec := fun (h : Oyez.confsOf f a b = []) c hc => Oyez.second_in (f := f) (a := a) (b := b) h (c := c) hc
  have hlen := Oyez.joined_len f a b
  have d1 := Oyez.diff_right rf ra
  have d2 := Oyez.diff_right rf rj
  have d3 := Oyez.diff_right rf rb
  have q1 := dif rf ra
  have q2 := dif rf rj
  have q3 := dif ra rj
  have q4 := aft rf ra rj
  have q5 := alk rf rj
  have q6 := dif rf rb
  have q7 := sam rj
  have q8 := sam ra
  have q9 := likeP_calls (Oyez.confsOf f a b) (by omega)
  obtain ⟨J, hJ⟩ : ∃ J, (Oyez.join f a b []).out = J := ⟨_, rfl⟩
  obtain ⟨L, hL⟩ : ∃ L, Oyez.confsOf f a b = L := ⟨_, rfl⟩
  rw [hJ] at j1 j2 q2 q3 q4 q5 q7 hsec hlen d2
  rw [hL] at j1 j2 q9 hsec
  obtain ⟨U, hU⟩ : ∃ U, Oyez.diff f J = U := ⟨_, rfl⟩
  obtain ⟨V, hV⟩ : ∃ V, Oyez.diff f b = V := ⟨_, rfl⟩
  rw [hU] at q2 q4 q5 hsec hlen d2
  rw [hV] at q6 hsec hlen d3
  simp
  refine j1.use ?_
  simp
  refine j2.use ?_
  simp
  refine q7.use ?_
  simp
  refine q9.use ?_
  simp
  refine ACode_loopT (fun env σ' => ∃ (u : List AV) (i : Nat) (g : Heap), env = { t := u } ∧ u.length = 182 ∧ tg u 5 = fileAV f ∧ tg u 7 = fileAV a ∧ tg u 8 = fileAV b ∧ tg u 9 = fileAV J ∧ tg u 10 = placesAV L ∧ tg u 76 = .arr 1 (σ.length + 2) 0 2 ∧ tg u 77 = .int .i64 2 ∧ tg u 78 = .int .i64 i ∧ σ' = σ ++ [bellObj l1 a' c', bellObj l2 a3 c3, .cells [fileAV f, fileAV a]] ∧ i ≤ 2)
    (fun env _ => match tg env.t 78 with | .int _ i => 2 - i.toNat | _ => 0) ⟨_, 0, [], rfl, by simp, by simp, by simp, by simp, by simp, by simp, by simp, by simp, by simp, by simp, by omega⟩ ?_
  rintro env _ ⟨u, i, g, rfl, hl, g5, g7, g8, g9, g10, g76, g77, g78, rfl, hi⟩
  have w1 := w64 (n := (1 : Int)) (by omega) (by omega)
  have w2 := w64 (n := (2 : Int)) (by omega) (by omega)
  match i, hi with
  | 0, _ =>
    simp [hl, g5, g7, g8, g9, g10, g76, g77, g78, w1, w2]
    refine j3.use ?_
    simp [hl, g5, g7, g8, g9, g10, g76, g77, g78, w1, w2]
    refine q8.use ?_
    simp [hl, g5, g7, g8, g9, g10, g76, g77, g78, w1, w2]
    first | exact ⟨1, rfl, by omega⟩ | exact ⟨⟨1, rfl, by omega⟩, by omega⟩
  | 1, _ =>
    simp [hl, g5, g7, g8, g9, g10, g76, g77, g78, w1, w2]
    refine j4.use ?_
    simp [hl, g5, g7, g8, g9, g10, g76, g77, g78, w1, w2]
    refine q8.use ?_
    simp [hl, g5, g7, g8, g9, g10, g76, g77, g78, w1, w2]
    first | exact ⟨2, rfl, by omega⟩ | exact ⟨⟨2, rfl, by omega⟩, by omega⟩ | exact ⟨2, rfl⟩
  | 2, _ =>
    simp [hl, g5, g7, g8, g9, g10, g76, g77, g78, w1, w2]
    refine q1.use ?_
    simp [hl, g5, g7, g8, g9, g10, g76, g77, g78]
    refine q2.use ?_
    simp [hl, g5, g7, g8, g9, g10, g76, g77, g78]
    refine q3.use ?_
    simp [hl, g5, g7, g8, g9, g10, g76, g77, g78]
    refine q4.use ?_
    simp [hl, g5, g7, g8, g9, g10, g76, g77, g78]
    refine q5.use ?_
    by_cases hL0 : L = []
    · subst hL0
      simp [hl, g5, g7, g8, g9, g10, g76, g77, g78]
      refine q6.use ?_
      simp [hl, g5, g7, g8, g9, g10, g76, g77, g78]
      obtain ⟨W, hW⟩ : ∃ W, Oyez.diff f a = W := ⟨_, rfl⟩
      rw [hW] at hlen d1
      rw [hW]
      have hsec := hsec rfl
      have uw := (right_fewC d2).2
      have d2l := d2.len
      have d1l := d1.len
      have d3l := d3.len
      refine ACode_loopT (fun env σ' => ∃ (u : List AV) (j : Nat) (g : Heap), env = { t := u } ∧ u.length = 182 ∧ tg u 20 = chgsAV W ∧ tg u 21 = chgsAV U ∧ tg u 26 = chgsAV V ∧ tg u 160 = chgsAV V ∧ tg u 161 = .int .i64 V.length ∧ tg u 162 = .int .i64 j ∧ σ' = σ ++ g ∧ j ≤ V.length)
        (fun env _ => match tg env.t 162 with | .int _ i => V.length - i.toNat | _ => 0) ⟨_, 0, _, rfl, by simp [hl], by simp [hl], by simp [hl], by simp [hl], by simp [hl], by simp [hl], by simp [hl], rfl, by omega⟩ ?_
      clear g5 g7 g8 g9 g10 g76 g77 g78 hl u
      rintro env _ ⟨u, j, g, rfl, hl, g20, g21, g26, g160, g161, g162, rfl, hj⟩
      rcases Nat.lt_or_ge j V.length with hlt | hge
      · have hlt' : (j : Int) < (V.length : Int) := by omega
        have hx := w64 (n := (j : Int) + 1) (by omega) (by omega)
        have hk : V[j] ∈ U := hsec _ (List.getElem_mem hlt)
        simp [hl, g20, g21, g26, g160, g161, g162, hlt', hlt, Nat.add_assoc]
        refine StA.of ((contains69_calls U V[j] _ (by simp [chgCells]) uw (by omega) hk).mono ?_)
        rintro _ _ ⟨rfl, rfl⟩
        simp [hl, g20, g21, g26, g160, g161, g162, hlt', hlt, hx, Nat.add_assoc]
        exact ⟨⟨j + 1, by simp, by omega⟩, by omega⟩
      · have hge' : ¬ (j : Int) < (V.length : Int) := by omega
        have hx := w64 (n := (W.length : Int) + (V.length : Int)) (by omega) (by omega)
        have hle : (U.length : Int) ≤ (W.length : Int) + (V.length : Int) := by omega
        simp [hl, g20, g21, g26, g160, g161, g162, hge', hx, hle]
        refine awake_calls.use ?_
        simp [hl]
    · have hLp : (0 : Int) < (L.length : Int) := by have := List.length_pos_iff.2 hL0; omega
      simp [hl, g5, g7, g8, g9, g10, g76, g77, g78, hLp, List.length_pos_iff.2 hL0]
      refine awake_calls.use ?_
      simp [hl]
end Ab
