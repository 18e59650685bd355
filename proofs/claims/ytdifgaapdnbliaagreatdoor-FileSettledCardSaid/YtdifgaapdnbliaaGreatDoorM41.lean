/-
  WHAT THE STATEMENTS ASK OF FILES: what is at a place, as a text; the places of some files; is a place among some; strings.HasPrefix.
-/
import Derived.Test.YtdifgaapdnbliaaGreatDoorM29
import Derived.Test.YtdifgaapdnbliaaGreatDoorM38
set_option linter.unusedSimpArgs false
set_option linter.unusedVariables false
set_option linter.unusedSectionVars false
namespace Oyez
theorem glue_len (ws : List S) : (glueW ws).length ≤ (ws.flatMap fun w => (32 : UInt8) :: w).length := by
  cases ws with
  | nil => simp [glueW]
  | cons w t => simp [glueW]
theorem glue_rec {r : Rec} (h : recErr r = 0) : (glueW r.words).length ≤ 64 ∧ r.words.length ≤ 6 := by
  obtain ⟨h1, _, h3⟩ := wordsErr_zero ((recErr_iff r).1 h).2
  have := glue_len r.words
  unfold line at h3
  simp only [List.length_append] at h3
  exact ⟨by omega, h1⟩
theorem getIn_at {f : List Rec} {p : Place} {i : Nat} (hi : i < f.length) (h : ∀ x ∈ f.take i, x.place ≠ p) (hp : f[i].place = p) : getIn f p = some f[i].words := by
  have e : f = f.take i ++ f[i] :: f.drop (i + 1) := by rw [← List.drop_eq_getElem_cons hi, List.take_append_drop]
  conv => lhs; rw [e]
  rw [getIn_append, getIn_none, getIn_cons, if_pos hp]
  · rfl
  · intro hm
    obtain ⟨x, hx, hxp⟩ := List.mem_map.1 hm
    exact h x hx hxp
theorem idxOf_append_cons {l m : List Place} {p q : Place} (h : p ∉ l) (hq : q = p) : (l ++ q :: m).idxOf p = l.length := by
  subst hq
  rw [List.idxOf_append, if_neg h, List.idxOf_cons_self, Nat.zero_add]
theorem getIn_no {f : List Rec} {p : Place} (h : ∀ x ∈ f, x.place ≠ p) : getIn f p = none := getIn_none fun hm => by
  obtain ⟨x, hx, hxp⟩ := List.mem_map.1 hm
  exact h x hx hxp
end Oyez
namespace Ab
open Go Go.RowKit Go.Proofs
attribute [local irreducible] aws awp aw1 Og Om Oc Oa Ogd Ov Ot awd aw1d awh aw1h Ogh Ohd awl Ogl Ohl awv Ogv Ohv QThen QBlock QFn QFnM QRo QBe ACode AYield
set_option maxHeartbeats 2000000 in
theorem has_calls (f : List Oyez.Rec) (p : Oyez.Place) (hf : ∀ r ∈ f, Oyez.recErr r = 0) (hl : f.length ≤ 2 ^ 40) : APure Tryz.prog 53 [fileAV f, placeAV p] (.str (Oyez.hasS (Oyez.getIn f p))) := by
  refine APure.of fun σ => ?_
  refine acalls_fn Tryz.func53 rfl (enters_fn Tryz.func53 (by decide) rfl) ?_
  obtain ⟨R, hR⟩ : ∃ R, Oyez.hasS (Oyez.getIn f p) = R := ⟨_, rfl⟩
  rw [hR]
  simp [Tryz.ntmps53]
  refine ACode_loopT (fun env σ' => ∃ (u : List AV) (i : Nat) (g : Heap), env = { t := u } ∧ u.length = 30 ∧ tg u 3 = .ptr σ.length 0 ∧ tg u 7 = fileAV f ∧ tg u 8 = .int .i64 f.length ∧ tg u 9 = .int .i64 i ∧ σ' = σ ++ .cells [.int .i64 p.kind, .int .i64 p.number] :: g ∧ i ≤ f.length ∧ ∀ x ∈ f.take i, x.place ≠ p)
    (fun env _ => match tg env.t 9 with | .int _ i => f.length - i.toNat | _ => 0) ⟨_, 0, [], rfl, by simp, by simp, by simp, by simp, by simp, by simp, by omega, by simp⟩ ?_
  rintro env _ ⟨u, i, g, rfl, hl2, g3, g7, g8, g9, rfl, hi, hno⟩
  rcases Nat.lt_or_ge i f.length with hlt | hge
  · have hlt' : (i : Int) < (f.length : Int) := by omega
    have hx := w64 (n := (i : Int) + 1) (by omega) (by omega)
    have htk : f.take (i + 1) = f.take i ++ [f[i]] := List.take_succ_eq_append_getElem hlt
    by_cases hp : f[i].place = p
    · have hk : f[i].kind = p.kind := congrArg Oyez.Place.kind hp
      have hn : f[i].number = p.number := congrArg Oyez.Place.number hp
      obtain ⟨hg1, hg2⟩ := Oyez.glue_rec (hf _ (List.getElem_mem hlt))
      rw [Oyez.getIn_at hlt hno hp] at hR
      subst hR
      have hb : 1 + (Oyez.glueW f[i].words).length ≤ 9223372036854775807 := by omega
      have hb' : (Oyez.glueW f[i].words).length + 1 ≤ 9223372036854775807 := by omega
      have hb2 : (Oyez.glueW f[i].words).length ≤ 9223372036854775806 := by omega
      simp [hl2, g3, g7, g8, g9, hlt', hlt, hk, hn, Nat.add_assoc]
      refine (joinP_calls f[i].words (by omega) (by rw [join32_glue]; omega)).use ?_
      simp [hl2, g3, g7, g8, g9, hb, hb', hb2, Oyez.hasS]
    · have hne : ¬ (f[i].kind = p.kind ∧ f[i].number = p.number) := fun ⟨h1, h2⟩ => hp (Oyez.Place.ext' h1 h2)
      have hno' : ∀ x ∈ f.take (i + 1), x.place ≠ p := fun x hx => by
        rw [htk] at hx
        rcases List.mem_append.1 hx with hx | hx
        · exact hno x hx
        · rw [List.mem_singleton.1 hx]; exact hp
      by_cases hk : f[i].kind = p.kind
      · have hn : ¬ f[i].number = p.number := fun h => hne ⟨hk, h⟩
        simp [hl2, g3, g7, g8, g9, hlt', hlt, hk, hn, hx, Nat.add_assoc]
        exact ⟨⟨i + 1, by simp, by omega, hno'⟩, by omega⟩
      · simp [hl2, g3, g7, g8, g9, hlt', hlt, hk, hx, Nat.add_assoc]
        exact ⟨⟨i + 1, by simp, by omega, hno'⟩, by omega⟩
  · have hge' : ¬ (i : Int) < (f.length : Int) := by omega
    rw [List.take_of_length_le hge] at hno
    rw [Oyez.getIn_no hno] at hR
    subst hR
    simp [hl2, g3, g7, g8, g9, hge', Oyez.hasS]
/-! ### places -/
def placesAV (l : List Oyez.Place) : AV := .pl 2 (l.map placeAV)
attribute [simp] placesAV
def idxP (l : List Oyez.Place) (p : Oyez.Place) : Int := if p ∈ l then (l.idxOf p : Nat) else -1
theorem idxOf_at {l : List Oyez.Place} {p : Oyez.Place} {i : Nat} (hi : i < l.length) (h : ∀ x ∈ l.take i, x ≠ p) (hp : l[i] = p) : idxP l p = i := by
  have e : l = l.take i ++ l[i] :: l.drop (i + 1) := by rw [← List.drop_eq_getElem_cons hi, List.take_append_drop]
  unfold idxP
  rw [if_pos (hp ▸ List.getElem_mem hi)]
  have : l.idxOf p = i := by
    conv => lhs; rw [e]
    rw [Oyez.idxOf_append_cons (fun hm => h p hm rfl) hp, List.length_take]
    omega
  rw [this]
set_option maxHeartbeats 2000000 in
theorem indexP_calls (l : List Oyez.Place) (p : Oyez.Place) (hl : l.length ≤ 2 ^ 40) : APure Tryz.prog 56 [placesAV l, placeAV p] (.int .i64 (idxP l p)) := by
  refine APure.of fun σ => ?_
  refine acalls_fn Tryz.func56 rfl (enters_fn Tryz.func56 (by decide) rfl) ?_
  obtain ⟨R, hR⟩ : ∃ R, idxP l p = R := ⟨_, rfl⟩
  rw [hR]
  simp [Tryz.ntmps56]
  refine ACode_loopT (fun env σ' => ∃ (u : List AV) (i : Nat), env = { t := u } ∧ u.length = 19 ∧ tg u 0 = placesAV l ∧ tg u 3 = .ptr σ.length 0 ∧ tg u 7 = .int .i64 l.length ∧ tg u 8 = .int .i64 i ∧ σ' = σ ++ [.cells [.int .i64 p.kind, .int .i64 p.number]] ∧ i ≤ l.length ∧ ∀ x ∈ l.take i, x ≠ p)
    (fun env _ => match tg env.t 8 with | .int _ i => l.length - i.toNat | _ => 0) ⟨_, 0, rfl, by simp, by simp, by simp, by simp, by simp, by simp, by omega, by simp⟩ ?_
  rintro env _ ⟨u, i, rfl, hl2, g0, g3, g7, g8, rfl, hi, hno⟩
  rcases Nat.lt_or_ge i l.length with hlt | hge
  · have hlt' : (i : Int) < (l.length : Int) := by omega
    have hx := w64 (n := (i : Int) + 1) (by omega) (by omega)
    have htk : l.take (i + 1) = l.take i ++ [l[i]] := List.take_succ_eq_append_getElem hlt
    have haq := aeqs_place p l[i]
    simp [hl2, g0, g3, g7, g8, hlt', hlt]
    refine ACode_draw0 mixed (by kernel_rfl) ?_
    by_cases hp : p = l[i]
    · rw [idxOf_at hlt hno hp.symm] at hR
      subst hR
      have hd : decide (p = l[i]) = true := by simpa using hp
      simp [-aeqs, hl2, g0, g3, g7, g8, hlt', hlt, haq, hd]
    · have hd : decide (p = l[i]) = false := by simpa using hp
      have hno' : ∀ x ∈ l.take (i + 1), x ≠ p := fun x hx => by
        rw [htk] at hx
        rcases List.mem_append.1 hx with hx | hx
        · exact hno x hx
        · rw [List.mem_singleton.1 hx]; exact fun e => hp e.symm
      simp [-aeqs, hl2, g0, g3, g7, g8, hlt', hlt, haq, hd, hx]
      exact ⟨⟨i + 1, by simp, by omega, hno'⟩, by omega⟩
  · have hge' : ¬ (i : Int) < (l.length : Int) := by omega
    rw [List.take_of_length_le hge] at hno
    have : idxP l p = -1 := by
      unfold idxP
      rw [if_neg fun hm => hno p hm rfl]
    rw [this] at hR
    subst hR
    simp [hl2, g0, g3, g7, g8, hge']
theorem containsP_calls (l : List Oyez.Place) (p : Oyez.Place) (hl : l.length ≤ 2 ^ 40) : APure Tryz.prog 54 [placesAV l, placeAV p] (.bool (decide (p ∈ l))) := by
  refine APure.of fun σ => ?_
  refine acalls_fn Tryz.func54 rfl (enters_fn Tryz.func54 (by decide) rfl) ?_
  simp [Tryz.ntmps54]
  refine (indexP_calls l p hl).use ?_
  unfold idxP
  by_cases h : p ∈ l
  · simp [h]
  · simp [h]
/-- an own slice, read as what it holds -/
theorem Acc.fz0 {σ g X : Heap} {k : Nat} {v : AV} {l : List AV} {o : Option Nat} (hk : 0 < k) (h : Acc σ g k v l o) (hf : ∀ x ∈ l, ∀ y ∈ x.cells, Fz 0 (σ ++ (g ++ X)) y y) : Fz 0 (σ ++ (g ++ X)) v (.pl k l) := by
  have hv := h.val
  cases o with
  | none => obtain ⟨rfl, rfl⟩ := hv; exact .nils_pl k
  | some j =>
    obtain ⟨rfl, hg⟩ := hv
    have hget := flat_get l (fun x hx => (h.len x hx).1) hk
    refine .arr k _ 0 _ l (fun i j => ((l[i]?).bind fun x => x.cells[j]?).getD .any) (Nat.zero_le _) (by
      rw [hget_add, List.getElem?_append_left (List.getElem?_eq_some_iff.1 hg).1]; exact hg) (fun i x hx => ⟨(h.len x (List.mem_of_getElem? hx)).1, fun j y hy => ⟨(h.len x (List.mem_of_getElem? hx)).2 y (List.mem_of_getElem? hy), ?_⟩⟩) (fun i x hx j y hy => ?_)
    · have hc := (h.len x (List.mem_of_getElem? hx)).1
      have hj := (List.getElem?_eq_some_iff.1 hy).1
      rw [hget, Nat.zero_add]
      have e1 : (i * k + j) / k = i := by rw [Nat.mul_comm, Nat.mul_add_div hk, Nat.div_eq_of_lt (by omega)]; omega
      have e2 : (i * k + j) % k = j := by rw [Nat.mul_comm, Nat.mul_add_mod, Nat.mod_eq_of_lt (by omega)]
      rw [e1, e2, hx]
      simp [-AV.cells, hy]
    · rw [hx]
      simp only [Option.bind_some, hy, Option.getD_some]
      exact hf x (List.mem_of_getElem? hx) y (List.mem_of_getElem? hy)
theorem fz_placeL (n : Nat) (S : Heap) (l : List Oyez.Place) : ∀ x ∈ l.map placeAV, ∀ y ∈ x.cells, Fz n S y y := fun x hx y hy => by
  obtain ⟨r, _, rfl⟩ := List.mem_map.1 hx
  simp [AV.cells] at hy
  rcases hy with rfl | rfl
  · exact .int _ _
  · exact .int _ _
theorem containsO_calls {σ g X : Heap} {v : AV} {l : List Oyez.Place} {o : Option Nat} (h : Acc σ g 2 v (l.map placeAV) o) (p : Oyez.Place) (hl : l.length ≤ 2 ^ 40) : ACalls Tryz.prog 54 [v, placeAV p] (σ ++ (g ++ X)) fun v s => v = .bool (decide (p ∈ l)) ∧ s = σ ++ (g ++ X) := by
  refine APure.lend (containsP_calls l p hl) rfl (fun i x y hx hy => ?_) (fun C C' c hv => ?_)
  · match i, hx, hy with
    | 0, hx, hy => simp only [List.getElem?_cons_zero, Option.some.injEq] at hx hy; subst hx; subst hy; exact h.fz0 (by omega) (fz_placeL _ _ _)
    | 1, hx, hy =>
      simp only [List.getElem?_cons_zero, List.getElem?_cons_succ, Option.some.injEq] at hx hy; subst hx; subst hy
      exact Fz.agg2 (.int _ _) (.int _ _)
    | i + 2, hx, _ => simp at hx
  · cases hv; exact .bool _
set_option maxHeartbeats 4000000 in
theorem all_calls (fs : List (List Oyez.Rec)) (σ : Heap) (q : Nat) (hq : σ[q]? = some (.cells (fs.map fileAV))) (hn : fs.length ≤ 10) (hl : ∀ f ∈ fs, f.length ≤ 1048576) :
    ACalls Tryz.prog 52 [.arr 1 q 0 fs.length] σ fun v σ' => σ' = σ ∧ ∃ ps : List Oyez.Place, v = placesAV ps ∧ ps.length ≤ 10485760 := by
  refine ACalls.forget ?_
  refine acalls_fn Tryz.func52 rfl (enters_fn Tryz.func52 (by decide) rfl) ?_
  have hql := (List.getElem?_eq_some_iff.1 hq).1
  have hqg : ∀ g : Heap, (σ ++ g)[q]? = some (.cells (fs.map fileAV)) := fun g => by rw [List.getElem?_append_left hql]; exact hq
  simp [-aappend, Tryz.ntmps52]
  refine ACode_loopT (fun env σ' => ∃ (u : List AV) (i : Nat) (v : AV) (ps : List Oyez.Place) (g : Heap) (o : Option Nat), env = { t := u } ∧ u.length = 37 ∧ tg u 3 = v ∧ tg u 9 = .arr 1 q 0 fs.length ∧ tg u 10 = .int .i64 fs.length ∧ tg u 11 = .int .i64 i ∧ σ' = σ ++ g ∧ i ≤ fs.length ∧ ps.length ≤ i * 1048576 ∧ Acc σ g 2 v (ps.map placeAV) o)
    (fun env _ => match tg env.t 11 with | .int _ i => fs.length - i.toNat | _ => 0) ⟨_, 0, .nils, [], [], none, rfl, by simp, by simp, by simp, by simp, by simp, by simp, by omega, Nat.zero_le _, by simpa using Acc.nil _ _ _⟩ ?_
  rintro env _ ⟨u, i, v, ps, g, o, rfl, hl2, g3, g9, g10, g11, rfl, hi, hpl, hA⟩
  rcases Nat.lt_or_ge i fs.length with hlt | hge
  · have hlt' : (i : Int) < (fs.length : Int) := by omega
    have hx := w64 (n := (i : Int) + 1) (by omega) (by omega)
    obtain ⟨f, hf⟩ : ∃ f, fs[i] = f := ⟨_, rfl⟩
    have hfl : f.length ≤ 1048576 := hf ▸ hl _ (List.getElem_mem hlt)
    have hile : i + 1 ≤ fs.length := hlt
    simp [-aappend, hl2, g3, g9, g10, g11, hlt', hlt, hqg, hf, hile]
    refine ACode_loopT (fun env σ' => ∃ (u : List AV) (j : Nat) (v : AV) (ps : List Oyez.Place) (g : Heap) (o : Option Nat), env = { t := u } ∧ u.length = 37 ∧ tg u 3 = v ∧ tg u 9 = .arr 1 q 0 fs.length ∧ tg u 10 = .int .i64 fs.length ∧ tg u 11 = .int .i64 i ∧ tg u 15 = fileAV f ∧ tg u 16 = .int .i64 f.length ∧ tg u 17 = .int .i64 j ∧ σ' = σ ++ g ∧ j ≤ f.length ∧ ps.length ≤ i * 1048576 + j ∧ Acc σ g 2 v (ps.map placeAV) o)
      (fun env _ => match tg env.t 17 with | .int _ i => f.length - i.toNat | _ => 0) ⟨_, 0, v, ps, g, o, rfl, by simp [hl2], by simp [hl2, g3], by simp [hl2, g9], by simp [hl2, g10], by simp [hl2, g11], by simp [hl2], by simp [hl2], by simp [hl2], rfl, by omega, Nat.le_trans hpl (Nat.le_add_right _ _), hA⟩ ?_
    clear hA g3 g9 g10 g11 hl2 u hpl
    rintro env _ ⟨u, j, v, ps, g, o, rfl, hl2, g3, g9, g10, g11, g15, g16, g17, rfl, hj, hpl, hA⟩
    rcases Nat.lt_or_ge j f.length with hlj | hgj
    · have hlj' : (j : Int) < (f.length : Int) := by omega
      have hxj := w64 (n := (j : Int) + 1) (by omega) (by omega)
      simp [-aappend, hl2, g3, g9, g10, g11, g15, g16, g17, hlj', hlj, Nat.add_assoc]
      refine StA.of ((containsO_calls (X := [AObj.cells [.int .i64 f[j].kind, .int .i64 f[j].number, .pl 1 (f[j].words.map AV.str)], AObj.cells [.int .i64 f[j].kind, .int .i64 f[j].number]]) hA f[j].place (by omega)).mono ?_)
      rintro _ _ ⟨rfl, rfl⟩
      by_cases hm : f[j].place ∈ ps
      · have hm' : ∃ a, a ∈ ps ∧ a = f[j].place := ⟨_, hm, rfl⟩
        simp [-aappend, hl2, g3, g9, g10, g11, g15, g16, g17, hlj', hlj, hm, hxj, Nat.add_assoc]
        exact ⟨⟨j + 1, by simp, by omega, ps, by omega, o, hA.more _⟩, by omega⟩
      · obtain ⟨v', g', o', he, hA', _⟩ := (hA.more [AObj.cells [.int .i64 f[j].kind, .int .i64 f[j].number, .pl 1 (f[j].words.map AV.str)], AObj.cells [.int .i64 f[j].kind, .int .i64 f[j].number]]).push (P := Tryz.prog) (t := 47) (e := 54) (ag := true) (x := placeAV f[j].place) (by simp) (by simp) (by simp) (by omega) ⟨by simp [AV.cells], by simp [AV.cells, AV.one]⟩ (by simp; omega)
        simp [-aappend, Oyez.Rec.place] at he
        have hA2 : Acc σ g' 2 v' ((ps ++ [f[j].place]).map placeAV) o' := by simpa using hA'
        have hpl2 : (ps ++ [f[j].place]).length ≤ i * 1048576 + (j + 1) := by simp; omega
        generalize ps ++ [f[j].place] = ps2 at hA2 hpl2
        simp [-aappend, hl2, g3, g9, g10, g11, g15, g16, g17, hlj', hlj, hm, hxj, he, Nat.add_assoc]
        exact ⟨⟨j + 1, by simp, by omega, ps2, by omega, o', hA2⟩, by omega⟩
    · have hgj' : ¬ (j : Int) < (f.length : Int) := by omega
      simp [-aappend, hl2, g3, g9, g10, g11, g15, g16, g17, hgj', hx]
      exact ⟨⟨i + 1, by simp, by omega, ps, by omega, o, hA⟩, by omega⟩
  · have hge' : ¬ (i : Int) < (fs.length : Int) := by omega
    simp [-aappend, hl2, g3, g9, g10, g11, hge']
    exact ⟨_, hA.fz (fz_placeL _ _ _), ps, rfl, by omega⟩
end Ab
