/-
  FileSettled: the walk.
-/
import Derived.Test.YtdifgaapdnbliaaGreatDoorM39
import Derived.Test.YtdifgaapdnbliaaGreatDoorM26
import Derived.Test.YtdifgaapdnbliaaGreatDoorM43
import Derived.Test.YtdifgaapdnbliaaGreatDoorM15
import Derived.Test.YtdifgaapdnbliaaGreatDoorM38
import Derived.Test.YtdifgaapdnbliaaGreatDoorM42
set_option linter.unusedSimpArgs false
set_option linter.unusedVariables false
set_option linter.unusedSectionVars false
namespace Oyez
theorem joinV_conf {f a b : List Rec} {s : List Bool} {i : Nat} {p : Place} (h : confAt f a b p = true) : joinV f a b s i p = pickJ s i (getIn f p) (getIn a p) (getIn b p) := by
  unfold confAt clashAt at h
  have h := of_decide_eq_true h
  unfold joinV
  rw [if_neg (by rintro (e | e); exact h.1 e; exact h.2.2 e), if_neg h.2.1]
theorem joinV_free {f a b : List Rec} {s : List Bool} {i j : Nat} {p : Place} (h : confAt f a b p = false) : joinV f a b s i p = joinV f a b [] j p := by
  unfold confAt clashAt at h
  have h := of_decide_eq_false h
  unfold joinV
  by_cases h1 : getIn a p = getIn b p ∨ getIn b p = getIn f p
  · rw [if_pos h1, if_pos h1]
  · rw [if_neg h1, if_neg h1]
    by_cases h2 : getIn a p = getIn f p
    · rw [if_pos h2, if_pos h2]
    · exact absurd ⟨fun e => h1 (.inl e), h2, fun e => h1 (.inr e)⟩ h
end Oyez
namespace Ab
open Go Go.RowKit Go.Proofs
attribute [local irreducible] aws awp aw1 Og Om Oc Oa Ogd Ov Ot awd aw1d awh aw1h Ogh Ohd awl Ogl Ohl awv Ogv Ohv QThen QBlock QFn QFnM QRo QBe ACode AYield
/-- what the walk knows of the three files -/
structure Three (f a b : List Oyez.Rec) : Prop where
  cf : Oyez.check f = 0
  ca : Oyez.check a = 0
  cb : Oyez.check b = 0
  ol : ∀ s, (Oyez.join f a b s).out.length ≤ 40
  cl : (Oyez.confsOf f a b).length ≤ 64
theorem Three.few {f a b : List Oyez.Rec} (h : Three f a b) : Few f ∧ Few a ∧ Few b := ⟨(right_fewF h.cf).1, (right_fewF h.ca).1, (right_fewF h.cb).1⟩
theorem Three.len {f a b : List Oyez.Rec} (h : Three f a b) : f.length ≤ 2 ^ 38 ∧ a.length ≤ 2 ^ 38 ∧ b.length ≤ 2 ^ 38 := by
  have := (Oyez.check_zero h.cf).len
  have := (Oyez.check_zero h.ca).len
  have := (Oyez.check_zero h.cb).len
  omega
theorem Three.chk {f a b : List Oyez.Rec} (h : Three f a b) : chk3 f a b = 0 := by unfold chk3; rw [h.cf, h.ca, h.cb]; rfl
theorem conf_len (f a b : List Oyez.Rec) (s : List Bool) : (Oyez.join f a b s).conf.length = (Oyez.confsOf f a b).length := by
  rw [← (Oyez.join_pl f a b s).2, List.length_map]
theorem Three.settle {f a b : List Oyez.Rec} (h : Three f a b) {s : List Bool} (hs : s.length = (Oyez.confsOf f a b).length) : settleR f a b s = ((Oyez.join f a b s).out, 0) := by
  unfold settleR
  rw [if_neg (by rw [h.chk]; simp), if_neg (by rw [conf_len, hs]; simp), if_neg (by have := h.ol s; omega)]
theorem Three.settleN {f a b : List Oyez.Rec} (h : Three f a b) {s : List Bool} (hs : s.length ≠ (Oyez.confsOf f a b).length) : settleR f a b s = ([], 2) := by
  unfold settleR
  rw [if_neg (by rw [h.chk]; simp), if_pos (by rw [conf_len]; exact fun e => hs e.symm)]
theorem Three.settleE {f a b : List Oyez.Rec} (h : Three f a b) {σ : Heap} {R : List Oyez.Rec × Int} (hR : settleR f a b [] = R) :
    ACalls Tryz.prog 34 [fileAV f, fileAV a, fileAV b, .emp] σ fun v s => v = .tup [fileAV R.1, .int .i64 R.2] ∧ s = σ := by
  subst hR
  refine ACalls.forget ?_
  refine (ACalls.lower (args' := [fileAV f, fileAV a, fileAV b, .pl 1 (([] : List Bool).map AV.bool)]) (args := [fileAV f, fileAV a, fileAV b, .emp]) (settle34_calls f a b [] h.few.1 h.few.2.1 h.few.2.2 h.len (by simp) σ) rfl fun i x y C c hx hy hc => ?_).mono ?_
  · match i, hx, hy with
    | 0, hx, hy => simp only [List.getElem?_cons_zero, Option.some.injEq] at hx hy; subst hx; subst hy; exact hc
    | 1, hx, hy => simp only [List.getElem?_cons_zero, List.getElem?_cons_succ, Option.some.injEq] at hx hy; subst hx; subst hy; exact hc
    | 2, hx, hy => simp only [List.getElem?_cons_zero, List.getElem?_cons_succ, Option.some.injEq] at hx hy; subst hx; subst hy; exact hc
    | 3, hx, hy =>
      simp only [List.getElem?_cons_zero, List.getElem?_cons_succ, Option.some.injEq] at hx hy
      subst hx; subst hy
      cases hc
      rename_i A
      exact .pl0 1 A 0 fun _ => rfl
    | i + 4, hx, _ => simp at hx
  · rintro v s ⟨rfl, rfl⟩
    refine ⟨_, _, rfl, ?_, rfl, rfl⟩
    have := (own_in σ [] (settleR f a b []).1).fzN (Nat.le_refl _)
    rw [List.append_nil] at this
    exact Fz.tup2 this (.int _ _)
/-- the choices, as an own slice -/
def SecV (σ g : Heap) (s : List Bool) (v : AV) : Prop := (v = .nils ∧ s = []) ∨ (∃ j, v = .arr 1 (σ.length + j) 0 s.length ∧ s ≠ [] ∧ g[j]? = some (.cells (s.map AV.bool)))
theorem SecV.more {σ g : Heap} {s : List Bool} {v : AV} (h : SecV σ g s v) (g' : Heap) : SecV σ (g ++ g') s v := by
  rcases h with h | ⟨r, h1, h2, h3⟩
  · exact .inl h
  · refine .inr ⟨r, h1, h2, ?_⟩
    rw [List.getElem?_append_left (List.getElem?_eq_some_iff.1 h3).1]
    exact h3
theorem SecV.hv {σ g : Heap} {s : List Bool} {v : AV} (h : SecV σ g s v) :
    (v = .nils ∧ s = []) ∨ (∃ r off, (v = .arr 1 r off s.length ∨ ∃ cap, v = .arc 1 r off s.length cap) ∧ ∃ cs, (σ ++ g)[r]? = some (.cells cs) ∧ ∀ (i : Nat) (h : i < s.length), cs[off + i]? = some (.bool s[i])) := by
  rcases h with h | ⟨r, h1, h2, h3⟩
  · exact .inl h
  · refine .inr ⟨σ.length + r, 0, .inl h1, _, by rw [hget_add]; exact h3, fun i hi => ?_⟩
    rw [Nat.zero_add, List.getElem?_map, List.getElem?_eq_getElem hi]
    rfl
theorem flat_bool (s : List Bool) : (s.map AV.bool).flatMap AV.cells = s.map AV.bool := by
  induction s with
  | nil => rfl
  | cons x s ih => rw [List.map_cons, List.flatMap_cons, ih]; rfl
theorem Acc.sec {σ g : Heap} {s : List Bool} {v : AV} {o : Option Nat} (h : Acc σ g 1 v (s.map AV.bool) o) (hn : s = [] → v = .nils) : SecV σ g s v := by
  have := h.val
  cases o with
  | none =>
    refine .inl ⟨this.1, ?_⟩
    have := this.2
    simpa using this
  | some j =>
    obtain ⟨h1, h2⟩ := this
    rw [flat_bool] at h2
    rw [List.length_map] at h1
    refine .inr ⟨_, h1, fun h0 => ?_, h2⟩
    have := hn h0
    rw [h1] at this
    cases this
@[congr] theorem Step_cg {P : Program} {o : Oper} {K : AV → Heap → Prop} {env env' : Env} {σ σ' : Heap} (h : env = env') (h' : σ = σ') : Step P o K env σ = Step P o K env' σ' := by rw [h, h']
theorem Three.settles {f a b : List Oyez.Rec} (h : Three f a b) {σ : Heap} {s : List Bool} {v : AV} {R : List Oyez.Rec × Int} (hR : settleR f a b s = R) (hs : s.length ≤ 100)
    (hv : (v = .nils ∧ s = []) ∨ (∃ r off, (v = .arr 1 r off s.length ∨ ∃ cap, v = .arc 1 r off s.length cap) ∧ ∃ cs, σ[r]? = some (.cells cs) ∧ ∀ (i : Nat) (h : i < s.length), cs[off + i]? = some (.bool s[i]))) :
    ACalls Tryz.prog 34 [fileAV f, fileAV a, fileAV b, v] σ fun v s => v = .tup [fileAV R.1, .int .i64 R.2] ∧ s = σ := by
  subst hR
  exact settleP34 f a b s h.few.1 h.few.2.1 h.few.2.2 h.len (by omega) hv
set_option maxHeartbeats 40000000 in
theorem settled_calls (l1 l2 : List UInt8) (h1 : l1.length ≤ 9223372036854775807) (h2 : l2.length ≤ 9223372036854775807) (dm : Nat) (hdm : dm < 65536) : APure Tryz.prog 9 [.pl 1 (bytesL l1), .pl 1 (bytesL l2), .int .u16 dm] (.bool true) := by
  refine APure.of fun σ => ?_
  suffices hh : ∀ Post : AV → Heap → Prop, (∀ g, Post (.bool true) (σ ++ g)) → ACalls Tryz.prog 9 [.pl 1 (bytesL l1), .pl 1 (bytesL l2), .int .u16 dm] σ Post from hh _ fun g => ⟨g, rfl, .bool _⟩
  intro Post hPost
  refine acalls_cutC 11 (fun env σ' => ∃ (f a b : List Oyez.Rec) (s : List Bool) (u : List AV) (v : AV) (g : Heap), env = { t := u } ∧ u.length = 155 ∧ Three f a b ∧ s.length = (Oyez.confsOf f a b).length ∧ tg u 7 = fileAV f ∧ tg u 9 = fileAV a ∧ tg u 10 = fileAV b ∧ tg u 11 = fileAV (Oyez.join f a b []).out ∧ tg u 14 = v ∧ tg u 16 = fileAV (Oyez.join f a b s).out ∧ σ' = σ ++ g ∧ SecV σ g s v) Tryz.func9 rfl (enters_fn Tryz.func9 (by decide) rfl) ?_ ?_
  · simp [-aappend, Tryz.ntmps9]
    refine StA.of ((hang_calls σ _ rfl).mono ?_)
    rintro v σ' ⟨rfl, rfl⟩
    refine StA.of ((made20_calls (σ ++ [bellObj l1 0 0]) σ.length l1 0 0 (by simp) (by omega) h1).mono ?_)
    rintro v σ' ⟨f, a', c', rfl, hf, hfl, hfw, ha', rfl⟩
    simp [-aappend]
    refine StA.of ((hang_calls (σ ++ [bellObj l1 a' c']) _ rfl).mono ?_)
    rintro v σ' ⟨rfl, rfl⟩
    have hfr := Oyez.check_zero hf
    have gf : GoodF f := ⟨hfr.recs, hfr.sorted, hfw⟩
    simp [-aappend]
    refine StA.of ((copied_calls (σ ++ [bellObj l1 a' c', bellObj l2 0 0]) (σ.length + 1) l2 0 0 f (by simp) (by omega) h2 gf (by omega)).mono ?_)
    rintro v σ' ⟨a, ea, a2, c2, rfl, ga, hal, hea, hap, ha2, rfl⟩
    simp [-aappend]
    refine StA.of ((copied_calls (σ ++ [bellObj l1 a' c', bellObj l2 a2 c2]) (σ.length + 1) l2 a2 c2 f (by simp) (by omega) h2 gf (by omega)).mono ?_)
    rintro v σ' ⟨b, eb, a3, c3, rfl, gb, hbl, heb, hbp, ha3, rfl⟩
    have ca : CopyOf f a ea := ⟨ga, hal, hea, hap⟩
    have cb : CopyOf f b eb := ⟨gb, hbl, heb, hbp⟩
    clear hap hbp hea heb ha2 ha3 ha'
    have ra : Oyez.Right a := ga.right (by omega)
    have rb : Oyez.Right b := gb.right (by omega)
    have xa := Oyez.right_check ra
    have xb := Oyez.right_check rb
    have hcl := (join_small ca cb hfl []).2
    have th : Three f a b := ⟨hf, xa, xb, fun s => by have := (join_small ca cb hfl s).1; omega, by omega⟩
    have hjR : joinR f a b = ((Oyez.join f a b []).out, Oyez.confsOf f a b, 0) := by
      unfold joinR
      rw [if_neg (by rw [th.chk]; simp), if_neg (by have := th.ol []; omega), (Oyez.join_pl f a b []).2]
    have j33 := joinP33 f a b th.few.1 th.few.2.1 th.few.2.2 th.len
    rw [hjR] at j33
    have rj := Oyez.join_right hfr ra rb [] (th.ol [])
    have hLc : ∀ p, p ∈ Oyez.confsOf f a b ↔ Oyez.confAt f a b p = true := fun p => Oyez.mem_confs
    have hset := fun (s : List Bool) (hs : s.length = (Oyez.confsOf f a b).length) => th.settle hs
    have hsR := fun (s : List Bool) => Oyez.join_right hfr ra rb s (th.ol s)
    have hgt := fun (s : List Bool) (p : Oyez.Place) => Oyez.getIn_join f a b s p
    obtain ⟨J, hJ⟩ : ∃ J, (Oyez.join f a b []).out = J := ⟨_, rfl⟩
    obtain ⟨L, hL⟩ : ∃ L, Oyez.confsOf f a b = L := ⟨_, rfl⟩
    have hgj := hgt []
    rw [hJ] at j33 rj hgj
    rw [hL] at j33 hcl hLc hset hgt hgj
    simp [-aappend, hJ, hL]
    refine j33.use ?_
    have hcl' : ¬ (64 : Int) < (L.length : Int) := by omega
    simp [-aappend, hcl', hJ, hL]
    refine ACode_loopT (fun env σ' => ∃ (u : List AV) (i : Nat) (s : List Bool) (v : AV) (g : Heap) (o : Option Nat), env = { t := u } ∧ u.length = 155 ∧ tg u 2 = .int .u16 dm ∧ tg u 7 = fileAV f ∧ tg u 9 = fileAV a ∧ tg u 10 = fileAV b ∧ tg u 11 = fileAV J ∧ tg u 12 = placesAV L ∧ tg u 14 = v ∧ tg u 50 = .int .i64 L.length ∧ tg u 51 = .int .i64 i ∧ σ' = σ ++ g ∧ i ≤ L.length ∧ s.length = i ∧ (s = [] → v = .nils) ∧ Acc σ g 1 v (s.map AV.bool) o)
      (fun env _ => match tg env.t 51 with | .int _ i => L.length - i.toNat | _ => 0) ⟨_, 0, [], .nils, _, none, rfl, by simp, by simp, by simp, by simp, by simp, by simp, by simp, by simp, by simp, by simp, rfl, by omega, rfl, fun _ => rfl, by simpa using Acc.nil _ _ _⟩ ?_
    rintro env _ ⟨u, i, s, v, g, o, rfl, hl, g2, g7, g9, g10, g11, g12, g14, g50, g51, rfl, hi, hsl, hsn, hA⟩
    rcases Nat.lt_or_ge i L.length with hlt | hge
    · have hlt' : (i : Int) < (L.length : Int) := by omega
      have hx := w64 (n := (i : Int) + 1) (by omega) (by omega)
      have hmd : (i : Int).tmod 16 = ((i % 16 : Nat) : Int) := rfl
      have hneg : ¬ (i : Int) % 16 < 0 := by omega
      simp [-aappend, hl, g2, g7, g9, g10, g11, g12, g14, g50, g51, hlt', hlt, hmd, hneg, Nat.add_assoc]
      generalize hB : decide (_ = (1 : Int)) = B
      obtain ⟨v', g', o', he, hA', _⟩ := hA.push1 (P := Tryz.prog) (t := 37) (e := 4) (ag := false) (x := .bool B) (by simp) (by simp) (by simp) (by omega) ⟨by simp [AV.cells], by simp [AV.cells, AV.one]⟩ (by simp; omega)
      simp [-aappend, AV.cells] at he
      have hA2 : Acc σ g' 1 v' ((s ++ [B]).map AV.bool) o' := by simpa using hA'
      simp [-aappend, he, hx]
      exact ⟨⟨i + 1, by simp, by omega, s ++ [B], by simp [hsl], by simp, o', hA2⟩, by omega⟩
    · have hge' : ¬ (i : Int) < (L.length : Int) := by omega
      have hil : i = L.length := by omega
      have hsL : s.length = L.length := by omega
      have hV := hA.sec hsn
      have hVm := fun g' => hV.more g'
      obtain ⟨G, hG⟩ : ∃ G, (Oyez.join f a b s).out = G := ⟨_, rfl⟩
      have hst := th.settles (hset s hsL) (by omega) (hV.hv)
      have rg := hsR s
      have hgg := hgt s
      rw [hG] at hst rg hgg
      have xg := Oyez.right_check rg
      simp [-aappend, hl, g2, g7, g9, g10, g11, g12, g14, g50, g51, hge']
      refine StA.of (hst.mono ?_)
      rintro _ _ ⟨rfl, rfl⟩
      simp [-aappend, hl, g2, g7, g9, g10, g11, g12, g14]
      refine (check_calls G (right_fewF xg).1).use ?_
      rw [xg]
      simp [-aappend, hl, g2, g7, g9, g10, g11, g12, g14]
      refine StA.of ((all_calls [f, a, b, G] (σ ++ (g ++ [.cells [fileAV f, fileAV a, fileAV b, fileAV G]])) (σ.length + g.length) (by simp) (by simp) (fun x hx => by
        have := hfr.len
        have := ra.len
        have := rb.len
        have := rg.len
        simp only [List.mem_cons, List.not_mem_nil, or_false] at hx
        rcases hx with rfl | rfl | rfl | rfl <;> omega)).mono ?_)
      rintro _ _ ⟨rfl, ps, rfl, hps⟩
      simp [-aappend, hl, g2, g7, g9, g10, g11, g12, g14]
      refine ACode_loopT (fun env σ' => ∃ (u : List AV) (i : Nat) (g' : Heap), env = { t := u } ∧ u.length = 155 ∧ tg u 7 = fileAV f ∧ tg u 9 = fileAV a ∧ tg u 10 = fileAV b ∧ tg u 11 = fileAV J ∧ tg u 12 = placesAV L ∧ tg u 14 = v ∧ tg u 16 = fileAV G ∧ tg u 84 = placesAV ps ∧ tg u 85 = .int .i64 ps.length ∧ tg u 86 = .int .i64 i ∧ σ' = σ ++ (g ++ g') ∧ i ≤ ps.length)
        (fun env _ => match tg env.t 86 with | .int _ i => ps.length - i.toNat | _ => 0) ⟨_, 0, _, rfl, by simp [hl], by simp [hl, g7], by simp [hl, g9], by simp [hl, g10], by simp [hl, g11], by simp [hl, g12], by simp [hl, g14], by simp [hl], by simp [hl], by simp [hl], by simp [hl], rfl, by omega⟩ ?_
      clear g2 g7 g9 g10 g11 g12 g14 g50 g51 hl u hi hil hge hge' hA hst
      rintro env _ ⟨u, i, g', rfl, hl, g7, g9, g10, g11, g12, g14, g16, g84, g85, g86, rfl, hi⟩
      rcases Nat.lt_or_ge i ps.length with hlt | hge
      · have hlt' : (i : Int) < (ps.length : Int) := by omega
        have hx := w64 (n := (i : Int) + 1) (by omega) (by omega)
        obtain ⟨p, hpe⟩ : ∃ p, ps[i] = p := ⟨_, rfl⟩
        have cfa := has_calls a p ra.recs (by have := ra.len; omega)
        have cfb := has_calls b p rb.recs (by have := rb.len; omega)
        have cfj := has_calls J p rj.recs (by have := rj.len; omega)
        have cfg := has_calls G p rg.recs (by have := rg.len; omega)
        have cix := indexP_calls L p (by omega)
        have hgp := hgg p
        have hjp := hgj p
        simp [-aappend, hl, g7, g9, g10, g11, g12, g14, g16, g84, g85, g86, hlt', hlt, hpe, Nat.add_assoc]
        refine cfj.use ?_
        simp [-aappend, hl, g7, g9, g10, g11, g12, g14, g16, g84, g85, g86, hlt', hlt, hpe, Nat.add_assoc]
        refine cix.use ?_
        by_cases hpL : p ∈ L
        · have hc := (hLc p).1 hpL
          rw [Oyez.joinV_conf hc] at hgp
          have hix : idxP L p = (L.idxOf p : Nat) := if_pos hpL
          obtain ⟨n, hn⟩ : ∃ n, L.idxOf p = n := ⟨_, rfl⟩
          have hnL : n < L.length := hn ▸ List.idxOf_lt_length_of_mem hpL
          have hns : n < s.length := by omega
          rw [hix, hn]
          rw [hn] at hgp
          obtain ⟨B, hB⟩ : ∃ B, s[n] = B := ⟨_, rfl⟩
          unfold Oyez.pickJ at hgp
          rw [List.getElem?_eq_getElem hns, hB] at hgp
          rcases hV with ⟨_, rfl⟩ | ⟨r, rfl, hs0, _⟩
          · exact absurd hns (by simp)
          · rename_i hgr
            have hr : ∀ g', (σ ++ (g ++ g'))[σ.length + r]? = some (.cells (s.map AV.bool)) := fun g' => by
              rw [hget_add, List.getElem?_append_left (List.getElem?_eq_some_iff.1 hgr).1]
              exact hgr
            have hns1 : n + 1 ≤ s.length := hns
            have hns' : (n : Int) < (s.length : Int) := by omega
            simp [-aappend, hl, g7, g9, g10, g11, g12, g14, g16, g84, g85, g86, hlt', hlt, hpe, hns, hns', hns1, hr, hB, Nat.add_assoc]
            refine cfa.use ?_
            simp [-aappend, hl, g7, g9, g10, g11, g12, g14, g16, g84, g85, g86, hlt', hlt, hpe, hns, hns', hns1, hr, hB, Nat.add_assoc]
            cases B
            · simp [-aappend]
              refine cfg.use ?_
              rw [hgp]
              simp [-aappend, hl, g7, g9, g10, g11, g12, g14, g16, g84, g85, g86, hlt', hlt, hpe, hns, hns', hns1, hr, hB, hx, Nat.add_assoc]
              exact ⟨⟨i + 1, by simp, by omega⟩, by omega⟩
            · simp [-aappend]
              refine cfb.use ?_
              simp [-aappend, hl, g7, g9, g10, g11, g12, g14, g16, g84, g85, g86, hlt', hlt, hpe, hns, hns', hns1, hr, hB, Nat.add_assoc]
              refine cfg.use ?_
              rw [hgp]
              simp [-aappend, hl, g7, g9, g10, g11, g12, g14, g16, g84, g85, g86, hlt', hlt, hpe, hns, hns', hns1, hr, hB, hx, Nat.add_assoc]
              exact ⟨⟨i + 1, by simp, by omega⟩, by omega⟩
        · have hc : Oyez.confAt f a b p = false := by
            cases h : Oyez.confAt f a b p
            · rfl
            · exact absurd ((hLc p).2 h) hpL
          rw [Oyez.joinV_free (j := L.idxOf p) hc, ← hjp] at hgp
          have hix : idxP L p = -1 := if_neg hpL
          rw [hix]
          simp [-aappend, hl, g7, g9, g10, g11, g12, g14, g16, g84, g85, g86, hlt', hlt, hpe, Nat.add_assoc]
          refine cfg.use ?_
          rw [hgp]
          simp [-aappend, hl, g7, g9, g10, g11, g12, g14, g16, g84, g85, g86, hlt', hlt, hpe, hx, Nat.add_assoc]
          exact ⟨⟨i + 1, by simp, by omega⟩, by omega⟩
      · have hge' : ¬ (i : Int) < (ps.length : Int) := by omega
        simp [-aappend, hl, g7, g9, g10, g11, g12, g14, g16, g84, g85, g86, hge']
        exact ⟨f, a, b, th, s, by rw [hL]; exact hsL, rfl, rfl, rfl, by rw [hJ], by rw [hG], hVm g'⟩
  · rintro env _ ⟨f, a, b, s, u, v, g, rfl, hl, th, hsL, g7, g9, g10, g11, g14, g16, rfl, hV⟩
    have hcl := th.cl
    have w1 := fun (s' : List Bool) (h : s'.length ≠ s.length) => th.settleN (s := s') (by rw [← hsL]; exact h)
    rcases hV with ⟨rfl, rfl⟩ | ⟨j, rfl, hs0, hgj⟩
    · have rj := Oyez.join_right (Oyez.check_zero th.cf) (Oyez.check_zero th.ca) (Oyez.check_zero th.cb) [] (th.ol [])
      obtain ⟨J, hJ⟩ : ∃ J, (Oyez.join f a b []).out = J := ⟨_, rfl⟩
      rw [hJ] at g11 g16 rj
      have hsm := same_calls J J (by have := rj.len; omega) (right_fewF (Oyez.right_check rj)).2.2.2
      refine awp_sound _ ?_
      simp [hl, g7, g9, g10, g11, g14, g16]
      refine StA.of ((th.settles (s := [false]) (w1 [false] (by simp)) (by simp) (σ := σ ++ (g ++ [AObj.cells [AV.bool false], AObj.cells [AV.bool false]])) (v := .arr 1 (σ.length + g.length + 1) 0 1) (.inr ⟨_, 0, .inl rfl, [.bool false], by rw [Nat.add_assoc, hget_add]; simp, fun i hi => by
        obtain rfl : i = 0 := by simpa using hi
        rfl⟩)).mono ?_)
      rintro _ _ ⟨rfl, rfl⟩
      simp [hl, g7, g9, g10, g11, g14, g16]
      refine hsm.use ?_
      simp [hl, g7, g9, g10, g11, g14, g16]
      refine awake_calls.use ?_
      simp [hl]
      exact hPost _
    · have hsp : 0 < s.length := List.length_pos_iff.2 hs0
      refine ACode_room (q := 14) g14 (by omega) (cs := s.map AV.bool) (by rw [hget_add]; exact hgj) (by simp) fun cap hcap => ?_
      have hjl := (List.getElem?_eq_some_iff.1 hgj).1
      refine ACode_seq ?_
      refine ACode.mono (Q := fun e env s' => e = .normal ∧ ∃ (u : List AV) (g' : Heap) (cs : List AV), env = { t := u } ∧ u.length = 155 ∧ tg u 7 = fileAV f ∧ tg u 9 = fileAV a ∧ tg u 10 = fileAV b ∧ tg u 13 = .int .i64 2 ∧ tg u 14 = .arc 1 (σ.length + j) 0 s.length cap ∧ s' = σ ++ g' ∧ g'[j]? = some (.cells cs) ∧ ∀ (i : Nat) (h : i < s.length), cs[i]? = some (.bool s[i])) ?_ ?_
      · have hset : ∀ x : AObj, (σ ++ g).set (σ.length + j) x = σ ++ g.set j x := fun x => by
          rw [List.set_append_right _ _ (by omega), Nat.add_sub_cancel_left]
        rw [hset]
        obtain ⟨cs, hcs⟩ : ∃ cs, s.map AV.bool ++ List.replicate ((cap - s.length) * 1) .any = cs := ⟨_, rfl⟩
        have hcl2 : cs.length = cap * 1 := by rw [← hcs]; simp; omega
        have hcg : ∀ (i : Nat) (h : i < s.length), cs[i]? = some (.bool s[i]) := fun i h => by
          rw [← hcs, List.getElem?_append_left (by simpa using h), List.getElem?_map, List.getElem?_eq_getElem h]; rfl
        rw [hcs]
        have hrow : ∀ X : Heap, (σ ++ (g.set j (.cells cs) ++ X))[σ.length + j]? = some (.cells cs) := fun X => by
          rw [hget_add, List.getElem?_append_left (by simpa using hjl), List.getElem?_set_self hjl]
        have hset2 : ∀ (y : AObj) (X : Heap), (σ ++ (g.set j (.cells cs) ++ X)).set (σ.length + j) y = σ ++ (g.set j y ++ X) := fun y X => by
          rw [List.set_append_right _ _ (by omega), Nat.add_sub_cancel_left, List.set_append_left _ _ (by simpa using hjl), List.set_set]
        have q1 : s.length ≤ cs.length := by omega
        have q2 : s.length ≤ 140737488355327 := by omega
        have hsn : ∀ (X : List AV) (i : Nat) (h : i < (s ++ [false]).length), (cs.take s.length ++ ([.bool false] ++ X))[0 + i]? = some (.bool (s ++ [false])[i]) := fun X i h => by
          rw [Nat.zero_add]
          by_cases hi : i < s.length
          · rw [List.getElem?_append_left (by rw [List.length_take]; omega), List.getElem?_take_of_lt hi, hcg i hi, List.getElem_append_left hi]
          · obtain rfl : i = s.length := by simp at h; omega
            rw [List.getElem?_append_right (by rw [List.length_take]; omega), List.length_take, Nat.min_eq_left q1, Nat.sub_self]
            simp
        by_cases hce : cap = s.length
        · subst hce
          refine awp_sound _ ?_
          simp [hl, g7, g9, g10, g11, g14, g16, hrow, q1, q2]
          refine StA.of ((th.settles (s := s ++ [false]) (v := .arr 1 (σ.length + g.length + 1) 0 (s.length + 1)) (σ := σ ++ (g.set j (AObj.cells cs) ++ [AObj.cells [AV.bool false], AObj.cells (cs.take s.length ++ [AV.bool false])])) (w1 (s ++ [false]) (by simp)) (by simp; omega)
            (.inr ⟨σ.length + g.length + 1, 0, .inl (by simp), cs.take s.length ++ [.bool false], by rw [Nat.add_assoc, hget_add]; simp, hsn []⟩)).mono ?_)
          rintro _ _ ⟨rfl, rfl⟩
          simp [hl, g7, g9, g10, g11, g14, g16]
          exact ⟨cs, by rw [List.getElem?_append_left (by simpa using hjl), List.getElem?_set_self hjl], hcg⟩
        · refine ACode_mid 5 _ [_, _, _, _, _] [_, _, _, _, _] rfl rfl rfl ?_
          simp [hl, g7, g9, g10, g11, g14, g16, hrow]
          refine step_room (e := 4) (k := 1) (r := σ.length + j) (len := s.length) (cap := cap) (n := 1) (ag := false) (cs := cs) (news := [.bool false]) (by simp) (by simp) (by simp) (by omega) (show tg _ 118 = _ by simp [hl]) (hrow _) hcl2 (show acells 1 (tg _ 119) _ = _ by simp [hl]) (by omega) ?_
          rw [hset2, Nat.mul_one, Nat.mul_one, List.append_assoc]
          have hjl2 : j < (g.set j (AObj.cells cs)).length := by simpa using hjl
          refine StA.of ((th.settles (s := s ++ [false]) (v := .arc 1 (σ.length + j) 0 (s.length + 1) cap) (w1 (s ++ [false]) (by simp)) (by simp; omega)
            (.inr ⟨σ.length + j, 0, .inr ⟨cap, by simp⟩, cs.take s.length ++ ([.bool false] ++ cs.drop (s.length + 1)), by rw [hget_add, List.getElem?_append_left (by simpa using hjl), List.getElem?_set_self hjl], hsn _⟩)).mono ?_)
          rintro _ _ ⟨rfl, rfl⟩
          simp [hl, g7, g9, g10, g11, g14, g16]
          refine ⟨_, by rw [List.getElem?_append_left (by simpa using hjl), List.getElem?_set_self hjl], fun i h => ?_⟩
          rw [List.getElem?_append_left (by rw [List.length_take]; omega), List.getElem?_take_of_lt h, hcg i h]
      · rintro e env s' ⟨rfl, u, g', cs, rfl, hl, g7, g9, g10, g13, g14, rfl, hgj, hcs⟩
        unfold QThen
        show ACode _ _ _ _ _ _
        refine awp_sound _ ?_
        have hn0 : ¬ s.length = 0 := by omega
        have hs1 : 1 ≤ s.length := hsp
        simp [hl, g7, g9, g10, g13, g14, hn0, hs1]
        by_cases hc1 : cap = 1
        · have hs2 : s.length ≤ 1 := by omega
          simp [hl, g7, g9, g10, g13, g14, hcap, hc1, hs2]
          refine StA.of ((th.settleE (w1 [] (by simp; omega))).mono ?_)
          rintro _ _ ⟨rfl, rfl⟩
          simp [hl, g7, g9, g10, g13, g14, hcap, hc1]
          refine awake_calls.use ?_
          simp [hl]
          exact hPost _
        · simp [hl, g7, g9, g10, g13, g14, hcap, hc1]
          refine StA.of ((th.settles (s := s.tail) (v := .arc 1 (σ.length + j) 1 (s.length - 1) (cap - 1)) (w1 s.tail (by simp; omega)) (by simp; omega) (.inr ⟨σ.length + j, 1, .inr ⟨cap - 1, by rw [List.length_tail]⟩, cs, by rw [hget_add]; exact hgj, fun i hi => by
            rw [List.length_tail] at hi
            rw [Nat.add_comm, hcs (i + 1) (by omega), List.getElem_tail]⟩)).mono ?_)
          rintro _ _ ⟨rfl, rfl⟩
          simp [hl, g7, g9, g10, g13, g14, hcap, hc1]
          refine awake_calls.use ?_
          simp [hl]
          exact hPost _
end Ab
