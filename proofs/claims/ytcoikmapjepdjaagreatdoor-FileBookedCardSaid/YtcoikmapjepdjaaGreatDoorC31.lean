/-
  The book: courses copied.
  The book: complaints.
  The book, plainly: what was cried, written down and read again.
-/
import Derived.Test.YtcoikmapjepdjaaGreatDoorC24
import Derived.Test.YtcoikmapjepdjaaGreatDoorC12
import Derived.Test.YtcoikmapjepdjaaGreatDoorC15
import Derived.Test.YtcoikmapjepdjaaGreatDoorC30
import Derived.Test.YtcoikmapjepdjaaGreatDoorC29
set_option linter.unusedSimpArgs false
set_option linter.unusedVariables false
set_option linter.unusedSectionVars false
namespace Ab
open Go Go.RowKit Go.Proofs
/-- numbers copied -/
def cloneIV (n : Nat) (l : List Int) : AV := if l = [] then .pl 1 [] else .arr 1 n 0 l.length
def cloneIG (l : List Int) : Heap := if l = [] then [] else [.cells (l.map fun x => AV.int .i64 x)]
theorem bk_flat_int (t : List Int) : (t.map fun x => AV.int .i64 x).flatMap AV.cells = t.map fun x => AV.int .i64 x := by
  induction t with
  | nil => rfl
  | cons w t ih => rw [List.map_cons, List.flatMap_cons, ih]; rfl
attribute [local irreducible] aws awp aw1 Og Om Oc Oa Ogd Ov Ot awd aw1d awh aw1h Ogh Ohd awl Ogl Ohl awv Ogv Ohv QThen QBlock QFn QFnM QRo QBe ACode AYield
theorem cloneI_calls (ws : List Int) (hw : ws.length ≤ 2 ^ 40) (σ : Heap) : ACalls Tryz.prog 73 [.pl 1 (ws.map fun x => AV.int .i64 x)] σ (fun v σ' => v = cloneIV σ.length ws ∧ σ' = σ ++ cloneIG ws) := by
  by_cases h : ws = []
  · subst h
    refine ACalls.pl0 (enters_fn Tryz.func73 (by decide) rfl) ?_ ?_
    · refine ACalls.canon ?_
      refine acalls_fn Tryz.func73 rfl (enters_fn Tryz.func73 (by decide) rfl) ?_
      simp [Tryz.ntmps73]
      exact ⟨[], [], rfl, List.nodup_nil, fun i o' h => by simp at h, _, .nils_pl 1, by simp [cloneIV], by simp [cloneIG]⟩
    · refine ACalls.canon ?_
      refine acalls_fn Tryz.func73 rfl (enters_fn Tryz.func73 (by decide) rfl) ?_
      simp [Tryz.ntmps73]
      exact ⟨[], [], rfl, List.nodup_nil, fun i o' h => by simp at h, _, .emp_pl 1, by simp [cloneIV], by simp [cloneIG]⟩
  · refine ACalls.canon ?_
    refine acalls_fn Tryz.func73 rfl (enters_fn Tryz.func73 (by decide) rfl) ?_
    have hb : ws.length * 8 ≤ 140737488355328 := by omega
    obtain ⟨w, t, rfl⟩ : ∃ w t, ws = w :: t := by
      cases ws with
      | nil => exact absurd rfl h
      | cons w t => exact ⟨w, t, rfl⟩
    rw [List.length_cons] at hb
    simp [Tryz.ntmps73, hb]
    refine ⟨cloneIG (w :: t), [1], by simp [cloneIG], by decide, fun i o' ho => ?_, _, .arr 1 0 1 0 _ rfl, by simp [cloneIV], rfl⟩
    match i, ho with
    | 0, ho =>
      simp [cloneIG] at ho
      subst ho
      refine ⟨1, rfl, _, rfl, .cells _ _ (by rw [bk_flat_int]; exact Nat.le_refl _) fun i x x' hx hx' => ?_⟩
      rw [bk_flat_int] at hx
      obtain rfl := Option.some.inj (hx.symm.trans hx')
      have hm := List.mem_of_getElem? hx
      simp at hm
      rcases hm with rfl | ⟨y, _, rfl⟩
      · exact .int _ _
      · exact .int _ _
    | i + 1, ho => simp [cloneIG] at ho
end Ab
namespace Ab
open Go Go.RowKit Go.Proofs
/-- a complaint -/
structure Cm where
  house : Int
  notice : Int
  heard : Bool
def cmAV (c : Cm) : AV := .agg [.int .i64 c.house, .int .i64 c.notice, .bool c.heard]
/-- a right complaint -/
def Cm.Ok (b : Bk) (c : Cm) : Prop := (0 ≤ c.house ∧ c.house ≤ b.houses - 1) ∧ 0 ≤ c.notice ∧ c.notice ≤ b.notices - 1
/-- a complaint is true -/
def bk_isB (c : Cm) (g : List Bool) : Bool := g[(c.house * 4 + c.notice).toNat]?.getD false == c.heard
def wrongN (l : List Cm) (g : List Bool) (i : Nat) : List Int := ((List.range i).filter fun j => match l[j]? with | some c => !bk_isB c g | none => false).map fun (j : Nat) => (j : Int)
theorem wrongN_succ (l : List Cm) (g : List Bool) (i : Nat) (h : i < l.length) : wrongN l g (i + 1) = if bk_isB l[i] g then wrongN l g i else wrongN l g i ++ [(i : Int)] := by
  unfold wrongN
  rw [List.range_succ, List.filter_append, List.map_append]
  by_cases hb : bk_isB l[i] g = true <;> simp [h, hb]
theorem wrongN_len (l : List Cm) (g : List Bool) (i : Nat) : (wrongN l g i).length ≤ i := by
  unfold wrongN
  have := List.length_filter_le (fun j => match l[j]? with | some c => !bk_isB c g | none => false) (List.range i)
  simpa using this
attribute [local irreducible] aws awp aw1 Og Om Oc Oa Ogd Ov Ot awd aw1d awh aw1h Ogh Ohd awl Ogl Ohl awv Ogv Ohv QThen QBlock QFn QFnM QRo QBe ACode AYield
theorem bk_is_calls (b : Bk) (ok : b.Ok) (c : Cm) (hc : c.Ok b) (g : List Bool) (hg : g.length = 24) : APure Tryz.prog 212 [.agg [.int .i64 c.house, .int .i64 c.notice, .bool c.heard], gotAV g] (.bool (bk_isB c g)) := by
  refine APure.of fun σ => ?_
  refine acalls_fn Tryz.func212 rfl (enters_fn Tryz.func212 (by decide) rfl) ?_
  obtain ⟨⟨h0, h1⟩, h2, h3⟩ := hc
  have g1 := ok.houses
  have g2 := ok.notices
  simp [Tryz.ntmps212, gotAV, hg]
  refine ACode_draw0 mixed (by kernel_rfl) ?_
  have q1 : c.house < 6 := by omega
  have q2 : c.notice < 4 := by omega
  have e : (c.house * 4 + c.notice).toNat = c.house.toNat * 4 + c.notice.toNat := by omega
  have q3 : c.house.toNat * 4 + c.notice.toNat < g.length := by omega
  have q4 : c.house.toNat * 4 + c.notice.toNat + 1 ≤ 24 := by omega
  simp [h0, h2, q1, q2, q3, q4, bk_isB, e, hg]
  rw [List.getElem?_eq_getElem q3]
  simp
theorem bk_cerror_calls (b : Bk) (ok : b.Ok) (c : Cm) (hc : c.Ok b) : APure Tryz.prog 277 [.agg [.int .i64 c.house, .int .i64 c.notice, .bool c.heard], bkAV b] (.int .i64 0) := by
  refine APure.of fun σ => ?_
  refine acalls_fn Tryz.func277 rfl (enters_fn Tryz.func277 (by decide) rfl) ?_
  obtain ⟨⟨h0, h1⟩, h2, h3⟩ := hc
  have g1 := ok.houses
  have g2 := ok.notices
  simp [Tryz.ntmps277, bkAV]
  refine (bhouse_calls b c.house (by omega)).use ?_
  have e1 : bk_inB c.house 0 (b.houses - 1) = true := by simp [bk_inB]; omega
  have e2 : bk_inB c.notice 0 (b.notices - 1) = true := by simp [bk_inB]; omega
  simp [e1]
  refine (bnotice_calls b c.notice (by omega)).use ?_
  simp [e2]
theorem bk_wrong_calls (b : Bk) (ok : b.Ok) (l : List Cm) (hl : ∀ c ∈ l, c.Ok b) (hn : l.length ≤ 8) (g : List Bool) (hg : g.length = 24) :
    APure Tryz.prog 135 [.pl 3 (l.map fun x => AV.agg [.int .i64 x.house, .int .i64 x.notice, .bool x.heard]), gotAV g] (.pl 1 ((wrongN l g l.length).map fun x => AV.int .i64 x)) := by
  refine APure.of fun σ => ?_
  refine acalls_fn Tryz.func135 rfl (enters_fn Tryz.func135 (by decide) rfl) ?_
  have ht : List.take 24 (g.map AV.bool) = g.map AV.bool := List.take_of_length_le (by simp [hg])
  simp [Tryz.ntmps135, gotAV, hg]
  refine ACode_loopT (fun env σ' => ∃ (u : List AV) (i : Nat) (v : AV) (gg : Heap) (o : Option Nat), env = { t := u } ∧ u.length = 25 ∧ tg u 3 = .ptr σ.length 0 ∧ tg u 5 = v ∧ tg u 8 = .pl 3 (l.map fun x => AV.agg [.int .i64 x.house, .int .i64 x.notice, .bool x.heard]) ∧ tg u 9 = .int .i64 l.length ∧ tg u 10 = .int .i64 i ∧
      Acc (σ ++ [.cells (g.map AV.bool)]) gg 1 v ((wrongN l g i).map fun x => AV.int .i64 x) o ∧ σ' = σ ++ .cells (g.map AV.bool) :: gg ∧ i ≤ l.length)
    (fun env _ => match tg env.t 10 with | .int _ i => l.length - i.toNat | _ => 0) ⟨_, 0, .nils, [], none, rfl, by simp, by simp, by simp, by simp, by simp, by simp, (by rw [show wrongN l g 0 = [] from rfl]; exact .nil _ _ _), by simp, by omega⟩ ?_
  rintro env σ' ⟨u, i, v, gg, o, rfl, hl0, g3, g5, g8, g9, g10, hA, rfl, hi⟩
  rcases Nat.lt_or_ge i l.length with hlt | hge
  · have hlt' : (i : Int) < (l.length : Int) := by omega
    have hw1 := w64 (n := (i : Int) + 1) (by omega) (by omega)
    have hs := wrongN_succ l g i hlt
    have hln := wrongN_len l g i
    simp [-aappend, hl0, g3, g5, g8, g9, g10, hlt', hlt, hg, ht]
    refine (bk_is_calls b ok l[i] (hl _ (List.getElem_mem hlt)) g hg).use ?_
    by_cases hb : bk_isB l[i] g = true
    · rw [if_pos hb] at hs
      simp [-aappend, hb, hl0, g3, g5, g8, g9, g10, hw1]
      exact ⟨⟨i + 1, by simp, _, ⟨_, by rw [hs]; exact hA.more _⟩, rfl, hlt⟩, by omega⟩
    · rw [if_neg hb] at hs
      obtain ⟨v', g', o', he, hA', _⟩ := ((hA.more [.cells [.int .i64 l[i].house, .int .i64 l[i].notice, .bool l[i].heard]]).push (P := Tryz.prog) (t := 32) (e := 3) (ag := false) (x := .int .i64 (i : Nat)) (by simp) (by simp) (by simp) (by omega) ⟨by simp [AV.cells], by simp [AV.cells, AV.one]⟩ (by simp; omega))
      simp [-aappend, Nat.add_assoc] at he
      simp [-aappend, hb, hl0, g3, g5, g8, g9, g10, hw1, Nat.add_assoc]
      rw [show 1 + (List.length gg + 1) = List.length gg + 2 from by omega] at he
      rw [he, Om_some]
      exact ⟨⟨i + 1, by simp, g', ⟨o', by rw [hs]; simpa using hA'⟩, rfl, hlt⟩, by omega⟩
  · have hge' : ¬ (i : Int) < (l.length : Int) := by omega
    obtain rfl : i = l.length := by omega
    simp [-aappend, hl0, g3, g5, g8, g9, g10, hge']
    exact hA.under.fz fun x hx y hy => by
      obtain ⟨w, _, rfl⟩ := List.mem_map.1 hx
      simp [AV.cells] at hy
      subst hy
      exact .int _ _
theorem bk_complained_calls (b : Bk) (ok : b.Ok) (l : List Cm) (hl : ∀ c ∈ l, c.Ok b) (hn : l.length ≤ 8) :
    APure Tryz.prog 211 [bkAV b, .pl 3 (l.map fun x => AV.agg [.int .i64 x.house, .int .i64 x.notice, .bool x.heard])] (.int .i64 0) := by
  refine APure.of fun σ => ?_
  refine acalls_fn Tryz.func211 rfl (enters_fn Tryz.func211 (by decide) rfl) ?_
  have hn' : ¬ (8 : Int) < (l.length : Int) := by omega
  simp [Tryz.ntmps211, bkAV]
  refine (bk_check_calls b ok).use ?_
  simp [hn']
  refine ACode_loopT (fun env σ' => ∃ (u : List AV) (i : Nat) (q : Heap), env = { t := u } ∧ u.length = 30 ∧ tg u 2 = .ptr σ.length 0 ∧ tg u 17 = .pl 3 (l.map fun x => AV.agg [.int .i64 x.house, .int .i64 x.notice, .bool x.heard]) ∧ tg u 18 = .int .i64 l.length ∧ tg u 19 = .int .i64 i ∧
      σ' = σ ++ .cells (bkAV b).cells :: q ∧ i ≤ l.length)
    (fun env _ => match tg env.t 19 with | .int _ i => l.length - i.toNat | _ => 0) ⟨_, 0, [], rfl, by simp, by simp, by simp, by simp, by simp, by simp [bkAV], by omega⟩ ?_
  rintro env σ' ⟨u, i, q, rfl, hl0, g2, g17, g18, g19, rfl, hi⟩
  rcases Nat.lt_or_ge i l.length with hlt | hge
  · have hlt' : (i : Int) < (l.length : Int) := by omega
    have hw1 := w64 (n := (i : Int) + 1) (by omega) (by omega)
    simp [hl0, g2, g17, g18, g19, hlt', hlt, bkAV]
    refine (bk_cerror_calls b ok l[i] (hl _ (List.getElem_mem hlt))).use ?_
    simp [hl0, g2, g17, g18, g19, hw1]
    exact ⟨⟨i + 1, by simp, hlt⟩, by omega⟩
  · have hge' : ¬ (i : Int) < (l.length : Int) := by omega
    simp [hl0, g2, g17, g18, g19, hge']
end Ab
namespace Ab
open Go Go.RowKit Go.Proofs
def saidW (b : Bool) : List UInt8 := if b then [104, 101, 97, 114, 100] else [110, 111, 116]
/-- the words that are written -/
def wordB : List (List UInt8) := [[48], [49], [50], [51], [52], [53], [54], [55], [56], [57], [104, 101, 97, 114, 100], [110, 111, 116]]
theorem wordB_word : ∀ w ∈ wordB, Oyez.word w = true ∧ w.length ≤ 6 := by decide
theorem itoa_small {n : Int} (h0 : 0 ≤ n) (h1 : n ≤ 9) : Lib.itoa n ∈ wordB ∧ (Lib.itoa n).length ≤ 6 ∧ atoiAV (Lib.itoa n) = .tup [.int .i64 n, .nili] := by
  have : n = 0 ∨ n = 1 ∨ n = 2 ∨ n = 3 ∨ n = 4 ∨ n = 5 ∨ n = 6 ∨ n = 7 ∨ n = 8 ∨ n = 9 := by omega
  rcases this with rfl | rfl | rfl | rfl | rfl | rfl | rfl | rfl | rfl | rfl
  · rw [show Lib.itoa 0 = [48] by kernel_rfl]; exact ⟨by decide, by decide, by kernel_rfl⟩
  · rw [show Lib.itoa 1 = [49] by kernel_rfl]; exact ⟨by decide, by decide, by kernel_rfl⟩
  · rw [show Lib.itoa 2 = [50] by kernel_rfl]; exact ⟨by decide, by decide, by kernel_rfl⟩
  · rw [show Lib.itoa 3 = [51] by kernel_rfl]; exact ⟨by decide, by decide, by kernel_rfl⟩
  · rw [show Lib.itoa 4 = [52] by kernel_rfl]; exact ⟨by decide, by decide, by kernel_rfl⟩
  · rw [show Lib.itoa 5 = [53] by kernel_rfl]; exact ⟨by decide, by decide, by kernel_rfl⟩
  · rw [show Lib.itoa 6 = [54] by kernel_rfl]; exact ⟨by decide, by decide, by kernel_rfl⟩
  · rw [show Lib.itoa 7 = [55] by kernel_rfl]; exact ⟨by decide, by decide, by kernel_rfl⟩
  · rw [show Lib.itoa 8 = [56] by kernel_rfl]; exact ⟨by decide, by decide, by kernel_rfl⟩
  · rw [show Lib.itoa 9 = [57] by kernel_rfl]; exact ⟨by decide, by decide, by kernel_rfl⟩
theorem saidW_in (b : Bool) : saidW b ∈ wordB ∧ (decide (saidW b = [104, 101, 97, 114, 100])) = b := by cases b <;> decide
def cryR (i : Nat) (c : Cr) : Oyez.Rec := ⟨0, i, [Lib.itoa c.hour, Lib.itoa c.stand, Lib.itoa c.notice]⟩
def pleaR (i : Nat) (c : Cm) : Oyez.Rec := ⟨4, i, [Lib.itoa c.house, Lib.itoa c.notice, saidW c.heard]⟩
def cryRs (l : List Cr) : List Oyez.Rec := l.mapIdx cryR
def pleaRs (l : List Cm) : List Oyez.Rec := l.mapIdx pleaR
theorem bk_rec {k n : Int} {ws : List (List UInt8)} (hk : 0 ≤ k) (hk4 : k ≤ 4) (hn : 0 ≤ n) (hn2 : n ≤ 99) (hl : ws.length ≤ 4) (hw : ∀ w ∈ ws, w ∈ wordB) : Oyez.recErr ⟨k, n, ws⟩ = 0 := by
  rw [Oyez.recErr_iff]
  constructor
  · unfold Oyez.placeErr
    simp only
    rw [if_neg (by omega), if_neg (by omega)]
  · unfold Oyez.wordsErr
    simp only
    have hall : ws.all Oyez.word = true := List.all_eq_true.2 fun w h => (wordB_word w (hw w h)).1
    rw [if_neg (by omega), hall, if_neg (by simp), if_neg]
    have h1 : (Oyez.name k).length ≤ 6 := by
      have : k = 0 ∨ k = 1 ∨ k = 2 ∨ k = 3 ∨ k = 4 := by omega
      rcases this with rfl | rfl | rfl | rfl | rfl <;> decide
    have h2 : (Oyez.digits n).length ≤ 2 := Oyez.digits_len 1 n.toNat (by omega)
    have h3 : ∀ l : List (List UInt8), (∀ w ∈ l, w ∈ wordB) → (l.flatMap fun w => (32 : UInt8) :: w).length ≤ 7 * l.length := by
      intro l
      induction l with
      | nil => intro _; simp
      | cons w t ih =>
        intro h
        have h4 := ih fun x hx => h x (List.mem_cons_of_mem _ hx)
        have h5 := (wordB_word w (h w (by simp))).2
        simp only [List.flatMap_cons, List.length_append, List.length_cons]
        omega
    have h4 := h3 ws hw
    unfold Oyez.line
    simp only [List.length_append, List.length_cons, List.length_nil]
    omega
/-- small numbers -/
def SmallC (c : Cr) : Prop := (0 ≤ c.hour ∧ c.hour ≤ 9) ∧ (0 ≤ c.stand ∧ c.stand ≤ 9) ∧ 0 ≤ c.notice ∧ c.notice ≤ 9
def SmallM (c : Cm) : Prop := (0 ≤ c.house ∧ c.house ≤ 9) ∧ 0 ≤ c.notice ∧ c.notice ≤ 9
theorem cryR_ok {i : Nat} (hi : i ≤ 99) {c : Cr} (h : SmallC c) : Oyez.recErr (cryR i c) = 0 := bk_rec (by omega) (by omega) (by omega) (by omega) (by simp) fun w hw => by
  simp only [List.mem_cons, List.not_mem_nil, or_false] at hw
  rcases hw with rfl | rfl | rfl
  · exact (itoa_small h.1.1 h.1.2).1
  · exact (itoa_small h.2.1.1 h.2.1.2).1
  · exact (itoa_small h.2.2.1 h.2.2.2).1
theorem pleaR_ok {i : Nat} (hi : i ≤ 99) {c : Cm} (h : SmallM c) : Oyez.recErr (pleaR i c) = 0 := bk_rec (by omega) (by omega) (by omega) (by omega) (by simp) fun w hw => by
  simp only [List.mem_cons, List.not_mem_nil, or_false] at hw
  rcases hw with rfl | rfl | rfl
  · exact (itoa_small h.1.1 h.1.2).1
  · exact (itoa_small h.2.1 h.2.2).1
  · exact (saidW_in _).1
theorem mapIdx_snoc {α β : Type} (f : Nat → α → β) (l : List α) (x : α) : (l ++ [x]).mapIdx f = l.mapIdx f ++ [f l.length x] := by rw [List.mapIdx_append]; simp
theorem cryRs_ok : ∀ (n : Nat) (l : List Cr), l.length = n → n ≤ 99 → (∀ c ∈ l, SmallC c) → Oyez.checkFrom none (cryRs l) = 0 ∧ ∀ r ∈ cryRs l, r.kind = 0 ∧ r.number < l.length := by
  intro n
  induction n with
  | zero =>
    intro l hl _ _
    obtain rfl := List.eq_nil_of_length_eq_zero hl
    exact ⟨rfl, by simp [cryRs]⟩
  | succ n ih =>
    intro l hl hn hs
    obtain ⟨t, x, rfl⟩ : ∃ t x, l = t ++ [x] := ⟨l.dropLast, l.getLast (by intro e; simp [e] at hl), (List.dropLast_concat_getLast _).symm⟩
    simp at hl
    obtain ⟨h1, h2⟩ := ih t hl (by omega) fun c hc => hs c (by simp [hc])
    unfold cryRs at h1 h2 ⊢
    rw [mapIdx_snoc]
    refine ⟨Oyez.checkFrom_app (cryR_ok (by omega) (hs x (by simp))) _ none h1 (fun q hq => by cases hq) fun q hq => ?_, fun r hr => ?_⟩
    · rw [Oyez.Place.lt_iff]
      have := h2 q hq
      exact .inr ⟨this.1, this.2⟩
    · rcases List.mem_append.1 hr with hr | hr
      · have := h2 r hr
        exact ⟨this.1, by simp; omega⟩
      · rw [List.mem_singleton.1 hr]
        exact ⟨rfl, by simp [cryR]; omega⟩
theorem allRs_ok (l : List Cr) (hl : l.length ≤ 20) (hs : ∀ c ∈ l, SmallC c) : ∀ (n : Nat) (m : List Cm), m.length = n → n ≤ 20 → (∀ c ∈ m, SmallM c) → Oyez.checkFrom none (cryRs l ++ pleaRs m) = 0 ∧ ∀ r ∈ pleaRs m, r.kind = 4 ∧ r.number < m.length := by
  obtain ⟨c1, c2⟩ := cryRs_ok _ l rfl (by omega) hs
  intro n
  induction n with
  | zero =>
    intro m hm _ _
    obtain rfl := List.eq_nil_of_length_eq_zero hm
    exact ⟨by simpa [pleaRs] using c1, by simp [pleaRs]⟩
  | succ n ih =>
    intro m hm hn hsm
    obtain ⟨t, x, rfl⟩ : ∃ t x, m = t ++ [x] := ⟨m.dropLast, m.getLast (by intro e; simp [e] at hm), (List.dropLast_concat_getLast _).symm⟩
    simp at hm
    obtain ⟨h1, h2⟩ := ih t hm (by omega) fun c hc => hsm c (by simp [hc])
    unfold pleaRs at h1 h2 ⊢
    rw [mapIdx_snoc, ← List.append_assoc]
    refine ⟨Oyez.checkFrom_app (pleaR_ok (by omega) (hsm x (by simp))) _ none h1 (fun q hq => by cases hq) fun q hq => ?_, fun r hr => ?_⟩
    · rw [Oyez.Place.lt_iff]
      rcases List.mem_append.1 hq with hq | hq
      · exact .inl (by have := (c2 q hq).1; show q.kind < 4; omega)
      · have := h2 q hq
        exact .inr ⟨this.1, this.2⟩
    · rcases List.mem_append.1 hr with hr | hr
      · have := h2 r hr
        exact ⟨this.1, by simp; omega⟩
      · rw [List.mem_singleton.1 hr]
        exact ⟨rfl, by simp [pleaR]; omega⟩
theorem allRs_check {l : List Cr} {m : List Cm} (hl : l.length ≤ 20) (hm : m.length ≤ 20) (hs : ∀ c ∈ l, SmallC c) (hsm : ∀ c ∈ m, SmallM c) : Oyez.check (cryRs l ++ pleaRs m) = 0 := by
  have h := (allRs_ok l hl hs _ m rfl hm hsm).1
  unfold Oyez.check
  rw [if_neg (by simp [cryRs, pleaRs]; omega)]
  exact h
end Ab
