/-
  The book: Check, opened; what is heard in an hour.
  The book: what is heard in an hour.
-/
import Derived.Test.YtcoikmapjepdjaaGreatDoorC23
set_option linter.unusedSimpArgs false
set_option linter.unusedVariables false
set_option linter.unusedSectionVars false
namespace Ab
open Go Go.RowKit Go.Proofs
/-- a right book -/
structure Bk.Ok (b : Bk) : Prop where
  houses : 1 ≤ b.houses ∧ b.houses ≤ 6
  notices : 1 ≤ b.notices ∧ b.notices ≤ 4
  hears : 1 ≤ b.hears.length ∧ b.hears.length ≤ 4
  reads : 1 ≤ b.reads.length ∧ b.reads.length ≤ 8
  cries : b.cries.length ≤ 12
  winds : ∀ x ∈ b.hears, x.length = 8
  listed : ∀ x ∈ b.hears, ∀ l ∈ x, listedB b l ∧ l.length ≤ 6
  read : ∀ n ∈ b.reads, n = -1 ∨ 0 ≤ n ∧ n ≤ 7
  cry : ∀ c ∈ b.cries, (0 ≤ c.hour ∧ c.hour < b.reads.length) ∧ (0 ≤ c.stand ∧ c.stand < b.hears.length) ∧ 0 ≤ c.notice ∧ c.notice < b.notices
attribute [local irreducible] aws awp aw1 Og Om Oc Oa Ogd Ov Ot awd aw1d awh aw1h Ogh Ohd awl Ogl Ohl awv Ogv Ohv QThen QBlock QFn QFnM QRo QBe ACode AYield
theorem bk_len8_calls (x : List (List Int)) : APure Tryz.prog 346 [AV.pl 1 (x.map fun z => AV.pl 1 (z.map fun y => AV.int .i64 y))] (.bool (decide (x.length = 8))) := by
  intro σ
  refine acalls_fn Tryz.func346 rfl (enters_fn Tryz.func346 (by decide) rfl) ?_
  have e : ((x.length : Int) = 8) = (x.length = 8) := by simp; omega
  simp [Tryz.ntmps346, e]
theorem bk_counted_calls (b : Bk) (h : b.Ok) : APure Tryz.prog 316 [bkAV b] (.bool true) := by
  refine APure.of fun σ => ?_
  refine acalls_fn Tryz.func316 rfl (enters_fn Tryz.func316 (by decide) rfl) ?_
  simp [Tryz.ntmps316, bkAV]
  have h1 : bk_inB b.houses 1 6 = true := by simp [bk_inB, h.houses]
  have h2 : bk_inB b.notices 1 4 = true := by simp [bk_inB, h.notices]
  have h3 : bk_inB b.hears.length 1 4 = true := by have := h.hears; simp [bk_inB]; omega
  have h4 : bk_inB b.reads.length 1 8 = true := by have := h.reads; simp [bk_inB]; omega
  have h5 : (b.cries.length : Int) ≤ 12 := by have := h.cries; omega
  refine (bin_calls _ _ _).use ?_
  simp [h1]
  refine (bin_calls _ _ _).use ?_
  simp [h2]
  refine (bin_calls _ _ _).use ?_
  simp [h3]
  refine (bin_calls _ _ _).use ?_
  simp [h4, h5]
  refine StA.of ((every_bwnd b.hears (fun x => decide (x.length = 8)) 346 [] [] (by have := h.hears; omega) _ fun x hx g => ?_).mono ?_)
  · simpa using bk_len8_calls x _
  · rintro v s ⟨rfl, rfl⟩
    have ha : (b.hears.all fun x => decide (x.length = 8)) = true := by simp; exact h.winds
    simp [ha]
theorem bk_check1_calls (b : Bk) (h : b.Ok) (c : Cr) (hc : c ∈ b.cries) (r : Nat) (σ : Heap) (hr : σ[r]? = some (.cells (bkAV b).cells)) :
    ACalls Tryz.prog 321 [AV.agg [.int .i64 c.hour, .int .i64 c.stand, .int .i64 c.notice], .ptr r 0] σ fun v s => v = .bool true ∧ s = σ := by
  have hk := h.cry c hc
  have g1 := h.hears
  have g2 := h.notices
  refine ACalls.forget ?_
  refine acalls_fn Tryz.func321 rfl (enters_fn Tryz.func321 (by decide) rfl) ?_
  have hlt : r < σ.length := (List.getElem?_eq_some_iff.1 hr).1
  have hw := w64 (n := (b.hears.length : Int) - 1) (by omega) (by omega)
  have hr' : (σ ++ [AObj.cells [AV.int .i64 c.hour, .int .i64 c.stand, .int .i64 c.notice]])[r]? = some (.cells (bkAV b).cells) := by rw [List.getElem?_append_left hlt]; exact hr
  simp [bkAV] at hr'
  simp [Tryz.ntmps321, hr', hw]
  refine (bhour_calls b c.hour (by have := h.reads; omega)).use ?_
  have h1 : bk_inB c.hour 0 (b.reads.length - 1) = true := by simp [bk_inB]; omega
  have h2 : bk_inB c.stand 0 (b.hears.length - 1) = true := by simp [bk_inB]; omega
  have h3 : bk_inB c.notice 0 (b.notices - 1) = true := by simp [bk_inB]; omega
  simp [h1, hr', hw]
  refine (bin_calls _ _ _).use ?_
  simp [h2, hr']
  refine (bnotice_calls b c.notice (by omega)).use ?_
  simp [h3]
theorem bk_check_calls (b : Bk) (h : b.Ok) : APure Tryz.prog 270 [bkAV b] (.int .i64 0) := by
  refine APure.of fun σ => ?_
  refine acalls_fn Tryz.func270 rfl (enters_fn Tryz.func270 (by decide) rfl) ?_
  have hb1 := h.houses
  simp [Tryz.ntmps270, bkAV]
  refine (bk_counted_calls b h).use ?_
  simp
  refine ACode_loopT (fun env σ' => ∃ (u : List AV) (i : Nat), env = { t := u } ∧ u.length = 43 ∧ tg u 1 = .ptr σ.length 0 ∧ tg u 12 = .pl 1 (b.hears.map fun x => AV.pl 1 (x.map fun z => AV.pl 1 (z.map fun y => AV.int .i64 y))) ∧ tg u 13 = .int .i64 b.hears.length ∧ tg u 14 = .int .i64 i ∧ σ' = σ ++ [.cells (bkAV b).cells] ∧ i ≤ b.hears.length)
    (fun env _ => match tg env.t 14 with | .int _ i => b.hears.length - i.toNat | _ => 0) ⟨_, 0, rfl, by simp, by simp, by simp, by simp, by simp, by simp [bkAV], by omega⟩ ?_
  rintro env σ' ⟨u, i, rfl, hl0, g1, g12, g13, g14, rfl, hi⟩
  have hlen := h.hears
  rcases Nat.lt_or_ge i b.hears.length with hlt | hge
  · have hlt' : (i : Int) < (b.hears.length : Int) := by omega
    have hw1 := w64 (n := (i : Int) + 1) (by omega) (by omega)
    simp [hl0, g1, g12, g13, g14, hlt', hlt, bkAV]
    have h8 := h.winds _ (List.getElem_mem hlt)
    refine ACode_loopT (fun env σ' => ∃ (u : List AV) (j : Nat), env = { t := u } ∧ u.length = 43 ∧ tg u 1 = .ptr σ.length 0 ∧ tg u 12 = .pl 1 (b.hears.map fun x => AV.pl 1 (x.map fun z => AV.pl 1 (z.map fun y => AV.int .i64 y))) ∧ tg u 13 = .int .i64 b.hears.length ∧ tg u 14 = .int .i64 i ∧
        tg u 18 = .pl 1 (b.hears[i].map fun z => AV.pl 1 (z.map fun y => AV.int .i64 y)) ∧ tg u 19 = .int .i64 b.hears[i].length ∧ tg u 20 = .int .i64 j ∧ σ' = σ ++ [.cells (bkAV b).cells] ∧ j ≤ b.hears[i].length)
      (fun env _ => match tg env.t 20 with | .int _ j => b.hears[i].length - j.toNat | _ => 0) ⟨_, 0, rfl, by simp [hl0], by simp [g1], by simp [g12], by simp [g13], by simp [g14], by simp [hl0], by simp [hl0], by simp [hl0], by simp [bkAV], by omega⟩ ?_
    rintro env σ' ⟨u, j, rfl, hl0, g1, g12, g13, g14, g18, g19, g20, rfl, hj⟩
    rcases Nat.lt_or_ge j b.hears[i].length with hjlt | hjge
    · have hjlt' : (j : Int) < (b.hears[i].length : Int) := by omega
      have hw2 := w64 (n := (j : Int) + 1) (by omega) (by omega)
      simp [hl0, g1, g12, g13, g14, g18, g19, g20, hjlt', hjlt, bkAV]
      have hk := h.listed _ (List.getElem_mem hlt) _ (List.getElem_mem hjlt)
      refine (bk_listed_calls b b.hears[i][j] (by omega) (by omega) hk.1).use ?_
      simp [hl0, g1, g12, g13, g14, g18, g19, g20, hw2]
      exact ⟨⟨j + 1, by simp, hjlt⟩, by omega⟩
    · have hjge' : ¬ (j : Int) < (b.hears[i].length : Int) := by omega
      simp [hl0, g1, g12, g13, g14, g18, g19, g20, hjge', hw1, bkAV]
      exact ⟨⟨i + 1, by simp, hlt⟩, by omega⟩
  · have hge' : ¬ (i : Int) < (b.hears.length : Int) := by omega
    simp [hl0, g1, g12, g13, g14, hge', bkAV]
    refine StA.of ((every_bint b.reads (fun n => decide (n = -1) || bk_inB n 0 7) 319 [] [] (by have := h.reads; omega) _ fun x hx g => ?_).mono ?_)
    · simpa using bk_read_calls x _
    · rintro v s ⟨rfl, rfl⟩
      have ha : (b.reads.all fun n => decide (n = -1) || bk_inB n 0 7) = true := by
        rw [List.all_eq_true]
        intro n hn
        rcases h.read n hn with rfl | hn
        · simp
        · simp [bk_inB, hn]
      simp [ha]
      refine StA.of ((every_bcry b.cries (fun _ => true) 321 [] [.ptr σ.length 0] (by have := h.cries; omega) _ fun x hx g => ?_).mono ?_)
      · exact bk_check1_calls b h x hx σ.length _ (by simp [bkAV])
      · rintro v s ⟨rfl, rfl⟩
        have hb : (b.cries.all fun _ => true) = true := by simp
        simp [hb]
/-- a book at work: an object of the call's own -/
theorem bk_opened_calls (b : Bk) (h : b.Ok) (σ : Heap) : ACalls Tryz.prog 209 [bkAV b] σ fun v s => v = .tup [.ptr (σ.length + 1) 0, .int .i64 0] ∧ s = σ ++ [.cells (bkAV b).cells, .cells (bkAV b).cells] := by
  refine acalls_fn Tryz.func209 rfl (enters_fn Tryz.func209 (by decide) rfl) ?_
  simp [Tryz.ntmps209, bkAV]
  refine (bk_check_calls b h).use ?_
  simp
end Ab
namespace Ab
open Go Go.RowKit Go.Proofs
def gotAV (g : List Bool) : AV := .agg (g.map AV.bool)
def bk_mark (n : Int) (g : List Bool) (x : Int) : List Bool := g.set (x * 4 + n).toNat true
/-- the houses that hear a cry in some wind -/
def bk_atB (b : Bk) (c : Cr) (w : Nat) : List Int := (b.hears[c.stand.toNat]?.getD [])[w]?.getD []
def hear1 (b : Bk) (h w : Nat) (g : List Bool) (c : Cr) : List Bool := if c.hour = h then (bk_atB b c w).foldl (bk_mark c.notice) g else g
/-- what is heard in an hour in some wind, and before -/
def hearG (b : Bk) (h w : Nat) (g : List Bool) : List Bool := b.cries.foldl (hear1 b h w) g
theorem bk_mark_len (n : Int) (g : List Bool) (x : Int) : (bk_mark n g x).length = g.length := by simp [bk_mark]
theorem bk_marks_len (n : Int) : ∀ (l : List Int) (g : List Bool), (l.foldl (bk_mark n) g).length = g.length := by
  intro l
  induction l with
  | nil => intro g; rfl
  | cons x l ih => intro g; rw [List.foldl_cons, ih, bk_mark_len]
theorem bk_hear1_len (b : Bk) (h w : Nat) (g : List Bool) (c : Cr) : (hear1 b h w g c).length = g.length := by unfold hear1; split; exact bk_marks_len _ _ _; rfl
theorem bk_hearG_len' (b : Bk) (h w : Nat) : ∀ (l : List Cr) (g : List Bool), (l.foldl (hear1 b h w) g).length = g.length := by
  intro l
  induction l with
  | nil => intro g; rfl
  | cons x l ih => intro g; rw [List.foldl_cons, ih, bk_hear1_len]
theorem bk_hearG_len (b : Bk) (h w : Nat) (g : List Bool) : (hearG b h w g).length = g.length := bk_hearG_len' _ _ _ _ _
theorem bk_foldl_take {α β : Type} (f : β → α → β) (g : β) (l : List α) (i : Nat) (h : i < l.length) : (l.take (i + 1)).foldl f g = f ((l.take i).foldl f g) l[i] := by
  rw [List.take_succ_eq_append_getElem h, List.foldl_append]; rfl
theorem bk_mark_store {n x : Int} {Y : List Bool} (hn : 0 ≤ n) (hx : 0 ≤ x) (hl : x.toNat * 4 + n.toNat < Y.length) :
    List.take (x.toNat * 4 + n.toNat) (List.map AV.bool Y) ++ AV.bool true :: List.drop (x.toNat * 4 + n.toNat + 1) (List.map AV.bool Y) = List.map AV.bool (bk_mark n Y x) := by
  unfold bk_mark
  have e : (x * 4 + n).toNat = x.toNat * 4 + n.toNat := by omega
  rw [e, List.map_set, List.set_eq_take_append_cons_drop, if_pos (by simpa using hl)]
attribute [local irreducible] aws awp aw1 Og Om Oc Oa Ogd Ov Ot awd aw1d awh aw1h Ogh Ohd awl Ogl Ohl awv Ogv Ohv QThen QBlock QFn QFnM QRo QBe ACode AYield
theorem bk_fzl_bools (n : Nat) (S : Heap) (l : List Bool) : FzL n S (l.map AV.bool) (l.map AV.bool) := by
  refine ⟨rfl, fun i x y hx hy => ?_⟩
  rw [List.getElem?_map, Option.map_eq_some_iff] at hx hy
  obtain ⟨a, _, rfl⟩ := hx
  obtain ⟨c, _, rfl⟩ := hy
  simp_all
theorem bk_hear_calls (b : Bk) (ok : b.Ok) (h w : Nat) (g : List Bool) (hg : g.length = 24) (hw : w < 8) (d : Nat) (σ : Heap) (hd : σ[d]? = some (.cells (bkAV b).cells)) :
    ACalls Tryz.prog 273 [.ptr d 0, gotAV g, .int .i64 h, .int .i64 w] σ fun v s => v = gotAV (hearG b h w g) ∧ s = σ := by
  refine ACalls.forget ?_
  refine acalls_fn Tryz.func273 rfl (enters_fn Tryz.func273 (by decide) rfl) ?_
  have hdl : d < σ.length := (List.getElem?_eq_some_iff.1 hd).1
  have hd' : ∀ g : Heap, (σ ++ g)[d]? = some (.cells (bkAV b).cells) := fun g => by rw [List.getElem?_append_left hdl]; exact hd
  have hk := ok.cries
  simp [bkAV] at hd'
  simp [Tryz.ntmps273, gotAV, hg, hd']
  refine ACode_loopT (fun env σ' => ∃ (u : List AV) (i : Nat) (q : Heap), env = { t := u } ∧ u.length = 52 ∧ tg u 0 = .ptr d 0 ∧ tg u 2 = .int .i64 h ∧ tg u 3 = .int .i64 w ∧ tg u 5 = .ptr σ.length 0 ∧ tg u 8 = .ptr (σ.length + 1) 0 ∧
      tg u 17 = .pl 3 (b.cries.map fun x => AV.agg [.int .i64 x.hour, .int .i64 x.stand, .int .i64 x.notice]) ∧ tg u 18 = .int .i64 b.cries.length ∧ tg u 19 = .int .i64 i ∧
      σ' = σ ++ ([.cells (((b.cries.take i).foldl (hear1 b h w) g).map AV.bool), .cells ((List.replicate 24 false).map AV.bool)] ++ q) ∧ i ≤ b.cries.length)
    (fun env _ => match tg env.t 19 with | .int _ i => b.cries.length - i.toNat | _ => 0) ⟨_, 0, [], rfl, by simp, by simp, by simp, by simp, by simp, by simp, by simp, by simp, by simp, by simp, by omega⟩ ?_
  rintro env σ' ⟨u, i, q, rfl, hl0, g0, g2, g3, g5, g8, g17, g18, g19, rfl, hi⟩
  rcases Nat.lt_or_ge i b.cries.length with hlt | hge
  · have hlt' : (i : Int) < (b.cries.length : Int) := by omega
    have hw1 := w64 (n := (i : Int) + 1) (by omega) (by omega)
    obtain ⟨⟨c0, c1⟩, ⟨s0, s1⟩, n0, n1⟩ := ok.cry _ (List.getElem_mem hlt)
    have hG : ((b.cries.take i).foldl (hear1 b h w) g).length = 24 := by rw [bk_hearG_len', hg]
    have hst := bk_foldl_take (hear1 b h w) g b.cries i hlt
    generalize hX : (b.cries.take i).foldl (hear1 b h w) g = X at *
    simp [hl0, g0, g2, g3, g5, g8, g17, g18, g19, hlt', hlt]
    by_cases hh : b.cries[i].hour = h
    · simp [hh]
      refine ACode_draw0 mixed (by kernel_rfl) ?_
      have hst' : b.cries[i].stand.toNat < b.hears.length := by omega
      have hst'' : ((b.cries[i].stand.toNat : Nat) : Int) = b.cries[i].stand := by omega
      have hwl : w < b.hears[b.cries[i].stand.toNat].length := by have := ok.winds _ (List.getElem_mem hst'); omega
      obtain ⟨hnd, hll⟩ := ok.listed _ (List.getElem_mem hst') _ (List.getElem_mem hwl)
      have hat : bk_atB b b.cries[i] w = b.hears[b.cries[i].stand.toNat][w] := by simp [bk_atB, hst', hwl]
      simp [hl0, g0, g2, g3, g5, g8, g17, g18, g19, hd', s0, s1, hst', hwl, ← hat]
      rw [← hat] at hnd hll
      have hcap : b.houses ≤ 6 := ok.houses.2
      have hcap2 : b.notices ≤ 4 := ok.notices.2
      refine ACode_loopT (fun env σ' => ∃ (u : List AV) (j : Nat), env = { t := u } ∧ u.length = 52 ∧ tg u 0 = .ptr d 0 ∧ tg u 2 = .int .i64 h ∧ tg u 3 = .int .i64 w ∧ tg u 5 = .ptr σ.length 0 ∧ tg u 8 = .ptr (σ.length + 1) 0 ∧ tg u 10 = .ptr (σ.length + (q.length + 2)) 0 ∧
          tg u 17 = .pl 3 (b.cries.map fun x => AV.agg [.int .i64 x.hour, .int .i64 x.stand, .int .i64 x.notice]) ∧ tg u 18 = .int .i64 b.cries.length ∧ tg u 19 = .int .i64 i ∧
          tg u 38 = .pl 1 ((bk_atB b b.cries[i] w).map fun y => AV.int .i64 y) ∧ tg u 39 = .int .i64 (bk_atB b b.cries[i] w).length ∧ tg u 40 = .int .i64 j ∧
          σ' = σ ++ ([.cells ((((bk_atB b b.cries[i] w).take j).foldl (bk_mark b.cries[i].notice) X).map AV.bool), .cells ((List.replicate 24 false).map AV.bool)] ++ q ++ [.cells [.int .i64 h, .int .i64 b.cries[i].stand, .int .i64 b.cries[i].notice]]) ∧ j ≤ (bk_atB b b.cries[i] w).length)
        (fun env _ => match tg env.t 40 with | .int _ j => (bk_atB b b.cries[i] w).length - j.toNat | _ => 0) ⟨_, 0, rfl, by simp [hl0], by simp [g0], by simp [g2], by simp [g3], by simp [g5], by simp [g8], by simp [hl0], by simp [g17], by simp [g18], by simp [g19], by simp [hl0], by simp [hl0], by simp [hl0], by simp, by omega⟩ ?_
      rintro env σ' ⟨u, j, rfl, hl0, g0, g2, g3, g5, g8, g10, g17, g18, g19, g38, g39, g40, rfl, hj⟩
      rcases Nat.lt_or_ge j (bk_atB b b.cries[i] w).length with hjlt | hjge
      · have hjlt' : (j : Int) < ((bk_atB b b.cries[i] w).length : Int) := by omega
        have hw2 := w64 (n := (j : Int) + 1) (by omega) (by omega)
        have hx := hnd.2 _ (List.getElem_mem hjlt)
        have hG2 : (((bk_atB b b.cries[i] w).take j).foldl (bk_mark b.cries[i].notice) X).length = 24 := by rw [bk_marks_len, hG]
        have hst2 := bk_foldl_take (bk_mark b.cries[i].notice) X (bk_atB b b.cries[i] w) j hjlt
        generalize hY : ((bk_atB b b.cries[i] w).take j).foldl (bk_mark b.cries[i].notice) X = Y at *
        simp [hl0, g0, g2, g3, g5, g8, g10, g17, g18, g19, g38, g39, g40, hjlt', hjlt]
        refine ACode_drawH [5] mixed (by kernel_rfl) ?_
        have x0 : 0 ≤ (bk_atB b b.cries[i] w)[j] := hx.1
        have x1 : (bk_atB b b.cries[i] w)[j] < 6 := by omega
        have n1' : b.cries[i].notice < 4 := by omega
        have hgt : ∀ q : Heap, (σ ++ AObj.cells (List.map AV.bool Y) :: q)[σ.length]? = some (.cells (List.map AV.bool Y)) := fun q => by simp
        simp [hl0, g0, g2, g3, g5, g8, g10, g17, g18, g19, g38, g39, g40, x0, x1, n0, n1']
        rw [bk_mark_store n0 x0 (by omega), if_pos (by omega)]
        simp [hw2, hG2]
        exact ⟨⟨j + 1, by simp, by rw [hst2], hjlt⟩, by omega⟩
      · have hjge' : ¬ (j : Int) < ((bk_atB b b.cries[i] w).length : Int) := by omega
        rw [List.take_of_length_le hjge]
        have hh1 : hear1 b h w X b.cries[i] = (bk_atB b b.cries[i] w).foldl (bk_mark b.cries[i].notice) X := by simp [hear1, hh]
        simp [hl0, g0, g2, g3, g5, g8, g10, g17, g18, g19, g38, g39, g40, hjge', hw1]
        exact ⟨⟨i + 1, by simp, by rw [hst, hh1], hlt⟩, by omega⟩
    · have hh1 : hear1 b h w X b.cries[i] = X := by simp [hear1, hh]
      simp [hh, hl0, g0, g2, g3, g5, g8, g17, g18, g19, hw1]
      exact ⟨⟨i + 1, by simp, by rw [hst, hh1], hlt⟩, by omega⟩
  · have hge' : ¬ (i : Int) < (b.cries.length : Int) := by omega
    have hG : (b.cries.foldl (hear1 b h w) g).length = 24 := by rw [bk_hearG_len', hg]
    rw [List.take_of_length_le hge]
    simp [hl0, g0, g2, g3, g5, g8, g17, g18, g19, hge', hG, hearG]
    have ht : List.take 24 (List.map AV.bool (List.foldl (hear1 b h w) g b.cries)) = List.map AV.bool (List.foldl (hear1 b h w) g b.cries) := List.take_of_length_le (by simp [hG])
    rw [ht, if_pos (fun x hx => by obtain ⟨y, _, rfl⟩ := List.mem_map.1 hx; rfl)]
    simp [hG, ht]
    exact bk_fzl_bools _ _ _
end Ab
