/-
  FileBooked: the walk.
-/
import Derived.Test.YtcoikmapjepdjaaGreatDoorC19
import Derived.Test.YtcoikmapjepdjaaGreatDoorC39
import Derived.Test.YtcoikmapjepdjaaGreatDoorC42
import Derived.Test.YtcoikmapjepdjaaGreatDoorC43
import Derived.Test.YtcoikmapjepdjaaGreatDoorC27
import Derived.Test.YtcoikmapjepdjaaGreatDoorC31
set_option linter.unusedSimpArgs false
set_option linter.unusedVariables false
set_option linter.unusedSectionVars false
namespace Ab
open Go Go.RowKit Go.Proofs
theorem View.drop (S g : Heap) : View (fun r => decide (S.length ≤ r)) (S ++ g) (S ++ g.map fun _ => AObj.dead) := by
  refine ⟨by simp, fun r o' ho hlv => ?_⟩
  rcases Nat.lt_or_ge r S.length with h | h
  · rw [List.getElem?_append_left h] at ho
    exact ⟨by simp; omega, o', by rw [List.getElem?_append_left h]; exact ho, hlv, .inl rfl⟩
  · rw [List.getElem?_append_right h, List.getElem?_map, Option.map_eq_some_iff] at ho
    obtain ⟨x, _, rfl⟩ := ho
    cases hlv
theorem pick2 {u : List AV} {a b : Nat} {x y : AV} (ha : a < u.length) (hb : b < u.length) (hab : a ≠ b) : tg (pickT u [(a, x), (b, y)]) a = x ∧ tg (pickT u [(a, x), (b, y)]) b = y := by
  have hba : b ≠ a := fun e => hab e.symm
  unfold pickT
  simp [tg, ts, ha, hb, hab, hba]
theorem pick3 {u : List AV} {a b c : Nat} {x y z : AV} (ha : a < u.length) (hb : b < u.length) (hc : c < u.length) (hab : a ≠ b) (hac : a ≠ c) (hbc : b ≠ c) : tg (pickT u [(a, x), (b, y), (c, z)]) a = x ∧ tg (pickT u [(a, x), (b, y), (c, z)]) b = y ∧ tg (pickT u [(a, x), (b, y), (c, z)]) c = z := by
  have hba : b ≠ a := fun e => hab e.symm
  have hca : c ≠ a := fun e => hac e.symm
  have hcb : c ≠ b := fun e => hbc e.symm
  unfold pickT
  simp [tg, ts, ha, hb, hc, hab, hba, hac, hca, hbc, hcb]
theorem pick4 {u : List AV} {x y z w : AV} (h : 22 < u.length) : tg (pickT u [(5, x), (8, y), (21, z), (22, w)]) 5 = x ∧ tg (pickT u [(5, x), (8, y), (21, z), (22, w)]) 8 = y ∧ tg (pickT u [(5, x), (8, y), (21, z), (22, w)]) 21 = z ∧ tg (pickT u [(5, x), (8, y), (21, z), (22, w)]) 22 = w := by
  have h1 : 5 < u.length := by omega
  have h2 : 8 < u.length := by omega
  have h3 : 21 < u.length := by omega
  unfold pickT
  simp [tg, ts, h, h1, h2, h3]
theorem fewTo_len {cs : List Cm} : ∀ (l : Ends) (best : List Int), best.length ≤ cs.length → (fewTo cs l best).length ≤ cs.length := by
  intro l
  induction l with
  | nil => intro best h; exact h
  | cons x l ih =>
    intro best h
    have : fewTo cs (x :: l) best = fewTo cs l (if betterF (wrongN cs x.1 cs.length) best then wrongN cs x.1 cs.length else best) := rfl
    rw [this]
    refine ih _ ?_
    split
    · exact wrongN_len _ _ _
    · exact h
theorem fewB_le (cs : List Cm) (l : Ends) : (fewB cs l).length ≤ cs.length := by
  cases l with
  | nil => simp [fewB]
  | cons e l => exact fewTo_len l _ (wrongN_len _ _ _)
/-- a book that was made -/
structure BkF (b : Bk) : Prop where
  ok : b.Ok
  fits : ∃ real, Fits b real
  cries : b.cries.length ≤ 6
  houses : b.houses ≤ 4
  notices : b.notices ≤ 3
  hears : b.hears.length ≤ 3
  reads : b.reads.length ≤ 5
/-- ahead of a complaint -/
def LwA (l2 : List UInt8) (σ : Heap) (B1 : AObj) (b : Bk) (n : Nat) (env : Env) (σ' : Heap) : Prop := ∃ (u : List AV) (i : Nat) (v : AV) (M : List Cm) (g : Heap) (o : Option Nat) (a : Nat) (c : Int), env = { t := u } ∧ u.length = 256 ∧ tg u 5 = .ptr (σ.length + 1) 0 ∧ tg u 7 = .ptr (σ.length + 2) 0 ∧ tg u 8 = v ∧ tg u 46 = .int .i64 n ∧ tg u 47 = .int .i64 i ∧ i ≤ n ∧
  σ' = (σ ++ [B1, .cells (bkAV b).cells, bellObj l2 a c]) ++ g ∧ a ≤ l2.length ∧ Acc (σ ++ [zBk, zBk, zBk]) g 3 v (M.map cmAV) o ∧ M.length = i ∧ ∀ x ∈ M, x.Ok b
/-- the loop over cries -/
def LwB (S : Heap) (q : Nat) (b : Bk) (M : List Cm) (env : Env) (σ' : Heap) : Prop := ∃ (u : List AV) (i : Nat) (v : AV) (g : Heap) (o : Option Nat), env = { t := u } ∧ u.length = 256 ∧ tg u 5 = .ptr q 0 ∧ tg u 8 = .pl 3 (M.map cmAV) ∧ tg u 9 = v ∧ tg u 67 = .pl 3 (b.cries.map crAV) ∧ tg u 68 = .int .i64 b.cries.length ∧ tg u 69 = .int .i64 i ∧ i ≤ b.cries.length ∧ σ' = S ++ g ∧ Acc S g 3 v ((cryRs (b.cries.take i)).map recAV) o
/-- behind it -/
def LwB' (S : Heap) (q : Nat) (b : Bk) (M : List Cm) (env : Env) (σ' : Heap) : Prop := ∃ (u : List AV) (v : AV) (g : Heap) (o : Option Nat), env = { t := u } ∧ u.length = 256 ∧ tg u 5 = .ptr q 0 ∧ tg u 8 = .pl 3 (M.map cmAV) ∧ tg u 9 = v ∧ σ' = S ++ g ∧ Acc S g 3 v ((cryRs b.cries).map recAV) o
/-- the loop over complaints -/
def LwC (S : Heap) (q : Nat) (b : Bk) (M : List Cm) (env : Env) (σ' : Heap) : Prop := ∃ (u : List AV) (i : Nat) (v : AV) (g : Heap) (o : Option Nat), env = { t := u } ∧ u.length = 256 ∧ tg u 5 = .ptr q 0 ∧ tg u 8 = .pl 3 (M.map cmAV) ∧ tg u 9 = v ∧ tg u 90 = .pl 3 (M.map cmAV) ∧ tg u 91 = .int .i64 M.length ∧ tg u 92 = .int .i64 i ∧ i ≤ M.length ∧ σ' = S ++ g ∧ Acc S g 3 v ((cryRs b.cries ++ pleaRs (M.take i)).map recAV) o
def LwC' (S : Heap) (q : Nat) (b : Bk) (M : List Cm) (env : Env) (σ' : Heap) : Prop := ∃ (u : List AV) (v : AV) (g : Heap) (o : Option Nat), env = { t := u } ∧ u.length = 256 ∧ tg u 5 = .ptr q 0 ∧ tg u 8 = .pl 3 (M.map cmAV) ∧ tg u 9 = v ∧ σ' = S ++ g ∧ Acc S g 3 v ((cryRs b.cries ++ pleaRs M).map recAV) o
/-- the loop over what was read -/
def LwD (S : Heap) (q : Nat) (b : Bk) (M : List Cm) (env : Env) (σ' : Heap) : Prop := ∃ (u : List AV) (i : Nat) (vC vM : AV) (g : Heap) (oC oM : Option Nat), env = { t := u } ∧ u.length = 256 ∧ tg u 5 = .ptr q 0 ∧ tg u 8 = .pl 3 (M.map cmAV) ∧ tg u 21 = .ptr S.length 0 ∧ tg u 22 = vM ∧ tg u 134 = fileAV (cryRs b.cries ++ pleaRs M) ∧ tg u 135 = .int .i64 (b.cries.length + M.length : Nat) ∧ tg u 136 = .int .i64 i ∧ i ≤ b.cries.length + M.length ∧
  σ' = S ++ (.cells [.int .i64 b.houses, .int .i64 b.notices, .pl 1 (b.hears.map rowsI), .pl 1 (intsA b.reads), vC] :: g) ∧ Acc (S ++ [zBk]) g 3 vC ((b.cries.take i).map crAV) oC ∧ Acc (S ++ [zBk]) g 3 vM ((M.take (i - b.cries.length)).map cmAV) oM ∧ (∀ j, oM = some j → oC ≠ some j) ∧ (i ≤ b.cries.length → vM = .nils ∧ oM = none)
/-- behind it -/
def LwD' (S : Heap) (q : Nat) (b : Bk) (M : List Cm) (env : Env) (σ' : Heap) : Prop := ∃ (u : List AV) (vC vM : AV) (g : Heap) (oC oM : Option Nat), env = { t := u } ∧ u.length = 256 ∧ tg u 5 = .ptr q 0 ∧ tg u 8 = .pl 3 (M.map cmAV) ∧ tg u 21 = .ptr S.length 0 ∧ tg u 22 = vM ∧
  σ' = S ++ (.cells [.int .i64 b.houses, .int .i64 b.notices, .pl 1 (b.hears.map rowsI), .pl 1 (intsA b.reads), vC] :: g) ∧ Acc (S ++ [zBk]) g 3 vC (b.cries.map crAV) oC ∧ Acc (S ++ [zBk]) g 3 vM (M.map cmAV) oM
theorem cryRs_snoc (l : List Cr) (x : Cr) : cryRs (l ++ [x]) = cryRs l ++ [cryR l.length x] := mapIdx_snoc _ _ _
theorem pleaRs_snoc (l : List Cm) (x : Cm) : pleaRs (l ++ [x]) = pleaRs l ++ [pleaR l.length x] := mapIdx_snoc _ _ _
attribute [local irreducible] aws awp aw1 Og Om Oc Oa Ogd Ov Ot awd aw1d awh aw1h Ogh Ohd awl Ogl Ohl awv Ogv Ohv QThen QBlock QFn QFnM QRo QBe ACode AYield
set_option maxHeartbeats 8000000 in
theorem booked_calls (l1 l2 : List UInt8) (h1 : l1.length ≤ 9223372036854775807) (h2 : l2.length ≤ 9223372036854775807) : APure Tryz.prog 6 [.pl 1 (bytesL l1), .pl 1 (bytesL l2)] (.bool true) := by
  refine APure.of fun σ => ?_
  refine acalls_cutF 5 (fun env σ' => ∃ (B1 : AObj) (b : Bk) (n : Nat), BkF b ∧ n ≤ 5 ∧ LwA l2 σ B1 b n env σ') Tryz.func6 rfl (enters_fn Tryz.func6 (by decide) rfl) ?_ ?_
  · simp [-aappend, Tryz.ntmps6]
    refine StA.of ((hang_calls σ _ rfl).mono ?_)
    rintro v σ' ⟨rfl, rfl⟩
    refine StA.of ((bk_made_calls (σ ++ [bellObj l1 0 0]) σ.length l1 0 0 (by simp) (by omega) h1).mono ?_)
    rintro v σ' ⟨b, real, a', c', rfl, ok, hf, hcr, hho, hno, hhe, hre, ha', rfl⟩
    generalize bellObj l1 a' c' = B1
    have hbf : BkF b := ⟨ok, ⟨real, hf⟩, hcr, hho, hno, hhe, hre⟩
    obtain ⟨bc, hbc, hbl, hb1, hbt⟩ : ∃ bc, bkAV b = .agg bc ∧ bc.length = 5 ∧ (∀ y ∈ bc, y.one = true) ∧ List.take 5 bc = bc := ⟨_, rfl, rfl, by simp [AV.one], rfl⟩
    have hbcc : (bkAV b).cells = bc := by rw [hbc]; rfl
    rw [hbc]
    simp [-aappend, hbl, hbt]
    rw [if_pos (by exact hb1), Om_some]
    refine StA.of ((hang_calls _ _ rfl).mono ?_)
    rintro v σ' ⟨rfl, rfl⟩
    obtain ⟨S2, hS2⟩ : ∃ S2, σ ++ [B1, AObj.cells bc] = S2 := ⟨_, rfl⟩
    have hS2l : S2.length = σ.length + 2 := by rw [← hS2]; simp
    rw [hS2]
    try simp [-aappend]
    have hB : ∀ (a : Nat) (c : Int) (X : Heap), (S2 ++ bellObj l2 a c :: X)[σ.length + 2]? = some (bellObj l2 a c) := fun a c X => by rw [← hS2l]; simp
    have hBs : ∀ (a : Nat) (c : Int) (X : Heap) (Y : AObj), (S2 ++ bellObj l2 a c :: X).set (σ.length + 2) Y = S2 ++ Y :: X := fun a c X Y => by rw [← hS2l]; simp
    have hbcA : ∀ (X : Heap), (S2 ++ X)[σ.length + 1]? = some (.cells bc) := fun X => by rw [← hS2]; simp
    have e0 : (AObj.cells [AV.pl 1 (bytesL l2), AV.int IntKind.i64 0, AV.int IntKind.u32 0]) = bellObj l2 0 0 := rfl
    rw [e0, hS2l]
    refine StA.of ((stroke_calls _ (σ.length + 2) l2 0 0 5 (hB _ _ _) (by omega) h2 (by omega) (by omega)).mono ?_)
    rintro v σ' ⟨n, a2, c2, rfl, n0, n1, ha2, rfl⟩
    rw [hBs]
    obtain ⟨n, rfl⟩ : ∃ m : Nat, n = m := ⟨n.toNat, by omega⟩
    try simp [-aappend]
    refine ACode_loopT (LwA l2 σ B1 b n) (fun env _ => match tg env.t 47 with | .int _ i => n - i.toNat | _ => 0) ⟨_, 0, .nils, [], [], none, a2, c2, rfl, by simp, by simp, by simp [hS2l], by simp, by simp, by simp, by omega, by rw [hbcc, ← hS2]; simp, ha2, Acc.nil _ _ _, rfl, by simp⟩ ?_
    rintro env _ ⟨u, i, v, M, g, o, a4, c4, rfl, hl, g5, g7, g8, g46, g47, hi, rfl, ha4, hA, hMl, hM⟩
    have hSg : (σ ++ [B1, AObj.cells (bkAV b).cells, bellObj l2 a4 c4]) ++ g = S2 ++ bellObj l2 a4 c4 :: g := by rw [← hS2, hbcc]; simp
    rw [hSg]
    rcases Nat.lt_or_ge i n with hlt | hge
    · have hlt' : (i : Int) < (n : Int) := by omega
      have hx := w64 (n := (i : Int) + 1) (by omega) (by omega)
      have hho := ok.houses
      have hno := ok.notices
      have hw1 := w64 (n := b.houses - 1) (by omega) (by omega)
      have hw2 := w64 (n := b.notices - 1) (by omega) (by omega)
      have hg0 : bc[0]? = some (.int .i64 b.houses) := by have : bc = _ := (AV.agg.inj hbc).symm; rw [this]; rfl
      have hg1 : bc[1]? = some (.int .i64 b.notices) := by have : bc = _ := (AV.agg.inj hbc).symm; rw [this]; rfl
      have hg0' : bc[0]'(by omega) = .int .i64 b.houses := Option.some.inj ((List.getElem?_eq_getElem (by omega)).symm.trans hg0)
      have hg1' : bc[1]'(by omega) = .int .i64 b.notices := Option.some.inj ((List.getElem?_eq_getElem (by omega)).symm.trans hg1)
      simp [-aappend, hl, g5, g7, g8, g46, g47, hlt']
      refine ACode_drawL [5, 10, 12, 15] [(0, 1), (0, 2), (0, 3), (6, 0), (7, 0), (8, 0), (9, 0), (11, 0), (11, 1)] mixed (by kernel_rfl) (by kernel_rfl) ?_
      simp [-aappend, hl, g5, g7, g8, g46, g47, hlt', hbcA, hbl, hg0', hw1]
      obtain ⟨x1, a5, c5, hr1, h10, h11, ha5⟩ := strokeX_calls (S2 ++ bellObj l2 a4 c4 :: g) (σ.length + 2) l2 a4 c4 (b.houses - 1) (hB _ _ _) ha4 h2 (by omega) (by omega)
      refine OuH_of hr1 ?_
      rw [hBs]
      simp [-aappend, hl, g5, g7, g8, g46, g47, hlt', hbcA, hbl, hg1', hw2]
      obtain ⟨x2, a6, c6, hr2, h20, h21, ha6⟩ := strokeX_calls (S2 ++ bellObj l2 a5 c5 :: g) (σ.length + 2) l2 a5 c5 (b.notices - 1) (hB _ _ _) ha5 h2 (by omega) (by omega)
      refine OuH_of hr2 ?_
      rw [hBs]
      try simp [-aappend, hl, g5, g7, g8, g46, g47, hlt', hbcA, hbl]
      obtain ⟨x3, a7, c7, hr3, ha7⟩ := seldomX_calls (S2 ++ bellObj l2 a6 c6 :: g) (σ.length + 2) l2 a6 c6 2 (hB _ _ _) ha6 h2 (by omega) (by omega)
      refine OuH_of hr3 ?_
      rw [hBs]
      simp [-aappend, hl, g5, g7, g8, g46, g47, hlt', hbcA, hbl, hx]
      obtain ⟨v', g', jo, he, hB', hv'⟩ := appM (hA.base (σ' := S2 ++ [bellObj l2 a7 c7]) (by simp [hS2l])) ⟨x1, x2, x3⟩ (by omega)
      simp only [List.append_assoc, List.cons_append, List.nil_append, cmAV] at he
      rw [he, Om_some]
      exact ⟨⟨hg1', hw2⟩, ⟨_, i + 1, v', M ++ [⟨x1, x2, x3⟩], g', some jo, a7, c7, rfl, by simp [hl], by simp [hl, g5], by simp [hl, g7], by simp [hl], by simp [hl, g46], by simp [hl], hlt, by rw [hbcc, ← hS2]; simp, ha7, hB'.base (by simp [hS2l]), by simp [hMl], fun x hx => by
        rcases List.mem_append.1 hx with hx | hx
        · exact hM x hx
        · rw [List.mem_singleton.1 hx]
          refine ⟨⟨h10, ?_⟩, h20, ?_⟩ <;> dsimp only <;> omega⟩, by omega⟩
    · obtain rfl : i = n := by omega
      simp [-aappend, hl, g5, g7, g8, g46, g47]
      exact ⟨B1, b, hbf, i, by omega, _, i, v, M, g, o, a4, c4, rfl, by simp [hl], by simp [hl, g5], by simp [hl, g7], by simp [hl, g8], by simp [hl, g46], by simp [hl, g47], by omega, by rw [hbcc, ← hS2]; simp, ha4, hA, hMl, hM⟩
  · rintro env _ ⟨B1, b, n, hbf, hn, u, i, v, M, g, o, a4, c4, rfl, hl, g5, g7, g8, g46, g47, hi, rfl, ha4, hA, hMl, hM⟩
    obtain ⟨S, hS⟩ : ∃ S, σ ++ [B1, AObj.cells (bkAV b).cells, bellObj l2 a4 c4] = S := ⟨_, rfl⟩
    have hSl : S.length = σ.length + 3 := by rw [← hS]; simp
    have hSb : S[σ.length + 1]? = some (.cells (bkAV b).cells) := by rw [← hS]; simp
    have hSs : ∃ x, S = σ ++ x := ⟨_, hS.symm⟩
    have hv8 := (hA.base (σ' := S) (by rw [hSl]; simp)).vwk (p := fun r => decide (S.length ≤ r)) (fun r hr => by simpa using hr) (by omega) (fun x hx y hy T => by
      obtain ⟨z, _, rfl⟩ := List.mem_map.1 hx
      simp [AV.cells, cmAV] at hy
      rcases hy with rfl | rfl | rfl
      · exact .int _ _
      · exact .int _ _
      · exact .bool _)
    rw [hS]
    refine ACode.view (u' := pickT u [(5, .ptr (σ.length + 1) 0), (8, .pl 3 (M.map cmAV))]) _ (View.drop S g) ?_ (pickT_len _ _) (pickT_vw (by
      simp only [List.mem_cons, List.not_mem_nil, or_false]
      rintro p (rfl | rfl) <;> dsimp only <;> first | (rw [g5]; exact .inl rfl) | (rw [g8]; exact hv8)))
    have hl3 := (pickT_len u [(5, .ptr (σ.length + 1) 0), (8, .pl 3 (M.map cmAV))]).trans hl
    have k5 : tg (pickT u [(5, .ptr (σ.length + 1) 0), (8, .pl 3 (M.map cmAV))]) 5 = .ptr (σ.length + 1) 0 := (pick2 (by omega) (by omega) (by decide)).1
    have k8 : tg (pickT u [(5, .ptr (σ.length + 1) 0), (8, .pl 3 (M.map cmAV))]) 8 = .pl 3 (M.map cmAV) := (pick2 (by omega) (by omega) (by decide)).2
    obtain ⟨u', hu'⟩ : ∃ x, pickT u [(5, .ptr (σ.length + 1) 0), (8, .pl 3 (M.map cmAV))] = x := ⟨_, rfl⟩
    rw [hu'] at hl3 k5 k8 ⊢
    obtain ⟨dd, hdd⟩ : ∃ dd, g.map (fun _ => AObj.dead) = dd := ⟨_, rfl⟩
    rw [hdd]
    clear hv8 hA g5 g7 g8 g46 g47 hl hu' u ha4 hS g hdd
    obtain ⟨bc, hbc⟩ : ∃ bc, (bkAV b).cells = bc := ⟨_, rfl⟩
    have hbca : bkAV b = .agg bc := by rw [← hbc]; rfl
    have hbl : bc.length = 5 := by rw [← hbc]; rfl
    have hbt : List.take 5 bc = bc := List.take_of_length_le (by omega)
    have h4l : 4 < bc.length := by rw [hbl]; decide
    have hg4 : bc[4]'h4l = .pl 3 (b.cries.map crAV) := by have : bc = _ := hbc.symm; subst this; rfl
    rw [hbc] at hSb
    have hSb' : ∀ X : Heap, (S ++ X)[σ.length + 1]? = some (.cells bc) := fun X => by rw [List.getElem?_append_left (by omega)]; exact hSb
    obtain ⟨S1, hS1⟩ : ∃ S1, S ++ dd = S1 := ⟨_, rfl⟩
    have hS1b : ∀ X : Heap, (S1 ++ X)[σ.length + 1]? = some (.cells bc) := fun X => by rw [← hS1, List.append_assoc]; exact hSb' _
    have hS1s : ∃ x, S1 = σ ++ x := by obtain ⟨x, hx⟩ := hSs; exact ⟨x ++ dd, by rw [← hS1, hx, List.append_assoc]⟩
    have hS1l : σ.length + 2 ≤ S1.length := by rw [← hS1]; simp; omega
    rw [hS1]
    clear hS1 hSb' hSb hSs dd
    have ok := hbf.ok
    have hsc : ∀ c ∈ b.cries, SmallC c := fun c hc => by
      have := ok.cry c hc
      have h3 := hbf.reads
      have h4 := hbf.hears
      have h5 := hbf.notices
      exact ⟨by omega, by omega, by omega⟩
    have hsm : ∀ c ∈ M, SmallM c := fun c hc => by
      obtain ⟨⟨x1, x2⟩, x3, x4⟩ := hM c hc
      have h3 := hbf.houses
      have h5 := hbf.notices
      exact ⟨by omega, by omega⟩
    have hcl := hbf.cries
    refine ACode_cutA (n := 2) (LwB' S1 (σ.length + 1) b M) ?_ ?_
    · clear hl3 k5 k8 u'
      rintro env _ ⟨u, v, g, o, rfl, hl, g5, g8, g9, rfl, hA⟩
      refine ACode_cutA (n := 1) (LwC' S1 (σ.length + 1) b M) ?_ ?_
      · clear hl g5 g8 g9 hA u v g o
        rintro env _ ⟨u, v, g, o, rfl, hl, g5, g8, g9, rfl, hA⟩
        obtain ⟨F, hF⟩ : ∃ F, cryRs b.cries ++ pleaRs M = F := ⟨_, rfl⟩
        have hv9 := hA.vwk (p := fun r => decide (S1.length ≤ r)) (fun r hr => by simpa using hr) (by omega) (fun x hx y hy T => by
          obtain ⟨z, _, rfl⟩ := List.mem_map.1 hx
          simp only [AV.cells, recAV, List.mem_cons, List.not_mem_nil, or_false] at hy
          rcases hy with rfl | rfl | rfl
          · exact .int _ _
          · exact .int _ _
          · refine .pl 1 _ fun i x hx j y hy => ?_
            obtain ⟨z, _, rfl⟩ := List.mem_map.1 (List.mem_of_getElem? hx)
            cases j with
            | zero => simp [AV.cells] at hy; subst hy; exact .str _
            | succ j => simp [AV.cells] at hy)
        refine ACode.view (u' := pickT u [(5, .ptr (σ.length + 1) 0), (8, .pl 3 (M.map cmAV)), (9, fileAV (cryRs b.cries ++ pleaRs M))]) _ (View.drop S1 g) ?_ (pickT_len _ _) (pickT_vw (by
          simp only [List.mem_cons, List.not_mem_nil, or_false]
          rintro p (rfl | rfl | rfl) <;> dsimp only <;> first | (rw [g5]; exact .inl rfl) | (rw [g8]; exact .inl rfl) | (rw [g9]; exact hv9)))
        have hl3 := (pickT_len u [(5, .ptr (σ.length + 1) 0), (8, .pl 3 (M.map cmAV)), (9, fileAV (cryRs b.cries ++ pleaRs M))]).trans hl
        obtain ⟨k5, k8, k9⟩ := pick3 (u := u) (a := 5) (b := 8) (c := 9) (x := .ptr (σ.length + 1) 0) (y := .pl 3 (M.map cmAV)) (z := fileAV (cryRs b.cries ++ pleaRs M)) (by omega) (by omega) (by omega) (by decide) (by decide) (by decide)
        obtain ⟨u', hu'⟩ : ∃ x, pickT u [(5, .ptr (σ.length + 1) 0), (8, .pl 3 (M.map cmAV)), (9, fileAV (cryRs b.cries ++ pleaRs M))] = x := ⟨_, rfl⟩
        rw [hu'] at hl3 k5 k8 k9 ⊢
        obtain ⟨dd, hdd⟩ : ∃ dd, g.map (fun _ => AObj.dead) = dd := ⟨_, rfl⟩
        rw [hdd]
        clear hv9 hA g5 g8 g9 hl hu' hdd
        rw [hF] at k9
        have hchk : Oyez.check F = 0 := by rw [← hF]; exact allRs_check (by omega) (by omega) hsc hsm
        obtain ⟨ffew, _, fpl, fwl⟩ := right_fewF hchk
        have hFl : F.length = b.cries.length + M.length := by rw [← hF]; simp [cryRs, pleaRs]
        have hpc : printC F = (Oyez.print F, 0) := by unfold printC; rw [if_pos hchk]
        have hpp := Oyez.parse_print hchk
        refine ACode_cutA (n := 7) (fun env σ' => ∃ S, (∃ x, S = S1 ++ x) ∧ LwD' S (σ.length + 1) b M env σ') ?_ ?_
        · clear hl3 k5 k8 k9 u' u
          rintro env _ ⟨S, ⟨x, hSx⟩, u, vC, vM, g, oC, oM, rfl, hl, g5, g8, g21, g22, rfl, hAC, hAM⟩
          have hvC := (hAC.base (σ' := S ++ [AObj.cells [.int .i64 b.houses, .int .i64 b.notices, .pl 1 (b.hears.map rowsI), .pl 1 (intsA b.reads), vC]]) (by simp)).vwk (p := fun r => decide (S.length + 1 ≤ r)) (fun r hr => by simp at hr ⊢; omega) (by omega) (fun x hx y hy T => by
            obtain ⟨z, _, rfl⟩ := List.mem_map.1 hx
            simp [AV.cells, crAV] at hy
            rcases hy with rfl | rfl | rfl <;> exact .int _ _)
          have hvM := (hAM.base (σ' := S ++ [AObj.cells [.int .i64 b.houses, .int .i64 b.notices, .pl 1 (b.hears.map rowsI), .pl 1 (intsA b.reads), vC]]) (by simp)).vwk (p := fun r => decide (S.length + 1 ≤ r)) (fun r hr => by simp at hr ⊢; omega) (by omega) (fun x hx y hy T => by
            obtain ⟨z, _, rfl⟩ := List.mem_map.1 hx
            simp [AV.cells, cmAV] at hy
            rcases hy with rfl | rfl | rfl
            · exact .int _ _
            · exact .int _ _
            · exact .bool _)
          rw [List.append_assoc _ [_] g] at hvC hvM
          refine ACode.view (u' := pickT u [(5, .ptr (σ.length + 1) 0), (8, .pl 3 (M.map cmAV)), (21, .ptr S.length 0), (22, .pl 3 (M.map cmAV))]) _ (View.rows (C' := [.int .i64 b.houses, .int .i64 b.notices, .pl 1 (b.hears.map rowsI), .pl 1 (intsA b.reads), .pl 3 (b.cries.map crAV)]) (by simp) (fun k x y hx hy => by
            match k, hx, hy with
            | 0, hx, hy => simp at hx hy; subst hx; subst hy; exact .inl rfl
            | 1, hx, hy => simp at hx hy; subst hx; subst hy; exact .inl rfl
            | 2, hx, hy => simp at hx hy; subst hx; subst hy; exact .inl rfl
            | 3, hx, hy => simp at hx hy; subst hx; subst hy; exact .inl rfl
            | 4, hx, hy => simp only [List.getElem?_cons_succ, List.getElem?_cons_zero, Option.some.injEq] at hx hy; subst hx; subst hy; exact hvC
            | k + 5, hx, hy => simp at hx)) (awp_sound _ ?_) (pickT_len _ _) (pickT_vw (by
              simp only [List.mem_cons, List.not_mem_nil, or_false]
              rintro p (rfl | rfl | rfl | rfl) <;> dsimp only <;> first | (rw [g5]; exact .inl rfl) | (rw [g8]; exact .inl rfl) | (rw [g21]; exact .inl rfl) | (rw [g22]; exact hvM)))
          have hl3 := (pickT_len u [(5, .ptr (σ.length + 1) 0), (8, .pl 3 (M.map cmAV)), (21, .ptr S.length 0), (22, .pl 3 (M.map cmAV))]).trans hl
          obtain ⟨k5, k8, k21, k22⟩ := pick4 (u := u) (x := .ptr (σ.length + 1) 0) (y := .pl 3 (M.map cmAV)) (z := .ptr S.length 0) (w := .pl 3 (M.map cmAV)) (by omega)
          obtain ⟨u', hu'⟩ : ∃ x, pickT u [(5, .ptr (σ.length + 1) 0), (8, .pl 3 (M.map cmAV)), (21, .ptr S.length 0), (22, .pl 3 (M.map cmAV))] = x := ⟨_, rfl⟩
          rw [hu'] at hl3 k5 k8 k21 k22 ⊢
          have hbcc : [AV.int .i64 b.houses, .int .i64 b.notices, .pl 1 (b.hears.map rowsI), .pl 1 (intsA b.reads), .pl 3 (b.cries.map crAV)] = bc := hbc
          rw [hbcc]
          obtain ⟨T, hT⟩ : ∃ T, S ++ (AObj.cells bc :: g.map fun _ => AObj.dead) = T := ⟨_, rfl⟩
          have hT5 : T[σ.length + 1]? = some (.cells bc) := by rw [← hT, hSx, List.append_assoc]; exact hS1b _
          have hT21 : T[S.length]? = some (.cells bc) := by rw [← hT]; simp
          have hTs : ∃ x, T = σ ++ x := by
            obtain ⟨y, hy⟩ := hS1s
            exact ⟨_, by rw [← hT, hSx, hy, List.append_assoc, List.append_assoc]⟩
          rw [hT]
          obtain ⟨real, hfit⟩ := hbf.fits
          have hne := endB_ne ok hfit
          have cV := bk_verdicts_calls b ok hne
          have cF := bk_fewest_calls b ok hne M hM (by omega)
          rw [hbca] at cV cF
          obtain ⟨VV, hVV⟩ : ∃ VV, AV.pl 1 ((verdB (endB b) b.houses.toNat b.notices.toNat).map rowAV) = VV := ⟨_, rfl⟩
          have cR : APure Tryz.prog 56 [VV, VV] (.bool true) := by
            rw [← hVV]
            have := ok.houses
            have := ok.notices
            exact bk_likeR_calls (verdB (endB b) b.houses.toNat b.notices.toNat) (by simp [verdB]; omega) (fun r hr => by
              unfold verdB at hr
              obtain ⟨z, _, rfl⟩ := List.mem_map.1 hr
              simp; omega)
          rw [hVV] at cV
          simp [-aappend, cut2s, cut2z, hl3, k5, k8, k21, k22, hT5, hT21, hbl, hbt]
          refine cV.use ?_
          simp [-aappend, hl3, k5, k8, k21, k22, hT5, hT21, hbl, hbt]
          refine cV.use ?_
          simp [-aappend, hl3, k5, k8, k21, k22, hT5, hT21, hbl, hbt]
          refine APure.use (v := .tup [.pl 1 ((fewB M (endB b)).map fun x => AV.int .i64 x), .int .i64 0]) cF ?_
          simp [-aappend, hl3, k5, k8, k21, k22, hT5, hT21, hbl, hbt]
          refine APure.use (v := .tup [.pl 1 ((fewB M (endB b)).map fun x => AV.int .i64 x), .int .i64 0]) cF ?_
          simp [-aappend, hl3, k5, k8, k21, k22, hT5, hT21, hbl, hbt, hg4]
          refine (bk_likeC_calls b.cries (by omega)).use ?_
          simp [-aappend, hl3, k5, k8, k21, k22, hT5, hT21, hbl, hbt]
          refine (bk_likeM_calls M (by omega)).use ?_
          simp [-aappend, hl3, k5, k8, k21, k22, hT5, hT21, hbl, hbt]
          refine cR.use ?_
          simp [-aappend, hl3, k5, k8, k21, k22, hT5, hT21, hbl, hbt]
          refine (bk_likeI_calls (fewB M (endB b)) (by have := fewB_le M (endB b); omega)).use ?_
          simp [-aappend, hl3, k5, k8, k21, k22, hT5, hT21, hbl, hbt]
          refine awake_calls.use ?_
          simp [-aappend, hl3, k5, k8, k21, k22, hT5, hT21, hbl, hbt]
          exact hTs
        · simp [-aappend, cut2s, cut2z, hl3, k5, k8, k9]
          refine (print_calls F ffew).use ?_
          rw [hpc]
          simp [-aappend, hl3, k5, k8, k9]
          refine (parse_calls (Oyez.print F) (by omega)).use ?_
          rw [hpp]
          simp [-aappend, hl3, k5, k8, k9, parsedAV, hS1b, hbl, hbt]
          rw [← hbca]
          refine (bk_own_calls b ok).use ?_
          have hbx : bkAV b = .agg [.int .i64 b.houses, .int .i64 b.notices, .pl 1 (b.hears.map rowsI), .pl 1 (intsA b.reads), .pl 3 (b.cries.map crAV)] := rfl
          rw [hbx]
          obtain ⟨S, hS⟩ : ∃ S, S1 ++ dd = S := ⟨_, rfl⟩
          have hS1x : ∃ x, S = S1 ++ x := ⟨_, hS.symm⟩
          rw [hS]
          simp [-aappend, hl3, k5, k8, k9]
          have hSc : ∀ (c : AObj) (X : Heap), (S ++ c :: X)[S.length]? = some c := fun c X => by simp
          have hSs : ∀ (c Y : AObj) (X : Heap), (S ++ c :: X).set S.length Y = S ++ Y :: X := fun c Y X => by simp
          have e9 : fileAV F = .pl 3 (F.map recAV) := rfl
          refine ACode_loopT (LwD S (σ.length + 1) b M) (fun env _ => match tg env.t 136 with | .int _ i => b.cries.length + M.length - i.toNat | _ => 0) ⟨_, 0, .nils, .nils, [], none, none, rfl, by simp [hl3], by simp [hl3, k5], by simp [hl3, k8], by simp [hl3], by simp [hl3], by simp [hl3, hF], by simp [hl3, hFl], by simp [hl3], by omega, by simp, Acc.nil _ _ _, by simpa using Acc.nil _ _ _, by simp, fun _ => ⟨rfl, rfl⟩⟩ ?_
          clear hl3 k5 k8 k9 u'
          rintro env _ ⟨u, i, vC, vM, g, oC, oM, rfl, hl, g5, g8, g21, g22, g134, g135, g136, hi, rfl, hAC, hAM, hoo, hnM⟩
          rw [hF] at g134
          obtain ⟨bcv, hbcv⟩ : ∃ bcv, AObj.cells [.int .i64 b.houses, .int .i64 b.notices, .pl 1 (b.hears.map rowsI), .pl 1 (intsA b.reads), vC] = bcv := ⟨_, rfl⟩
          rw [hbcv]
          obtain ⟨T, hT⟩ : ∃ T, S ++ (bcv :: g) = T := ⟨_, rfl⟩
          have hTc : ∀ Y : Heap, (T ++ Y)[S.length]? = some (.cells [.int .i64 b.houses, .int .i64 b.notices, .pl 1 (b.hears.map rowsI), .pl 1 (intsA b.reads), vC]) := fun Y => by rw [← hT, hbcv]; simp
          have hTs : ∀ (Y : Heap) (Z : AObj), (T ++ Y).set S.length Z = S ++ Z :: (g ++ Y) := fun Y Z => by rw [← hT]; simp
          have hTx : ∀ (x : AObj) (Y : Heap), (T ++ x :: Y)[T.length]? = some x := fun x Y => by simp
          have hTl : T.length = S.length + 1 + g.length := by rw [← hT]; simp; omega
          rw [hT]
          obtain ⟨nn, hnn⟩ : ∃ nn, b.cries.length + M.length = nn := ⟨_, rfl⟩
          rw [hnn] at g135 hi hFl
          rw [hnn]
          rcases Nat.lt_or_ge i nn with hlt | hge
          · have hlt' : (i : Int) < (nn : Int) := by omega
            have hx := w64 (n := (i : Int) + 1) (by omega) (by omega)
            have hiF : i < F.length := by omega
            rcases Nat.lt_or_ge i b.cries.length with hc | hc
            · obtain ⟨rfl, rfl⟩ := hnM (by omega)
              obtain ⟨c, hce⟩ : ∃ c, b.cries[i] = c := ⟨_, rfl⟩
              have hs := hsc c (hce ▸ List.getElem_mem hc)
              have hFi : F[i] = cryR i c := by
                subst hF
                rw [List.getElem_append_left (by simp [cryRs]; exact hc)]
                simp [cryRs, hce]
              have hra : recAV (cryR i c) = .agg [.int .i64 0, .int .i64 i, .pl 1 [.str (Lib.itoa c.hour), .str (Lib.itoa c.stand), .str (Lib.itoa c.notice)]] := rfl
              have a1 := atoi_calls (Lib.itoa c.hour) (by have := (itoa_small hs.1.1 hs.1.2).2.1; omega)
              have a2 := atoi_calls (Lib.itoa c.stand) (by have := (itoa_small hs.2.1.1 hs.2.1.2).2.1; omega)
              have a3 := atoi_calls (Lib.itoa c.notice) (by have := (itoa_small hs.2.2.1 hs.2.2.2).2.1; omega)
              rw [(itoa_small hs.1.1 hs.1.2).2.2] at a1
              rw [(itoa_small hs.2.1.1 hs.2.1.2).2.2] at a2
              rw [(itoa_small hs.2.2.1 hs.2.2.2).2.2] at a3
              obtain ⟨w1, hw1⟩ : ∃ w, Lib.itoa c.hour = w := ⟨_, rfl⟩
              obtain ⟨w2, hw2⟩ : ∃ w, Lib.itoa c.stand = w := ⟨_, rfl⟩
              obtain ⟨w3, hw3⟩ : ∃ w, Lib.itoa c.notice = w := ⟨_, rfl⟩
              rw [hw1] at a1 hra
              rw [hw2] at a2 hra
              rw [hw3] at a3 hra
              simp (config := { maxSteps := 3000000 }) [-aappend, -fileAV, -recAV, hl, g5, g8, g21, g22, g134, e9, g135, g136, hlt', hlt, hiF, hFi, hra, hTx]
              refine a1.use ?_
              simp (config := { maxSteps := 3000000 }) [-aappend, hl, g5, g8, g21, g22, g134, g135, g136, hTx]
              refine a2.use ?_
              simp (config := { maxSteps := 3000000 }) [-aappend, hl, g5, g8, g21, g22, g134, g135, g136, hTx]
              refine a3.use ?_
              obtain ⟨v', g', jo, he, hB', hv'⟩ := appC2 ((hAC.base (σ' := S ++ [bcv]) (by simp)).more [AObj.cells [AV.int IntKind.i64 0, AV.int IntKind.i64 i, AV.pl 1 [AV.str w1, AV.str w2, AV.str w3]]]) c (by simp; omega)
              simp (config := { maxSteps := 3000000 }) [-aappend, hl, g5, g8, g21, g22, g134, g135, g136, hTx, hTc, hx]
              have he' : aappend Tryz.prog #[98, 98] vC (.arr 3 (T.length + 1) 0 1) (T ++ [AObj.cells [AV.int IntKind.i64 0, AV.int IntKind.i64 i, AV.pl 1 [AV.str w1, AV.str w2, AV.str w3]], AObj.cells [AV.int IntKind.i64 c.hour, AV.int IntKind.i64 c.stand, AV.int IntKind.i64 c.notice]]) = some (v', S ++ bcv :: g') := by
                have e1 : (S ++ [bcv]).length + (g ++ [AObj.cells [AV.int IntKind.i64 0, AV.int IntKind.i64 i, AV.pl 1 [AV.str w1, AV.str w2, AV.str w3]]]).length = T.length + 1 := by rw [hTl]; simp; omega
                have e2 : (S ++ [bcv]) ++ ((g ++ [AObj.cells [AV.int IntKind.i64 0, AV.int IntKind.i64 i, AV.pl 1 [AV.str w1, AV.str w2, AV.str w3]]]) ++ [AObj.cells [AV.int IntKind.i64 c.hour, AV.int IntKind.i64 c.stand, AV.int IntKind.i64 c.notice]]) = T ++ [AObj.cells [AV.int IntKind.i64 0, AV.int IntKind.i64 i, AV.pl 1 [AV.str w1, AV.str w2, AV.str w3]], AObj.cells [AV.int IntKind.i64 c.hour, AV.int IntKind.i64 c.stand, AV.int IntKind.i64 c.notice]] := by rw [← hT]; simp
                have e3 : (S ++ [bcv]) ++ g' = S ++ bcv :: g' := by simp
                rw [e1, e2, e3] at he
                exact he
              have hSb2 : ∀ X : Heap, (S ++ bcv :: X)[S.length]? = some (.cells [.int .i64 b.houses, .int .i64 b.notices, .pl 1 (b.hears.map rowsI), .pl 1 (intsA b.reads), vC]) := fun X => by rw [hbcv]; simp
              have hSs2 : ∀ (X : Heap) (Z : AObj), (S ++ bcv :: X).set S.length Z = S ++ Z :: X := fun X Z => by simp
              have hvv : v' = .arr 3 (S.length + 1 + jo) 0 (i + 1) := by rw [hv']; simp; omega
              subst hvv
              rw [he', Om_some, ← hbcv]
              simp (config := { maxSteps := 3000000 }) [-aappend, hl, hx, g136]
              have htk : b.cries.take (i + 1) = b.cries.take i ++ [c] := by rw [List.take_succ_eq_append_getElem hc, hce]
              exact ⟨⟨_, i + 1, .arr 3 (S.length + 1 + jo) 0 (i + 1), .nils, g', some jo, none, rfl, by simp [hl], by simp [hl, g5], by simp [hl, g8], by simp [hl, g21], by simp [hl, g22], by simp [hl, g134, hF], by simp [hl, g135, hnn], by simp [hl], by omega, rfl, by rw [htk]; exact hB'.base (by simp), by rw [show i + 1 - b.cries.length = 0 by omega]; exact Acc.nil _ _ _, by simp, fun _ => ⟨rfl, rfl⟩⟩, by omega⟩
            · have hk : i - b.cries.length < M.length := by omega
              obtain ⟨k, hke⟩ : ∃ k, i - b.cries.length = k := ⟨_, rfl⟩
              rw [hke] at hk hAM
              obtain ⟨c, hce⟩ : ∃ c, M[k] = c := ⟨_, rfl⟩
              have hs := hsm c (hce ▸ List.getElem_mem hk)
              have hFi : F[i] = pleaR k c := by
                subst hF
                rw [List.getElem_append_right (by simp [cryRs]; omega)]
                simp [cryRs, pleaRs, hke, hce]
              have hra : recAV (pleaR k c) = .agg [.int .i64 4, .int .i64 k, .pl 1 [.str (Lib.itoa c.house), .str (Lib.itoa c.notice), .str (saidW c.heard)]] := rfl
              have a1 := atoi_calls (Lib.itoa c.house) (by have := (itoa_small hs.1.1 hs.1.2).2.1; omega)
              have a2 := atoi_calls (Lib.itoa c.notice) (by have := (itoa_small hs.2.1 hs.2.2).2.1; omega)
              rw [(itoa_small hs.1.1 hs.1.2).2.2] at a1
              rw [(itoa_small hs.2.1 hs.2.2).2.2] at a2
              have hsd := (saidW_in c.heard).2
              obtain ⟨w1, hw1⟩ : ∃ w, Lib.itoa c.house = w := ⟨_, rfl⟩
              obtain ⟨w2, hw2⟩ : ∃ w, Lib.itoa c.notice = w := ⟨_, rfl⟩
              obtain ⟨w3, hw3⟩ : ∃ w, saidW c.heard = w := ⟨_, rfl⟩
              rw [hw1] at a1 hra
              rw [hw2] at a2 hra
              rw [hw3] at hra hsd
              simp (config := { maxSteps := 3000000 }) [-aappend, -fileAV, -recAV, hl, g5, g8, g21, g22, g134, e9, g135, g136, hlt', hlt, hiF, hFi, hra, hTx]
              refine a1.use ?_
              simp (config := { maxSteps := 3000000 }) [-aappend, hl, g5, g8, g21, g22, g134, g135, g136, hTx]
              refine a2.use ?_
              obtain ⟨v', g', jo, he, hB', hv', hkp, hoj⟩ := appM2 ((hAM.base (σ' := S ++ [bcv]) (by simp)).more [AObj.cells [AV.int IntKind.i64 4, AV.int IntKind.i64 k, AV.pl 1 [AV.str w1, AV.str w2, AV.str w3]]]) c (by simp; omega)
              simp (config := { maxSteps := 3000000 }) [-aappend, hl, g5, g8, g21, g22, g134, g135, g136, hTx, hTc, hx, hsd]
              have he' : aappend Tryz.prog #[118, 118] vM (.arr 3 (T.length + 1) 0 1) (T ++ [AObj.cells [AV.int IntKind.i64 4, AV.int IntKind.i64 k, AV.pl 1 [AV.str w1, AV.str w2, AV.str w3]], AObj.cells [AV.int IntKind.i64 c.house, AV.int IntKind.i64 c.notice, AV.bool c.heard]]) = some (v', S ++ bcv :: g') := by
                have e1 : (S ++ [bcv]).length + (g ++ [AObj.cells [AV.int IntKind.i64 4, AV.int IntKind.i64 k, AV.pl 1 [AV.str w1, AV.str w2, AV.str w3]]]).length = T.length + 1 := by rw [hTl]; simp; omega
                have e2 : (S ++ [bcv]) ++ ((g ++ [AObj.cells [AV.int IntKind.i64 4, AV.int IntKind.i64 k, AV.pl 1 [AV.str w1, AV.str w2, AV.str w3]]]) ++ [AObj.cells [AV.int IntKind.i64 c.house, AV.int IntKind.i64 c.notice, AV.bool c.heard]]) = T ++ [AObj.cells [AV.int IntKind.i64 4, AV.int IntKind.i64 k, AV.pl 1 [AV.str w1, AV.str w2, AV.str w3]], AObj.cells [AV.int IntKind.i64 c.house, AV.int IntKind.i64 c.notice, AV.bool c.heard]] := by rw [← hT]; simp
                have e3 : (S ++ [bcv]) ++ g' = S ++ bcv :: g' := by simp
                rw [e1, e2, e3] at he
                exact he
              rw [he', Om_some]
              have htk : M.take (k + 1) = M.take k ++ [c] := by rw [List.take_succ_eq_append_getElem hk, hce]
              have hcl1 : b.cries.take i = b.cries := List.take_of_length_le (by omega)
              have hcl2 : b.cries.take (i + 1) = b.cries := List.take_of_length_le (by omega)
              have hACk := (hAC.more [AObj.cells [AV.int IntKind.i64 4, AV.int IntKind.i64 k, AV.pl 1 [AV.str w1, AV.str w2, AV.str w3]]]).kept hkp hoo
              have hoC : ∀ j, oC = some j → j < g.length := fun j e => by
                have := hAC.val
                rw [e] at this
                exact (List.getElem?_eq_some_iff.1 this.2).1
              exact ⟨⟨_, i + 1, vC, v', g', oC, some jo, rfl, by simp [hl], by simp [hl, g5], by simp [hl, g8], by simp [hl, g21], by simp [hl], by simp [hl, g134, hF], by simp [hl, g135, hnn], by simp [hl], by omega, by rw [hbcv], by rw [hcl2]; rw [hcl1] at hACk; exact hACk, by rw [show i + 1 - b.cries.length = k + 1 by omega, htk]; exact hB'.base (by simp), fun j e => by
                rcases hoj with h | h
                · exact hoo j (h ▸ e)
                · intro e2
                  have := hoC j e2
                  simp at e h
                  omega, fun h => absurd h (by omega)⟩, by omega⟩
          · obtain rfl : i = nn := by omega
            rw [List.take_of_length_le (by omega)] at hAC
            rw [show i - b.cries.length = M.length by omega, List.take_length] at hAM
            simp [-aappend, hl, g5, g8, g21, g22, g134, g135, g136]
            exact ⟨S, hS1x, _, vC, vM, g, oC, oM, rfl, by simp [hl], by simp [hl, g5], by simp [hl, g8], by simp [hl, g21], by simp [hl, g22], by rw [← hT, ← hbcv], hAC, hAM⟩
      · simp [-aappend, cut2s, cut2z, hl, g5, g8, g9]
        refine ACode_loopT (LwC S1 (σ.length + 1) b M) (fun env _ => match tg env.t 92 with | .int _ i => M.length - i.toNat | _ => 0) ⟨_, 0, v, g, o, rfl, by simp [hl], by simp [hl, g5], by simp [hl, g8], by simp [hl, g9], by simp [hl], by simp [hl], by simp [hl], by omega, rfl, by simpa [pleaRs] using hA⟩ ?_
        clear hl g5 g8 g9 u hA v g o
        rintro env _ ⟨u, i, v, g, o, rfl, hl, g5, g8, g9, g90, g91, g92, hi, rfl, hA⟩
        rcases Nat.lt_or_ge i M.length with hlt | hge
        · have hlt' : (i : Int) < (M.length : Int) := by omega
          have hx := w64 (n := (i : Int) + 1) (by omega) (by omega)
          obtain ⟨c, hce⟩ : ∃ c, M[i] = c := ⟨_, rfl⟩
          have hs := hsm c (hce ▸ List.getElem_mem hlt)
          have hca : cmAV c = .agg [.int .i64 c.house, .int .i64 c.notice, .bool c.heard] := rfl
          have htk : pleaRs (M.take (i + 1)) = pleaRs (M.take i) ++ [pleaR i c] := by
            rw [List.take_succ_eq_append_getElem hlt, hce, pleaRs_snoc, List.length_take, Nat.min_eq_left (by omega)]
          have i1 := itoa_calls c.house (by have := hs.1; omega) (by have := hs.1; omega)
          have i2 := itoa_calls c.notice (by have := hs.2; omega) (by have := hs.2; omega)
          obtain ⟨v', g', jo, he, hB', hv'⟩ := appR (hA.more [AObj.cells [AV.int IntKind.i64 c.house, AV.int IntKind.i64 c.notice, AV.bool c.heard]]) (pleaR i c) (by simp [cryRs, pleaRs]; omega)
          have he' : aappend Tryz.prog #[57, 57] v (.pl 3 [.agg [.int .i64 4, .int .i64 i, .pl 1 [.str (Lib.itoa c.house), .str (Lib.itoa c.notice), .str (saidW c.heard)]]]) (S1 ++ (g ++ [AObj.cells [AV.int IntKind.i64 c.house, AV.int IntKind.i64 c.notice, AV.bool c.heard]])) = some (v', S1 ++ g') := he
          obtain ⟨hd, hhd⟩ : ∃ hd, c.heard = hd := ⟨_, rfl⟩
          rw [hhd] at hca he'
          simp [-aappend, hl, g5, g8, g9, g90, g91, g92, hlt', hlt, hce, hca]
          cases hd with
          | true =>
            simp [-aappend, hl, g5, g8, g9, g90, g91, g92, hlt', hlt, hce, hca]
            refine ACode_drawL [12] [] mixed (by kernel_rfl) (by kernel_rfl) ?_
            simp [-aappend, hl, g5, g8, g9, g90, g91, g92, hlt', hlt, hce, hca]
            refine Ou_use0 i1 ?_
            try simp [-aappend, hl, g5, g8, g9, g90, g91, g92, hlt', hlt, hce, hca]
            refine Ou_use0 i2 ?_
            simp [-aappend, hl, g5, g8, g9, g90, g91, g92, hlt', hlt, hce, hca, hx]
            simp only [saidW, if_true] at he'
            rw [he', Om_some]
            exact ⟨⟨_, i + 1, v', g', some jo, rfl, by simp [hl], by simp [hl, g5], by simp [hl, g8], by simp [hl], by simp [hl, g90], by simp [hl, g91], by simp [hl], hlt, rfl, by rw [htk, ← List.append_assoc]; exact hB'⟩, by omega⟩
          | false =>
            simp [-aappend, hl, g5, g8, g9, g90, g91, g92, hlt', hlt, hce, hca]
            refine ACode_drawL [12] [] mixed (by kernel_rfl) (by kernel_rfl) ?_
            simp [-aappend, hl, g5, g8, g9, g90, g91, g92, hlt', hlt, hce, hca]
            refine Ou_use0 i1 ?_
            try simp [-aappend, hl, g5, g8, g9, g90, g91, g92, hlt', hlt, hce, hca]
            refine Ou_use0 i2 ?_
            simp [-aappend, hl, g5, g8, g9, g90, g91, g92, hlt', hlt, hce, hca, hx]
            have he2 : aappend Tryz.prog #[57, 57] v (.pl 3 [.agg [.int .i64 4, .int .i64 i, .pl 1 [.str (Lib.itoa c.house), .str (Lib.itoa c.notice), .str [110, 111, 116]]]]) (S1 ++ (g ++ [AObj.cells [AV.int IntKind.i64 c.house, AV.int IntKind.i64 c.notice, AV.bool false]])) = some (v', S1 ++ g') := he'
            rw [he2, Om_some]
            exact ⟨⟨_, i + 1, v', g', some jo, rfl, by simp [hl], by simp [hl, g5], by simp [hl, g8], by simp [hl], by simp [hl, g90], by simp [hl, g91], by simp [hl], hlt, rfl, by rw [htk, ← List.append_assoc]; exact hB'⟩, by omega⟩
        · obtain rfl : i = M.length := by omega
          simp [-aappend, hl, g5, g8, g9, g90, g91, g92]
          rw [List.take_length] at hA
          exact ⟨_, v, g, o, rfl, by simp [hl], by simp [hl, g5], by simp [hl, g8], by simp [hl, g9], rfl, hA⟩
    · simp [-aappend, cut2s, cut2z, hl3, k5, k8]
      have hS1b0 := hS1b []
      rw [List.append_nil] at hS1b0
      simp [-aappend, hl3, k5, k8, hS1b0, hbl, hg4]
      refine ACode_loopT (LwB S1 (σ.length + 1) b M) (fun env _ => match tg env.t 69 with | .int _ i => b.cries.length - i.toNat | _ => 0) ⟨_, 0, .nils, [], none, rfl, by simp [hl3], by simp [hl3, k5], by simp [hl3, k8], by simp [hl3], by simp [hl3], by simp [hl3], by simp [hl3], by omega, by simp, Acc.nil _ _ _⟩ ?_
      clear hl3 k5 k8 u'
      rintro env _ ⟨u, i, v, g, o, rfl, hl, g5, g8, g9, g67, g68, g69, hi, rfl, hA⟩
      rcases Nat.lt_or_ge i b.cries.length with hlt | hge
      · have hlt' : (i : Int) < (b.cries.length : Int) := by omega
        have hx := w64 (n := (i : Int) + 1) (by omega) (by omega)
        obtain ⟨c, hce⟩ : ∃ c, b.cries[i] = c := ⟨_, rfl⟩
        have hs := hsc c (hce ▸ List.getElem_mem hlt)
        have hca : crAV c = .agg [.int .i64 c.hour, .int .i64 c.stand, .int .i64 c.notice] := rfl
        have htk : cryRs (b.cries.take (i + 1)) = cryRs (b.cries.take i) ++ [cryR i c] := by
          rw [List.take_succ_eq_append_getElem hlt, hce, cryRs_snoc, List.length_take, Nat.min_eq_left (by omega)]
        have i1 := itoa_calls c.hour (by have := hs.1; omega) (by have := hs.1; omega)
        have i2 := itoa_calls c.stand (by have := hs.2.1; omega) (by have := hs.2.1; omega)
        have i3 := itoa_calls c.notice (by have := hs.2.2; omega) (by have := hs.2.2; omega)
        simp [-aappend, hl, g5, g8, g9, g67, g68, g69, hlt', hlt, hce, hca]
        refine ACode_drawL [14] [] mixed (by kernel_rfl) (by kernel_rfl) ?_
        simp [-aappend, hl, g5, g8, g9, g67, g68, g69, hlt', hlt, hce, hca]
        refine Ou_use0 i1 ?_
        try simp [-aappend, hl, g5, g8, g9, g67, g68, g69, hlt', hlt, hce, hca]
        refine Ou_use0 i2 ?_
        try simp [-aappend, hl, g5, g8, g9, g67, g68, g69, hlt', hlt, hce, hca]
        refine Ou_use0 i3 ?_
        simp [-aappend, hl, g5, g8, g9, g67, g68, g69, hlt', hlt, hce, hca, hx]
        obtain ⟨v', g', jo, he, hB', hv'⟩ := appR (hA.more [AObj.cells [AV.int IntKind.i64 c.hour, AV.int IntKind.i64 c.stand, AV.int IntKind.i64 c.notice]]) (cryR i c) (by simp [cryRs]; omega)
        have he' : aappend Tryz.prog #[57, 57] v (.pl 3 [.agg [.int .i64 0, .int .i64 i, .pl 1 [.str (Lib.itoa c.hour), .str (Lib.itoa c.stand), .str (Lib.itoa c.notice)]]]) (S1 ++ (g ++ [AObj.cells [AV.int IntKind.i64 c.hour, AV.int IntKind.i64 c.stand, AV.int IntKind.i64 c.notice]])) = some (v', S1 ++ g') := he
        rw [he', Om_some]
        exact ⟨⟨_, i + 1, v', g', some jo, rfl, by simp [hl], by simp [hl, g5], by simp [hl, g8], by simp [hl], by simp [hl, g67], by simp [hl, g68], by simp [hl], hlt, rfl, by rw [htk]; exact hB'⟩, by omega⟩
      · obtain rfl : i = b.cries.length := by omega
        simp [-aappend, hl, g5, g8, g9, g67, g68, g69]
        rw [List.take_length] at hA
        exact ⟨_, v, g, o, rfl, by simp [hl], by simp [hl, g5], by simp [hl, g8], by simp [hl, g9], rfl, hA⟩
end Ab
