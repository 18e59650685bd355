/-
  The book: an own copy.
-/
import Derived.Test.YtcoikmapjepdjaaGreatDoorC24
import Derived.Test.YtcoikmapjepdjaaGreatDoorC27
set_option linter.unusedSimpArgs false
set_option linter.unusedVariables false
set_option linter.unusedSectionVars false
namespace Ab
open Go Go.RowKit Go.Proofs
/-- a row of single cells, as it is seen once it is whole -/
theorem fz_cells1 {n : Nat} {σ : Heap} {r : Nat} {cs : List AV} (hn : n ≤ r) (hr : σ[r]? = some (.cells cs)) (h1 : ∀ y ∈ cs, y.one = true ∧ y.cells = [y] ∧ Fz n σ y y) : Fz n σ (.arr 1 r 0 cs.length) (.pl 1 cs) := by
  refine .arr 1 _ 0 cs cs (fun i _ => (cs[i]?).getD .any) hn hr (fun i x hx => ?_) fun i x hx j y hy => ?_
  · obtain ⟨h1, h2, h3⟩ := h1 x (List.mem_of_getElem? hx)
    refine ⟨by rw [h2]; rfl, fun j y hy => ?_⟩
    rw [h2] at hy
    cases j with
    | zero =>
      simp at hy
      subst hy
      exact ⟨h1, by rw [show (0 + i) * 1 + 0 = i by omega, hx]; rfl⟩
    | succ j => simp at hy
  · obtain ⟨h1, h2, h3⟩ := h1 x (List.mem_of_getElem? hx)
    rw [h2] at hy
    cases j with
    | zero =>
      simp at hy
      subst hy
      rw [hx]
      exact h3
    | succ j => simp at hy
def rowI (l : List Int) : AV := .pl 1 (l.map fun x => AV.int .i64 x)
theorem fz_rowI (n : Nat) (S : Heap) (r : List Int) : Fz n S (rowI r) (rowI r) := .pl 1 _ fun i x hx j y hy => by
  obtain ⟨z, _, rfl⟩ := List.mem_map.1 (List.mem_of_getElem? hx)
  cases j with
  | zero => simp [AV.cells] at hy; subst hy; exact .int _ _
  | succ j => simp [AV.cells] at hy
def rowsI (l : List (List Int)) : AV := .pl 1 (l.map rowI)
theorem fz_rowsI (n : Nat) (S : Heap) (r : List (List Int)) : Fz n S (rowsI r) (rowsI r) := .pl 1 _ fun i x hx j y hy => by
  obtain ⟨z, _, rfl⟩ := List.mem_map.1 (List.mem_of_getElem? hx)
  cases j with
  | zero => simp [AV.cells, rowI] at hy; subst hy; exact fz_rowI _ _ _
  | succ j => simp [AV.cells, rowI] at hy
def crAV (x : Cr) : AV := .agg [.int .i64 x.hour, .int .i64 x.stand, .int .i64 x.notice]
theorem fz_cries (n : Nat) (S : Heap) (r : List Cr) : Fz n S (.pl 3 (r.map crAV)) (.pl 3 (r.map crAV)) := .pl 3 _ fun i x hx j y hy => by
  obtain ⟨z, _, rfl⟩ := List.mem_map.1 (List.mem_of_getElem? hx)
  match j, hy with
  | 0, hy => simp [AV.cells, crAV] at hy; subst hy; exact .int _ _
  | 1, hy => simp [AV.cells, crAV] at hy; subst hy; exact .int _ _
  | 2, hy => simp [AV.cells, crAV] at hy; subst hy; exact .int _ _
  | j + 3, hy => simp [AV.cells, crAV] at hy
attribute [local irreducible] aws awp aw1 Og Om Oc Oa Ogd Ov Ot awd aw1d awh aw1h Ogh Ohd awl Ogl Ohl awv Ogv Ohv QThen QBlock QFn QFnM QRo QBe ACode AYield
theorem bk_copyI_calls (l : List Int) (hl : l.length ≤ 2 ^ 30) : APure Tryz.prog 10 [rowI l] (rowI l) := by
  refine APure.of fun σ => ?_
  refine acalls_fn Tryz.func10 rfl (enters_fn Tryz.func10 (by decide) rfl) ?_
  have h1 : (l.length : Int) * 8 ≤ 281474976710656 := by omega
  have h2 : (l.length : Int) ≤ 9223372036854775807 := by omega
  simp [Tryz.ntmps10, h1, h2, rowI]
  rw [sum_const l 1]
  case h => exact fun _ => rfl
  rw [Nat.mul_one, Nat.sub_self, List.replicate_zero, List.append_nil]
  have := fz_row (σ := σ) (g := []) (k := 1) (l.map fun x => AV.int .i64 x) (fun x hx => by obtain ⟨b, _, rfl⟩ := List.mem_map.1 hx; exact ⟨rfl, by simp [AV.cells, AV.one]⟩) (fun n τ x hx y hy => by
    obtain ⟨b, _, rfl⟩ := List.mem_map.1 hx
    simp [AV.cells] at hy; subst hy; exact .int _ _)
  rwa [List.length_map] at this
theorem bk_copyC_calls (l : List Cr) (hl : l.length ≤ 2 ^ 30) : APure Tryz.prog 133 [.pl 3 (l.map crAV)] (.pl 3 (l.map crAV)) := by
  refine APure.of fun σ => ?_
  refine acalls_fn Tryz.func133 rfl (enters_fn Tryz.func133 (by decide) rfl) ?_
  have h1 : (l.length : Int) * 24 ≤ 281474976710656 := by omega
  have h2 : (l.length : Int) ≤ 9223372036854775807 := by omega
  simp [Tryz.ntmps133, h1, h2]
  rw [sum_const l 3]
  case h => exact fun _ => rfl
  rw [List.drop_eq_nil_of_le (by simp), List.append_nil]
  have := fz_row (σ := σ) (g := []) (k := 3) (l.map crAV) (fun x hx => by obtain ⟨b, _, rfl⟩ := List.mem_map.1 hx; exact ⟨rfl, by simp [AV.cells, AV.one, crAV]⟩) (fun n τ x hx y hy => by
    obtain ⟨b, _, rfl⟩ := List.mem_map.1 hx
    simp [AV.cells, crAV] at hy
    rcases hy with rfl | rfl | rfl <;> exact .int _ _)
  rwa [List.length_map] at this
theorem bk_copyRows_calls (l : List (List Int)) (hl : l.length ≤ 2 ^ 30) (hw : ∀ r ∈ l, r.length ≤ 2 ^ 30) : APure Tryz.prog 132 [rowsI l] (rowsI l) := by
  refine APure.of fun σ => ?_
  refine acalls_fn Tryz.func132 rfl (enters_fn Tryz.func132 (by decide) rfl) ?_
  have h1 : (l.length : Int) * 24 ≤ 281474976710656 := by omega
  have h2 : (l.length : Int) ≤ 9223372036854775807 := by omega
  simp [Tryz.ntmps132, h1, h2, rowsI]
  refine ACode_loopT (fun env σ' => ∃ (u : List AV) (i : Nat), env = { t := u } ∧ u.length = 23 ∧ tg u 3 = .arr 1 σ.length 0 l.length ∧ tg u 9 = rowsI l ∧ tg u 10 = .int .i64 l.length ∧ tg u 11 = .int .i64 i ∧ σ' = σ ++ [.cells ((l.take i).map rowI ++ List.replicate (l.length - i) .nils)] ∧ i ≤ l.length)
    (fun env _ => match tg env.t 11 with | .int _ i => l.length - i.toNat | _ => 0) ⟨_, 0, rfl, by simp, by simp, by simp [rowsI], by simp, by simp, by simp, by omega⟩ ?_
  rintro env _ ⟨u, i, rfl, hl2, g3, g9, g10, g11, rfl, hi⟩
  rcases Nat.lt_or_ge i l.length with hlt | hge
  · have hlt' : (i : Int) < (l.length : Int) := by omega
    have hx := w64 (n := (i : Int) + 1) (by omega) (by omega)
    obtain ⟨r, hr⟩ : ∃ r, l[i] = r := ⟨_, rfl⟩
    have hrl := hw r (hr ▸ List.getElem_mem hlt)
    have hc := bk_copyI_calls r hrl
    obtain ⟨rs, hrs⟩ : ∃ rs, l.map rowI = rs := ⟨_, rfl⟩
    have hrsl : rs.length = l.length := by rw [← hrs]; simp
    have hri : rs[i]'(by omega) = rowI r := by simp [← hrs, hr]
    have hset : List.take i (rs.take i ++ List.replicate (l.length - i) AV.nils) ++ rowI r :: List.drop (i + 1) (rs.take i ++ List.replicate (l.length - i) AV.nils) = rs.take (i + 1) ++ List.replicate (l.length - (i + 1)) AV.nils := by
      have e1 : (rs.take i).length = i := by simp; omega
      rw [List.take_append_of_le_length (by omega), List.take_of_length_le (by omega), List.drop_append, List.drop_eq_nil_of_le (by omega), e1, List.nil_append, List.take_succ_eq_append_getElem (by omega), List.append_assoc, hri]
      rw [show i + 1 - i = 1 by omega, List.drop_replicate, show l.length - i - 1 = l.length - (i + 1) by omega]
      rfl
    unfold rowsI at g9
    rw [List.map_take, hrs]
    rw [hrs] at g9
    have hrc : AV.cells (rowI r) = [rowI r] := rfl
    have hl1 : (rs.take i ++ List.replicate (l.length - i) AV.nils).length = l.length := by simp; omega
    obtain ⟨C, hC⟩ : ∃ C, rs.take i ++ List.replicate (l.length - i) AV.nils = C := ⟨_, rfl⟩
    rw [hC] at hset hl1 ⊢
    unfold rowI at hc hri hset
    simp [hl2, g3, g9, g10, g11, hlt', hlt, hrsl, hri]
    refine hc.use ?_
    have hlt1 : i + 1 ≤ l.length := hlt
    simp [hl2, g3, g9, g10, g11, hlt', hlt, hrsl, hri, hl1, hlt1, hx]
    exact ⟨⟨by rw [← hrs]; rfl, i + 1, by simp, by rw [hset, hrs], hlt⟩, by omega⟩
  · obtain rfl : i = l.length := by omega
    simp [hl2, g3, g9, g10, g11]
    have := fz_cells1 (n := σ.length) (σ := σ ++ [AObj.cells (l.map rowI)]) (r := σ.length) (cs := l.map rowI) (Nat.le_refl _) (by simp) (fun y hy => by obtain ⟨z, _, rfl⟩ := List.mem_map.1 hy; exact ⟨rfl, rfl, fz_rowI _ _ _⟩)
    rwa [List.length_map] at this
set_option maxHeartbeats 2000000 in
theorem bk_own_calls (b : Bk) (ok : b.Ok) : APure Tryz.prog 52 [bkAV b] (bkAV b) := by
  refine APure.of fun σ => ?_
  have hh := ok.hears
  have hr := ok.reads
  have hc := ok.cries
  have hlist := ok.listed
  have hwind := ok.winds
  have hb : bkAV b = .agg [.int .i64 b.houses, .int .i64 b.notices, .pl 1 (b.hears.map rowsI), .pl 1 (b.reads.map fun x => AV.int .i64 x), .pl 3 (b.cries.map crAV)] := rfl
  rw [hb]
  have c1 := bk_copyI_calls b.reads (by omega)
  have c2 := bk_copyC_calls b.cries (by omega)
  unfold rowI at c1
  refine acalls_fn Tryz.func52 rfl (enters_fn Tryz.func52 (by decide) rfl) ?_
  have h1 : (b.hears.length : Int) * 24 ≤ 281474976710656 := by omega
  have h2 : (b.hears.length : Int) ≤ 9223372036854775807 := by omega
  simp [Tryz.ntmps52, h1, h2]
  obtain ⟨rs, hrs⟩ : ∃ rs, b.hears.map rowsI = rs := ⟨_, rfl⟩
  have hrsl : rs.length = b.hears.length := by rw [← hrs]; simp
  rw [hrs]
  refine ACode_loopT (fun env σ' => ∃ (u : List AV) (i : Nat), env = { t := u } ∧ u.length = 35 ∧ tg u 1 = .ptr σ.length 0 ∧ tg u 2 = .ptr (σ.length + 1) 0 ∧ tg u 3 = .arr 1 (σ.length + 2) 0 b.hears.length ∧ tg u 11 = .pl 1 rs ∧ tg u 12 = .int .i64 b.hears.length ∧ tg u 13 = .int .i64 i ∧
      σ' = σ ++ [.cells [.int .i64 b.houses, .int .i64 b.notices, .pl 1 rs, .pl 1 (b.reads.map fun x => AV.int .i64 x), .pl 3 (b.cries.map crAV)], .cells [.int .i64 0, .int .i64 0, .nils, .nils, .nils], .cells (rs.take i ++ List.replicate (b.hears.length - i) .nils)] ∧ i ≤ b.hears.length)
    (fun env _ => match tg env.t 13 with | .int _ i => b.hears.length - i.toNat | _ => 0) ⟨_, 0, rfl, by simp, by simp, by simp, by simp, by simp, by simp, by simp, by simp, by omega⟩ ?_
  rintro env _ ⟨u, i, rfl, hl2, g1, g2, g3, g11, g12, g13, rfl, hi⟩
  rcases Nat.lt_or_ge i b.hears.length with hlt | hge
  · have hlt' : (i : Int) < (b.hears.length : Int) := by omega
    have hx := w64 (n := (i : Int) + 1) (by omega) (by omega)
    obtain ⟨r, hr⟩ : ∃ r, b.hears[i] = r := ⟨_, rfl⟩
    have hrm : r ∈ b.hears := hr ▸ List.getElem_mem hlt
    have hc := bk_copyRows_calls r (by rw [hwind r hrm]; decide) (fun x hx => by have := (hlist r hrm x hx).2; omega)
    have hri : rs[i]'(by omega) = rowsI r := by simp [← hrs, hr]
    have hset : List.take i (rs.take i ++ List.replicate (b.hears.length - i) AV.nils) ++ rowsI r :: List.drop (i + 1) (rs.take i ++ List.replicate (b.hears.length - i) AV.nils) = rs.take (i + 1) ++ List.replicate (b.hears.length - (i + 1)) AV.nils := by
      have e1 : (rs.take i).length = i := by simp; omega
      rw [List.take_append_of_le_length (by omega), List.take_of_length_le (by omega), List.drop_append, List.drop_eq_nil_of_le (by omega), e1, List.nil_append, List.take_succ_eq_append_getElem (by omega), List.append_assoc, hri]
      rw [show i + 1 - i = 1 by omega, List.drop_replicate, show b.hears.length - i - 1 = b.hears.length - (i + 1) by omega]
      rfl
    have hl1 : (rs.take i ++ List.replicate (b.hears.length - i) AV.nils).length = b.hears.length := by simp; omega
    obtain ⟨C, hC⟩ : ∃ C, rs.take i ++ List.replicate (b.hears.length - i) AV.nils = C := ⟨_, rfl⟩
    rw [hC] at hset hl1 ⊢
    unfold rowsI at hc hri hset
    have hlt1 : i + 1 ≤ b.hears.length := hlt
    simp [hl2, g1, g2, g3, g11, g12, g13, hlt', hlt, hrsl, hri]
    refine hc.use ?_
    simp [hl2, g1, g2, g3, g11, g12, g13, hlt', hlt, hrsl, hri, hl1, hlt1, hx]
    exact ⟨⟨i + 1, by simp, hset, hlt⟩, by omega⟩
  · obtain rfl : i = b.hears.length := by omega
    have htk : rs.take b.hears.length = rs := List.take_of_length_le (by omega)
    simp [hl2, g1, g2, g3, g11, g12, g13, htk]
    refine ACode_drawL [8, 10, 12] [] mixed (by kernel_rfl) (by kernel_rfl) ?_
    simp [hl2, g1, g2, g3, g11, g12, g13]
    refine Ou_use0 c1 ?_
    try simp [hl2, g1, g2, g3, g11, g12, g13]
    refine Ou_use0 c2 ?_
    simp [hl2, g1, g2, g3, g11, g12, g13]
    obtain ⟨T, hT⟩ : ∃ T : Heap, (σ ++ [AObj.cells [AV.int IntKind.i64 b.houses, AV.int IntKind.i64 b.notices, AV.arr 1 (List.length σ + 2) 0 b.hears.length, AV.pl 1 (List.map (fun x => AV.int IntKind.i64 x) b.reads), AV.pl 3 (List.map crAV b.cries)],
      AObj.cells [AV.int IntKind.i64 b.houses, AV.int IntKind.i64 b.notices, AV.arr 1 (List.length σ + 2) 0 b.hears.length, AV.pl 1 (List.map (fun x => AV.int IntKind.i64 x) b.reads), AV.pl 3 (List.map crAV b.cries)], AObj.cells rs] : Heap) = T := ⟨_, rfl⟩
    have hTr : T[σ.length + 2]? = some (.cells rs) := by rw [← hT]; simp
    have hz := fz_cells1 (n := σ.length) (σ := T) (r := σ.length + 2) (cs := rs) (by omega) hTr (fun y hy => by
      rw [← hrs] at hy
      obtain ⟨z, _, rfl⟩ := List.mem_map.1 hy
      exact ⟨rfl, rfl, fz_rowsI _ _ _⟩)
    rw [hrsl] at hz
    rw [hT]
    exact ⟨hz, fz_rowI _ _ _, fz_cries _ _ _⟩
end Ab
