/-
  DERIVED: THE SHELF's CONTRACTS AT THIS DUMP, IN PLAIN WORDS (tools/lay-plain.mjs out of 'TryzSort.lean', which tools/lay-shelf.mjs wrote): THE SAME DECLARATIONS UNDER THE SAME NAMES: 'import', 'namespace', 'open', 'def', 'theorem' AND NOTHING ELSE: no command of the shelf's: FOR A HAND-IN. Each laying: the table of numbers ('.._ren') and one theorem, a field a fact of the dump's own or the kernel's comparison; each contract: ONE APPLICATION.
  SORT: an own row behind slices.SortFunc of the library, at elements of more cells whose first two are numbers.
  SORT: slices.SortFunc on own rows of elements whose first two cells are their place.
  SORT: the places' order, told with the draws; slices.SortFunc of places.
-/
import Derived.Shelf.SlSortCmp.WholeK
import Derived.Shelf.SlGeneric
import Derived.Ground.SlsfProg
import Derived.Test.YtdifgaapdnbliaaGreatDoorProg
import Derived.Shelf.SlSortCmp.NoneTotal
import Derived.Test.YtdifgaapdnbliaaGreatDoorP02
import Derived.Test.YtdifgaapdnbliaaGreatDoorP17
set_option linter.unusedSimpArgs false
set_option linter.unusedVariables false
set_option linter.unusedSectionVars false
namespace Go.Proofs
open Go.Shelf
def Tryz.sortPl_ren : Go.Shelf.Ren := ⟨fun | 6 => 182 | 15 => 166 | 14 => 215 | 28 => 205 | 29 => 206 | 20 => 234 | 21 => 235 | 22 => 236 | 23 => 237 | 24 => 238 | 25 => 239 | 26 => 240 | 27 => 241 | 46 => 256 | 47 => 226 | 48 => 227 | 49 => 257 | 50 => 258 | 57 => 268 | n => n, fun | 22 => 47 | 24 => 54 | 25 => 235 | 3 => 3 | 39 => 91 | 0 => 0 | 53 => 174 | 55 => 240 | 4 => 4 | 46 => 252 | 45 => 251 | 50 => 187 | 5 => 5 | 9 => 9 | 66 => 271 | 70 => 126 | 76 => 293 | 77 => 143 | n => n, fun | n => n⟩
def Tryz.sortCh_ren : Go.Shelf.Ren := ⟨fun | 6 => 114 | 15 => 166 | 14 => 165 | 28 => 205 | 29 => 206 | 20 => 197 | 21 => 198 | 22 => 199 | 23 => 200 | 24 => 201 | 25 => 202 | 26 => 203 | 27 => 204 | 46 => 225 | 47 => 226 | 48 => 227 | 49 => 228 | 50 => 229 | 57 => 254 | n => n, fun | 22 => 62 | 24 => 74 | 25 => 171 | 3 => 3 | 39 => 91 | 0 => 0 | 53 => 174 | 55 => 240 | 4 => 4 | 46 => 252 | 45 => 251 | 50 => 187 | 5 => 5 | 9 => 9 | 66 => 271 | 70 => 126 | 76 => 293 | 77 => 143 | n => n, fun | n => n⟩
end Go.Proofs
namespace Ab
open Go Go.RowKit Go.Proofs
variable [Mode]

theorem perm_map {α β : Type} (f : α → β) : ∀ {l m : List β}, l.Perm m → ∀ {z : List α}, m = z.map f → ∃ z' : List α, z'.Perm z ∧ z'.map f = l := by
  intro l m h
  induction h with
  | nil =>
    intro z hz
    obtain rfl : z = [] := by simpa using hz.symm
    exact ⟨[], .nil, rfl⟩
  | cons x h ih =>
    intro z hz
    cases z with
    | nil => simp at hz
    | cons a z =>
      simp at hz
      obtain ⟨z', h1, h2⟩ := ih hz.2
      exact ⟨a :: z', h1.cons a, by simp [h2, hz.1]⟩
  | swap x y l =>
    intro z hz
    match z with
    | [] => simp at hz
    | [a] => simp at hz
    | a :: b :: z =>
      simp at hz
      exact ⟨b :: a :: z, .swap a b z, by simp [hz.1, hz.2.1, hz.2.2]⟩
  | trans _ _ ih1 ih2 =>
    intro z hz
    obtain ⟨z2, h1, h2⟩ := ih2 hz
    obtain ⟨z1, h3, h4⟩ := ih1 h2.symm
    exact ⟨z1, h3.trans h1, h4⟩

theorem modify_set (b : Nat) (w : World) (c : Array Value) (e : TypeId) (fr : Nat × Nat) (f : Array Value → Array Value) (h : w.heap[b]? = some (.cells c e fr)) : Go.Sort.mapBlock w b f = setBlk w b (.cells (f c) e fr) := by
  unfold Go.Sort.mapBlock setBlk
  congr 1
  apply Array.ext_getElem?
  intro k
  simp only [Array.getElem?_modify, Array.getElem?_setIfInBounds]
  obtain ⟨hlt, h2⟩ := Array.getElem?_eq_some_iff.1 h
  by_cases e1 : b = k
  · subst e1
    simp [hlt, h2, Go.Sort.onCells]
  · simp [e1]

/-- A ROW BEHIND A SORT. -/
theorem Inv.sorted {α : Type} [Inhabited α] {C : Ctx} {σ : Heap} (hI : Inv C σ) {r b k : Nat} {cs : List AV} (hk0 : 0 < k) (hb : C.blk[r]? = some b) (hr : σ[r]? = some (.cells cs))
    (enc : α → List Value) (hk : ∀ x, (enc x).length = k) (z : List (α × AV)) (d : Array α) (hd : d.toList = z.map Prod.fst) (hcs : z.length * k = cs.length)
    (hz : ∀ x ∈ z, x.2.cells.length = k ∧ ∀ (j : Nat) (y : AV) (v : Value), x.2.cells[j]? = some y → (enc x.1)[j]? = some v → VR C y v) (m : Nat) (os : Array Obj) :
    Ext C (C.at_ (sortWorldK enc k C.w b 0 m d os)) ∧ Inv (C.at_ (sortWorldK enc k C.w b 0 m d os)) (σ.set r (.cells ((z.map Prod.snd).flatMap AV.cells))) := by
  have B1 : Below C.w.heap.size C.w (Go.Sort.ahead C.w m) := ⟨rfl, rfl, rfl, Nat.le_refl _, fun _ _ => rfl⟩
  have E1 := Ext.below hI.plt B1 (fun _ => Nat.le_add_right _ _)
  have I1 := hI.below B1
  obtain ⟨hnp, carr, e, lo, hi, hc, hsz, hfr, hrel⟩ := hI.cells hb hr
  have hc1 : (Go.Sort.ahead C.w m).heap[b]? = some (.cells carr e (lo, hi)) := hc
  have hput : Go.Sort.putRowK enc k (Go.Sort.ahead C.w m) b 0 d = setBlk (Go.Sort.ahead C.w m) b (.cells (Go.Sort.putCells id 0 (Go.Sort.flatK enc k d) carr) e (lo, hi)) := by
    unfold Go.Sort.putRowK Go.Sort.putRow
    exact modify_set _ _ _ _ _ _ hc1
  have hsize : (Go.Sort.putCells id 0 (Go.Sort.flatK enc k d) carr).size = carr.size := by simp [Go.Sort.putCells]
  have hdl : d.size = z.length := by rw [← Array.length_toList, hd, List.length_map]
  have hlen : ((z.map Prod.snd).flatMap AV.cells).length = z.length * k := by
    rw [flat_len (k := k) _ (fun x hx => by
      obtain ⟨y, hy, rfl⟩ := List.mem_map.1 hx
      exact (hz y hy).1), List.length_map]
  have hshp : shp (.cells (Go.Sort.putCells id 0 (Go.Sort.flatK enc k d) carr) e (lo, hi)) = shp (.cells carr e (lo, hi)) := by simp [shp, hsize]
  have E2 := Ext.set (C := C.at_ (Go.Sort.ahead C.w m)) (o := .cells (Go.Sort.putCells id 0 (Go.Sort.flatK enc k d) carr) e (lo, hi)) hc1 hnp hshp
  have I2 : Inv ((C.at_ (Go.Sort.ahead C.w m)).at_ (setBlk (C.at_ (Go.Sort.ahead C.w m)).w b (.cells (Go.Sort.putCells id 0 (Go.Sort.flatK enc k d) carr) e (lo, hi)))) (σ.set r (.cells ((z.map Prod.snd).flatMap AV.cells))) := by
    refine Inv.set I1 hb hr rfl hc1 hshp (.cells _ _ e lo hi (by rw [hlen, hsize, hcs]; exact hsz) (by rw [hsize]; exact hfr) fun i x c hx hc' => ?_)
    refine VR.ext (E1.trans E2) ?_
    have hi' := (List.getElem?_eq_some_iff.1 hx).1
    rw [hlen] at hi'
    rw [flat_get (k := k) _ (fun x hx => by
      obtain ⟨y, hy, rfl⟩ := List.mem_map.1 hx
      exact (hz y hy).1) hk0] at hx
    have hq : i / k < z.length := (Nat.div_lt_iff_lt_mul hk0).2 hi'
    have hzi : z[i / k]? = some z[i / k] := List.getElem?_eq_getElem hq
    rw [List.getElem?_map, hzi] at hx
    simp only [Option.map_some, Option.bind_some] at hx
    have hic : i < carr.size := by omega
    have hd' : d[i / k]! = z[i / k].1 := by
      have h1 : d[i / k]? = some z[i / k].1 := by
        rw [← Array.getElem?_toList, hd, List.getElem?_map, hzi]; rfl
      rw [getElem!_def, h1]
    have hval : c = (enc z[i / k].1)[i % k]'(by rw [hk]; exact Nat.mod_lt _ hk0) := by
      have h2 : (Go.Sort.putCells id 0 (Go.Sort.flatK enc k d) carr)[i]? = some ((enc z[i / k].1)[i % k]'(by rw [hk]; exact Nat.mod_lt _ hk0)) := by
        unfold Go.Sort.putCells
        rw [Array.getElem?_mapIdx, Array.getElem?_eq_getElem hic]
        simp only [Option.map_some, Option.some.injEq]
        rw [if_pos (by rw [Go.Sort.size_flatK, hdl]; omega)]
        show (Go.Sort.flatK enc k d)[i - 0]! = _
        rw [Nat.sub_zero, Go.Sort.get_flatK _ _ _ _ (by rw [hdl]; exact hi'), hd', getElem!_pos]
      rw [h2] at hc'
      exact (Option.some.inj hc').symm
    refine (hz z[i / k] (List.getElem_mem hq)).2 (i % k) x c hx ?_
    rw [hval, List.getElem?_eq_getElem]
  have B3 : Below (setBlk (Go.Sort.ahead C.w m) b (.cells (Go.Sort.putCells id 0 (Go.Sort.flatK enc k d) carr) e (lo, hi))).heap.size (setBlk (Go.Sort.ahead C.w m) b (.cells (Go.Sort.putCells id 0 (Go.Sort.flatK enc k d) carr) e (lo, hi)))
      (Go.Sort.grow (setBlk (Go.Sort.ahead C.w m) b (.cells (Go.Sort.putCells id 0 (Go.Sort.flatK enc k d) carr) e (lo, hi))) os) :=
    ⟨rfl, rfl, rfl, by rw [Go.Sort.size_grow]; omega, fun j hj => Array.getElem?_append_left hj⟩
  have hW : sortWorldK enc k C.w b 0 m d os = Go.Sort.grow (setBlk (Go.Sort.ahead C.w m) b (.cells (Go.Sort.putCells id 0 (Go.Sort.flatK enc k d) carr) e (lo, hi))) os := by
    unfold sortWorldK
    rw [hput]
  have E3 := Ext.below I2.plt B3 (fun _ => Nat.le_refl _)
  have I3 := I2.below B3
  rw [hW]
  exact ⟨(E1.trans E2).trans E3, I3⟩
end Ab
namespace Ab
open Go Go.RowKit Go.Proofs

/-- an element whose first two cells are numbers -/
structure El (m : Nat) where
  l : List Value
  len : l.length = m + 2
  one : ∀ v ∈ l, v.oneCell' = true
  a : Int
  b : Int
  key : ∃ t, l = .int .i64 a :: .int .i64 b :: t
instance {m : Nat} : Inhabited (El m) := ⟨⟨.int .i64 0 :: .int .i64 0 :: List.replicate m (.int .i64 0), by simp, fun v hv => by
  simp at hv
  rcases hv with rfl | ⟨_, rfl⟩ <;> rfl, 0, 0, ⟨_, rfl⟩⟩⟩
def El.place {m : Nat} (x : El m) : Oyez.Place := ⟨x.a, x.b⟩
def keyOf (x : AV) : Oyez.Place := match x.cells with
  | .int _ a :: .int _ b :: _ => ⟨a, b⟩
  | _ => ⟨0, 0⟩
/-- an element's row -/
structure ElRow (m : Nat) (x : AV) : Prop where
  ex : ∃ a b t, x.cells = .int .i64 a :: .int .i64 b :: t ∧ t.length = m ∧ t.all AV.one = true
theorem ElRow.len {m : Nat} {x : AV} (h : ElRow m x) : x.cells.length = m + 2 := by
  obtain ⟨a, b, t, h1, h2, _⟩ := h.ex
  rw [h1]; simp [h2]
theorem pick {C : Ctx} {m : Nat} : ∀ (rows : List AV) (vs : List Value), (∀ x ∈ rows, ElRow m x) → vs.length = rows.length * (m + 2) →
    (∀ (i : Nat) (x : AV) (v : Value), (rows.flatMap AV.cells)[i]? = some x → vs[i]? = some v → VR C x v) →
    ∃ z : List (El m × AV), z.map Prod.snd = rows ∧ (z.flatMap fun x => x.1.l) = vs ∧ ∀ x ∈ z, x.2.cells.length = m + 2 ∧ keyOf x.2 = x.1.place ∧ ∀ (j : Nat) (y : AV) (v : Value), x.2.cells[j]? = some y → x.1.l[j]? = some v → VR C y v := by
  intro rows
  induction rows with
  | nil =>
    intro vs _ hl _
    obtain rfl : vs = [] := List.eq_nil_of_length_eq_zero (by simpa using hl)
    exact ⟨[], rfl, rfl, by simp⟩
  | cons x t ih =>
    intro vs hrow hl hv
    have hx := hrow x (by simp)
    have hxl := hx.len
    obtain ⟨a, b, u, hc, hu, hone⟩ := hx.ex
    rw [List.length_cons, Nat.add_mul, Nat.one_mul] at hl
    obtain ⟨z, h1, h2, h3⟩ := ih (vs.drop (m + 2)) (fun y hy => hrow y (by simp [hy])) (by rw [List.length_drop]; omega) (fun i y v hy hv' => by
      rw [List.getElem?_drop] at hv'
      refine hv (m + 2 + i) y v ?_ hv'
      rw [List.flatMap_cons, List.getElem?_append_right (by omega), hxl, Nat.add_sub_cancel_left]
      exact hy)
    have hrel : ∀ (j : Nat) (y : AV) (v : Value), x.cells[j]? = some y → (vs.take (m + 2))[j]? = some v → VR C y v := by
      intro j y v hy hv'
      have hj := (List.getElem?_eq_some_iff.1 hy).1
      rw [List.getElem?_take_of_lt (by omega)] at hv'
      refine hv j y v ?_ hv'
      rw [List.flatMap_cons, List.getElem?_append_left hj]
      exact hy
    have htl : (vs.take (m + 2)).length = m + 2 := by rw [List.length_take]; omega
    have h0 := hrel 0 (.int .i64 a) ((vs.take (m + 2))[0]'(by omega)) (by rw [hc]; rfl) (List.getElem?_eq_getElem _)
    have h0' := hrel 1 (.int .i64 b) ((vs.take (m + 2))[1]'(by omega)) (by rw [hc]; rfl) (List.getElem?_eq_getElem _)
    have hkey : ∃ t, vs.take (m + 2) = .int .i64 a :: .int .i64 b :: t := by
      have e0 := h0.int_inv
      have e1 := h0'.int_inv
      match hw : vs.take (m + 2), htl with
      | [], h => simp at h
      | [q], h => simp at h
      | p :: q :: t, _ =>
        simp only [hw, List.getElem_cons_zero] at e0
        simp only [hw, List.getElem_cons_succ, List.getElem_cons_zero] at e1
        exact ⟨t, by rw [e0, e1]⟩
    have hones : ∀ v ∈ vs.take (m + 2), v.oneCell' = true := by
      intro v hv'
      obtain ⟨j, hj, rfl⟩ := List.getElem_of_mem hv'
      have hjx : j < x.cells.length := by omega
      refine (hrel j _ _ (List.getElem?_eq_getElem hjx) (List.getElem?_eq_getElem hj)).oneCell ?_
      have hmem := List.getElem_mem hjx
      have hall : ∀ y ∈ x.cells, y.one = true := by
        rw [hc]
        intro y hy
        simp only [List.mem_cons] at hy
        rcases hy with rfl | rfl | hy
        · rfl
        · rfl
        · exact List.all_eq_true.1 hone y hy
      exact hall _ hmem
    refine ⟨(⟨vs.take (m + 2), htl, hones, a, b, hkey⟩, x) :: z, by simp [h1], ?_, ?_⟩
    · rw [List.flatMap_cons, h2]
      exact List.take_append_drop _ _
    · intro w hw
      rcases List.mem_cons.1 hw with rfl | hw
      · refine ⟨hxl, ?_, hrel⟩
        show keyOf x = _
        unfold keyOf
        rw [hc]
        rfl
      · exact h3 w hw
end Ab
namespace Ab
open Go Go.RowKit Go.Proofs
attribute [local irreducible] aws awp aw1 Og Om Oc Oa Ogd Ov Ot awd aw1d awh aw1h Ogh Ohd awl Ogl Ohl QThen QBlock QFn QFnM QRo QBe ACode AYield
section
variable [Mode]
end
abbrev strictM : Mode := ⟨True⟩
end Ab
