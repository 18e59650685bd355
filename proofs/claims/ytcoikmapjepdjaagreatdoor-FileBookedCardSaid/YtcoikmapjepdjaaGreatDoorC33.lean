/-
  The book: one step of an hour.
  The book: the winds that are near, yielded one by one.
  FUNCTIONS THAT RANGE OVER FUNCTIONS MORE THAN ONCE: all marks are taken at the end.
-/
import Derived.Test.YtcoikmapjepdjaaGreatDoorC20
import Derived.Test.YtcoikmapjepdjaaGreatDoorC12
import Derived.Test.YtcoikmapjepdjaaGreatDoorC18
import Derived.Test.YtcoikmapjepdjaaGreatDoorC32
import Derived.Test.YtcoikmapjepdjaaGreatDoorC29
set_option linter.unusedSimpArgs false
set_option linter.unusedVariables false
set_option linter.unusedSectionVars false
namespace Ab
open Go Go.RowKit Go.Proofs
def intsV (l : List Int) : List AV := l.map fun x => AV.int .i64 x
/-- what is lying in a round, behind what lay -/
def sixB (b : Bk) (n q h : Nat) (v : AV) (next : List At) : Heap := [.cells [.int .i64 h], .map (metE next), .cells [.mp (n + 1)], .cells [v], .cells [.fn (.func 271) [bkAV b] []],
  .cells [.fn (.func 272) [] [.ptr (n + 4) 0, .ptr n 0, .ptr q 0, .ptr (n + 2) 0, .ptr (n + 3) 0]]]
/-- the row of what comes next: each course is an own row -/
structure AccN (n : Nat) (v : AV) (next : List At) (g : Heap) (L : List AV) (o : Option Nat) : Prop where
  acc : ∀ σ : Heap, σ.length = n → Acc σ g 26 v L o
  len : L.length = next.length
  el : ∀ (i : Nat) (a : At), next[i]? = some a → a.course ≠ [] ∧ ∃ j, some j ≠ o ∧ L[i]? = some (.agg (.int .i64 a.wind :: a.got.map AV.bool ++ [.arr 1 (n + j) 0 a.course.length])) ∧ g[j]? = some (.cells (intsV a.course))
theorem AccN.nil (n : Nat) (g : Heap) : AccN n .nils [] g [] none := ⟨fun σ _ => .nil _ _ _, rfl, fun i a h => by simp at h⟩
theorem AccN.more {n : Nat} {v : AV} {next : List At} {g : Heap} {L : List AV} {o : Option Nat} (h : AccN n v next g L o) (y : Heap) : AccN n v next (g ++ y) L o :=
  ⟨fun σ hs => (h.acc σ hs).more y, h.len, fun i a ha => by
    obtain ⟨h1, j, h2, h3, h4⟩ := h.el i a ha
    exact ⟨h1, j, h2, h3, by rw [List.getElem?_append_left (List.getElem?_eq_some_iff.1 h4).1]; exact h4⟩⟩
theorem AccN.snoc {n : Nat} {v v' : AV} {next : List At} {g g' : Heap} {L : List AV} {o : Option Nat} (h : AccN n v next g L o) (Z : Heap) (jc jo : Nat) (a : At) (hc : a.course ≠ [])
    (hz : Z[jc]? = some (.cells (intsV a.course))) (hA : ∀ σ : Heap, σ.length = n → Acc σ g' 26 v' (L ++ [.agg (.int .i64 a.wind :: a.got.map AV.bool ++ [.arr 1 (n + (g.length + jc)) 0 a.course.length])]) (some jo))
    (hk : ∀ j, some j ≠ o → j < (g ++ Z).length → g'[j]? = (g ++ Z)[j]?) (ho : some jo = o ∨ some jo = some (g ++ Z).length) :
    AccN n v' (next ++ [a]) g' (L ++ [.agg (.int .i64 a.wind :: a.got.map AV.bool ++ [.arr 1 (n + (g.length + jc)) 0 a.course.length])]) (some jo) := by
  have hjc := (List.getElem?_eq_some_iff.1 hz).1
  have hol : ∀ j, o = some j → j < g.length := fun j e => by
    have := h.acc (List.replicate n .dead) (by simp)
    rw [e] at this
    exact this.lt
  refine ⟨hA, by simp [h.len], fun i b hb => ?_⟩
  rcases Nat.lt_or_ge i next.length with hi | hi
  · rw [List.getElem?_append_left hi] at hb
    obtain ⟨h1, j, h2, h3, h4⟩ := h.el i b hb
    have hj := (List.getElem?_eq_some_iff.1 h4).1
    refine ⟨h1, j, ?_, ?_, ?_⟩
    · rcases ho with ho | ho
      · rw [ho]; exact h2
      · rw [ho]; intro e; simp at e; omega
    · rw [List.getElem?_append_left (by rw [h.len]; exact hi)]; exact h3
    · rw [hk j h2 (by simp; omega), List.getElem?_append_left hj]; exact h4
  · rw [List.getElem?_append_right hi] at hb
    have hi0 : i - next.length = 0 := by
      have := (List.getElem?_eq_some_iff.1 hb).1
      simp at this
      omega
    rw [hi0] at hb
    simp at hb
    subst hb
    refine ⟨hc, g.length + jc, ?_, ?_, ?_⟩
    · rcases ho with ho | ho
      · rw [ho]
        intro e
        have := hol _ e.symm
        omega
      · rw [ho]; intro e; simp at e; omega
    · rw [List.getElem?_append_right (by rw [h.len]; exact hi), h.len, hi0]; rfl
    · rw [hk (g.length + jc) (fun e => by have := hol _ e.symm; omega) (by simp; omega), List.getElem?_append_right (by omega), Nat.add_sub_cancel_left]; exact hz
/-- objects that nobody writes -/
def Keeps (g : Heap) (o : Option Nat) (K : List (Nat × AObj)) : Prop := ∀ p ∈ K, some p.1 ≠ o ∧ g[p.1]? = some p.2
theorem Keeps.more {g : Heap} {o : Option Nat} {K : List (Nat × AObj)} (h : Keeps g o K) (y : Heap) : Keeps (g ++ y) o K := fun p hp => ⟨(h p hp).1, by
  have := (h p hp).2
  rw [List.getElem?_append_left (List.getElem?_eq_some_iff.1 this).1]; exact this⟩
theorem Keeps.snoc {g g' : Heap} {o : Option Nat} {K : List (Nat × AObj)} {jo : Nat} (h : Keeps g o K) (Z : Heap) (hk : ∀ j, some j ≠ o → j < (g ++ Z).length → g'[j]? = (g ++ Z)[j]?) (ho : some jo = o ∨ some jo = some (g ++ Z).length) : Keeps g' (some jo) K := fun p hp => by
  obtain ⟨h1, h2⟩ := h p hp
  have hl := (List.getElem?_eq_some_iff.1 h2).1
  refine ⟨?_, ?_⟩
  · rcases ho with ho | ho
    · rw [ho]; exact h1
    · rw [ho]; intro e; simp at e; omega
  · rw [hk _ h1 (by simp; omega), List.getElem?_append_left hl]; exact h2
attribute [local irreducible] aws awp aw1 Og Om Oc Oa Ogd Ov Ot awd aw1d awh aw1h Ogh Ohd awl Ogl Ohl awv Ogv Ohv QThen QBlock QFn QFnM QRo QBe ACode AYield
theorem bk_clone0_calls (σ : Heap) : ACalls Tryz.prog 73 [.nils] σ fun v s => v = .nils ∧ s = σ := by
  refine acalls_fn Tryz.func73 rfl (enters_fn Tryz.func73 (by decide) rfl) ?_
  simp [Tryz.ntmps73]
theorem bk_app0 (S : Heap) (w : Nat) : aappend Tryz.prog #[32, 32] .nils (.pl 1 [.int .i64 w]) S = some (.arr 1 S.length 0 1, S ++ [.cells [.int .i64 w]]) := by simp
theorem bk_app1 (S : Heap) (r : Nat) (l : List Int) (w : Nat) (hl : l.length ≤ 8) (hr : S[r]? = some (.cells (intsV l))) :
    aappend Tryz.prog #[32, 32] (.arr 1 r 0 l.length) (.pl 1 [.int .i64 w]) S = some (.arr 1 S.length 0 (l.length + 1), S.set r .dead ++ [.cells (intsV l ++ [.int .i64 w])]) := by
  have h1 : (l.length + 1) * 8 ≤ 140737488355328 := by omega
  simp [hr, intsV, h1]
theorem bk_step_calls (b : Bk) (ok : b.Ok) (h : Nat) (hh : h < b.reads.length) (x : At) (hx : x.got.length = 24) (cv : AV) (hcv : cv = .nils ∧ x.course = [] ∨ cv = .pl 1 (intsV x.course) ∧ x.course ≠ []) (hcl : x.course.length ≤ 8)
    (w : Nat) (hw : w < 8) (P : Heap) (q d : Nat) (hq : P[q]? = some (.cells [.ptr d 0])) (hd : P[d]? = some (.cells (bkAV b).cells)) (next : List At) (hn : ∀ a ∈ next, a.got.length = 24) (hnl : next.length ≤ 2 ^ 30)
    (v : AV) (g : Heap) (L : List AV) (o : Option Nat) (hA : AccN (P.length + 6) v next g L o) (K : List (Nat × AObj)) (hK : Keeps g o K) :
    ACalls Tryz.prog 272 [.agg (.int .i64 x.wind :: x.got.map AV.bool ++ [cv]), .int .i64 w, .ptr (P.length + 4) 0, .ptr P.length 0, .ptr q 0, .ptr (P.length + 2) 0, .ptr (P.length + 3) 0] (P ++ (sixB b P.length q h v next ++ g))
      fun _ s => ∃ v' g' L' o', AccN (P.length + 6) v' (stepB b h x next w) g' L' o' ∧ Keeps g' o' K ∧ s = P ++ (sixB b P.length q h v' (stepB b h x next w) ++ g') := by
  refine acalls_fn Tryz.func272 rfl (enters_fn Tryz.func272 (by decide) rfl) ?_
  have hql : q < P.length := (List.getElem?_eq_some_iff.1 hq).1
  have hdl : d < P.length := (List.getElem?_eq_some_iff.1 hd).1
  have hq' : ∀ g : Heap, (P ++ g)[q]? = some (.cells [.ptr d 0]) := fun g => by rw [List.getElem?_append_left hql]; exact hq
  have hd' : ∀ g : Heap, (P ++ g)[d]? = some (.cells (bkAV b).cells) := fun g => by rw [List.getElem?_append_left hdl]; exact hd
  have hxl : (x.got.map AV.bool).length = 24 := by simp [hx]
  generalize hN : stepB b h x next w = N
  simp [-aappend, Tryz.ntmps272, sixB, hxl, hx]
  rw [if_pos (by rcases hcv with ⟨rfl, _⟩ | ⟨rfl, _⟩ <;> rfl)]
  simp [-aappend]
  refine (bk_can_calls b h w hh (by omega) (ok.read _ (List.getElem_mem hh))).use ?_
  cases hc : canB b h w with
  | false =>
    have hN' : N = next := by rw [← hN]; unfold stepB; rw [hc]; rfl
    subst hN'
    simp [-aappend]
    exact ⟨_, _, _, _, hA.more _, hK.more _, rfl, rfl⟩
  | true =>
    have hx23 : 23 ≤ x.got.length := by omega
    have htk : List.take 24 (x.got.map AV.bool ++ [cv]) = x.got.map AV.bool := by rw [List.take_append_of_le_length (by omega), List.take_of_length_le (by omega)]
    simp [-aappend, hq', hx23, htk]
    refine StA.of ((bk_hear_calls b ok h w x.got hx hw d _ (hd' _)).mono ?_)
    rintro v1 s ⟨rfl, rfl⟩
    have hG : (hearG b h w x.got).length = 24 := by rw [bk_hearG_len, hx]
    generalize hGG : hearG b h w x.got = G at *
    have hGl : (G.map AV.bool).length = 24 := by simp [hG]
    have hf := bk_afind_met w G hG next 0 hn
    simp [-aappend, gotAV, hG]
    have htg : List.take 24 (G.map AV.bool) = G.map AV.bool := List.take_of_length_le (by omega)
    rw [if_pos ⟨by omega, fun y hy => by
      rcases List.mem_cons.1 hy with rfl | hy
      · rfl
      · obtain ⟨z, _, rfl⟩ := List.mem_map.1 hy; rfl⟩]
    by_cases hany : (next.any fun a => decide (a.wind = w) && a.got == G) = true
    · rw [if_pos hany] at hf
      obtain ⟨j, hj⟩ := hf
      have hN' : N = next := by rw [← hN]; unfold stepB; rw [if_pos hc, hGG, if_pos hany]
      subst hN'
      simp [-aappend, hG, htg, hj]
      exact ⟨_, _, _, _, hA.more _, hK.more _, rfl, rfl⟩
    · rw [if_neg hany] at hf
      have hN' : N = next ++ [⟨w, G, x.course ++ [(w : Int)]⟩] := by rw [← hN]; unfold stepB; rw [if_pos hc, hGG, if_neg hany]
      simp [-aappend, hG, htg, hf]
      rw [if_pos ⟨by omega, fun y hy => by
        rcases List.mem_cons.1 hy with rfl | hy
        · rfl
        · obtain ⟨z, _, rfl⟩ := List.mem_map.1 hy; rfl⟩, Om_some]
      rw [show (AV.agg (AV.int IntKind.i64 ↑w :: List.map AV.bool G)) = plcAV w G from rfl, metE_snoc next w G (x.course ++ [(w : Int)]), ← hN']
      refine ACode_drawL [4, 7, 10, 11] [(0, 1), (0, 2), (1, 1), (1, 2), (5, 0)] mixed (by kernel_rfl) (by kernel_rfl) ?_
      have hdrop : (x.got.map AV.bool ++ [cv])[24]? = some cv := by rw [List.getElem?_append_right (by omega), hxl]; rfl
      simp [-aappend, hG, htg, hx, hdrop]
      rcases hcv with ⟨rfl, hcn⟩ | ⟨rfl, hcn⟩
      · refine OuH_of (bk_clone0_calls _) ?_
        simp [-aappend, hG, htg, hx, hdrop]
        rw [bk_app0, Om_some]
        have hdr : List.drop 25 (List.map AV.bool G ++ [AV.nils]) = [] := List.drop_eq_nil_of_le (by simp [hG])
        have hone : ∀ (r m : Nat) (y : AV), y ∈ AV.int .i64 w :: (G.map AV.bool ++ [.arr 1 r 0 m]) → y.one = true := by
          intro r m y hy
          rcases List.mem_cons.1 hy with rfl | hy
          · rfl
          · rcases List.mem_append.1 hy with hy | hy
            · obtain ⟨z, _, rfl⟩ := List.mem_map.1 hy; rfl
            · rw [List.mem_singleton.1 hy]; rfl
        simp [-aappend, hG, htg, hx, hdrop, hdr]
        rw [if_pos (by exact fun y hy => hone _ _ y hy)]
        simp only [Ov_some]
        obtain ⟨v', g', o', he, hA', hlen, hkeep, ho⟩ := (((hA.acc (P ++ sixB b P.length q h v N) (by simp [sixB])).more [AObj.cells (AV.int IntKind.i64 ↑x.wind :: (List.map AV.bool x.got ++ [AV.nils])), AObj.cells (AV.int IntKind.i64 ↑w :: List.map AV.bool G), AObj.cells [AV.int IntKind.i64 ↑w]]).app (P := Tryz.prog) (t := 372) (e := 377) (ag := true)
          (ys := [.agg (.int .i64 w :: (G.map AV.bool ++ [.arr 1 (P.length + (g.length + 2 + 1 + 1 + 1 + 1 + 1 + 1)) 0 1]))]) (y := .pl 26 [.agg (.int .i64 w :: (G.map AV.bool ++ [.arr 1 (P.length + (g.length + 2 + 1 + 1 + 1 + 1 + 1 + 1)) 0 1]))]) (by simp) (by simp) (by simp) (by omega) (fun y hy => by
            rw [List.mem_singleton.1 hy]
            exact ⟨by simp [AV.cells, hG], fun z hz => hone _ _ z hz⟩) (by
            simp [hG]) (by simp [hA.len]; omega))
        simp [-aappend, Nat.add_assoc, sixB] at he
        simp [-aappend, Nat.add_assoc]
        rw [he, Om_some]
        obtain ⟨jo, rfl⟩ : ∃ jo, o' = some jo := by
          cases o' with
          | none => exact absurd hA'.val.2 (by simp)
          | some jo => exact ⟨jo, rfl⟩
        obtain ⟨rfl, hjo⟩ := hA'.val
        simp [-aappend]
        have hcw : ([] : List Int) ++ [(w : Int)] = x.course ++ [(w : Int)] := by rw [hcn]
        have := hA.snoc (v' := .arr 26 (List.length P + List.length (sixB b (List.length P) q h v N) + jo) 0 (L.length + 1)) [AObj.cells (AV.int IntKind.i64 ↑x.wind :: (List.map AV.bool x.got ++ [AV.nils])), AObj.cells (AV.int IntKind.i64 ↑w :: List.map AV.bool G), AObj.cells [AV.int IntKind.i64 ↑w]] 2 jo ⟨w, G, x.course ++ [(w : Int)]⟩ (by simp) (by simp [hcn, intsV])
          (fun σ hs => by
            have h1 := hA'.base (σ' := σ) (by simp [sixB, hs])
            simpa [hcn, Nat.add_assoc, Nat.add_comm, Nat.add_left_comm] using h1) hkeep ho
        rw [← hN'] at this
        exact ⟨_, _, _, _, this, hK.snoc _ hkeep ho, rfl, rfl⟩
      · refine OuH_of (cloneI_calls x.course (by omega) _) ?_
        simp [-aappend, hG, htg, hx, hdrop, cloneIV, cloneIG, hcn]
        rw [bk_app1 _ _ _ _ hcl (by simp [intsV, List.getElem?_append_right, Nat.add_assoc]), Om_some]
        simp [-aappend, hG, htg, hx, hdrop, List.set_append_right, Nat.add_assoc]
        have hdr : List.drop 25 (List.map AV.bool G ++ [AV.nils]) = [] := List.drop_eq_nil_of_le (by simp [hG])
        have hone : ∀ (r m : Nat) (y : AV), y ∈ AV.int .i64 w :: (G.map AV.bool ++ [.arr 1 r 0 m]) → y.one = true := by
          intro r m y hy
          rcases List.mem_cons.1 hy with rfl | hy
          · rfl
          · rcases List.mem_append.1 hy with hy | hy
            · obtain ⟨z, _, rfl⟩ := List.mem_map.1 hy; rfl
            · rw [List.mem_singleton.1 hy]; rfl
        simp [-aappend, hdr]
        rw [if_pos (by exact fun y hy => hone _ _ y hy)]
        simp only [Ov_some]
        obtain ⟨v', g', o', he, hA', hlen, hkeep, ho⟩ := (((hA.acc (P ++ sixB b P.length q h v N) (by simp [sixB])).more [AObj.cells (AV.int IntKind.i64 ↑x.wind :: (List.map AV.bool x.got ++ [AV.pl 1 (intsV x.course)])), AObj.cells (AV.int IntKind.i64 ↑w :: List.map AV.bool G), AObj.dead, AObj.cells (intsV x.course ++ [AV.int IntKind.i64 ↑w])]).app (P := Tryz.prog) (t := 372) (e := 377) (ag := true)
          (ys := [.agg (.int .i64 w :: (G.map AV.bool ++ [.arr 1 (P.length + (g.length + 3 + 1 + 1 + 1 + 1 + 1 + 1))  0 (x.course.length + 1)]))]) (y := .pl 26 [.agg (.int .i64 w :: (G.map AV.bool ++ [.arr 1 (P.length + (g.length + 3 + 1 + 1 + 1 + 1 + 1 + 1))  0 (x.course.length + 1)]))]) (by simp) (by simp) (by simp) (by omega) (fun y hy => by
            rw [List.mem_singleton.1 hy]
            exact ⟨by simp [AV.cells, hG], fun z hz => hone _ _ z hz⟩) (by
            simp [hG]) (by simp [hA.len]; omega))
        simp [-aappend, Nat.add_assoc, sixB] at he
        try simp [-aappend, Nat.add_assoc]
        rw [he, Om_some]
        obtain ⟨jo, rfl⟩ : ∃ jo, o' = some jo := by
          cases o' with
          | none => exact absurd hA'.val.2 (by simp)
          | some jo => exact ⟨jo, rfl⟩
        obtain ⟨rfl, hjo⟩ := hA'.val
        simp [-aappend]
        have := hA.snoc (v' := .arr 26 (List.length P + List.length (sixB b (List.length P) q h v N) + jo) 0 (L.length + 1)) [AObj.cells (AV.int IntKind.i64 ↑x.wind :: (List.map AV.bool x.got ++ [AV.pl 1 (intsV x.course)])), AObj.cells (AV.int IntKind.i64 ↑w :: List.map AV.bool G), AObj.dead, AObj.cells (intsV x.course ++ [AV.int IntKind.i64 ↑w])] 3 jo ⟨w, G, x.course ++ [(w : Int)]⟩ (by simp) (by simp [intsV])
          (fun σ hs => by
            have h1 := hA'.base (σ' := σ) (by simp [sixB, hs])
            simpa [Nat.add_assoc, Nat.add_comm, Nat.add_left_comm] using h1) hkeep ho
        rw [← hN'] at this
        exact ⟨_, _, _, _, this, hK.snoc _ hkeep ho, rfl, rfl⟩
end Ab
namespace Ab
open Go Go.RowKit Go.Proofs
attribute [local irreducible] aws awp aw1 Og Om Oc Oa Ogd Ov Ot awd aw1d awh aw1h Ogh Ohd awl Ogl Ohl awv Ogv Ohv QThen QBlock QFn QFnM QRo QBe ACode AYield
theorem turned_calls (w : Nat) (σ : Heap) : ACalls Tryz.prog 274 [.int .i64 w] σ (fun v σ' => v = .fn (.func 326) [] [.ptr σ.length 0] ∧ σ' = σ ++ [.cells [.int .i64 w]]) := by
  refine acalls_fn Tryz.func274 rfl (enters_fn Tryz.func274 (by decide) rfl) ?_
  simp [Tryz.ntmps274]
/-- THE WINDS NEAR ONE are yielded one by one: r the loop's object, q the wind's cell; I k what holds when the winds below k are seen. -/
theorem turnedSeq_calls (w : Nat) (hw : w < 8) (r q : Nat) (I : Nat → Heap → Prop)
    (hq : ∀ k σ, I k σ → σ[q]? = some (.cells [.int .i64 w]))
    (hy : ∀ k σ, I k σ → k < 8 → nearB k w = true → AYield Tryz.prog r [.int .i64 k] σ (fun v σ' => v = .bool true ∧ I (k + 1) σ'))
    (hn : ∀ k σ, I k σ → k < 8 → nearB k w = false → I (k + 1) σ)
    (σ : Heap) (h0 : I 0 σ) : AEnter Tryz.prog 326 [.yld r, .ptr q 0] σ (fun _ σ' => I 8 σ') := by
  refine aenter_fn Tryz.func326 rfl (enters_fn Tryz.func326 (by decide) rfl) ?_
  simp [Tryz.ntmps326]
  refine ACode_loopT (fun env σ' => ∃ (u : List AV) (k : Nat), env = { t := u } ∧ u.length = 17 ∧ tg u 0 = .yld r ∧ tg u 1 = .ptr q 0 ∧ tg u 4 = .int .i64 k ∧ k ≤ 8 ∧ I k σ')
    (fun env _ => match tg env.t 4 with | .int _ k => 8 - k.toNat | _ => 0) ⟨_, 0, rfl, by simp, by simp, by simp, by simp, by omega, h0⟩ ?_
  rintro env σ' ⟨u, k, rfl, hl, g0, g1, g4, hk, hI⟩
  rcases Nat.lt_or_ge k 8 with hlt | hge
  · have hlt' : (k : Int) < 8 := by omega
    have hw1 := w64 (n := (k : Int) + 1) (by omega) (by omega)
    have hqx := hq _ _ hI
    simp [hl, g0, g1, g4, hlt', hqx]
    refine (bk_near_calls k w (by omega) (by omega)).use ?_
    cases hb : nearB k w with
    | true =>
      simp [hl, g0, g1, g4, hb]
      refine StY.of (hy k σ' hI hlt hb) ?_
      rintro v σ2 ⟨rfl, hI2⟩
      simp [hl, g0, g1, g4, hb, hw1]
      exact ⟨⟨k + 1, by simp, by omega, hI2⟩, by omega⟩
    | false =>
      have hI2 := hn k σ' hI hlt hb
      simp [hl, g0, g1, g4, hb, hw1]
      exact ⟨⟨k + 1, by simp, by omega, hI2⟩, by omega⟩
  · obtain rfl : k = 8 := by omega
    simp [hl, g0, g1, g4]
    exact hI
end Ab
namespace Ab
open Go Go.RowKit
variable [Mode]
variable {P : Program}
/-- the marks are taken, one by one, and the answer is given -/
def leaveL (P : Program) (fn : Func) (R : AV → Heap → Prop) (env : Env) : List Nat → Heap → Prop
  | [], σ => match ares P fn.results.toList env.t σ with
    | some v => R v σ
    | none => False
  | r :: m, σ => σ[r]? = some .deferred ∧ leaveL P fn R env m (σ.set r .dead)
def QFnL (P : Program) (fn : Func) (R : AV → Heap → Prop) : Exit → Env → Heap → Prop
  | .normal, env, σ | .ret, env, σ => leaveL P fn R env env.m σ
  | _, _, _ => False
theorem acalls_ofL {f : FuncId} {fn : Func} {c : Code} {args : List AV} {σ : Heap} {R : AV → Heap → Prop} (hf : P.funcs[f]? = some fn) (hb : fn.body = some c) (hen : Enters P f)
    (h : ACode P none c (QFnL P fn R) { t := te args fn.ntmps } σ) : ACalls P f args σ R := by
  refine .inl ⟨hen, fun C cargs hI hv => ?_⟩
  have hl := hv.len
  refine callsIn_of_wp_marks hf hb trivial ?_ rfl
  have he : ER C { t := te args fn.ntmps } { tmps := cargs.toArray ++ Array.replicate (fn.ntmps - cargs.toArray.size) undef, defers := [] } := by
    refine ⟨?_, rfl, fun i r d h => by simp at h⟩
    have h2 : VRs C (List.replicate (fn.ntmps - args.length) .any) (List.replicate (fn.ntmps - args.length) undef) := ⟨by simp, fun i x c hx hc => by
      obtain ⟨_, hx⟩ := List.getElem?_eq_some_iff.1 hx
      simp at hx
      subst hx
      exact .any _⟩
    have := hv.append h2
    simpa [hl, te] using this
  refine wpIn_mono (h C _ none hI he rfl) ?_
  rintro e a' w' ⟨C', env', σ', rfl, hE, hI', he', hq⟩
  have key : ∀ (m : List Nat) (ds : List Deferred) (C2 : Ctx) (σ2 : Heap), Ext C' C2 → Inv C2 σ2 → m.length = ds.length → (∀ (i r : Nat) (d : Deferred), m[i]? = some r → ds[i]? = some d → ∃ b, C'.blk[r]? = some b ∧ d = ⟨.collected b, #[]⟩) →
      leaveL P fn R env' m σ2 → LeavesInM Fence.wide 0 P fn a'.tmps (fun e w' => ∃ (v : Value) (C' : Ctx) (av : AV) (σ' : Heap), e = .returned v ∧ C'.w = w' ∧ Ext C C' ∧ Inv C' σ' ∧ VR C' av v ∧ R av σ') ds .returning C2.w := by
    intro m
    induction m with
    | nil =>
      intro ds C2 σ2 hE2 hI2 hm _ hq
      rw [List.eq_nil_of_length_eq_zero hm.symm]
      unfold leaveL at hq
      split at hq
      · rename_i v hv'
        obtain ⟨c, hc, hvr⟩ := ares_sound hI2 (he'.ext hE2) hv'
        exact ⟨c, hc, c, C2, v, σ2, rfl, rfl, hE.trans hE2, hI2, hvr, hq⟩
      · cases hq
    | cons r m ih =>
      intro ds C2 σ2 hE2 hI2 hm hmark hq
      obtain ⟨hd, hq⟩ := hq
      match ds, hm, hmark with
      | d :: ds, hm, hmark =>
        obtain ⟨b, hb', rfl⟩ := hmark 0 r d rfl rfl
        have hb2 := hE2.blk_at hb'
        obtain ⟨hnp, c, hc, hR⟩ := hI2.live _ _ _ hb2 hd rfl
        cases hR
        refine ⟨by simp, .inl ⟨b, _, rfl, run_takeDeferred hc, ?_⟩⟩
        rw [putObj_eq]
        have hE4 := Ext.set (C := C2) (o := .deferred none) hc hnp rfl
        have hI4 := hI2.set (o' := .dead) (c' := .deferred none) hb2 hd rfl hc rfl (.gone _)
        exact ih ds _ _ (hE2.trans hE4) hI4 (by simpa using hm) (fun i r d h1 h2 => hmark (i + 1) r d h1 h2) hq
  have fin : leaveL P fn R env' env'.m σ' → LeavesInM Fence.wide 0 P fn a'.tmps (fun e w' => ∃ (v : Value) (C' : Ctx) (av : AV) (σ' : Heap), e = .returned v ∧ C'.w = w' ∧ Ext C C' ∧ Inv C' σ' ∧ VR C' av v ∧ R av σ') a'.defers .returning C'.w :=
    fun h => key env'.m a'.defers C' σ' (Ext.refl C') hI' he'.m.symm (fun i r d h1 h2 => he'.mark i r d h1 h2) h
  cases e with
  | normal => exact fin hq
  | ret => exact fin hq
  | _ => cases hq
end Ab
