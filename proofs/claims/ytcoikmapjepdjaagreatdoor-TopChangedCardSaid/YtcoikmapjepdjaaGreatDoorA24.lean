/-
  A ROW OF WHICH THE ROOM IS ASKED: a slice is taken with each room that it can have.
  slices.Insert OF ONE RECORD INTO AN OWN ROW: in place where there is room, else into a new row.
  slices.Insert OF ONE RECORD INTO AN OWN ROW: in place where there is room, else into a new row.
-/
import Derived.Lib.Overlaps
import Derived.Test.YtcoikmapjepdjaaGreatDoorA10
import Derived.Test.YtcoikmapjepdjaaGreatDoorA18
set_option linter.unusedSimpArgs false
set_option linter.unusedVariables false
set_option linter.unusedSectionVars false
namespace Ab
open Go Go.RowKit
variable [Mode]
variable {P : Program}
/-- one object told otherwise, the world being as it is -/
theorem Inv.retell {C : Ctx} {σ : Heap} (hI : Inv C σ) {r b : Nat} {o o' : AObj} (hb : C.blk[r]? = some b) (ho : σ[r]? = some o) (hl : o.live = true) (hR : ∀ c, C.w.heap[b]? = some c → ORel C o c → ORel C o' c) : Inv C (σ.set r o') := by
  have hrl := (List.getElem?_eq_some_iff.1 ho).1
  have old : ∀ (q : Nat) (p : AObj), (σ.set r o')[q]? = some p → p.live = true → ∃ p', σ[q]? = some p' ∧ p'.live = true := by
    intro q p hq hp
    by_cases e : r = q
    · subst e; exact ⟨o, ho, hl⟩
    · rw [List.getElem?_set_ne e] at hq; exact ⟨p, hq, hp⟩
  refine ⟨by rw [List.length_set]; exact hI.len, hI.glob, hI.base, hI.basep, hI.plt, fun q b' p hq hp hpl => ?_, fun q q' b' p p' hq hq' hp hp' hpl hpl' => ?_⟩
  · by_cases e : r = q
    · subst e
      rw [List.getElem?_set_self hrl] at hp
      obtain rfl := Option.some.inj hp
      rw [hb] at hq
      obtain rfl := Option.some.inj hq
      obtain ⟨h1, c, h2, h3⟩ := hI.live r b o hb ho hl
      exact ⟨h1, c, h2, hR c h2 h3⟩
    · rw [List.getElem?_set_ne e] at hp
      exact hI.live q b' p hq hp hpl
  · obtain ⟨x, hx, hxl⟩ := old q p hp hpl
    obtain ⟨x', hx', hxl'⟩ := old q' p' hp' hpl'
    exact hI.inj q q' b' x x' hq hq' hx hx' hxl hxl'
/-- **A SLICE, WITH EACH ROOM THAT IT CAN HAVE.** -/
theorem ACalls.room {f : FuncId} {k r off len : Nat} {rest : List AV} {σ : Heap} {cs : List AV} {R : AV → Heap → Prop} (hen : Enters P f) (hr : σ[r]? = some (.cells cs)) (hcl : cs.length = (off + len) * k)
    (h : ∀ cap, len ≤ cap → ACalls P f (.arc k r off len cap :: rest) (σ.set r (.cells (cs ++ List.replicate ((cap - len) * k) .any))) fun v σ' => ∃ v' cs' tl,
      (v = v' ∨ ∃ k2 r2 o2 l2 c2, v = .arc k2 r2 o2 l2 c2 ∧ v' = .arr k2 r2 o2 l2) ∧ σ'[r]? = some (.cells (cs' ++ tl)) ∧ R v' (σ'.set r (.cells cs'))) : ACalls P f (.arr k r off len :: rest) σ R := by
  have hrl := (List.getElem?_eq_some_iff.1 hr).1
  refine .inl ⟨hen, fun C cargs hI hv => ?_⟩
  obtain ⟨c, cs', rfl, hx, hrest⟩ := hv.inv
  obtain ⟨b, cap, e, n, hb, hcap, hsh, hbd, rfl⟩ := hx.arr_inv
  obtain ⟨hnp, carr, e', lo, hi, hc, hsz, hfr, hrel⟩ := hI.cells hb hr
  have hn : carr.size = n := by
    simp [World.shape?, hc] at hsh
    exact hsh.2
  have hI2 : Inv C (σ.set r (.cells (cs ++ List.replicate ((cap - len) * k) .any))) := hI.retell hb hr rfl fun c hc' _ => by
    rw [hc] at hc'
    obtain rfl := Option.some.inj hc'
    refine .cells _ carr e' lo hi ?_ hfr fun i x d hx hd => ?_
    · rw [List.length_append, List.length_replicate, hcl, hn, ← Nat.add_mul, show off + len + (cap - len) = off + cap by omega]
      exact hbd.1
    · rcases Nat.lt_or_ge i cs.length with h1 | h1
      · rw [List.getElem?_append_left h1] at hx
        exact hrel i x d hx hd
      · rw [List.getElem?_append_right h1] at hx
        have := List.mem_of_getElem? hx
        rw [List.mem_replicate] at this
        rw [this.2]
        exact .any d
  have hv2 : VRs C (.arc k r off len cap :: rest) (.slice (some ⟨b, off * k, none⟩) len cap :: cs') := .cons (.arc k r off len b cap e n hb hcap hsh hbd) hrest
  have fin : ∀ {C' : Ctx} {v : AV} {d : Value} {σ' : Heap}, Ext C C' → Inv C' σ' → VR C' v d → (∃ v' cs' tl, (v = v' ∨ ∃ k2 r2 o2 l2 c2, v = .arc k2 r2 o2 l2 c2 ∧ v' = .arr k2 r2 o2 l2) ∧ σ'[r]? = some (.cells (cs' ++ tl)) ∧ R v' (σ'.set r (.cells cs'))) →
      ∃ (v' : AV) (σ2 : Heap), Inv C' σ2 ∧ VR C' v' d ∧ R v' σ2 := by
    rintro C' v d σ' hE hI' hv' ⟨v', ds, tl, hvv, hr', hR⟩
    refine ⟨v', _, hI'.retell (hE.blk_at hb) hr' rfl fun c hc' hrel => ?_, ?_, hR⟩
    · obtain ⟨carr, e, lo, hi, rfl, h1, h2, h3⟩ := hrel.cells_inv
      refine .cells ds carr e lo hi (by rw [List.length_append] at h1; omega) h2 fun i x d hx hd => h3 i x d ?_ hd
      rw [List.getElem?_append_left (List.getElem?_eq_some_iff.1 hx).1]
      exact hx
    · rcases hvv with rfl | ⟨k2, r2, o2, l2, c2, rfl, rfl⟩
      · exact hv'
      · obtain ⟨b2, e2, n2, q1, q2, q3, q4, rfl⟩ := hv'.arc_inv
        exact .arr k2 r2 o2 l2 b2 c2 e2 n2 q1 q2 q3 q4
  rcases h cap hcap with h | h
  · refine (h.2 C _ hI2 hv2).mono ?_
    rintro en w' ⟨d, C', av, σ', rfl, rfl, hE, hI', hv', hR⟩
    obtain ⟨v', σ2, a1, a2, a3⟩ := fin hE hI' hv' hR
    exact ⟨d, C', v', σ2, rfl, rfl, hE, a1, a2, a3⟩
  · obtain ⟨d, C', av, σ', hrun, _⟩ := h C _ hI2 hv2
    rw [hen] at hrun
    cases hrun
end Ab
namespace Ab
open Go Go.RowKit Go.Proofs
attribute [local irreducible] aws awp aw1 Og Om Oc Oa Ogd Ov Ot awd aw1d awh aw1h Ogh Ohd awl Ogl Ohl awv Ogv Ohv QThen QBlock QFn QFnM QRo QBe ACode AYield
theorem Fr.tail {n e lo hi k : Nat} (h : Fr n e lo hi) (hk : Kt k e) (h1 : k ≠ 1) : ¬ (lo ≤ n ∧ n < hi) := by
  rcases hk with hk | hk
  · exact absurd hk h1
  · exact h.2.resolve_left hk
set_option maxRecDepth 4000 in
theorem overlaps_calls {r r2 off len off2 len2 cap2 : Nat} {cs ds : List AV} (σ : Heap) (hne : r ≠ r2) (hr : σ[r]? = some (.cells cs)) (hr2 : σ[r2]? = some (.cells ds)) (hl : off * 3 < cs.length) (hl2 : 0 < ds.length) :
    ACalls Tryz.prog 165 [.arr 3 r off len, .arc 3 r2 off2 len2 cap2] σ fun v σ' => v = .bool false ∧ σ' = σ := by
  refine .inr fun C cargs hI hv => ?_
  obtain ⟨c, cs', rfl, hx, hrest⟩ := hv.inv
  obtain ⟨d, cs'', rfl, hy, hrest⟩ := hrest.inv
  obtain rfl := hrest.of_nil
  obtain ⟨b, cap, e, n, hb, hcap, hsh, hbd, rfl⟩ := hx.arr_inv
  obtain ⟨b2, e2, n2, hb2, hcap2, hsh2, hbd2, rfl⟩ := hy.arc_inv
  obtain ⟨_, carr, e', lo, hi, hc, hsz, hfr, _⟩ := hI.cells hb hr
  obtain ⟨_, carr2, e2', lo2, hi2, hc2, hsz2, hfr2, _⟩ := hI.cells hb2 hr2
  have hbb : b ≠ b2 := fun h => hne (hI.inj r r2 b _ _ hb (h ▸ hb2) hr hr2 rfl rfl)
  have he : e' = e ∧ carr.size = n := by simpa [World.shape?, hc] using hsh
  have he2 : e2' = e2 ∧ carr2.size = n2 := by simpa [World.shape?, hc2] using hsh2
  refine ⟨.bool false, C, .bool false, σ, ?_, Ext.refl C, hI, .bool _, rfl, rfl⟩
  have hrun := Lib.run_overlaps_apart (P := Tryz.prog) C.w 57 4 88 (by kernel_rfl) 3 (fun w => run_sz w (b := true) (by kernel_rfl)) ⟨b, off * 3, none⟩ ⟨b2, off2 * 3, none⟩ len cap len2 cap2 hbb e e2 n n2 hsh hsh2 (by omega)
    (by simp only [World.frozen?, hc]; simpa using hfr.1 (off * 3) (by omega))
    (by simp only [World.frozen?, hc]; rw [← he.2]; rw [he.1] at hfr; simpa using hfr.tail hbd.2 (by decide))
  rw [run_callFunc_extern (P := Tryz.prog) Tryz.func165 (by kernel_rfl) (by kernel_rfl) (by kernel_rfl) (e := Extern.SlicesOverlaps.overlaps #[57, 57] #[4]) (by kernel_rfl), hrun]
  rfl
/-- what is inserted -/
def insC (cs ds : List AV) (i : Nat) : List AV := cs.take (i * 3) ++ ds ++ cs.drop (i * 3)
theorem acopy_arr {N off len m : Nat} {y : AV} {σ : Heap} {A news : List AV} (hN : σ[N]? = some (.cells A)) (hy : acells 3 y σ = some (news, m)) (hm : m ≤ len) (hA : (off + m) * 3 ≤ A.length) :
    acopy Tryz.prog #[57, 57] (.arr 3 N off len) y σ = some (.int .i64 m, σ.set N (.cells (wr A (off * 3) news))) := by
  have he : telem Tryz.prog 57 = some 88 := by simp
  have hs : tsa Tryz.prog 88 = some (3, true) := by simp
  simp [-acells, acopy, he, hs, hy, hN, hm, hA]
theorem acopy_arc {N off len cap : Nat} {y : AV} {σ : Heap} : acopy Tryz.prog #[57, 57] (.arc 3 N off len cap) y σ = none := by
  have he : telem Tryz.prog 57 = some 88 := by simp
  have hs : tsa Tryz.prog 88 = some (3, true) := by simp
  simp only [acopy, he, hs]
  rw [if_pos (by decide)]
  split <;> rfl
theorem acells_row {k r off len : Nat} {σ : Heap} {cs : List AV} (hr : σ[r]? = some (.cells cs)) (hl : (off + len) * k ≤ cs.length) (ho : ∀ x ∈ sub cs (off * k) (len * k), AV.one x = true) :
    acells k (.arr k r off len) σ = some (sub cs (off * k) (len * k), len) := by
  have h1 : (sub cs (off * k) (len * k)).all AV.one = true := List.all_eq_true.2 ho
  simp only [acells, hr]
  rw [if_pos ⟨trivial, hl, h1⟩]
theorem acells_rowc {k r off len cap : Nat} {σ : Heap} {cs : List AV} (hr : σ[r]? = some (.cells cs)) (hl : (off + len) * k ≤ cs.length) (ho : ∀ x ∈ sub cs (off * k) (len * k), AV.one x = true) :
    acells k (.arc k r off len cap) σ = some (sub cs (off * k) (len * k), len) := by
  have h1 : (sub cs (off * k) (len * k)).all AV.one = true := List.all_eq_true.2 ho
  simp only [acells, hr]
  rw [if_pos ⟨trivial, hl, h1⟩]
theorem azero_rec (n : Nat) : ∃ Z, azero Tryz.prog 88 n = some Z ∧ Z.length = n * 3 := by
  have hs : tsa Tryz.prog 88 = some (3, true) := by simp
  have hz : tz Tryz.prog 88 = some (.agg [.int .i64 0, .int .i64 0, .nils]) := by simp
  unfold azero
  rw [hs, hz]
  exact ⟨_, if_pos (by decide), by simp⟩
theorem grow_eq {r n i cap : Nat} {cs tl : List AV} {σ : Heap} (hr : σ[r]? = some (.cells (cs ++ tl))) (hc : cs.length = n * 3) (hi : i < n) (hcap : cap < n + 1) (hn : n ≤ 2 ^ 20) :
    ∃ Z, Z.length = (n + 1 - i) * 3 ∧ aappendZ Tryz.prog #[57, 3] (.arc 3 r 0 i cap) ((n : Int) + 1 - i) σ = some (.arr 3 σ.length 0 (n + 1), σ ++ [.cells (cs.take (i * 3) ++ Z)]) := by
  have he : telem Tryz.prog 57 = some 88 := by simp
  have hs : tsa Tryz.prog 88 = some (3, true) := by simp
  have hk : tintk Tryz.prog 3 = some .i64 := by simp
  have hz : tzk Tryz.prog 88 3 = true := by simp
  have hb : tby Tryz.prog 88 = 40 := by simp
  obtain ⟨Z, hZ, hl⟩ := azero_rec (n + 1 - i)
  refine ⟨Z, hl, ?_⟩
  have hm : (((n : Int) + 1 - i).toNat) = n + 1 - i := by omega
  simp only [aappendZ, he, hs, hk, hm, hZ, hr]
  rw [if_pos ⟨hz, trivial, by omega, by omega, by rw [List.length_append, hc]; omega, by rw [hb]; omega⟩]
  rw [show i + (n + 1 - i) = n + 1 by omega]
  have : sub (cs ++ tl) (0 * 3) (i * 3) = cs.take (i * 3) := by
    simp [sub, List.take_append, hc]
    omega
  rw [this]
theorem ins_grow {n i : Nat} {cs ds Z : List AV} (hc : cs.length = n * 3) (hd : ds.length = 3) (hZ : Z.length = (n + 1 - i) * 3) (hi : i < n) :
    wr (wr (cs.take (i * 3) ++ Z) (i * 3) ds) ((i + 1) * 3) (cs.drop (i * 3)) = insC cs ds i := by
  have e1 : (cs.take (i * 3)).length = i * 3 := by rw [List.length_take]; omega
  have h1 : wr (cs.take (i * 3) ++ Z) (i * 3) ds = cs.take (i * 3) ++ ds ++ Z.drop 3 := by
    unfold wr
    rw [List.take_append_of_le_length (by omega), List.take_of_length_le (by omega), List.drop_append, e1, List.drop_eq_nil_of_le (by omega), hd]
    simp
  rw [h1]
  unfold wr insC
  have e2 : (cs.take (i * 3) ++ ds).length = (i + 1) * 3 := by rw [List.length_append, e1, hd]; omega
  rw [List.take_append_of_le_length (by omega), List.take_of_length_le (by omega)]
  have e3 : List.drop ((i + 1) * 3 + (cs.drop (i * 3)).length) (cs.take (i * 3) ++ ds ++ Z.drop 3) = [] :=
    List.drop_eq_nil_of_le (by rw [List.length_append, List.length_drop, List.length_drop, e2, hZ, hc]; omega)
  rw [e3, List.append_nil]
end Ab
namespace Ab
open Go Go.RowKit Go.Proofs
attribute [local irreducible] aws awp aw1 Og Om Oc Oa Ogd Ov Ot awd aw1d awh aw1h Ogh Ohd awl Ogl Ohl awv Ogv Ohv QThen QBlock QFn QFnM QRo QBe ACode AYield
theorem acopyC_arc {r off len c off2 len2 c2 m : Nat} {σ : Heap} {D : List AV} (hr : σ[r]? = some (.cells D)) (hm : Nat.min len2 len = m) (h1 : (off + m) * 3 ≤ D.length) (h2 : (off2 + m) * 3 ≤ D.length) (ho : ∀ x ∈ sub D (off2 * 3) (m * 3), AV.one x = true) :
    acopyC Tryz.prog #[57, 57] (.arc 3 r off len c) (.arc 3 r off2 len2 c2) σ = some (.int .i64 m, σ.set r (.cells (wr D (off * 3) (sub D (off2 * 3) (m * 3))))) := by
  have he : telem Tryz.prog 57 = some 88 := by simp
  have hs : tsa Tryz.prog 88 = some (3, true) := by simp
  have ha : (sub D (off2 * 3) (m * 3)).all AV.one = true := List.all_eq_true.2 ho
  simp only [acopyC, he, hs, hr, hm]
  rw [if_pos (by decide), if_pos ⟨trivial, trivial, h1, h2, ha⟩]
theorem acopyC_arr {r r2 off len c off2 len2 m : Nat} {σ : Heap} {D E : List AV} (hr : σ[r]? = some (.cells D)) (hr2 : σ[r2]? = some (.cells E)) (hm : Nat.min len2 len = m) (h1 : (off + m) * 3 ≤ D.length) (h2 : (off2 + m) * 3 ≤ E.length) (ho : ∀ x ∈ sub E (off2 * 3) (m * 3), AV.one x = true) :
    acopyC Tryz.prog #[57, 57] (.arc 3 r off len c) (.arr 3 r2 off2 len2) σ = some (.int .i64 m, σ.set r (.cells (wr D (off * 3) (sub E (off2 * 3) (m * 3))))) := by
  have he : telem Tryz.prog 57 = some 88 := by simp
  have hs : tsa Tryz.prog 88 = some (3, true) := by simp
  have ha : (sub E (off2 * 3) (m * 3)).all AV.one = true := List.all_eq_true.2 ho
  simp only [acopyC, he, hs, hr, hr2, hm]
  rw [if_pos (by decide), if_pos ⟨trivial, trivial, h1, h2, ha⟩]
theorem ins_place {n i : Nat} {cs ds tl : List AV} (hc : cs.length = n * 3) (hd : ds.length = 3) (hi : i < n) :
    wr (wr (cs ++ tl) ((i + 1) * 3) (cs.drop (i * 3))) (i * 3) ds = insC cs ds i ++ tl.drop 3 := by
  have e1 : ((cs ++ tl).take ((i + 1) * 3)).length = i * 3 + 3 := by rw [List.length_take, List.length_append]; omega
  have e2 : (cs.drop (i * 3)).length = (n - i) * 3 := by rw [List.length_drop]; omega
  have e3 : (cs ++ tl).drop ((i + 1) * 3 + (cs.drop (i * 3)).length) = tl.drop 3 := by
    rw [e2, show (i + 1) * 3 + (n - i) * 3 = cs.length + 3 by omega, List.drop_append, List.drop_eq_nil_of_le (by omega)]
    simp
  unfold wr insC
  rw [e3, hd]
  rw [List.append_assoc ((cs ++ tl).take ((i + 1) * 3)), List.take_append_of_le_length (by omega), List.take_take, Nat.min_eq_left (by omega), List.take_append_of_le_length (by omega), List.drop_left' e1]
  simp
set_option maxHeartbeats 2000000 in
set_option maxRecDepth 8000 in
theorem insert_arc {r r2 n i cap : Nat} {cs ds : List AV} (σ : Heap) (hne : r ≠ r2) (hr : σ[r]? = some (.cells (cs ++ List.replicate ((cap - n) * 3) .any))) (hr2 : σ[r2]? = some (.cells ds)) (hc : cs.length = n * 3) (hd : ds.length = 3) (ho : ∀ x ∈ cs, AV.one x = true) (hod : ∀ x ∈ ds, AV.one x = true)
    (hi : i < n) (hcap : n ≤ cap) (hn : n ≤ 2 ^ 20) :
    ACalls Tryz.prog 88 [.arc 3 r 0 n cap, .int .i64 i, .arr 3 r2 0 1] σ fun v σ' =>
      (v = .arr 3 σ.length 0 (n + 1) ∧ σ' = σ ++ [.cells (insC cs ds i)]) ∨
      (n + 1 ≤ cap ∧ v = .arc 3 r 0 (n + 1) cap ∧ σ' = σ.set r (.cells (insC cs ds i ++ List.replicate ((cap - (n + 1)) * 3) .any))) := by
  refine acalls_fn Tryz.func88 rfl (enters_fn Tryz.func88 (by decide) rfl) ?_
  have hz : ¬ ((i : Int) = n) := by omega
  have h0 : (i : Int) ≤ n := by omega
  have h1 : i ≤ n := by omega
  have hci : ¬ cap = i := by omega
  have hw : IntKind.i64.wrap ((n : Int) + 1) = n + 1 := w64 (by omega) (by omega)
  have hw2 : IntKind.i64.wrap ((n : Int) + 1 - i) = n + 1 - i := w64 (by omega) (by omega)
  have hw3 : IntKind.i64.wrap ((i : Int) + 1) = i + 1 := w64 (by omega) (by omega)
  rcases Nat.lt_or_ge cap (n + 1) with hlt | hge
  · have hlt' : (cap : Int) < n + 1 := by omega
    obtain ⟨Z, hZl, hZ⟩ := grow_eq hr hc hi hlt hn
    have hic : i ≤ cap := by omega
    have hc0 : ¬ cap = 0 := by omega
    have hin : i ≤ n + 1 := by omega
    have hin' : ¬ i = n + 1 := by omega
    have hi1 : (0 : Int) ≤ (i : Int) + 1 := by omega
    have hi2 : i + 1 ≤ n + 1 := by omega
    have hi3 : ¬ i + 1 = n + 1 := by omega
    have hin2 : ¬ i = n := by omega
    have hrl := (List.getElem?_eq_some_iff.1 hr).1
    have hrl2 := (List.getElem?_eq_some_iff.1 hr2).1
    have hA : (cs.take (i * 3) ++ Z).length = (n + 1) * 3 := by rw [List.length_append, List.length_take, hZl, hc]; omega
    have k1 : sub ds 0 3 = ds := by unfold sub; rw [List.drop_zero, List.take_of_length_le (by omega)]
    have c1 : acopy Tryz.prog #[57, 57] (.arr 3 σ.length i (n + 1 - i)) (.arr 3 r2 0 1) (σ ++ [.cells (cs.take (i * 3) ++ Z)]) = some (.int .i64 1, σ ++ [.cells (wr (cs.take (i * 3) ++ Z) (i * 3) ds)]) := by
      rw [acopy_arr (news := ds) (m := 1) (A := cs.take (i * 3) ++ Z) (by simp) ?_ (by omega) (by rw [hA]; omega)]
      · simp [-acopy]
      · rw [acells_row (cs := ds) (by rw [List.getElem?_append_left hrl2]; exact hr2) (by omega) (by rw [show 0 * 3 = 0 from rfl, show 1 * 3 = 3 from rfl, k1]; exact hod), show 0 * 3 = 0 from rfl, show 1 * 3 = 3 from rfl, k1]
    obtain ⟨B, hB⟩ : ∃ B, wr (cs.take (i * 3) ++ Z) (i * 3) ds = B := ⟨_, rfl⟩
    have hBl : B.length = (n + 1) * 3 := by rw [← hB]; unfold wr; simp [List.length_take, List.length_drop, hc, hd, hZl]; omega
    have k2 : sub (cs ++ List.replicate ((cap - n) * 3) .any) (i * 3) ((n - i) * 3) = cs.drop (i * 3) := by
      unfold sub
      rw [List.drop_append_of_le_length (by omega), List.take_append_of_le_length (by rw [List.length_drop]; omega), List.take_of_length_le (by rw [List.length_drop]; omega)]
    have c2 : acopy Tryz.prog #[57, 57] (.arr 3 σ.length (i + 1) (n - i)) (.arc 3 r i (n - i) (cap - i)) (σ ++ [.cells B]) = some (.int .i64 ((n - i : Nat) : Int), σ ++ [.cells (wr B ((i + 1) * 3) (cs.drop (i * 3)))]) := by
      rw [acopy_arr (news := cs.drop (i * 3)) (m := n - i) (A := B) (by simp) ?_ (by omega) (by rw [hBl]; omega)]
      · simp [-acopy]
      · rw [acells_rowc (cs := cs ++ List.replicate ((cap - n) * 3) .any) (by rw [List.getElem?_append_left hrl]; exact hr) (by rw [List.length_append, hc]; omega) (by rw [k2]; exact fun x hx => ho x (List.mem_of_mem_drop hx)), k2]
    rw [hB] at c1
    simp [-aappend, -aappendZ, -acopy, -acopyC, Tryz.ntmps88, hz, h0, h1, hcap, hci, hw, hw2, hw3, hlt', hr, hr2, hZ, hic, hc0, hin, hin', c1]
    refine ACode_drawH [8] mixed (by kernel_rfl) ?_
    simp [-aappend, -aappendZ, -acopy, -acopyC, Tryz.ntmps88, h1, hcap, hci, hw3, hi1, hi2, hi3, hin2, c2, -wr]
    rw [← hB]
    exact ins_grow hc hd hZl hi
  · have hge' : ¬ ((cap : Int) < n + 1) := by omega
    have hn1 : (0 : Int) ≤ (n : Int) + 1 := by omega
    have hcp : n + 1 ≤ cap := hge
    have hc0 : ¬ cap = 0 := by omega
    have hi1 : (0 : Int) ≤ (i : Int) + 1 := by omega
    have hi2 : i + 1 ≤ n + 1 := by omega
    have hi3 : ¬ cap = i + 1 := by omega
    have hin : i ≤ n + 1 := by omega
    simp [-aappend, -aappendZ, -acopy, -acopyC, Tryz.ntmps88, hz, h0, h1, hcap, hci, hw, hw2, hw3, hge', hr, hr2, hn1, hcp, hc0, hi1, hi2, hi3, hin]
    refine StA.of ((overlaps_calls σ hne.symm hr2 hr (by omega) (by rw [List.length_append, hc]; omega)).mono ?_)
    rintro _ _ ⟨rfl, rfl⟩
    simp [-aappend, -aappendZ, -acopy, -acopyC, Tryz.ntmps88, hz, h0, h1, hcap, hci, hw, hw2, hw3, hge', hr, hr2, hn1, hcp, hc0, hi1, hi2, hi3, hin]
    refine ACode_drawH [8] mixed (by kernel_rfl) ?_
    simp [-aappend, -aappendZ, -acopy, -acopyC, Tryz.ntmps88, hz, h0, h1, hcap, hci, hw, hw2, hw3, hge', hr, hr2, hn1, hcp, hc0, hi1, hi2, hi3, hin]
    have hol : ∀ x ∈ cs.drop (i * 3), AV.one x = true := fun x hx => ho x (List.mem_of_mem_drop hx)
    have k1 : sub ds (0 * 3) (1 * 3) = ds := by unfold sub; rw [Nat.zero_mul, List.drop_zero, List.take_of_length_le (by omega)]
    have k2 : sub (cs ++ List.replicate ((cap - n) * 3) .any) (i * 3) ((n - i) * 3) = cs.drop (i * 3) := by
      unfold sub
      rw [List.drop_append_of_le_length (by omega), List.take_append_of_le_length (by rw [List.length_drop]; omega), List.take_of_length_le (by rw [List.length_drop]; omega)]
    have hDl : (cs ++ List.replicate ((cap - n) * 3) AV.any).length = cap * 3 := by rw [List.length_append, List.length_replicate, hc]; omega
    have hrl := (List.getElem?_eq_some_iff.1 hr).1
    rw [acopy_arc, acopyC_arc (m := n - i) hr (Nat.min_eq_right (by omega)) (by rw [hDl]; omega) (by rw [hDl]; omega) (by rw [k2]; exact hol), k2]
    simp only [Om_some]
    rw [acopy_arc, acopyC_arr (m := 1) (D := wr (cs ++ List.replicate ((cap - n) * 3) .any) ((i + 1) * 3) (cs.drop (i * 3))) (E := ds) (by rw [List.getElem?_set_self hrl]) (by rw [List.getElem?_set_ne hne]; exact hr2) (Nat.min_eq_left (by omega))
      (by unfold wr; simp only [List.length_append, List.length_take, List.length_drop, List.length_replicate]; omega) (by omega) (by rw [k1]; exact hod), k1]
    simp only [Om_some]
    rw [List.set_set, ins_place hc hd hi, List.drop_replicate, show (cap - n) * 3 - 3 = (cap - (n + 1)) * 3 by omega]
end Ab
