/-
  WHAT A CALL LEAVES BEHIND, IN AN ORDER OF ITS OWN: the objects that the answer speaks of, numbered anew; the others are forgotten.
  FILES AT WORK: a file laid, what it has at a place.
  FILES AT WORK: the program's walks.
-/
import Derived.Test.YtcoikmapjepdjaaGreatDoorC13
import Derived.Test.YtcoikmapjepdjaaGreatDoorC15
import Derived.Test.YtcoikmapjepdjaaGreatDoorC27
import Derived.Test.YtcoikmapjepdjaaGreatDoorC29
set_option linter.unusedSimpArgs false
set_option linter.unusedVariables false
set_option linter.unusedSectionVars false
namespace Ab
open Go Go.RowKit
variable [Mode]
variable {P : Program}

/-- the old value and the new one: object i behind n is that which was j, where j stands at i in m -/
inductive Rn (n : Nat) (m : List Nat) : AV → AV → Prop
  | any (v : AV) : Rn n m v .any
  | bool (b : Bool) : Rn n m (.bool b) (.bool b)
  | int (k : IntKind) (i : Int) : Rn n m (.int k i) (.int k i)
  | str (s : List UInt8) : Rn n m (.str s) (.str s)
  | nilp : Rn n m .nilp .nilp
  | gl (g : Nat) : Rn n m (.gl g) (.gl g)
  | nils : Rn n m .nils .nils
  | nils_pl (k : Nat) : Rn n m .nils (.pl k [])
  | emp : Rn n m .emp .emp
  | emp_pl (k : Nat) : Rn n m .emp (.pl k [])
  | nn : Rn n m .nn .nn
  | nn_pl (k : Nat) : Rn n m .nn (.pl k [])
  | nilm : Rn n m .nilm .nilm
  | nilf : Rn n m .nilf .nilf
  | nili : Rn n m .nili .nili
  | pl0 (k k' : Nat) : Rn n m (.pl k []) (.pl k' [])
  | pl (k : Nat) (l : List AV) : (∀ (i : Nat) (x : AV), l[i]? = some x → ∀ (j : Nat) (y : AV), x.cells[j]? = some y → Rn n m y y) → Rn n m (.pl k l) (.pl k l)
  | arr (k i j off len : Nat) : m[i]? = some j → Rn n m (.arr k (n + j) off len) (.arr k (n + i) off len)
  | arr0 (k k' r off : Nat) : Rn n m (.arr k r off 0) (.pl k' [])
  | keep (k r off len : Nat) : r < n → Rn n m (.arr k r off len) (.arr k r off len)
  | ptr (i j off : Nat) : m[i]? = some j → Rn n m (.ptr (n + j) off) (.ptr (n + i) off)
  | mp (i j : Nat) : m[i]? = some j → Rn n m (.mp (n + j)) (.mp (n + i))
  | agg (l l' : List AV) (hl : l.length = l'.length) : (∀ (i : Nat) (x y : AV), l[i]? = some x → l'[i]? = some y → Rn n m x y) → Rn n m (.agg l) (.agg l')
  | tup (l l' : List AV) (hl : l.length = l'.length) : (∀ (i : Nat) (x y : AV), l[i]? = some x → l'[i]? = some y → Rn n m x y) → Rn n m (.tup l) (.tup l')
inductive ORn (n : Nat) (m : List Nat) : AObj → AObj → Prop
  | cells (cs cs' : List AV) : cs'.length ≤ cs.length → (∀ (i : Nat) (x x' : AV), cs[i]? = some x → cs'[i]? = some x' → Rn n m x x') → ORn n m (.cells cs) (.cells cs')
  | map (es es' : List (AV × AV)) : es.length = es'.length → (∀ (i : Nat) (e e' : AV × AV), es[i]? = some e → es'[i]? = some e' → Rn n m e.1 e'.1 ∧ Rn n m e.2 e'.2) → ORn n m (.map es) (.map es')

theorem VR.rn {C C' : Ctx} {n : Nat} {m bs : List Nat} (hn : C.blk.length = n) (hE : Ext C C') (hbs : ∀ (i j b : Nat), m[i]? = some j → C'.blk[n + j]? = some b → bs[i]? = some b) {v v' : AV} {c : Value} (hr : Rn n m v v') (h : VR C' v c) : VR (C'.re C bs) v' c := by
  have hat : ∀ (i j b : Nat), m[i]? = some j → C'.blk[n + j]? = some b → (C'.re C bs).blk[n + i]? = some b := by
    intro i j b h1 h2
    simp only [Ctx.re]
    rw [List.getElem?_append_right (by omega), hn, Nat.add_sub_cancel_left]
    exact hbs i j b h1 h2
  have hold : ∀ (r b : Nat), r < n → C'.blk[r]? = some b → (C'.re C bs).blk[r]? = some b := by
    intro r b h1 h2
    obtain ⟨e, he⟩ := hE.blk
    rw [he, List.getElem?_append_left (by omega)] at h2
    simp only [Ctx.re]
    rw [List.getElem?_append_left (by omega)]
    exact h2
  induction hr generalizing c with
  | any v => exact .any c
  | bool b => cases h; exact .bool b
  | int k i => cases h; exact .int k i
  | str s => cases h; exact .str s
  | nilp => cases h; exact .nilp
  | gl g => cases h; exact .gl g
  | nils => cases h; exact .nils
  | nils_pl k => cases h; exact .pl0 k none 0 fun _ => rfl
  | emp => cases h; exact .emp _
  | emp_pl k => cases h; exact .pl0 k _ 0 fun _ => rfl
  | nn => cases h; exact .nn _ _
  | nn_pl k => cases h; exact .pl0 k _ _ fun h => by cases h
  | nilm => cases h; exact .nilm
  | nilf => cases h; exact .nilf
  | nili => cases h; exact .nili
  | pl0 k k' =>
    obtain ⟨A, cap, rfl, h1, h2⟩ := h.pl_inv
    exact .pl0 k' A cap h.pl_cap
  | pl k l _ ih =>
    obtain ⟨A, cap, rfl, h1, h2⟩ := h.pl_inv
    rcases h2 with rfl | ⟨b, o, rfl, hrow⟩
    · exact .pl0 k A cap h.pl_cap
    · exact .pl k l b o l.length cap hrow.f hrow.1 rfl h1 (fun i x hx => ⟨(hrow.2 i x hx).1, fun j y hy => ⟨((hrow.2 i x hx).2 j y hy).1, (hrow.f_eq hx hy).1⟩⟩)
        (fun i x hx j y hy => ih i x hx j y hy (hrow.f_eq hx hy).2)
  | arr k i j off len hm => obtain ⟨b, cap, e, q, hb, h1, h2, h3, rfl⟩ := h.arr_inv; exact .arr k _ off len b cap e q (hat i j b hm hb) h1 h2 h3
  | arr0 k k' r off => obtain ⟨b, cap, e, q, hb, h1, h2, h3, rfl⟩ := h.arr_inv; exact .pl0 k' _ cap fun h => by cases h
  | keep k r off len hr => obtain ⟨b, cap, e, q, hb, h1, h2, h3, rfl⟩ := h.arr_inv; exact .arr k r off len b cap e q (hold r b hr hb) h1 h2 h3
  | ptr i j off hm => obtain ⟨b, hb, rfl⟩ := h.ptr_inv; exact .ptr _ off b (hat i j b hm hb)
  | mp i j hm => obtain ⟨b, hb, rfl⟩ := h.mp_inv; exact .mp _ b (hat i j b hm hb)
  | agg l l' hl _ ih =>
    obtain ⟨cs, rfl, hcs⟩ := h.agg_inv
    exact .agg l' cs (by rw [← hl]; exact hcs.len) fun i y c hy hc => by
      have hi := (List.getElem?_eq_some_iff.1 hy).1
      have hx : l[i]? = some (l[i]'(by omega)) := List.getElem?_eq_getElem (by omega)
      exact ih i _ y hx hy (hcs.at_ i _ c hx hc)
  | tup l l' hl _ ih =>
    obtain ⟨cs, rfl, hcs⟩ := h.tup_inv
    exact .tup l' cs (by rw [← hl]; exact hcs.len) fun i y c hy hc => by
      have hi := (List.getElem?_eq_some_iff.1 hy).1
      have hx : l[i]? = some (l[i]'(by omega)) := List.getElem?_eq_getElem (by omega)
      exact ih i _ y hx hy (hcs.at_ i _ c hx hc)
theorem canon_inv {C C' : Ctx} {σ : Heap} (hI : Inv C σ) (hE : Ext C C') {objs objs' : List AObj} (hI' : Inv C' (σ ++ objs)) {m bs : List Nat} (hlen : bs.length = objs'.length) (hml : m.length = objs'.length) (hnd : m.Nodup)
    (hbs : ∀ (i j b : Nat), m[i]? = some j → C'.blk[σ.length + j]? = some b → bs[i]? = some b)
    (hobj : ∀ (i : Nat) (o' : AObj), objs'[i]? = some o' → ∃ (j : Nat) (o : AObj), m[i]? = some j ∧ objs[j]? = some o ∧ ORn σ.length m o o') : Ext C (C'.re C bs) ∧ Inv (C'.re C bs) (σ ++ objs') := by
  have hn := hI.len
  have hn' := hI'.len
  rw [List.length_append] at hn'
  have hup := re_up hn hE bs
  obtain ⟨e, he⟩ := hE.blk
  have at1 : ∀ r b, r < σ.length → (C'.re C bs).blk[r]? = some b → C.blk[r]? = some b ∧ C'.blk[r]? = some b := by
    intro r b hr h
    simp only [Ctx.re] at h
    rw [List.getElem?_append_left (by omega)] at h
    exact ⟨h, hE.blk_at h⟩
  have at2 : ∀ r b, σ.length ≤ r → (C'.re C bs).blk[r]? = some b → bs[r - σ.length]? = some b := by
    intro r b hr h
    simp only [Ctx.re] at h
    rw [List.getElem?_append_right (by omega), hn] at h
    exact h
  have live' : ∀ (i b : Nat) (o' : AObj), bs[i]? = some b → objs'[i]? = some o' → ∃ (j : Nat) (o : AObj), m[i]? = some j ∧ C'.blk[σ.length + j]? = some b ∧ (σ ++ objs)[σ.length + j]? = some o ∧ o.live = true ∧ ORn σ.length m o o' := by
    intro i b o' h1 h2
    obtain ⟨j, o, h3, h4, h5⟩ := hobj i o' h2
    have hj := (List.getElem?_eq_some_iff.1 h4).1
    have h6 : C'.blk[σ.length + j]? = some (C'.blk[σ.length + j]'(by omega)) := List.getElem?_eq_getElem (by omega)
    have h7 := hbs i j _ h3 h6
    rw [h1] at h7
    refine ⟨j, o, h3, by rw [h6, ← h7], by rw [List.getElem?_append_right (by omega), Nat.add_sub_cancel_left]; exact h4, ?_, h5⟩
    cases h5 <;> rfl
  refine ⟨⟨hE.w0, ⟨bs, rfl⟩, hE.pers, hE.keep, hE.shape, hE.size, hE.drawn⟩, by simp [Ctx.re, hn, hlen], hI'.glob, hI'.base, hI'.basep, hI'.plt, fun r b o hr ho hl => ?_, fun r r' b o o' hr hr' ho ho' hl hl' => ?_⟩
  · rcases Nat.lt_or_ge r σ.length with h | h
    · obtain ⟨h1, h2⟩ := at1 r b h hr
      rw [List.getElem?_append_left h] at ho
      obtain ⟨hnp, c, hc, hR⟩ := hI'.live r b o h2 (by rw [List.getElem?_append_left h]; exact ho) hl
      obtain ⟨_, c₀, _, hR₀⟩ := hI.live r b o h1 ho hl
      have := ORel.frz_old (σ := []) (Nat.le_of_eq hn) hR₀ hR
      rw [frz_low] at this
      exact ⟨hnp, c, hc, this.ext hup⟩
    · have h2 := at2 r b h hr
      rw [List.getElem?_append_right h] at ho
      obtain ⟨j, o0, hj, hjb, hoj, hlo, hrel⟩ := live' _ b o h2 ho
      obtain ⟨hnp, c, hc, hR⟩ := hI'.live (σ.length + j) b o0 hjb hoj hlo
      refine ⟨hnp, c, hc, ?_⟩
      cases hrel with
      | cells cs cs' hcl hcr =>
        obtain ⟨carr, e, lo, hi, rfl, h3, h4, h5⟩ := hR.cells_inv
        refine .cells cs' carr e lo hi (Nat.le_trans hcl h3) h4 fun i x c hx hc => ?_
        have hi := (List.getElem?_eq_some_iff.1 hx).1
        have hci : cs[i]? = some (cs[i]'(by omega)) := List.getElem?_eq_getElem (by omega)
        exact (h5 i _ c hci hc).rn hn hE hbs (hcr i _ x hci hx)
      | map es es' hel her =>
        cases hR with
        | map _ ces clock g1 g2 =>
          refine .map es' ces clock (by omega) fun i x e hx he => ?_
          have hi := (List.getElem?_eq_some_iff.1 hx).1
          have hei : es[i]? = some (es[i]'(by omega)) := List.getElem?_eq_getElem (by omega)
          have g := g2 i _ e hei he
          have q := her i _ x hei hx
          exact ⟨g.1.rn hn hE hbs q.1, g.2.rn hn hE hbs q.2⟩
  · rcases Nat.lt_or_ge r σ.length with h | h <;> rcases Nat.lt_or_ge r' σ.length with h' | h'
    · rw [List.getElem?_append_left h] at ho
      rw [List.getElem?_append_left h'] at ho'
      exact hI.inj r r' b o o' (at1 r b h hr).1 (at1 r' b h' hr').1 ho ho' hl hl'
    · rw [List.getElem?_append_left h] at ho
      rw [List.getElem?_append_right h'] at ho'
      obtain ⟨j, o0, hj, hjb, hoj, hlo, hrel⟩ := live' _ b o' (at2 r' b h' hr') ho'
      have := hI'.inj r (σ.length + j) b o o0 (at1 r b h hr).2 hjb (by rw [List.getElem?_append_left h]; exact ho) hoj hl hlo
      omega
    · rw [List.getElem?_append_right h] at ho
      rw [List.getElem?_append_left h'] at ho'
      obtain ⟨j, o0, hj, hjb, hoj, hlo, hrel⟩ := live' _ b o (at2 r b h hr) ho
      have := hI'.inj (σ.length + j) r' b o0 o' hjb (at1 r' b h' hr').2 hoj (by rw [List.getElem?_append_left h']; exact ho') hlo hl'
      omega
    · rw [List.getElem?_append_right h] at ho
      rw [List.getElem?_append_right h'] at ho'
      obtain ⟨j, o0, hj, hjb, hoj, hlo, _⟩ := live' _ b o (at2 r b h hr) ho
      obtain ⟨j', o0', hj', hjb', hoj', hlo', _⟩ := live' _ b o' (at2 r' b h' hr') ho'
      have e1 := hI'.inj (σ.length + j) (σ.length + j') b o0 o0' hjb hjb' hoj hoj' hlo hlo'
      have e2 : j = j' := by omega
      subst e2
      obtain ⟨hi1, hv1⟩ := List.getElem?_eq_some_iff.1 hj
      obtain ⟨hi2, hv2⟩ := List.getElem?_eq_some_iff.1 hj'
      have := (List.getElem_inj hnd).1 (hv1.trans hv2.symm)
      omega
/-- **A CALL WHOSE OWN OBJECTS ARE NUMBERED ANEW.** -/
theorem ACalls.canon {f : FuncId} {args : List AV} {σ : Heap} {R : AV → Heap → Prop} (h : ACalls P f args σ fun v σ' => ∃ (objs objs' : List AObj) (m : List Nat) (v' : AV), σ' = σ ++ objs ∧ m.length = objs'.length ∧ m.Nodup ∧
    (∀ (i : Nat) (o' : AObj), objs'[i]? = some o' → ∃ (j : Nat) (o : AObj), m[i]? = some j ∧ objs[j]? = some o ∧ ORn σ.length m o o') ∧ Rn σ.length m v v' ∧ R v' (σ ++ objs')) : ACalls P f args σ R := by
  have key : ∀ {C C' : Ctx} {objs objs' : List AObj} {m : List Nat} {v v' : AV} {c : Value}, Inv C σ → Ext C C' → Inv C' (σ ++ objs) → m.length = objs'.length → m.Nodup →
      (∀ (i : Nat) (o' : AObj), objs'[i]? = some o' → ∃ (j : Nat) (o : AObj), m[i]? = some j ∧ objs[j]? = some o ∧ ORn σ.length m o o') → Rn σ.length m v v' → VR C' v c →
      ∃ C2 : Ctx, C2.w = C'.w ∧ Ext C C2 ∧ Inv C2 (σ ++ objs') ∧ VR C2 v' c := by
    intro C C' objs objs' m v v' c hI hE hI' hml hnd hobj hr hv
    have hbs : ∀ (i j b : Nat), m[i]? = some j → C'.blk[σ.length + j]? = some b → (m.map fun j => (C'.blk[σ.length + j]?).getD 0)[i]? = some b := by
      intro i j b h1 h2
      rw [List.getElem?_map, h1, Option.map_some, h2]
      rfl
    obtain ⟨h1, h2⟩ := canon_inv hI hE hI' (bs := m.map fun j => (C'.blk[σ.length + j]?).getD 0) (by rw [List.length_map]; exact hml) hml hnd hbs hobj
    exact ⟨C'.re C (m.map fun j => (C'.blk[σ.length + j]?).getD 0), rfl, h1, h2, hv.rn hI.len hE hbs hr⟩
  rcases h with h | h
  · refine .inl ⟨h.1, fun C cargs hI hv => (h.2 C cargs hI hv).mono ?_⟩
    rintro e w' ⟨v, C', av, σ', rfl, rfl, hE, hI', hv', objs, objs', m, v', rfl, hml, hnd, hobj, hr, hR⟩
    obtain ⟨C2, h1, h2, h3, h4⟩ := key hI hE hI' hml hnd hobj hr hv'
    exact ⟨v, C2, v', _, rfl, h1, h2, h3, h4, hR⟩
  · refine .inr fun C cargs hI hv => ?_
    obtain ⟨v, C', av, σ', hr0, hE, hI', hv', objs, objs', m, v', rfl, hml, hnd, hobj, hr, hR⟩ := h C cargs hI hv
    obtain ⟨C2, h1, h2, h3, h4⟩ := key hI hE hI' hml hnd hobj hr hv'
    exact ⟨v, C2, v', _, by rw [h1]; exact hr0, h2, h3, h4, hR⟩
end Ab
namespace Oyez
/-- where a file has a place -/
def idxOf (f : List Rec) (p : Place) : Option Nat := f.findIdx? fun r => decide (r.place = p)
end Oyez
namespace Ab
open Go Go.RowKit Go.Proofs
attribute [local irreducible] aws awp aw1 Og Om Oc Oa Ogd Ov Ot awd aw1d awh aw1h Ogh Ohd awl Ogl Ohl awv Ogv Ohv QThen QBlock QFn QFnM QRo QBe ACode AYield
theorem aw1h_mapUpdate {P : Program} {dst : Option Tmp} {ty : TypeId} {pos : String} {after : Array Edge} {g : Option (Nat × Bool)} {e : TypeId} {m x y : Operand} {Kh : AV → Heap → Prop} {env : Env} {σ : Heap} : aw1h P ⟨dst, .mapUpdate e m x y, ty, pos, after, g⟩ Kh env σ = Om ((amapUpdate P e (aval env.t m) (aval env.t x) (aval env.t y) σ).map (AV.any, ·)) Kh := by rw [aw1h_no rfl, aw1_mapUpdate]
attribute [simp] aw1h_mapUpdate
/-- the places of a file, each with where it is -/
def entsN (f : List Oyez.Rec) (e : Nat) : List (AV × AV) := (f.zipIdx e).map fun x => (placeAV x.1.place, AV.int .i64 x.2)
def ents (f : List Oyez.Rec) : List (AV × AV) := entsN f 0
end Ab
namespace Ab
open Go Go.RowKit Go.Proofs
attribute [local irreducible] aws awp aw1 Og Om Oc Oa Ogd Ov Ot awd aw1d awh aw1h Ogh Ohd awl Ogl Ohl awv Ogv Ohv QThen QBlock QFn QFnM QRo QBe ACode AYield
/-- a file at work: where it lies -/
def deskG (q : Nat) (f : List Oyez.Rec) : Heap := [.cells [fileAV f, .mp (q + 1)], .map (ents f)]
/-- a file at work lies there -/
structure DeskAt (σ : Heap) (v : AV) (f : List Oyez.Rec) : Prop where
  ex : ∃ r m, v = .ptr r 0 ∧ σ[r]? = some (.cells [fileAV f, .mp m]) ∧ σ[m]? = some (.map (ents f))
theorem DeskAt.more {σ : Heap} {v : AV} {f : List Oyez.Rec} (h : DeskAt σ v f) (g : Heap) : DeskAt (σ ++ g) v f := by
  obtain ⟨r, m, h1, h2, h3⟩ := h.ex
  exact ⟨r, m, h1, get_app h2, get_app h3⟩
/-- a state -/
def stAV (x : Oyez.St) : AV := .agg [.bool x.isSome, wordsAV (getW x)]
/-- words copied -/
def cloneV (n : Nat) (ws : List (List UInt8)) : AV := if ws = [] then .pl 1 [] else .arr 1 n 0 ws.length
def cloneG (ws : List (List UInt8)) : Heap := if ws = [] then [] else [.cells (strs ws)]
end Ab
