/-
  OWN OBJECTS THAT ARE LENT FOR GOOD, chosen one by one; loops whose rounds begin so.
-/
import Derived.Test.YtcoikmapjepdjaaGreatDoorC22
import Derived.Test.YtcoikmapjepdjaaGreatDoorC33
set_option linter.unusedSimpArgs false
set_option linter.unusedVariables false
set_option linter.unusedSectionVars false
namespace Ab
open Go Go.RowKit
variable [Mode]
variable {P : Program}
/-- none but the chosen objects -/
def barP (p : Nat → Bool) (σ : Heap) : Heap := σ.mapIdx fun r o => if p r then o else .dead
theorem barP_length {p : Nat → Bool} {σ : Heap} : (barP p σ).length = σ.length := by unfold barP; simp
theorem barP_get {p : Nat → Bool} {σ : Heap} {r : Nat} {o : AObj} (h : σ[r]? = some o) (hp : p r = true) : (barP p σ)[r]? = some o := by
  unfold barP
  rw [List.getElem?_mapIdx, h]
  simp [hp]
theorem barP_live {p : Nat → Bool} {σ : Heap} {r : Nat} {o : AObj} (h : (barP p σ)[r]? = some o) (hl : o.live = true) : σ[r]? = some o ∧ p r = true := by
  unfold barP at h
  rw [List.getElem?_mapIdx, Option.map_eq_some_iff] at h
  obtain ⟨x, hx, rfl⟩ := h
  by_cases hp : p r = true
  · rw [if_pos hp]; exact ⟨hx, hp⟩
  · rw [if_neg hp] at hl; cases hl
theorem Inv.barP {C : Ctx} {σ : Heap} (hI : Inv C σ) (p : Nat → Bool) : Inv C (barP p σ) :=
  ⟨by rw [barP_length]; exact hI.len, hI.glob, hI.base, hI.basep, hI.plt, fun r b o hr ho hl => hI.live r b o hr (barP_live ho hl).1 hl,
    fun r1 r2 b o1 o2 h1 h2 ho1 ho2 hl1 hl2 => hI.inj r1 r2 b o1 o2 h1 h2 (barP_live ho1 hl1).1 (barP_live ho2 hl2).1 hl1 hl2⟩
/-- a value seen anew: the chosen objects as what they hold -/
def Vw (p : Nat → Bool) (σ : Heap) (x y : AV) : Prop := x = y ∨ Fz 0 (barP p σ) x y
theorem VR.vw {C : Ctx} {σ : Heap} (hI : Inv C σ) {p : Nat → Bool} {x y : AV} {c : Value} (h : Vw p σ x y) (hv : VR C x c) : VR (C.ice 0 (Ab.barP p σ)) y c := by
  rcases h with rfl | h
  · exact hv.ext (Ext.ice 0 _)
  · exact (hv.frz (hI.barP p) h).ext (Ext.frz_ice 0 _)
/-- a heap seen anew: chosen objects die, others may hold values that are seen anew -/
structure View (p : Nat → Bool) (σ τ : Heap) : Prop where
  len : τ.length = σ.length
  live : ∀ (r : Nat) (o' : AObj), τ[r]? = some o' → o'.live = true → p r = false ∧ ∃ o, σ[r]? = some o ∧ o.live = true ∧ (o' = o ∨ ∃ cs cs', o = .cells cs ∧ o' = .cells cs' ∧ cs'.length = cs.length ∧ ∀ (i : Nat) (x y : AV), cs[i]? = some x → cs'[i]? = some y → Vw p σ x y)
theorem Inv.view {C : Ctx} {σ τ : Heap} {p : Nat → Bool} (hI : Inv C σ) (hV : View p σ τ) : Inv (C.ice 0 (Ab.barP p σ)) τ := by
  refine ⟨by rw [hV.len]; exact hI.len, hI.glob, hI.base, fun b hb => .inl (hI.basep b hb), fun b hb => ?_, fun r b o hr ho hl => ?_, fun r1 r2 b o1 o2 h1 h2 ho1 ho2 hl1 hl2 => ?_⟩
  · rcases hb with hb | ⟨r, o, _, h1, h2, h3⟩
    · exact hI.plt b hb
    · obtain ⟨_, c, hc, _⟩ := hI.live r b o h1 (barP_live h2 h3).1 h3
      exact (Array.getElem?_eq_some_iff.1 hc).1
  · obtain ⟨hp, o0, h0, hl0, hd⟩ := hV.live r o ho hl
    obtain ⟨hnp, c, hc, hR⟩ := hI.live r b o0 hr h0 hl0
    refine ⟨?_, c, hc, ?_⟩
    · rintro (hp' | ⟨r', o', g1, g2, g3, g4⟩)
      · exact hnp hp'
      · obtain ⟨k1, k2⟩ := barP_live g3 g4
        have e := hI.inj r r' b o0 o' hr g2 h0 k1 hl0 g4
        subst e
        rw [hp] at k2
        cases k2
    · rcases hd with rfl | ⟨cs, cs', rfl, rfl, hlen, hz⟩
      · exact hR.ext (Ext.ice 0 _)
      · cases hR with
        | cells _ vs e lo hi q1 q2 q3 =>
          refine .cells cs' vs e lo hi (by rw [hlen]; exact q1) (by first | exact q2 | (rw [hlen]; exact q2)) fun i x v hx hv => ?_
          have hi' : i < cs.length := by have := (List.getElem?_eq_some_iff.1 hx).1; omega
          exact (q3 i _ v (List.getElem?_eq_getElem hi') hv).vw hI (hz i _ x (List.getElem?_eq_getElem hi') hx)
  · obtain ⟨_, o1', g1, k1, _⟩ := hV.live r1 o1 ho1 hl1
    obtain ⟨_, o2', g2, k2, _⟩ := hV.live r2 o2 ho2 hl2
    exact hI.inj r1 r2 b o1' o2' h1 h2 g1 g2 k1 k2
/-- THE REST RUNS WITH OBJECTS THAT WILL NOT BE WRITTEN AGAIN. -/
theorem ACode.view {rd : Option Nat} {c : Code} {Q : Exit → Env → Heap → Prop} {u u' : List AV} {m : List Nat} {σ τ : Heap} (p : Nat → Bool) (hV : View p σ τ) (h : ACode P rd c Q { t := u', m := m } τ) (hl : u'.length = u.length)
    (hz : ∀ (i : Nat) (x y : AV), u[i]? = some x → u'[i]? = some y → Vw p σ x y) : ACode P rd c Q { t := u, m := m } σ := by
  intro C a ro hI he hr
  have he' : ER (C.ice 0 (barP p σ)) { t := u', m := m } a := ⟨⟨hl ▸ he.t.len, fun i y c hy hc => by
    have hi : i < u'.length := (List.getElem?_eq_some_iff.1 hy).1
    have hx : u[i]? = some (u[i]'(by omega)) := List.getElem?_eq_getElem (by omega)
    exact (he.t.at_ i _ c hx hc).vw hI (hz i _ y hx hy)⟩, he.m, fun i r d h1 h2 => he.mark i r d h1 h2⟩
  exact wpIn_mono (h (C.ice 0 (barP p σ)) a ro (hI.view hV) he' (hr.ext (Ext.ice 0 (barP p σ)))) fun _ _ _ hp => hp.ext (Ext.ice 0 (barP p σ))
/-- A CALL, ITS ARGUMENTS SEEN ANEW. -/
theorem ACalls.view {f : FuncId} {args args' : List AV} {σ τ : Heap} {R : AV → Heap → Prop} (p : Nat → Bool) (hV : View p σ τ) (h : ACalls P f args' τ R) (hl : args'.length = args.length)
    (hz : ∀ (i : Nat) (x y : AV), args[i]? = some x → args'[i]? = some y → Vw p σ x y) : ACalls P f args σ R := by
  have lent : ∀ {C : Ctx} {cargs : List Value}, Inv C σ → VRs C args cargs → VRs (C.ice 0 (barP p σ)) args' cargs := by
    intro C cargs hI hv
    refine ⟨hl ▸ hv.len, fun i y c hy hc => ?_⟩
    have hi := (List.getElem?_eq_some_iff.1 hy).1
    have hx : args[i]? = some (args[i]'(by omega)) := List.getElem?_eq_getElem (by omega)
    exact (hv.at_ i _ c hx hc).vw hI (hz i _ y hx hy)
  rcases h with h | h
  · refine .inl ⟨h.1, fun C cargs hI hv => (h.2 (C.ice 0 (barP p σ)) cargs (hI.view hV) (lent hI hv)).mono ?_⟩
    rintro e w' ⟨v, C', av, s, rfl, rfl, hE, hI', hv', hR⟩
    exact ⟨v, C', av, s, rfl, rfl, (Ext.ice 0 (barP p σ)).trans hE, hI', hv', hR⟩
  · refine .inr fun C cargs hI hv => ?_
    obtain ⟨v, C', av, s, hr, hE, hI', hv', hR⟩ := h (C.ice 0 (barP p σ)) cargs (hI.view hV) (lent hI hv)
    exact ⟨v, C', av, s, hr, (Ext.ice 0 (barP p σ)).trans hE, hI', hv', hR⟩
/-- A LOOP whose rounds begin so. -/
theorem ACode_loopTV {rd : Option Nat} {c : Code} {Q : Exit → Env → Heap → Prop} {env : Env} {σ : Heap} (I : Env → Heap → Prop) (μ : Env → Heap → Nat) (h0 : I env σ)
    (round : ∀ env σ, I env σ → awp P rd c (QThen (fun env' σ' => I env' σ' ∧ μ env' σ' < μ env σ) Q) env σ ∨ ∃ (p : Nat → Bool) (τ : Heap) (u' : List AV), View p σ τ ∧ u'.length = env.t.length ∧ (∀ (i : Nat) (x y : AV), env.t[i]? = some x → u'[i]? = some y → Vw p σ x y) ∧ awp P rd c (QThen (fun env' σ' => I env' σ' ∧ μ env' σ' < μ env σ) Q) { t := u', m := env.m } τ) : @StC _ P rd ⟨.loop c⟩ ⟨Q⟩ env σ :=
  ACode_loop I μ h0 fun env σ hi => by
    rcases round env σ hi with h | ⟨p, τ, u', hV, h1, h2, h3⟩
    · exact awp_sound c h
    · exact (awp_sound c h3).view p hV h1 h2
/-- the temporaries that are told are seen so, the others are anything -/
theorem pickT_vw {p : Nat → Bool} {σ : Heap} {u : List AV} {l : List (Nat × AV)} (h : ∀ q ∈ l, Vw p σ (tg u q.1) q.2) : ∀ (i : Nat) (x y : AV), u[i]? = some x → (pickT u l)[i]? = some y → Vw p σ x y := by
  unfold pickT
  suffices hh : ∀ (l : List (Nat × AV)), (∀ q ∈ l, Vw p σ (tg u q.1) q.2) → ∀ t : List AV, (∀ (i : Nat) (x y : AV), u[i]? = some x → t[i]? = some y → Vw p σ x y) → ∀ (i : Nat) (x y : AV), u[i]? = some x → (l.foldl (fun t q => ts t q.1 q.2) t)[i]? = some y → Vw p σ x y from
    hh l h _ fun i x y _ hy => by
      rw [List.getElem?_replicate] at hy
      split at hy
      · cases hy; exact .inr (.any _)
      · cases hy
  intro l
  induction l with
  | nil => intro _ t ht; exact ht
  | cons q l ih =>
    intro h t ht
    refine ih (fun q hq => h q (List.mem_cons_of_mem _ hq)) _ fun i x y hx hy => ?_
    have hp := h q (by simp)
    unfold ts at hy
    rw [List.getElem?_set] at hy
    split at hy
    · rename_i e
      subst e
      split at hy
      · cases hy
        unfold tg at hp
        rwa [List.getD_eq_getElem?_getD, hx] at hp
      · cases hy
    · exact ht i x y hx hy
/-- all cells behind n are chosen; marks and what lies before are left -/
def cellsP (n : Nat) (σ : Heap) (r : Nat) : Bool := decide (n ≤ r) && match σ[r]? with | some (.cells _) => true | _ => false
def AObj.sleep : AObj → AObj
  | .deferred => .deferred
  | _ => .dead
theorem cellsP_at {n r : Nat} {σ : Heap} {cs : List AV} (h : σ[r]? = some (.cells cs)) (hn : n ≤ r) : cellsP n σ r = true := by unfold cellsP; rw [h]; simp [hn]
theorem bar_cellsP {n r : Nat} {σ : Heap} {cs : List AV} (h : σ[r]? = some (.cells cs)) (hn : n ≤ r) : (barP (cellsP n σ) σ)[r]? = some (.cells cs) := barP_get h (cellsP_at h hn)
theorem View.sleep (S g : Heap) : View (cellsP S.length (S ++ g)) (S ++ g) (S ++ g.map AObj.sleep) := by
  refine ⟨by simp, fun r o' ho hl => ?_⟩
  rcases Nat.lt_or_ge r S.length with h | h
  · rw [List.getElem?_append_left h] at ho
    refine ⟨by unfold cellsP; simp; omega, o', by rw [List.getElem?_append_left h]; exact ho, hl, .inl rfl⟩
  · rw [List.getElem?_append_right h, List.getElem?_map, Option.map_eq_some_iff] at ho
    obtain ⟨x, hx, rfl⟩ := ho
    cases x with
    | deferred =>
      have e : (S ++ g)[r]? = some .deferred := by rw [List.getElem?_append_right h]; exact hx
      exact ⟨by unfold cellsP; rw [e]; simp, _, e, rfl, .inl rfl⟩
    | _ => simp [AObj.sleep, AObj.live] at hl
/-- marks that lie are taken -/
theorem leaveL_of {fn : Func} {R : AV → Heap → Prop} {env : Env} : ∀ (m : List Nat) (σ : Heap), m.Nodup → (∀ r ∈ m, σ[r]? = some .deferred) →
    (∀ σ' : Heap, σ'.length = σ.length → (∀ r, r ∉ m → σ'[r]? = σ[r]?) → leaveL P fn R env [] σ') → leaveL P fn R env m σ := by
  intro m
  induction m with
  | nil => intro σ _ _ hR; exact hR σ rfl fun _ _ => rfl
  | cons r m ih =>
    intro σ hn hd hR
    rw [List.nodup_cons] at hn
    refine ⟨hd r (by simp), ih _ hn.2 (fun s hs => ?_) fun σ' hl hk => hR σ' (by simpa using hl) fun s hs => ?_⟩
    · have hne : r ≠ s := fun e => hn.1 (e ▸ hs)
      rw [List.getElem?_set_ne hne]
      exact hd s (by simp [hs])
    · rw [List.mem_cons, not_or] at hs
      rw [hk s hs.2, List.getElem?_set_ne (fun e => hs.1 e.symm)]
/-- A ROUND; the loop's object while it is under way is no row of cells. -/
theorem AYield.round2 {r : Nat} {body : Code} {K : AV → Heap → Prop} {o : AObj} {σ : Heap} {args : List AV} {fn : FuncId} {t : List AV} {ps : Array Tmp} {assign : Code} {D : Nat} (ho : o = .loop fn t ps assign body .ready none D) (hr : σ[r]? = some o) (hl : args.length = ps.size)
    (h : ∀ o' : AObj, (∀ cs, o' ≠ .cells cs) → awp P (some r) assign (QBe P r body K o o') { t := bindT ps.toList args t } σ) : AYield P r args σ K := by
  subst ho
  unfold AYield
  rw [hr]
  refine ⟨hl, ?_⟩
  refine (awp_sound _ (h (.loop fn t ps assign body .busy none D) (fun cs e => by cases e))).mono fun e env s hq => ?_
  cases e with
  | normal =>
    obtain ⟨h1, h2⟩ := hq
    unfold QBegin
    simp only [h1, true_and]
    refine (awp_sound _ h2).mono fun e env s hq => ?_
    cases e with
    | normal =>
      obtain ⟨h3, h4⟩ := hq
      unfold QRound
      simp only [h3]
      exact h4
    | _ => cases hq
  | _ => cases hq
/-- what is seen so through chosen objects is seen so at the end of a call -/
theorem Fz.of_bar {p : Nat → Bool} {σ : Heap} {n : Nat} (hp : ∀ r, p r = true → n ≤ r) {x y : AV} (h : Fz 0 (barP p σ) x y) : Fz n σ x y := by
  induction h with
  | any v => exact .any v
  | bool b => exact .bool b
  | int k i => exact .int k i
  | str s => exact .str s
  | nilp => exact .nilp
  | gl g => exact .gl g
  | nils => exact .nils
  | nils_pl k => exact .nils_pl k
  | emp => exact .emp
  | emp_pl k => exact .emp_pl k
  | nn => exact .nn
  | nn_pl k => exact .nn_pl k
  | nilm => exact .nilm
  | nilf => exact .nilf
  | nili => exact .nili
  | ptr r off h => omega
  | yld r h => omega
  | keep k r off len h => omega
  | pp k l a b _ ih => exact .pp k l a b ih
  | pl0 k k' => exact .pl0 k k'
  | pl k l _ ih => exact .pl k l ih
  | arr k r off cs l f _ hr h1 _ ih =>
    obtain ⟨hr1, hr2⟩ := barP_live hr rfl
    exact .arr k r off cs l f (hp r hr2) hr1 h1 ih
  | agg l l' hl _ ih => exact .agg l l' hl ih
  | tup l l' hl _ ih => exact .tup l l' hl ih
/-- a row of numbers, as it is seen once it is whole -/
theorem Acc.vw {σ g : Heap} {v : AV} {l : List Int} {o : Option Nat} (h : Acc σ g 1 v (l.map fun x => AV.int .i64 x) o) {p : Nat → Bool} (hp : ∀ r, σ.length ≤ r → p r = true) : Vw p (σ ++ g) v (.pl 1 (l.map fun x => AV.int .i64 x)) := by
  have hv := h.val
  cases o with
  | none =>
    obtain ⟨rfl, e⟩ := hv
    rw [e]
    exact .inr (.nils_pl 1)
  | some jo =>
    obtain ⟨rfl, hjo⟩ := hv
    have hfl : (l.map fun x => AV.int .i64 x).flatMap AV.cells = l.map fun x => AV.int .i64 x := by
      clear h hjo
      induction l with
      | nil => rfl
      | cons w t ih => rw [List.map_cons, List.flatMap_cons, ih]; rfl
    rw [hfl] at hjo
    have hT : (σ ++ g)[σ.length + jo]? = some (.cells (l.map fun x => AV.int .i64 x)) := by rw [List.getElem?_append_right (by omega), Nat.add_sub_cancel_left]; exact hjo
    refine .inr (.arr 1 _ 0 _ (l.map fun x => AV.int .i64 x) (fun i _ => ((l.map fun x => AV.int .i64 x)[i]?).getD .any) (Nat.zero_le _) (barP_get hT (hp _ (by omega))) (fun i x hx => ?_) fun i x hx j y hy => ?_)
    · obtain ⟨z, _, rfl⟩ := List.mem_map.1 (List.mem_of_getElem? hx)
      refine ⟨rfl, fun j y hy => ?_⟩
      cases j with
      | zero =>
        simp [AV.cells] at hy
        subst hy
        exact ⟨rfl, by rw [show (0 + i) * 1 + 0 = i by omega, hx]; rfl⟩
      | succ j => simp [AV.cells] at hy
    · obtain ⟨z, _, rfl⟩ := List.mem_map.1 (List.mem_of_getElem? hx)
      cases j with
      | zero =>
        simp [AV.cells] at hy
        subst hy
        rw [hx]
        exact .int _ _
      | succ j => simp [AV.cells] at hy
section
variable {rd : Option Nat} {a b c : Code} {Q : Exit → Env → Heap → Prop} {env : Env} {σ : Heap} {n : Nat}
theorem ACode_cutA (I : Env → Heap → Prop) (h2 : ∀ (env : Env) (σ : Heap), I env σ → ACode P rd (cutC n c).2 Q env σ) (h1 : awp P rd (cutC n c).1 (QThen I Q) env σ) : ACode P rd c Q env σ := by
  induction n generalizing c env σ with
  | zero =>
    rw [awp_cut0] at h1
    have := h2 _ _ h1
    have e : (cutC 0 c).2 = c := by cases c <;> rfl
    rw [e] at this
    exact this
  | succ n ih =>
    have skip : (cutC (n + 1) c) = (.skip, c) → ACode P rd c Q env σ := by
      intro e
      rw [e] at h1 h2
      exact h2 _ _ h1
    cases c with
    | seq a b =>
      refine ACode_seq ((awp_sound _ (awp_cut1 ▸ h1)).mono fun e env s hq => ?_)
      cases e with
      | normal => exact ih (fun env σ h => h2 env σ h) hq
      | _ => exact hq
    | _ => exact skip rfl
end
theorem View.rows {S g : Heap} {C C' : List AV} (hl : C'.length = C.length) (hz : ∀ (i : Nat) (x y : AV), C[i]? = some x → C'[i]? = some y → Vw (fun r => decide (S.length + 1 ≤ r)) (S ++ (.cells C :: g)) x y) :
    View (fun r => decide (S.length + 1 ≤ r)) (S ++ (.cells C :: g)) (S ++ (.cells C' :: g.map fun _ => AObj.dead)) := by
  refine ⟨by simp, fun r o' ho hlv => ?_⟩
  rcases Nat.lt_or_ge r S.length with h | h
  · rw [List.getElem?_append_left h] at ho
    exact ⟨by simp; omega, o', by rw [List.getElem?_append_left h]; exact ho, hlv, .inl rfl⟩
  · rw [List.getElem?_append_right h] at ho
    cases hr : r - S.length with
    | zero =>
      rw [hr] at ho
      simp at ho
      subst ho
      exact ⟨by simp; omega, .cells C, by rw [List.getElem?_append_right h, hr]; rfl, rfl, .inr ⟨C, C', rfl, rfl, hl, hz⟩⟩
    | succ k =>
      rw [hr] at ho
      simp only [List.getElem?_cons_succ, List.getElem?_map, Option.map_eq_some_iff] at ho
      obtain ⟨x, _, rfl⟩ := ho
      cases hlv
theorem Fz.heap_mono {n : Nat} {σ τ : Heap} (hm : ∀ (r : Nat) (cs : List AV), σ[r]? = some (.cells cs) → τ[r]? = some (.cells cs)) {x y : AV} (h : Fz n σ x y) : Fz n τ x y := by
  induction h with
  | any v => exact .any v
  | bool b => exact .bool b
  | int k i => exact .int k i
  | str s => exact .str s
  | nilp => exact .nilp
  | gl g => exact .gl g
  | nils => exact .nils
  | nils_pl k => exact .nils_pl k
  | emp => exact .emp
  | emp_pl k => exact .emp_pl k
  | nn => exact .nn
  | nn_pl k => exact .nn_pl k
  | nilm => exact .nilm
  | nilf => exact .nilf
  | nili => exact .nili
  | ptr r off h => exact .ptr r off h
  | yld r h => exact .yld r h
  | keep k r off len h => exact .keep k r off len h
  | pp k l a b _ ih => exact .pp k l a b ih
  | pl0 k k' => exact .pl0 k k'
  | pl k l _ ih => exact .pl k l ih
  | arr k r off cs l f h0 hr h1 _ ih => exact .arr k r off cs l f h0 (hm r cs hr) h1 ih
  | agg l l' hl _ ih => exact .agg l l' hl ih
  | tup l l' hl _ ih => exact .tup l l' hl ih
theorem Fz.bar_mono {p q : Nat → Bool} {σ : Heap} (hp : ∀ r, p r = true → q r = true) {x y : AV} (h : Fz 0 (barP p σ) x y) : Fz 0 (barP q σ) x y :=
  h.heap_mono fun r cs hr => by
    obtain ⟨h1, h2⟩ := barP_live hr rfl
    exact barP_get h1 (hp r h2)
end Ab
