/-
  REGIONS THAT DRAW, with slice literals that are never written again: these are looked at at no other level.
-/
import Derived.Test.YtcoikmapjepdjaaGreatDoorC09
set_option linter.unusedSimpArgs false
set_option linter.unusedVariables false
set_option linter.unusedSectionVars false
namespace Ab
open Go Go.RowKit
variable [Mode]
variable {P : Program}
def levelsL (ops : List Oper) (H : List Nat) (W : List (Nat × Nat)) : Bool :=
  let ms := masks ops
  (List.range ops.length).all fun i => H.contains i || ((ops[i]?).map isLit).getD false || (List.range (H.length + 1)).all fun m =>
    (m == H.countP (fun h => decide (h < i))) || W.contains (i, m) ||
      H.zipIdx.any fun (h, p) => (bef ms i h && !decide (p < m)) || (bef ms h i && !decide (m ≤ p))
theorem fix_lit {o : Oper} {v : AV} {s : Heap} {env : Env} (h : ((some o).map isLit).getD false = true) : ¬ awFix P o v s env s := by
  have h : isLit o = true := h
  intro hf
  unfold awFix aw1 at hf
  split at hf
  · rename_i f args ts hop
    unfold isLit at h
    rw [hop] at h
    cases h
  · split at hf
    · rename_i v' s' hop
      exact lit_turns h hop hf.2
    · exact hf
theorem Done.drawsL {ops : List Oper} {H : List Nat} {W : List (Nat × Nat)} {env0 : Env} {σ : Heap} {rs : List AV} {es : List Env} {ss : List Heap} (hok : drawOk ops H = true) (hlv : levelsL ops H W = true) (hs0 : ss[0]? = some σ)
    (hd : Done P ops H env0 ops.length rs es ss) (hW : ∀ x ∈ W, match ops[x.1]?, rs[x.1]?, es[x.1]?, ss[x.2]? with
      | some o, some v, some e, some s => awantB ops e.t o.guard = some false ∨ awFix P o v s e s
      | _, _, _, _ => False) : Draws P ops H env0 σ (rOf rs) (sOf ss) := by
  obtain ⟨_, _, hHlt, hHord⟩ := drawOk_inv hok
  refine ⟨by simp [sOf, hs0], fun i o ho hi => ?_, fun p i o hp ho => ?_⟩
  · have hlt := (List.getElem?_eq_some_iff.1 ho).1
    have hcc : H.contains i = false := by simpa using hi
    have hc := countP_succ hHord i
    rw [hcc] at hc
    simp only [Bool.false_eq_true, if_false, Nat.add_zero] at hc
    rcases hd.one i o hlt ho with ⟨h1, h2⟩ | ⟨h1, h2, _⟩
    · rcases h2 with ⟨_, h2⟩ | h2
      · exact .inl ⟨h1, .inl h2⟩
      refine .inl ⟨h1, .inr fun m hm hall => ?_⟩
      rw [hc] at h2
      by_cases e : m = H.countP (fun h => decide (h < i))
      · subst e; exact h2
      · unfold levelsL at hlv
        simp only [List.all_eq_true, List.mem_range, Bool.or_eq_true] at hlv
        rcases hlv i hlt with (h | h) | h
        · rw [hcc] at h; cases h
        · rw [ho] at h
          exact absurd h2 (fix_lit h)
        · rcases h m (by omega) with (h | h) | h
          · simp at h; exact absurd h e
          · have := hW (i, m) (by simpa using h)
            simp only at this
            rw [ho] at this
            have hr := List.getElem?_eq_getElem (show i < rs.length by rw [hd.rl]; exact hlt)
            have he := List.getElem?_eq_getElem (show i < es.length by rw [hd.el]; exact hlt)
            have hsl := hd.sl
            have hcn : H.countP (fun h => decide (h < ops.length)) = H.length := by
              rw [List.countP_eq_length]
              intro a ha
              obtain ⟨q, hq⟩ := List.mem_iff_getElem?.1 ha
              simpa using hHlt q a hq
            have hs := List.getElem?_eq_getElem (show m < ss.length by omega)
            rw [hr, he, hs] at this
            simp only at this
            have e1 := hd.env i _ he
            rcases this with this | this
            · rw [e1, h1] at this; cases this
            · rw [e1] at this
              have e2 : rs[i]'(by rw [hd.rl]; exact hlt) = rOf rs i := by simp [rOf, hr]
              have e3 : ss[m]'(by omega) = sOf ss m := by simp [sOf, hs]
              rw [e2, e3] at this
              exact this
          · rw [List.any_eq_true] at h
            obtain ⟨⟨h', p⟩, hmem, hx⟩ := h
            have hp := List.mem_zipIdx_iff_getElem?.1 hmem
            simp only at hp hx
            have hpp : H[p]? = some h' := by simpa using hp
            obtain ⟨a1, a2⟩ := hall p h' hpp
            simp only [Bool.or_eq_true, Bool.and_eq_true, Bool.not_eq_true', decide_eq_false_iff_not] at hx
            rcases hx with ⟨b1, b2⟩ | ⟨b1, b2⟩
            · exact absurd (a1 b1) b2
            · exact absurd (a2 b1) b2
    · exact .inr ⟨h1, h2⟩
  · have hlt := (List.getElem?_eq_some_iff.1 ho).1
    have hcp : H.countP (fun h => decide (h < i)) = p := by
      have hpl := (List.getElem?_eq_some_iff.1 hp).1
      have e1 : (H.take p).countP (fun h => decide (h < i)) = p := by
        rw [List.countP_eq_length.2]
        · simp; omega
        · intro a ha
          obtain ⟨q, hq⟩ := List.mem_iff_getElem?.1 ha
          have hql := (List.getElem?_eq_some_iff.1 hq).1
          simp at hql
          rw [List.getElem?_take_of_lt (by omega)] at hq
          simpa using hHord q p a i hq hp (by omega)
      have e2 : (H.drop p).countP (fun h => decide (h < i)) = 0 := by
        rw [List.countP_eq_zero]
        intro a ha
        obtain ⟨q, hq⟩ := List.mem_iff_getElem?.1 ha
        rw [List.getElem?_drop] at hq
        rcases Nat.eq_zero_or_pos q with h0 | h0
        · subst h0; simp at hq; rw [hp] at hq; simp at hq; subst hq; simp
        · have := hHord p (p + q) i a hp hq (by omega)
          simp; omega
      rw [← List.take_append_drop p H, List.countP_append, e1, e2, Nat.add_zero]
    have hc := countP_succ hHord i
    have hci : H.contains i = true := by simpa using mem_of_getElem? hp
    rw [hci] at hc
    simp only [if_true] at hc
    rw [hcp] at hc
    rcases hd.one i o hlt ho with ⟨h1, h2⟩ | ⟨h1, h2, h3⟩
    · rcases h2 with ⟨h2, _⟩ | h2
      · rw [hci] at h2; cases h2
      rw [hc, hcp] at h2; exact .inl ⟨h1, h2⟩
    · rw [hc, hcp] at h3; exact .inr ⟨h1, h2, h3⟩
theorem adr_soundL {ops : List Oper} {H : List Nat} {W : List (Nat × Nat)} {K : Env → Heap → Prop} {env0 : Env} {σ : Heap} (hok : drawOk ops H = true) (hlv : levelsL ops H W = true) : ∀ (rest dn : List Oper) (i : Nat) (s : Heap) (rs : List AV) (es : List Env) (ss : List Heap), ops = dn ++ rest → dn.length = i →
    Done P ops H env0 i rs es ss → ss[0]? = some σ → sOf ss (H.countP (fun h => decide (h < i))) = s → adr P ops H W K rest i (envF ops (rOf rs) env0 tr i) s rs es ss →
    ∃ (r : Nat → AV) (S : Nat → Heap), Draws P ops H env0 σ r S ∧ K (envF ops r env0 tr ops.length) (S H.length) := by
  obtain ⟨_, _, hHlt, hHord⟩ := drawOk_inv hok
  intro rest
  induction rest with
  | nil =>
    intro dn i s rs es ss h1 h2 hd hs0 hs h
    simp at h1
    subst h1
    subst h2
    obtain ⟨hW, hK⟩ := h
    have hcn : H.countP (fun h => decide (h < ops.length)) = H.length := by
      rw [List.countP_eq_length]
      intro a ha
      obtain ⟨q, hq⟩ := List.mem_iff_getElem?.1 ha
      simpa using hHlt q a hq
    refine ⟨rOf rs, sOf ss, hd.drawsL hok hlv hs0 hW, ?_⟩
    rw [hcn] at hs
    rw [hs]
    exact hK
  | cons o rest ih =>
    intro dn i s rs es ss h1 h2 hd hs0 hs h
    have ho : ops[i]? = some o := by rw [h1, ← h2]; simp
    have hc := countP_succ hHord i
    have hrl := hd.rl
    have hsl := hd.sl
    have next : ∀ (v : AV) (ss' : List Heap) (s' : Heap), (if H.contains i then ss' = ss ++ [s'] else ss' = ss ∧ s' = s) →
        ((awantB ops (envF ops (rOf rs) env0 tr i).t o.guard = some true ∧ ((H.contains i = false ∧ Lit P o v (envF ops (rOf rs) env0 tr i)) ∨ awFix P o v s' (envF ops (rOf rs) env0 tr i) s)) ∨
          (awantB ops (envF ops (rOf rs) env0 tr i).t o.guard = some false ∧ v = .tup [] ∧ s' = s)) →
        adr P ops H W K rest (i + 1) ((envF ops (rOf rs) env0 tr i).put o.dst v) s' (rs ++ [v]) (es ++ [envF ops (rOf rs) env0 tr i]) ss' →
        ∃ (r : Nat → AV) (S : Nat → Heap), Draws P ops H env0 σ r S ∧ K (envF ops r env0 tr ops.length) (S H.length) := by
      intro v ss' s' hss hw hrest
      have hs1 : sOf ss' (H.countP (fun h => decide (h < i))) = s := by
        rw [← hs]
        split at hss
        · rw [hss]
          simp only [sOf, List.getD_eq_getElem?_getD]
          rw [List.getElem?_append_left (by omega)]
        · rw [hss.1]
      have hs2 : sOf ss' (H.countP (fun h => decide (h < i + 1))) = s' := by
        rw [hc]
        split at hss
        · rename_i hcc
          rw [hss, if_pos hcc]
          simp only [sOf, List.getD_eq_getElem?_getD]
          rw [List.getElem?_append_right (by omega), hsl]
          simp
        · rename_i hcc
          rw [if_neg hcc, Nat.add_zero, hss.1, hs, hss.2]
      have hd' := hd.step (v := v) (ss' := ss') hHord ho (by
        split
        · rename_i hcc; rw [if_pos hcc] at hss; exact ⟨s', hss⟩
        · rename_i hcc; rw [if_neg hcc] at hss; exact hss.1) (by rw [hs1, hs2]; exact hw)
      have henv : envF ops (rOf (rs ++ [v])) env0 tr (i + 1) = (envF ops (rOf rs) env0 tr i).put o.dst v := by
        simp only [envF, ho, tr, if_true]
        rw [envF_rs i (by omega), Option.bind_some]
        congr 1
        simp only [rOf, List.getD_eq_getElem?_getD]
        rw [List.getElem?_append_right (by omega), hrl]
        simp
      refine ih (dn ++ [o]) (i + 1) s' _ _ ss' (by simp [h1]) (by simp [h2]) hd' ?_ hs2 ?_
      · split at hss
        · rw [hss, List.getElem?_append_left (by omega)]; exact hs0
        · rw [hss.1]; exact hs0
      · rw [henv]; exact hrest
    unfold adr at h
    split at h
    · rename_i hw
      rcases h with ⟨v, hlit, hf, hr⟩ | h
      · have hcc : H.contains i = false := by
          rw [Bool.and_eq_true, Bool.not_eq_true'] at hlit
          exact hlit.2
        exact next v _ s (by rw [hcc]; exact ⟨rfl, rfl⟩) (.inl ⟨hw, .inl ⟨hcc, hf⟩⟩) hr
      split at h
      · split at h
        · rename_i hcc
          obtain ⟨v, s', hf, hr⟩ := h
          exact next v _ s' (by rw [if_pos hcc]) (.inl ⟨hw, .inr hf⟩) hr
        · rename_i hcc
          obtain ⟨v, hf, hr⟩ := h
          exact next v _ s (by rw [if_neg hcc]; exact ⟨rfl, rfl⟩) (.inl ⟨hw, .inr hf⟩) hr
      · rename_i hcall
        split at h
        · rename_i v s' hop
          have hf := awFix_of_aop (by simpa using hcall) hop
          split at h
          · rename_i hcc
            exact next v _ s' (by rw [if_pos hcc]) (.inl ⟨hw, .inr hf⟩) h
          · rename_i hcc
            obtain ⟨rfl, hr⟩ := h
            exact next v _ s' (by rw [if_neg hcc]; exact ⟨rfl, rfl⟩) (.inl ⟨hw, .inr hf⟩) hr
        · cases h
    · rename_i hw
      split at h
      · rename_i hcc
        exact next (.tup []) _ s (by rw [if_pos hcc]) (.inr ⟨hw, rfl, rfl⟩) h
      · rename_i hcc
        exact next (.tup []) _ s (by rw [if_neg hcc]; exact ⟨rfl, rfl⟩) (.inr ⟨hw, rfl, rfl⟩) h
    · cases h
/-- A REGION THAT DRAWS: H the operations that add or turn objects, W where the others must be looked at besides. -/
theorem ACode_drawsL {rd : Option Nat} {id : Nat} {opsA : Array Oper} {Q : Exit → Env → Heap → Prop} {env : Env} {σ : Heap} (H : List Nat) (W : List (Nat × Nat)) (hm : P.follows .mixedOrders = true) (hok : (drawOk opsA.toList H && levelsL opsA.toList H W) = true)
    (h : adr P opsA.toList H W (Q .normal) opsA.toList 0 env σ [] [] [σ]) : ACode P rd (.region id opsA true) Q env σ := by
  rw [Bool.and_eq_true] at hok
  obtain ⟨r, S, hd, hK⟩ := adr_soundL (P := P) (env0 := env) (σ := σ) hok.1 hok.2 opsA.toList [] 0 σ [] [] [σ] rfl rfl ⟨rfl, rfl, by simp, fun j e h => by simp at h, fun j o h => by omega⟩ rfl (by simp [sOf]) h
  exact ACode_draw hm H r S hok.1 hd (by simpa using hK)
/-- A REGION THAT DRAWS, where the operations H turn objects and those of W may run at another level. -/
theorem ACode_drawL {rd : Option Nat} {id : Nat} {opsA : Array Oper} {Q : Exit → Env → Heap → Prop} {env : Env} {σ : Heap} (H : List Nat) (W : List (Nat × Nat)) (hm : P.follows .mixedOrders = true)
    (hok : (drawOk opsA.toList H && levelsL opsA.toList H W) = true) (hW : (W.all fun x => decide (x.1 < opsA.toList.length)) = true)
    (h : awv P opsA.toList H W (Q .normal) opsA.toList 0 env σ [σ] []) : @StC _ P rd ⟨.region id opsA true⟩ ⟨Q⟩ env σ :=
  ACode_drawsL H W hm hok (adr_of_awv (fun x hx => by simpa using List.all_eq_true.1 hW x hx) opsA.toList [] _ _ _ _ _ _ rfl rfl rfl (fun x _ hlt => by simp at hlt) h)
end Ab
