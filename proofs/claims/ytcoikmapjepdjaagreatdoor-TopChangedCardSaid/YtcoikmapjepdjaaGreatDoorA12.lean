/-
  REGIONS THAT DRAW, where the operations that turn objects may run in several orders: each order has its own outcome.
-/
import Derived.Test.YtcoikmapjepdjaaGreatDoorA11
set_option linter.unusedSimpArgs false
set_option linter.unusedVariables false
set_option linter.unusedSectionVars false
namespace Ab
open Go Go.RowKit
variable [Mode]
variable {P : Program}
/-- A region's runs: V the orders in which heavy operations may have run so far, r what each operation gives then, S the objects. -/
structure DrawsT (P : Program) (ops : List Oper) (H : List Nat) (V : List Nat → Prop) (env : Env) (σ : Heap) (r : List Nat → Nat → AV) (S : List Nat → Heap) : Prop where
  v0 : V []
  s0 : S [] = σ
  light : ∀ (i : Nat) (o : Oper) (s : List Nat), ops[i]? = some o → i ∉ H → V s → (∀ h ∈ H, bef (masks ops) i h = true → h ∈ s) → (∀ h ∈ H, bef (masks ops) h i = true → h ∉ s) →
    (awantB ops (envF ops (r s) env tr i).t o.guard = some true ∧ (Lit P o (r s i) (envF ops (r s) env tr i) ∨ aw1 P o (fun v τ => v = r s i ∧ τ = S s) (envF ops (r s) env tr i) (S s))) ∨
    (awantB ops (envF ops (r s) env tr i).t o.guard = some false ∧ r s i = .tup [])
  heavy : ∀ (i : Nat) (o : Oper) (s : List Nat), ops[i]? = some o → i ∈ H → V s → i ∉ s → (∀ h ∈ H, bef (masks ops) i h = true → h ∈ s) → V (s ++ [i]) ∧
    ((awantB ops (envF ops (r s) env tr i).t o.guard = some true ∧ aw1 P o (fun v τ => v = r (s ++ [i]) i ∧ τ = S (s ++ [i])) (envF ops (r s) env tr i) (S s)) ∨
    (awantB ops (envF ops (r s) env tr i).t o.guard = some false ∧ r (s ++ [i]) i = .tup [] ∧ S (s ++ [i]) = S s))
  keep : ∀ (s : List Nat) (i j : Nat), V s → V (s ++ [i]) → i ∈ H → i ∉ s → (∀ h ∈ H, bef (masks ops) i h = true → h ∈ s) → j ≠ i → (∀ h ∈ H, bef (masks ops) j h = true → h ∈ s) → (j ∈ H → j ∈ s) → r (s ++ [i]) j = r s j
theorem ACode_drawT {rd : Option Nat} {id : Nat} {opsA : Array Oper} {Q : Exit → Env → Heap → Prop} {env : Env} {σ : Heap} (hm : P.follows .mixedOrders = true) (H : List Nat) (V : List Nat → Prop) (r : List Nat → Nat → AV) (S : List Nat → Heap)
    (hok : drawOk opsA.toList [] = true) (hHlt : ∀ h ∈ H, h < opsA.size) (hd : DrawsT P opsA.toList H V env σ r S) (hQ : ∀ s, V s → (∀ h ∈ H, h ∈ s) → Q .normal (envF opsA.toList (r s) env tr opsA.size) (S s)) : ACode P rd (.region id opsA true) Q env σ := by
  intro C a ro hI he _
  obtain ⟨hedge, hpair, _, _⟩ := drawOk_inv hok
  refine wpIn_region_any hm ?_
  have key : ∀ (fuel : Nat) (listed : Array Bool) (C' : Ctx) (a : Act) (s : List Nat), listed.size = opsA.size → Closed opsA.toList (fun i => listed.getD i false) →
      ((List.range opsA.size).countP fun i => !listed.getD i false) ≤ fuel → V s → (∀ h, h ∈ H → (listed.getD h false = true ↔ h ∈ s)) →
      Ext C C' → Inv C' (S s) → ER C' (envF opsA.toList (r s) env (fun i => listed.getD i false) opsA.size) a →
      wpAnyIn (WF ro) 0 P .any opsA (Post C Q) fuel listed a C'.w := by
    intro fuel
    have done : ∀ (listed : Array Bool) (C' : Ctx) (a : Act) (s : List Nat), listed.size = opsA.size → V s → (∀ h, h ∈ H → (listed.getD h false = true ↔ h ∈ s)) →
        Ext C C' → Inv C' (S s) → ER C' (envF opsA.toList (r s) env (fun i => listed.getD i false) opsA.size) a → Region.ready .any opsA listed = [] → Post C Q .normal a C'.w := by
      intro listed C' a s hsz hV hmm hE hI' he' hr
      have hall : ∀ i, i < opsA.size → listed.getD i false = true := by
        intro i
        induction i using Nat.strongRecOn with
        | _ i ih =>
          intro hi
          cases hl : listed.getD i false with
          | true => rfl
          | false =>
            have : i ∈ Region.ready .any opsA listed := by
              rw [mem_ready]
              refine ⟨?_, opsA[i], Array.getElem?_eq_getElem hi, fun e he hb => ?_⟩
              · have hi' : i < listed.size := by omega
                simp only [Array.getD_eq_getD_getElem?, Array.getElem?_eq_getElem hi', Option.getD_some] at hl ⊢
                exact hl
              · have hlt := hedge i opsA[i] (by simp [hi]) e he hb
                exact ih e.on hlt (by omega)
            rw [hr] at this
            cases this
      have hmH : ∀ h ∈ H, h ∈ s := fun h hh => (hmm h hh).1 (hall h (hHlt h hh))
      have henv : ∀ k, k ≤ opsA.size → envF opsA.toList (r s) env (fun i => listed.getD i false) k = envF opsA.toList (r s) env tr k := by
        intro k
        induction k with
        | zero => intro _; rfl
        | succ k ih => intro hk; simp only [envF, ih (by omega), hall k (by omega), tr]
      rw [henv _ (Nat.le_refl _)] at he'
      exact ⟨C', _, _, rfl, hE, hI', he', hQ s hV hmH⟩
    induction fuel with
    | zero =>
      intro listed C' a s hsz hcl hcnt hV hmm hE hI' he'
      have hr : Region.ready .any opsA listed = [] := by
        rw [List.eq_nil_iff_forall_not_mem]
        intro i hi
        rw [mem_ready] at hi
        obtain ⟨h1, o, ho, _⟩ := hi
        have hlt := (Array.getElem?_eq_some_iff.1 ho).1
        have h2 : 0 < (List.range opsA.size).countP fun i => !listed.getD i false := by
          rw [List.countP_pos_iff]
          refine ⟨i, by simpa using hlt, ?_⟩
          have hi' : i < listed.size := by omega
          simp only [Array.getD_eq_getD_getElem?, Array.getElem?_eq_getElem hi', Option.getD_some] at h1 ⊢
          simp [h1]
        omega
      exact ⟨hr, done listed C' a s hsz hV hmm hE hI' he' hr⟩
    | succ fuel ih =>
      intro listed C' a s hsz hcl hcnt hV hmm hE hI' he'
      refine ⟨fun hr => done listed C' a s hsz hV hmm hE hI' he' hr, fun i hi => ?_⟩
      rw [mem_ready] at hi
      obtain ⟨hul, o, ho, hpre⟩ := hi
      have hlt := (Array.getElem?_eq_some_iff.1 ho).1
      have hol : opsA.toList[i]? = some o := by simpa using ho
      have hun : listed.getD i false = false := by
        have hi' : i < listed.size := by omega
        simp only [Array.getD_eq_getD_getElem?, Array.getElem?_eq_getElem hi', Option.getD_some] at hul ⊢
        exact hul
      -- the next set
      have hset : ∀ j, (listed.setIfInBounds i true).getD j false = (if j = i then true else listed.getD j false) := by
        intro j
        simp only [Array.getD_eq_getD_getElem?, Array.getElem?_setIfInBounds]
        by_cases e : i = j
        · subst e; simp [show i < listed.size by omega]
        · rw [if_neg e, if_neg (fun x => e x.symm)]
      have hcl' : Closed opsA.toList (fun j => (listed.setIfInBounds i true).getD j false) := by
        intro j o' ho' hj e he hb
        simp only [hset] at hj ⊢
        split at hj
        · rename_i e1
          subst e1
          rw [hol] at ho'
          obtain rfl : o = o' := by simpa using ho'
          have := hpre e he hb
          split
          · rfl
          · exact this
        · have := hcl j o' ho' hj e he hb
          split
          · rfl
          · exact this
      have hcnt' : ((List.range opsA.size).countP fun j => !(listed.setIfInBounds i true).getD j false) ≤ fuel := by
        have h1 : ((List.range opsA.size).countP fun j => !(listed.setIfInBounds i true).getD j false) + 1 ≤ (List.range opsA.size).countP fun j => !listed.getD j false := by
          have hmem : i ∈ List.range opsA.size := by simpa using hlt
          obtain ⟨l1, l2, hl⟩ := List.append_of_mem hmem
          rw [hl]
          simp only [List.countP_append, List.countP_cons, hset, if_true, hun]
          have hle : ∀ l : List Nat, (l.countP fun j => !if j = i then true else listed.getD j false) ≤ l.countP fun j => !listed.getD j false := by
            intro l
            apply List.countP_mono_left
            intro j _ hj
            simp at hj ⊢
            exact hj.2
          have a1 := hle l1
          have a2 := hle l2
          simp at a1 a2 ⊢
          omega
        omega
      -- what the operation looks at is as in the order of the text
      have hval : ∀ t ∈ tnames opsA.toList o, (envF opsA.toList (r s) env (fun i => listed.getD i false) opsA.size).t.getD t .any = (envF opsA.toList (r s) env tr i).t.getD t .any := by
        intro t ht
        have := envF_get (ops := opsA.toList) (r := r s) (env := env) (L := fun i => listed.getD i false) (i := i) (t := t) opsA.size (fun j hj hdj => by
          obtain ⟨oj, hoj, hdj⟩ := Option.bind_eq_some_iff.1 hdj
          rcases Nat.lt_trichotomy j i with h | h | h
          · refine ⟨fun _ => h, fun _ => ?_⟩
            rcases hpair j i oj o hoj hol h with hb | ⟨h1, _, _⟩
            · -- j ahead of i: its edge leads to a listed one
              obtain ⟨e, he, hbi, hje⟩ := bef_edge hol hb
              have hl := hpre e he hbi
              rcases hje with rfl | ⟨h2, h3⟩
              · exact hl
              · have hlt2 : e.on < opsA.toList.length := by simp; omega
                exact Closed.bef (L := fun i => listed.getD i false) hcl e.on j _ (List.getElem?_eq_getElem hlt2) hl h3
            · exact absurd ht (h1 t hdj)
          · subst h
            exact ⟨(fun hx => by rw [hun] at hx; cases hx), fun hx => absurd hx (Nat.lt_irrefl _)⟩
          · refine ⟨fun hx => ?_, fun hx => by omega⟩
            rcases hpair i j o oj hol hoj h with hb | ⟨_, h2, _⟩
            · have := Closed.bef (L := fun i => listed.getD i false) hcl j i oj hoj hx hb
              rw [hun] at this; cases this
            · exact absurd ht (h2 t hdj))
        rw [this, show min opsA.size i = i by omega]
        rfl
      have hav : ∀ x ∈ o.op.operands, aval (envF opsA.toList (r s) env tr i).t x = aval (envF opsA.toList (r s) env (fun i => listed.getD i false) opsA.size).t x := by
        intro x hx
        cases x with
        | tmp t =>
          simp only [aval]
          refine (hval t ?_).symm
          simp only [tnames, List.mem_append]
          exact .inl (.inr (List.mem_filterMap.2 ⟨.tmp t, by simpa using hx, rfl⟩))
        | _ => rfl
      have haw : awantB opsA.toList (envF opsA.toList (r s) env tr i).t o.guard = awantB opsA.toList (envF opsA.toList (r s) env (fun i => listed.getD i false) opsA.size).t o.guard := by
        refine awantB_congr fun j w d hg hd => (hval d ?_).symm
        simp only [tnames, List.mem_append, hg]
        exact .inr (by rw [hd]; simp)
      have hnextG : ∀ q : Nat → AV, envF opsA.toList q env (fun j => (listed.setIfInBounds i true).getD j false) opsA.size = (envF opsA.toList q env (fun i => listed.getD i false) opsA.size).put o.dst (q i) := by
        intro q
        have e1 : (fun j => (listed.setIfInBounds i true).getD j false) = fun j => if j = i then true else listed.getD j false := funext hset
        rw [e1, envF_set (L := fun i => listed.getD i false) hun opsA.size hlt (fun j h1 h2 hl t ht hj => by
          obtain ⟨oj, hoj, hdj⟩ := Option.bind_eq_some_iff.1 hj
          rcases hpair i j o oj hol hoj h1 with hb | ⟨h3, _, _⟩
          · have := Closed.bef (L := fun i => listed.getD i false) hcl j i oj hoj hl hb
            rw [hun] at this; cases this
          · have : o.dst = some t := by rw [hol] at ht; simpa using ht
            refine h3 t this ?_
            simp only [tnames, List.mem_append, hdj]
            exact .inl (.inl (by simp)))]
        rw [hol]
        rfl
      have hnext := hnextG (r s)
      have hbefi : ∀ h, bef (masks opsA.toList) i h = true → listed.getD h false = true := by
        intro h hb
        obtain ⟨e, he, hbi, hje⟩ := bef_edge hol hb
        have hl := hpre e he hbi
        rcases hje with rfl | ⟨h2, h3⟩
        · exact hl
        · have hlt2 : e.on < opsA.toList.length := by simp; omega
          exact Closed.bef (L := fun i => listed.getD i false) hcl e.on h _ (List.getElem?_eq_getElem hlt2) hl h3
      have hbs : ∀ h ∈ H, bef (masks opsA.toList) i h = true → h ∈ s := fun h hh hb => (hmm h hh).1 (hbefi h hb)
      unfold wpOpIn
      rw [ho]
      simp only
      by_cases hH : i ∈ H
      · -- a heavy one
        have his : i ∉ s := fun hx => by rw [(hmm i hH).2 hx] at hun; cases hun
        obtain ⟨hV', hcase⟩ := hd.heavy i o s hol hH hV his hbs
        have hmm' : ∀ h, h ∈ H → ((listed.setIfInBounds i true).getD h false = true ↔ h ∈ s ++ [i]) := by
          intro h hh
          rw [hset, List.mem_append, List.mem_singleton]
          by_cases e : h = i
          · simp [e]
          · rw [if_neg e, hmm h hh]; simp [e]
        have hkeep : ∀ k, envF opsA.toList (r s) env (fun j => listed.getD j false) k = envF opsA.toList (r (s ++ [i])) env (fun j => listed.getD j false) k := by
          intro k
          induction k with
          | zero => rfl
          | succ k ih =>
            simp only [envF, ih]
            by_cases hl : listed.getD k false = true
            case neg => simp only [if_neg hl]
            · simp only [if_pos hl]
              have hk : k < opsA.toList.length := by
                rcases Nat.lt_or_ge k opsA.toList.length with h | h
                · exact h
                · rw [Array.getD_eq_getD_getElem?, Array.getElem?_eq_none (by simp at h; omega)] at hl; cases hl
              have hne : k ≠ i := fun e => by rw [e, hun] at hl; cases hl
              rw [hd.keep s i k hV hV' hH his hbs hne (fun h hh hb => (hmm h hh).1 (Closed.bef (L := fun i => listed.getD i false) hcl k h _ (List.getElem?_eq_getElem hk) hl hb)) (fun hh => (hmm k hh).1 hl)]
        have hnext' : envF opsA.toList (r (s ++ [i])) env (fun j => (listed.setIfInBounds i true).getD j false) opsA.size = (envF opsA.toList (r s) env (fun i => listed.getD i false) opsA.size).put o.dst (r (s ++ [i]) i) := by
          rw [hnextG (r (s ++ [i])), ← hkeep]
        rcases hcase with ⟨hw, hr⟩ | ⟨hw, hr, hS⟩
        · rw [haw] at hw
          rw [awantB_sound he' hw, if_pos rfl]
          refine aw1_sound hI' he' (aw1_congr hav hr) ro _ _ fun C2 c v s2 hE2 hI2 hv ⟨h1, h2⟩ => ?_
          subst h1; subst h2
          refine ih _ C2 _ (s ++ [i]) (by simpa using hsz) hcl' hcnt' hV' hmm' (hE.trans hE2) hI2 ?_
          rw [hnext']
          exact (he'.ext hE2).put hv o.dst
        · rw [haw] at hw
          rw [awantB_sound he' hw, if_neg (by simp)]
          refine ⟨fun _ _ => trivial, ih _ C' _ (s ++ [i]) (by simpa using hsz) hcl' hcnt' hV' hmm' hE (by rw [hS]; exact hI') ?_⟩
          rw [hnext', hr]
          exact he'.put (.tup [] [] rfl (fun i x c h => by simp at h)) o.dst
      · -- a light one
        have hmm' : ∀ h, h ∈ H → ((listed.setIfInBounds i true).getD h false = true ↔ h ∈ s) := by
          intro h hh
          rw [hset, if_neg (fun e : h = i => hH (by rw [← e]; exact hh))]
          exact hmm h hh
        have haft : ∀ h ∈ H, bef (masks opsA.toList) h i = true → h ∉ s := fun h hh hb hs => by
          have hl := (hmm h hh).2 hs
          have hlt2 : h < opsA.toList.length := by simpa using hHlt h hh
          have := Closed.bef (L := fun i => listed.getD i false) hcl h i _ (List.getElem?_eq_getElem hlt2) hl hb
          rw [hun] at this; cases this
        rcases hd.light i o s hol hH hV hbs haft with ⟨hw, hr⟩ | ⟨hw, hr⟩
        · rw [haw] at hw
          rw [awantB_sound he' hw, if_pos rfl]
          rcases hr with hr | hr
          · refine hr _ _ _ _ hav hI' he' ro _ _ fun C2 c hE2 hI2 hv => ?_
            refine ih _ C2 _ s (by simpa using hsz) hcl' hcnt' hV hmm' (hE.trans hE2) hI2 ?_
            rw [hnext]
            exact (he'.ext hE2).put hv o.dst
          · refine aw1_sound hI' he' (aw1_congr hav hr) ro _ _ fun C2 c v s2 hE2 hI2 hv ⟨h1, h2⟩ => ?_
            subst h1; subst h2
            refine ih _ C2 _ s (by simpa using hsz) hcl' hcnt' hV hmm' (hE.trans hE2) hI2 ?_
            rw [hnext]
            exact (he'.ext hE2).put hv o.dst
        · rw [haw] at hw
          rw [awantB_sound he' hw, if_neg (by simp)]
          refine ⟨fun _ _ => trivial, ih _ C' _ s (by simpa using hsz) hcl' hcnt' hV hmm' hE hI' ?_⟩
          rw [hnext, hr]
          exact he'.put (.tup [] [] rfl (fun i x c h => by simp at h)) o.dst
  have h0 : ∀ i, (Array.replicate opsA.size false).getD i false = false := by
    intro i
    simp only [Array.getD_eq_getD_getElem?, Array.getElem?_replicate]
    split <;> rfl
  have hdr : Ext C (C.at_ C.w.drew) := Ext.drew
  refine key opsA.size (Array.replicate opsA.size false) (C.at_ C.w.drew) a [] (by simp) (fun i o _ hx => by simp only [h0] at hx; cases hx) ?_ hd.v0 (fun h _ => by rw [h0]; simp) hdr ?_ ?_
  · have := List.countP_le_length (p := fun i => !(Array.replicate opsA.size false).getD i false) (l := List.range opsA.size)
    simpa using this
  · rw [hd.s0]; exact hI.drew
  · have henv : ∀ k, envF opsA.toList (r []) env (fun i => (Array.replicate opsA.size false).getD i false) k = env := by
      intro k
      induction k with
      | zero => rfl
      | succ k ih => simp only [envF, h0, Bool.false_eq_true, if_false]; simpa only [h0] using ih
    rw [henv]
    exact he.ext hdr
end Ab
