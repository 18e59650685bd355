/-
  One operation of a region told by itself; append in place, the old slice being kept.
-/
import Derived.Test.YtdifgaapdnbliaaGreatDoorM42
set_option linter.unusedSimpArgs false
set_option linter.unusedVariables false
set_option linter.unusedSectionVars false
namespace Ab
open Go Go.RowKit Go.Proofs
/-- one operation, as the model runs it -/
def Step (P : Program) (o : Oper) (K : AV → Heap → Prop) (env : Env) (σ : Heap) : Prop :=
  ∀ (C : Ctx) (a : Act) (ro : Option Nat) (next : Act → World → Prop) (Q : Exit → Act → World → Prop), Inv C σ → ER C env a →
    (∀ (C' : Ctx) (c : Value) (v : AV) (σ' : Heap), Ext C C' → Inv C' σ' → VR C' v c → K v σ' → next (a.put o.dst c) C'.w) → o.wpIn (WF ro) 0 P a C.w next Q
theorem mid_sound {P : Program} (ops : Array Oper) (ro : Option Nat) (Q : Exit → Act → World → Prop) (o : Oper) (hg : o.guard = none) : ∀ (l1 : List Nat) (l1' : List Oper) (i : Nat) (l2 : List Nat) (l2' : List Oper), (∀ j ∈ l1 ++ i :: l2, j < ops.size) → l1.map (fun i => ops[i]?) = l1'.map some → ops[i]? = some o → l2.map (fun i => ops[i]?) = l2'.map some →
    ∀ (K : Env → Heap → Prop) (env : Env) (σ : Heap) (C : Ctx) (a : Act), Inv C σ → ER C env a →
    aws P ops.toList l1' (fun env σ => Step P o (fun v σ' => aws P ops.toList l2' K (env.put o.dst v) σ') env σ) env σ →
    (∀ (C' : Ctx) (env' : Env) (σ' : Heap) (a' : Act), Ext C C' → Inv C' σ' → ER C' env' a' → K env' σ' → Q .normal a' C'.w) → wpOpsIn (WF ro) 0 P ops Q (l1 ++ i :: l2) a C.w := by
  intro l1
  induction l1 with
  | nil =>
    intro l1' i l2 l2' hb hm1 ho hm2 K env σ C a hI he h hK
    obtain rfl : l1' = [] := by cases l1' <;> simp_all
    have hwt : Region.wanted o (yielded ops a.tmps) = true := by unfold Region.wanted; rw [hg]
    rw [List.nil_append]
    simp only [wpOpsIn, ho, hwt, if_true]
    unfold aws at h
    refine h C a ro _ _ hI he fun C' c v σ' hE hI' hv hk => ?_
    exact aws_sound ops ro Q l2 l2' (fun j hj => hb j (by simp [hj])) hm2 K _ σ' C' _ hI' ((he.ext hE).put hv o.dst) hk fun C2 env2 σ2 a2 hE2 => hK C2 env2 σ2 a2 (hE.trans hE2)
  | cons j l ih =>
    intro l1' i l2 l2' hb hm1 ho hm2 K env σ C a hI he h hK
    cases l1' with
    | nil => simp at hm1
    | cons p l' =>
      simp only [List.map_cons, List.cons.injEq] at hm1
      obtain ⟨hp, hm⟩ := hm1
      have hrest : ∀ (env : Env) (v : AV) (c : Value) (C' : Ctx) (σ' : Heap), ER C env a → Ext C C' → Inv C' σ' → VR C' v c → aws P ops.toList l' (fun env σ => Step P o (fun v σ' => aws P ops.toList l2' K (env.put o.dst v) σ') env σ) (env.put p.dst v) σ' → wpOpsIn (WF ro) 0 P ops Q (l ++ i :: l2) (a.put p.dst c) C'.w := by
        intro env v c C' σ' he hE hI' hv hw
        exact ih l' i l2 l2' (fun j hj => hb j (by simp at hj ⊢; exact .inr hj)) hm ho hm2 K _ σ' C' _ hI' ((he.ext hE).put hv p.dst) hw fun C2 env2 σ2 a2 hE2 => hK C2 env2 σ2 a2 (hE.trans hE2)
      unfold aws at h
      rw [List.cons_append]
      split at h
      · rename_i hgp
        have hwt : Region.wanted p (yielded ops a.tmps) = true := by unfold Region.wanted; rw [aguard_none hgp]
        simp only [wpOpsIn, hp, hwt, if_true]
        exact aw1_sound hI he h ro _ _ fun C' c v σ' hE hI' hv hk => hrest env v c C' σ' he hE hI' hv hk
      · rename_i d b want hgp
        obtain ⟨hwt, hd⟩ := aguard_sound he hgp
        simp only [wpOpsIn, hp, hwt]
        by_cases hbw : b = want
        · subst hbw
          simp only [BEq.rfl, if_true]
          exact aw1_sound hI (he.known hd) (h.1 (by simp)) ro _ _ fun C' c v σ' hE hI' hv hk => hrest _ v c C' σ' (he.known hd) hE hI' hv hk
        · have hbn : b = !want := by cases b <;> cases want <;> simp_all
          have : (b == want) = false := by simpa using hbw
          simp only [this, Bool.false_eq_true, if_false]
          subst hbn
          exact ⟨fun _ _ => trivial, hrest _ (.tup []) undef C σ (he.known hd) (Ext.refl C) hI (.tup [] [] rfl (fun i x c h => by simp at h)) (h.2 this)⟩
      · cases h
/-- A REGION, its operation number n told by itself. -/
theorem ACode_mid {P : Program} {rd : Option Nat} {id : Nat} {ops : Array Oper} {Q : Exit → Env → Heap → Prop} {env : Env} {σ : Heap} (n : Nat) (o : Oper) (l1' l2' : List Oper) (he : ops.toList = l1' ++ o :: l2') (hn : l1'.length = n) (hg : o.guard = none)
    (h : aws P ops.toList l1' (fun env σ => Step P o (fun v σ' => aws P ops.toList l2' (Q .normal) (env.put o.dst v) σ') env σ) env σ) : ACode P rd (.region id ops false) Q env σ := by
  intro C a ro hI her _
  have hsz : ops.size = n + (1 + l2'.length) := by rw [← Array.length_toList, he]; simp [hn]; omega
  have hr : List.range ops.size = List.range n ++ n :: (List.range l2'.length).map (n + 1 + ·) := by
    rw [hsz, List.range_add, Nat.add_comm 1, List.range_succ_eq_map]
    simp
    intro a _
    omega
  have hget : ∀ j : Nat, ops[j]? = (l1' ++ o :: l2')[j]? := fun j => by rw [← he, Array.getElem?_toList]
  refine wpIn_region ?_
  rw [hr]
  refine mid_sound ops ro _ o hg (List.range n) l1' n ((List.range l2'.length).map (n + 1 + ·)) l2' (fun j hj => ?_) ?_ ?_ ?_ (Q .normal) env σ C a hI her h ?_
  · simp at hj; omega
  · apply List.ext_getElem?
    intro i
    simp only [List.getElem?_map]
    by_cases hi : i < n
    · rw [List.getElem?_range hi]
      simp only [Option.map_some]
      rw [hget, List.getElem?_append_left (by omega), List.getElem?_eq_getElem (by omega)]
      rfl
    · rw [List.getElem?_eq_none (by simpa using hi), List.getElem?_eq_none (by omega)]; rfl
  · rw [hget, List.getElem?_append_right (by omega), hn, Nat.sub_self]; rfl
  · apply List.ext_getElem?
    intro i
    simp only [List.map_map, List.getElem?_map]
    by_cases hi : i < l2'.length
    · rw [List.getElem?_range hi]
      simp only [Option.map_some, Function.comp]
      rw [hget, List.getElem?_append_right (by omega), hn, show n + 1 + i - n = i + 1 by omega, List.getElem?_cons_succ, List.getElem?_eq_getElem hi]
      rfl
    · rw [List.getElem?_eq_none (by simpa using hi), List.getElem?_eq_none (by omega)]; rfl
  · intro C' env' σ' a' hE hI' he' hq
    exact ⟨C', env', σ', rfl, hE, hI', he', hq⟩
/-- append into a row's room: the slice that was there goes on -/
theorem step_room {P : Program} {d x y t t2 ty e k r len cap n : Nat} {pos : String} {after : Array Edge} {ag : Bool} {cs news : List AV} {K : AV → Heap → Prop} {env : Env} {σ : Heap}
    (he : telem P t = some e) (h2 : ((telem P t2).isSome || tstr P t2) = true) (hs : tsa P e = some (k, ag)) (hk : 0 < k)
    (hx : env.t.getD x .any = .arc k r 0 len cap) (hr : σ[r]? = some (.cells cs)) (hcl : cs.length = cap * k) (ha : acells k (env.t.getD y .any) σ = some (news, n)) (hroom : len + n ≤ cap)
    (hK : K (.arc k r 0 (len + n) cap) (σ.set r (.cells (cs.take (len * k) ++ news ++ cs.drop ((len + n) * k))))) :
    Step P ⟨some d, .call { callee := .builtin .append, args := #[.tmp x, .tmp y], argTypes := #[t, t2] }, ty, pos, after, none⟩ K env σ := by
  intro C a ro next Q hI her hn
  refine ⟨fun _ _ => trivial, ?_⟩
  rw [Oper.semAt_eq _ _ _ (by intro c hc; cases hc)]
  have hvx := her.eval (.tmp x)
  have hvy := her.eval (.tmp y)
  simp only [aval] at hvx hvy
  rw [hx] at hvx
  obtain ⟨i, dd, hi, _, hsz, _⟩ := tsa_inv hs
  obtain ⟨d2, hd2, hdd⟩ := tdesc2 h2
  obtain ⟨hl, hnl, hn1, cs0, hc0, hcr0⟩ := acells_sound (P := P) hI hk hvy ha
  obtain ⟨b, e', n', hbk, hlc, hsh, hbd, hce⟩ := hvx.arc_inv
  obtain ⟨hnp, carr, e'', lo, hi', hc, hcsz, hfr, hrel⟩ := hI.cells hbk hr
  have hn' : carr.size = n' := by
    rw [shape_eq, hc] at hsh
    simp [shp] at hsh
    exact hsh.2
  have hmul : (len + n) * k ≤ cap * k := Nat.mul_le_mul_right _ hroom
  have hadd : (len + n) * k = len * k + n * k := Nat.add_mul _ _ _
  have hbig : len * k + news.length ≤ carr.size := by
    rw [hnl]
    omega
  have hcl0 := hcr0.len
  have hst := run_storeCells_blk (P := P) b e'' lo hi' cs0 carr C.w (len * k) 0 hc hfr (hcr0.oneCells hn1) (by omega)
  have hE := Ext.set (C := C) (b := b) (o := .cells (wrA carr (len * k) cs0) e'' (lo, hi')) hc hnp (by simp [shp, wrA_size])
  have hnewlen : (cs.take (len * k) ++ news ++ cs.drop ((len + n) * k)).length = cs.length := by
    simp only [List.length_append, List.length_take, List.length_drop, hnl]
    omega
  have hI1 : Inv (C.at_ (setBlk C.w b (.cells (wrA carr (len * k) cs0) e'' (lo, hi')))) (σ.set r (.cells (cs.take (len * k) ++ news ++ cs.drop ((len + n) * k)))) := by
    refine hI.set hbk hr rfl hc (by simp [shp, wrA_size]) (.cells _ _ e'' lo hi' (by rw [wrA_size, hnewlen]; exact hcsz) (by rw [wrA_size]; exact hfr) fun i x c hx hc' => ?_)
    rw [wrA_get _ _ _ _ (by omega)] at hc'
    refine VR.ext hE ?_
    by_cases h1 : i < len * k
    · rw [List.append_assoc, List.getElem?_append_left (by rw [List.length_take]; omega), List.getElem?_take_of_lt h1] at hx
      rw [if_neg (by omega)] at hc'
      exact hrel i x c hx hc'
    · by_cases h2 : i < len * k + n * k
      · rw [List.append_assoc, List.getElem?_append_right (by rw [List.length_take]; omega), List.length_take, Nat.min_eq_left (by omega), List.getElem?_append_left (by omega)] at hx
        rw [if_pos (by omega)] at hc'
        exact hcr0.at_ _ x c hx hc'
      · rw [List.getElem?_append_right (by simp only [List.length_append, List.length_take]; omega), List.getElem?_drop] at hx
        rw [if_neg (by omega)] at hc'
        refine hrel i x c ?_ hc'
        rw [← hx]
        congr 1
        simp only [List.length_append, List.length_take]
        omega
  have hrun := run_append_room (P := P) (w' := setBlk C.w b (.cells (wrA carr (len * k) cs0) e'' (lo, hi'))) (ty := ty) (base := some ⟨b, 0, none⟩) (sLen := len) (sCap := cap) (x := a.eval (.tmp y)) (news := cs0) (telem_inv he) hd2 hdd hi hl (by rw [hsz]; exact hc0) hroom
    (fun a ha => by simp only [Option.some.injEq] at ha; subst ha; rw [add_none, hsz, Nat.zero_add]; simpa using hst) (fun h => by cases h)
  rw [Nat.zero_mul] at hce
  have hran : Ran C ((execOp a.eval ⟨some d, .call { callee := .builtin .append, args := #[.tmp x, .tmp y], argTypes := #[t, t2] }, ty, pos, after, none⟩).run P C.w) (.arc k r 0 (len + n) cap) (σ.set r (.cells (cs.take (len * k) ++ news ++ cs.drop ((len + n) * k)))) := by
    refine ⟨C.at_ (setBlk C.w b (.cells (wrA carr (len * k) cs0) e'' (lo, hi'))), hE, hI1, .inl ⟨.slice (some ⟨b, 0, none⟩) (len + n) cap, ?_, ?_⟩⟩
    · simp only [execOp, Sem.run_bind, resolve, Sem.run_pure, Result.andThen_ok, invoke]
      have hm : (#[Operand.tmp x, Operand.tmp y] : Array Operand).map a.eval = #[a.eval (.tmp x), a.eval (.tmp y)] := by simp
      rw [hm, hce]
      simp only [builtin, Sem.run_bind, hrun, Result.andThen_ok, Sem.run_pure]
      rfl
    · have := VR.arc (C := C.at_ (setBlk C.w b (.cells (wrA carr (len * k) cs0) e'' (lo, hi')))) k r 0 (len + n) b cap e' n' (hE.blk_at hbk) hroom (hE.shape b _ hsh) hbd
      rw [Nat.zero_mul] at this
      exact this
  exact hran.uponIn fun C' c hE hI' hv => hn C' c _ _ hE hI' hv hK
end Ab
