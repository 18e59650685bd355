/-
  WHAT IS KNOWN OF CALLS, for closed runs.
  WHAT IS KNOWN OF CALLS, with whatever objects more: the state at a place.
  AWAKE: the examples of the chapter are answered as the document says (a closed run).
  PARSES: equal lists of words, equal files, the reference's file as ours; the law's function answers true for every text.
  PARSES: the law's function answers true for every text.
-/
import Derived.Test.YtdifgaapdnbliaaGreatDoorR11
import Derived.Test.YtdifgaapdnbliaaGreatDoorR20
import Derived.Test.YtdifgaapdnbliaaGreatDoorR21
import Derived.Test.YtdifgaapdnbliaaGreatDoorR18
import Derived.Test.YtdifgaapdnbliaaGreatDoorR15
set_option linter.unusedSimpArgs false
set_option linter.unusedVariables false
set_option linter.unusedSectionVars false
namespace Ab
open Go Go.RowKit Go.Proofs
attribute [local irreducible] aws awp aw1 Og Om Oc Oa Ogd Ov Ot awd aw1d awh aw1h Ogh Ohd awl Ogl Ohl awv Ogv Ohv QThen QBlock QFn QFnM QRo QBe ACode AYield
abbrev twoF : List Oyez.Rec := [⟨1, 3, [[116, 105, 100, 101], [97, 116], [115, 105, 120]]⟩, ⟨3, 12, []⟩]
theorem two_calls : APure Tryz.prog 77 [] (fileAV twoF) := by
  refine APure.of fun σ => ?_
  refine acalls_fn Tryz.func77 rfl (enters_fn Tryz.func77 (by decide) rfl) ?_
  simp [Tryz.ntmps77]
  refine .arr 3 (σ.length + 1) 0 _ [recAV ⟨1, 3, [[116, 105, 100, 101], [97, 116], [115, 105, 120]]⟩, recAV ⟨3, 12, []⟩] (fun i j => match i, j with
    | 0, 0 => .int .i64 1
    | 0, 1 => .int .i64 3
    | 0, _ => .arr 1 σ.length 0 3
    | _, 0 => .int .i64 3
    | _, 1 => .int .i64 12
    | _, _ => .nils) (by omega) (by simp; rfl) ?_ ?_
  · intro i x hx
    match i, hx with
    | 0, hx =>
      simp at hx
      subst hx
      refine ⟨rfl, fun j y hy => ?_⟩
      match j, hy with
      | 0, hy => simp [AV.cells] at hy; subst hy; exact ⟨rfl, rfl⟩
      | 1, hy => simp [AV.cells] at hy; subst hy; exact ⟨rfl, rfl⟩
      | 2, hy => simp [AV.cells] at hy; subst hy; exact ⟨rfl, rfl⟩
      | j + 3, hy => simp [AV.cells] at hy
    | 1, hx =>
      simp at hx
      subst hx
      refine ⟨rfl, fun j y hy => ?_⟩
      match j, hy with
      | 0, hy => simp [AV.cells] at hy; subst hy; exact ⟨rfl, rfl⟩
      | 1, hy => simp [AV.cells] at hy; subst hy; exact ⟨rfl, rfl⟩
      | 2, hy => simp [AV.cells] at hy; subst hy; exact ⟨rfl, rfl⟩
      | j + 3, hy => simp [AV.cells] at hy
    | i + 2, hx => simp at hx
  · intro i x hx j y hy
    match i, hx with
    | 0, hx =>
      simp at hx
      subst hx
      match j, hy with
      | 0, hy => simp [AV.cells] at hy; subst hy; exact .int _ _
      | 1, hy => simp [AV.cells] at hy; subst hy; exact .int _ _
      | 2, hy => simp [AV.cells] at hy; subst hy; exact Fz_off [[116, 105, 100, 101], [97, 116], [115, 105, 120]] 0 (Nat.le_refl _) (by simp)
      | j + 3, hy => simp [AV.cells] at hy
    | 1, hx =>
      simp at hx
      subst hx
      match j, hy with
      | 0, hy => simp [AV.cells] at hy; subst hy; exact .int _ _
      | 1, hy => simp [AV.cells] at hy; subst hy; exact .int _ _
      | 2, hy => simp [AV.cells] at hy; subst hy; exact .nils_pl 1
      | j + 3, hy => simp [AV.cells] at hy
    | i + 2, hx => simp at hx
/-! ### oracles -/
def pureO (f0 : FuncId) (g : List AV → Option AV) : Orc := fun f args σ => if f = f0 then (match g args with
  | some v => some (v, σ)
  | none => none) else none
theorem pureO_good {f0 : FuncId} {g : List AV → Option AV} (h : ∀ args v, g args = some v → APure Tryz.prog f0 args v) : (pureO f0 g).Good Tryz.prog := by
  intro f args σ v σ' hf
  unfold pureO at hf
  split at hf
  · rename_i he
    subst he
    split at hf
    · rename_i w hw
      simp only [Option.some.injEq, Prod.mk.injEq] at hf
      obtain ⟨rfl, rfl⟩ := hf
      exact h args _ hw σ
    · cases hf
  · cases hf
def orO (a b : Orc) : Orc := fun f args σ => match a f args σ with
  | some r => some r
  | none => b f args σ
theorem orO_good {a b : Orc} (ha : a.Good Tryz.prog) (hb : b.Good Tryz.prog) : (orO a b).Good Tryz.prog := by
  intro f args σ v σ' hf
  unfold orO at hf
  split at hf
  · rename_i r hr
    simp only [Option.some.injEq] at hf
    subst hf
    exact ha _ _ _ _ _ hr
  · exact hb _ _ _ _ _ hf
/-- one text -/
def str1 (g : List UInt8 → AV) (args : List AV) : Option AV := match args with
  | [.str s] => if s.length ≤ 1000 then some (g s) else none
  | _ => none
theorem str1_good {f0 : FuncId} {g : List UInt8 → AV} (h : ∀ s : List UInt8, s.length ≤ 1000 → APure Tryz.prog f0 [.str s] (g s)) : (pureO f0 (str1 g)).Good Tryz.prog := pureO_good fun args v hv => by
  unfold str1 at hv
  split at hv
  · split at hv
    · rename_i s hs
      simp only [Option.some.injEq] at hv
      subst hv
      exact h s hs
    · cases hv
  · cases hv
def strsOf : List AV → Option (List (List UInt8))
  | [] => some []
  | .str s :: l => (strsOf l).map (s :: ·)
  | _ => none
theorem strsOf_eq : ∀ (l : List AV) (ws : List (List UInt8)), strsOf l = some ws → l = ws.map AV.str := by
  intro l
  induction l with
  | nil => intro ws h; simp [strsOf] at h; subst h; rfl
  | cons x l ih =>
    intro ws h
    unfold strsOf at h
    split at h
    · rename_i h1; cases h1
    · rename_i s l' h1
      obtain ⟨rfl, rfl⟩ : x = .str s ∧ l = l' := by simpa using h1
      rw [Option.map_eq_some_iff] at h
      obtain ⟨ws', hw, rfl⟩ := h
      rw [ih _ hw]
      rfl
    · cases h
def joinO : Orc := fun f args σ => if f = 159 then (match args with
  | [.arr k r o n] => (match σ[r]? with
    | some (.cells cs) => (match strsOf cs with
      | some ws => if k = 1 ∧ o = 0 ∧ ws.length = n ∧ ws.length ≤ 1000 ∧ (join32 ws).length ≤ 100000 then some (.str (join32 ws), σ) else none
      | none => none)
    | _ => none)
  | _ => none) else none
theorem joinO_good : joinO.Good Tryz.prog := by
  intro f args σ v σ' hf
  unfold joinO at hf
  split at hf
  · rename_i he
    subst he
    split at hf
    · rename_i k r o n
      split at hf
      · rename_i cs hr
        split at hf
        · rename_i ws hws
          split at hf
          · rename_i hc
            obtain ⟨rfl, rfl, rfl, h1, h2⟩ := hc
            simp only [Option.some.injEq, Prod.mk.injEq] at hf
            obtain ⟨rfl, rfl⟩ := hf
            rw [strsOf_eq _ _ hws] at hr
            exact joined_arr σ r ws hr (by omega) (by omega)
          · cases hf
        · cases hf
      · cases hf
    · cases hf
  · cases hf
/-- Print of the file of example 1 -/
def printG (args : List AV) : Option AV := match args with
  | [a] => if AV.eqb 20 a (fileAV twoF) then some (.tup [.str (printC twoF).1, .int .i64 (printC twoF).2]) else none
  | _ => none
def itoaG (args : List AV) : Option AV := match args with
  | [.int .i64 n] => if -9223372036854775808 ≤ n ∧ n ≤ 9223372036854775807 then some (.str (Lib.itoa n)) else none
  | _ => none
def awakeO : Orc := orO (pureO 77 fun args => match args with | [] => some (fileAV twoF) | _ => none) <| orO (pureO 46 printG) <| orO (pureO 17 (str1 fun s => parsedAV (Oyez.parse s))) <|
  orO (pureO 21 (str1 fun s => .tup [.str (Oyez.sealOf s).1, .int .i64 (Oyez.sealOf s).2])) <| orO (pureO 25 (str1 fun s => .tup [.str (mendI s).1, .int .i64 (mendI s).2.1, .int .i64 (mendI s).2.2])) <|
  orO (pureO 152 (str1 fun s => .bool (Oyez.word s))) <| orO (pureO 160 itoaG) joinO
theorem awakeO_good : awakeO.Good Tryz.prog := by
  refine orO_good (pureO_good fun args v hv => ?_) <| orO_good (pureO_good fun args v hv => ?_) <| orO_good (str1_good fun s hs => parse_calls s (by omega)) <| orO_good (str1_good fun s _ => seal_calls s) <| orO_good (str1_good fun s _ => imend_calls s) <|
    orO_good (str1_good fun s hs => iword_calls s (by omega)) <| orO_good (pureO_good fun args v hv => ?_) joinO_good
  · split at hv
    · simp only [Option.some.injEq] at hv
      subst hv
      exact two_calls
    · cases hv
  · unfold printG at hv
    split at hv
    · split at hv
      · rename_i a he
        simp only [Option.some.injEq] at hv
        subst hv
        rw [AV.eqb_eq _ _ _ he]
        exact print_calls twoF (by intro r hr; simp at hr; rcases hr with rfl | rfl <;> decide)
      · cases hv
    · cases hv
  · unfold itoaG at hv
    split at hv
    · split at hv
      · rename_i n hn
        simp only [Option.some.injEq] at hv
        subst hv
        exact itoa_calls n hn.1 hn.2
      · cases hv
    · cases hv
end Ab
namespace Ab
open Go Go.RowKit Go.Proofs
attribute [local irreducible] aws awp aw1 Og Om Oc Oa Ogd Ov Ot awd aw1d awh aw1h Ogh Ohd awl Ogl Ohl awv Ogv Ohv QThen QBlock QFn QFnM QRo QBe ACode AYield
theorem fzB_mono {n m : Nat} (hnm : n ≤ m) : ∀ (k : Nat) (v : AV), fzB n k v = true → fzB m k v = true := by
  intro k
  induction k with
  | zero => intro v h; cases h
  | succ k ih =>
    intro v h
    cases v <;> simp only [fzB, decide_eq_true_eq, Bool.false_eq_true] at h ⊢
    case ptr => omega
    case yld => omega
    case arr => omega
    case pl l => exact List.all_eq_true.2 fun x hx => List.all_eq_true.2 fun y hy => ih _ (List.all_eq_true.1 (List.all_eq_true.1 h x hx) y hy)
    case agg l => exact List.all_eq_true.2 fun x hx => ih _ (List.all_eq_true.1 h x hx)
    case tup l => exact List.all_eq_true.2 fun x hx => ih _ (List.all_eq_true.1 h x hx)
def stateF : FOrc := fun f args σ => if f = 138 then (match args with
  | [.ptr d o, .agg [.int .i64 k, .int .i64 n]] => if o = 0 then (match σ[d]? with
    | some (.cells [rv, .mp m]) => (match σ[m]? with
      | some (.map es) => (match deskAt rv es k n σ with
        | some (w, is) => if w.one = true ∧ fzB σ.length 20 w = true then some (.agg [.bool is, w]) else none
        | none => none)
      | _ => none)
    | _ => none) else none
  | _ => none) else none
theorem stateF_good : stateF.Good Tryz.prog := by
  intro f args σ v hf g
  unfold stateF at hf
  split at hf
  · rename_i he
    subst he
    split at hf
    · rename_i d o k n
      split at hf
      · rename_i ho
        subst ho
        split at hf
        · rename_i rv m h1
          split at hf
          · rename_i es h2
            split at hf
            · rename_i w is h3
              split at hf
              · rename_i hc
                simp only [Option.some.injEq] at hf
                subst hf
                exact state_calls (σ ++ g) d m rv es (get_more h1) (get_more h2) k n w is (deskAt_frame h3) hc.1 fun S => fzB_sound 20 _ _ (fzB_mono (by simp) _ _ hc.2)
              · cases hf
            · cases hf
          · cases hf
        · cases hf
      · cases hf
    · cases hf
  · cases hf
def ofF (F : FOrc) : Orc := fun f args σ => (F f args σ).map (·, σ)
theorem ofF_good {F : FOrc} (h : F.Good Tryz.prog) : (ofF F).Good Tryz.prog := by
  intro f args σ v σ' hf
  unfold ofF at hf
  rw [Option.map_eq_some_iff] at hf
  obtain ⟨v', h1, h2⟩ := hf
  simp only [Prod.mk.injEq] at h2
  obtain ⟨rfl, rfl⟩ := h2
  have := h f args σ v' h1 []
  simpa using this
abbrev lawO : Orc := orO awakeO (ofF stateF)
theorem lawO_good : lawO.Good Tryz.prog := orO_good awakeO_good (ofF_good stateF_good)
end Ab
namespace Ab
open Go Go.RowKit Go.Proofs
set_option maxRecDepth 100000 in
theorem awake_calls : APure Tryz.prog 16 [] (.bool true) := APure.runG (F := stateF) (O := lawO) 300 mixed stateF_good lawO_good (by kernel_rfl)
end Ab
namespace Ab
open Go Go.RowKit Go.Proofs
attribute [local irreducible] aws awp aw1 Og Om Oc Oa Ogd Ov Ot awd aw1d awh aw1h Ogh Ohd awl Ogl Ohl awv Ogv Ohv QThen QBlock QFn QFnM QRo QBe ACode AYield
set_option maxHeartbeats 1000000 in
theorem equal_calls (a b : List (List UInt8)) (ha : a.length ≤ 2 ^ 40) : APure Tryz.prog 135 [wordsAV a, wordsAV b] (.bool (decide (a = b))) := by
  intro σ
  refine acalls_fn Tryz.func135 rfl (enters_fn Tryz.func135 (by decide) rfl) ?_
  by_cases hab : a.length = b.length
  · obtain ⟨n, hn⟩ : ∃ n, b.length = n := ⟨_, rfl⟩
    have han : a.length = n := hab.trans hn
    simp [Tryz.ntmps135, han, hn]
    refine ACode_loopT (fun env σ' => ∃ (u : List AV) (i : Nat), env = { t := u } ∧ u.length = 26 ∧ tg u 0 = wordsAV a ∧ tg u 1 = wordsAV b ∧ tg u 12 = .int .i64 n ∧ tg u 13 = .int .i64 i ∧ σ' = σ ∧ i ≤ n ∧ a.take i = b.take i)
      (fun env _ => match tg env.t 13 with | .int _ i => n - i.toNat | _ => 0) ⟨_, 0, rfl, by simp, by simp, by simp, by simp, by simp, rfl, by omega, by simp⟩ ?_
    rintro env σ' ⟨u, i, rfl, hl, g0, g1, g12, g13, rfl, hi, hd⟩
    rcases Nat.lt_or_ge i n with hlt | hge
    · have hlt' : (i : Int) < (n : Int) := by omega
      have hx := w64 (n := (i : Int) + 1) (by omega) (by omega)
      have hia : i < a.length := by omega
      have hib : i < b.length := by omega
      simp [hl, g0, g1, g12, g13, hlt']
      refine ACode_draw0 mixed (by kernel_rfl) ?_
      by_cases he : a[i] = b[i]
      · simp [hl, g0, g1, g12, g13, han, hn, hlt, hlt', he, hx]
        refine ⟨⟨i + 1, by simp, by omega, ?_⟩, by omega⟩
        rw [List.take_succ_eq_append_getElem hia, List.take_succ_eq_append_getElem hib, hd, he]
      · have hne : ¬ a = b := fun h => he (by subst h; rfl)
        simp [hl, g0, g1, g12, g13, han, hn, hlt, hlt', he, hne]
    · have hge' : ¬ (i : Int) < (n : Int) := by omega
      have hE : a = b := by
        rw [List.take_of_length_le (by omega), List.take_of_length_le (by omega)] at hd
        exact hd
      simp [hl, g0, g1, g12, g13, hge', hE]
  · have hne : ¬ a = b := fun h => hab (by rw [h])
    have hab' : ¬ (a.length : Int) = (b.length : Int) := by omega
    simp [Tryz.ntmps135, hab', hne, hab]
theorem like_calls (a b : List (List UInt8)) (ha : a.length ≤ 2 ^ 40) : APure Tryz.prog 66 [wordsAV a, wordsAV b] (.bool (decide (a = b))) := by
  intro σ
  refine acalls_fn Tryz.func66 rfl (enters_fn Tryz.func66 (by decide) rfl) ?_
  simp [Tryz.ntmps66]
  refine (equal_calls a b ha).use ?_
  simp
theorem rec_ext {r q : Oyez.Rec} (h1 : r.kind = q.kind) (h2 : r.number = q.number) (h3 : r.words = q.words) : r = q := by
  cases r; cases q; simp_all
set_option maxHeartbeats 2000000 in
theorem same_calls (a b : List Oyez.Rec) (ha : a.length ≤ 2 ^ 40) (hw : ∀ r ∈ a, r.words.length ≤ 2 ^ 40) : APure Tryz.prog 19 [fileAV a, fileAV b] (.bool (decide (a = b))) := by
  refine APure.of fun σ => ?_
  refine acalls_fn Tryz.func19 rfl (enters_fn Tryz.func19 (by decide) rfl) ?_
  by_cases hab : a.length = b.length
  · obtain ⟨n, hn⟩ : ∃ n, b.length = n := ⟨_, rfl⟩
    have han : a.length = n := hab.trans hn
    simp [Tryz.ntmps19, han, hn]
    refine ACode_loopT (fun env σ' => ∃ (u : List AV) (i : Nat) (g : Heap), env = { t := u } ∧ u.length = 49 ∧ tg u 0 = fileAV a ∧ tg u 1 = fileAV b ∧ tg u 12 = fileAV a ∧ tg u 13 = .int .i64 n ∧ tg u 14 = .int .i64 i ∧ σ' = σ ++ g ∧ i ≤ n ∧ a.take i = b.take i)
      (fun env _ => match tg env.t 14 with | .int _ i => n - i.toNat | _ => 0) ⟨_, 0, [], rfl, by simp, by simp, by simp, by simp, by simp, by simp, by simp, by omega, by simp⟩ ?_
    rintro env σ' ⟨u, i, g, rfl, hl, g0, g1, g12, g13, g14, rfl, hi, hd⟩
    rcases Nat.lt_or_ge i n with hlt | hge
    · have hlt' : (i : Int) < (n : Int) := by omega
      have hx := w64 (n := (i : Int) + 1) (by omega) (by omega)
      have hia : i < a.length := by omega
      have hib : i < b.length := by omega
      simp [hl, g0, g1, g12, g13, g14, hlt', han, hlt]
      refine ACode_draw0 mixed (by kernel_rfl) ?_
      have hne : ¬ a[i] = b[i] → ¬ a = b := fun he h => he (by subst h; rfl)
      by_cases hk : a[i].kind = b[i].kind
      · by_cases hm : a[i].number = b[i].number
        · simp [hl, g0, g1, g12, g13, g14, hlt', han, hn, hlt, hk, hm]
          refine Ou_use (like_calls _ _ (hw _ (List.getElem_mem hia))) ?_
          by_cases hws : a[i].words = b[i].words
          · have he := rec_ext hk hm hws
            simp [hl, g0, g1, g12, g13, g14, hlt', han, hn, hlt, hk, hm, hws, hx]
            refine ⟨⟨i + 1, by simp, hlt, ?_⟩, by omega⟩
            rw [List.take_succ_eq_append_getElem hia, List.take_succ_eq_append_getElem hib, hd, he]
          · have hne' := hne fun h => hws (by rw [h])
            simp [hl, g0, g1, g12, g13, g14, hlt', han, hn, hlt, hk, hm, hws, hx, hne']
        · have hne' := hne fun h => hm (by rw [h])
          simp [hl, g0, g1, g12, g13, g14, hlt', han, hn, hlt, hk, hm, hne']
      · have hne' := hne fun h => hk (by rw [h])
        simp [hl, g0, g1, g12, g13, g14, hlt', han, hn, hlt, hk, hne']
    · have hge' : ¬ (i : Int) < (n : Int) := by omega
      have hE : a = b := by
        rw [List.take_of_length_le (by omega), List.take_of_length_le (by omega)] at hd
        exact hd
      simp [hl, g0, g1, g12, g13, g14, hge', hE]
  · have hne : ¬ a = b := fun h => hab (by rw [h])
    have hab' : ¬ (a.length : Int) = (b.length : Int) := by omega
    simp [Tryz.ntmps19, hab', hne, hab]
set_option maxHeartbeats 2000000 in
theorem ours_calls (f : List Oyez.Rec) (hf : f.length ≤ 2 ^ 40) : APure Tryz.prog 20 [fileAV f] (fileAV f) := by
  refine APure.of fun σ => ?_
  refine acalls_fn Tryz.func20 rfl (enters_fn Tryz.func20 (by decide) rfl) ?_
  simp [Tryz.ntmps20]
  refine ACode_loopT (fun env σ' => ∃ (u : List AV) (i : Nat) (v : AV) (g : Heap) (o : Option Nat), env = { t := u } ∧ u.length = 24 ∧ tg u 0 = fileAV f ∧ tg u 3 = v ∧ tg u 6 = fileAV f ∧ tg u 7 = .int .i64 f.length ∧ tg u 8 = .int .i64 i ∧ σ' = σ ++ g ∧ i ≤ f.length ∧ Acc σ g 3 v ((f.take i).map recAV) o)
    (fun env _ => match tg env.t 8 with | .int _ i => f.length - i.toNat | _ => 0) ⟨_, 0, .nils, [], none, rfl, by simp, by simp, by simp, by simp, by simp, by simp, by simp, by omega, by simpa using Acc.nil _ _ _⟩ ?_
  rintro env σ' ⟨u, i, v, g, o, rfl, hl, g0, g3, g6, g7, g8, rfl, hi, hA⟩
  rcases Nat.lt_or_ge i f.length with hlt | hge
  · have hlt' : (i : Int) < (f.length : Int) := by omega
    have hx := w64 (n := (i : Int) + 1) (by omega) (by omega)
    have hA1 := ((hA.more [.cells (recCells f[i])]).push (P := Tryz.prog) (t := 23) (e := 59) (ag := true) (x := recAV f[i]) (by simp) (by simp) (by simp) (by omega) ⟨by simp [AV.cells], by simp [AV.cells, AV.one]⟩ (by simp; omega))
    obtain ⟨v', g', o', he, hA', _⟩ := hA1
    simp [-aappend, recCells] at he
    rw [← Nat.add_assoc] at he
    simp [-aappend, hl, g0, g3, g6, g7, g8, hlt', hlt, hx, he]
    refine ⟨⟨i + 1, by simp, hlt, o', ?_⟩, by omega⟩
    rw [List.take_succ_eq_append_getElem (by simpa using hlt), List.getElem_map, ← List.map_take]
    exact hA'
  · have hge' : ¬ (i : Int) < (f.length : Int) := by omega
    rw [List.take_of_length_le hge] at hA
    have hz := hA.fz (fun x hx y hy => by
      obtain ⟨r, _, rfl⟩ := List.mem_map.1 hx
      simp [AV.cells] at hy
      rcases hy with rfl | rfl | rfl
      · exact .int _ _
      · exact .int _ _
      · exact (Fz_strs _ _ _).2 trivial)
    simpa [hl, g0, g3, g6, g7, g8, hge'] using hz
end Ab
namespace Oyez
end Oyez
namespace Ab
open Go Go.RowKit Go.Proofs
attribute [local irreducible] aws awp aw1 Og Om Oc Oa Ogd Ov Ot awd aw1d awh aw1h Ogh Ohd awl Ogl Ohl awv Ogv Ohv QThen QBlock QFn QFnM QRo QBe ACode AYield
end Ab
