/-
  ROWS OF RECORDS WHOSE WORDS ARE ANY VALUES: slices.IndexFunc, slices.DeleteFunc and slices.BinarySearchFunc by their places.
  COPIES SETTLED, the choices being a slice of the caller's own.
  WHAT JOIN AND SETTLE GIVE, never written again; arguments told with less; a row's room within a piece of code.
-/
import Derived.Test.YtdifgaapdnbliaaGreatDoorM21
import Derived.Test.YtdifgaapdnbliaaGreatDoorM31
import Derived.Test.YtdifgaapdnbliaaGreatDoorM35
import Derived.Test.YtdifgaapdnbliaaGreatDoorM40
import Derived.Test.YtdifgaapdnbliaaGreatDoorM41
set_option linter.unusedSimpArgs false
set_option linter.unusedVariables false
set_option linter.unusedSectionVars false
namespace Ab
open Go Go.RowKit Go.Proofs
section
variable [Mode]
/-- a result told with less: its room is not told, nor the cells behind the ones that count -/
theorem ACalls.fit {P : Program} {f : FuncId} {args : List AV} {σ : Heap} {R : AV → Heap → Prop}
    (h : ACalls P f args σ fun v σ' => ∃ (v' : AV) (r : Nat) (cs tl : List AV), (v = v' ∨ ∃ k2 r2 o2 l2 c2, v = .arc k2 r2 o2 l2 c2 ∧ v' = .arr k2 r2 o2 l2) ∧ σ'[r]? = some (.cells (cs ++ tl)) ∧ R v' (σ'.set r (.cells cs))) : ACalls P f args σ R := by
  have fin : ∀ {C' : Ctx} {v : AV} {d : Value} {σ' : Heap}, Inv C' σ' → VR C' v d → (∃ (v' : AV) (r : Nat) (cs tl : List AV), (v = v' ∨ ∃ k2 r2 o2 l2 c2, v = .arc k2 r2 o2 l2 c2 ∧ v' = .arr k2 r2 o2 l2) ∧ σ'[r]? = some (.cells (cs ++ tl)) ∧ R v' (σ'.set r (.cells cs))) →
      ∃ (v' : AV) (σ2 : Heap), Inv C' σ2 ∧ VR C' v' d ∧ R v' σ2 := by
    rintro C' v d σ' hI' hv' ⟨v', r, ds, tl, hvv, hr', hR⟩
    have hb : ∃ b, C'.blk[r]? = some b := by
      have := (List.getElem?_eq_some_iff.1 hr').1
      have hl := hI'.len
      exact ⟨_, List.getElem?_eq_getElem (by omega)⟩
    obtain ⟨b, hb⟩ := hb
    refine ⟨v', _, hI'.retell hb hr' rfl fun c hc' hrel => ?_, ?_, hR⟩
    · obtain ⟨carr, e, lo, hi, rfl, h1, h2, h3⟩ := hrel.cells_inv
      refine .cells ds carr e lo hi (by rw [List.length_append] at h1; omega) h2 fun i x d hx hd => h3 i x d ?_ hd
      rw [List.getElem?_append_left (List.getElem?_eq_some_iff.1 hx).1]
      exact hx
    · rcases hvv with rfl | ⟨k2, r2, o2, l2, c2, rfl, rfl⟩
      · exact hv'
      · obtain ⟨b2, e2, n2, q1, q2, q3, q4, rfl⟩ := hv'.arc_inv
        exact .arr k2 r2 o2 l2 b2 c2 e2 n2 q1 q2 q3 q4
  rcases h with h | h
  · refine .inl ⟨h.1, fun C cargs hI hv => (h.2 C cargs hI hv).mono ?_⟩
    rintro en w' ⟨d, C', av, σ', rfl, rfl, hE, hI', hv', hR⟩
    obtain ⟨v', σ2, a1, a2, a3⟩ := fin hI' hv' hR
    exact ⟨d, C', v', σ2, rfl, rfl, hE, a1, a2, a3⟩
  · refine .inr fun C cargs hI hv => ?_
    obtain ⟨d, C', av, σ', hrun, hE, hI', hv', hR⟩ := h C cargs hI hv
    obtain ⟨v', σ2, a1, a2, a3⟩ := fin hI' hv' hR
    exact ⟨d, C', v', σ2, hrun, hE, a1, a2, a3⟩
/-- A ROW'S ROOM, within a piece of code. -/
theorem ACode_room {P : Program} {rd : Option Nat} {c : Code} {Q : Exit → Env → Heap → Prop} {t : List AV} {m : List Nat} {σ : Heap} {q k r len : Nat} {cs : List AV} (ht : tg t q = .arr k r 0 len) (hq : q < t.length) (hr : σ[r]? = some (.cells cs)) (hcl : cs.length = len * k)
    (h : ∀ cap, len ≤ cap → ACode P rd c Q { t := ts t q (.arc k r 0 len cap), m := m } (σ.set r (.cells (cs ++ List.replicate ((cap - len) * k) .any)))) : ACode P rd c Q { t := t, m := m } σ := by
  intro C a ro hI he hro
  have hta : t[q]? = some (.arr k r 0 len) := by
    rw [List.getElem?_eq_getElem hq]
    have : tg t q = t[q] := by unfold tg; rw [List.getD_eq_getElem?_getD, List.getElem?_eq_getElem hq]; rfl
    rw [← this, ht]
  have hlen : t.length = _ := he.t.len
  have hca : a.tmps.toList[q]? = some (a.tmps.toList[q]'(by omega)) := List.getElem?_eq_getElem (by omega)
  have hx := he.t.at_ q _ _ hta hca
  obtain ⟨b, cap, e, n, hb, hcap, hsh, hbd, hce⟩ := hx.arr_inv
  obtain ⟨hnp, carr, e', lo, hi, hc, hsz, hfr, hrel⟩ := hI.cells hb hr
  have hn : carr.size = n := by
    simp [World.shape?, hc] at hsh
    exact hsh.2
  have hI2 : Inv C (σ.set r (.cells (cs ++ List.replicate ((cap - len) * k) .any))) := hI.retell hb hr rfl fun c hc' _ => by
    rw [hc] at hc'
    obtain rfl := Option.some.inj hc'
    refine .cells _ carr e' lo hi ?_ hfr fun i x d hx hd => ?_
    · rw [List.length_append, List.length_replicate, hcl, hn, ← Nat.add_mul, show len + (cap - len) = 0 + cap by omega]
      exact hbd.1
    · rcases Nat.lt_or_ge i cs.length with h1 | h1
      · rw [List.getElem?_append_left h1] at hx
        exact hrel i x d hx hd
      · rw [List.getElem?_append_right h1] at hx
        have := List.mem_of_getElem? hx
        rw [List.mem_replicate] at this
        rw [this.2]
        exact .any d
  have hv2 : VR C (.arc k r 0 len cap) a.tmps.toList[q] := by rw [hce]; exact .arc k r 0 len b cap e n hb hcap hsh hbd
  refine h cap hcap C a ro hI2 ⟨⟨?_, fun i x d hx hd => ?_⟩, he.m, he.mark⟩ hro
  · show (ts t q _).length = _
    rw [ts_length]; exact hlen
  · show VR C x d
    have hx' : (t.set q (.arc k r 0 len cap))[i]? = some x := hx
    by_cases hiq : q = i
    · subst hiq
      rw [List.getElem?_set_self hq] at hx'
      obtain rfl := Option.some.inj hx'
      rw [hca] at hd
      obtain rfl := Option.some.inj hd
      exact hv2
    · rw [List.getElem?_set_ne hiq] at hx'
      exact he.t.at_ i x d hx' hd
theorem acalls_cutC {P : Program} {f : FuncId} {fn : Func} {c : Code} {args : List AV} {σ : Heap} {R : AV → Heap → Prop} (n : Nat) (I : Env → Heap → Prop) (hf : P.funcs[f]? = some fn) (hb : fn.body = some c) (hen : Enters P f)
    (h1 : awp P none (cutC n c).1 (QThen I (QFn P fn R)) { t := te args fn.ntmps } σ) (h2 : ∀ (env : Env) (σ : Heap), I env σ → ACode P none (cutC n c).2 (QFn P fn R) env σ) : ACalls P f args σ R := by
  refine acalls_of hf hb hen ?_
  have key : ∀ (n : Nat) (c : Code) (Q : Exit → Env → Heap → Prop) (env : Env) (σ : Heap), (∀ (env : Env) (σ : Heap), I env σ → ACode P none (cutC n c).2 Q env σ) → awp P none (cutC n c).1 (QThen I Q) env σ → ACode P none c Q env σ := by
    intro n
    induction n with
    | zero =>
      intro c Q env σ h2 h1
      rw [awp_cut0] at h1
      have := h2 _ _ h1
      have e : (cutC 0 c).2 = c := by cases c <;> rfl
      rwa [e] at this
    | succ n ih =>
      intro c Q env σ h2 h1
      have skip : (cutC (n + 1) c) = (.skip, c) → ACode P none c Q env σ := by
        intro e
        rw [e] at h1 h2
        exact h2 _ _ h1
      cases c with
      | seq a b =>
        refine ACode_seq ((awp_sound _ (awp_cut1 ▸ h1)).mono fun e env s hq => ?_)
        cases e with
        | normal => exact ih b Q env s (fun env σ h => h2 env σ h) hq
        | _ => exact hq
      | _ => exact skip rfl
  exact key n c _ _ _ h2 h1
end
attribute [local irreducible] aws awp aw1 Og Om Oc Oa Ogd Ov Ot awd aw1d awh aw1h Ogh Ohd awl Ogl Ohl awv Ogv Ohv QThen QBlock QFn QFnM QRo QBe ACode AYield
/-- a record's cells: its place, and its words as any value -/
abbrev PV := Oyez.Place × AV
def pvC (x : PV) : List AV := [.int .i64 x.1.kind, .int .i64 x.1.number, x.2]
def cellsV (l : List PV) : List AV := l.flatMap pvC
end Ab
namespace Ab
open Go Go.RowKit Go.Proofs
attribute [local irreducible] aws awp aw1 Og Om Oc Oa Ogd Ov Ot awd aw1d awh aw1h Ogh Ohd awl Ogl Ohl awv Ogv Ohv QThen QBlock QFn QFnM QRo QBe ACode AYield
theorem choose103O {σ : Heap} {t q p r off : Nat} {cs : List AV} {d0 d1 d2 : AV} {sec : List Bool} (i : Nat) (hi : i < sec.length) (hr : σ[r]? = some (.cells cs)) (hcs : cs[off + i]? = some (.bool sec[i])) (hp : σ[p]? = some (.cells [.arr 1 r off sec.length])) (h1 : σ[t]? = some (.cells [.arr 1 q 0 3])) (h2 : σ[q]? = some (.cells [d0, d1, d2])) (ho : d1.one = true) (ho2 : d2.one = true) :
    ACalls Tryz.prog 103 [.int .i64 i, .ptr p 0, .ptr t 0] σ fun v s => v = (if sec[i] then d2 else d1) ∧ s = σ := by
  refine acalls_fn Tryz.func103 rfl (enters_fn Tryz.func103 (by decide) rfl) ?_
  have hi' : (i : Int) < (sec.length : Int) := by omega
  have hb : off + i + 1 ≤ cs.length := (List.getElem?_eq_some_iff.1 hcs).1
  cases hs : sec[i] with
  | true => simp [Tryz.ntmps103, h1, h2, hp, hi, hi', hr, hcs, hb, hs]
  | false => simp [Tryz.ntmps103, h1, h2, hp, hi, hi', hr, hcs, hb, hs]
set_option maxHeartbeats 8000000 in
theorem settle34O_calls (a b c : List Oyez.Rec) (sec : List Bool) (ha : Few a) (hb : Few b) (hc : Few c) (hl : a.length ≤ 2 ^ 38 ∧ b.length ≤ 2 ^ 38 ∧ c.length ≤ 2 ^ 38) (hs : sec.length ≤ 2 ^ 40) (σ : Heap) {r off : Nat} {cs : List AV} (hr : σ[r]? = some (.cells cs)) (hcs : ∀ (i : Nat) (h : i < sec.length), cs[off + i]? = some (.bool sec[i])) :
    ACalls Tryz.prog 34 [fileAV a, fileAV b, fileAV c, .arr 1 r off sec.length] σ fun v σ' => v = .tup [ownV σ.length 0 (settleR a b c sec).1, .int .i64 (settleR a b c sec).2] ∧ σ' = σ ++ ownG σ.length 0 (settleR a b c sec).1 := by
  have hw : ∀ r ∈ a ++ b ++ c, r.words.length ≤ 2 ^ 40 := by
    intro r hr
    rcases List.mem_append.1 hr with hr | hr
    · rcases List.mem_append.1 hr with hr | hr
      · have := (ha r hr).2; omega
      · have := (hb r hr).2; omega
    · have := (hc r hr).2; omega
  have hlab : (a ++ b ++ c).length ≤ 2 ^ 40 := by rw [List.length_append, List.length_append]; omega
  have hrl := (List.getElem?_eq_some_iff.1 hr).1
  have hrr : ∀ X : Heap, (σ ++ X)[r]? = some (.cells cs) := fun X => by rw [List.getElem?_append_left hrl]; exact hr
  refine ACalls.canon ?_
  obtain ⟨R, hR⟩ : ∃ R, settleR a b c sec = R := ⟨_, rfl⟩
  rw [hR]
  unfold settleR at hR
  refine acalls_fn Tryz.func34 rfl (enters_fn Tryz.func34 (by decide) rfl) ?_
  simp [Tryz.ntmps34]
  refine StA.of ((checked3_calls (σ := σ ++ [.cells [.arr 1 r off sec.length], .cells [fileAV a, fileAV b, fileAV c]]) (q := σ.length + 1) a b c (by simp) ha hb hc (by omega)).mono ?_)
  rintro v σ' (⟨he, rfl, g, rfl⟩ | ⟨he, rfl, rfl⟩)
  · rw [if_pos he] at hR
    subst hR
    simp [he]
    exact ⟨[], [], rfl, List.nodup_nil, fun i o' h => by simp at h, .tup [.nils, .int .i64 (chk3 a b c)], .tup _ _ rfl (RnL.cons .nils (RnL.cons (.int _ _) (RnL.nil _ _))).2, by simp [ownV], by simp [ownG]⟩
  · rw [if_neg (by simp [he])] at hR
    simp [he, ckH, deskG]
    refine ACode_drawH [10] mixed (by kernel_rfl) ?_
    simp [-alen, Nat.add_assoc]
    apply OuH_of
    case h =>
      refine merged_calls (base := a) (a := b) (b := c) ?_ ?_ ?_ hlab hw [] 102 [.ptr (σ.length + 14) 0] ?_
      · exact ⟨σ.length + 2, σ.length + 3, rfl, by simp, by simp⟩
      · exact ⟨σ.length + 6, σ.length + 7, rfl, by simp, by simp⟩
      · exact ⟨σ.length + 10, σ.length + 11, rfl, by simp, by simp⟩
      · intro g i hi
        refine ⟨.ptr (σ.length + 2) 0, a, ⟨σ.length + 2, σ.length + 3, rfl, by simp, by simp⟩, fun p => rfl, ?_⟩
        exact choose102 (q := σ.length + 13) (d0 := .ptr (σ.length + 2) 0) (d1 := .ptr (σ.length + 6) 0) (d2 := .ptr (σ.length + 10) 0) i (by simp) (by simp) rfl
    obtain ⟨F0, hF0⟩ : ∃ F, (Oyez.join a b c []).out = F := ⟨_, rfl⟩
    obtain ⟨L0, hL0⟩ : ∃ L, (Oyez.join a b c []).conf.map Oyez.Chg.place = L := ⟨_, rfl⟩
    have hL0l : (Oyez.join a b c []).conf.length = L0.length := by rw [← hL0, List.length_map]
    rw [hL0l] at hR
    rw [hF0, hL0]
    have hc1 := alen_conf (σ.length + 15) (ownG (σ.length + 15) 0 F0).length L0
    have hsl : ∀ S : Heap, alen Tryz.prog 37 (.arr 1 r off sec.length) S = some (.int .i64 sec.length) := fun S => by simp
    simp [-alen, hc1, hsl]
    by_cases hsec : L0.length = sec.length
    · rw [if_neg (by simp [hsec])] at hR
      have hsec' : (L0.length : Int) = (sec.length : Int) := by omega
      simp [-alen, hc1, hsl, hsec, hsec']
      refine ACode_drawH [10] mixed (by kernel_rfl) ?_
      simp [-alen, Nat.add_assoc]
      simp [-alen, Nat.add_assoc, List.getElem?_cons_zero]
      apply OuH_of
      case h =>
        refine merged_calls (base := a) (a := b) (b := c) ?_ ?_ ?_ hlab hw sec 103 [.ptr σ.length 0, .ptr (σ.length + 14) 0] ?_
        · exact ⟨σ.length + 2, σ.length + 3, rfl, by simp, by simp⟩
        · exact ⟨σ.length + 6, σ.length + 7, rfl, by simp, by simp⟩
        · exact ⟨σ.length + 10, σ.length + 11, rfl, by simp, by simp⟩
        · intro g i hi
          rw [Oyez.join_conf a b c sec [], hL0l, hsec] at hi
          refine ⟨if sec[i] then .ptr (σ.length + 10) 0 else .ptr (σ.length + 6) 0, if sec[i] then c else b, ?_, fun p => ?_, ?_⟩
          · cases sec[i] with
            | true => exact ⟨σ.length + 10, σ.length + 11, rfl, by simp, by simp⟩
            | false => exact ⟨σ.length + 6, σ.length + 7, rfl, by simp, by simp⟩
          · unfold Oyez.pickJ
            rw [List.getElem?_eq_getElem hi]
            cases sec[i] <;> rfl
          · refine choose103O (r := r) (off := off) (cs := cs) (q := σ.length + 13) (p := σ.length) (d0 := .ptr (σ.length + 2) 0) (d1 := .ptr (σ.length + 6) 0) (d2 := .ptr (σ.length + 10) 0) i hi ?_ (hcs i hi) (by simp) (by simp) (by simp) rfl rfl
            simp [List.getElem?_append_left hrl, hr]
      obtain ⟨F, hF⟩ : ∃ F, (Oyez.join a b c sec).out = F := ⟨_, rfl⟩
      obtain ⟨L, hL⟩ : ∃ L, (Oyez.join a b c sec).conf.map Oyez.Chg.place = L := ⟨_, rfl⟩
      rw [hF] at hR
      rw [hF, hL]
      have hF1 : ∀ (m : Nat) (S : Heap), alen Tryz.prog 23 (ownV m 0 F) S = some (.int .i64 F.length) := fun m S => alen_own m 0 F S
      simp [-alen, hF1]
      by_cases h40 : 40 < F.length
      · rw [if_pos h40] at hR
        subst hR
        have h40' : (40 : Int) < (F.length : Int) := by omega
        simp [-alen, hF1, h40, h40']
        exact ⟨[], [], rfl, List.nodup_nil, fun i o' h => by simp at h, .tup [.nils, .int .i64 2], .tup _ _ rfl (RnL.cons .nils (RnL.cons (.int _ _) (RnL.nil _ _))).2, by simp [ownV], by simp [ownG]⟩
      · rw [if_neg h40] at hR
        subst hR
        have key := canon_fin2 (n := σ.length) (pre := [.cells [.arr 1 r off sec.length], .cells [fileAV a, fileAV b, fileAV c]] ++ (ckH (σ.length + 2) a b c 3 ++ [.cells [.arr 1 (σ.length + 13) 0 3]]) ++ (ownG (σ.length + 15) 0 F0 ++ confG L0)) (post := confG L) rfl F 0
        simp [ckH, deskG, Nat.add_assoc] at key
        have h40' : ¬ (40 : Int) < (F.length : Int) := by omega
        simp [-alen, hF1, h40, h40', Nat.add_assoc]
        exact key
    · have hsec' : ¬ (L0.length : Int) = (sec.length : Int) := by omega
      rw [if_pos hsec] at hR
      subst hR
      simp [-alen, hc1, hsl, hsec, hsec']
      exact ⟨[], [], rfl, List.nodup_nil, fun i o' h => by simp at h, .tup [.nils, .int .i64 2], .tup _ _ rfl (RnL.cons .nils (RnL.cons (.int _ _) (RnL.nil _ _))).2, by simp [ownV], by simp [ownG]⟩
end Ab
namespace Ab
open Go Go.RowKit Go.Proofs
variable [Mode]
/-- arguments told with less -/
theorem ACalls.lower {P : Program} {f : FuncId} {args args' : List AV} {σ : Heap} {R : AV → Heap → Prop} (h : ACalls P f args' σ R) (hl : args'.length = args.length)
    (hz : ∀ (i : Nat) (x y : AV) (C : Ctx) (c : Value), args[i]? = some x → args'[i]? = some y → VR C x c → VR C y c) : ACalls P f args σ R := by
  have lent : ∀ {C : Ctx} {cargs : List Value}, VRs C args cargs → VRs C args' cargs := by
    intro C cargs hv
    refine ⟨hl ▸ hv.len, fun i y c hy hc => ?_⟩
    have hi := (List.getElem?_eq_some_iff.1 hy).1
    have hx : args[i]? = some (args[i]'(by omega)) := List.getElem?_eq_getElem (by omega)
    exact hz i _ y C c hx hy (hv.at_ i _ c hx hc)
  rcases h with h | h
  · exact .inl ⟨h.1, fun C cargs hI hv => h.2 C cargs hI (lent hv)⟩
  · exact .inr fun C cargs hI hv => h C cargs hI (lent hv)
theorem VR.arc_arr {C : Ctx} {k r off len cap : Nat} {c : Value} (h : VR C (.arc k r off len cap) c) : VR C (.arr k r off len) c := by
  obtain ⟨b, e, n, h1, h2, h3, h4, rfl⟩ := h.arc_inv
  exact .arr k r off len b cap e n h1 h2 h3 h4
end Ab
namespace Ab
open Go Go.RowKit Go.Proofs
attribute [local irreducible] aws awp aw1 Og Om Oc Oa Ogd Ov Ot awd aw1d awh aw1h Ogh Ohd awl Ogl Ohl awv Ogv Ohv QThen QBlock QFn QFnM QRo QBe ACode AYield
/-- own words, read as what they hold once objects n and behind are never written again -/
theorem fz_strsN {n : Nat} {τ : Heap} {q : Nat} (ws : List (List UInt8)) (hn : n ≤ q) (h : τ[q]? = some (.cells (strs ws))) : Fz n τ (.arr 1 q 0 ws.length) (wordsAV ws) := by
  have hl : ws.length = (strs ws).length := by simp [strs]
  rw [hl]
  refine Fz.arr 1 q 0 (strs ws) (strs ws) (fun i _ => (strs ws).getD i .any) hn h (fun i x hx => ?_) (fun i x hx j y hy => ?_)
  · have hx' := hx
    simp only [strs, List.getElem?_map, Option.map_eq_some_iff] at hx
    obtain ⟨s, hs, rfl⟩ := hx
    refine ⟨rfl, fun j y hy => ?_⟩
    match j, hy with
    | 0, hy =>
      simp [AV.cells] at hy; subst hy
      refine ⟨rfl, ?_⟩
      rw [Nat.zero_add, Nat.mul_one, Nat.add_zero, List.getD_eq_getElem?_getD, hx']
      rfl
    | j + 1, hy => simp [AV.cells] at hy
  · have hx' := hx
    simp only [strs, List.getElem?_map, Option.map_eq_some_iff] at hx
    obtain ⟨s, hs, rfl⟩ := hx
    match j, hy with
    | 0, hy =>
      simp [AV.cells] at hy; subst hy
      rw [List.getD_eq_getElem?_getD, hx']
      exact .str _
    | j + 1, hy => simp [AV.cells] at hy
theorem OwnIn.fzN {n : Nat} {τ : Heap} {lo : Nat} {f : List Oyez.Rec} {v : AV} (hn : n ≤ lo) (h : OwnIn asIs τ lo f v) : Fz n τ v (fileAV f) := by
  rcases h.row with ⟨rfl, rfl⟩ | ⟨h1, rfl, cs, h3, h4, h5⟩
  · exact .nils_pl 3
  · have hl : f.length = (f.map recAV).length := by simp
    rw [hl]
    have hcell : ∀ (i : Nat) (r : Oyez.Rec), f[i]? = some r → ∃ w, (∀ j, j < 3 → cs[i * 3 + j]? = [AV.int .i64 r.kind, .int .i64 r.number, w][j]?) ∧ Fz n τ w (wordsAV r.words) := by
      intro i r hr
      obtain ⟨w, g1, g2⟩ := h5 i r hr
      refine ⟨w, fun j hj => ?_, ?_⟩
      · rw [← g1, List.getElem?_take_of_lt hj, List.getElem?_drop]
      · rcases g2 with ⟨g2, rfl⟩ | ⟨q, xs, a1, a2, rfl, a4, a5⟩
        · rw [g2]; exact .pl0 1 1
        · rw [show xs = strs r.words from a5] at a4
          exact fz_strsN _ (by omega) a4
    refine Fz.arr 3 lo 0 cs (f.map recAV) (fun i j => (cs[i * 3 + j]?).getD .any) hn h3 (fun i x hx => ?_) (fun i x hx j y hy => ?_)
    · rw [List.getElem?_map, Option.map_eq_some_iff] at hx
      obtain ⟨r, hr, rfl⟩ := hx
      obtain ⟨w, g1, g2⟩ := hcell i r hr
      refine ⟨rfl, fun j y hy => ?_⟩
      have hj : j < 3 := (List.getElem?_eq_some_iff.1 hy).1
      refine ⟨?_, ?_⟩
      · match j, hj, hy with
        | 0, _, hy => simp [AV.cells] at hy; subst hy; rfl
        | 1, _, hy => simp [AV.cells] at hy; subst hy; rfl
        | 2, _, hy => simp [AV.cells] at hy; subst hy; rfl
      · have := g1 j hj
        rw [Nat.zero_add, this]
        match j, hj with
        | 0, _ => rfl
        | 1, _ => rfl
        | 2, _ => rfl
    · rw [List.getElem?_map, Option.map_eq_some_iff] at hx
      obtain ⟨r, hr, rfl⟩ := hx
      obtain ⟨w, g1, g2⟩ := hcell i r hr
      have hj : j < 3 := (List.getElem?_eq_some_iff.1 hy).1
      rw [g1 j hj]
      match j, hj, hy with
      | 0, _, hy => simp [AV.cells] at hy; subst hy; exact .int _ _
      | 1, _, hy => simp [AV.cells] at hy; subst hy; exact .int _ _
      | 2, _, hy => simp [AV.cells] at hy; subst hy; exact g2
theorem conf_fz (σ mid : Heap) (l : List Oyez.Place) : Fz σ.length (σ ++ (mid ++ confG l)) (confV σ.length mid.length l) (placesAV l) := by
  unfold confV confG placesAV
  by_cases h : l = []
  · rw [if_pos h, h]; exact .nils_pl 2
  · rw [if_neg h, if_neg h]
    have := Acc.fz (σ := σ) (g := mid ++ [.cells (cellsP l)]) (k := 2) (v := .arr 2 (σ.length + mid.length) 0 l.length) (l := l.map placeAV) (o := some mid.length) ⟨fun x hx => by
      obtain ⟨p, _, rfl⟩ := List.mem_map.1 hx
      exact ⟨rfl, by simp [AV.cells, AV.one]⟩, by simp, by rw [cellsP_map, List.getElem?_append_right (Nat.le_refl _), Nat.sub_self]; rfl⟩ (fz_placeL _ _ _)
    exact this
theorem tup3 {n : Nat} {σ : Heap} {a b c a' b' c' : AV} (h1 : Fz n σ a a') (h2 : Fz n σ b b') (h3 : Fz n σ c c') : Fz n σ (.tup [a, b, c]) (.tup [a', b', c']) := by simp [h1, h2, h3]
/-- Join, what it gives being never written again -/
theorem joinP33 (a b c : List Oyez.Rec) (ha : Few a) (hb : Few b) (hc : Few c) (hl : a.length ≤ 2 ^ 38 ∧ b.length ≤ 2 ^ 38 ∧ c.length ≤ 2 ^ 38) :
    APure Tryz.prog 33 [fileAV a, fileAV b, fileAV c] (.tup [fileAV (joinR a b c).1, placesAV (joinR a b c).2.1, .int .i64 (joinR a b c).2.2]) := by
  refine APure.of fun σ => ?_
  refine (join33_calls a b c ha hb hc hl σ).mono ?_
  rintro v s ⟨rfl, rfl⟩
  refine ⟨_, rfl, tup3 ?_ (conf_fz _ _ _) (.int _ _)⟩
  have := (own_in σ (confG (joinR a b c).2.1) (joinR a b c).1).fzN (Nat.le_refl _)
  simpa using this
theorem settleP34 (a b c : List Oyez.Rec) (sec : List Bool) (ha : Few a) (hb : Few b) (hc : Few c) (hl : a.length ≤ 2 ^ 38 ∧ b.length ≤ 2 ^ 38 ∧ c.length ≤ 2 ^ 38) (hs : sec.length ≤ 2 ^ 40) {σ : Heap} {v : AV}
    (hv : (v = .nils ∧ sec = []) ∨ (∃ r off, (v = .arr 1 r off sec.length ∨ ∃ cap, v = .arc 1 r off sec.length cap) ∧ ∃ cs, σ[r]? = some (.cells cs) ∧ ∀ (i : Nat) (h : i < sec.length), cs[off + i]? = some (.bool sec[i]))) :
    ACalls Tryz.prog 34 [fileAV a, fileAV b, fileAV c, v] σ fun v s => v = .tup [fileAV (settleR a b c sec).1, .int .i64 (settleR a b c sec).2] ∧ s = σ := by
  refine ACalls.forget ?_
  have fin : ∀ v' : AV, ACalls Tryz.prog 34 [fileAV a, fileAV b, fileAV c, v'] σ (fun v σ' => v = .tup [ownV σ.length 0 (settleR a b c sec).1, .int .i64 (settleR a b c sec).2] ∧ σ' = σ ++ ownG σ.length 0 (settleR a b c sec).1) →
      (∀ (C : Ctx) (c : Value), VR C v c → VR C v' c) → ACalls Tryz.prog 34 [fileAV a, fileAV b, fileAV c, v] σ fun v σ' => ∃ g v', σ' = σ ++ g ∧ Fz σ.length σ' v v' ∧ v' = .tup [fileAV (settleR a b c sec).1, .int .i64 (settleR a b c sec).2] ∧ σ = σ := by
    intro v' h hlow
    refine (ACalls.lower (args := [fileAV a, fileAV b, fileAV c, v]) h rfl fun i x y C c hx hy hc => ?_).mono ?_
    · match i, hx, hy with
      | 0, hx, hy => simp only [List.getElem?_cons_zero, Option.some.injEq] at hx hy; subst hx; subst hy; exact hc
      | 1, hx, hy => simp only [List.getElem?_cons_zero, List.getElem?_cons_succ, Option.some.injEq] at hx hy; subst hx; subst hy; exact hc
      | 2, hx, hy => simp only [List.getElem?_cons_zero, List.getElem?_cons_succ, Option.some.injEq] at hx hy; subst hx; subst hy; exact hc
      | 3, hx, hy => simp only [List.getElem?_cons_zero, List.getElem?_cons_succ, Option.some.injEq] at hx hy; subst hx; subst hy; exact hlow C c hc
      | i + 4, hx, _ => simp at hx
    · rintro v s ⟨rfl, rfl⟩
      refine ⟨_, _, rfl, ?_, rfl, rfl⟩
      have := (own_in σ [] (settleR a b c sec).1).fzN (Nat.le_refl _)
      rw [List.append_nil] at this
      exact Fz.tup2 this (.int _ _)
  rcases hv with ⟨rfl, rfl⟩ | ⟨r, off, hv, cs, hr, hcs⟩
  · exact fin _ (settle34_calls a b c [] ha hb hc hl (by simp) σ) fun C c h => by cases h; exact .pl0 1 none 0 fun _ => rfl
  · refine fin _ (settle34O_calls a b c sec ha hb hc hl hs σ hr hcs) fun C c h => ?_
    rcases hv with rfl | ⟨cap, rfl⟩
    · exact h
    · exact h.arc_arr
end Ab
