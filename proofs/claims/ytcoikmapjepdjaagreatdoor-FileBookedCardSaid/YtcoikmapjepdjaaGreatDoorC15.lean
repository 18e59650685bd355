/-
  THE DESK: the words at a place, and the state there.
-/
import Derived.Test.YtcoikmapjepdjaaGreatDoorC08
import Derived.Test.YtcoikmapjepdjaaGreatDoorC10
import Derived.Test.YtcoikmapjepdjaaGreatDoorC13
import Derived.Test.YtcoikmapjepdjaaGreatDoorC12
import Derived.Test.YtcoikmapjepdjaaGreatDoorC14
set_option linter.unusedSimpArgs false
set_option linter.unusedVariables false
set_option linter.unusedSectionVars false
namespace Ab
open Go Go.RowKit Go.Proofs
attribute [local irreducible] aws awp aw1 Og Om Oc Oa Ogd Ov Ot awd aw1d awh aw1h Ogh Ohd QThen QBlock QFn QFnM ACode AYield
/-! ### Atoi, number -/
def atoiAV (s : List UInt8) : AV := match Lib.atoiAll s with
  | .ok m => .tup [.int .i64 m, .nili]
  | .range => .tup [.int .i64 (Lib.atoiSat s), .iface 314 .any]
  | _ => .tup [.int .i64 0, .iface 314 .any]
theorem atoi_calls (s : List UInt8) (hs : s.length ≤ 2 ^ 40) : APure Tryz.prog 46 [.str s] (atoiAV s) := by
  refine APure.kit (enters_fn Tryz.func46 (by decide) rfl) fun C cargs σ hI hv => ?_
  obtain ⟨x, r, rfl, h2, h3⟩ := hv.inv
  obtain rfl := h3.of_nil
  rw [h2.str_inv]
  have hsz : (ByteArray.mk ⟨s⟩).size = s.length := rfl
  unfold atoiAV
  cases h : Lib.atoiAll s with
  | ok m =>
    refine (Tryz.strconv_Atoi_ok ⟨⟨s⟩⟩ (by rw [hsz]; omega) m h C.w).mono ?_
    rintro e w' ⟨rfl, hw⟩
    refine ⟨_, rfl, .tup _ [_, _] rfl (VRs.cons (.int _ _) (.cons .nili (.nil C))).at_, ?_⟩
    rcases hw with rfl | ⟨t, rfl⟩
    · exact Below.refl _ _
    · exact Lib.bytesWorld_below _ _ _
  | range =>
    obtain ⟨tp, p, hg⟩ := (goodW hI).rng
    refine (Tryz.strconv_Atoi_range_var ⟨⟨s⟩⟩ (by rw [hsz]; omega) h tp p C.w hg).mono ?_
    rintro e w' ⟨N, rfl, _, _, hb⟩
    exact ⟨_, rfl, .tup _ [_, _] rfl (VRs.cons (.int _ _) (.cons (.iface _ _ _ (.any _)) (.nil C))).at_, hb⟩
  | _ =>
    obtain ⟨tp, p, hg⟩ := (goodW hI).syn
    refine (Tryz.strconv_Atoi_bad_var ⟨⟨s⟩⟩ (by rw [hsz]; omega) (h.trans rfl) tp p C.w hg).mono ?_
    rintro e w' ⟨N, rfl, _, _, hb⟩
    exact ⟨_, rfl, .tup _ [_, _] rfl (VRs.cons (.int _ _) (.cons (.iface _ _ _ (.any _)) (.nil C))).at_, hb⟩
theorem in_calls (n lo hi : Int) : APure Tryz.prog 121 [.int .i64 n, .int .i64 lo, .int .i64 hi] (.bool (decide (lo ≤ n) && decide (n ≤ hi))) := by
  intro σ
  refine acalls_fn Tryz.func121 rfl (enters_fn Tryz.func121 (by decide) rfl) ?_
  by_cases h : lo ≤ n
  · simp [Tryz.ntmps121, h]
  · simp [Tryz.ntmps121, h]
/-- what number answers -/
def numOk (w : List UInt8) (most : Int) : Bool := match Lib.atoiAll w with
  | .ok m => decide (0 ≤ m) && decide (m ≤ most) && decide (Lib.itoa m = w)
  | _ => false
def numVal (w : List UInt8) : Int := match Lib.atoiAll w with
  | .ok m => m
  | .range => Lib.atoiSat w
  | _ => 0
theorem number_calls (w : List UInt8) (most : Int) (hw : w.length ≤ 2 ^ 40) (hm : most ≤ 2 ^ 40) : APure Tryz.prog 195 [.str w, .int .i64 most] (.tup [.int .i64 (numVal w), .bool (numOk w most)]) := by
  intro σ
  refine acalls_fn Tryz.func195 rfl (enters_fn Tryz.func195 (by decide) rfl) ?_
  simp [Tryz.ntmps195]
  refine (atoi_calls w hw).use ?_
  unfold atoiAV numVal numOk
  cases h : Lib.atoiAll w with
  | ok m =>
    simp
    refine (in_calls _ _ _).use ?_
    by_cases h0 : 0 ≤ m ∧ m ≤ most
    · have : (decide (0 ≤ m) && decide (m ≤ most)) = true := by simpa using h0
      rw [this]
      simp
      refine (itoa_calls m (by omega) (by omega)).use ?_
      simp [h0.1, h0.2]
    · have : (decide (0 ≤ m) && decide (m ≤ most)) = false := by rw [Bool.eq_false_iff]; simpa using h0
      rw [this]
      simp
  | range => simp
  | _ => simp
/-! ### places -/
theorem isNaN_calls (n : Int) : APure Tryz.prog 243 [.int .i64 n] (.bool false) ∧ APure Tryz.prog 229 [.int .i64 n] (.bool false) := by
  constructor
  · intro σ
    refine acalls_fn Tryz.func243 rfl (enters_fn Tryz.func243 (by decide) rfl) ?_
    simp [Tryz.ntmps243]
  · intro σ
    refine acalls_fn Tryz.func229 rfl (enters_fn Tryz.func229 (by decide) rfl) ?_
    simp [Tryz.ntmps229]
def cmpI (a b : Int) : Int := if a < b then -1 else if b < a then 1 else 0
theorem cmp154_calls (a b : Int) : APure Tryz.prog 175 [.int .i64 a, .int .i64 b] (.int .i64 (cmpI a b)) := by
  intro σ
  refine acalls_fn Tryz.func175 rfl (enters_fn Tryz.func175 (by decide) rfl) ?_
  simp [Tryz.ntmps175]
  refine (isNaN_calls _).1.use ?_
  refine (isNaN_calls _).1.use ?_
  by_cases h : a < b
  · simp [cmpI, h]
  · by_cases h2 : b < a
    · simp [cmpI, h, h2]
    · simp [cmpI, h, h2]
theorem cmp155_calls (a b : Int) : APure Tryz.prog 155 [.int .i64 a, .int .i64 b] (.int .i64 (cmpI a b)) := by
  intro σ
  refine acalls_fn Tryz.func155 rfl (enters_fn Tryz.func155 (by decide) rfl) ?_
  simp [Tryz.ntmps155]
  refine (isNaN_calls _).2.use ?_
  refine (isNaN_calls _).2.use ?_
  by_cases h : a < b
  · simp [cmpI, h]
  · by_cases h2 : b < a
    · simp [cmpI, h, h2]
    · simp [cmpI, h, h2]
def placeAV (p : Oyez.Place) : AV := .agg [.int .i64 p.kind, .int .i64 p.number]
attribute [simp] placeAV
theorem place_calls (r : Oyez.Rec) : APure Tryz.prog 124 [recAV r] (placeAV r.place) := by
  refine APure.of fun σ => ?_
  refine acalls_fn Tryz.func124 rfl (enters_fn Tryz.func124 (by decide) rfl) ?_
  simp [Tryz.ntmps124, Oyez.Rec.place]
/-- the order of places, as a number -/
def cmpP (p q : Oyez.Place) : Int := if cmpI p.kind q.kind ≠ 0 then cmpI p.kind q.kind else cmpI p.number q.number
theorem or_calls (a b : Int) (σ : Heap) (r : Nat) (h : σ[r]? = some (.cells [.int .i64 a, .int .i64 b])) : ACalls Tryz.prog 174 [.arr 1 r 0 2] σ (fun v σ' => v = .int .i64 (if a ≠ 0 then a else b) ∧ σ' = σ) := by
  refine acalls_fn Tryz.func174 rfl (enters_fn Tryz.func174 (by decide) rfl) ?_
  simp [Tryz.ntmps174]
  refine ACode_loopT (fun env σ' => ∃ (u : List AV) (i : Nat), env = { t := u } ∧ u.length = 18 ∧ tg u 3 = .int .i64 0 ∧ tg u 6 = .arr 1 r 0 2 ∧ tg u 7 = .int .i64 2 ∧ tg u 8 = .int .i64 i ∧ σ' = σ ∧ i ≤ 2 ∧ (0 < i → a = 0) ∧ (1 < i → b = 0))
    (fun env _ => match tg env.t 8 with | .int _ i => 2 - i.toNat | _ => 0) ⟨_, 0, rfl, by simp, by simp, by simp, by simp, by simp, rfl, by omega, by omega, by omega⟩ ?_
  rintro env σ' ⟨u, i, rfl, hl, g3, g6, g7, g8, rfl, hi, ha, hb⟩
  match i, hi with
  | 0, _ =>
    by_cases h0 : a = 0
    · have hw := w64 (n := (1 : Int)) (by omega) (by omega)
      simp [hl, g3, g6, g7, g8, h, h0, hw]
      exact ⟨1, rfl, by omega, by omega⟩
    · simp [hl, g3, g6, g7, g8, h, h0]
  | 1, _ =>
    have h0 := ha (by omega)
    by_cases h1 : b = 0
    · have hw := w64 (n := (2 : Int)) (by omega) (by omega)
      simp [hl, g3, g6, g7, g8, h, h0, h1, hw]
      exact ⟨2, rfl, by omega⟩
    · simp [hl, g3, g6, g7, g8, h, h0, h1]
  | 2, _ =>
    have h0 := ha (by omega)
    have h1 := hb (by omega)
    simp [hl, g3, g6, g7, g8, h, h0, h1]
theorem compare_calls (p q : Oyez.Place) : APure Tryz.prog 100 [placeAV p, placeAV q] (.int .i64 (cmpP p q)) := by
  refine APure.of fun σ => ?_
  refine acalls_fn Tryz.func100 rfl (enters_fn Tryz.func100 (by decide) rfl) ?_
  simp [Tryz.ntmps100]
  refine ACode_drawH [10] mixed (by kernel_rfl) ?_
  simp
  refine Ou_use (cmp154_calls _ _) ?_
  refine Ou_use (cmp155_calls _ _) ?_
  simp
  refine Ou_of (or_calls (cmpI p.kind q.kind) (cmpI p.number q.number) _ (σ.length + 2) (by simp)) ?_
  unfold cmpP
  simp
/-- the comparison's sign -/
theorem cmpP_neg (p q : Oyez.Place) : (cmpP p q < 0) ↔ p.lt q = true := by
  rw [Oyez.Place.lt_iff]
  unfold cmpP cmpI
  repeat' split
  all_goals omega
/-! ### numbers -/
theorem numOk_eq (w : List UInt8) (most : Nat) (hm : most ≤ 999999) : numOk w most = (Oyez.value w most).isSome ∧ ∀ n, Oyez.value w most = some n → numVal w = n := by
  constructor
  · cases h : Oyez.value w most with
    | some n =>
      obtain ⟨h1, h2, h3, h4⟩ := Oyez.atoi_value h
      simp [numOk, h1, h2, h3]
      omega
    | none =>
      rw [Option.isSome_none, Bool.eq_false_iff]
      intro ho
      unfold numOk at ho
      split at ho
      · rename_i m hm1
        simp only [Bool.and_eq_true, decide_eq_true_eq] at ho
        obtain ⟨⟨h1, h2⟩, h3⟩ := ho
        obtain ⟨n, rfl⟩ : ∃ n : Nat, m = n := ⟨m.toNat, by omega⟩
        rw [itoa_nat] at h3
        have := Oyez.value_digits (n := n) (most := most) (by omega) hm
        rw [h3, h] at this
        cases this
      · cases ho
  · intro n h
    obtain ⟨h1, _⟩ := Oyez.atoi_value h
    simp [numVal, h1]
end Ab
namespace Ab
open Go Go.RowKit Go.Proofs
attribute [local irreducible] aws awp aw1 Og Om Oc Oa Ogd Ov Ot awd aw1d awh aw1h Ogh Ohd awl Ogl Ohl awv Ogv Ohv QThen QBlock QFn QFnM QRo QBe ACode AYield
/-- the words of record i of a slice -/
def recAt (rv : AV) (i : Int) (σ : Heap) : Option AV := match rv with
  | .pl 3 l => if 0 ≤ i ∧ i.toNat < l.length then (l[i.toNat]?).bind (fun x => if x.cells.length = 3 then x.cells[2]? else none) else none
  | .arr 3 r 0 len => if 0 ≤ i ∧ i.toNat < len then (match σ[r]? with
    | some (.cells cs) => if i.toNat * 3 + 3 ≤ cs.length then cs[i.toNat * 3 + 2]? else none
    | _ => none) else none
  | _ => none
/-- what a desk has at a place -/
def deskAt (rv : AV) (es : List (AV × AV)) (k n : Int) (σ : Heap) : Option (AV × Bool) :=
  match afind [1, 1] [.int .i64 k, .int .i64 n] es 0 with
  | some none => some (.nils, false)
  | some (some (_, .int .i64 i)) => (recAt rv i σ).map (·, true)
  | _ => none
theorem got_calls (σ : Heap) (d m : Nat) (rv : AV) (es : List (AV × AV)) (h1 : σ[d]? = some (.cells [rv, .mp m])) (h2 : σ[m]? = some (.map es)) (k n : Int) (w : AV) (is : Bool) (h : deskAt rv es k n σ = some (w, is)) :
    ACalls Tryz.prog 170 [.ptr d 0, .agg [.int .i64 k, .int .i64 n]] σ (fun v σ' => v = .tup [w, .bool is] ∧ ∃ g, σ' = σ ++ g) := by
  have hd := (List.getElem?_eq_some_iff.1 h1).1
  have hm := (List.getElem?_eq_some_iff.1 h2).1
  have h1' : ∀ g : Heap, (σ ++ g)[d]? = some (.cells [rv, .mp m]) := fun g => by rw [List.getElem?_append_left hd]; exact h1
  have h2' : ∀ g : Heap, (σ ++ g)[m]? = some (.map es) := fun g => by rw [List.getElem?_append_left hm]; exact h2
  refine acalls_fn Tryz.func170 rfl (enters_fn Tryz.func170 (by decide) rfl) ?_
  unfold deskAt at h
  split at h
  · rename_i hf
    simp only [Option.some.injEq, Prod.mk.injEq] at h
    obtain ⟨rfl, rfl⟩ := h
    simp [Tryz.ntmps170]
    refine ACode_draw0 mixed (by kernel_rfl) ?_
    simp [h1', h2', alookup, hf]
  · rename_i j i hf
    rw [Option.map_eq_some_iff] at h
    obtain ⟨w', hw, h⟩ := h
    simp only [Prod.mk.injEq] at h
    obtain ⟨rfl, rfl⟩ := h
    unfold recAt at hw
    split at hw
    · rename_i l
      split at hw
      · rename_i hi
        rw [Option.bind_eq_some_iff] at hw
        obtain ⟨x, hx, hw⟩ := hw
        split at hw
        · rename_i hx3
          obtain ⟨l3, rfl⟩ : ∃ l3, x = .agg l3 := by cases x <;> simp [AV.cells] at hx3 <;> exact ⟨_, rfl⟩
          simp only [AV.cells] at hx3 hw
          have hil : i < (l.length : Int) := by omega
          have hx2 : ∀ h : i.toNat < l.length, l[i.toNat]'h = .agg l3 := fun h => by
            rw [List.getElem?_eq_getElem h] at hx
            exact Option.some.inj hx
          simp [Tryz.ntmps170]
          refine ACode_draw0 mixed (by kernel_rfl) ?_
          have hw2 : ∀ h : 2 < l3.length, l3[2]'h = w' := fun h => by
            rw [List.getElem?_eq_getElem h] at hw
            exact Option.some.inj hw
          simp [h1', h2', alookup, hf, hi.1, hil, hx, hx2, hx3, hw, hw2]
        · cases hw
      · cases hw
    · rename_i r len
      split at hw
      · rename_i hi
        split at hw
        · rename_i cs hr
          split at hw
          · rename_i hc
            have hil : i < (len : Int) := by omega
            have hr' : ∀ g : Heap, (σ ++ g)[r]? = some (.cells cs) := fun g => by rw [List.getElem?_append_left (List.getElem?_eq_some_iff.1 hr).1]; exact hr
            have hc2 : i.toNat * 3 + 2 + 1 ≤ cs.length := by omega
            simp [Tryz.ntmps170]
            refine ACode_draw0 mixed (by kernel_rfl) ?_
            simp [h1', h2', alookup, hf, hi.1, hil, hr', hc2, hw]
          · cases hw
        · cases hw
      · cases hw
    · cases hw
  · cases h
theorem get_more {σ g : Heap} {r : Nat} {o : AObj} (h : σ[r]? = some o) : (σ ++ g)[r]? = some o := by
  rw [List.getElem?_append_left (List.getElem?_eq_some_iff.1 h).1]; exact h
theorem recAt_frame {rv : AV} {i : Int} {σ g : Heap} {w : AV} (h : recAt rv i σ = some w) : recAt rv i (σ ++ g) = some w := by
  unfold recAt at h ⊢
  split at h
  · exact h
  · split at h
    · rename_i hi
      rw [if_pos hi]
      split at h
      · rename_i cs hr
        rw [get_more hr]
        exact h
      · cases h
    · cases h
  · cases h
theorem deskAt_frame {rv : AV} {es : List (AV × AV)} {k n : Int} {σ g : Heap} {w : AV × Bool} (h : deskAt rv es k n σ = some w) : deskAt rv es k n (σ ++ g) = some w := by
  unfold deskAt at h ⊢
  split at h
  · exact h
  · rw [Option.map_eq_some_iff] at h
    obtain ⟨x, hx, h⟩ := h
    rw [recAt_frame hx, Option.map_some, h]
  · cases h
theorem state_calls (σ : Heap) (d m : Nat) (rv : AV) (es : List (AV × AV)) (h1 : σ[d]? = some (.cells [rv, .mp m])) (h2 : σ[m]? = some (.map es)) (k n : Int) (w : AV) (is : Bool) (h : deskAt rv es k n σ = some (w, is)) (hw : w.one = true)
    (hz : ∀ S : Heap, Fz σ.length S w w) : ACalls Tryz.prog 91 [.ptr d 0, .agg [.int .i64 k, .int .i64 n]] σ (fun v σ' => v = .agg [.bool is, w] ∧ σ' = σ) := by
  have hc : w.cells = [w] := by cases w <;> first | rfl | (simp [AV.one] at hw)
  have hr : w.known = true := by cases w <;> first | rfl | (simp [AV.one] at hw)
  refine ACalls.forget (ACalls.mono (R := fun v σ' => v = .agg [.bool is, w] ∧ ∃ g, σ' = σ ++ g) ?_ fun v σ' => ?_)
  · refine acalls_fn Tryz.func91 rfl (enters_fn Tryz.func91 (by decide) rfl) ?_
    simp [Tryz.ntmps91]
    refine StA.of ((got_calls (σ ++ [.cells [.int .i64 k, .int .i64 n], .cells [.bool false, .nils]]) d m rv es (get_more h1) (get_more h2) k n w is (deskAt_frame h)).mono ?_)
    rintro v σ' ⟨rfl, g, rfl⟩
    clear hz h
    cases w <;> first | (simp [AV.one] at hw; done) | simp
  · rintro ⟨rfl, g, rfl⟩
    have hf : Fz σ.length (σ ++ g) (.agg [.bool is, w]) (.agg [.bool is, w]) := .agg _ _ rfl fun i x y hx hy => by
      rw [hx] at hy
      obtain rfl := Option.some.inj hy
      match i, hx with
      | 0, hx => simp at hx; subst hx; exact .bool _
      | 1, hx => simp at hx; subst hx; exact hz _
      | i + 2, hx => simp at hx
    exact ⟨g, _, rfl, hf, rfl, rfl⟩
end Ab
