/-
  THE BELL: numbers that the outright laws draw from their argument.
  THE BELL: strokes, words, and the file that is made of numbers.
  WHAT THE ROWS' LISTED VARIABLES GIVE: a world in which the program's contracts hold; and from a contract to a law's row.
  ROWS WHOSE ARGUMENTS ARE ROWS OF BYTES: what such an argument reads as; the listed variables in their second order.
-/
import Derived.Test.YtdifgaapdnbliaaGreatDoorCards
import Derived.Test.YtdifgaapdnbliaaGreatDoorTie
import Derived.ProofKit
import Derived.OpenShut
import Derived.Lay
import Derived.LaidLaws
import Derived.SevenTiedAt
import Derived.Stop.Joined
import Derived.Deep.DeepHandedRow
import Derived.Lib.LaidTab
import Derived.ChangeSlices
import Derived.Carry
import Derived.Test.YtdifgaapdnbliaaGreatDoorM09
import Derived.Test.YtdifgaapdnbliaaGreatDoorM21
import Derived.Test.YtdifgaapdnbliaaGreatDoorM14
import Derived.Test.YtdifgaapdnbliaaGreatDoorM15
set_option linter.unusedSimpArgs false
set_option linter.unusedVariables false
set_option linter.unusedSectionVars false
namespace Ab
open Go Go.RowKit Go.Proofs
attribute [local irreducible] aws awp aw1 Og Om Oc Oa Ogd Ov Ot awd aw1d awh aw1h Ogh Ohd awl Ogl Ohl awv Ogv Ohv QThen QBlock QFn QFnM QRo QBe ACode AYield
def bytesL (l : List UInt8) : List AV := l.map fun b => AV.int .u8 b.toNat
def bellObj (l : List UInt8) (a : Nat) (c : Int) : AObj := .cells [.pl 1 (bytesL l), .int .i64 a, .int .u32 c]
theorem u32_rng (x : Int) : 0 ≤ IntKind.u32.wrap x ∧ IntKind.u32.wrap x < 2 ^ 32 := by
  have : IntKind.u32.wrap x = x % 4294967296 := by
    simp [IntKind.wrap, IntKind.bits, IntKind.signed]
  rw [this]
  omega
theorem i64_u32 (x : Int) : 0 ≤ IntKind.i64.wrap (IntKind.u32.wrap x) ∧ IntKind.i64.wrap (IntKind.u32.wrap x) < 4294967296 := by
  have := u32_rng x
  rw [w64 (by omega) (by omega)]
  omega
set_option maxHeartbeats 2000000 in
theorem ring_calls (σ : Heap) (d : Nat) (l : List UInt8) (a : Nat) (c : Int) (h : σ[d]? = some (bellObj l a c)) (ha : a ≤ l.length) (hl : l.length ≤ 9223372036854775807) :
    ACalls Tryz.prog 167 [.ptr d 0] σ (fun v σ' => ∃ (n : Int) (a' : Nat) (c' : Int), v = .int .i64 n ∧ 0 ≤ n ∧ n < 2 ^ 32 ∧ a' ≤ l.length ∧ σ' = σ.set d (bellObj l a' c')) := by
  have hd := (List.getElem?_eq_some_iff.1 h).1
  have hs : ∀ X : AObj, (σ.set d X)[d]? = some X := fun X => by simp [hd]
  unfold bellObj at h
  refine acalls_fn Tryz.func167 rfl (enters_fn Tryz.func167 (by decide) rfl) ?_
  simp [Tryz.ntmps167]
  refine ACode_draw0 mixed (by kernel_rfl) ?_
  by_cases he : a = l.length
  · subst he
    by_cases h0 : l.length = 0
    · have h0' : (l.length : Int) = 0 := by omega
      obtain rfl := List.eq_nil_of_length_eq_zero h0
      simp [h, hs, bytesL]
      exact ⟨(i64_u32 _).1, (i64_u32 _).2, _, rfl⟩
    · have h0' : (0 : Int) < (l.length : Int) := by omega
      have h0'' : 0 < l.length := by omega
      simp [h, hs, bytesL, h0', h0'']
      refine ACode_draw0 mixed (by kernel_rfl) ?_
      simp [h, hs, bytesL, h0', h0'']
      exact ⟨(i64_u32 _).1, (i64_u32 _).2, 1, by omega, _, by rw [w64 (by omega) (by omega)]; rfl⟩
  · have he' : ¬ (a : Int) = (l.length : Int) := by omega
    have h0' : (0 : Int) < (l.length : Int) := by omega
    have hlt : a < l.length := by omega
    have hlt' : (a : Int) < (l.length : Int) := by omega
    have hx := w64 (n := (a : Int) + 1) (by omega) (by omega)
    have h0n : 0 < l.length := by omega
    simp [h, hs, bytesL, he, he', h0', h0n, hlt]
    refine ACode_draw0 mixed (by kernel_rfl) ?_
    simp [h, hs, bytesL, he, he', h0', h0n, hlt, hlt', hx]
    exact ⟨(i64_u32 _).1, (i64_u32 _).2, a + 1, by omega, _, rfl⟩
end Ab
namespace Ab
open Go Go.RowKit Go.Proofs
attribute [local irreducible] aws awp aw1 Og Om Oc Oa Ogd Ov Ot awd aw1d awh aw1h Ogh Ohd awl Ogl Ohl awv Ogv Ohv QThen QBlock QFn QFnM QRo QBe ACode AYield
/-- a number from 0 up to m -/
def Drew (l : List UInt8) (d : Nat) (σ : Heap) (m : Int) (v : AV) (σ' : Heap) : Prop := ∃ (n : Int) (a' : Nat) (c' : Int), v = .int .i64 n ∧ 0 ≤ n ∧ n ≤ m ∧ a' ≤ l.length ∧ σ' = σ.set d (bellObj l a' c')
theorem stroke_calls (σ : Heap) (d : Nat) (l : List UInt8) (a : Nat) (c m : Int) (h : σ[d]? = some (bellObj l a c)) (ha : a ≤ l.length) (hl : l.length ≤ 9223372036854775807) (hm : 0 ≤ m) (hm2 : m ≤ 2 ^ 40) :
    ACalls Tryz.prog 116 [.ptr d 0, .int .i64 m] σ (Drew l d σ m) := by
  refine acalls_fn Tryz.func116 rfl (enters_fn Tryz.func116 (by decide) rfl) ?_
  simp [Tryz.ntmps116]
  refine StA.of ((ring_calls σ d l a c h ha hl).mono ?_)
  rintro v σ' ⟨n, a', c', rfl, h0, h1, ha', rfl⟩
  have hx := w64 (n := m + 1) (by omega) (by omega)
  have hne : ¬ m + 1 = 0 := by omega
  have hif : (if 1 < m + 1 then m + 1 else 1) = m + 1 := by split <;> omega
  simp [hx, hne]
  rw [hif, if_neg hne]
  simp only [Option.map_some, Om_some]
  have h3 := Int.tmod_lt_of_pos n (show 0 < m + 1 by omega)
  exact ⟨_, a', c', rfl, Int.tmod_nonneg _ h0, by omega, ha', rfl⟩
theorem strike_calls (σ : Heap) (d : Nat) (l : List UInt8) (a : Nat) (c lo hi : Int) (h : σ[d]? = some (bellObj l a c)) (ha : a ≤ l.length) (hl : l.length ≤ 9223372036854775807) (h0 : 0 ≤ lo) (h1 : lo ≤ hi) (h2 : hi ≤ 2 ^ 40) :
    ACalls Tryz.prog 117 [.ptr d 0, .int .i64 lo, .int .i64 hi] σ (fun v σ' => ∃ (n : Int) (a' : Nat) (c' : Int), v = .int .i64 n ∧ lo ≤ n ∧ n ≤ hi ∧ a' ≤ l.length ∧ σ' = σ.set d (bellObj l a' c')) := by
  refine acalls_fn Tryz.func117 rfl (enters_fn Tryz.func117 (by decide) rfl) ?_
  have hx := w64 (n := hi - lo) (by omega) (by omega)
  simp [Tryz.ntmps117, hx]
  refine StA.of ((stroke_calls σ d l a c (hi - lo) h ha hl (by omega) (by omega)).mono ?_)
  rintro v σ' ⟨n, a', c', rfl, h0, h1, ha', rfl⟩
  have hx2 := w64 (n := lo + n) (by omega) (by omega)
  simp [hx2]
  exact ⟨by omega, by omega, a', ha', c', rfl⟩
/-- the words that are drawn -/
def wordL : List (List UInt8) := [[116, 105, 100, 101], [115, 116, 111, 114, 109], [113, 117, 97, 121], [112, 117, 114, 115, 101, 55], [98, 101, 108, 108], [97], [48], [108, 111, 97, 102, 52]]
theorem bell_hold {σ : Heap} {d : Nat} {l : List UInt8} {a : Nat} {c : Int} {n : Nat} {S : Heap} (hd : d < σ.length) : ∀ (r : Nat) (o : AObj), (σ.set d (bellObj l a c))[r]? = some o → σ[r]? = some o ∨ ∃ cs, o = .cells cs ∧ ∀ y ∈ cs, Fz n S y y := by
  intro r o h
  rw [List.getElem?_set] at h
  split at h
  · obtain rfl := Option.some.inj h
    refine .inr ⟨_, rfl, fun y hy => ?_⟩
    simp at hy
    rcases hy with rfl | rfl | rfl
    · refine .pl 1 _ fun i x hx j y hy => ?_
      unfold bytesL at hx
      rw [List.getElem?_map, Option.map_eq_some_iff] at hx
      obtain ⟨b, _, rfl⟩ := hx
      match j, hy with
      | 0, hy => simp [AV.cells] at hy; subst hy; exact .int _ _
      | j + 1, hy => simp [AV.cells] at hy
    · exact .int _ _
    · exact .int _ _
  · exact .inl h
theorem Acc.set {σ g : Heap} {k : Nat} {v : AV} {l : List AV} {o : Option Nat} (h : Acc σ g k v l o) (d : Nat) (X : AObj) : Acc (σ.set d X) g k v l o := ⟨h.len, by
  have := h.val
  cases o with
  | none => exact this
  | some j => rw [List.length_set]; exact this⟩
theorem Acc.len_eq {σ τ g : Heap} {k : Nat} {v : AV} {l : List AV} {o : Option Nat} (h : Acc σ g k v l o) (e : σ.length = τ.length) : Acc τ g k v l o := ⟨h.len, by
  have := h.val
  cases o with
  | none => exact this
  | some j => rw [← e]; exact this⟩
theorem set_set {σ g : Heap} {d : Nat} (hd : d < σ.length) (X Y : AObj) : (σ.set d X ++ g).set d Y = σ.set d Y ++ g := by
  rw [List.set_append_left _ _ (by simpa using hd), List.set_set]
theorem bell_at {σ g : Heap} {d : Nat} (hd : d < σ.length) (X : AObj) : (σ.set d X ++ g)[d]? = some X := by
  rw [List.getElem?_append_left (by simpa using hd)]; simp [hd]
set_option maxHeartbeats 4000000 in
theorem Worded_calls (σ : Heap) (d : Nat) (l : List UInt8) (a : Nat) (c m : Int) (h : σ[d]? = some (bellObj l a c)) (ha : a ≤ l.length) (hl : l.length ≤ 9223372036854775807) (hm : 0 ≤ m) (hm2 : m ≤ 2 ^ 10) :
    ACalls Tryz.prog 118 [.ptr d 0, .int .i64 m] σ (fun v σ' => ∃ (ws : List (List UInt8)) (a' : Nat) (c' : Int), v = wordsAV ws ∧ (ws.length : Int) ≤ m ∧ (∀ w ∈ ws, w ∈ wordL) ∧ a' ≤ l.length ∧ σ' = σ.set d (bellObj l a' c')) := by
  have hd := (List.getElem?_eq_some_iff.1 h).1
  refine ACalls.forgetT ?_
  refine acalls_fn Tryz.func118 rfl (enters_fn Tryz.func118 (by decide) rfl) ?_
  simp [Tryz.ntmps118]
  refine StA.of ((stroke_calls σ d l a c m h ha hl hm (by omega)).mono ?_)
  rintro v σ' ⟨n, a1, c1, rfl, h0, h1, ha1, rfl⟩
  obtain ⟨n, rfl⟩ : ∃ k : Nat, n = k := ⟨n.toNat, by omega⟩
  simp
  refine ACode_loopT (fun env σ' => ∃ (u : List AV) (i : Nat) (v : AV) (ws : List (List UInt8)) (g : Heap) (o : Option Nat) (a2 : Nat) (c2 : Int), env = { t := u } ∧ u.length = 21 ∧ tg u 0 = .ptr d 0 ∧ tg u 5 = v ∧ tg u 8 = .int .i64 n ∧ tg u 9 = .int .i64 i ∧ σ' = σ.set d (bellObj l a2 c2) ++ g ∧ a2 ≤ l.length ∧ i ≤ n ∧ ws.length = i ∧ (∀ w ∈ ws, w ∈ wordL) ∧ Acc σ g 1 v (strs ws) o)
    (fun env _ => match tg env.t 9 with | .int _ i => n - i.toNat | _ => 0) ⟨_, 0, .nils, [], [], none, a1, c1, rfl, by simp, by simp, by simp, by simp, by simp, by simp, ha1, by omega, rfl, by simp, by simpa using Acc.nil _ _ _⟩ ?_
  rintro env σ' ⟨u, i, v, ws, g, o, a2, c2, rfl, hl2, g0, g5, g8, g9, rfl, ha2, hi, hws, hwl, hA⟩
  rcases Nat.lt_or_ge i n with hlt | hge
  · have hlt' : (i : Int) < (n : Int) := by omega
    have hx := w64 (n := (i : Int) + 1) (by omega) (by omega)
    simp [-aappend, hl2, g0, g5, g8, g9, hlt']
    refine StA.of ((stroke_calls _ d l a2 c2 7 (bell_at hd _) ha2 hl (by omega) (by omega)).mono ?_)
    rintro v2 σ' ⟨n2, a3, c3, rfl, k0, k1, ha3, rfl⟩
    rw [set_set hd]
    obtain ⟨k, rfl⟩ : ∃ k : Nat, n2 = k := ⟨n2.toNat, by omega⟩
    have hk : k < 8 := by omega
    have hw : ∃ w, wordL[k]? = some w ∧ w ∈ wordL := ⟨wordL[k], List.getElem?_eq_getElem hk, List.getElem_mem _⟩
    obtain ⟨w, hw1, hw2⟩ := hw
    have hA1 := (((hA.more [.cells (strs wordL)]).set d (bellObj l a3 c3)).push (P := Tryz.prog) (t := 55) (e := 9) (ag := false) (x := .str w) (by simp) (by simp) (by simp) (by omega) ⟨by simp [AV.cells], by simp [AV.cells, AV.one]⟩ (by simp; omega))
    obtain ⟨v', g', o', he, hA', _⟩ := hA1
    simp [-aappend, wordL] at he
    have hA2 : Acc σ g' 1 v' (strs (ws ++ [w])) o' := by
      have := hA'.len_eq (τ := σ) (by simp)
      simpa [strs] using this
    have hwl2 : ∀ x ∈ ws ++ [w], x ∈ wordL := fun x hx => by
      rcases List.mem_append.1 hx with hx | hx
      · exact hwl x hx
      · rw [List.mem_singleton.1 hx]; exact hw2
    have hln : (ws ++ [w]).length = i + 1 := by simp [hws]
    have h8 : k = 0 ∨ k = 1 ∨ k = 2 ∨ k = 3 ∨ k = 4 ∨ k = 5 ∨ k = 6 ∨ k = 7 := by omega
    clear hA hA' hw2
    generalize hW : ws ++ [w] = W at hA2 hwl2 hln
    rcases h8 with rfl | rfl | rfl | rfl | rfl | rfl | rfl | rfl <;> (
      simp [wordL] at hw1
      subst hw1
      simp [-aappend, hl2, g0, g5, g8, g9, hlt', hx, he]
      exact ⟨⟨i + 1, by simp, W, g', o', a3, ⟨c3, rfl⟩, ha3, hlt, hln, hwl2, by simpa [strs] using hA2⟩, by omega⟩)
  · have hge' : ¬ (i : Int) < (n : Int) := by omega
    simp [hl2, g0, g5, g8, g9, hge']
    refine ⟨_, g, rfl, by simp, bell_hold hd, wordsAV ws, ?_, ws, rfl, by omega, hwl, a2, ha2, c2, rfl⟩
    exact (hA.len_eq (τ := σ.set d (bellObj l a2 c2)) (by simp)).fz (fun x hx y hy => by
      simp only [strs, List.mem_map] at hx
      obtain ⟨w, _, rfl⟩ := hx
      simp [AV.cells] at hy
      subst hy
      exact .str _)
end Ab
namespace Ab
open Go Go.RowKit Go.Proofs Go.ChangeShapes Go.WideShapes Go.ChangeAt
theorem tyAt {P : Program} {W : World} {ps : List MemPlace} {x : String × DataW Unit} {rest : List (String × DataW Unit)} (h : DataW.LaidVars P W (x :: rest) ps) {g : Nat} {t : TypeId} (hg : P.globalNamed x.1 = some g) (ht : (P.globals[g]?).map (·.type) = some t) :
    (∃ cs fuel p, W.var? P x.1 = some cs ∧ DataW.trod (fun _ => ()) P W 0 (fun _ => true) false fuel t cs.toList = some (x.2, p)) ∧ ∃ q, DataW.LaidVars P W rest q := by
  obtain ⟨g', t', cs, fuel, p, q, hg', ht', hvar, hd, h2, _⟩ := h
  obtain rfl := Option.some.inj (hg.symm.trans hg')
  obtain rfl := Option.some.inj (ht.symm.trans ht')
  exact ⟨⟨cs, fuel, p, hvar, hd⟩, q, h2⟩
theorem lstAt {P : Program} {W : World} {ps : List MemPlace} {x : String × DataW Unit} {rest : List (String × DataW Unit)} (h : DataW.LaidVars P W (x :: rest) ps) : ∃ q, DataW.LaidVars P W rest q := by
  obtain ⟨g', t', cs, fuel, p, q, hg', ht', hvar, hd, h2, _⟩ := h
  exact ⟨q, h2⟩
theorem errAt {P : Program} {W : World} {t : TypeId} {ms : Array (String × TypeId)} {s nm : String} {d : DataW Unit} {fuel : Nat} {p : List MemPlace} {cs : Array Value} (hi : P.underlying t = some (.interface ms)) (hv : W.var? P s = some cs)
    (hd : DataW.trod (fun _ => ()) P W 0 (fun _ => true) false fuel t cs.toList = some (.iface nm d, p)) : ∃ (tp : TypeId) (q : Value), W.var? P s = some #[.iface tp q] := by
  obtain ⟨_, u, v, he, _⟩ := iface_of_trod hi hd
  refine ⟨u, v, ?_⟩
  rw [hv, ← Array.toList_inj.1 (show cs.toList = #[Value.iface u v].toList from he)]
/-- the three variables that the program's contracts ask for -/
theorem goodW_of {W : World} {ps : List MemPlace} {x y : String × DataW Unit} {n1 n2 : String} {d1 d2 : DataW Unit} {rest : List (String × DataW Unit)}
    (h : DataW.LaidVars Tryz.prog W (x :: y :: ("internal/strconv.uint64pow10", Lib.tabData .u64 Lib.pow10Tab) :: ("strconv.ErrRange", .iface n1 d1) :: ("strconv.ErrSyntax", .iface n2 d2) :: rest) ps) : GoodW W := by
  obtain ⟨_, h⟩ := lstAt h
  obtain ⟨_, h⟩ := lstAt h
  obtain ⟨⟨cs, f, p, hv, hd⟩, _, h⟩ := tyAt (g := 5) (t := 308) h (by kernel_rfl) (by kernel_rfl)
  obtain ⟨⟨cs2, f2, p2, hv2, hd2⟩, _, h⟩ := tyAt (g := 4) (t := 181) h (by kernel_rfl) (by kernel_rfl)
  obtain ⟨⟨cs3, f3, p3, hv3, hd3⟩, _, h⟩ := tyAt (g := 3) (t := 181) h (by kernel_rfl) (by kernel_rfl)
  refine ⟨?_, errAt (ms := _) Tryz.underlying181 hv3 hd3, errAt (ms := _) Tryz.underlying181 hv2 hd2⟩
  unfold Lib.TabIs
  rw [hv, ← Lib.cells_of_tab Tryz.underlying308 Tryz.underlying240 (by kernel_rfl) (by kernel_rfl) hd]
/-- A CONTRACT AT A WORLD. -/
theorem APure.law {f : FuncId} {args : List AV} {b : Bool} (hen : Enters Tryz.prog f) (h : APure Tryz.prog f args (.bool b)) {W : World} (hW : GoodW W) {cargs : List Value} (hv : ∀ C : Ctx, C.w = W → (∀ b, b < W.heap.size → C.pers b) → VRs C args cargs) :
    Calls Tryz.prog f cargs.toArray W fun e w' => e = .returned (.bool b) ∧ Below W.heap.size W w' := by
  have hC : All ⟨W, [], fun b => b < W.heap.size, W⟩ := ⟨⟨rfl, hW, Below.refl _ _, fun b hb => hb, fun b hb => hb, fun r b o h => by simp at h, fun r r' b o o' h => by simp at h⟩, rfl, fun b hb => hb⟩
  refine (h.callsC hen hC (hv _ rfl fun _ h => h)).mono ?_
  rintro e w' ⟨⟨c, C', rfl, hc⟩, hb⟩
  rw [hc.bool_inv]
  exact ⟨rfl, hb⟩
end Ab
namespace Ab
open Go Go.RowKit Go.Proofs Go.ChangeShapes Go.WideShapes Go.ChangeAt
theorem laidOut : laidOutB Tryz.prog = true := by kernel_rfl
set_option maxRecDepth 100000 in
/-- an argument that is a row of bytes -/
theorem open_bytes {H : Type} {enc : TypeId × Value → H} {W : World} {base : Nat} {sp : Nat → Bool} {held : Bool} {v : Value} {d : DataW H} {p : List MemPlace} (hval : Value.okWide Tryz.prog W .any base 75 v)
    (hd : DataW.Trod enc Tryz.prog W 0 sp held 75 v d p) : ∃ l : List UInt8, l.length ≤ 9223372036854775807 ∧ ∀ C : Ctx, C.w = W → (∀ b, b < W.heap.size → C.pers b) → VR C (.pl 1 (bytesL l)) v := by
  obtain ⟨a0, len0, cap0, rfl⟩ := okWide_slice Tryz.underlying75 hval
  obtain ⟨fuel, hf⟩ := hd
  rcases open_ints Tryz.underlying75 Tryz.underlying5 (by kernel_rfl) hf with ⟨h1, _⟩ | ⟨a, len, cap, zs, h1, hb, hl, hm, hz, _, hcell, hwf⟩
  · simp [Value.cells] at h1
    obtain ⟨rfl, rfl, rfl⟩ := h1
    exact ⟨[], by simp, fun C _ _ => .pl0 1 none 0 fun _ => rfl⟩
  · simp [Value.cells] at h1
    obtain ⟨rfl, rfl, rfl⟩ := h1
    have hzl : len0 ≤ zs.length := by rw [hz]; split <;> omega
    have hml : len0 ≤ 9223372036854775807 := by unfold maxLen at hm; omega
    have hby : ∀ n ∈ zs, 0 ≤ n ∧ n ≤ 255 := fun n hn => by
      have := hwf n hn
      simp [Lit.wf, IntKind.min, IntKind.max, IntKind.bits, IntKind.signed] at this
      omega
    have hget : ∀ (i : Nat) (x : AV), (bytesL ((zs.take len0).map fun n => UInt8.ofNat n.toNat))[i]? = some x → x = .int .u8 (zs.getD i 0) ∧ i < len0 := by
      intro i x hx
      unfold bytesL at hx
      rw [List.getElem?_map, List.getElem?_map] at hx
      rcases Nat.lt_or_ge i len0 with hi | hi
      · rw [List.getElem?_take_of_lt hi, List.getElem?_eq_getElem (by omega)] at hx
        simp at hx
        have hmem := hby _ (List.getElem_mem (show i < zs.length by omega))
        refine ⟨?_, hi⟩
        rw [← hx, List.getD_eq_getElem?_getD, List.getElem?_eq_getElem (by omega)]
        simp
        omega
      · rw [List.getElem?_eq_none (by simp; omega)] at hx
        simp at hx
    refine ⟨(zs.take len0).map fun n => UInt8.ofNat n.toNat, by simp; omega, fun C hC hp => ?_⟩
    have hlen : (bytesL ((zs.take len0).map fun n => UInt8.ofNat n.toNat)).length = len0 := by unfold bytesL; simp; omega
    rcases Nat.eq_zero_or_pos len0 with h0 | h0
    · have e : bytesL ((zs.take len0).map fun n => UInt8.ofNat n.toNat) = [] := List.eq_nil_of_length_eq_zero (by omega)
      rw [e]
      subst h0
      exact .pl0 1 (some a) cap0 fun h => by cases h
    · obtain ⟨b, o, spot⟩ := a
      have h2 := hcell 0 (by omega)
      have hsp : spot = none := by
        cases spot with
        | none => rfl
        | some s => simp [World.cell?, Addr.add] at h2; split at h2 <;> simp at h2
      subst hsp
      have hbl : b < W.heap.size := by
        rcases Nat.lt_or_ge b W.heap.size with h | h
        · exact h
        · simp [World.cell?, Addr.add, Array.getElem?_eq_none h] at h2
      subst hC
      refine .pl 1 _ b o len0 cap0 (fun i j => .int .u8 (zs.getD i 0)) (hp b hbl) hlen.symm hl (fun i x hx => ?_) (fun i x hx j y hy => ?_)
      · obtain ⟨rfl, hi⟩ := hget i x hx
        refine ⟨rfl, fun j y hy => ?_⟩
        match j, hy with
        | 0, hy =>
          simp [AV.cells] at hy; subst hy
          refine ⟨rfl, ?_⟩
          have h3 := hcell i (by omega)
          rw [add_none] at h3
          simpa using h3
        | j + 1, hy => simp [AV.cells] at hy
      · obtain ⟨rfl, hi⟩ := hget i x hx
        match j, hy with
        | 0, hy => simp [AV.cells] at hy; subst hy; exact .int _ _
        | j + 1, hy => simp [AV.cells] at hy
theorem vrs_cons {C : Ctx} {x : AV} {c : Value} {xs : List AV} {cs : List Value} (h : VR C x c) (hs : VRs C xs cs) : VRs C (x :: xs) (c :: cs) := .cons h hs
end Ab
