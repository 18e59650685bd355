/-
  THE BELL: numbers that the outright laws draw from their argument.
  WHAT THE ROWS' LISTED VARIABLES GIVE: a world in which the program's contracts hold; and from a contract to a law's row.
  ROWS WHOSE ARGUMENTS ARE ROWS OF BYTES: what such an argument reads as; the listed variables in their second order.
-/
import Derived.Test.YtcoikmapjepdjaaGreatDoorCards
import Derived.Test.YtcoikmapjepdjaaGreatDoorTie
import Derived.ProofKit
import Derived.OpenShut
import Derived.Lay
import Derived.LaidLaws
import Derived.SevenTiedAt
import Derived.Stop.Joined
import Derived.Deep.DeepHandedRow
import Derived.Lib.LaidTab
import Derived.ChangeSlices
import Derived.Carry
import Derived.Test.YtcoikmapjepdjaaGreatDoorC09
import Derived.Test.YtcoikmapjepdjaaGreatDoorC12
import Derived.Test.YtcoikmapjepdjaaGreatDoorC26
set_option linter.unusedSimpArgs false
set_option linter.unusedVariables false
set_option linter.unusedSectionVars false
namespace Ab
open Go Go.RowKit Go.Proofs
attribute [local irreducible] aws awp aw1 Og Om Oc Oa Ogd Ov Ot awd aw1d awh aw1h Ogh Ohd awl Ogl Ohl awv Ogv Ohv QThen QBlock QFn QFnM QRo QBe ACode AYield
def bytesL (l : List UInt8) : List AV := l.map fun b => AV.int .u8 b.toNat
def bellObj (l : List UInt8) (a : Nat) (c : Int) : AObj := .cells [.pl 1 (bytesL l), .int .i64 a, .int .u32 c]
theorem u32_rng (x : Int) : 0 ≤ IntKind.u32.wrap x ∧ IntKind.u32.wrap x < 2 ^ 32 := by
  have : IntKind.u32.wrap x = x % 4294967296 := by
    simp [IntKind.wrap, IntKind.bits, IntKind.signed]
  rw [this]
  omega
theorem i64_u32 (x : Int) : 0 ≤ IntKind.i64.wrap (IntKind.u32.wrap x) ∧ IntKind.i64.wrap (IntKind.u32.wrap x) < 4294967296 := by
  have := u32_rng x
  rw [w64 (by omega) (by omega)]
  omega
set_option maxHeartbeats 2000000 in
theorem ring_calls (σ : Heap) (d : Nat) (l : List UInt8) (a : Nat) (c : Int) (h : σ[d]? = some (bellObj l a c)) (ha : a ≤ l.length) (hl : l.length ≤ 9223372036854775807) :
    ACalls Tryz.prog 131 [.ptr d 0] σ (fun v σ' => ∃ (n : Int) (a' : Nat) (c' : Int), v = .int .i64 n ∧ 0 ≤ n ∧ n < 2 ^ 32 ∧ a' ≤ l.length ∧ σ' = σ.set d (bellObj l a' c')) := by
  have hd := (List.getElem?_eq_some_iff.1 h).1
  have hs : ∀ X : AObj, (σ.set d X)[d]? = some X := fun X => by simp [hd]
  unfold bellObj at h
  refine acalls_fn Tryz.func131 rfl (enters_fn Tryz.func131 (by decide) rfl) ?_
  simp [Tryz.ntmps131]
  refine ACode_draw0 mixed (by kernel_rfl) ?_
  by_cases he : a = l.length
  · subst he
    by_cases h0 : l.length = 0
    · have h0' : (l.length : Int) = 0 := by omega
      obtain rfl := List.eq_nil_of_length_eq_zero h0
      simp [h, hs, bytesL]
      exact ⟨(i64_u32 _).1, (i64_u32 _).2, _, rfl⟩
    · have h0' : (0 : Int) < (l.length : Int) := by omega
      have h0'' : 0 < l.length := by omega
      simp [h, hs, bytesL, h0', h0'']
      refine ACode_draw0 mixed (by kernel_rfl) ?_
      simp [h, hs, bytesL, h0', h0'']
      exact ⟨(i64_u32 _).1, (i64_u32 _).2, 1, by omega, _, by rw [w64 (by omega) (by omega)]; rfl⟩
  · have he' : ¬ (a : Int) = (l.length : Int) := by omega
    have h0' : (0 : Int) < (l.length : Int) := by omega
    have hlt : a < l.length := by omega
    have hlt' : (a : Int) < (l.length : Int) := by omega
    have hx := w64 (n := (a : Int) + 1) (by omega) (by omega)
    have h0n : 0 < l.length := by omega
    simp [h, hs, bytesL, he, he', h0', h0n, hlt]
    refine ACode_draw0 mixed (by kernel_rfl) ?_
    simp [h, hs, bytesL, he, he', h0', h0n, hlt, hlt', hx]
    exact ⟨(i64_u32 _).1, (i64_u32 _).2, a + 1, by omega, _, rfl⟩
end Ab
namespace Ab
open Go Go.RowKit Go.Proofs Go.ChangeShapes Go.WideShapes Go.ChangeAt
theorem tyAt {P : Program} {W : World} {ps : List MemPlace} {x : String × DataW Unit} {rest : List (String × DataW Unit)} (h : DataW.LaidVars P W (x :: rest) ps) {g : Nat} {t : TypeId} (hg : P.globalNamed x.1 = some g) (ht : (P.globals[g]?).map (·.type) = some t) :
    (∃ cs fuel p, W.var? P x.1 = some cs ∧ DataW.trod (fun _ => ()) P W 0 (fun _ => true) false fuel t cs.toList = some (x.2, p)) ∧ ∃ q, DataW.LaidVars P W rest q := by
  obtain ⟨g', t', cs, fuel, p, q, hg', ht', hvar, hd, h2, _⟩ := h
  obtain rfl := Option.some.inj (hg.symm.trans hg')
  obtain rfl := Option.some.inj (ht.symm.trans ht')
  exact ⟨⟨cs, fuel, p, hvar, hd⟩, q, h2⟩
theorem lstAt {P : Program} {W : World} {ps : List MemPlace} {x : String × DataW Unit} {rest : List (String × DataW Unit)} (h : DataW.LaidVars P W (x :: rest) ps) : ∃ q, DataW.LaidVars P W rest q := by
  obtain ⟨g', t', cs, fuel, p, q, hg', ht', hvar, hd, h2, _⟩ := h
  exact ⟨q, h2⟩
theorem errAt {P : Program} {W : World} {t : TypeId} {ms : Array (String × TypeId)} {s nm : String} {d : DataW Unit} {fuel : Nat} {p : List MemPlace} {cs : Array Value} (hi : P.underlying t = some (.interface ms)) (hv : W.var? P s = some cs)
    (hd : DataW.trod (fun _ => ()) P W 0 (fun _ => true) false fuel t cs.toList = some (.iface nm d, p)) : ∃ (tp : TypeId) (q : Value), W.var? P s = some #[.iface tp q] := by
  obtain ⟨_, u, v, he, _⟩ := iface_of_trod hi hd
  refine ⟨u, v, ?_⟩
  rw [hv, ← Array.toList_inj.1 (show cs.toList = #[Value.iface u v].toList from he)]
/-- the three variables that the program's contracts ask for -/
theorem goodW_of {W : World} {ps : List MemPlace} {x y : String × DataW Unit} {n1 n2 : String} {d1 d2 : DataW Unit} {rest : List (String × DataW Unit)}
    (h : DataW.LaidVars Tryz.prog W (x :: y :: ("internal/strconv.uint64pow10", Lib.tabData .u64 Lib.pow10Tab) :: ("strconv.ErrRange", .iface n1 d1) :: ("strconv.ErrSyntax", .iface n2 d2) :: rest) ps) : GoodW W := by
  obtain ⟨_, h⟩ := lstAt h
  obtain ⟨_, h⟩ := lstAt h
  obtain ⟨⟨cs, f, p, hv, hd⟩, _, h⟩ := tyAt (g := 2) (t := 403) h (by kernel_rfl) (by kernel_rfl)
  obtain ⟨⟨cs2, f2, p2, hv2, hd2⟩, _, h⟩ := tyAt (g := 1) (t := 104) h (by kernel_rfl) (by kernel_rfl)
  obtain ⟨⟨cs3, f3, p3, hv3, hd3⟩, _, h⟩ := tyAt (g := 0) (t := 104) h (by kernel_rfl) (by kernel_rfl)
  refine ⟨?_, errAt (ms := _) Tryz.underlying104 hv3 hd3, errAt (ms := _) Tryz.underlying104 hv2 hd2⟩
  unfold Lib.TabIs
  rw [hv, ← Lib.cells_of_tab Tryz.underlying403 Tryz.underlying308 (by kernel_rfl) (by kernel_rfl) hd]
/-- A CONTRACT AT A WORLD. -/
theorem APure.law {f : FuncId} {args : List AV} {b : Bool} (hen : Enters Tryz.prog f) (h : APure Tryz.prog f args (.bool b)) {W : World} (hW : GoodW W) {cargs : List Value} (hv : ∀ C : Ctx, C.w = W → (∀ b, b < W.heap.size → C.pers b) → VRs C args cargs) :
    Calls Tryz.prog f cargs.toArray W fun e w' => e = .returned (.bool b) ∧ Below W.heap.size W w' := by
  have hC : All ⟨W, [], fun b => b < W.heap.size, W⟩ := ⟨⟨rfl, hW, Below.refl _ _, fun b hb => hb, fun b hb => hb, fun r b o h => by simp at h, fun r r' b o o' h => by simp at h⟩, rfl, fun b hb => hb⟩
  refine (h.callsC hen hC (hv _ rfl fun _ h => h)).mono ?_
  rintro e w' ⟨⟨c, C', rfl, hc⟩, hb⟩
  rw [hc.bool_inv]
  exact ⟨rfl, hb⟩
end Ab
namespace Ab
open Go Go.RowKit Go.Proofs Go.ChangeShapes Go.WideShapes Go.ChangeAt
theorem laidOut : laidOutB Tryz.prog = true := by kernel_rfl
set_option maxRecDepth 100000 in
/-- an argument that is a row of bytes -/
theorem open_bytes {H : Type} {enc : TypeId × Value → H} {W : World} {base : Nat} {sp : Nat → Bool} {held : Bool} {v : Value} {d : DataW H} {p : List MemPlace} (hval : Value.okWide Tryz.prog W .any base 22 v)
    (hd : DataW.Trod enc Tryz.prog W 0 sp held 22 v d p) : ∃ l : List UInt8, l.length ≤ 9223372036854775807 ∧ ∀ C : Ctx, C.w = W → (∀ b, b < W.heap.size → C.pers b) → VR C (.pl 1 (bytesL l)) v := by
  obtain ⟨a0, len0, cap0, rfl⟩ := okWide_slice Tryz.underlying22 hval
  obtain ⟨fuel, hf⟩ := hd
  rcases open_ints Tryz.underlying22 Tryz.underlying5 (by kernel_rfl) hf with ⟨h1, _⟩ | ⟨a, len, cap, zs, h1, hb, hl, hm, hz, _, hcell, hwf⟩
  · simp [Value.cells] at h1
    obtain ⟨rfl, rfl, rfl⟩ := h1
    exact ⟨[], by simp, fun C _ _ => .pl0 1 none 0 fun _ => rfl⟩
  · simp [Value.cells] at h1
    obtain ⟨rfl, rfl, rfl⟩ := h1
    have hzl : len0 ≤ zs.length := by rw [hz]; split <;> omega
    have hml : len0 ≤ 9223372036854775807 := by unfold maxLen at hm; omega
    have hby : ∀ n ∈ zs, 0 ≤ n ∧ n ≤ 255 := fun n hn => by
      have := hwf n hn
      simp [Lit.wf, IntKind.min, IntKind.max, IntKind.bits, IntKind.signed] at this
      omega
    have hget : ∀ (i : Nat) (x : AV), (bytesL ((zs.take len0).map fun n => UInt8.ofNat n.toNat))[i]? = some x → x = .int .u8 (zs.getD i 0) ∧ i < len0 := by
      intro i x hx
      unfold bytesL at hx
      rw [List.getElem?_map, List.getElem?_map] at hx
      rcases Nat.lt_or_ge i len0 with hi | hi
      · rw [List.getElem?_take_of_lt hi, List.getElem?_eq_getElem (by omega)] at hx
        simp at hx
        have hmem := hby _ (List.getElem_mem (show i < zs.length by omega))
        refine ⟨?_, hi⟩
        rw [← hx, List.getD_eq_getElem?_getD, List.getElem?_eq_getElem (by omega)]
        simp
        omega
      · rw [List.getElem?_eq_none (by simp; omega)] at hx
        simp at hx
    refine ⟨(zs.take len0).map fun n => UInt8.ofNat n.toNat, by simp; omega, fun C hC hp => ?_⟩
    have hlen : (bytesL ((zs.take len0).map fun n => UInt8.ofNat n.toNat)).length = len0 := by unfold bytesL; simp; omega
    rcases Nat.eq_zero_or_pos len0 with h0 | h0
    · have e : bytesL ((zs.take len0).map fun n => UInt8.ofNat n.toNat) = [] := List.eq_nil_of_length_eq_zero (by omega)
      rw [e]
      subst h0
      exact .pl0 1 (some a) cap0 fun h => by cases h
    · obtain ⟨b, o, spot⟩ := a
      have h2 := hcell 0 (by omega)
      have hsp : spot = none := by
        cases spot with
        | none => rfl
        | some s => simp [World.cell?, Addr.add] at h2; split at h2 <;> simp at h2
      subst hsp
      have hbl : b < W.heap.size := by
        rcases Nat.lt_or_ge b W.heap.size with h | h
        · exact h
        · simp [World.cell?, Addr.add, Array.getElem?_eq_none h] at h2
      subst hC
      refine .pl 1 _ b o len0 cap0 (fun i j => .int .u8 (zs.getD i 0)) (hp b hbl) hlen.symm hl (fun i x hx => ?_) (fun i x hx j y hy => ?_)
      · obtain ⟨rfl, hi⟩ := hget i x hx
        refine ⟨rfl, fun j y hy => ?_⟩
        match j, hy with
        | 0, hy =>
          simp [AV.cells] at hy; subst hy
          refine ⟨rfl, ?_⟩
          have h3 := hcell i (by omega)
          rw [add_none] at h3
          simpa using h3
        | j + 1, hy => simp [AV.cells] at hy
      · obtain ⟨rfl, hi⟩ := hget i x hx
        match j, hy with
        | 0, hy => simp [AV.cells] at hy; subst hy; exact .int _ _
        | j + 1, hy => simp [AV.cells] at hy
theorem vrs_cons {C : Ctx} {x : AV} {c : Value} {xs : List AV} {cs : List Value} (h : VR C x c) (hs : VRs C xs cs) : VRs C (x :: xs) (c :: cs) := .cons h hs
end Ab
