/-
  WHAT THE ROWS' LISTED VARIABLES GIVE: a world in which the program's contracts hold; and from a contract to a law's row.
-/
import Derived.Test.YtdifgaapdnbliaaGreatDoorCards
import Derived.Test.YtdifgaapdnbliaaGreatDoorTie
import Derived.Test.YtdifgaapdnbliaaGreatDoorK3
import Derived.ProofKit
import Derived.OpenShut
import Derived.Lay
import Derived.LaidLaws
import Derived.SevenTiedAt
import Derived.Stop.Joined
import Derived.Deep.DeepHandedRow
import Derived.Lib.LaidTab
set_option linter.unusedSimpArgs false
set_option linter.unusedVariables false
namespace Ab
open Go Go.RowKit Go.Proofs Go.ChangeShapes Go.WideShapes Go.ChangeAt
theorem tyAt {P : Program} {W : World} {ps : List MemPlace} {x : String × DataW Unit} {rest : List (String × DataW Unit)} (h : DataW.LaidVars P W (x :: rest) ps) {g : Nat} {t : TypeId} (hg : P.globalNamed x.1 = some g) (ht : (P.globals[g]?).map (·.type) = some t) :
    (∃ cs fuel p, W.var? P x.1 = some cs ∧ DataW.trod (fun _ => ()) P W 0 (fun _ => true) false fuel t cs.toList = some (x.2, p)) ∧ ∃ q, DataW.LaidVars P W rest q := by
  obtain ⟨g', t', cs, fuel, p, q, hg', ht', hvar, hd, h2, _⟩ := h
  obtain rfl := Option.some.inj (hg.symm.trans hg')
  obtain rfl := Option.some.inj (ht.symm.trans ht')
  exact ⟨⟨cs, fuel, p, hvar, hd⟩, q, h2⟩
theorem lstAt {P : Program} {W : World} {ps : List MemPlace} {x : String × DataW Unit} {rest : List (String × DataW Unit)} (h : DataW.LaidVars P W (x :: rest) ps) : ∃ q, DataW.LaidVars P W rest q := by
  obtain ⟨g', t', cs, fuel, p, q, hg', ht', hvar, hd, h2, _⟩ := h
  exact ⟨q, h2⟩
theorem errAt {P : Program} {W : World} {t : TypeId} {ms : Array (String × TypeId)} {s nm : String} {d : DataW Unit} {fuel : Nat} {p : List MemPlace} {cs : Array Value} (hi : P.underlying t = some (.interface ms)) (hv : W.var? P s = some cs)
    (hd : DataW.trod (fun _ => ()) P W 0 (fun _ => true) false fuel t cs.toList = some (.iface nm d, p)) : ∃ (tp : TypeId) (q : Value), W.var? P s = some #[.iface tp q] := by
  obtain ⟨_, u, v, he, _⟩ := iface_of_trod hi hd
  refine ⟨u, v, ?_⟩
  rw [hv, ← Array.toList_inj.1 (show cs.toList = #[Value.iface u v].toList from he)]
/-- the three variables that the program's contracts ask for -/
theorem goodW_of {W : World} {ps : List MemPlace} {x y : String × DataW Unit} {n1 n2 : String} {d1 d2 : DataW Unit} {rest : List (String × DataW Unit)}
    (h : DataW.LaidVars Tryz.prog W (x :: y :: ("internal/strconv.uint64pow10", Lib.tabData .u64 Lib.pow10Tab) :: ("strconv.ErrRange", .iface n1 d1) :: ("strconv.ErrSyntax", .iface n2 d2) :: rest) ps) : GoodW W := by
  obtain ⟨_, h⟩ := lstAt h
  obtain ⟨_, h⟩ := lstAt h
  obtain ⟨⟨cs, f, p, hv, hd⟩, _, h⟩ := tyAt (g := 5) (t := 308) h (by kernel_rfl) (by kernel_rfl)
  obtain ⟨⟨cs2, f2, p2, hv2, hd2⟩, _, h⟩ := tyAt (g := 4) (t := 181) h (by kernel_rfl) (by kernel_rfl)
  obtain ⟨⟨cs3, f3, p3, hv3, hd3⟩, _, h⟩ := tyAt (g := 3) (t := 181) h (by kernel_rfl) (by kernel_rfl)
  refine ⟨?_, errAt (ms := _) Tryz.underlying181 hv3 hd3, errAt (ms := _) Tryz.underlying181 hv2 hd2⟩
  unfold Lib.TabIs
  rw [hv, ← Lib.cells_of_tab Tryz.underlying308 Tryz.underlying240 (by kernel_rfl) (by kernel_rfl) hd]
/-- A CONTRACT AT A WORLD. -/
theorem APure.law {f : FuncId} {args : List AV} {b : Bool} (hen : Enters Tryz.prog f) (h : APure Tryz.prog f args (.bool b)) {W : World} (hW : GoodW W) {cargs : List Value} (hv : ∀ C : Ctx, C.w = W → (∀ b, b < W.heap.size → C.pers b) → VRs C args cargs) :
    Calls Tryz.prog f cargs.toArray W fun e w' => e = .returned (.bool b) ∧ Below W.heap.size W w' := by
  have hC : All ⟨W, [], fun b => b < W.heap.size, W⟩ := ⟨⟨rfl, hW, Below.refl _ _, fun b hb => hb, fun b hb => hb, fun r b o h => by simp at h, fun r r' b o o' h => by simp at h⟩, rfl, fun b hb => hb⟩
  refine (h.callsC hen hC (hv _ rfl fun _ h => h)).mono ?_
  rintro e w' ⟨⟨c, C', rfl, hc⟩, hb⟩
  rw [hc.bool_inv]
  exact ⟨rfl, hb⟩
end Ab
