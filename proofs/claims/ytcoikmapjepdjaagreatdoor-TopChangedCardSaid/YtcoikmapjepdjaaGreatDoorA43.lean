/-
  TopChanged: the walk.
-/
import Derived.Test.YtcoikmapjepdjaaGreatDoorA23
import Derived.Test.YtcoikmapjepdjaaGreatDoorA42
set_option linter.unusedSimpArgs false
set_option linter.unusedVariables false
set_option linter.unusedSectionVars false
namespace Ab
open Go Go.RowKit Go.Proofs
attribute [local irreducible] aws awp aw1 Og Om Oc Oa Ogd Ov Ot awd aw1d awh aw1h Ogh Ohd awl Ogl Ohl awv Ogv Ohv QThen QBlock QFn QFnM QRo QBe ACode AYield
theorem farT (σ : Heap) (b1 b2 : AObj) (g : Heap) (a b : List W8) (ha : ∀ w ∈ a, w ∈ wordL) (hb : ∀ w ∈ b, w ∈ wordL) (la : a.length ≤ 6) (lb : b.length ≤ 6) (ns : List W8) (hN : NS ns) :
    ACalls Tryz.prog 30 [wordsAV a, wordsAV b, .ptr (σ.length + 4) 0] (σ ++ b1 :: b2 :: .map (entsW ns) :: .cells [.mp (σ.length + 2)] :: .cells [.fn (.func 29) [] [.ptr (σ.length + 3) 0]] :: g) fun v s => v = .tup [.int .i64 (Oyez.dist a b), .bool true] ∧
      s = σ ++ b1 :: b2 :: .map (entsW (addW (addW ns a) b)) :: .cells [.mp (σ.length + 2)] :: .cells [.fn (.func 29) [] [.ptr (σ.length + 3) 0]] :: g := by
  have k := far_calls a b ha hb la lb (σ ++ b1 :: b2 :: .map (entsW ns) :: .cells [.mp (σ.length + 2)] :: .cells [.fn (.func 29) [] [.ptr (σ.length + 3) 0]] :: g) (σ.length + 4) (σ.length + 3) (σ.length + 2) ns (by simp) ⟨by simp, by simp⟩ hN
  simpa using k
/-- the words that a file has at a place -/
theorem words_at {f : List Oyez.Rec} (gf : GoodF f) (p : Oyez.Place) : (∀ w ∈ (Oyez.getIn f p).getD [], w ∈ wordL) ∧ ((Oyez.getIn f p).getD []).length ≤ 6 := by
  cases h : Oyez.getIn f p with
  | none => simp
  | some ws =>
    obtain ⟨r, hr, _, rfl⟩ := Oyez.getIn_mem h
    refine ⟨gf.words r hr, ?_⟩
    exact (Oyez.wordsErr_zero ((Oyez.recErr_iff r).1 (gf.recs r hr)).2).1
set_option maxHeartbeats 40000000 in
set_option maxRecDepth 8000 in
theorem topChanged_law (l1 l2 : List UInt8) (h1 : l1.length ≤ 9223372036854775807) (h2 : l2.length ≤ 9223372036854775807) : APure Tryz.prog 4 [.pl 1 (bytesL l1), .pl 1 (bytesL l2)] (.bool true) := by
  refine APure.of fun σ => ?_
  refine acalls_fn Tryz.func4 rfl (enters_fn Tryz.func4 (by decide) rfl) ?_
  simp [Tryz.ntmps4]
  refine StA.of ((hang_calls σ _ rfl).mono ?_)
  rintro v σ' ⟨rfl, rfl⟩
  refine StA.of ((made15_calls (σ ++ [bellObj l1 0 0]) σ.length l1 0 0 (by simp) (by omega) h1).mono ?_)
  rintro v σ' ⟨f, a', c', rfl, hf, hfl, hfw, ha', rfl⟩
  simp
  refine StA.of ((hang_calls (σ ++ [bellObj l1 a' c']) _ rfl).mono ?_)
  rintro v σ' ⟨rfl, rfl⟩
  have rf := Oyez.check_zero hf
  have gf : GoodF f := ⟨rf.recs, rf.sorted, hfw⟩
  simp
  refine StA.of ((copied_calls (σ ++ [bellObj l1 a' c', bellObj l2 0 0]) (σ.length + 1) l2 0 0 f (by simp) (by omega) h2 gf (by omega)).mono ?_)
  rintro v σ' ⟨g, eg, a2, c2, rfl, gg, hgl, _, _, ha2, rfl⟩
  simp
  refine StA.of ((copied_calls (σ ++ [bellObj l1 a' c', bellObj l2 a2 c2]) (σ.length + 1) l2 a2 c2 g (by simp) (by omega) h2 gg (by omega)).mono ?_)
  rintro v σ' ⟨h, eh, a3, c3, rfl, gh, hhl, _, _, ha3, rfl⟩
  have rg : Oyez.Right g := gg.right (by omega)
  have rh : Oyez.Right h := gh.right (by omega)
  have dif : ∀ {a b : List Oyez.Rec}, Oyez.Right a → Oyez.Right b → APure Tryz.prog 26 [fileAV a, fileAV b] (.tup [chgsAV (Oyez.diff a b), .int .i64 0]) := by
    intro a b ra rb
    have k := diffP68 a b (right_fewF (Oyez.right_check ra)).1 (right_fewF (Oyez.right_check rb)).1 (by have := ra.len; have := rb.len; omega)
    rw [diffR_right ra rb] at k
    exact k
  have aft : ∀ {a b c : List Oyez.Rec}, Oyez.Right a → Oyez.Right b → Oyez.Right c → APure Tryz.prog 27 [chgsAV (Oyez.diff a b), chgsAV (Oyez.diff b c)] (.tup [chgsAV (Oyez.diff a c), .int .i64 0]) := by
    intro a b c ra rb rc
    have d1 := Oyez.diff_right ra rb
    have d2 := Oyez.diff_right rb rc
    have k := afterP41 (Oyez.diff a b) (Oyez.diff b c) (right_fewC d1).1 (right_fewC d2).1 (by have := d1.len; omega) (by have := d2.len; omega)
    rw [afterR_diff ra rb rc] at k
    exact k
  have bak : ∀ {a b : List Oyez.Rec}, Oyez.Right a → Oyez.Right b → APure Tryz.prog 28 [chgsAV (Oyez.diff a b)] (.tup [chgsAV (Oyez.diff b a), .int .i64 0]) := by
    intro a b ra rb
    have d1 := Oyez.diff_right ra rb
    have k := backP71 (Oyez.diff a b) (right_fewC d1).1 (by have := d1.len; omega)
    rw [backR_diff ra rb] at k
    exact k
  have l1r := (Oyez.diff_right rf rg).len
  have l2r := (Oyez.diff_right rg rh).len
  have l3r := (Oyez.diff_right rf rh).len
  have hbl : (Oyez.diff g f).length = (Oyez.diff f g).length := by rw [← Oyez.back_diff f g]; simp [Oyez.back]
  simp
  refine (dif rf rg).use ?_
  simp
  refine (dif rg rh).use ?_
  simp
  refine (aft rf rg rh).use ?_
  simp
  refine (bak rf rg).use ?_
  simp [hbl]
  have hback : ∀ (i : Nat) (hi : i < (Oyez.diff f g).length) (hi' : i < (Oyez.diff g f).length), (Oyez.diff g f)[i] = ⟨(Oyez.diff f g)[i].kind, (Oyez.diff f g)[i].number, (Oyez.diff f g)[i].has, (Oyez.diff f g)[i].had, (Oyez.diff f g)[i].new, (Oyez.diff f g)[i].old⟩ := by
    intro i hi hi'
    have := Oyez.back_diff f g
    simp only [← this, Oyez.back, List.getElem_map]
  have hmem : ∀ (i : Nat) (hi : i < (Oyez.diff f g).length), ∃ p, Oyez.getIn f p ≠ Oyez.getIn g p ∧ (Oyez.diff f g)[i] = Oyez.chg p (Oyez.getIn f p) (Oyez.getIn g p) := fun i hi => by
    obtain ⟨p, _, h1, h2⟩ := Oyez.mem_diff (List.getElem_mem hi)
    exact ⟨p, h1, h2⟩
  have fs := Oyez.findC_diff g h
  have fb := Oyez.findC_diff f h
  obtain ⟨L1, hL1⟩ : ∃ L1, Oyez.diff f g = L1 := ⟨_, rfl⟩
  obtain ⟨L2, hL2⟩ : ∃ L2, Oyez.diff g h = L2 := ⟨_, rfl⟩
  obtain ⟨L3, hL3⟩ : ∃ L3, Oyez.diff f h = L3 := ⟨_, rfl⟩
  obtain ⟨L4, hL4⟩ : ∃ L4, Oyez.diff g f = L4 := ⟨_, rfl⟩
  rw [hL1] at hback hmem hbl l1r
  rw [hL4] at hback hbl
  rw [hL2] at fs l2r
  rw [hL3] at fb l3r
  rw [hL1, hL2, hL3, hL4]
  refine ACode_loopT (fun env σ' => ∃ (u : List AV) (i : Nat) (ns : List W8) (X : Heap), env = { t := u } ∧ u.length = 266 ∧ tg u 9 = chgsAV L1 ∧ tg u 11 = chgsAV L2 ∧ tg u 13 = chgsAV L3 ∧ tg u 15 = chgsAV L4 ∧ tg u 19 = .fn (.func 30) [] [.ptr (σ.length + 4) 0] ∧ tg u 20 = .fn (.func 32) [] [] ∧ tg u 97 = chgsAV L1 ∧ tg u 98 = .int .i64 L1.length ∧ tg u 99 = .int .i64 i ∧ i ≤ L1.length ∧ NS ns ∧
      σ' = σ ++ bellObj l1 a' c' :: bellObj l2 a3 c3 :: .map (entsW ns) :: .cells [.mp (σ.length + 2)] :: .cells [.fn (.func 29) [] [.ptr (σ.length + 3) 0]] :: X)
    (fun env _ => match tg env.t 99 with | .int _ i => L1.length - i.toNat | _ => 0) ⟨_, 0, [], [], rfl, by simp, by simp, by simp, by simp, by simp, by simp, by simp, by simp, by simp, by simp, by omega, .nil, by simp [entsW]⟩ ?_
  rintro env σ' ⟨u, i, ns, X, rfl, hl, g9, g11, g13, g15, g19, g20, g97, g98, g99, hi, hN, rfl⟩
  rcases Nat.lt_or_ge i L1.length with hlt | hge
  · have hlt' : (i : Int) < (L1.length : Int) := by omega
    obtain ⟨p, hne, hc⟩ := hmem i hlt
    have hB := hback i hlt (by omega)
    have wF := words_at gf p
    have wG := words_at gg p
    have wH := words_at gh p
    have fs1 := fs p
    have fb1 := fb p
    unfold Oyez.diffAt at fs1 fb1
    obtain ⟨F, hF⟩ : ∃ F, Oyez.getIn f p = F := ⟨_, rfl⟩
    obtain ⟨G, hG⟩ : ∃ G, Oyez.getIn g p = G := ⟨_, rfl⟩
    obtain ⟨K, hK⟩ : ∃ K, Oyez.getIn h p = K := ⟨_, rfl⟩
    rw [hF] at hne hc wF fb1
    rw [hG] at hne hc wG fs1
    rw [hK] at wH fs1 fb1
    have e0 : L1[i].place = p := by rw [hc]; rfl
    have e1 : L1[i].old = F.getD [] := by rw [hc]; rfl
    have e2 : L1[i].new = G.getD [] := by rw [hc]; rfl
    have e3 : L1[i].had = F.isSome := by rw [hc]; rfl
    have e4 : L1[i].has = G.isSome := by rw [hc]; rfl
    have e5 : L1[i].kind = p.kind := by rw [hc]; rfl
    have e6 : L1[i].number = p.number := by rw [hc]; rfl
    rw [e1, e2, e3, e4, e5, e6] at hB
    have hz : Oyez.dist (F.getD []) (G.getD []) = 0 → ¬ (F.isSome = true ∧ G.isSome = true) := by
      intro hd ⟨k1, k2⟩
      have := Oyez.dist_zero hd
      cases F <;> cases G <;> simp_all
    have hle : Oyez.dist (F.getD []) (G.getD []) ≤ (F.getD []).length + (G.getD []).length := by unfold Oyez.dist; omega
    obtain ⟨x, hx⟩ : ∃ x, F.getD [] = x := ⟨_, rfl⟩
    obtain ⟨y, hy⟩ : ∃ y, G.getD [] = y := ⟨_, rfl⟩
    rw [hx] at e1 wF hz hle hB
    rw [hy] at e2 wG hz hle hB
    have hsy : Oyez.dist y x = Oyez.dist x y := Oyez.dist_symm y x
    have hse : Oyez.dist x x = 0 := Oyez.dist_self x
    have N1 := (hN.add wF.1).add wG.1
    have N2 := (N1.add wG.1).add wF.1
    have N3 := (N2.add wF.1).add wF.1
    simp [hl, g9, g11, g13, g15, g19, g20, g97, g98, g99, hlt', hlt, e1, e2, e3, e4, e5, e6]
    refine StA.of ((farT σ _ _ _ x y wF.1 wG.1 wF.2 wG.2 ns hN).mono ?_)
    rintro v s ⟨rfl, rfl⟩
    simp [hl, g9, g11, g13, g15, g19, g20, g97, g98, g99]
    refine ACode_drawL [11] [] mixed (by kernel_rfl) (by kernel_rfl) ?_
    simp [hl, g9, g11, g13, g15, g19, g20, g97, g98, g99, hbl, hlt', hlt, hB]
    refine OuH_of (farT σ _ _ _ y x wG.1 wF.1 wG.2 wF.2 _ N1) ?_
    simp [hl, g9, g11, g13, g15, g19, g20, g97, g98, g99, hbl, hlt', hlt, hB]
    refine ACode_drawL [8] [] mixed (by kernel_rfl) (by kernel_rfl) ?_
    simp [hl, g9, g11, g13, g15, g19, g20, g97, g98, g99, hbl, hlt', hlt, hB]
    refine OuH_of (farT σ _ _ _ x x wF.1 wF.1 wF.2 wF.2 _ N2) ?_
    obtain ⟨ns3, hns3⟩ : ∃ n, addW (addW (addW (addW (addW (addW ns x) y) y) x) x) x = n := ⟨_, rfl⟩
    rw [hns3] at N3 ⊢
    obtain ⟨d, hd⟩ : ∃ d, Oyez.dist x y = d := ⟨_, rfl⟩
    have hle' : ¬ ((x.length : Int) + y.length < d) := by omega
    have w1 := w64 (n := (x.length : Int) + y.length) (by have := wF.2; have := wG.2; omega) (by have := wF.2; have := wG.2; omega)
    rw [hd] at hz hle hsy
    have hwi := w64 (n := (i : Int) + 1) (by omega) (by omega)
    have hlz : ¬ ((x.length : Int) + y.length < 0) := by omega
    have hzz : ¬ d = 0 ∨ (d = 0 ∧ F.isSome = false) ∨ (d = 0 ∧ G.isSome = false ∧ F.isSome = true) := by
      by_cases h0 : d = 0
      · have := hz h0
        cases hF1 : F.isSome <;> cases hG1 : G.isSome <;> simp_all
      · exact .inl h0
    have t2 := to_calls L2 (Oyez.chg p F G) (by omega)
    have t3 := to_calls L3 (Oyez.chg p F G) (by omega)
    rw [show (Oyez.chg p F G).place = p from rfl, fs1] at t2
    rw [show (Oyez.chg p F G).place = p from rfl, fb1] at t3
    have lk := like_calls y y (by have := wG.2; omega)
    rw [decide_eq_true rfl] at lk
    by_cases hGK : G = K
    · have hFK : ¬ F = K := fun e => hne (e.trans hGK.symm)
      rw [if_pos hGK] at t2
      rw [if_neg hFK] at t3
      have hKy : K.getD [] = y := by rw [← hGK]; exact hy
      simp [Oyez.chg, hx, hy, chgZ, hKy] at t2 t3
      rcases hzz with hzz | ⟨h0, hzz⟩ | ⟨h0, hzz, hz2⟩
      · simp [hl, g9, g11, g13, g15, g19, g20, g97, g98, g99, hsy, hse, hd, w1, hle', hzz]
        refine t2.use ?_
        simp [hl, g9, g11, g13, g15, g19, g20, g97, g98, g99]
        refine t3.use ?_
        simp [hl, g9, g11, g13, g15, g19, g20, g97, g98, g99]
        refine lk.use ?_
        simp [hl, g9, g11, g13, g15, g19, g20, g97, g98, g99, hwi]
        exact ⟨⟨i + 1, by simp, hlt, ns3, N3, rfl⟩, by omega⟩
      · simp only [hzz] at t2 t3
        simp [hl, g9, g11, g13, g15, g19, g20, g97, g98, g99, hsy, hse, hd, w1, hle', h0, hzz, hlz]
        refine t2.use ?_
        simp [hl, g9, g11, g13, g15, g19, g20, g97, g98, g99]
        refine t3.use ?_
        simp [hl, g9, g11, g13, g15, g19, g20, g97, g98, g99]
        refine lk.use ?_
        simp [hl, g9, g11, g13, g15, g19, g20, g97, g98, g99, hwi]
        exact ⟨⟨i + 1, by simp, hlt, ns3, N3, rfl⟩, by omega⟩
      · simp only [hzz, hz2] at t2 t3
        simp [hl, g9, g11, g13, g15, g19, g20, g97, g98, g99, hsy, hse, hd, w1, hle', h0, hzz, hz2, hlz]
        refine t2.use ?_
        simp [hl, g9, g11, g13, g15, g19, g20, g97, g98, g99]
        refine t3.use ?_
        simp [hl, g9, g11, g13, g15, g19, g20, g97, g98, g99]
        refine lk.use ?_
        simp [hl, g9, g11, g13, g15, g19, g20, g97, g98, g99, hwi]
        exact ⟨⟨i + 1, by simp, hlt, ns3, N3, rfl⟩, by omega⟩
    · rw [if_neg hGK] at t2
      by_cases hFK : F = K
      · rw [if_pos hFK] at t3
        subst hFK
        have N4 := (N3.add wF.1).add wF.1
        simp [Oyez.chg, hx, hy, chgZ] at t2 t3
        rcases hzz with hzz | ⟨h0, hzz⟩ | ⟨h0, hzz, hz2⟩
        · simp [hl, g9, g11, g13, g15, g19, g20, g97, g98, g99, hsy, hse, hd, w1, hle', hzz]
          refine t2.use ?_
          simp [hl, g9, g11, g13, g15, g19, g20, g97, g98, g99]
          refine t3.use ?_
          simp [hl, g9, g11, g13, g15, g19, g20, g97, g98, g99]
          refine StA.of ((farT σ _ _ _ x x wF.1 wF.1 wF.2 wF.2 ns3 N3).mono ?_)
          rintro v s ⟨rfl, rfl⟩
          simp [hl, g9, g11, g13, g15, g19, g20, g97, g98, g99, hse, hwi]
          exact ⟨⟨i + 1, by simp, hlt, _, N4, rfl⟩, by omega⟩
        · simp only [hzz] at t2 t3
          simp [hl, g9, g11, g13, g15, g19, g20, g97, g98, g99, hsy, hse, hd, w1, hle', h0, hzz, hlz]
          refine t2.use ?_
          simp [hl, g9, g11, g13, g15, g19, g20, g97, g98, g99]
          refine t3.use ?_
          simp [hl, g9, g11, g13, g15, g19, g20, g97, g98, g99]
          refine StA.of ((farT σ _ _ _ x x wF.1 wF.1 wF.2 wF.2 ns3 N3).mono ?_)
          rintro v s ⟨rfl, rfl⟩
          simp [hl, g9, g11, g13, g15, g19, g20, g97, g98, g99, hse, hwi]
          exact ⟨⟨i + 1, by simp, hlt, _, N4, rfl⟩, by omega⟩
        · simp only [hzz, hz2] at t2 t3
          simp [hl, g9, g11, g13, g15, g19, g20, g97, g98, g99, hsy, hse, hd, w1, hle', h0, hzz, hz2, hlz]
          refine t2.use ?_
          simp [hl, g9, g11, g13, g15, g19, g20, g97, g98, g99]
          refine t3.use ?_
          simp [hl, g9, g11, g13, g15, g19, g20, g97, g98, g99]
          refine StA.of ((farT σ _ _ _ x x wF.1 wF.1 wF.2 wF.2 ns3 N3).mono ?_)
          rintro v s ⟨rfl, rfl⟩
          simp [hl, g9, g11, g13, g15, g19, g20, g97, g98, g99, hse, hwi]
          exact ⟨⟨i + 1, by simp, hlt, _, N4, rfl⟩, by omega⟩
      · rw [if_neg hFK] at t3
        obtain ⟨z, hzK⟩ : ∃ z, K.getD [] = z := ⟨_, rfl⟩
        rw [hzK] at wH
        have N5 := (N3.add wF.1).add wH.1
        have N6 := (N5.add wG.1).add wH.1
        have htri := Oyez.dist_tri x y z
        rw [hd] at htri
        have htr : ¬ ((d : Int) + Oyez.dist y z < Oyez.dist x z) := by omega
        have hdy : Oyez.dist y z ≤ 12 := by have := wG.2; have := wH.2; unfold Oyez.dist; omega
        have w2 := w64 (n := (d : Int) + Oyez.dist y z) (by omega) (by have := wF.2; have := wG.2; omega)
        have htr0 : d = 0 → ¬ ((Oyez.dist y z : Int) < Oyez.dist x z) := fun h => by omega
        have w20 := w64 (n := (Oyez.dist y z : Int)) (by omega) (by omega)
        simp [Oyez.chg, hx, hy, hzK] at t2 t3
        rcases hzz with hzz | ⟨h0, hzz⟩ | ⟨h0, hzz, hz2⟩
        · simp [hl, g9, g11, g13, g15, g19, g20, g97, g98, g99, hsy, hse, hd, w1, hle', hzz]
          refine t2.use ?_
          simp [hl, g9, g11, g13, g15, g19, g20, g97, g98, g99]
          refine t3.use ?_
          simp [hl, g9, g11, g13, g15, g19, g20, g97, g98, g99]
          refine StA.of ((farT σ _ _ _ x z wF.1 wH.1 wF.2 wH.2 ns3 N3).mono ?_)
          rintro v s ⟨rfl, rfl⟩
          simp [hl, g9, g11, g13, g15, g19, g20, g97, g98, g99]
          refine StA.of ((farT σ _ _ _ y z wG.1 wH.1 wG.2 wH.2 _ N5).mono ?_)
          rintro v s ⟨rfl, rfl⟩
          simp [hl, g9, g11, g13, g15, g19, g20, g97, g98, g99, htr, w2, hwi, hzz]
          exact ⟨⟨i + 1, by simp, hlt, _, N6, rfl⟩, by omega⟩
        · simp only [hzz] at t2 t3
          simp [hl, g9, g11, g13, g15, g19, g20, g97, g98, g99, hsy, hse, hd, w1, hle', h0, hzz, hlz]
          refine t2.use ?_
          simp [hl, g9, g11, g13, g15, g19, g20, g97, g98, g99]
          refine t3.use ?_
          simp [hl, g9, g11, g13, g15, g19, g20, g97, g98, g99]
          refine StA.of ((farT σ _ _ _ x z wF.1 wH.1 wF.2 wH.2 ns3 N3).mono ?_)
          rintro v s ⟨rfl, rfl⟩
          simp [hl, g9, g11, g13, g15, g19, g20, g97, g98, g99]
          refine StA.of ((farT σ _ _ _ y z wG.1 wH.1 wG.2 wH.2 _ N5).mono ?_)
          rintro v s ⟨rfl, rfl⟩
          simp [hl, g9, g11, g13, g15, g19, g20, g97, g98, g99, htr, htr0 h0, w2, w20, hwi, h0, hzz, hlz]
          exact ⟨⟨i + 1, by simp, hlt, _, N6, rfl⟩, by omega⟩
        · simp only [hzz, hz2] at t2 t3
          simp [hl, g9, g11, g13, g15, g19, g20, g97, g98, g99, hsy, hse, hd, w1, hle', h0, hzz, hz2, hlz]
          refine t2.use ?_
          simp [hl, g9, g11, g13, g15, g19, g20, g97, g98, g99]
          refine t3.use ?_
          simp [hl, g9, g11, g13, g15, g19, g20, g97, g98, g99]
          refine StA.of ((farT σ _ _ _ x z wF.1 wH.1 wF.2 wH.2 ns3 N3).mono ?_)
          rintro v s ⟨rfl, rfl⟩
          simp [hl, g9, g11, g13, g15, g19, g20, g97, g98, g99]
          refine StA.of ((farT σ _ _ _ y z wG.1 wH.1 wG.2 wH.2 _ N5).mono ?_)
          rintro v s ⟨rfl, rfl⟩
          simp [hl, g9, g11, g13, g15, g19, g20, g97, g98, g99, htr, htr0 h0, w2, w20, hwi, h0, hzz, hz2, hlz]
          exact ⟨⟨i + 1, by simp, hlt, _, N6, rfl⟩, by omega⟩
  · have hge' : ¬ (i : Int) < (L1.length : Int) := by omega
    simp [hl, g9, g11, g13, g15, g19, g20, g97, g98, g99, hge']
    refine awake11_calls.use ?_
    simp
end Ab
