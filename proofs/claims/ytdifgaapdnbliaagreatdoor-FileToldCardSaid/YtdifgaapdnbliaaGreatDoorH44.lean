/-
  SEALS: the law's function answers true for every text.
  FileTold: the walk.
-/
import Derived.Test.YtdifgaapdnbliaaGreatDoorH01
import Derived.Test.YtdifgaapdnbliaaGreatDoorH11
import Derived.Test.YtdifgaapdnbliaaGreatDoorH26
import Derived.Test.YtdifgaapdnbliaaGreatDoorH36
import Derived.Test.YtdifgaapdnbliaaGreatDoorH19
import Derived.Test.YtdifgaapdnbliaaGreatDoorH43
set_option linter.unusedSimpArgs false
set_option linter.unusedVariables false
set_option linter.unusedSectionVars false
namespace Ab
open Go Go.RowKit Go.Proofs
attribute [local irreducible] aws awp aw1 Og Om Oc Oa Ogd Ov Ot awd aw1d awh aw1h Ogh Ohd awl Ogl Ohl awv Ogv Ohv QThen QBlock QFn QFnM QRo QBe ACode AYield
theorem mendI_eq (s : List UInt8) : (mendI s).1 = (Oyez.mendOf s).1 ∧ (mendI s).2.1 = ((Oyez.mendOf s).2.1 : Int) ∧ (mendI s).2.2 = (Oyez.mendOf s).2.2 := by
  unfold mendI
  cases h : Oyez.openedOf s with
  | error e =>
    have he := Oyez.openedOf_err h
    have ho : Oyez.openOf s = ([], e) := by unfold Oyez.openOf; rw [h]
    have hm : Oyez.mendOf s = ([], 0, e) := by
      unfold Oyez.mendOf
      rw [ho]
      simp only
      rw [if_neg (by omega), if_pos (by omega)]
    rw [hm]
    exact ⟨rfl, rfl, rfl⟩
  | ok x =>
    obtain ⟨b, m, n⟩ := x
    simp only
    by_cases hs : Oyez.sums b = (m, n)
    · rw [if_pos hs]
      have ho : Oyez.openOf s = (b, 0) := by unfold Oyez.openOf; rw [h]; simp only; rw [if_pos hs]
      have hm : Oyez.mendOf s = ([], 0, 5) := by
        unfold Oyez.mendOf
        rw [ho]
        simp
      rw [hm]
      exact ⟨rfl, rfl, rfl⟩
    · rw [if_neg hs, Oyez.mendOf_eq h hs]
      exact ⟨rfl, rfl, rfl⟩
end Ab
namespace Ab
open Go Go.RowKit Go.Proofs
attribute [local irreducible] aws awp aw1 Og Om Oc Oa Ogd Ov Ot awd aw1d awh aw1h Ogh Ohd awl Ogl Ohl awv Ogv Ohv QThen QBlock QFn QFnM QRo QBe ACode AYield
set_option maxHeartbeats 40000000 in
theorem told_calls (l1 l2 : List UInt8) (h1 : l1.length ≤ 9223372036854775807) (h2 : l2.length ≤ 9223372036854775807) (dm : Nat) (hdm : dm < 65536) : APure Tryz.prog 8 [.pl 1 (bytesL l1), .pl 1 (bytesL l2), .int .u16 dm] (.bool true) := by
  refine APure.of fun σ => ?_
  refine acalls_fn Tryz.func8 rfl (enters_fn Tryz.func8 (by decide) rfl) ?_
  simp [Tryz.ntmps8]
  refine StA.of ((hang_calls σ _ rfl).mono ?_)
  rintro v σ' ⟨rfl, rfl⟩
  refine StA.of ((made20_calls (σ ++ [bellObj l1 0 0]) σ.length l1 0 0 (by simp) (by omega) h1).mono ?_)
  rintro v σ' ⟨f, a', c', rfl, hf, hfl, hfw, ha', rfl⟩
  generalize bellObj l1 a' c' = B
  simp
  refine StA.of ((hang_calls (σ ++ [B]) _ rfl).mono ?_)
  rintro v σ' ⟨rfl, rfl⟩
  have hfr := Oyez.check_zero hf
  have gf : GoodF f := ⟨hfr.recs, hfr.sorted, hfw⟩
  simp
  refine StA.of ((copied_calls (σ ++ [B, bellObj l2 0 0]) (σ.length + 1) l2 0 0 f (by simp) (by omega) h2 gf (by omega)).mono ?_)
  rintro v σ' ⟨a, ea, a2, c2, rfl, ga, hal, hea, hap, ha2, rfl⟩
  simp
  refine StA.of ((copied_calls (σ ++ [B, bellObj l2 a2 c2]) (σ.length + 1) l2 a2 c2 f (by simp) (by omega) h2 gf (by omega)).mono ?_)
  rintro v σ' ⟨b, eb, a3, c3, rfl, gb, hbl, heb, hbp, ha3, rfl⟩
  generalize bellObj l2 a3 c3 = B2
  have ca : CopyOf f a ea := ⟨ga, hal, hea, hap⟩
  have cb : CopyOf f b eb := ⟨gb, hbl, heb, hbp⟩
  clear hap hbp hea heb ha2 ha3 ha'
  obtain ⟨ffew, _, fpl, fwl⟩ := right_fewF hf
  have ra : Oyez.Right a := ga.right (by omega)
  have rb : Oyez.Right b := gb.right (by omega)
  have xa := Oyez.right_check ra
  have xb := Oyez.right_check rb
  obtain ⟨afew, _, _, awl⟩ := right_fewF xa
  obtain ⟨bfew, _, _, bwl⟩ := right_fewF xb
  obtain ⟨hjl, hcl⟩ := join_small ca cb hfl []
  have rj := Oyez.join_right hfr ra rb [] (by omega)
  have xj := Oyez.right_check rj
  obtain ⟨jfew, _, _, jwl⟩ := right_fewF xj
  have hjR : joinR f a b = ((Oyez.join f a b []).out, Oyez.confsOf f a b, 0) := by
    unfold joinR chk3
    rw [hf, xa, xb, if_neg (by simp), if_neg (by omega), (Oyez.join_pl f a b []).2]
  have hpc : printC f = (Oyez.print f, 0) := by unfold printC; rw [if_pos hf]
  have hgj := Oyez.getIn_join f a b []
  obtain ⟨J, hJ⟩ : ∃ J, (Oyez.join f a b []).out = J := ⟨_, rfl⟩
  rw [hJ] at hjl rj xj jfew jwl hjR hgj
  obtain ⟨L, hL⟩ : ∃ L, Oyez.confsOf f a b = L := ⟨_, rfl⟩
  have hmL : ∀ p, p ∈ L ↔ Oyez.confAt f a b p = true := fun p => by rw [← hL]; exact Oyez.mem_confs
  rw [hL] at hcl hjR hgj
  simp
  refine (print_calls f ffew).use ?_
  rw [hpc]
  simp
  refine (parse_calls (Oyez.print f) (by omega)).use ?_
  rw [Oyez.parse_print hf]
  simp [parsedAV]
  refine (same_calls f f (by omega) fwl).use ?_
  simp
  refine (check_calls a afew).use ?_
  rw [xa]
  simp
  refine (check_calls b bfew).use ?_
  rw [xb]
  simp
  refine (joinP33 f a b ffew afew bfew (by omega)).use ?_
  rw [hjR]
  simp
  refine (check_calls J jfew).use ?_
  rw [xj]
  simp
  refine StA.of ((all_calls [f, a, b, J] (σ ++ [B, B2, .cells [fileAV f, fileAV a, fileAV b, fileAV J]]) (σ.length + 2) (by simp) (by simp) (fun x hx => by
    simp only [List.mem_cons, List.not_mem_nil, or_false] at hx
    rcases hx with rfl | rfl | rfl | rfl <;> omega)).mono ?_)
  rintro _ _ ⟨rfl, ps, rfl, hps⟩
  simp
  refine ACode_loopT (fun env σ' => ∃ (u : List AV) (i : Nat) (g : Heap), env = { t := u } ∧ u.length = 227 ∧ tg u 2 = .int .u16 dm ∧ tg u 7 = fileAV f ∧ tg u 9 = fileAV a ∧ tg u 10 = fileAV b ∧ tg u 11 = .str (Oyez.print f) ∧ tg u 17 = fileAV J ∧ tg u 18 = placesAV L ∧ tg u 106 = placesAV ps ∧ tg u 107 = .int .i64 ps.length ∧ tg u 108 = .int .i64 i ∧ σ' = σ ++ g ∧ i ≤ ps.length)
    (fun env _ => match tg env.t 108 with | .int _ i => ps.length - i.toNat | _ => 0) ⟨_, 0, _, rfl, by simp, by simp, by simp, by simp, by simp, by simp, by simp, by simp, by simp, by simp, by simp, rfl, by omega⟩ ?_
  rintro env _ ⟨u, i, g, rfl, hl, g2, g7, g9, g10, g11, g17, g18, g106, g107, g108, rfl, hi⟩
  rcases Nat.lt_or_ge i ps.length with hlt | hge
  · have hlt' : (i : Int) < (ps.length : Int) := by omega
    have hx := w64 (n := (i : Int) + 1) (by omega) (by omega)
    obtain ⟨p, hpe⟩ : ∃ p, ps[i] = p := ⟨_, rfl⟩
    have wx := Oyez.wordSt_of hfr.recs p
    have wy := Oyez.wordSt_of ra.recs p
    have wz := Oyez.wordSt_of rb.recs p
    have cf := has_calls f p hfr.recs (by omega)
    have cfa := has_calls a p ra.recs (by omega)
    have cfb := has_calls b p rb.recs (by omega)
    have cfj := has_calls J p rj.recs (by omega)
    have cct := containsP_calls L p (by omega)
    have hjp := hgj p
    have hLp := hmL p
    unfold Oyez.joinV Oyez.pickJ at hjp
    unfold Oyez.confAt Oyez.clashAt at hLp
    obtain ⟨x, hxe⟩ : ∃ x, Oyez.getIn f p = x := ⟨_, rfl⟩
    obtain ⟨y, hye⟩ : ∃ x, Oyez.getIn a p = x := ⟨_, rfl⟩
    obtain ⟨z, hze⟩ : ∃ x, Oyez.getIn b p = x := ⟨_, rfl⟩
    rw [hxe] at wx cf hjp hLp
    rw [hye] at wy cfa hjp hLp
    rw [hze] at wz cfb hjp hLp
    have iyz := Oyez.hasS_inj wy wz
    have iyx := Oyez.hasS_inj wy wx
    have izx := Oyez.hasS_inj wz wx
    simp [hl, g2, g7, g9, g10, g11, g17, g18, g106, g107, g108, hlt', hlt, hpe, Nat.add_assoc]
    refine ACode_draw0 mixed (by kernel_rfl) ?_
    simp [hl, g2, g7, g9, g10, g11, g17, g18, g106, g107, g108, hlt', hlt, hpe, Nat.add_assoc]
    refine Ou_use0 cf ?_
    try simp [hl, g2, g7, g9, g10, g11, g17, g18, g106, g107, g108, hlt', hlt, hpe, Nat.add_assoc]
    refine Ou_use0 cfa ?_
    try simp [hl, g2, g7, g9, g10, g11, g17, g18, g106, g107, g108, hlt', hlt, hpe, Nat.add_assoc]
    refine Ou_use0 cfb ?_
    have fin : ∃ (u : List AV), True := ⟨[], trivial⟩
    by_cases hyz : y = z
    · have e1 : Oyez.hasS y = Oyez.hasS z := iyz.2 hyz
      rw [if_pos (.inl hyz)] at hjp
      have hLn : p ∉ L := fun hm => by have := hLp.1 hm; simp [hyz] at this
      rw [hjp] at cfj
      simp [hl, g2, g7, g9, g10, g11, g17, g18, g106, g107, g108, hlt', hlt, hpe, e1, Nat.add_assoc]
      refine cfj.use ?_
      simp [hl, g2, g7, g9, g10, g11, g17, g18, g106, g107, g108, hlt', hlt, hpe, e1, Nat.add_assoc]
      refine cct.use ?_
      simp [hl, g2, g7, g9, g10, g11, g17, g18, g106, g107, g108, hlt', hlt, hpe, e1, hLn, hx, Nat.add_assoc]
      exact ⟨⟨i + 1, by simp, by omega⟩, by omega⟩
    · have e1 : ¬ Oyez.hasS y = Oyez.hasS z := fun h => hyz (iyz.1 h)
      by_cases hyx : y = x
      · have e2 : Oyez.hasS y = Oyez.hasS x := iyx.2 hyx
        have hjp2 : Oyez.getIn J p = z := by
          rw [hjp]
          by_cases hzx : z = x
          · exact absurd (hyx.trans hzx.symm) hyz
          · rw [if_neg (by rintro (h | h); exact hyz h; exact hzx h), if_pos hyx]
        have hLn : p ∉ L := fun hm => by have := hLp.1 hm; simp [hyx] at this
        rw [hjp2] at cfj
        simp [hl, g2, g7, g9, g10, g11, g17, g18, g106, g107, g108, hlt', hlt, hpe, e1, e2, Nat.add_assoc]
        have e3 : ¬ Oyez.hasS x = Oyez.hasS z := fun h => e1 (e2.trans h)
        try simp [hl, g2, g7, g9, g10, g11, g17, g18, g106, g107, g108, hlt', hlt, hpe, e1, e2, e3, Nat.add_assoc]
        refine cfj.use ?_
        simp [hl, g2, g7, g9, g10, g11, g17, g18, g106, g107, g108, hlt', hlt, hpe, e1, e2, e3, Nat.add_assoc]
        refine cct.use ?_
        simp [hl, g2, g7, g9, g10, g11, g17, g18, g106, g107, g108, hlt', hlt, hpe, e1, e2, e3, hLn, hx, Nat.add_assoc]
        exact ⟨⟨i + 1, by simp, by omega⟩, by omega⟩
      · have e2 : ¬ Oyez.hasS y = Oyez.hasS x := fun h => hyx (iyx.1 h)
        by_cases hzx : z = x
        · have e3 : Oyez.hasS z = Oyez.hasS x := izx.2 hzx
          rw [if_pos (.inr hzx)] at hjp
          have hLn : p ∉ L := fun hm => by have := hLp.1 hm; simp [hzx] at this
          rw [hjp] at cfj
          simp [hl, g2, g7, g9, g10, g11, g17, g18, g106, g107, g108, hlt', hlt, hpe, e1, e2, e3, Nat.add_assoc]
          refine cfj.use ?_
          simp [hl, g2, g7, g9, g10, g11, g17, g18, g106, g107, g108, hlt', hlt, hpe, e1, e2, e3, Nat.add_assoc]
          refine cct.use ?_
          simp [hl, g2, g7, g9, g10, g11, g17, g18, g106, g107, g108, hlt', hlt, hpe, e1, e2, e3, hLn, hx, Nat.add_assoc]
          exact ⟨⟨i + 1, by simp, by omega⟩, by omega⟩
        · have e3 : ¬ Oyez.hasS z = Oyez.hasS x := fun h => hzx (izx.1 h)
          have hjp2 : Oyez.getIn J p = x := by
            rw [hjp, if_neg (by rintro (h | h); exact hyz h; exact hzx h), if_neg hyx]
            rfl
          have hLy : p ∈ L := hLp.2 (decide_eq_true ⟨hyz, hyx, hzx⟩)
          rw [hjp2] at cfj
          simp [hl, g2, g7, g9, g10, g11, g17, g18, g106, g107, g108, hlt', hlt, hpe, e1, e2, e3, Nat.add_assoc]
          refine cfj.use ?_
          simp [hl, g2, g7, g9, g10, g11, g17, g18, g106, g107, g108, hlt', hlt, hpe, e1, e2, e3, Nat.add_assoc]
          refine cct.use ?_
          simp [hl, g2, g7, g9, g10, g11, g17, g18, g106, g107, g108, hlt', hlt, hpe, e1, e2, e3, hLy, hx, Nat.add_assoc]
          exact ⟨⟨i + 1, by simp, by omega⟩, by omega⟩
  · have hge' : ¬ (i : Int) < (ps.length : Int) := by omega
    obtain ⟨T, hT⟩ : ∃ T, Oyez.print f = T := ⟨_, rfl⟩
    rw [hT] at g11 fpl
    by_cases h0 : T = []
    · simp [hl, g2, g7, g9, g10, g11, g17, g18, g106, g107, g108, hge', h0]
      refine awake_calls.use ?_
      simp [hl]
    · have hTl : T.getLast? = some 10 := by rw [← hT]; exact Oyez.print_last fun e => h0 (by rw [← hT, e]; rfl)
      have hse := Oyez.seal_of hTl (by omega)
      have hSo := Oyez.sealed_ok hTl (by omega)
      have hm1 := fun (i : Nat) (h : i + 1 < T.length) (c : UInt8) (hc : c ≠ T[i]) => Oyez.mend_sealed hTl (by omega) h hc
      have hm2 := fun (c : UInt8) (hc : c ≠ 10) => Oyez.mend_last hTl (by omega) hc
      have hop : openI (Oyez.sealed T) = (T, 0) := by unfold openI; rw [hSo.opened]; simp
      have hsd := Oyez.sealed_def T
      have hsl := hSo.len
      obtain ⟨W, hW⟩ : ∃ W, Oyez.sealLine (Oyez.sums T).1 (Oyez.sums T).2 ++ [10] = W := ⟨_, rfl⟩
      rw [List.append_assoc, hW] at hsd
      obtain ⟨S, hS⟩ : ∃ S, Oyez.sealed T = S := ⟨_, rfl⟩
      rw [hS] at hse hop hsd hsl hm1 hm2
      have hWl : W.length ≤ 2 ^ 50 := by rw [hsd, List.length_append] at hsl; omega
      have hpf := hasPrefix_calls T W (by omega) hWl
      rw [← hsd] at hpf
      simp [hl, g2, g7, g9, g10, g11, g17, g18, g106, g107, g108, hge', h0]
      refine (seal_calls T).use ?_
      rw [hse]
      simp [hl, g2, g7, g9, g10, g11, g17, g18]
      refine hpf.use ?_
      simp [hl, g2, g7, g9, g10, g11, g17, g18]
      refine (iopen_calls S).use ?_
      rw [hop]
      obtain ⟨N, hN⟩ : ∃ N, T.length = N := ⟨_, rfl⟩
      have hNp : 0 < N := by rw [← hN]; exact List.length_pos_iff.2 h0
      have hN0 : ¬ (N : Int) = 0 := by omega
      obtain ⟨I, hI⟩ : ∃ I, dm % N = I := ⟨_, rfl⟩
      have hIN : I < N := by rw [← hI]; exact Nat.mod_lt _ hNp
      have hIm : (dm : Int).tmod (N : Int) = (I : Int) := by rw [← hI]; rfl
      have hw1 : IntKind.i64.wrap (dm : Int) = dm := w64 (by omega) (by omega)
      have hNz : ¬ N = 0 := by omega
      have hIT : I < T.length := by omega
      have hIS : I < S.length := by rw [hsd, List.length_append]; omega
      have hIS' : (I : Int) < (S.length : Int) := by omega
      have hSI : S[I] = T[I] := by
        have : S[I]? = T[I]? := by rw [hsd, List.getElem?_append_left hIT]
        rw [List.getElem?_eq_getElem hIS, List.getElem?_eq_getElem hIT] at this
        exact Option.some.inj this
      obtain ⟨k, hk⟩ : ∃ k, 1 + dm / 256 % 255 = k := ⟨_, rfl⟩
      have hk1 : 1 ≤ k ∧ k ≤ 255 := by omega
      have hsh : IntKind.u8.wrap (IntKind.u16.wrap (1 + ((dm : Int).fdiv (2 ^ min 8 IntKind.u16.bits)).tmod 255)) = (k : Int) := by
        have e1 : (dm : Int).fdiv (2 ^ min 8 IntKind.u16.bits) = ((dm / 256 : Nat) : Int) := by
          show (dm : Int).fdiv 256 = _
          rw [Int.fdiv_eq_ediv_of_nonneg _ (by omega)]
          omega
        have e2 : (((dm / 256 : Nat) : Int)).tmod 255 = ((dm / 256 % 255 : Nat) : Int) := rfl
        rw [e1, e2]
        have e3 : (1 : Int) + ((dm / 256 % 255 : Nat) : Int) = (k : Int) := by omega
        rw [e3]
        simp only [IntKind.wrap, IntKind.bits, IntKind.signed]
        simp
        omega
      obtain ⟨c, hc⟩ : ∃ c, dmg T[I] dm = c := ⟨_, rfl⟩
      have hadd : IntKind.u8.wrap ((T[I].toNat : Int) + (k : Int)) = (c.toNat : Int) := by
        rw [← hc]
        unfold dmg
        rw [hk]
        have hb := T[I].toNat_lt
        simp only [IntKind.wrap, IntKind.bits, IntKind.signed]
        simp
      have hcT : c ≠ T[I] := by rw [← hc]; exact dmg_ne _ _
      have hset : (S.map fun c => AV.int .u8 (c.toNat : Int)).take I ++ (AV.int .u8 (c.toNat : Int) :: (S.map fun c => AV.int .u8 (c.toNat : Int)).drop (I + 1)) = (S.set I c).map fun c => AV.int .u8 (c.toNat : Int) := by
        rw [List.set_eq_take_append_cons_drop, if_pos hIS]
        simp
      have hIS1 : I + 1 ≤ S.length := by omega
      have hab : ∀ l : List UInt8, abytes (l.map fun c => AV.int .u8 (c.toNat : Int)) = some l := fun l => abytes_bytes l
      have hx3 := w64 (n := (N : Int) - 1) (by omega) (by omega)
      have hms : (S.map fun c => AV.int .u8 (c.toNat : Int)).set I (AV.int .u8 (c.toNat : Int)) = (S.set I c).map fun c => AV.int .u8 (c.toNat : Int) := by rw [List.map_set]
      have htk : ((S.set I c).map fun c => AV.int .u8 (c.toNat : Int)).take S.length = (S.set I c).map fun c => AV.int .u8 (c.toNat : Int) := List.take_of_length_le (by simp)
      simp [hl, g2, g7, g9, g10, g11, g17, g18, hN, hN0, hNz, hIm, hw1, hIS, hIS', hSI, hsh, hadd, hset, hIS1, hab, hms, htk, -List.map_set, -List.map_take]
      have hmI := mendI_eq (S.set I c)
      refine (imend_calls (S.set I c)).use ?_
      rw [hmI.1, hmI.2.1, hmI.2.2]
      by_cases hlast : I + 1 = N
      · have hT10 : T[I] = 10 := by
          rw [List.getLast?_eq_getElem?] at hTl
          have hi2 : T.length - 1 = I := by omega
          rw [hi2, List.getElem?_eq_getElem hIT] at hTl
          exact Option.some.inj hTl
        have hm := hm2 c (by rw [← hT10]; exact hcT)
        rw [show T.length - 1 = I by omega] at hm
        rw [hm]
        have hIe : (I : Int) = (N : Int) - 1 := by omega
        simp [hl, g2, g7, g9, g10, g11, g17, g18, hN, hx3, hIe]
        refine awake_calls.use ?_
        simp [hl]
      · have hm := hm1 I (by omega) c hcT
        rw [hm]
        have hIe : ¬ (I : Int) = (N : Int) - 1 := by omega
        simp [hl, g2, g7, g9, g10, g11, g17, g18, hN, hx3, hIe]
        refine awake_calls.use ?_
        simp [hl]
end Ab
