import Derived.Test.YtdifgaapdnbliaaGreatDoorR3
set_option linter.unusedSimpArgs false
set_option linter.unusedVariables false
namespace Ab
open Go Go.Proofs
attribute [local irreducible] aws awp aw1 Og Om Oc Oa Ogd Ov Ot awd aw1d QThen QBlock QFn QFnM ACode ACalls AYield
/-- what reading a line gives: the record; the word and the error -/
def readAV (x : Except (Nat × Int) Oyez.Rec) : AV := match x with
  | .ok r => .tup [recAV r, .int .i64 0, .int .i64 0]
  | .error (w, e) => .tup [recAV ⟨0, 0, []⟩, .int .i64 w, .int .i64 e]
theorem words_mem_len {s w : List UInt8} (h : w ∈ Oyez.words s) : w.length ≤ s.length := by
  induction s generalizing w with
  | nil => simp [Oyez.words, Oyez.splitAt] at h; subst h; simp
  | cons b t ih =>
    by_cases hb : b = 32
    · subst hb
      rw [words_blank] at h
      rcases List.mem_cons.1 h with rfl | h
      · simp
      · have := ih h; simp; omega
    · rw [words_other b t hb] at h
      cases hx : Oyez.words t with
      | nil => rw [hx] at h; simp [joinW] at h; subst h; simp
      | cons x r =>
        rw [hx] at h ih
        simp only [joinW, List.mem_cons] at h
        rcases h with rfl | h
        · have := ih (List.mem_cons_self); simp; omega
        · have := ih (List.mem_cons_of_mem _ h); simp; omega
theorem firstBad_none : ∀ (l : List (List UInt8)) (i : Nat), (∀ w ∈ l, Oyez.word w = true) → Oyez.firstBad l i = none := by
  intro l
  induction l with
  | nil => intro i _; rfl
  | cons w t ih => intro i h; rw [Oyez.firstBad, h w (by simp), if_pos rfl]; exact ih _ fun x hx => h x (by simp [hx])
theorem Fz_strs (n : Nat) (σ : Heap) (ws : List (List UInt8)) : Fz n σ (.pl 1 (List.map AV.str ws)) (.pl 1 (List.map AV.str ws)) ↔ True := by
  refine ⟨fun _ => trivial, fun _ => .pl 1 _ fun i x hx j y hy => ?_⟩
  rw [List.getElem?_map, Option.map_eq_some_iff] at hx
  obtain ⟨w, _, rfl⟩ := hx
  cases j with
  | zero => simp [AV.cells] at hy; subst hy; exact .str w
  | succ j => simp [AV.cells] at hy
attribute [simp] Fz_strs
set_option maxHeartbeats 1000000 in
set_option maxRecDepth 8000 in
theorem refRead_calls (own : List UInt8) (fed : Bool) (line : Nat) (ho : own.length ≤ 2 ^ 20) : APure Tryz.prog 85 [.str own, .bool fed, .int .i64 line] (readAV (Oyez.readLine own fed line)) := by
  refine APure.of fun σ => ?_
  refine acalls_fn Tryz.func85 rfl (enters_fn Tryz.func85 (by decide) rfl) ?_
  generalize hX : Oyez.readLine own fed line = X
  by_cases h40 : 40 ≤ line
  · have h40' : (40 : Int) ≤ (line : Int) := by omega
    have hE : X = .error (0, 2) := by rw [← hX]; unfold Oyez.readLine; rw [if_pos h40]
    subst hE
    simp [Tryz.ntmps85, h40', readAV]
  have h40' : ¬ (40 : Int) ≤ (line : Int) := by omega
  by_cases h64 : 64 < own.length
  · have h64' : (64 : Int) < (own.length : Int) := by omega
    have hE : X = .error (0, 10) := by rw [← hX]; unfold Oyez.readLine; rw [if_neg h40, if_pos h64]
    subst hE
    simp [Tryz.ntmps85, h40', h64', readAV]
  have h64' : ¬ (64 : Int) < (own.length : Int) := by omega
  cases fed with
  | false =>
    have hE : X = .error (0, 11) := by rw [← hX]; unfold Oyez.readLine; rw [if_neg h40, if_neg h64]; rfl
    subst hE
    simp [Tryz.ntmps85, h40', h64', readAV]
  | true =>
  simp [Tryz.ntmps85, h40', h64']
  refine (split_calls own ho).use ?_
  have hne := split_ne own
  have hml : ∀ w ∈ Oyez.words own, w.length ≤ own.length := fun w hw => words_mem_len hw
  have hwl := words_len own
  cases hW : Oyez.words own with
  | nil => exact absurd hW hne
  | cons k t =>
  rw [hW] at hml hwl
  simp
  refine (kinds_calls k).use ?_
  cases hk : Oyez.kindOf k with
  | none =>
    have hki : kindInt k = -1 := by simp [kindInt, hk]
    have hE : X = .error (0, 12) := by rw [← hX]; simp [Oyez.readLine, h40, h64, hW, hk]
    subst hE
    simp [hki, readAV]
  | some kind =>
  have hki : kindInt k = kind := by simp [kindInt, hk]
  have hk0 : ¬ kind < 0 := by
    unfold Oyez.kindOf at hk
    split at hk
    · cases hk; decide
    · split at hk
      · cases hk; decide
      · split at hk
        · cases hk; decide
        · split at hk
          · cases hk; decide
          · split at hk
            · cases hk; decide
            · cases hk
  cases t with
  | nil =>
    have hE : X = .error (1, 11) := by rw [← hX]; simp [Oyez.readLine, h40, h64, hW, hk]
    subst hE
    simp [hki, hk0, readAV]
  | cons n ws =>
  have hlen2 : ¬ ((ws.length : Int) + 1 + 1 < 2) := by omega
  have hlen1 : (1 : Int) < (ws.length : Int) + 1 + 1 := by omega
  have hval : APure Tryz.prog 94 [.str n, .int .i64 999] (.int .i64 (match Oyez.value n 999 with | some n => n | none => -1)) := value_calls n 999
  simp [hki, hk0, hlen2, hlen1]
  refine hval.use ?_
  cases hv : Oyez.value n 999 with
  | none =>
    have hE : X = .error (1, 11) := by rw [← hX]; simp [Oyez.readLine, h40, h64, hW, hk, hv]
    subst hE
    simp [readAV]
  | some num =>
  rw [hv] at hval
  have hn0 : ¬ ((num : Int) < 0) := by omega
  simp [hn0, hlen1]
  refine hval.use ?_
  by_cases h6 : 6 < ws.length
  · have h6' : (8 : Int) < (ws.length : Int) + 1 + 1 := by omega
    have hE : X = .error (8, 2) := by rw [← hX]; simp [Oyez.readLine, h40, h64, hW, hk, hv, h6]
    subst hE
    simp [h6', readAV]
  have h6' : ¬ (8 : Int) < (ws.length : Int) + 1 + 1 := by omega
  simp [h6']
  have hE : X = match Oyez.firstBad ws 2 with | some i => .error (i, 11) | none => .ok ⟨kind, num, ws⟩ := by
    rw [← hX]; simp [Oyez.readLine, h40, h64, hW, hk, hv, h6]; rfl
  refine ACode_loopT (fun env σ' => ∃ (u : List AV) (m : Nat), env = { t := u } ∧ u.length = 71 ∧ tg u 6 = .ptr σ.length 0 ∧ tg u 10 = .ptr (σ.length + 1) 0 ∧ tg u 9 = .pl 1 (AV.str k :: AV.str n :: List.map AV.str ws) ∧ tg u 11 = .int .i64 ((m : Int) + 2) ∧
      σ' = σ ++ [.cells [.int .i64 0, .int .i64 0, .nils], .cells [.int .i64 kind, .int .i64 num, .nils]] ∧ m ≤ ws.length ∧ Oyez.firstBad (ws.drop m) (m + 2) = Oyez.firstBad ws 2)
    (fun env _ => match tg env.t 11 with | .int _ i => ws.length + 2 - i.toNat | _ => 0) ⟨_, 0, rfl, by simp, by simp, by simp, by simp, by simp, rfl, by omega, rfl⟩ ?_
  rintro env σ' ⟨u, m, rfl, hl, g6, g10, g9, g11, rfl, hm, hd⟩
  rcases Nat.lt_or_ge m ws.length with hlt | hge
  · have hlt' : (m : Int) + 2 < (ws.length : Int) + 1 + 1 := by omega
    have hm0 : (0 : Int) ≤ (m : Int) + 2 := by omega
    have hm2 : ((m : Int) + 2).toNat = m + 2 := by omega
    have hdr : ws.drop m = ws[m] :: ws.drop (m + 1) := List.drop_eq_getElem_cons hlt
    have hwl2 := hml ws[m] (by simp)
    rw [hdr, Oyez.firstBad] at hd
    simp [hl, g6, g10, g9, g11, hlt', hm0, hm2, hlt]
    refine (word_calls ws[m] (by omega)).use ?_
    cases hw : Oyez.word ws[m] with
    | true =>
      rw [hw, if_pos rfl] at hd
      have hx := w64 (n := (m : Int) + 2 + 1) (by omega) (by omega)
      simp [hl, g6, g10, g9, g11, hx]
      exact ⟨⟨m + 1, by omega, hlt, hd⟩, by omega⟩
    | false =>
      rw [hw, if_neg (by simp)] at hd
      rw [← hd] at hE
      subst hE
      simp [hl, g6, g10, g9, g11, readAV]
  · have hge' : ¬ (m : Int) + 2 < (ws.length : Int) + 1 + 1 := by omega
    rw [List.drop_eq_nil_of_le hge, Oyez.firstBad] at hd
    rw [← hd] at hE
    subst hE
    have h2 : (2 : Int) ≤ (ws.length : Int) + 1 + 1 := by omega
    simp [hl, g6, g10, g9, g11, hge', h2, readAV]
end Ab
