/-
  WHAT THE LAWS OF DRAWN FILES SHARE: files that are right, the places that copies of a file can have.
-/
import Derived.Test.YtdifgaapdnbliaaGreatDoorH22
import Derived.Test.YtdifgaapdnbliaaGreatDoorH34
import Derived.Test.YtdifgaapdnbliaaGreatDoorH35
set_option linter.unusedSimpArgs false
set_option linter.unusedVariables false
set_option linter.unusedSectionVars false
namespace Ab
open Go Go.RowKit Go.Proofs
theorem right_fewF {f : List Oyez.Rec} (h : Oyez.check f = 0) : Few f ∧ f.length ≤ 40 ∧ (Oyez.print f).length ≤ 2600 ∧ ∀ r ∈ f, r.words.length ≤ 2 ^ 40 := by
  have hr := Oyez.check_zero h
  have hl := hr.len
  have hp := print_len hr.recs
  have key : ∀ r ∈ f, tot1 r.words ≤ 64 ∧ r.words.length ≤ 6 := fun r hm => by
    obtain ⟨_, h2⟩ := (Oyez.recErr_iff r).1 (hr.recs r hm)
    obtain ⟨h3, h4, h5⟩ := Oyez.wordsErr_zero h2
    refine ⟨?_, h3⟩
    unfold Oyez.line at h5
    rw [List.length_append, flat_len32] at h5
    omega
  exact ⟨fun r hm => ⟨by have := (key r hm).1; omega, by have := (key r hm).2; omega⟩, hl, by omega, fun r hm => by have := (key r hm).2; omega⟩
theorem GoodF.right {f : List Oyez.Rec} (h : GoodF f) (hl : f.length ≤ 40) : Oyez.Right f := ⟨hl, h.recs, h.sorted⟩
theorem abytes_bytes (l : List UInt8) : abytes (bytesL l) = some l := by
  unfold bytesL
  induction l with
  | nil => rfl
  | cons b t ih => simp [abytes, ih]
/-- the byte that a damage makes -/
def dmg (b : UInt8) (dm : Nat) : UInt8 := UInt8.ofNat (b.toNat + (1 + dm / 256 % 255))
theorem dmg_ne (b : UInt8) (dm : Nat) : dmg b dm ≠ b := by
  intro e
  have := congrArg UInt8.toNat e
  unfold dmg at this
  simp at this
  have hb := b.toNat_lt
  omega
/-- a copy of a file, and where its records may be -/
structure CopyOf (f a : List Oyez.Rec) (e : List Oyez.Place) : Prop where
  good : GoodF a
  len : a.length ≤ f.length + 3
  few : e.length ≤ 3
  at_ : ∀ r ∈ a, r.place ∈ f.map Oyez.Rec.place ∨ r.place ∈ e
theorem CopyOf.mem {f a : List Oyez.Rec} {e : List Oyez.Place} (h : CopyOf f a e) : ∀ p ∈ a.map Oyez.Rec.place, p ∈ f.map Oyez.Rec.place ++ e := fun p hp => by
  obtain ⟨r, hr, rfl⟩ := List.mem_map.1 hp
  exact List.mem_append.2 (h.at_ r hr)
theorem join_small {f a b : List Oyez.Rec} {ea eb : List Oyez.Place} (ha : CopyOf f a ea) (hb : CopyOf f b eb) (hf : f.length ≤ 20) (s : List Bool) : (Oyez.join f a b s).out.length ≤ 26 ∧ (Oyez.confsOf f a b).length ≤ 26 := by
  have h := Oyez.join_out_len (base := f) (a := a) (b := b) (s := s) (m := f.map Oyez.Rec.place ++ ea ++ eb) fun p hp => by
    rcases hp with hp | hp | hp
    · simp only [List.mem_append]; exact .inl (.inl hp)
    · have := List.mem_append.1 (ha.mem p hp)
      simp only [List.mem_append]
      rcases this with h | h
      · exact .inl (.inl h)
      · exact .inl (.inr h)
    · have := List.mem_append.1 (hb.mem p hp)
      simp only [List.mem_append]
      rcases this with h | h
      · exact .inl (.inl h)
      · exact .inr h
  have h1 := ha.few
  have h2 := hb.few
  simp only [List.length_append, List.length_map] at h
  omega
end Ab
