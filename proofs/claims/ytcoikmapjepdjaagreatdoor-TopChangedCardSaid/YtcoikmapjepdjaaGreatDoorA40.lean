/-

-/

set_option linter.unusedSimpArgs false
set_option linter.unusedVariables false
set_option linter.unusedSectionVars false
namespace Oyez
variable {α : Type} [DecidableEq α]
/-- the longest list of common elements, behind one element: f is that of what is behind it -/
def lcsRow (a : α) (f : List α → Nat) : List α → Nat
  | [] => 0
  | b :: y => if a = b then max (max (f (b :: y)) (lcsRow a f y)) (f y + 1) else max (f (b :: y)) (lcsRow a f y)
/-- how many common elements two lists have at most, in their order -/
def lcs : List α → List α → Nat
  | [], _ => 0
  | a :: x, y => lcsRow a (lcs x) y
theorem lcs_nil (y : List α) : lcs [] y = 0 := rfl
theorem lcs_nil' (x : List α) : lcs x [] = 0 := by cases x <;> rfl
theorem lcs_cons (a b : α) (x y : List α) : lcs (a :: x) (b :: y) = if a = b then max (max (lcs x (b :: y)) (lcs (a :: x) y)) (lcs x y + 1) else max (lcs x (b :: y)) (lcs (a :: x) y) := rfl
/-- so many elements are left out or put in between two lists -/
inductive Far : Nat → List α → List α → Prop
  | nil : Far 0 [] []
  | keep {n x y} (a : α) : Far n x y → Far n (a :: x) (a :: y)
  | del {n x y} (a : α) : Far n x y → Far (n + 1) (a :: x) y
  | ins {n x y} (b : α) : Far n x y → Far (n + 1) x (b :: y)
theorem Far.symm {n : Nat} {x y : List α} (h : Far n x y) : Far n y x := by
  induction h with
  | nil => exact .nil
  | keep a _ ih => exact .keep a ih
  | del a _ ih => exact .ins a ih
  | ins b _ ih => exact .del b ih
theorem Far.eq {x y : List α} (h : Far 0 x y) : x = y := by
  generalize hn : 0 = n at h
  induction h with
  | nil => rfl
  | keep a _ ih => rw [ih hn]
  | del a _ ih => omega
  | ins b _ ih => omega
theorem Far.trans {n : Nat} {x y : List α} (h : Far n x y) : ∀ {m : Nat} {z : List α}, Far m y z → ∃ k, k ≤ n + m ∧ Far k x z := by
  induction h with
  | nil => exact fun h => ⟨_, by omega, h⟩
  | @keep n x y a h ih =>
    intro m z h'
    generalize hy : a :: y = y' at h'
    induction h' with
    | nil => cases hy
    | keep b h' _ => cases hy; obtain ⟨k, hk, hf⟩ := ih h'; exact ⟨k, hk, .keep _ hf⟩
    | del b h' _ => cases hy; obtain ⟨k, hk, hf⟩ := ih h'; exact ⟨k + 1, by omega, .del _ hf⟩
    | ins b h' ih' => obtain ⟨k, hk, hf⟩ := ih' hy; exact ⟨k + 1, by omega, .ins _ hf⟩
  | @del n x y a h ih =>
    intro m z h'
    obtain ⟨k, hk, hf⟩ := ih h'
    exact ⟨k + 1, by omega, .del _ hf⟩
  | @ins n x y b h ih =>
    intro m z h'
    generalize hy : b :: y = y' at h'
    induction h' with
    | nil => cases hy
    | keep c h' _ => cases hy; obtain ⟨k, hk, hf⟩ := ih h'; exact ⟨k + 1, by omega, .ins _ hf⟩
    | del c h' _ => cases hy; obtain ⟨k, hk, hf⟩ := ih h'; exact ⟨k, by omega, hf⟩
    | ins c h' ih' => obtain ⟨k, hk, hf⟩ := ih' hy; exact ⟨k + 1, by omega, .ins _ hf⟩
theorem lcs_le : ∀ x y : List α, 2 * lcs x y ≤ x.length + y.length
  | [], y => by simp [lcs_nil]
  | a :: x, [] => by simp [lcs_nil']
  | a :: x, b :: y => by
    have h1 := lcs_le x (b :: y)
    have h2 := lcs_le (a :: x) y
    have h3 := lcs_le x y
    rw [lcs_cons]
    simp only [List.length_cons] at *
    split <;> omega
/-- how far two lists are from each other -/
def dist (x y : List α) : Nat := x.length + y.length - 2 * lcs x y
theorem dist_cons (a b : α) (x y : List α) : dist (a :: x) (b :: y) ≤ dist x (b :: y) + 1 ∧ dist (a :: x) (b :: y) ≤ dist (a :: x) y + 1 := by
  have h := lcs_cons a b x y
  have l1 := lcs_le x (b :: y)
  have l2 := lcs_le (a :: x) y
  unfold dist
  simp only [List.length_cons] at *
  split at h <;> (refine ⟨?_, ?_⟩ <;> omega)
theorem dist_le_of_far {n : Nat} {x y : List α} (h : Far n x y) : dist x y ≤ n := by
  induction h with
  | nil => simp [dist]
  | @keep n x y a _ ih =>
    have h := lcs_cons a a x y
    rw [if_pos rfl] at h
    unfold dist at *
    simp only [List.length_cons]
    omega
  | @del n x y a _ ih =>
    cases y with
    | nil => simp [dist, lcs_nil'] at *; omega
    | cons b y => have := (dist_cons a b x y).1; omega
  | @ins n x y b _ ih =>
    cases x with
    | nil => simp [dist, lcs_nil] at *; omega
    | cons a x => have := (dist_cons a b x y).2; omega
theorem far_dist : ∀ x y : List α, Far (dist x y) x y
  | [], [] => by simpa [dist] using Far.nil
  | [], b :: y => by
    have := far_dist [] y
    simpa [dist, lcs_nil] using Far.ins b this
  | a :: x, [] => by
    have := far_dist x []
    simpa [dist, lcs_nil'] using Far.del a this
  | a :: x, b :: y => by
    have h1 := far_dist x (b :: y)
    have h2 := far_dist (a :: x) y
    have h3 := far_dist x y
    have l1 := lcs_le x (b :: y)
    have l2 := lcs_le (a :: x) y
    have l3 := lcs_le x y
    have h := lcs_cons a b x y
    have key : (a = b ∧ dist (a :: x) (b :: y) = dist x y) ∨ dist (a :: x) (b :: y) = dist x (b :: y) + 1 ∨ dist (a :: x) (b :: y) = dist (a :: x) y + 1 := by
      unfold dist
      simp only [List.length_cons] at *
      simp only [Nat.max_def] at h
      repeat' split at h
      all_goals first | (subst_vars; simp only [true_and]; omega) | omega
    rcases key with ⟨rfl, k⟩ | k | k <;> rw [k]
    · exact .keep a h3
    · exact .del a h1
    · exact .ins b h2
theorem dist_symm (x y : List α) : dist x y = dist y x :=
  Nat.le_antisymm (dist_le_of_far (far_dist y x).symm) (dist_le_of_far (far_dist x y).symm)
theorem dist_tri (x y z : List α) : dist x z ≤ dist x y + dist y z := by
  obtain ⟨k, hk, hf⟩ := (far_dist x y).trans (far_dist y z)
  exact Nat.le_trans (dist_le_of_far hf) hk
theorem dist_self (x : List α) : dist x x = 0 := by
  have : Far 0 x x := by induction x with
    | nil => exact .nil
    | cons a x ih => exact .keep a ih
  exact Nat.le_zero.1 (dist_le_of_far this)
theorem dist_zero {x y : List α} (h : dist x y = 0) : x = y := by
  have := far_dist x y
  rw [h] at this
  exact this.eq
theorem lcs_same (a : α) (x y : List α) : lcs (a :: x) (a :: y) = lcs x y + 1 := by
  have h2 := lcs_cons a a x y
  rw [if_pos rfl] at h2
  have l1 := lcs_le x y
  have l2 := lcs_le x (a :: y)
  have l3 := lcs_le (a :: x) y
  have r : ∀ z : List α, dist (a :: z) z ≤ 1 := fun z => by
    have := dist_le_of_far (Far.del a (far_dist z z))
    rwa [dist_self] at this
  have h3 := dist_tri x (a :: y) y
  have h4 := dist_tri y (a :: x) x
  rw [dist_symm y (a :: x), dist_symm y x] at h4
  have r1 := r x
  have r2 := r y
  unfold dist at *
  simp only [List.length_cons] at *
  omega
theorem lcs_map {β : Type} [DecidableEq β] (f : α → β) : ∀ x y : List α, (∀ a ∈ x, ∀ b ∈ y, f a = f b → a = b) → lcs (x.map f) (y.map f) = lcs x y
  | [], y, _ => rfl
  | a :: x, [], _ => rfl
  | a :: x, b :: y, h => by
    have h1 := lcs_map f x (b :: y) fun c hc d hd => h c (List.mem_cons_of_mem _ hc) d hd
    have h2 := lcs_map f (a :: x) y fun c hc d hd => h c hc d (List.mem_cons_of_mem _ hd)
    have h3 := lcs_map f x y fun c hc d hd => h c (List.mem_cons_of_mem _ hc) d (List.mem_cons_of_mem _ hd)
    simp only [List.map_cons] at *
    rw [lcs_cons, lcs_cons, h1, h2, h3]
    have : f a = f b ↔ a = b := ⟨h a (by simp) b (by simp), fun e => by rw [e]⟩
    simp only [this]
theorem dist_map {β : Type} [DecidableEq β] (f : α → β) (x y : List α) (h : ∀ a ∈ x, ∀ b ∈ y, f a = f b → a = b) : dist (x.map f) (y.map f) = dist x y := by
  unfold dist; rw [lcs_map f x y h, List.length_map, List.length_map]
end Oyez
