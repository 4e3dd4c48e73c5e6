/- How many are enough, and up to where so many have come: plain laws on lists of numbers and of truths. No program is in sight here. -/
import Derived.RowKit
namespace Go.Proofs.Ytcmjdkfndlejcaa.Quo
open Go.RowKit
set_option linter.unusedVariables false
set_option linter.unusedSimpArgs false

def enough (n : Nat) : Nat := if n < 1 then 0 else n / 2 + 1
theorem enough_pos {n : Nat} (h : 0 < n) : 1 ≤ enough n ∧ enough n ≤ n ∧ n < 2 * enough n ∧ 2 * (enough n - 1) ≤ n := by
  unfold enough
  rw [if_neg (by omega)]
  omega

/-- The n-th value from above. -/
def nthS (l : List Int) (n : Nat) : Int := (l.mergeSort fun x y => decide (x ≤ y)).getD (l.length - n) 0
theorem sorted (l : List Int) : (l.mergeSort fun x y => decide (x ≤ y)).Pairwise (fun x y => x ≤ y) := by
  have h := List.pairwise_mergeSort (le := fun x y : Int => decide (x ≤ y)) (fun a b c h1 h2 => by simp at *; omega) (fun a b => by simp; omega) l
  exact h.imp (fun h => by simpa using h)
theorem countP_sorted_ge : ∀ (s : List Int) (i : Nat) (v : Int), s.Pairwise (fun x y => x ≤ y) → s[i]? = some v → s.length - i ≤ s.countP (fun x => decide (v ≤ x))
  | [], i, v, _, h => by simp at h
  | x :: s, 0, v, hp, h => by
    simp only [List.getElem?_cons_zero, Option.some.injEq] at h
    subst h
    have : ∀ y ∈ x :: s, decide (x ≤ y) = true := by
      intro y hy
      rcases List.mem_cons.1 hy with rfl | hy
      · simp
      · simpa using (List.pairwise_cons.1 hp).1 y hy
    rw [List.countP_eq_length.2 this]
    omega
  | x :: s, i + 1, v, hp, h => by
    have := countP_sorted_ge s i v (List.pairwise_cons.1 hp).2 (by simpa using h)
    rw [List.countP_cons]
    simp only [List.length_cons]
    omega
theorem countP_sorted_gt : ∀ (s : List Int) (i : Nat) (v : Int), s.Pairwise (fun x y => x ≤ y) → s[i]? = some v → s.countP (fun x => decide (v < x)) + i + 1 ≤ s.length
  | [], i, v, _, h => by simp at h
  | x :: s, 0, v, hp, h => by
    simp only [List.getElem?_cons_zero, Option.some.injEq] at h
    subst h
    rw [List.countP_cons]
    have := List.countP_le_length (p := fun y => decide (x < y)) (l := s)
    simp only [List.length_cons]
    simp
    omega
  | x :: s, i + 1, v, hp, h => by
    have h1 : s[i]? = some v := by simpa using h
    have := countP_sorted_gt s i v (List.pairwise_cons.1 hp).2 h1
    have hx : x ≤ v := (List.pairwise_cons.1 hp).1 v (List.mem_of_getElem? h1)
    rw [List.countP_cons]
    simp only [List.length_cons]
    rw [if_neg (by simp; omega)]
    omega
theorem nthS_at (l : List Int) (n : Nat) (h1 : 1 ≤ n) (h2 : n ≤ l.length) : (l.mergeSort fun x y => decide (x ≤ y))[l.length - n]? = some (nthS l n) := by
  unfold nthS
  rw [List.getD_eq_getElem?_getD, List.getElem?_eq_getElem (by rw [List.length_mergeSort]; omega), Option.getD_some]
theorem nthS_mem (l : List Int) (n : Nat) (h1 : 1 ≤ n) (h2 : n ≤ l.length) : nthS l n ∈ l :=
  (List.mergeSort_perm l _).mem_iff.1 (List.mem_of_getElem? (nthS_at l n h1 h2))
theorem nthS_ge (l : List Int) (n : Nat) (h1 : 1 ≤ n) (h2 : n ≤ l.length) : n ≤ l.countP (fun x => decide (nthS l n ≤ x)) := by
  have := countP_sorted_ge _ _ _ (sorted l) (nthS_at l n h1 h2)
  rw [(List.mergeSort_perm l _).countP_eq, List.length_mergeSort] at this
  omega
theorem nthS_gt (l : List Int) (n : Nat) (h1 : 1 ≤ n) (h2 : n ≤ l.length) : l.countP (fun x => decide (nthS l n < x)) < n := by
  have := countP_sorted_gt _ _ _ (sorted l) (nthS_at l n h1 h2)
  rw [(List.mergeSort_perm l _).countP_eq, List.length_mergeSort] at this
  omega
/-- What so many have reached is no more than the n-th. -/
theorem nthS_top (l : List Int) (n : Nat) (h1 : 1 ≤ n) (h2 : n ≤ l.length) (v : Int) (hv : n ≤ l.countP (fun x => decide (v ≤ x))) : v ≤ nthS l n := by
  apply Decidable.byContradiction
  intro h
  have h3 := nthS_gt l n h1 h2
  have h4 : l.countP (fun x => decide (v ≤ x)) ≤ l.countP (fun x => decide (nthS l n < x)) := List.countP_mono_left (fun x _ hx => by simp at *; omega)
  omega
theorem nthS_uniq (l : List Int) (n : Nat) (h1 : 1 ≤ n) (h2 : n ≤ l.length) (v : Int) (hv : n ≤ l.countP (fun x => decide (v ≤ x))) (hv2 : l.countP (fun x => decide (v < x)) < n) : nthS l n = v := by
  have a := nthS_top l n h1 h2 v hv
  apply Decidable.byContradiction
  intro h
  have h3 := nthS_ge l n h1 h2
  have h4 : l.countP (fun x => decide (nthS l n ≤ x)) ≤ l.countP (fun x => decide (v < x)) := List.countP_mono_left (fun x _ hx => by simp at *; omega)
  omega
/-- One who comes further takes nothing back. -/
theorem nthS_grows (l : List Int) (n k : Nat) (y : Int) (h1 : 1 ≤ n) (h2 : n ≤ l.length) (hk : k < l.length) (hy : l[k] ≤ y) : nthS l n ≤ nthS (l.set k y) n := by
  apply nthS_top _ _ h1 (by simpa using h2)
  have h3 := nthS_ge l n h1 h2
  refine Nat.le_trans h3 ?_
  have e : l.countP (fun x => decide (nthS l n ≤ x)) = (l.set k l[k]).countP (fun x => decide (nthS l n ≤ x)) := by rw [List.set_getElem_self]
  rw [e, List.countP_set hk, List.countP_set hk]
  by_cases h : nthS l n ≤ l[k]
  · rw [if_pos (show decide (nthS l n ≤ l[k]) = true by simpa using h), if_pos (show decide (nthS l n ≤ y) = true by simp; omega)]
    exact Nat.le_refl _
  · rw [if_neg (show ¬ decide (nthS l n ≤ l[k]) = true by simpa using h)]
    omega

def yes (l : List Bool) : Nat := l.countP (fun b => b)
def won (l : List Bool) : Bool := decide (0 < l.length) && decide (enough l.length ≤ yes l)
theorem yes_le (l : List Bool) : yes l ≤ l.length := List.countP_le_length
def both : List Bool → List Bool → Bool
  | a :: r, b :: s => (a && b) || both r s
  | _, _ => false
/-- Two that are more than all together have one in common. -/
theorem both_of : ∀ (a b : List Bool), a.length = b.length → a.length < yes a + yes b → both a b = true
  | [], [], _, h => by simp [yes] at h
  | [], _ :: _, h, _ => by simp at h
  | _ :: _, [], h, _ => by simp at h
  | x :: a, y :: b, h, hs => by
    unfold both
    cases x <;> cases y
    · rw [both_of a b (by simpa using h) (by simp [yes] at *; omega)]; rfl
    · rw [both_of a b (by simpa using h) (by simp [yes] at *; omega)]; rfl
    · rw [both_of a b (by simpa using h) (by simp [yes] at *; omega)]; rfl
    · rfl
theorem won_yes {l : List Bool} (h : won l = true) : 0 < l.length ∧ enough l.length ≤ yes l := by
  unfold won at h
  simpa using h
theorem meets {a b : List Bool} (hl : a.length = b.length) (ha : won a = true) (hb : won b = true) : both a b = true := by
  obtain ⟨h1, h2⟩ := won_yes ha
  obtain ⟨h3, h4⟩ := won_yes hb
  have h5 := enough_pos h1
  rw [← hl] at h4
  exact both_of a b hl (by omega)
theorem won_set (l : List Bool) (k : Nat) (hk : k < l.length) (h : won l = true) : won (l.set k true) = true := by
  obtain ⟨h1, h2⟩ := won_yes h
  unfold won
  simp only [List.length_set, Bool.and_eq_true, decide_eq_true_eq]
  refine ⟨h1, Nat.le_trans h2 ?_⟩
  unfold yes
  have e : l.countP (fun b => b) = (l.set k l[k]).countP (fun b => b) := by rw [List.set_getElem_self]
  rw [e, List.countP_set hk, List.countP_set hk]
  cases l[k] <;> simp
end Go.Proofs.Ytcmjdkfndlejcaa.Quo
