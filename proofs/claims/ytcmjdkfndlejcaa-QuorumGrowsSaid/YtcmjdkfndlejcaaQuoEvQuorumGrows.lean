/- The printed functions of package quorum come to the plain Lean functions of QuoA. -/
import Derived.Test.YtcmjdkfndlejcaaEvKit
import Derived.Test.YtcmjdkfndlejcaaQuoA
import Derived.Test.YtcmjdkfndlejcaaPQuorumGrowsx
namespace Go.Proofs.Ytcmjdkfndlejcaa.PQuorumGrows
open Go.RowKit Go.Proofs.Ytcmjdkfndlejcaa.Quo Go.Proofs.YtcmjdkfndlejcaaW.EvKit Go.Proofs.YtcmjdkfndlejcaaW.PrintWords Go.Proofs.YtcmjdkfndlejcaaW.PrintLast Go.Proofs.YtcmjdkfndlejcaaW.PrintMore
set_option linter.unusedVariables false
set_option linter.unusedSimpArgs false

theorem Enough_at (a : Int) (h2 : a ≤ 9223372036854775807) : quorum_Enough.f a = some (if a < 1 then 0 else a / 2 + 1) := by
  unfold quorum_Enough.f
  split
  · rfl
  · rw [Int.tdiv_eq_ediv_of_nonneg (by omega), wr (x := a / 2) (by omega) (by omega), wr (by omega) (by omega)]
theorem Enough_len (n : Nat) (h : n ≤ 9223372036854775807) : quorum_Enough.f (n : Int) = some ((enough n : Nat) : Int) := by
  rw [Enough_at _ (by omega)]
  unfold enough
  congr 1
  split
  · rw [if_pos (by omega)]; rfl
  · rw [if_neg (by omega)]; omega

theorem won_ev (l : List Bool) (hl : l.length ≤ 500) : ∀ (q : List Bool) (i c : Nat), l.drop i = q → i ≤ l.length → c ≤ i →
    Ev (fun k => quorum_Won.l0 k l (c : Int) l (l.length : Int) (i : Int)) (decide (0 < l.length) && decide (enough l.length ≤ c + yes q)) := by
  intro q
  induction q with
  | nil =>
    intro i c hd hi hc
    have := List.drop_eq_nil_iff.1 hd
    apply Ev.next
    simp only [quorum_Won.l0]
    refine Ev.no (by omega) ?_
    refine Ev.cases (fun h => ?_) (fun h => ?_)
    · rw [Enough_len _ (by omega), decide_eq_true (show 0 < l.length by omega), Bool.true_and]
      simp only [Option.bind_some]
      rw [show decide ((c : Int) ≥ ((enough l.length : Nat) : Int)) = decide (enough l.length ≤ c + yes []) from by
        apply decide_eq_decide.2
        simp [yes]]
      exact Ev.now _
    · rw [decide_eq_false (show ¬ 0 < l.length by omega), Bool.false_and]
      exact Ev.now _
  | cons b q ih =>
    intro i c hd hi hc
    have hlt : i < l.length := by
      apply Decidable.byContradiction
      intro h2
      rw [List.drop_eq_nil_of_le (by omega)] at hd
      cases hd
    rw [List.drop_eq_getElem_cons hlt] at hd
    injection hd with hb hd'
    apply Ev.next
    simp only [quorum_Won.l0]
    refine Ev.yes (by omega) (Ev.yes (by omega) (Ev.yes (by omega) ?_))
    rw [rdOf_at _ _ _ hlt, hb, wr (x := (i : Int) + 1) (by omega) (by omega), wr (x := (c : Int) + 1) (by omega) (by omega)]
    rw [show (i : Int) + 1 = ((i + 1 : Nat) : Int) from by omega, show (c : Int) + 1 = ((c + 1 : Nat) : Int) from by omega]
    cases b with
    | true =>
      refine Ev.yes rfl ?_
      have := ih (i + 1) (c + 1) hd' (by omega) (by omega)
      rw [show c + yes (true :: q) = c + 1 + yes q from by simp [yes]; omega]
      exact this
    | false =>
      refine Ev.no (by decide) ?_
      have := ih (i + 1) c hd' (by omega) (by omega)
      rw [show c + yes (false :: q) = c + yes q from by simp [yes]]
      exact this
theorem Won_ev (l : List Bool) (hl : l.length ≤ 500) : Ev (fun k => quorum_Won.f k l) (won l) := by
  simp only [quorum_Won.f]
  have := won_ev l hl l 0 0 rfl (by omega) (by omega)
  rw [Nat.zero_add] at this
  exact this

theorem nth_ev (l : List Int) (n : Nat) (hl : l.length ≤ 300) (h1 : 1 ≤ n) (h2 : n ≤ l.length) : Ev (fun k => quorum_nth_int.f k l (n : Int)) (nthS l n, true) := by
  simp only [quorum_nth_int.f]
  refine Ev.no (by omega) ?_
  rw [decide_eq_false (by omega)]
  apply Ev.next
  simp only [quorum_nth_int.j0]
  refine Ev.no (by decide) ?_
  refine Ev.sbind (show slices_Clone_int_int.f l = some l by unfold slices_Clone_int_int.f; rw [if_pos (by omega)]) ?_
  refine Ev.sbind (show slices_Sort_int_int.f l = some (l.mergeSort fun x y => decide (x ≤ y)) by unfold slices_Sort_int_int.f; rw [if_pos (by omega)]) ?_
  rw [wr (by omega) (by omega)]
  refine Ev.yes (by omega) (Ev.yes (by omega) ?_)
  have e : rd (l.mergeSort fun x y => decide (x ≤ y)) ((l.length : Int) - (n : Int)) = nthS l n := by
    unfold nthS rd
    rw [show ((l.length : Int) - (n : Int)).toNat = l.length - n from by omega]
  rw [e]
  exact Ev.now _
def reached (l : List Int) : Int := if l.length = 0 then 0 else nthS l (enough l.length)
theorem Reached_ev (l : List Int) (hl : l.length ≤ 300) : Ev (fun k => quorum_Reached.f k l) (reached l) := by
  simp only [quorum_Reached.f]
  rw [Enough_len _ (by omega)]
  simp only [Option.bind_some]
  unfold reached
  by_cases h : l.length = 0
  · rw [if_pos h, show enough l.length = 0 from by rw [h]; rfl]
    refine Ev.bind (a := (0, false)) ?_ (Ev.now _)
    simp only [quorum_nth_int.f]
    refine Ev.yes (by decide) ?_
    apply Ev.next
    simp only [quorum_nth_int.j0]
    exact Ev.yes trivial (Ev.now _)
  · rw [if_neg h]
    have h3 := enough_pos (n := l.length) (by omega)
    exact Ev.bind (nth_ev l _ hl h3.1 h3.2.1) (Ev.now _)

theorem both_ev (a b : List Bool) (m : Nat) (ha : a.length ≤ 500) (hb : b.length ≤ 500) (hm1 : m ≤ a.length) (hm2 : m ≤ b.length) (hm3 : m = a.length ∨ m = b.length) : ∀ (d i : Nat), i + d = m →
    Ev (fun k => quorum_Both.l0 k a b (m : Int) (i : Int)) (both (a.drop i) (b.drop i)) := by
  intro d
  induction d with
  | zero =>
    intro i hi
    apply Ev.next
    simp only [quorum_Both.l0]
    refine Ev.no (by omega) ?_
    have e : both (a.drop i) (b.drop i) = false := by
      by_cases h : a.length ≤ i
      · rw [List.drop_eq_nil_of_le h]; unfold both; rfl
      · rw [List.drop_eq_nil_of_le (show b.length ≤ i by omega)]; unfold both; cases a.drop i <;> rfl
    rw [e]
    exact Ev.now _
  | succ d ih =>
    intro i hi
    have h1 : i < a.length := by omega
    have h2 : i < b.length := by omega
    have ih' := ih (i + 1) (by omega)
    rw [List.drop_eq_getElem_cons h1, List.drop_eq_getElem_cons h2]
    apply Ev.next
    simp only [quorum_Both.l0]
    refine Ev.yes (by omega) (Ev.yes (by omega) (Ev.yes (by omega) ?_))
    rw [rdOf_at _ _ _ h1, rdOf_at _ _ _ h2, wr (by omega) (by omega), show (i : Int) + 1 = ((i + 1 : Nat) : Int) from by omega]
    unfold both
    cases a[i] with
    | false => exact Ev.no (by decide) ih'
    | true =>
      refine Ev.yes rfl (Ev.yes (by omega) ?_)
      cases b[i] with
      | false => exact Ev.no (by decide) ih'
      | true => exact Ev.yes rfl (Ev.now _)
theorem Both_ev (a b : List Bool) (ha : a.length ≤ 500) (hb : b.length ≤ 500) : Ev (fun k => quorum_Both.f k a b) (both a b) := by
  simp only [quorum_Both.f]
  have e : mn (a.length : Int) (b.length : Int) = ((min a.length b.length : Nat) : Int) := by
    unfold mn
    split
    · rw [Nat.min_eq_right (by omega)]
    · rw [Nat.min_eq_left (by omega)]
  rw [e]
  exact both_ev a b _ ha hb (Nat.min_le_left _ _) (Nat.min_le_right _ _) (by rcases Nat.le_total a.length b.length with h | h; exact .inl (Nat.min_eq_left h); exact .inr (Nat.min_eq_right h)) _ 0 (Nat.zero_add _)

theorem works_ev : Ev (fun k => funicularlaw14_works.f k) true := by
  simp only [funicularlaw14_works.f]
  refine Ev.sbind (Enough_at 3 (by decide)) (Ev.yes (by decide) (Ev.sbind (Enough_at 4 (by decide)) (Ev.yes (by decide) (Ev.bind (Won_ev _ (by decide)) ?_))))
  refine Ev.yes (by decide) (Ev.bind (Won_ev _ (by decide)) (Ev.no (by decide) (Ev.bind (Reached_ev _ (by decide)) ?_)))
  have h5 : reached [5, 2, 9] = 5 := by
    unfold reached
    rw [if_neg (by decide)]
    exact nthS_uniq _ _ (by decide) (by decide) 5 (by decide) (by decide)
  rw [h5]
  refine Ev.yes rfl (Ev.bind (Both_ev _ _ (by decide) (by decide)) (Ev.yes (by decide) (Ev.bind (Reached_ev _ (by decide)) ?_)))
  exact Ev.now _
theorem works_then : Ev (fun k => (funicularlaw14_works.f k).bind fun t => some t) true := Ev.bind works_ev (Ev.now _)
end Go.Proofs.Ytcmjdkfndlejcaa.PQuorumGrows
