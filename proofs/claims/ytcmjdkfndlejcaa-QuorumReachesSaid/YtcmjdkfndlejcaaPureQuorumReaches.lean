/- QuorumReaches: up to where a majority has come at least a majority has, and beyond that fewer; so it is one of the places. For every list of places. -/
import Derived.Test.YtcmjdkfndlejcaaQuoEvQuorumReaches
namespace Go.Proofs.Ytcmjdkfndlejcaa.Pure
open Go.RowKit Go.Proofs.Ytcmjdkfndlejcaa.Quo Go.Proofs.Ytcmjdkfndlejcaa.PQuorumReaches Go.Proofs.YtcmjdkfndlejcaaW.EvKit Go.Proofs.YtcmjdkfndlejcaaW.PrintWords Go.Proofs.YtcmjdkfndlejcaaW.PrintLast Go.Proofs.YtcmjdkfndlejcaaW.PrintMore
theorem loop_ev (l : List Int) (hl : l.length ≤ 300) (h0 : 0 < l.length) (r : Int) (hr : r = nthS l (enough l.length)) : ∀ (q : List Int) (i here beyond : Nat) (one : Bool), l.drop i = q → i ≤ l.length → here ≤ i → beyond ≤ i →
    here + q.countP (fun x => decide (r ≤ x)) = l.countP (fun x => decide (r ≤ x)) → beyond + q.countP (fun x => decide (r < x)) = l.countP (fun x => decide (r < x)) → (one = true ∨ r ∈ q) →
    Ev (fun k => funicularlaw14_QuorumReaches.l0 k l r (here : Int) (beyond : Int) one (i : Int)) true := by
  have h3 := enough_pos h0
  have hge := nthS_ge l _ h3.1 h3.2.1
  have hgt := nthS_gt l _ h3.1 h3.2.1
  rw [← hr] at hge hgt
  intro q
  induction q with
  | nil =>
    intro i here beyond one hd hi hh hb e1 e2 hone
    have := List.drop_eq_nil_iff.1 hd
    apply Ev.next
    simp only [funicularlaw14_QuorumReaches.l0]
    rw [Enough_len _ (by omega)]
    simp only [Option.bind_some]
    simp only [List.countP_nil, Nat.add_zero] at e1 e2
    rcases hone with rfl | hone
    · exact Ev.no (by omega) (Ev.yes (by omega) (Ev.yes (by omega) (Ev.yes rfl works_then)))
    · cases hone
  | cons x q ih =>
    intro i here beyond one hd hi hh hb e1 e2 hone
    have hlt : i < l.length := by
      apply Decidable.byContradiction
      intro h2
      rw [List.drop_eq_nil_of_le (by omega)] at hd
      cases hd
    rw [List.drop_eq_getElem_cons hlt] at hd
    injection hd with hx hd'
    rw [List.countP_cons] at e1 e2
    apply Ev.next
    simp only [funicularlaw14_QuorumReaches.l0]
    refine Ev.yes (by omega) (Ev.yes (by omega) ?_)
    rw [rd_at _ _ hlt, hx, wr (x := (i : Int) + 1) (by omega) (by omega), wr (x := (here : Int) + 1) (by omega) (by omega), wr (x := (beyond : Int) + 1) (by omega) (by omega)]
    rw [show (i : Int) + 1 = ((i + 1 : Nat) : Int) from by omega, show (here : Int) + 1 = ((here + 1 : Nat) : Int) from by omega, show (beyond : Int) + 1 = ((beyond + 1 : Nat) : Int) from by omega]
    have ho1 : one = true → (true = true ∨ r ∈ q) := fun _ => .inl rfl
    have ho2 : ¬ one = true → ((x == r) = true ∨ r ∈ q) := fun h => by
      rcases hone with h1 | h1
      · exact absurd h1 h
      · rcases List.mem_cons.1 h1 with h2 | h2
        · exact .inl (by simp [h2])
        · exact .inr h2
    refine Ev.cases (fun ha => ?_) (fun ha => ?_)
    · rw [if_pos (show decide (r ≤ x) = true by simpa using ha)] at e1
      refine Ev.cases (fun hb' => ?_) (fun hb' => ?_)
      · rw [if_pos (show decide (r < x) = true by simpa using hb')] at e2
        exact Ev.cases (fun h => ih _ _ _ _ hd' (by omega) (by omega) (by omega) (by omega) (by omega) (ho1 h)) (fun h => ih _ _ _ _ hd' (by omega) (by omega) (by omega) (by omega) (by omega) (ho2 h))
      · rw [if_neg (show ¬ decide (r < x) = true by simpa using hb')] at e2
        exact Ev.cases (fun h => ih _ _ _ _ hd' (by omega) (by omega) (by omega) (by omega) (by omega) (ho1 h)) (fun h => ih _ _ _ _ hd' (by omega) (by omega) (by omega) (by omega) (by omega) (ho2 h))
    · rw [if_neg (show ¬ decide (r ≤ x) = true by simpa using ha)] at e1
      refine Ev.no (by omega) ?_
      rw [if_neg (show ¬ decide (r < x) = true by simp; omega)] at e2
      exact Ev.cases (fun h => ih _ _ _ _ hd' (by omega) (by omega) (by omega) (by omega) (by omega) (ho1 h)) (fun h => ih _ _ _ _ hd' (by omega) (by omega) (by omega) (by omega) (by omega) (ho2 h))
theorem QuorumReaches : funicularlaw14_QuorumReaches.Pure := by
  intro l hl1 hl2 hwf
  refine Ev.rounds ?_
  simp only [funicularlaw14_QuorumReaches.f]
  have hbig : Ev (fun k => funicularlaw14_QuorumReaches.j0 k l true) true := by
    apply Ev.next
    simp only [funicularlaw14_QuorumReaches.j0]
    exact Ev.yes trivial works_then
  refine Ev.cases (fun _ => hbig) (fun h0 => ?_)
  by_cases h3 : (l.length : Int) > 300
  · rw [decide_eq_true h3]; exact hbig
  rw [decide_eq_false h3]
  apply Ev.next
  simp only [funicularlaw14_QuorumReaches.j0]
  refine Ev.no (by decide) (Ev.bind (Reached_ev l (by omega)) ?_)
  have hp : 0 < l.length := by omega
  have e := enough_pos hp
  have hr : reached l = nthS l (enough l.length) := by unfold reached; rw [if_neg (by omega)]
  exact loop_ev l (by omega) hp _ hr l 0 0 0 false rfl (by omega) (by omega) (by omega) (by omega) (by omega) (.inr (by rw [hr]; exact nthS_mem l _ e.1 e.2.1))
end Go.Proofs.Ytcmjdkfndlejcaa.Pure
