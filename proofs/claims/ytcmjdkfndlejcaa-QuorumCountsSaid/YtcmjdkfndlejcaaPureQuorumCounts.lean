/- QuorumCounts: how many of any number are enough, whether any members who granted are, and up to where a majority has come, is what the chapter says. -/
import Derived.Test.YtcmjdkfndlejcaaQuoEvQuorumCounts
import Derived.Test.YtcmjdkfndlejcaaOpQuorumCounts
namespace Go.Proofs.Ytcmjdkfndlejcaa.Pure
open Go.RowKit Go.Proofs.Ytcmjdkfndlejcaa.Quo Go.Proofs.Ytcmjdkfndlejcaa.PQuorumCounts Go.Proofs.YtcmjdkfndlejcaaW.EvKit Go.Proofs.YtcmjdkfndlejcaaW.PrintWords Go.Proofs.YtcmjdkfndlejcaaW.PrintLast Go.Proofs.YtcmjdkfndlejcaaW.PrintMore
set_option linter.unusedVariables false
set_option linter.unusedSimpArgs false
theorem rEnough_at (a : Int) (h1 : -9223372036854775808 ≤ a) (h2 : a ≤ 9223372036854775807) : funicularref14_Enough.f a = some (if a < 1 then 0 else a / 2 + 1) := by
  unfold funicularref14_Enough.f
  split
  · rfl
  · have hm : Int.tmod a 2 = a % 2 := Int.tmod_eq_emod_of_nonneg (by omega)
    rw [hm, Int.tdiv_eq_ediv_of_nonneg (by omega), wr (x := a - 1) (by omega) (by omega), Int.tdiv_eq_ediv_of_nonneg (by omega), wr (x := a / 2) (by omega) (by omega), wr (x := (a - 1) / 2) (by omega) (by omega), wr (by omega) (by omega), wr (by omega) (by omega)]
    split
    · rfl
    · congr 1; omega
theorem rEnough_len (n : Nat) (h : n ≤ 9223372036854775807) : funicularref14_Enough.f (n : Int) = some ((enough n : Nat) : Int) := by
  rw [rEnough_at _ (by omega) (by omega)]
  unfold enough
  congr 1
  split
  · rw [if_pos (by omega)]; rfl
  · rw [if_neg (by omega)]; omega

theorem rwon_ev (l : List Bool) (hl : l.length ≤ 500) : ∀ (q : List Bool) (i y n : Nat), l.drop i = q → i ≤ l.length → y + n = i →
    Ev (fun k => funicularref14_Won.l0 k l (y : Int) (n : Int) (i : Int)) (decide (l.length < 2 * (y + yes q))) := by
  intro q
  induction q with
  | nil =>
    intro i y n hd hi hc
    have := List.drop_eq_nil_iff.1 hd
    apply Ev.next
    simp only [funicularref14_Won.l0]
    refine Ev.no (by omega) ?_
    rw [show decide ((y : Int) > (n : Int)) = decide (l.length < 2 * (y + yes [])) from by
      apply decide_eq_decide.2
      simp [yes]
      omega]
    exact Ev.now _
  | cons b q ih =>
    intro i y n hd hi hc
    have hlt : i < l.length := by
      apply Decidable.byContradiction
      intro h2
      rw [List.drop_eq_nil_of_le (by omega)] at hd
      cases hd
    rw [List.drop_eq_getElem_cons hlt] at hd
    injection hd with hb hd'
    apply Ev.next
    simp only [funicularref14_Won.l0]
    refine Ev.yes (by omega) (Ev.yes (by omega) ?_)
    rw [rdOf_at _ _ _ hlt, hb, wr (x := (i : Int) + 1) (by omega) (by omega), wr (x := (y : Int) + 1) (by omega) (by omega), wr (x := (n : Int) + 1) (by omega) (by omega)]
    rw [show (i : Int) + 1 = ((i + 1 : Nat) : Int) from by omega, show (y : Int) + 1 = ((y + 1 : Nat) : Int) from by omega, show (n : Int) + 1 = ((n + 1 : Nat) : Int) from by omega]
    cases b with
    | true =>
      refine Ev.yes rfl ?_
      have := ih (i + 1) (y + 1) n hd' (by omega) (by omega)
      rw [show y + yes (true :: q) = y + 1 + yes q from by simp [yes]; omega]
      exact this
    | false =>
      refine Ev.no (by decide) ?_
      have := ih (i + 1) y (n + 1) hd' (by omega) (by omega)
      rw [show y + yes (false :: q) = y + yes q from by simp [yes]]
      exact this
theorem rWon_ev (l : List Bool) (hl : l.length ≤ 500) : Ev (fun k => funicularref14_Won.f k l) (won l) := by
  simp only [funicularref14_Won.f]
  have := rwon_ev l hl l 0 0 0 rfl (by omega) (by omega)
  rw [Nat.zero_add] at this
  have e : decide (l.length < 2 * yes l) = won l := by
    unfold won enough
    have := yes_le l
    rw [Bool.eq_iff_iff]
    simp only [decide_eq_true_eq, Bool.and_eq_true]
    constructor
    · intro h; refine ⟨by omega, ?_⟩; rw [if_neg (by omega)]; omega
    · rintro ⟨h1, h2⟩; rw [if_neg (by omega)] at h2; omega
  rw [← e]
  exact this

theorem rboth_ev (a b : List Bool) (ha : a.length ≤ 500) (hb : b.length ≤ 500) : ∀ (d i : Nat), i + d = a.length →
    Ev (fun k => funicularref14_Both.l0 k a b (i : Int)) (both (a.drop i) (b.drop i)) := by
  intro d
  induction d with
  | zero =>
    intro i hi
    apply Ev.next
    simp only [funicularref14_Both.l0]
    refine Ev.no (by omega) (Ev.next ?_)
    simp only [funicularref14_Both.j1]
    rw [List.drop_eq_nil_of_le (show a.length ≤ i by omega)]
    unfold both
    exact Ev.no (by decide) (Ev.now _)
  | succ d ih =>
    intro i hi
    have h1 : i < a.length := by omega
    have ih' := ih (i + 1) (by omega)
    apply Ev.next
    simp only [funicularref14_Both.l0]
    refine Ev.yes (by omega) ?_
    by_cases h2 : i < b.length
    · rw [List.drop_eq_getElem_cons h1, List.drop_eq_getElem_cons h2, decide_eq_true (by omega)]
      apply Ev.next
      simp only [funicularref14_Both.j1]
      refine Ev.yes trivial (Ev.yes (by omega) (Ev.yes (by omega) ?_))
      rw [rdOf_at _ _ _ h1, rdOf_at _ _ _ h2, wr (by omega) (by omega), show (i : Int) + 1 = ((i + 1 : Nat) : Int) from by omega]
      unfold both
      cases a[i] with
      | false => exact Ev.no (by decide) ih'
      | true =>
        refine Ev.yes rfl (Ev.yes (by omega) ?_)
        cases b[i] with
        | false => exact Ev.no (by decide) ih'
        | true => exact Ev.yes rfl (Ev.now _)
    · rw [decide_eq_false (by omega), List.drop_eq_nil_of_le (show b.length ≤ i by omega)]
      apply Ev.next
      simp only [funicularref14_Both.j1]
      have e : both (a.drop i) [] = false := by unfold both; cases a.drop i <;> rfl
      rw [e]
      exact Ev.no (by decide) (Ev.now _)

/-- The greatest of the places looked at so far that a majority has reached. -/
def bestOk (l : List Int) (i : Nat) (found : Bool) (best : Int) : Prop :=
  (found = true → best ∈ l ∧ enough l.length ≤ l.countP (fun x => decide (best ≤ x))) ∧
  ∀ j, j < i → ∀ x, l[j]? = some x → enough l.length ≤ l.countP (fun y => decide (x ≤ y)) → found = true ∧ x ≤ best
theorem best_done (l : List Int) (h0 : 0 < l.length) (best : Int) (found : Bool) (h : bestOk l l.length found best) : best = nthS l (enough l.length) := by
  have e := enough_pos h0
  obtain ⟨i, hi, hx⟩ := List.getElem_of_mem (nthS_mem l _ e.1 e.2.1)
  obtain ⟨hf, hle⟩ := h.2 i hi _ (List.getElem?_eq_getElem hi) (by rw [hx]; exact nthS_ge l _ e.1 e.2.1)
  have h2 := nthS_top l _ e.1 e.2.1 best (h.1 hf).2
  omega
theorem rcount_ev (l : List Int) (hl : l.length ≤ 300) (i : Nat) (hi : i < l.length) (best : Int) (found : Bool) (res : Int)
    (hno : ¬ enough l.length ≤ l.countP (fun y => decide (l[i] ≤ y)) → Ev (fun k => funicularref14_Reached.l0 k l best found ((i + 1 : Nat) : Int)) res)
    (hyes : enough l.length ≤ l.countP (fun y => decide (l[i] ≤ y)) → (found = false ∨ l[i] > best) → Ev (fun k => funicularref14_Reached.l0 k l l[i] true ((i + 1 : Nat) : Int)) res)
    (hkeep : enough l.length ≤ l.countP (fun y => decide (l[i] ≤ y)) → found = true → ¬ l[i] > best → Ev (fun k => funicularref14_Reached.l0 k l best found ((i + 1 : Nat) : Int)) res) :
    ∀ (q : List Int) (j n : Nat), l.drop j = q → j ≤ l.length → n ≤ j → n + q.countP (fun y => decide (l[i] ≤ y)) = l.countP (fun y => decide (l[i] ≤ y)) → Ev (fun k => funicularref14_Reached.l1 k l best found (i : Int) (n : Int) (j : Int)) res := by
  intro q
  induction q with
  | nil =>
    intro j n hd hj hn e
    have := List.drop_eq_nil_iff.1 hd
    simp only [List.countP_nil, Nat.add_zero] at e
    apply Ev.next
    simp only [funicularref14_Reached.l1]
    refine Ev.no (by omega) (Ev.sbind (rEnough_len _ (by omega)) ?_)
    rw [rd_at _ _ hi, wr (by omega) (by omega), show (i : Int) + 1 = ((i + 1 : Nat) : Int) from by omega]
    refine Ev.cases (fun h => ?_) (fun h => hno (by omega))
    cases hf : found with
    | true =>
      refine Ev.yes rfl (Ev.yes (by omega) (Ev.yes (by omega) (Ev.cases (fun hb => hyes (by omega) (.inr hb)) (fun hb => ?_))))
      rw [← hf]
      exact hkeep (by omega) hf hb
    | false =>
      exact Ev.no (by decide) (Ev.yes (by omega) (Ev.yes (by omega) (hyes (by omega) (.inl hf))))
  | cons x q ih =>
    intro j n hd hj hn e
    have hlt : j < l.length := by
      apply Decidable.byContradiction
      intro h2
      rw [List.drop_eq_nil_of_le (by omega)] at hd
      cases hd
    rw [List.drop_eq_getElem_cons hlt] at hd
    injection hd with hx hd'
    rw [List.countP_cons] at e
    apply Ev.next
    simp only [funicularref14_Reached.l1]
    rw [rd_at _ _ hlt, rd_at _ _ hi, hx, wr (x := (j : Int) + 1) (by omega) (by omega), wr (x := (n : Int) + 1) (by omega) (by omega)]
    rw [show (j : Int) + 1 = ((j + 1 : Nat) : Int) from by omega, show (n : Int) + 1 = ((n + 1 : Nat) : Int) from by omega]
    refine Ev.yes (by omega) (Ev.yes (by omega) (Ev.yes (by omega) (Ev.yes (by omega) (Ev.cases (fun h => ?_) (fun h => ?_)))))
    · rw [if_pos (show decide (l[i] ≤ x) = true by simpa using h)] at e
      exact ih (j + 1) (n + 1) hd' (by omega) (by omega) (by omega)
    · rw [if_neg (show ¬ decide (l[i] ≤ x) = true by simpa using h)] at e
      exact ih (j + 1) n hd' (by omega) (by omega) (by omega)
theorem rreached_ev (l : List Int) (hl : l.length ≤ 300) (h0 : 0 < l.length) : ∀ (d i : Nat) (best : Int) (found : Bool), i + d = l.length → bestOk l i found best →
    Ev (fun k => funicularref14_Reached.l0 k l best found (i : Int)) (nthS l (enough l.length)) := by
  intro d
  induction d with
  | zero =>
    intro i best found hi hok
    apply Ev.next
    simp only [funicularref14_Reached.l0]
    obtain rfl : i = l.length := by omega
    rw [← best_done l h0 best found hok]
    exact Ev.no (by omega) (Ev.now _)
  | succ d ih =>
    intro i best found hi hok
    have hlt : i < l.length := by omega
    apply Ev.next
    simp only [funicularref14_Reached.l0]
    refine Ev.yes (by omega) ?_
    refine rcount_ev l hl i hlt best found _ (fun hno => ih (i + 1) best found (by omega) ⟨hok.1, fun j hj x hx hc => ?_⟩)
      (fun hyes hb => ih (i + 1) l[i] true (by omega) ⟨fun _ => ⟨List.getElem_mem hlt, hyes⟩, fun j hj x hx hc => ⟨rfl, ?_⟩⟩)
      (fun hyes hf hb => ih (i + 1) best found (by omega) ⟨hok.1, fun j hj x hx hc => ?_⟩) l 0 0 rfl (by omega) (by omega) (by omega)
    · by_cases hji : j = i
      · subst hji
        rw [List.getElem?_eq_getElem hlt] at hx
        injection hx with hx
        subst hx
        exact absurd hc hno
      · exact hok.2 j (by omega) x hx hc
    · by_cases hji : j = i
      · subst hji
        rw [List.getElem?_eq_getElem hlt] at hx
        injection hx with hx
        omega
      · obtain ⟨hf, hle⟩ := hok.2 j (by omega) x hx hc
        rcases hb with hb | hb
        · rw [hf] at hb; cases hb
        · omega
    · by_cases hji : j = i
      · subst hji
        rw [List.getElem?_eq_getElem hlt] at hx
        injection hx with hx
        exact ⟨hf, by omega⟩
      · exact hok.2 j (by omega) x hx hc
theorem rReached_ev (l : List Int) (hl : l.length ≤ 300) : Ev (fun k => funicularref14_Reached.f k l) (reached l) := by
  simp only [funicularref14_Reached.f]
  unfold reached
  by_cases h : l.length = 0
  · rw [if_pos h]
    apply Ev.next
    simp only [funicularref14_Reached.l0]
    exact Ev.no (by omega) (Ev.now _)
  · rw [if_neg h]
    exact rreached_ev l hl (by omega) _ 0 0 false (Nat.zero_add _) ⟨(fun h => by cases h), (fun j hj => by omega)⟩

theorem QuorumCounts : funicularlaw14_QuorumCounts.Pure2 := by
  intro n l m at_ hn _ _ hat
  have hn := wf_i64 hn
  refine Ev.rounds ?_
  simp only [funicularlaw14_QuorumCounts.f]
  have hbig : Ev (fun k => funicularlaw14_QuorumCounts.j0 k n l m at_ true) true := by
    apply Ev.next
    simp only [funicularlaw14_QuorumCounts.j0]
    exact Ev.yes trivial works_then
  refine Ev.cases (fun _ => hbig) (fun h1 => Ev.cases (fun _ => hbig) (fun h2 => ?_))
  by_cases h3 : (at_.length : Int) > 300
  · rw [decide_eq_true h3]; exact hbig
  rw [decide_eq_false h3]
  apply Ev.next
  simp only [funicularlaw14_QuorumCounts.j0]
  refine Ev.no (by decide) (Ev.sbind (Enough_at n (by omega)) (Ev.sbind (rEnough_at n (by omega) (by omega)) (Ev.yes rfl ?_)))
  refine Ev.bind (Won_ev l (by omega)) (Ev.bind (rWon_ev l (by omega)) (Ev.yes (by simp) ?_))
  refine Ev.bind (Reached_ev at_ (by omega)) (Ev.bind (rReached_ev at_ (by omega)) (Ev.yes rfl ?_))
  refine Ev.bind (Both_ev l m (by omega) (by omega)) (Ev.bind (a := both l m) ?_ (Ev.yes (by simp) works_then))
  simp only [funicularref14_Both.f]
  exact rboth_ev l m (by omega) (by omega) _ 0 (Nat.zero_add _)
end Go.Proofs.Ytcmjdkfndlejcaa.Pure
