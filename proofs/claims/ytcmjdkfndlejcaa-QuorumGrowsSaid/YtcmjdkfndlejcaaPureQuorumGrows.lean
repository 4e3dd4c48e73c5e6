/- QuorumGrows: one who comes further never takes a majority back; one more who grants never loses. -/
import Derived.Test.YtcmjdkfndlejcaaQuoEvQuorumGrows
import Derived.Test.YtcmjdkfndlejcaaOpQuorumGrows
namespace Go.Proofs.Ytcmjdkfndlejcaa.Pure
open Go.RowKit Go.Proofs.Ytcmjdkfndlejcaa.Quo Go.Proofs.Ytcmjdkfndlejcaa.PQuorumGrows Go.Proofs.YtcmjdkfndlejcaaW.EvKit Go.Proofs.YtcmjdkfndlejcaaW.PrintWords Go.Proofs.YtcmjdkfndlejcaaW.PrintLast Go.Proofs.YtcmjdkfndlejcaaW.PrintMore
theorem place (who : Int) (n : Nat) (h0 : 0 < n) (hn : n ≤ 300) : ∃ k : Nat, k < n ∧ wrap64 (Int.tmod (IntKind.u64.wrap who) (IntKind.u64.wrap (n : Int))) = (k : Int) := by
  rw [w64 (x := (n : Int)) (by omega) (by omega)]
  have h : 0 ≤ IntKind.u64.wrap who ∧ IntKind.u64.wrap who ≤ 18446744073709551615 := by
    rw [IntKind.wrap_u64]; omega
  generalize IntKind.u64.wrap who = u at h
  have hm : Int.tmod u (n : Int) = u % (n : Int) := Int.tmod_eq_emod_of_nonneg h.1
  have h1 := Int.emod_nonneg u (show (n : Int) ≠ 0 by omega)
  have h2 := Int.emod_lt_of_pos u (show (0 : Int) < n by omega)
  rw [hm, wr (by omega) (by omega)]
  exact ⟨(u % (n : Int)).toNat, by omega, by omega⟩
theorem QuorumGrows : funicularlaw14_QuorumGrows.Pure2 := by
  intro at_ granted who by_ hat _ _ hby
  have hby := wf_u16 hby
  refine Ev.rounds ?_
  simp only [funicularlaw14_QuorumGrows.f]
  have hbig : Ev (fun k => funicularlaw14_QuorumGrows.j0 k at_ granted who by_ true) true := by
    apply Ev.next
    simp only [funicularlaw14_QuorumGrows.j0]
    exact Ev.yes trivial works_then
  refine Ev.cases (fun _ => hbig) (fun h0 => Ev.cases (fun _ => hbig) (fun h3 => ?_))
  by_cases hg : (granted.length : Int) > 300
  · rw [decide_eq_true hg]; exact hbig
  rw [decide_eq_false hg]
  apply Ev.next
  simp only [funicularlaw14_QuorumGrows.j0]
  obtain ⟨i, hi, ei⟩ := place who at_.length (by omega) (by omega)
  rw [ei, w64 (x := (at_.length : Int)) (by omega) (by omega)]
  refine Ev.no (by decide) (Ev.no (by omega) (Ev.yes (by omega) (Ev.yes (by omega) ?_)))
  rw [rd_at _ _ hi]
  refine Ev.cases (fun _ => works_then) (fun hbig2 => Ev.yes (by simp; omega) ?_)
  simp only [Option.bind_some, List.nil_append]
  have hwf := wf_i64 (hat.2 _ (List.getElem_mem hi))
  rw [rd_at _ _ hi, wr (x := by_) (by omega) (by omega), wr (x := at_[i] + by_) (by omega) (by omega), Int.toNat_natCast]
  refine Ev.yes (by omega) (Ev.bind (Reached_ev _ (by rw [List.length_set]; omega)) (Ev.bind (Reached_ev _ (by omega)) ?_))
  have e := enough_pos (n := at_.length) (by omega)
  have hgrow := nthS_grows at_ (enough at_.length) i (at_[i] + by_) e.1 e.2.1 hi (by omega)
  have r1 : reached at_ = nthS at_ (enough at_.length) := by unfold reached; rw [if_neg (by omega)]
  have r2 : reached (at_.set i (at_[i] + by_)) = nthS (at_.set i (at_[i] + by_)) (enough at_.length) := by unfold reached; rw [List.length_set, if_neg (by omega)]
  rw [r1, r2]
  refine Ev.no (by omega) (Ev.cases (fun _ => works_then) (fun hg0 => Ev.yes (by simp; omega) ?_))
  obtain ⟨j, hj, ej⟩ := place who granted.length (by omega) (by omega)
  rw [ej, w64 (x := (granted.length : Int)) (by omega) (by omega), Int.toNat_natCast]
  refine Ev.no (by omega) (Ev.yes (by omega) (Ev.yes (by omega) (Ev.bind (Won_ev granted (by omega)) (Ev.cases (fun hw => ?_) (fun _ => works_then)))))
  exact Ev.bind (Won_ev _ (by rw [List.length_set]; omega)) (Ev.yes (won_set granted j hj hw) works_then)
end Go.Proofs.Ytcmjdkfndlejcaa.Pure
