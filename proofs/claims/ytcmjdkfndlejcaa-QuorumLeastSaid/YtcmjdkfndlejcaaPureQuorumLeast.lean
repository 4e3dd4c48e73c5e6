/- QuorumLeast: one fewer than enough are not enough. For every number of members. -/
import Derived.Test.YtcmjdkfndlejcaaQuoEvQuorumLeast
namespace Go.Proofs.Ytcmjdkfndlejcaa.Pure
open Go.RowKit Go.Proofs.Ytcmjdkfndlejcaa.Quo Go.Proofs.Ytcmjdkfndlejcaa.PQuorumLeast Go.Proofs.YtcmjdkfndlejcaaW.EvKit Go.Proofs.YtcmjdkfndlejcaaW.PrintWords Go.Proofs.YtcmjdkfndlejcaaW.PrintLast Go.Proofs.YtcmjdkfndlejcaaW.PrintMore
theorem QuorumLeast : funicularlaw14_QuorumLeast.Pure := by
  intro n hn
  have hn := wf_u16 hn
  refine Ev.rounds ?_
  simp only [funicularlaw14_QuorumLeast.f]
  have hm : Int.tmod n 500 = n % 500 := Int.tmod_eq_emod_of_nonneg hn.1
  rw [wr (x := n) (by omega) (by omega), hm, wr (x := 1 + n % 500) (by omega) (by omega)]
  refine Ev.sbind (Enough_at _ (by omega)) ?_
  rw [if_neg (show ¬ 1 + n % 500 < 1 by omega)]
  rw [wr (x := (1 + n % 500) / 2 + 1 - 1) (by omega) (by omega), wr (x := 2 * ((1 + n % 500) / 2 + 1)) (by omega) (by omega), wr (by omega) (by omega)]
  exact Ev.yes (by omega) (Ev.yes (by omega) (Ev.yes (by omega) (Ev.yes (by omega) works_then)))
end Go.Proofs.Ytcmjdkfndlejcaa.Pure
