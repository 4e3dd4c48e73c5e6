/- QuorumMeets: two majorities meet: any two of the same members have one in common. -/
import Derived.Test.YtcmjdkfndlejcaaQuoEvQuorumMeets
import Derived.Test.YtcmjdkfndlejcaaOpQuorumMeets
namespace Go.Proofs.Ytcmjdkfndlejcaa.Pure
open Go.RowKit Go.Proofs.Ytcmjdkfndlejcaa.Quo Go.Proofs.Ytcmjdkfndlejcaa.PQuorumMeets Go.Proofs.YtcmjdkfndlejcaaW.EvKit Go.Proofs.YtcmjdkfndlejcaaW.PrintWords Go.Proofs.YtcmjdkfndlejcaaW.PrintLast Go.Proofs.YtcmjdkfndlejcaaW.PrintMore
theorem QuorumMeets : funicularlaw14_QuorumMeets.Pure2 := by
  intro a b _ _
  refine Ev.rounds ?_
  simp only [funicularlaw14_QuorumMeets.f]
  have hbig : Ev (fun k => funicularlaw14_QuorumMeets.j0 k a b true) true := by
    apply Ev.next
    simp only [funicularlaw14_QuorumMeets.j0]
    exact Ev.yes trivial works_then
  refine Ev.cases (fun hl => Ev.cases (fun _ => hbig) (fun h5 => ?_)) (fun _ => hbig)
  refine Ev.bind (Won_ev a (by omega)) (Ev.cases (fun ha => Ev.bind (Won_ev b (by omega)) ?_) (fun _ => hbig))
  cases hb : won b with
  | false => exact hbig
  | true =>
    rw [Bool.not_true]
    apply Ev.next
    simp only [funicularlaw14_QuorumMeets.j0]
    exact Ev.no (by decide) (Ev.bind (Both_ev a b (by omega) (by omega)) (Ev.yes (meets (by omega) ha hb) works_then))
end Go.Proofs.Ytcmjdkfndlejcaa.Pure
