/- LexSplits: any text's words, or what is wrong with it first, are what the chapter says. For every text. -/
import Derived.Test.YtfcndngnoognmaaLexRefEvLexSplits
namespace Go.Proofs.Ytfcndngnoognmaa.Pure
open Go.RowKit Go.Proofs.Ytfcndngnoognmaa.Lx Go.Proofs.Ytfcndngnoognmaa.PLexSplits Go.Proofs.YtfcndngnoognmaaW.PrintWords Go.Proofs.YtfcndngnoognmaaW.PrintLast Go.Proofs.YtfcndngnoognmaaW.PrintMore
theorem LexSplits : funicularlaw06_LexSplits.Pure := by
  intro s hs0
  refine Ev.rounds ?_
  simp only [funicularlaw06_LexSplits.f]
  refine Ev.cases (fun _ => works_then) (fun hsz => ?_)
  refine Ev.bind (split_ev s) (Ev.bind (rsplit_ev s) ?_)
  refine Ev.yes (by simp) (Ev.bind (Same_ev _ ?_) (Ev.yes rfl works_then))
  have h := lexB_len (bs s) 0
  rw [bs_len] at h
  unfold lexS
  split
  · simp [out]
  · revert h
    cases lexB (bs s) 0 with
    | ok l => intro h; simp only [out, List.nil_append, List.length_map]; exact Nat.le_trans h (by omega)
    | bad _ _ => intro _; simp [out]
end Go.Proofs.Ytfcndngnoognmaa.Pure
