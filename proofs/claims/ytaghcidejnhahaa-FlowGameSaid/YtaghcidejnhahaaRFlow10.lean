/- A part of the proof of the law: what functions of the program come to, walked by Rx, or plain facts on it. -/
import Derived.Test.YtaghcidejnhahaaRFlow9
import Derived.Test.YtaghcidejnhahaaRJ2
open Go Go.Rx Go.Proofs Go.Rx12 Go.RxTree
set_option maxRecDepth 1000000
set_option maxHeartbeats 4000000
set_option linter.unusedVariables false
set_option linter.unusedSimpArgs false
namespace Go.Rx12
/-- A shape. -/
def shV (f d j : List Int) : AV := .agg [.d (.list (iC f)), .d (.list (iC d)), .d (.list (iC j))]
theorem of10 (d : DefT) (hs : d.Sm) (ho : d.Ok) (k : Nat) (hk : d.wt + 5100 ≤ k) : icall Try.prog cfg k 10 [d.av] [] = some (.ret (.tuple [shV (ofFork d) (ofDeep d) (ofJoin d), .d (.int .i64 (ofErr d))]), []) := by
  by_cases h0 : checkD d = 0
  · obtain ⟨id, ps⟩ := d
    obtain ⟨c1, c2, _⟩ := check_ok h0
    have h := of10_walk id ps hs ho h0 ps.length rfl c1 c2 (check_out h0) k (by omega) (by omega)
    rw [h]
    simp only [ofFork, ofDeep, ofJoin, ofErr, if_pos h0]
    by_cases he : walkE ps = 0
    · simp only [if_pos he]; rfl
    · simp only [if_neg he]; rfl
  · rw [of10_bad d hs ho h0 k (by omega)]
    simp only [ofFork, ofDeep, ofJoin, ofErr, if_neg h0]
    rfl
end Go.Rx12
