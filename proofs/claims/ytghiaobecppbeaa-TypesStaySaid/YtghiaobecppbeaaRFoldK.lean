/- A part of the proof of the law: what functions of the program come to, walked by Rx, or plain facts on it. -/
import Derived.Test.YtghiaobecppbeaaRFold3
open Go Go.Rx Go.Proofs Go.Rx08 Go.RxTree
set_option maxRecDepth 1000000
set_option maxHeartbeats 4000000
set_option linter.unusedVariables false
set_option linter.unusedSimpArgs false
namespace Go.Rx08
theorem knownN (m : Int) (k : Nat) (hk : 0 < k) : icall Try.prog cfg k 47 [(numT m).av] [] = some (.ret (.tuple [.d (.int .i64 m), .d (.bool true)]), []) := known47 (numT m) k hk
theorem knownY (b : Bool) (k : Nat) (hk : 0 < k) : icall Try.prog cfg k 47 [(yesT b).av] [] = some (.ret (.tuple [.d (.int .i64 (if b = true then 1 else 0)), .d (.bool true)]), []) := by
  cases b
  · exact known47 (yesT false) k hk
  · exact known47 (yesT true) k hk
theorem knownO {f : T} (h : plainK f.kind = false) (k : Nat) (hk : 0 < k) : ∃ m, icall Try.prog cfg k 47 [f.av] [] = some (.ret (.tuple [.d (.int .i64 m), .d (.bool false)]), []) := by
  have := known47 f k hk
  rw [h] at this
  exact ⟨_, this⟩
theorem not_plain {f : T} (h : plainK f.kind = false) : f.kind ≠ 1 ∧ f.kind ≠ 3 ∧ f.kind ≠ 4 := by
  have := of_decide_eq_false h
  omega
end Go.Rx08
