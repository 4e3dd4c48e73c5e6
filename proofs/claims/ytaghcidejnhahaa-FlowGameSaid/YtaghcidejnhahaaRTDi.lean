/- A part of the proof of the law: what functions of the program come to, walked by Rx, or plain facts on it. -/
import Derived.Test.YtaghcidejnhahaaRTD
import Derived.Test.YtaghcidejnhahaaRSpecF
open Go Go.Rx Go.Proofs Go.Rx12 Go.RxTree
set_option maxRecDepth 1000000
set_option maxHeartbeats 4000000
set_option linter.unusedVariables false
set_option linter.unusedSimpArgs false
namespace Go.Rx12
theorem td_ints {n : Nat} {cs : List D} (h : TD Try.prog n 27 cs) : ∃ l : List Int, cs = [.list (iC l)] ∧ l.length ≤ maxLen ∧ l.length ≤ 140737488351232 := by
  obtain ⟨m', es, rfl, rfl, w6, w6', h6⟩ := td_slice (e := 3) (by kernel_rfl) (of_decide_eq_true (by kernel_rfl)) h
  obtain ⟨l, rfl, hl⟩ := gather_list (Q := fun _ : Int => True) (f := fun z => [D.int .i64 z]) es (fun y hy => by
    obtain ⟨z, hz, _⟩ := td_int (k := .i64) (by kernel_rfl) (h6 y hy)
    exact ⟨z, hz, trivial⟩)
  exact ⟨l, rfl, by simpa using w6, by simpa using w6'⟩
theorem arg_ints (l : List Int) : argAV Try.prog 27 [.list (iC l)] = .d (.list (iC l)) := by kernel_rfl
end Go.Rx12
