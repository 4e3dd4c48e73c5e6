/- A part of the proof of the law: what functions of the program come to, walked by Rx, or plain facts on it. -/
import Derived.Test.YtahnmikdpclbfaaRTD
open Go Go.Rx Go.Proofs Go.Rx11 Go.RxTree
set_option maxRecDepth 1000000
set_option maxHeartbeats 4000000
set_option linter.unusedVariables false
set_option linter.unusedSimpArgs false
namespace Go.Rx11
theorem td_cell {n : Nat} {cs : List D} (h : TD Try.prog n 5 cs) : ∃ b : UInt8, cs = [.int .u8 b.toNat] := by
  obtain ⟨z, rfl, w⟩ := td_int (k := .u8) (by kernel_rfl) h
  rw [wf_u8] at w
  refine ⟨UInt8.ofNat z.toNat, ?_⟩
  have : ((UInt8.ofNat z.toNat).toNat : Int) = z := by simp; omega
  rw [this]
theorem td_bytes {n : Nat} {cs : List D} (h : TD Try.prog n 32 cs) : ∃ b : List UInt8, cs = [.list (bL b)] ∧ b.length ≤ maxLen ∧ b.length ≤ 140737488351232 := by
  obtain ⟨m', es, rfl, rfl, w4, w4', h5⟩ := td_slice (e := 5) (by kernel_rfl) (of_decide_eq_true (by kernel_rfl)) h
  obtain ⟨l, rfl, hl⟩ := gather_list (Q := fun _ => True) (f := fun b : UInt8 => [D.int .u8 b.toNat]) es (fun y hy => by obtain ⟨b, hb⟩ := td_cell (h5 y hy); exact ⟨b, hb, trivial⟩)
  exact ⟨l, rfl, by simpa using w4, by simpa using w4'⟩
theorem arg_bytes (b : List UInt8) : argAV Try.prog 32 [.list (bL b)] = .d (.list (bL b)) := by kernel_rfl
end Go.Rx11
