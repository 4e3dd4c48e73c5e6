/- A part of the proof of the law: what functions of the program come to, walked by Rx, or plain facts on it. -/
import Derived.Test.YtaghcidejnhahaaRTDx
open Go Go.Rx Go.Proofs Go.Rx12 Go.RxTree
set_option maxRecDepth 1000000
set_option maxHeartbeats 4000000
set_option linter.unusedVariables false
set_option linter.unusedSimpArgs false
namespace Go.Rx12
theorem td_flow {n : Nat} {cs : List D} (h : TD Try.prog n 47 cs) : ∃ f : FlowT, cs = f.cells ∧ f.Ok ∧ f.Sm := by
  obtain ⟨m, rfl, hs⟩ := td_struct (fs := fsOf 47) (by kernel_rfl) h
  rw [show (fsOf 47).toList.map (·.type) = [3, 42] by kernel_rfl] at hs
  obtain ⟨c1, r1, rfl, h1, c2, r2, rfl, h2, rfl⟩ := hs
  obtain ⟨z1, rfl, w1⟩ := td_int (k := .i64) (by kernel_rfl) h1
  obtain ⟨l, rfl, w2, w3, w4⟩ := td_trees h2
  exact ⟨⟨z1, l⟩, rfl, ⟨w1, w2, w3⟩, w4⟩
theorem td_place {n : Nat} {cs : List D} (h : TD Try.prog n 45 cs) : ∃ p : PlaceT, cs = p.cells ∧ p.Ok ∧ p.Sm := by
  obtain ⟨m, rfl, hs⟩ := td_struct (fs := fsOf 45) (by kernel_rfl) h
  rw [show (fsOf 45).toList.map (·.type) = [3, 9, 3, 42, 43] by kernel_rfl] at hs
  obtain ⟨c1, r1, rfl, h1, c2, r2, rfl, h2, c3, r3, rfl, h3, c4, r4, rfl, h4, c5, r5, rfl, h5, rfl⟩ := hs
  obtain ⟨z1, rfl, w1⟩ := td_int (k := .i64) (by kernel_rfl) h1
  obtain ⟨s, rfl, w2, w2'⟩ := td_str (by kernel_rfl) h2
  obtain ⟨z3, rfl, w3⟩ := td_int (k := .i64) (by kernel_rfl) h3
  obtain ⟨l, rfl, w4, w5, w5'⟩ := td_trees h4
  obtain ⟨m', es, rfl, rfl, w6, w6', h6⟩ := td_slice (e := 47) (by kernel_rfl) (of_decide_eq_true (by kernel_rfl)) h5
  obtain ⟨fl, rfl, hl⟩ := gather_list (Q := fun f => f.Ok ∧ f.Sm) (f := FlowT.cells) es (fun y hy => td_flow (h6 y hy))
  exact ⟨⟨z1, s, z3, l, fl⟩, rfl, ⟨w1, w2, w3, w4, w5, by simpa using w6, fun f hf => (hl f hf).1⟩, ⟨w2', w5', fun f hf => (hl f hf).2, by simpa using w6'⟩⟩
theorem td_def {n : Nat} {cs : List D} (h : TD Try.prog n 24 cs) : ∃ d : DefT, cs = d.cells ∧ d.Ok ∧ d.Sm := by
  obtain ⟨m, rfl, hs⟩ := td_struct (fs := fsOf 24) (by kernel_rfl) h
  rw [show (fsOf 24).toList.map (·.type) = [9, 22] by kernel_rfl] at hs
  obtain ⟨c1, r1, rfl, h1, c2, r2, rfl, h2, rfl⟩ := hs
  obtain ⟨s, rfl, w2, w2'⟩ := td_str (by kernel_rfl) h1
  obtain ⟨m', es, rfl, rfl, w6, w6', h6⟩ := td_slice (e := 45) (by kernel_rfl) (of_decide_eq_true (by kernel_rfl)) h2
  obtain ⟨pl, rfl, hl⟩ := gather_list (Q := fun p => p.Ok ∧ p.Sm) (f := PlaceT.cells) es (fun y hy => td_place (h6 y hy))
  exact ⟨⟨s, pl⟩, rfl, ⟨w2, by simpa using w6, fun p hp => (hl p hp).1⟩, ⟨w2', fun p hp => (hl p hp).2⟩⟩
theorem arg_def (d : DefT) : argAV Try.prog 24 d.cells = d.av := by kernel_rfl
end Go.Rx12
