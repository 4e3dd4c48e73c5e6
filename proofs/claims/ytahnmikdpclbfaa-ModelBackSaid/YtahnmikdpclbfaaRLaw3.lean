/- A part of the proof of the law: what functions of the program come to, walked by Rx, or plain facts on it. -/
import Derived.Test.YtahnmikdpclbfaaRWeightD
import Derived.Test.YtahnmikdpclbfaaRChk
open Go Go.Rx Go.Proofs Go.Rx11 Go.RxTree
set_option maxRecDepth 1000000
set_option maxHeartbeats 4000000
set_option linter.unusedVariables false
set_option linter.unusedSimpArgs false
namespace Go.Rx11
theorem works11 (k : Nat) (hk : 0 < k) : icall Try.prog cfg k 11 [] [] = some (.ret (.d (.bool true)), []) := by
  obtain ⟨k, rfl⟩ : ∃ j, k = j + 1 := ⟨k - 1, by omega⟩
  rfl
theorem light10 (d : DefT) (ho : d.Ok) (hs : d.Sm) (k : Nat) (hk : d.wt + 2 < k) : icall Try.prog cfg k 10 [d.av] [] = some (.ret (.d (.bool (decide (weightD d 800 ≤ 800)))), []) := by
  obtain ⟨k, rfl⟩ : ∃ j, k = j + 1 := ⟨k - 1, by omega⟩
  show icall Try.prog cfg _ _ [.agg [.d (.str d.id), .d (.list (d.places.map PlaceT.cells))]] [] = _
  rw [icall_body rfl Try.func10]
  obtain ⟨lp, hlp⟩ : ∃ lp, lp = lpOf Try.prog cfg (icall Try.prog cfg k) Try.f10.ntmps 10 k (([] : Hp).map (·.1)) := ⟨_, rfl⟩
  rw [← hlp]
  conv => lhs; whnf
  refine nextK_of (weight28 d 800 ho hs (by omega) (by omega) k (by omega)) ?_
  conv => lhs; whnf
  refine Eq.trans (b := some (Res.ret (AV.d (D.bool (decide (weightD d (800 : Int) ≤ (800 : Int))))), [])) (by kernel_rfl) ?_
  rfl
theorem law3 (d : DefT) (ho : d.Ok) (hs : d.Sm) (k : Nat) (hk : d.wt + 3 < k) : icall Try.prog cfg k 3 [d.av] [] = some (.ret (.d (.bool true)), []) := by
  obtain ⟨k, rfl⟩ : ∃ j, k = j + 1 := ⟨k - 1, by omega⟩
  show icall Try.prog cfg _ _ [.agg [.d (.str d.id), .d (.list (d.places.map PlaceT.cells))]] [] = _
  rw [icall_body rfl Try.func3]
  obtain ⟨lp, hlp⟩ : ∃ lp, lp = lpOf Try.prog cfg (icall Try.prog cfg k) Try.f3.ntmps 3 k (([] : Hp).map (·.1)) := ⟨_, rfl⟩
  rw [← hlp]
  have c1 := check12 d hs ho k (by omega)
  have c2 := check13 d hs ho k (by omega)
  generalize checkD d = e at c1 c2
  conv => lhs; whnf
  refine nextK_b (light10 d ho hs k (by omega)) (fun h1 => ?_) (fun h1 => ?_)
  · conv => lhs; whnf
    refine iteO_t (by kernel_rfl) ?_
    conv => lhs; whnf
    refine nextK_of c1 ?_
    conv => lhs; whnf
    refine nextK_of c2 ?_
    conv => lhs; whnf
    refine iteK_beq (fun h2 => ?_) (fun h2 => ?_)
    · rw [beq_t h2]
      conv => lhs; whnf
      refine nextK_of (works11 k (by omega)) ?_
      conv => lhs; whnf
      refine iteO_t (by kernel_rfl) ?_
      conv => lhs; whnf
      refine Eq.trans (b := some (Res.ret (AV.d (D.bool true)), [])) (by kernel_rfl) ?_
      rfl
    · rw [beq_f h2]
      (exfalso; omega)
  · conv => lhs; whnf
    refine nextK_of (works11 k (by omega)) ?_
    conv => lhs; whnf
    refine Eq.trans (b := some (Res.ret (AV.d (D.bool true)), [])) (by kernel_rfl) ?_
    rfl
end Go.Rx11
