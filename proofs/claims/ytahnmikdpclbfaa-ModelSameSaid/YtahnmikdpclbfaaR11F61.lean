import Derived.Test.YtahnmikdpclbfaaRxCfg11
import Derived.Test.YtahnmikdpclbfaaRxDef
import Derived.Test.YtahnmikdpclbfaaR11Pl56
import Derived.Test.YtahnmikdpclbfaaR11F62
open Go Go.Rx Go.Proofs Go.Rx11 Go.RxTree
set_option maxRecDepth 1000000
set_option maxHeartbeats 4000000
set_option linter.unusedVariables false
namespace Go.Rx11
theorem hand62 {j : Nat} {x y : PlaceT} (h : icall Try.prog cfg j 62 [.d (.list (x.out.map FlowT.cells)), .d (.list (y.out.map FlowT.cells)), .fn 63 [.ptr (.cell (.arg 2) 0) 0]] (trH (.cell (.arg 2) 0)) = some (.ret (.d (.bool (sameG sameF x.out y.out))), trH (.cell (.arg 2) 0))) (d : Nat) :
    callA cfg (icall Try.prog cfg j) d 62 [.d (.list (x.out.map FlowT.cells)), .d (.list (y.out.map FlowT.cells)), .fn 63 [.ptr (.arg 2) 0]] [plH 4 y, plH 3 x, (.arg 2, .cells [.fn 57 []])] = some (.ret (.d (.bool (sameG sameF x.out y.out))), [(.arg 2, .cells [.fn 57 []]), plH 4 y, plH 3 x]) := by
  refine callA_of (args1 := [.d (.list (x.out.map FlowT.cells)), .d (.list (y.out.map FlowT.cells)), .fn 63 [.ptr (.arg 2) 0]]) (H1 := [plH 4 y, plH 3 x, (.arg 2, .cells [.fn 57 []])]) (g := [(.arg 2, (.cell (.arg 2) 0, 0))]) (b := [(.cell (.arg 2) 0, (.arg 2, 0))]) h (by kernel_rfl) (by kernel_rfl) (by kernel_rfl) (by kernel_rfl) (by kernel_rfl) (by kernel_rfl) (by kernel_rfl) (by kernel_rfl) (by kernel_rfl)
theorem same61 (a b : PlaceT) (ha : a.Ok) (k : Nat) (hk : a.wt < k) : icall Try.prog cfg k 61 [a.av, b.av, .ptr (.arg 2) 0] (trH (.arg 2)) = some (.ret (.d (.bool (sameP a b))), trH (.arg 2)) := by
  obtain ⟨k, rfl⟩ : ∃ j, k = j + 1 := ⟨k - 1, by omega⟩
  obtain ⟨g1, g2, g3, g4, g5, g6, g7⟩ := ha
  unfold PlaceT.wt at hk
  rw [icall_body rfl Try.func61]
  obtain ⟨cA, hcA⟩ : ∃ cA, cA = callA cfg (icall Try.prog cfg k) := ⟨_, rfl⟩
  have hc : ∀ d H, cA d 57 [.d (.list (cellsL a.arg)), .d (.list (cellsL b.arg))] H = some (.ret (.d (.bool (sameL a.arg b.arg))), H) := fun d H => by
    rw [hcA]; exact callA_plain (trees57 a.arg b.arg g4 g5 k (by omega)) rfl rfl
  have hd := fun d => hand62 (equal62 a.out b.out g6 g7 k (by omega)) d
  rw [← hcA] at hd
  rw [← hcA, sameP]
  conv => lhs; whnf
  refine iteK_of (fun h1 => ?_) (fun h1 => ?_) <;> rw [h1]
  · conv => lhs; whnf
    refine iteK_of (fun h2 => ?_) (fun h2 => ?_) <;> rw [h2]
    · conv => lhs; whnf
      refine iteK_of (fun h3 => ?_) (fun h3 => ?_) <;> rw [h3]
      · conv => lhs; whnf
        refine nextK_of (hc _ _) ?_
        conv => lhs; whnf
        refine iteK_of (fun h4 => ?_) (fun h4 => ?_) <;> rw [h4]
        · conv => lhs; whnf
          refine nextK_of (hd _) ?_
          refine Eq.trans (b := some (.ret (.d (.bool (sameG sameF a.out b.out))), trH (.arg 2))) (by kernel_rfl) ?_
          simp
        · refine Eq.trans (b := some (.ret (.d (.bool false)), trH (.arg 2))) (by kernel_rfl) ?_
          simp
      · refine Eq.trans (b := some (.ret (.d (.bool false)), trH (.arg 2))) (by kernel_rfl) ?_
        simp
    · refine Eq.trans (b := some (.ret (.d (.bool false)), trH (.arg 2))) (by kernel_rfl) ?_
      simp
  · refine Eq.trans (b := some (.ret (.d (.bool false)), trH (.arg 2))) (by kernel_rfl) ?_
    simp
end Go.Rx11
