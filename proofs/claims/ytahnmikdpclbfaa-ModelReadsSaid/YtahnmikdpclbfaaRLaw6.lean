/- A part of the proof of the law: what functions of the program come to, walked by Rx, or plain facts on it. -/
import Derived.Test.YtahnmikdpclbfaaRReadO
import Derived.Test.YtahnmikdpclbfaaRSame
import Derived.Test.YtahnmikdpclbfaaRLaw3
open Go Go.Rx Go.Proofs Go.Rx11 Go.RxTree
set_option maxRecDepth 1000000
set_option maxHeartbeats 4000000
set_option linter.unusedVariables false
set_option linter.unusedSimpArgs false
namespace Go.Rx11
theorem law6 (b : List UInt8) (hob : b.length ≤ maxLen) (hsb : b.length ≤ 140737488351232) (k : Nat) (hk : 7 * b.length + (sDef b).wt + (readD b).1.wt + 40000 < k) : icall Try.prog cfg k 6 [.d (.list (bL b))] [] = some (.ret (.d (.bool true)), []) := by
  obtain ⟨k, rfl⟩ : ∃ j, k = j + 1 := ⟨k - 1, by omega⟩
  have wk := works11 k (by omega)
  have c1 := read24 b hsb k (by omega)
  have c2 := read25 b hsb k (by omega)
  have c3 := same26 (readD b).1 (readD_ok b hsb).1 k (by omega)
  generalize readD b = r at *
  obtain ⟨⟨di, dp⟩, e⟩ := r
  dsimp only at c1 c2 c3
  rw [icall_body rfl Try.func6]
  obtain ⟨lp, hlp⟩ : ∃ lp, lp = lpOf Try.prog cfg (icall Try.prog cfg k) Try.f6.ntmps 6 k (([] : Hp).map (·.1)) := ⟨_, rfl⟩
  rw [← hlp]
  conv => lhs; whnf
  refine iteK_dec (fun h1 => ?_) (fun h1 => ?_)
  · rw [dec_t h1]
    conv => lhs; whnf
    refine nextK_of wk ?_
    conv => lhs; whnf
    refine Eq.trans (b := some (Res.ret (AV.d (D.bool true)), [])) (by kernel_rfl) ?_
    rfl
  · rw [dec_f h1]
    conv => lhs; whnf
    refine nextK_of c1 ?_
    conv => lhs; whnf
    refine nextK_of c2 ?_
    conv => lhs; whnf
    refine iteK_beq (fun h2 => ?_) (fun h2 => ?_)
    · rw [beq_t h2]
      conv => lhs; whnf
      refine nextK_of c3 ?_
      conv => lhs; whnf
      refine nextK_of wk ?_
      conv => lhs; whnf
      refine Eq.trans (b := some (Res.ret (AV.d (D.bool true)), [])) (by kernel_rfl) ?_
      rfl
    · rw [beq_f h2]
      (exfalso; omega)
end Go.Rx11
