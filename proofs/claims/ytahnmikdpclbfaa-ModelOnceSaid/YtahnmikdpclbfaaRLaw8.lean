/- A part of the proof of the law: what functions of the program come to, walked by Rx, or plain facts on it. -/
import Derived.Test.YtahnmikdpclbfaaRReadO
import Derived.Test.YtahnmikdpclbfaaRSame
import Derived.Test.YtahnmikdpclbfaaRJ0
import Derived.Test.YtahnmikdpclbfaaRPutM
import Derived.Test.YtahnmikdpclbfaaRLaw3
open Go Go.Rx Go.Proofs Go.Rx11 Go.RxTree
set_option maxRecDepth 1000000
set_option maxHeartbeats 4000000
set_option linter.unusedVariables false
set_option linter.unusedSimpArgs false
namespace Go.Rx11
theorem law8 (b : List UInt8) (hob : b.length ≤ maxLen) (hsb : b.length ≤ 140737488351232) (k : Nat) (hk : 7 * b.length + (sDef b).wt + (readD b).1.wt + 40000 < k) : icall Try.prog cfg k 8 [.d (.list (bL b))] [] = some (.ret (.d (.bool true)), []) := by
  obtain ⟨k, rfl⟩ : ∃ j, k = j + 1 := ⟨k - 1, by omega⟩
  have wk := works11 k (by omega)
  have c1 := read24 b hsb k (by omega)
  obtain ⟨o1, o2⟩ := readD_ok b hsb
  by_cases h : (readD b).2 = 0
  · obtain ⟨hb, hc⟩ := readD_once h
    rw [h] at c1
    have c2 := put22 (readD b).1 o2 o1 k (by omega)
    have c3 := check13 (readD b).1 o2 o1 k (by omega)
    have c4 := same18 b b k (by omega)
    rw [beq_t (rfl : b = b)] at c4
    have hp : putP (readD b).1 = (b, 0) := by unfold putP; rw [if_pos hc, ← hb]
    rw [hp] at c2
    rw [hc] at c3
    generalize (readD b).1 = d at *
    obtain ⟨di, dp⟩ := d
    dsimp only at c1 c2 c3
    rw [icall_body rfl Try.func8]
    obtain ⟨lp, hlp⟩ : ∃ lp, lp = lpOf Try.prog cfg (icall Try.prog cfg k) Try.f8.ntmps 8 k (([] : Hp).map (·.1)) := ⟨_, rfl⟩
    rw [← hlp]
    conv => lhs; whnf
    refine iteK_dec (fun h1 => ?_) (fun h1 => ?_)
    · rw [dec_t h1]
      conv => lhs; whnf
      refine nextK_of wk ?_
      conv => lhs; whnf
      refine Eq.trans (b := some (Res.ret (AV.d (D.bool true)), [])) (by kernel_rfl) ?_
      rfl
    · rw [dec_f h1]
      conv => lhs; whnf
      refine nextK_of c1 ?_
      conv => lhs; whnf
      refine nextK_of c2 ?_
      conv => lhs; whnf
      refine nextK_of c4 ?_
      conv => lhs; whnf
      refine nextK_of c3 ?_
      conv => lhs; whnf
      refine nextK_of wk ?_
      conv => lhs; whnf
      refine Eq.trans (b := some (Res.ret (AV.d (D.bool true)), [])) (by kernel_rfl) ?_
      rfl
  · rw [readD_D0 h] at c1
    have c2 := same26 D0 D0_ok.1 k (by have : D0.wt = 9 := rfl; omega)
    generalize (readD b).2 = e at *
    rw [icall_body rfl Try.func8]
    obtain ⟨lp, hlp⟩ : ∃ lp, lp = lpOf Try.prog cfg (icall Try.prog cfg k) Try.f8.ntmps 8 k (([] : Hp).map (·.1)) := ⟨_, rfl⟩
    rw [← hlp]
    conv => lhs; whnf
    refine iteK_dec (fun h1 => ?_) (fun h1 => ?_)
    · rw [dec_t h1]
      conv => lhs; whnf
      refine nextK_of wk ?_
      conv => lhs; whnf
      refine Eq.trans (b := some (Res.ret (AV.d (D.bool true)), [])) (by kernel_rfl) ?_
      rfl
    · rw [dec_f h1]
      conv => lhs; whnf
      refine nextK_of c1 ?_
      conv => lhs; whnf
      refine iteK_bne_t h ?_
      conv => lhs; whnf
      refine nextK_of c2 ?_
      conv => lhs; whnf
      refine nextK_of wk ?_
      conv => lhs; whnf
      refine Eq.trans (b := some (Res.ret (AV.d (D.bool true)), [])) (by kernel_rfl) ?_
      rfl
end Go.Rx11
