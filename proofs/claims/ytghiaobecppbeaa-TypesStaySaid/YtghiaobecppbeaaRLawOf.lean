/- A part of the proof of the law: what functions of the program come to, walked by Rx, or plain facts on it. -/
import Derived.Test.YtghiaobecppbeaaRTyped
import Derived.Test.YtghiaobecppbeaaRWeight
open Go Go.Rx Go.Proofs Go.Rx08 Go.RxTree
set_option maxRecDepth 1000000
set_option maxHeartbeats 4000000
set_option linter.unusedVariables false
set_option linter.unusedSimpArgs false
namespace Go.Rx08
theorem works10 (k : Nat) (hk : 0 < k) : icall Try.prog cfg k 10 [] [] = some (.ret (.d (.bool true)), []) := by
  obtain ⟨k, rfl⟩ : ∃ j, k = j + 1 := ⟨k - 1, by omega⟩
  rfl
theorem light9 (t : T) (ho : t.Ok) (k : Nat) (hk : t.wt + 2 < k) : icall Try.prog cfg k 9 [t.av] [] = some (.ret (.d (.bool (decide (weighT t 500 30 ≤ 500)))), []) := by
  obtain ⟨k, rfl⟩ : ∃ j, k = j + 1 := ⟨k - 1, by omega⟩
  show icall Try.prog cfg _ _ [.agg [.d (.int .i64 t.kind), .d (.int .i64 t.n), .d (.str t.name), .d (.list (cellsL t.kids))]] [] = _
  rw [icall_body rfl Try.func9]
  obtain ⟨lp, hlp⟩ : ∃ lp, lp = lpOf Try.prog cfg (icall Try.prog cfg k) Try.f9.ntmps 9 k (([] : Hp).map (·.1)) := ⟨_, rfl⟩
  rw [← hlp]
  conv => lhs; whnf
  refine nextK_of (weight14 t 500 ho (by omega) (by omega) k (by omega)) ?_
  conv => lhs; whnf
  refine Eq.trans (b := some (Res.ret (AV.d (D.bool (decide (weighT t (500 : Int) (30 : Int) ≤ (500 : Int))))), [])) (by kernel_rfl) ?_
  rfl
theorem law3 (t : T) (ho : t.Ok) (hs : t.Sm) (k : Nat) (hk : t.wt + 4 < k) : icall Try.prog cfg k 3 [t.av] [] = some (.ret (.d (.bool true)), []) := by
  obtain ⟨k, rfl⟩ : ∃ j, k = j + 1 := ⟨k - 1, by omega⟩
  show icall Try.prog cfg _ _ [.agg [.d (.int .i64 t.kind), .d (.int .i64 t.n), .d (.str t.name), .d (.list (cellsL t.kids))]] [] = _
  rw [icall_body rfl Try.func3]
  obtain ⟨lp, hlp⟩ : ∃ lp, lp = lpOf Try.prog cfg (icall Try.prog cfg k) Try.f3.ntmps 3 k (([] : Hp).map (·.1)) := ⟨_, rfl⟩
  rw [← hlp]
  have c1 := truth85 t hs ho k (by omega)
  have c2 := truth86 t hs ho k (by omega)
  generalize truthP t = e at c1 c2
  obtain ⟨b, e⟩ := e
  cases b
  · conv => lhs; whnf
    refine nextK_b (light9 t ho k (by omega)) (fun h1 => ?_) (fun h1 => ?_)
    · conv => lhs; whnf
      refine nextK_of c1 ?_
      conv => lhs; whnf
      refine nextK_of c2 ?_
      conv => lhs; whnf
      refine iteK_beq (fun h2 => ?_) (fun h2 => ?_)
      · rw [beq_t h2]
        conv => lhs; whnf
        refine nextK_of (works10 k (by omega)) ?_
        conv => lhs; whnf
        refine Eq.trans (b := some (Res.ret (AV.d (D.bool true)), [])) (by kernel_rfl) ?_
        rfl
      · rw [beq_f h2]
        (exfalso; omega)
    · conv => lhs; whnf
      refine nextK_of (works10 k (by omega)) ?_
      conv => lhs; whnf
      refine Eq.trans (b := some (Res.ret (AV.d (D.bool true)), [])) (by kernel_rfl) ?_
      rfl
  · conv => lhs; whnf
    refine nextK_b (light9 t ho k (by omega)) (fun h1 => ?_) (fun h1 => ?_)
    · conv => lhs; whnf
      refine nextK_of c1 ?_
      conv => lhs; whnf
      refine nextK_of c2 ?_
      conv => lhs; whnf
      refine iteK_beq (fun h2 => ?_) (fun h2 => ?_)
      · rw [beq_t h2]
        conv => lhs; whnf
        refine nextK_of (works10 k (by omega)) ?_
        conv => lhs; whnf
        refine Eq.trans (b := some (Res.ret (AV.d (D.bool true)), [])) (by kernel_rfl) ?_
        rfl
      · rw [beq_f h2]
        (exfalso; omega)
    · conv => lhs; whnf
      refine nextK_of (works10 k (by omega)) ?_
      conv => lhs; whnf
      refine Eq.trans (b := some (Res.ret (AV.d (D.bool true)), [])) (by kernel_rfl) ?_
      rfl
end Go.Rx08
