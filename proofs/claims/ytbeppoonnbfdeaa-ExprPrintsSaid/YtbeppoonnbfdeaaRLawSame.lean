/- A part of the proof of the law: what functions of the program come to, walked by Rx, or plain facts on it. -/
import Derived.Test.YtbeppoonnbfdeaaRSameT
import Derived.Test.YtbeppoonnbfdeaaRWeight
open Go Go.Rx Go.Proofs Go.Rx07 Go.RxTree
set_option maxRecDepth 1000000
set_option maxHeartbeats 4000000
set_option linter.unusedVariables false
set_option linter.unusedSimpArgs false
namespace Go.Rx07
theorem works9 (k : Nat) (hk : 0 < k) : icall Try.prog cfg k 9 [] [] = some (.ret (.d (.bool true)), []) := by
  obtain ⟨k, rfl⟩ : ∃ j, k = j + 1 := ⟨k - 1, by omega⟩
  rfl
theorem light13 (a : T) (ho : a.Ok) (k : Nat) (hk : a.wt + 2 < k) : icall Try.prog cfg k 13 [a.av] [] = some (.ret (.d (.bool (decide (weighT a 500 30 ≤ 500)))), []) := by
  obtain ⟨k, rfl⟩ : ∃ j, k = j + 1 := ⟨k - 1, by omega⟩
  show icall Try.prog cfg _ _ [.agg [.d (.int .i64 a.kind), .d (.int .i64 a.n), .d (.str a.name), .d (.list (cellsL a.kids))]] [] = _
  rw [icall_body rfl Try.func13]
  obtain ⟨lp, hlp⟩ : ∃ lp, lp = lpOf Try.prog cfg (icall Try.prog cfg k) Try.f13.ntmps 13 k (([] : Hp).map (·.1)) := ⟨_, rfl⟩
  rw [← hlp]
  conv => lhs; whnf
  refine nextK_of (weight14 a 500 ho (by omega) (by omega) k (by omega)) ?_
  conv => lhs; whnf
  refine Eq.trans (b := some (Res.ret (AV.d (D.bool (decide (weighT a (500 : Int) (30 : Int) ≤ (500 : Int))))), [])) (by kernel_rfl) ?_
  rfl
theorem law5 (x : T) (hox : x.Ok) (hsx : x.Sm) (y : T) (hoy : y.Ok) (hsy : y.Sm) (k : Nat) (hk : x.wt + y.wt + 100 < k) : icall Try.prog cfg k 5 [x.av, y.av] [] = some (.ret (.d (.bool true)), []) := by
  obtain ⟨k, rfl⟩ : ∃ j, k = j + 1 := ⟨k - 1, by omega⟩
  have wk := works9 k (by omega)
  have c1 := light13 x hox k (by omega)
  have c2 := light13 y hoy k (by omega)
  have c3 := same18 _ x y (Nat.le_refl _) hox k (by omega)
  have c4 := same12 _ x y (Nat.le_refl _) hox k (by omega)
  have c5 := same18 _ x x (Nat.le_refl _) hox k (by omega)
  rw [sameT_refl] at c5
  generalize sameT x y = q at c3 c4
  show icall Try.prog cfg _ _ [.agg [.d (.int .i64 x.kind), .d (.int .i64 x.n), .d (.str x.name), .d (.list (cellsL x.kids))], .agg [.d (.int .i64 y.kind), .d (.int .i64 y.n), .d (.str y.name), .d (.list (cellsL y.kids))]] [] = _
  cases q
  · rw [icall_body rfl Try.func5]
    obtain ⟨lp, hlp⟩ : ∃ lp, lp = lpOf Try.prog cfg (icall Try.prog cfg k) Try.f5.ntmps 5 k (([] : Hp).map (·.1)) := ⟨_, rfl⟩
    rw [← hlp]
    conv => lhs; whnf
    refine nextK_b c1 (fun h1 => ?_) (fun h1 => ?_)
    · conv => lhs; whnf
      refine nextK_b c2 (fun h2 => ?_) (fun h2 => ?_)
      · conv => lhs; whnf
        refine iteO_t (by kernel_rfl) ?_
        conv => lhs; whnf
        refine nextK_of c3 ?_
        conv => lhs; whnf
        refine nextK_of c4 ?_
        conv => lhs; whnf
        refine nextK_of c5 ?_
        conv => lhs; whnf
        refine nextK_of wk ?_
        conv => lhs; whnf
        refine iteO_t (by kernel_rfl) ?_
        conv => lhs; whnf
        refine Eq.trans (b := some (Res.ret (AV.d (D.bool true)), [])) (by kernel_rfl) ?_
        rfl
      · conv => lhs; whnf
        refine nextK_of wk ?_
        conv => lhs; whnf
        refine Eq.trans (b := some (Res.ret (AV.d (D.bool true)), [])) (by kernel_rfl) ?_
        rfl
    · conv => lhs; whnf
      refine nextK_of wk ?_
      conv => lhs; whnf
      refine Eq.trans (b := some (Res.ret (AV.d (D.bool true)), [])) (by kernel_rfl) ?_
      rfl
  · rw [icall_body rfl Try.func5]
    obtain ⟨lp, hlp⟩ : ∃ lp, lp = lpOf Try.prog cfg (icall Try.prog cfg k) Try.f5.ntmps 5 k (([] : Hp).map (·.1)) := ⟨_, rfl⟩
    rw [← hlp]
    conv => lhs; whnf
    refine nextK_b c1 (fun h1 => ?_) (fun h1 => ?_)
    · conv => lhs; whnf
      refine nextK_b c2 (fun h2 => ?_) (fun h2 => ?_)
      · conv => lhs; whnf
        refine iteO_t (by kernel_rfl) ?_
        conv => lhs; whnf
        refine nextK_of c3 ?_
        conv => lhs; whnf
        refine nextK_of c4 ?_
        conv => lhs; whnf
        refine nextK_of c5 ?_
        conv => lhs; whnf
        refine nextK_of wk ?_
        conv => lhs; whnf
        refine iteO_t (by kernel_rfl) ?_
        conv => lhs; whnf
        refine Eq.trans (b := some (Res.ret (AV.d (D.bool true)), [])) (by kernel_rfl) ?_
        rfl
      · conv => lhs; whnf
        refine nextK_of wk ?_
        conv => lhs; whnf
        refine Eq.trans (b := some (Res.ret (AV.d (D.bool true)), [])) (by kernel_rfl) ?_
        rfl
    · conv => lhs; whnf
      refine nextK_of wk ?_
      conv => lhs; whnf
      refine Eq.trans (b := some (Res.ret (AV.d (D.bool true)), [])) (by kernel_rfl) ?_
      rfl
end Go.Rx07
