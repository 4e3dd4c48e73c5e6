/- A part of the proof of the law: what functions of the program come to, walked by Rx, or plain facts on it. -/
import Derived.Test.YtbeppoonnbfdeaaRPrint
import Derived.Test.YtbeppoonnbfdeaaRBr2
open Go Go.Rx Go.Proofs Go.Rx07 Go.RxTree
set_option maxRecDepth 1000000
set_option maxHeartbeats 4000000
set_option linter.unusedVariables false
set_option linter.unusedSimpArgs false
namespace Go.Rx07
open Go.Rx07.P (POut T0 parseX_t parseS parseX_s parseS_out parseS_br)
theorem law8 (s : List UInt8) (hs : s.length ≤ maxLen) (hs2 : s.length ≤ 140737488351232) (k : Nat) (hk : 10000000 < k) : icall Try.prog cfg k 8 [.d (.str s)] [] = some (.ret (.d (.bool true)), []) := by
  obtain ⟨k, rfl⟩ : ∃ j, k = j + 1 := ⟨k - 1, by omega⟩
  have wk := works9 k (by omega)
  by_cases hbig : (s.length : Int) > 1500
  · rw [icall_body rfl Try.func8]
    obtain ⟨lp, hlp⟩ : ∃ lp, lp = lpOf Try.prog cfg (icall Try.prog cfg k) Try.f8.ntmps 8 k (([] : Hp).map (·.1)) := ⟨_, rfl⟩
    rw [← hlp]
    conv => lhs; whnf
    refine iteK_dec_t hbig ?_
    conv => lhs; whnf
    refine nextK_of wk ?_
    conv => lhs; whnf
    refine Eq.trans (b := some (Res.ret (AV.d (D.bool true)), [])) (by kernel_rfl) ?_
    rfl
  have hp1 := parseX_s s
  have hp2 := parseX_s (([40] ++ s) ++ [41])
  rw [← parse10 _ k (by omega)] at hp1 hp2
  have ho := parseS_out s
  have hbr : ∀ x at', parseS s = (x, 0, at') → _ := fun x at' h => parseS_br s (by omega) x at' h
  replace hbr : ∀ x at', parseS s = (x, 0, at') → (parseS (([40] ++ s) ++ [41])).2.1 = 6 ∨ ((parseS (([40] ++ s) ++ [41])).2.1 = 0 ∧ (parseS (([40] ++ s) ++ [41])).1 = x) := hbr
  have hlim : (1000000000 : Nat) ≤ lim := by decide
  have l1 : ([40] : List UInt8).length + s.length ≤ lim := by simp; omega
  have l2 : (([40] : List UInt8) ++ s).length + ([41] : List UInt8).length ≤ lim := by simp; omega
  generalize parseS s = r1 at *
  generalize parseS (([40] ++ s) ++ [41]) = r2 at *
  obtain ⟨x, er, a1⟩ := r1
  obtain ⟨y, er2, a2⟩ := r2
  dsimp only at ho hbr
  replace hp1 : icall Try.prog cfg k 10 [.d (.str s)] [] = some (.ret (.tuple [.agg [.d (.int .i64 x.kind), .d (.int .i64 x.n), .d (.str x.name), .d (.list (cellsL x.kids))], .agg [.d (.int .i64 er), .d (.int .i64 a1)]]), []) := hp1
  replace hp2 : icall Try.prog cfg k 10 [.d (.str (([40] ++ s) ++ [41]))] [] = some (.ret (.tuple [.agg [.d (.int .i64 y.kind), .d (.int .i64 y.n), .d (.str y.name), .d (.list (cellsL y.kids))], .agg [.d (.int .i64 er2), .d (.int .i64 a2)]]), []) := hp2
  by_cases her : er = 0
  · rcases ho with ⟨_, _, hox, hsx, hck, hwt⟩ | ⟨ho, _⟩
    · subst her
      rcases hbr x a1 rfl with rfl | ⟨rfl, rfl⟩
      · rw [icall_body rfl Try.func8]
        obtain ⟨lp, hlp⟩ : ∃ lp, lp = lpOf Try.prog cfg (icall Try.prog cfg k) Try.f8.ntmps 8 k (([] : Hp).map (·.1)) := ⟨_, rfl⟩
        rw [← hlp]
        conv => lhs; whnf
        refine iteK_dec_f hbig ?_
        conv => lhs; whnf
        refine nextK_of hp1 ?_
        conv => lhs; whnf
        refine nextK_of (aop_add rfl rfl l1) ?_
        conv => lhs; whnf
        refine nextK_of (aop_add rfl rfl l2) ?_
        conv => lhs; whnf
        refine nextK_of hp2 ?_
        conv => lhs; whnf
        refine nextK_of wk ?_
        conv => lhs; whnf
        refine Eq.trans (b := some (Res.ret (AV.d (D.bool true)), [])) (by kernel_rfl) ?_
        rfl
      · have hsm := same12 _ y y (Nat.le_refl _) hox k (by omega)
        rw [sameT_refl] at hsm
        replace hsm : icall Try.prog cfg k 12 [.agg [.d (.int .i64 y.kind), .d (.int .i64 y.n), .d (.str y.name), .d (.list (cellsL y.kids))], .agg [.d (.int .i64 y.kind), .d (.int .i64 y.n), .d (.str y.name), .d (.list (cellsL y.kids))]] [] = some (.ret (.d (.bool true)), []) := hsm
        rw [icall_body rfl Try.func8]
        obtain ⟨lp, hlp⟩ : ∃ lp, lp = lpOf Try.prog cfg (icall Try.prog cfg k) Try.f8.ntmps 8 k (([] : Hp).map (·.1)) := ⟨_, rfl⟩
        rw [← hlp]
        conv => lhs; whnf
        refine iteK_dec_f hbig ?_
        conv => lhs; whnf
        refine nextK_of hp1 ?_
        conv => lhs; whnf
        refine nextK_of (aop_add rfl rfl l1) ?_
        conv => lhs; whnf
        refine nextK_of (aop_add rfl rfl l2) ?_
        conv => lhs; whnf
        refine nextK_of hp2 ?_
        conv => lhs; whnf
        refine nextK_of hsm ?_
        conv => lhs; whnf
        refine nextK_of wk ?_
        conv => lhs; whnf
        refine Eq.trans (b := some (Res.ret (AV.d (D.bool true)), [])) (by kernel_rfl) ?_
        rfl
    · exact absurd her ho
  · rw [icall_body rfl Try.func8]
    obtain ⟨lp, hlp⟩ : ∃ lp, lp = lpOf Try.prog cfg (icall Try.prog cfg k) Try.f8.ntmps 8 k (([] : Hp).map (·.1)) := ⟨_, rfl⟩
    rw [← hlp]
    conv => lhs; whnf
    refine iteK_dec_f hbig ?_
    conv => lhs; whnf
    refine nextK_of hp1 ?_
    conv => lhs; whnf
    refine nextK_of (aop_add rfl rfl l1) ?_
    conv => lhs; whnf
    refine nextK_of (aop_add rfl rfl l2) ?_
    conv => lhs; whnf
    refine nextK_of hp2 ?_
    conv => lhs; whnf
    refine iteK_bne_t her ?_
    conv => lhs; whnf
    refine iteK_bne_t her ?_
    conv => lhs; whnf
    refine iteK_bne_t her ?_
    conv => lhs; whnf
    refine iteK_bne_t her ?_
    conv => lhs; whnf
    refine nextK_of wk ?_
    conv => lhs; whnf
    refine Eq.trans (b := some (Res.ret (AV.d (D.bool true)), [])) (by kernel_rfl) ?_
    rfl
end Go.Rx07
