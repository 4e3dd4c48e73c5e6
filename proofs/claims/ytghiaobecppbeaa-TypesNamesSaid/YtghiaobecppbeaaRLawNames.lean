/- A part of the proof of the law: what functions of the program come to, walked by Rx, or plain facts on it. -/
import Derived.Test.YtghiaobecppbeaaRRef4
open Go Go.Rx Go.Proofs Go.Rx08 Go.RxTree
set_option maxRecDepth 1000000
set_option maxHeartbeats 4000000
set_option linter.unusedVariables false
set_option linter.unusedSimpArgs false
namespace Go.Rx08
theorem law4 (x : T) (ox : x.Ok) (sx : x.Sm) (a : List UInt8) (oa : a.length ≤ maxLen) (sa : a.length ≤ 140737488351232) (b : List UInt8) (ob : b.length ≤ maxLen) (sb : b.length ≤ 140737488351232) (k : Nat) (hk : x.wt + (renP a b x).1.wt + a.length + b.length + 70100 < k) : icall Try.prog cfg k 4 [x.av, .d (.str a), .d (.str b)] [] = some (.ret (.d (.bool true)), []) := by
  obtain ⟨k, rfl⟩ : ∃ j, k = j + 1 := ⟨k - 1, by omega⟩
  have wk := works10 k (by omega)
  have c0 := light9 x ox k (by omega)
  show icall Try.prog cfg _ _ [.agg [.d (.int .i64 x.kind), .d (.int .i64 x.n), .d (.str x.name), .d (.list (cellsL x.kids))], _, _] [] = _
  by_cases hl : weighT x 500 30 ≤ 500
  · rw [dec_t hl] at c0
    have hf := weighT_few x 500 30 ox (by omega) (by omega) hl
    have c3 := rename13 a b x hf ox sb k (by omega)
    have c4 := rename14 a b x hf ox sb k (by omega)
    have hyo : (renP a b x).1.Ok := by
      unfold renP
      split
      · exact ⟨by decide, by decide, by decide, by simp, trivial⟩
      · split
        · exact ⟨by decide, by decide, by decide, by simp, trivial⟩
        · exact ren_ok ob x ox
    have c5 := same15 (renP a b x).1.wt (renP a b x).1 (renP a b x).1 (Nat.le_refl _) hyo k (by omega)
    rw [sameT_refl] at c5
    have c6 := names17 x sx ox k (by omega)
    have c7 := names18 x sx ox k (by omega)
    have hn : (nmP x).length ≤ 65536 := by
      unfold nmP
      split
      · rename_i h; exact Nat.le_trans (uniq_len _) (names_most h)
      · simp
    have c8 := texts16 (nmP x) (by unfold maxLen; omega) k (by omega)
    generalize nmP x = l at c6 c7 c8
    generalize renP a b x = y at c3 c4 c5
    obtain ⟨y, e⟩ := y
    rw [icall_body rfl Try.func4]
    obtain ⟨lp, hlp⟩ : ∃ lp, lp = lpOf Try.prog cfg (icall Try.prog cfg k) Try.f4.ntmps 4 k (([] : Hp).map (·.1)) := ⟨_, rfl⟩
    rw [← hlp]
    conv => lhs; whnf
    refine nextK_of c0 ?_
    conv => lhs; whnf
    refine iteK_dec (fun h1 => ?_) (fun h1 => ?_)
    · rw [dec_t h1]
      conv => lhs; whnf
      refine nextK_of wk ?_
      conv => lhs; whnf
      refine Eq.trans (b := some (Res.ret (AV.d (D.bool true)), [])) (by kernel_rfl) ?_
      rfl
    · rw [dec_f h1]
      conv => lhs; whnf
      refine iteK_dec (fun h2 => ?_) (fun h2 => ?_)
      · rw [dec_t h2]
        conv => lhs; whnf
        refine nextK_of wk ?_
        conv => lhs; whnf
        refine Eq.trans (b := some (Res.ret (AV.d (D.bool true)), [])) (by kernel_rfl) ?_
        rfl
      · rw [dec_f h2]
        conv => lhs; whnf
        refine nextK_of c3 ?_
        conv => lhs; whnf
        refine nextK_of c4 ?_
        conv => lhs; whnf
        refine iteO_t (by kernel_rfl) ?_
        conv => lhs; whnf
        refine iteK_beq (fun h3 => ?_) (fun h3 => ?_)
        · rw [beq_t h3]
          conv => lhs; whnf
          refine nextK_of c5 ?_
          conv => lhs; whnf
          refine nextK_of c6 ?_
          conv => lhs; whnf
          refine nextK_of c7 ?_
          conv => lhs; whnf
          refine nextK_of c8 ?_
          conv => lhs; whnf
          refine nextK_of wk ?_
          conv => lhs; whnf
          refine iteO_t (by kernel_rfl) ?_
          conv => lhs; whnf
          refine Eq.trans (b := some (Res.ret (AV.d (D.bool true)), [])) (by kernel_rfl) ?_
          rfl
        · rw [beq_f h3]
          (exfalso; omega)
  · rw [dec_f hl] at c0
    rw [icall_body rfl Try.func4]
    obtain ⟨lp, hlp⟩ : ∃ lp, lp = lpOf Try.prog cfg (icall Try.prog cfg k) Try.f4.ntmps 4 k (([] : Hp).map (·.1)) := ⟨_, rfl⟩
    rw [← hlp]
    conv => lhs; whnf
    refine nextK_of c0 ?_
    conv => lhs; whnf
    refine nextK_of wk ?_
    conv => lhs; whnf
    refine Eq.trans (b := some (Res.ret (AV.d (D.bool true)), [])) (by kernel_rfl) ?_
    rfl
end Go.Rx08
