/- A part of the proof of the law: what functions of the program come to, walked by Rx, or plain facts on it. -/
import Derived.Test.YtbeppoonnbfdeaaRParR
open Go Go.Rx Go.Proofs Go.Rx07 Go.RxTree
set_option maxRecDepth 1000000
set_option maxHeartbeats 4000000
set_option linter.unusedVariables false
set_option linter.unusedSimpArgs false
namespace Go.Rx07
open Go.Rx07.P (POut T0 parseX_t parseS parseX_s parseS_out)
theorem same_self (t : T) (hs : t.Ok) (k : Nat) (hk : t.wt + 1 < k) : icall Try.prog cfg k 12 [.agg [.d (.int .i64 t.kind), .d (.int .i64 t.n), .d (.str t.name), .d (.list (cellsL t.kids))], .agg [.d (.int .i64 t.kind), .d (.int .i64 t.n), .d (.str t.name), .d (.list (cellsL t.kids))]] [] = some (.ret (.d (.bool true)), []) := by
  have := same12 _ t t (Nat.le_refl _) hs k (by omega)
  rw [sameT_refl] at this
  exact this
theorem law3 (s : List UInt8) (hs : s.length ≤ maxLen) (hs2 : s.length ≤ 140737488351232) (k : Nat) (hk : 20000000 < k) : icall Try.prog cfg k 3 [.d (.str s)] [] = some (.ret (.d (.bool true)), []) := by
  obtain ⟨k, rfl⟩ : ∃ j, k = j + 1 := ⟨k - 1, by omega⟩
  have wk := works9 k (by omega)
  by_cases hbig : (s.length : Int) > 1500
  · rw [icall_body rfl Try.func3]
    obtain ⟨lp, hlp⟩ : ∃ lp, lp = lpOf Try.prog cfg (icall Try.prog cfg k) Try.f3.ntmps 3 k (([] : Hp).map (·.1)) := ⟨_, rfl⟩
    rw [← hlp]
    conv => lhs; whnf
    refine iteK_dec_t hbig ?_
    conv => lhs; whnf
    refine nextK_of wk ?_
    conv => lhs; whnf
    refine Eq.trans (b := some (Res.ret (AV.d (D.bool true)), [])) (by kernel_rfl) ?_
    rfl
  have hp := parseX_s s
  rw [← parse10 _ k (by omega)] at hp
  have hq := parse11 s (by omega) k (by omega)
  have hpo := parseS_out s
  generalize parseS s = r at *
  obtain ⟨x, er, at'⟩ := r
  simp only [] at hp hq hpo
  have hw : x.Ok ∧ x.wt + 1 < k := by
    rcases hpo with ⟨_, _, h1, _, _, h2⟩ | ⟨_, h1, _⟩
    · exact ⟨h1, by omega⟩
    · subst h1
      have hw0 : T0.wt ≤ 100 := by decide
      exact ⟨⟨by decide, by decide, by simp, by simp, trivial⟩, by omega⟩
  have hsm := same_self x hw.1 k hw.2
  replace hp : icall Try.prog cfg k 10 [.d (.str s)] [] = some (.ret (.tuple [.agg [.d (.int .i64 x.kind), .d (.int .i64 x.n), .d (.str x.name), .d (.list (cellsL x.kids))], .agg [.d (.int .i64 er), .d (.int .i64 at')]]), []) := hp
  replace hq : icall Try.prog cfg k 11 [.d (.str s)] [] = some (.ret (.tuple [.agg [.d (.int .i64 x.kind), .d (.int .i64 x.n), .d (.str x.name), .d (.list (cellsL x.kids))], .agg [.d (.int .i64 er), .d (.int .i64 at')]]), []) := hq
  have e1 : (er == er) = true := beq_self_eq_true er
  have e2 : (at' == at') = true := beq_self_eq_true at'
  have ee : ((er == er) && ((at' == at') && true)) = true := by rw [e1, e2]; rfl
  have es : eqSt Try.prog 28 [.d (.int .i64 er), .d (.int .i64 at')] [.d (.int .i64 er), .d (.int .i64 at')] = some true := by
    have : eqSt Try.prog 28 [.d (.int .i64 er), .d (.int .i64 at')] [.d (.int .i64 er), .d (.int .i64 at')] = some ((er == er) && ((at' == at') && true)) := by kernel_rfl
    rw [this, ee]
  rw [icall_body rfl Try.func3]
  obtain ⟨lp, hlp⟩ : ∃ lp, lp = lpOf Try.prog cfg (icall Try.prog cfg k) Try.f3.ntmps 3 k (([] : Hp).map (·.1)) := ⟨_, rfl⟩
  rw [← hlp]
  conv => lhs; whnf
  refine iteK_dec_f hbig ?_
  conv => lhs; whnf
  refine nextK_of hp ?_
  conv => lhs; whnf
  refine nextK_of hq ?_
  conv => lhs; whnf
  refine nextK_of (aop_eqA rfl rfl es) ?_
  conv => lhs; whnf
  refine nextK_of hsm ?_
  conv => lhs; whnf
  refine nextK_of wk ?_
  conv => lhs; whnf
  refine Eq.trans (b := some (Res.ret (AV.d (D.bool true)), [])) (by kernel_rfl) ?_
  rfl
end Go.Rx07
