/- A part of the proof of the law: what functions of the program come to, walked by Rx, or plain facts on it. -/
import Derived.Test.YtahnmikdpclbfaaRReadS
import Derived.Test.YtahnmikdpclbfaaRTyped
open Go Go.Rx Go.Proofs Go.Rx11 Go.RxTree
set_option maxRecDepth 1000000
set_option maxHeartbeats 4000000
set_option linter.unusedVariables false
set_option linter.unusedSimpArgs false
namespace Go.Rx11
theorem readX15 (b : List UInt8) (hb : b.length ≤ 140737488351232) (k : Nat) (hk : (rdT 16 b).1.wt + 50 < k) : icall Try.prog cfg k 15 [.d (.list (bL b))] [] = some (.ret (.tuple [(rdX b).1.av, .d (.list (bL (rest b (rdX b).2.1 (rdX b).2.2))), .d (.int .i64 (rdX b).2.2)]), []) := by
  obtain ⟨k, rfl⟩ : ∃ j, k = j + 1 := ⟨k - 1, by omega⟩
  have hc := read37 16 (by omega) k (by omega) b 1 rfl (by unfold maxLen; omega)
  obtain ⟨o1, o2⟩ := rdT_ok 16 b hb
  have hk2 := check38 (rdT 16 b).1 o2 o1 k (by omega)
  have x1 := @rdX_e b
  have x2 := @rdX_c b
  have x3 := @rdX_0 b
  generalize rdT 16 b = r at *
  obtain ⟨⟨tk, tn, ts, tl⟩, q, e⟩ := r
  dsimp only at hc hk2 x1 x2 x3
  generalize checkT (T.mk tk tn ts tl) 1 = ec at *
  by_cases h0 : e = 0
  · subst h0
    by_cases hz : ec = 0
    · rw [x3 rfl hz]
      subst hz
      rw [icall_body rfl Try.func15]
      obtain ⟨lp, hlp⟩ : ∃ lp, lp = lpOf Try.prog cfg (icall Try.prog cfg k) Try.f15.ntmps 15 k (([] : Hp).map (·.1)) := ⟨_, rfl⟩
      rw [← hlp]
      conv => lhs; whnf
      refine nextK_of hc ?_
      conv => lhs; whnf
      refine nextK_of hk2 ?_
      conv => lhs; whnf
      refine Eq.trans (b := some (Res.ret (AV.tuple [AV.agg [AV.d (D.int IntKind.i64 (T.kind (T.mk tk tn ts tl))), AV.d (D.int IntKind.i64 (T.n (T.mk tk tn ts tl))), AV.d (D.str (T.name (T.mk tk tn ts tl))), AV.d (D.list (cellsL (T.kids (T.mk tk tn ts tl))))], AV.d (D.list (bL (rest b q (0 : Int)))), AV.d (D.int IntKind.i64 (0 : Int))]), [])) (by kernel_rfl) ?_
      rfl
    · rw [x2 rfl hz]
      dsimp only
      rw [rest_e _ _ hz]
      rw [icall_body rfl Try.func15]
      obtain ⟨lp, hlp⟩ : ∃ lp, lp = lpOf Try.prog cfg (icall Try.prog cfg k) Try.f15.ntmps 15 k (([] : Hp).map (·.1)) := ⟨_, rfl⟩
      rw [← hlp]
      conv => lhs; whnf
      refine nextK_of hc ?_
      conv => lhs; whnf
      refine nextK_of hk2 ?_
      conv => lhs; whnf
      refine iteK_bne_t hz ?_
      conv => lhs; whnf
      refine Eq.trans (b := some (Res.ret (AV.tuple [AV.agg [AV.d (D.int IntKind.i64 (0 : Int)), AV.d (D.int IntKind.i64 (0 : Int)), AV.d (D.str []), AV.d (D.list [])], AV.d (D.list []), AV.d (D.int IntKind.i64 ec)]), [])) (by kernel_rfl) ?_
      rfl
  · rw [x1 rfl h0]
    dsimp only
    rw [rest_e _ _ h0]
    rw [icall_body rfl Try.func15]
    obtain ⟨lp, hlp⟩ : ∃ lp, lp = lpOf Try.prog cfg (icall Try.prog cfg k) Try.f15.ntmps 15 k (([] : Hp).map (·.1)) := ⟨_, rfl⟩
    rw [← hlp]
    conv => lhs; whnf
    refine nextK_of hc ?_
    conv => lhs; whnf
    refine iteK_beq_f h0 ?_
    conv => lhs; whnf
    refine iteK_bne_t h0 ?_
    conv => lhs; whnf
    refine Eq.trans (b := some (Res.ret (AV.tuple [AV.agg [AV.d (D.int IntKind.i64 (0 : Int)), AV.d (D.int IntKind.i64 (0 : Int)), AV.d (D.str []), AV.d (D.list [])], AV.d (D.list []), AV.d (D.int IntKind.i64 e)]), [])) (by kernel_rfl) ?_
    rfl
theorem readX16 (b : List UInt8) (hb : b.length ≤ 140737488351232) (k : Nat) (hk : (rdT 16 b).1.wt + 50 < k) : icall Try.prog cfg k 16 [.d (.list (bL b))] [] = some (.ret (.tuple [(rdX b).1.av, .d (.int .i64 (rdX b).2.1), .d (.int .i64 (rdX b).2.2)]), []) := by
  obtain ⟨k, rfl⟩ : ∃ j, k = j + 1 := ⟨k - 1, by omega⟩
  have hc := read39 16 (by omega) k (by omega) b 1 rfl (by unfold maxLen; omega)
  obtain ⟨o1, o2⟩ := rdT_ok 16 b hb
  have hk2 := check19 (rdT 16 b).1 o2 o1 k (by omega)
  have x1 := @rdX_e b
  have x2 := @rdX_c b
  have x3 := @rdX_0 b
  generalize rdT 16 b = r at *
  obtain ⟨⟨tk, tn, ts, tl⟩, q, e⟩ := r
  dsimp only at hc hk2 x1 x2 x3
  generalize checkT (T.mk tk tn ts tl) 1 = ec at *
  by_cases h0 : e = 0
  · subst h0
    by_cases hz : ec = 0
    · rw [x3 rfl hz]
      subst hz
      rw [icall_body rfl Try.func16]
      obtain ⟨lp, hlp⟩ : ∃ lp, lp = lpOf Try.prog cfg (icall Try.prog cfg k) Try.f16.ntmps 16 k (([] : Hp).map (·.1)) := ⟨_, rfl⟩
      rw [← hlp]
      conv => lhs; whnf
      refine nextK_of hc ?_
      conv => lhs; whnf
      refine nextK_of hk2 ?_
      conv => lhs; whnf
      refine Eq.trans (b := some (Res.ret (AV.tuple [AV.agg [AV.d (D.int IntKind.i64 (T.kind (T.mk tk tn ts tl))), AV.d (D.int IntKind.i64 (T.n (T.mk tk tn ts tl))), AV.d (D.str (T.name (T.mk tk tn ts tl))), AV.d (D.list (cellsL (T.kids (T.mk tk tn ts tl))))], AV.d (D.int IntKind.i64 ↑q), AV.d (D.int IntKind.i64 (0 : Int))]), [])) (by kernel_rfl) ?_
      rfl
    · rw [x2 rfl hz]
      rw [icall_body rfl Try.func16]
      obtain ⟨lp, hlp⟩ : ∃ lp, lp = lpOf Try.prog cfg (icall Try.prog cfg k) Try.f16.ntmps 16 k (([] : Hp).map (·.1)) := ⟨_, rfl⟩
      rw [← hlp]
      conv => lhs; whnf
      refine nextK_of hc ?_
      conv => lhs; whnf
      refine nextK_of hk2 ?_
      conv => lhs; whnf
      refine iteK_bne_t hz ?_
      conv => lhs; whnf
      refine Eq.trans (b := some (Res.ret (AV.tuple [AV.agg [AV.d (D.int IntKind.i64 (0 : Int)), AV.d (D.int IntKind.i64 (0 : Int)), AV.d (D.str []), AV.d (D.list [])], AV.d (D.int IntKind.i64 (0 : Int)), AV.d (D.int IntKind.i64 ec)]), [])) (by kernel_rfl) ?_
      rfl
  · rw [x1 rfl h0]
    rw [icall_body rfl Try.func16]
    obtain ⟨lp, hlp⟩ : ∃ lp, lp = lpOf Try.prog cfg (icall Try.prog cfg k) Try.f16.ntmps 16 k (([] : Hp).map (·.1)) := ⟨_, rfl⟩
    rw [← hlp]
    conv => lhs; whnf
    refine nextK_of hc ?_
    conv => lhs; whnf
    refine iteK_beq_f h0 ?_
    conv => lhs; whnf
    refine iteK_bne_t h0 ?_
    conv => lhs; whnf
    refine Eq.trans (b := some (Res.ret (AV.tuple [AV.agg [AV.d (D.int IntKind.i64 (0 : Int)), AV.d (D.int IntKind.i64 (0 : Int)), AV.d (D.str []), AV.d (D.list [])], AV.d (D.int IntKind.i64 (0 : Int)), AV.d (D.int IntKind.i64 e)]), [])) (by kernel_rfl) ?_
    rfl
end Go.Rx11
