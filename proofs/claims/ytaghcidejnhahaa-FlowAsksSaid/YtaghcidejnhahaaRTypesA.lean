/- A part of the proof of the law: what functions of the program come to, walked by Rx, or plain facts on it. -/
import Derived.Test.YtaghcidejnhahaaRxCfg12
import Derived.Test.YtaghcidejnhahaaRSpecA
open Go Go.Rx Go.Proofs Go.Rx12 Go.RxTree
set_option maxRecDepth 1000000
set_option maxHeartbeats 4000000
set_option linter.unusedVariables false
set_option linter.unusedSimpArgs false
namespace Go.Rx12
theorem shape_w (x : Int) (k : Nat) (hk : 0 < k) : icall Try.prog cfg k 82 [.d (.int .i64 x)] [] = some (.ret (.tuple [.d (.int .i64 (shapeP x).1), .d (.int .i64 (shapeP x).2)]), []) := by
  obtain ⟨k, rfl⟩ : ∃ j, k = j + 1 := ⟨k - 1, by omega⟩
  rw [icall_body rfl Try.func82]
  obtain ⟨lp, hlp⟩ : ∃ lp, lp = lpOf Try.prog cfg (icall Try.prog cfg k) Try.f82.ntmps 82 k (([] : Hp).map (·.1)) := ⟨_, rfl⟩
  rw [← hlp]
  conv => lhs; whnf
  refine iteK_beq (fun h1 => ?_) (fun h1 => ?_)
  · obtain rfl : x = (1 : Int) := h1
    conv => lhs; whnf
    refine Eq.trans (b := some (Res.ret (AV.tuple [AV.d (D.int IntKind.i64 (0 : Int)), AV.d (D.int IntKind.i64 (0 : Int))]), [])) (by kernel_rfl) ?_
    rfl
  · rw [beq_f h1]
    conv => lhs; whnf
    refine iteK_beq (fun h2 => ?_) (fun h2 => ?_)
    · obtain rfl : x = (2 : Int) := h2
      conv => lhs; whnf
      refine Eq.trans (b := some (Res.ret (AV.tuple [AV.d (D.int IntKind.i64 (0 : Int)), AV.d (D.int IntKind.i64 (0 : Int))]), [])) (by kernel_rfl) ?_
      rfl
    · rw [beq_f h2]
      conv => lhs; whnf
      refine iteK_beq (fun h3 => ?_) (fun h3 => ?_)
      · obtain rfl : x = (5 : Int) := h3
        conv => lhs; whnf
        refine Eq.trans (b := some (Res.ret (AV.tuple [AV.d (D.int IntKind.i64 (0 : Int)), AV.d (D.int IntKind.i64 (0 : Int))]), [])) (by kernel_rfl) ?_
        rfl
      · rw [beq_f h3]
        conv => lhs; whnf
        refine iteK_beq (fun h4 => ?_) (fun h4 => ?_)
        · obtain rfl : x = (7 : Int) := h4
          conv => lhs; whnf
          refine Eq.trans (b := some (Res.ret (AV.tuple [AV.d (D.int IntKind.i64 (0 : Int)), AV.d (D.int IntKind.i64 (0 : Int))]), [])) (by kernel_rfl) ?_
          rfl
        · rw [beq_f h4]
          conv => lhs; whnf
          refine iteK_beq (fun h5 => ?_) (fun h5 => ?_)
          · obtain rfl : x = (8 : Int) := h5
            conv => lhs; whnf
            refine Eq.trans (b := some (Res.ret (AV.tuple [AV.d (D.int IntKind.i64 (0 : Int)), AV.d (D.int IntKind.i64 (0 : Int))]), [])) (by kernel_rfl) ?_
            rfl
          · rw [beq_f h5]
            conv => lhs; whnf
            refine iteK_beq (fun h6 => ?_) (fun h6 => ?_)
            · obtain rfl : x = (9 : Int) := h6
              conv => lhs; whnf
              refine Eq.trans (b := some (Res.ret (AV.tuple [AV.d (D.int IntKind.i64 (0 : Int)), AV.d (D.int IntKind.i64 (0 : Int))]), [])) (by kernel_rfl) ?_
              rfl
            · rw [beq_f h6]
              conv => lhs; whnf
              refine iteK_beq (fun h7 => ?_) (fun h7 => ?_)
              · obtain rfl : x = (10 : Int) := h7
                conv => lhs; whnf
                refine Eq.trans (b := some (Res.ret (AV.tuple [AV.d (D.int IntKind.i64 (0 : Int)), AV.d (D.int IntKind.i64 (0 : Int))]), [])) (by kernel_rfl) ?_
                rfl
              · rw [beq_f h7]
                conv => lhs; whnf
                refine iteK_beq (fun h8 => ?_) (fun h8 => ?_)
                · obtain rfl : x = (12 : Int) := h8
                  conv => lhs; whnf
                  refine Eq.trans (b := some (Res.ret (AV.tuple [AV.d (D.int IntKind.i64 (0 : Int)), AV.d (D.int IntKind.i64 (1 : Int))]), [])) (by kernel_rfl) ?_
                  rfl
                · rw [beq_f h8]
                  conv => lhs; whnf
                  refine iteK_beq (fun h9 => ?_) (fun h9 => ?_)
                  · obtain rfl : x = (11 : Int) := h9
                    conv => lhs; whnf
                    refine Eq.trans (b := some (Res.ret (AV.tuple [AV.d (D.int IntKind.i64 (-1 : Int)), AV.d (D.int IntKind.i64 (1 : Int))]), [])) (by kernel_rfl) ?_
                    rfl
                  · rw [beq_f h9]
                    conv => lhs; whnf
                    refine Eq.trans (b := some (Res.ret (AV.tuple [AV.d (D.int IntKind.i64 (1 : Int)), AV.d (D.int IntKind.i64 (1 : Int))]), [])) (by kernel_rfl) ?_
                    simp_all [shapeP]
end Go.Rx12
