/- A part of the proof of the law: what functions of the program come to, walked by Rx, or plain facts on it. -/
import Derived.Test.YtghiaobecppbeaaRFoldK
open Go Go.Rx Go.Proofs Go.Rx08 Go.RxTree
set_option maxRecDepth 1000000
set_option maxHeartbeats 4000000
set_option linter.unusedVariables false
set_option linter.unusedSimpArgs false
namespace Go.Rx08
theorem fold35_0 (x n : Int) (s : List UInt8) (k : Nat) :
    icall Try.prog cfg (k + 4) 35 [.agg [.d (.int .i64 x), .d (.int .i64 n), .d (.str s), .d (.list [])]] [] = some (.ret (T.mk x n s []).av, []) := by
  show icall Try.prog cfg (k + 3 + 1) _ _ _ = _
  have cy := fun b => yes48 b (k + 3) (by omega)
  rw [icall_body rfl Try.func35]
  generalize icall Try.prog cfg (k + 3) = ic at *
  as_aux_lemma =>
    obtain ⟨lp, hlp⟩ : ∃ lp, lp = lpOf Try.prog cfg ic Try.f35.ntmps 35 (k + 3) ((([] : Hp)).map (·.1)) := ⟨_, rfl⟩
    rw [← hlp]
    conv => lhs; whnf
    refine (loop_goE hlp ?_)
    conv => lhs; whnf
    refine nextK_of (holdO_of (a := St.mk [((1 : Nat), AV.ptr (Nm.slot (1 : Nat)) (0 : Nat)), ((2 : Nat), AV.ptr (Nm.slot (2 : Nat)) (0 : Nat)), ((3 : Nat), AV.ptr (Nm.slot (3 : Nat)) (0 : Nat)), ((4 : Nat), AV.ptr (Nm.slot (4 : Nat)) (0 : Nat)), ((5 : Nat), AV.d (D.bool false)), ((27 : Nat), AV.d (D.list [])), ((28 : Nat), AV.d (D.int IntKind.i64 (0 : Int))), ((29 : Nat), AV.d (D.int IntKind.i64 (0 : Int)))] [(Nm.slot (1 : Nat), AObj.cells [AV.d (D.int IntKind.i64 x), AV.d (D.int IntKind.i64 n), AV.d (D.str s), AV.d (D.list [])]), (Nm.slot (2 : Nat), AObj.cells [AV.d (D.int IntKind.i64 (0 : Int)), AV.d (D.int IntKind.i64 (0 : Int)), AV.d (D.str []), AV.nilsl]), (Nm.slot (3 : Nat), AObj.cells [AV.d (D.int IntKind.i64 x), AV.d (D.int IntKind.i64 n), AV.d (D.str s), AV.nilsl]), (Nm.slot (4 : Nat), AObj.cells [AV.d (D.int IntKind.i64 (0 : Int)), AV.d (D.int IntKind.i64 (0 : Int))])]) (by kernel_rfl)) ?_
    conv => lhs; whnf
    refine nextK_of (holdO_of (a := (Fx.exit (0 : Nat), St.mk [((1 : Nat), AV.ptr (Nm.slot (1 : Nat)) (0 : Nat)), ((2 : Nat), AV.ptr (Nm.slot (2 : Nat)) (0 : Nat)), ((3 : Nat), AV.ptr (Nm.slot (3 : Nat)) (0 : Nat)), ((4 : Nat), AV.ptr (Nm.slot (4 : Nat)) (0 : Nat)), ((5 : Nat), AV.d (D.bool false))] [(Nm.slot (1 : Nat), AObj.cells [AV.d (D.int IntKind.i64 x), AV.d (D.int IntKind.i64 n), AV.d (D.str s), AV.d (D.list [])]), (Nm.slot (2 : Nat), AObj.cells [AV.d (D.int IntKind.i64 (0 : Int)), AV.d (D.int IntKind.i64 (0 : Int)), AV.d (D.str []), AV.nilsl]), (Nm.slot (3 : Nat), AObj.cells [AV.d (D.int IntKind.i64 x), AV.d (D.int IntKind.i64 n), AV.d (D.str s), AV.nilsl]), (Nm.slot (4 : Nat), AObj.cells [AV.d (D.int IntKind.i64 (0 : Int)), AV.d (D.int IntKind.i64 (0 : Int))])])) (by kernel_rfl)) ?_
    conv => lhs; whnf
    refine iteK_beq (fun h1 => ?_) (fun h1 => ?_)
    · obtain rfl : x = (13 : Int) := h1
      conv => lhs; whnf
      refine Eq.trans (b := some (Res.ret (AV.agg [AV.d (D.int IntKind.i64 (13 : Int)), AV.d (D.int IntKind.i64 n), AV.d (D.str s), AV.d (D.list [])]), [])) (by kernel_rfl) ?_
      rfl
    · rw [beq_f h1]
      conv => lhs; whnf
      refine iteK_beq (fun h2 => ?_) (fun h2 => ?_)
      · obtain rfl : x = (14 : Int) := h2
        conv => lhs; whnf
        refine Eq.trans (b := some (Res.ret (AV.agg [AV.d (D.int IntKind.i64 (14 : Int)), AV.d (D.int IntKind.i64 n), AV.d (D.str s), AV.d (D.list [])]), [])) (by kernel_rfl) ?_
        rfl
      · rw [beq_f h2]
        conv => lhs; whnf
        refine iteK_beq_f h1 ?_
        conv => lhs; whnf
        refine iteK_beq_f h1 ?_
        conv => lhs; whnf
        refine iteK_beq_f h1 ?_
        conv => lhs; whnf
        refine iteK_beq_f h1 ?_
        conv => lhs; whnf
        refine iteK_beq_f h2 ?_
        conv => lhs; whnf
        refine iteK_beq_f h2 ?_
        conv => lhs; whnf
        refine iteK_beq (fun h3 => ?_) (fun h3 => ?_)
        · obtain rfl : x = (6 : Int) := h3
          conv => lhs; whnf
          refine Eq.trans (b := some (Res.ret (AV.agg [AV.d (D.int IntKind.i64 (6 : Int)), AV.d (D.int IntKind.i64 n), AV.d (D.str s), AV.d (D.list [])]), [])) (by kernel_rfl) ?_
          rfl
        · rw [beq_f h3]
          conv => lhs; whnf
          refine iteK_beq (fun h4 => ?_) (fun h4 => ?_)
          · obtain rfl : x = (5 : Int) := h4
            conv => lhs; whnf
            refine Eq.trans (b := some (Res.ret (AV.agg [AV.d (D.int IntKind.i64 (5 : Int)), AV.d (D.int IntKind.i64 n), AV.d (D.str s), AV.d (D.list [])]), [])) (by kernel_rfl) ?_
            rfl
          · rw [beq_f h4]
            conv => lhs; whnf
            refine Eq.trans (b := some (Res.ret (AV.agg [AV.d (D.int IntKind.i64 x), AV.d (D.int IntKind.i64 n), AV.d (D.str s), AV.d (D.list [])]), [])) (by kernel_rfl) ?_
            rfl
end Go.Rx08
