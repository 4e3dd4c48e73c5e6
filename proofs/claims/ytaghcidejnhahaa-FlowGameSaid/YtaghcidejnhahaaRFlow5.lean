/- A part of the proof of the law: what functions of the program come to, walked by Rx, or plain facts on it. -/
import Derived.Test.YtaghcidejnhahaaRFlow1
open Go Go.Rx Go.Proofs Go.Rx12 Go.RxTree
set_option maxRecDepth 1000000
set_option maxHeartbeats 4000000
set_option linter.unusedVariables false
set_option linter.unusedSimpArgs false
namespace Go.Rx12
/-- A walker that has not begun. -/
abbrev wkH0 (id : List UInt8) (pl : List (List D)) (n : Nat) (me fo de jo up : List (List D)) (e : Int) : Hp :=
  [(.arg 0, .cells [.d (.str id), .d (.list pl), .own (.cell (.arg 0) 2) 0 n, .own (.cell (.arg 0) 3) 0 n, .own (.cell (.arg 0) 4) 0 n, .own (.cell (.arg 0) 5) 0 n, .own (.cell (.arg 0) 6) 0 n, .nilsl, .d (.int .i64 e)]),
   (.cell (.arg 0) 2, .arr 4 1 0 me), (.cell (.arg 0) 3, .arr 3 1 0 fo), (.cell (.arg 0) 4, .arr 3 1 0 de), (.cell (.arg 0) 5, .arr 3 1 0 jo), (.cell (.arg 0) 6, .arr 3 1 0 up)]
theorem enter_first (id : List UInt8) (pl : List (List D)) (n : Nat) (me fo de jo up : List (List D)) (f0 d0 : Int) (ht : 0 < n) (hme : me[0]? = some [.bool false]) (hfo : fo[0]? = some [.int .i64 f0]) (hde : de[0]? = some [.int .i64 d0]) (k : Nat) (hk : 1 < k) : icall Try.prog cfg k 28 [.ptr (.arg 0) 0, .d (.int .i64 0), .d (.int .i64 0), .d (.int .i64 0)] (wkH0 id pl n me fo de jo up 0) = some (.ret (.tuple []), wkH id pl n (me.set 0 [.bool true]) (fo.set 0 [.int .i64 0]) (de.set 0 [.int .i64 0]) jo up 0 1 [[.int .i64 0]] 0) := by
  obtain ⟨k, rfl⟩ : ∃ j, k = j + 1 := ⟨k - 1, by omega⟩
  rw [icall_body rfl Try.func28]
  obtain ⟨lp, hlp⟩ : ∃ lp, lp = lpOf Try.prog cfg (icall Try.prog cfg k) Try.f28.ntmps 28 k ((wkH0 id pl n me fo de jo up 0).map (·.1)) := ⟨_, rfl⟩
  rw [← hlp]
  conv => lhs; whnf
  refine nextK_of (aop_ixO (i := 0) rfl rfl rfl rfl rfl rfl (by omega)) ?_
  conv => lhs; whnf
  refine nextK_of (aop_ldE1 rfl rfl hme rfl rfl rfl) ?_
  conv => lhs; whnf
  refine nextK_of (aop_ixO (i := 0) rfl rfl rfl rfl rfl rfl (by omega)) ?_
  conv => lhs; whnf
  refine nextK_of (aop_stE rfl rfl rfl rfl rfl hme rfl) ?_
  conv => lhs; whnf
  refine iteO_t (by kernel_rfl) ?_
  conv => lhs; whnf
  refine nextK_of (aop_ixO (i := 0) rfl rfl rfl rfl rfl rfl (by omega)) ?_
  conv => lhs; whnf
  refine nextK_of (aop_stE rfl rfl rfl rfl rfl hfo rfl) ?_
  conv => lhs; whnf
  refine nextK_of (aop_ixO (i := 0) rfl rfl rfl rfl rfl rfl (by omega)) ?_
  conv => lhs; whnf
  refine nextK_of (aop_stE rfl rfl rfl rfl rfl hde rfl) ?_
  conv => lhs; whnf
  refine iteO_t (by kernel_rfl) ?_
  conv => lhs; whnf
  refine Eq.trans (b := some (Res.ret (AV.tuple []), [(Nm.arg (0 : Nat), AObj.cells [AV.d (D.str id), AV.d (D.list pl), AV.own (Nm.cell (Nm.arg (0 : Nat)) (2 : Nat)) (0 : Nat) n, AV.own (Nm.cell (Nm.arg (0 : Nat)) (3 : Nat)) (0 : Nat) n, AV.own (Nm.cell (Nm.arg (0 : Nat)) (4 : Nat)) (0 : Nat) n, AV.own (Nm.cell (Nm.arg (0 : Nat)) (5 : Nat)) (0 : Nat) n, AV.own (Nm.cell (Nm.arg (0 : Nat)) (6 : Nat)) (0 : Nat) n, AV.own (Nm.cell (Nm.arg (0 : Nat)) (7 : Nat)) (0 : Nat) (List.length [[D.int IntKind.i64 (0 : Int)]]), AV.d (D.int IntKind.i64 (0 : Int))]), (Nm.cell (Nm.arg (0 : Nat)) (2 : Nat), AObj.arr (4 : Nat) (1 : Nat) (0 : Nat) (List.set me (0 : Nat) [D.bool true])), (Nm.cell (Nm.arg (0 : Nat)) (3 : Nat), AObj.arr (3 : Nat) (1 : Nat) (0 : Nat) (List.set fo (0 : Nat) [D.int IntKind.i64 (0 : Int)])), (Nm.cell (Nm.arg (0 : Nat)) (4 : Nat), AObj.arr (3 : Nat) (1 : Nat) (0 : Nat) (List.set de (0 : Nat) [D.int IntKind.i64 (0 : Int)])), (Nm.cell (Nm.arg (0 : Nat)) (5 : Nat), AObj.arr (3 : Nat) (1 : Nat) (0 : Nat) jo), (Nm.cell (Nm.arg (0 : Nat)) (6 : Nat), AObj.arr (3 : Nat) (1 : Nat) (0 : Nat) up), (Nm.cell (Nm.arg (0 : Nat)) (7 : Nat), AObj.arr (3 : Nat) (1 : Nat) (0 : Nat) [[D.int IntKind.i64 (0 : Int)]])])) (by kernel_rfl) ?_
  rfl
end Go.Rx12
