/- A part of the proof of the law: what functions of the program come to, walked by Rx, or plain facts on it. -/
import Derived.Test.YtbeppoonnbfdeaaRPar4
import Derived.Test.YtbeppoonnbfdeaaRLex2
import Derived.Test.YtbeppoonnbfdeaaRCheckX
open Go Go.Rx Go.Proofs Go.Rx07.P Go.RxTree
set_option maxRecDepth 1000000
set_option maxHeartbeats 4000000
set_option linter.unusedVariables false
set_option linter.unusedSimpArgs false
namespace Go.Rx07.P
def sA (l : List W) (s : List UInt8) : St := ⟨[(14, .d (.bool false)), (13, .d (.int .i64 0)), (12, .ptr (.slot 3) 0), (4, .d (.list (l.map W.cells))), (11, .agg [.d (.int .i64 0), .d (.int .i64 0)]), (10, .d (.list (l.map W.cells))), (7, .tuple [.d (.list (l.map W.cells)), .agg [.d (.int .i64 0), .d (.int .i64 0)]]), (9, .tuple [.d (.list (l.map W.cells)), .agg [.d (.int .i64 0), .d (.int .i64 0)]]), (8, .d (.str s)), (3, .ptr (.slot 3) 0), (2, .ptr (.slot 2) 0), (0, .d (.str s))], [(.slot 3, .cells [.d (.int .i64 0), .d (.int .i64 0)]), (.slot 3, .cells [.d (.int .i64 0), .d (.int .i64 0)]), (.slot 2, .cells [.d (.int .i64 0), .d (.int .i64 0), .d (.str []), .nilsl])]⟩
def sB (l : List W) (s : List UInt8) : St := ⟨(17, .fn 20 [.ptr (.slot 2) 0, .ptr (.slot 3) 0]) :: (sA l s).fr, (sA l s).H⟩
theorem bind_s {α : Type} (x : Option α) : x.bind some = x := by cases x <;> rfl
theorem pk_A (s : List UInt8) (k : Nat) (l : List W) (hs : icall Try.prog cfg k 19 [.d (.str s)] [] = some (.ret (.tuple [.d (.list (l.map W.cells)), .agg [.d (.int .i64 0), .d (.int .i64 0)]]), [])) {lp : LP} (hlp : lp = lpOf Try.prog cfg (icall Try.prog cfg k) Try.f10.ntmps 10 k []) :
    codeK Try.prog cfg (icall Try.prog cfg k) lp Try.f10.ntmps (seqs xs10 .skip) ⟨frOf 0 [.d (.str s)], []⟩ some = some (.norm, sA l s) := by
  conv => lhs; whnf
  refine nextK_of hs ?_
  conv => lhs; whnf
  refine Eq.trans (b := some (Fx.norm, St.mk [((14 : Nat), AV.d (D.bool false)), ((13 : Nat), AV.d (D.int IntKind.i64 (0 : Int))), ((12 : Nat), AV.ptr (Nm.slot (3 : Nat)) (0 : Nat)), ((4 : Nat), AV.d (D.list (List.map W.cells l))), ((11 : Nat), AV.agg [AV.d (D.int IntKind.i64 (0 : Int)), AV.d (D.int IntKind.i64 (0 : Int))]), ((10 : Nat), AV.d (D.list (List.map W.cells l))), ((7 : Nat), AV.tuple [AV.d (D.list (List.map W.cells l)), AV.agg [AV.d (D.int IntKind.i64 (0 : Int)), AV.d (D.int IntKind.i64 (0 : Int))]]), ((9 : Nat), AV.tuple [AV.d (D.list (List.map W.cells l)), AV.agg [AV.d (D.int IntKind.i64 (0 : Int)), AV.d (D.int IntKind.i64 (0 : Int))]]), ((8 : Nat), AV.d (D.str s)), ((3 : Nat), AV.ptr (Nm.slot (3 : Nat)) (0 : Nat)), ((2 : Nat), AV.ptr (Nm.slot (2 : Nat)) (0 : Nat)), ((0 : Nat), AV.d (D.str s))] [(Nm.slot (3 : Nat), AObj.cells [AV.d (D.int IntKind.i64 (0 : Int)), AV.d (D.int IntKind.i64 (0 : Int))]), (Nm.slot (3 : Nat), AObj.cells [AV.d (D.int IntKind.i64 (0 : Int)), AV.d (D.int IntKind.i64 (0 : Int))]), (Nm.slot (2 : Nat), AObj.cells [AV.d (D.int IntKind.i64 (0 : Int)), AV.d (D.int IntKind.i64 (0 : Int)), AV.d (D.str []), AV.nilsl])])) (by kernel_rfl) ?_
  rfl
theorem pk_B (s : List UInt8) (k : Nat) (l : List W) : runOp Try.prog cfg (icall Try.prog cfg k) Try.f10.ntmps opF (sA l s) = some (none, sB l s) := by kernel_rfl
/-- What Parse comes to, where its text has words. -/
noncomputable def finK (k : Nat) : Fx × St → Option (Res × Hp) := fun r3 => match r3.1 with
  | .norm => finish Try.prog false Try.f10 [] (.ret, r3.2)
  | .ret => finish Try.prog false Try.f10 [] (.ret, r3.2)
  | .pan v => (callA cfg (icRec k) 0 20 [.ptr (.slot 2) 0, .ptr (.slot 3) 0, v] r3.2.H).bind fun r4 => match r4.1 with
    | .ret _ => finish Try.prog false Try.f10 [] (.ret, ⟨r3.2.fr, r4.2⟩)
    | .pan _ => none
  | .exit _ => none
theorem pk_eq (s : List UInt8) (k : Nat) (l : List W) (hs : icall Try.prog cfg k 19 [.d (.str s)] [] = some (.ret (.tuple [.d (.list (l.map W.cells)), .agg [.d (.int .i64 0), .d (.int .i64 0)]]), [])) :
    parseK k [.d (.str s)] [] = (runCode Try.prog cfg (icall Try.prog cfg k) Try.f10.ntmps 10 k [] rest10 (sB l s)).bind (finK k) := by
  have hA := pk_A s k l hs rfl
  rw [codeK_eq, bind_s] at hA
  unfold parseK icDef
  dsimp only
  rw [if_pos (show [AV.d (D.str s)].length ≤ Try.f10.ntmps from (by decide : 1 ≤ 43)), hA, Option.bind_some]
  dsimp only
  rw [pk_B, Option.bind_some]
  dsimp only
  rw [show (sB l s).fr.get 17 = .fn 20 [.ptr (.slot 2) 0, .ptr (.slot 3) 0] from rfl]
  dsimp only
  rw [if_pos rfl]
  rfl
theorem pk_err (s : List UInt8) (k : Nat) (er at' : Int) (hs : icall Try.prog cfg k 19 [.d (.str s)] [] = some (.ret (.tuple [.d (.list []), .agg [.d (.int .i64 er), .d (.int .i64 at')]]), [])) (her : er ≠ 0) :
    parseK k [.d (.str s)] [] = some (.ret (.tuple [.agg [.d (.int .i64 0), .d (.int .i64 0), .d (.str []), .d (.list [])], .agg [.d (.int .i64 er), .d (.int .i64 at')]]), []) := by
  unfold parseK icDef
  simp only [← codeK_eq]
  obtain ⟨lp, hlp⟩ : ∃ lp, lp = lpOf Try.prog cfg (icall Try.prog cfg k) Try.f10.ntmps 10 k [] := ⟨_, rfl⟩
  rw [← hlp]
  conv => lhs; whnf
  refine nextK_of hs ?_
  conv => lhs; whnf
  refine iteK_bne_t her ?_
  conv => lhs; whnf
  refine iteO_t (by kernel_rfl) ?_
  conv => lhs; whnf
  refine iteO_t (by kernel_rfl) ?_
  conv => lhs; whnf
  refine Eq.trans (b := some (Res.ret (AV.tuple [AV.agg [AV.d (D.int IntKind.i64 (0 : Int)), AV.d (D.int IntKind.i64 (0 : Int)), AV.d (D.str []), AV.d (D.list [])], AV.agg [AV.d (D.int IntKind.i64 er), AV.d (D.int IntKind.i64 at')]]), [])) (by kernel_rfl) ?_
  rfl
end Go.Rx07.P
