/- A part of the proof of the law: what functions of the program come to, walked by Rx, or plain facts on it. -/
import Derived.Test.YtbeppoonnbfdeaaRPar2
open Go Go.Rx Go.Proofs Go.Rx07.P Go.RxTree
set_option maxRecDepth 1000000
set_option maxHeartbeats 4000000
set_option linter.unusedVariables false
set_option linter.unusedSimpArgs false
namespace Go.Rx07.P
theorem l_exit0 (l : List W) (i : Nat) (z e lo d n : Int) (hz : z = (i : Int)) (k : Nat) (hk : 3 < k) (x : T) (hex : twoK (signL l i) = 0 ∨ levelK (twoK (signL l i)) ≠ lo ∨ (lo = 3 ∧ n > 1)) {lp : LP} (hlp : lp = lpOf Try.prog cfg (icall Try.prog cfg k) Try.f21.ntmps 21 k ((paZ l 0 0).map (·.1))) (lf : Nat) (st : St) (hp : prune [Nm.arg 0] [0, 1, 2, 6, 7, 8] st = some ⟨[(0, .ptr (.arg 0) 0), (1, .d (.int .i64 lo)), (2, .d (.int .i64 d)), (6, .ptr (.slot 6) 0), (7, .ptr (.slot 7) 0), (8, .d (.int .i64 n))], [(.arg 0, .cells [.d (.list (l.map W.cells)), .d (.int .i64 z), .d (.int .i64 e)]), (.slot 6, .cells [.d (.int .i64 0), .d (.int .i64 0), .d (.str []), .nilsl]), (.slot 7, .cells [.d (.int .i64 x.kind), .d (.int .i64 x.n), .d (.str x.name), .d (.list (cellsL x.kids))])]⟩) :
    loopK Try.prog cfg (icall Try.prog cfg k) lp Try.f21.ntmps 21 [Nm.arg 0] (bodyAt Try.f21 6) (lf + 1) st (exitP [Nm.arg 0] (some [6])) = some (.ret, ⟨[(6, .ptr (.slot 6) 0)], [(.arg 0, .cells [.d (.list (l.map W.cells)), .d (.int .i64 z), .d (.int .i64 e)]), (.slot 6, .cells [.d (.int .i64 x.kind), .d (.int .i64 x.n), .d (.str x.name), .d (.list (cellsL x.kids))])]⟩) := by
  have c1 := sign34z l i z e hz k (by omega)
  have c2 := two33 (signL l i) k (by omega)
  have c3 := level35 (twoK (signL l i)) k (by omega)
  generalize signL l i = s at *
  generalize twoK s = q at *
  generalize levelK q = v at *
  obtain ⟨xk, xn, xs, xl⟩ := x
  refine loop_step hp ?_
  by_cases g1 : q = 0
  · subst g1
    conv => lhs; whnf
    refine nextK_of c1 ?_
    conv => lhs; whnf
    refine nextK_of c2 ?_
    conv => lhs; whnf
    refine Eq.trans (b := some (Fx.ret, St.mk [((6 : Nat), AV.ptr (Nm.slot (6 : Nat)) (0 : Nat))] [(Nm.arg (0 : Nat), AObj.cells [AV.d (D.list (List.map W.cells l)), AV.d (D.int IntKind.i64 z), AV.d (D.int IntKind.i64 e)]), (Nm.slot (6 : Nat), AObj.cells [AV.d (D.int IntKind.i64 (T.kind (T.mk xk xn xs xl))), AV.d (D.int IntKind.i64 (T.n (T.mk xk xn xs xl))), AV.d (D.str (T.name (T.mk xk xn xs xl))), AV.d (D.list (cellsL (T.kids (T.mk xk xn xs xl))))])])) (by kernel_rfl) ?_
    rfl
  · by_cases g2 : v = lo
    · subst g2
      have g3 : v = 3 := by omega
      have g4 : n > 1 := by omega
      subst g3
      conv => lhs; whnf
      refine nextK_of c1 ?_
      conv => lhs; whnf
      refine nextK_of c2 ?_
      conv => lhs; whnf
      refine iteK_beq_f g1 ?_
      conv => lhs; whnf
      refine iteK_beq_f g1 ?_
      conv => lhs; whnf
      refine nextK_of c3 ?_
      conv => lhs; whnf
      refine iteK_beq_f g1 ?_
      conv => lhs; whnf
      refine iteK_beq_f g1 ?_
      conv => lhs; whnf
      refine iteK_beq_f g1 ?_
      conv => lhs; whnf
      refine iteK_dec_t g4 ?_
      conv => lhs; whnf
      refine Eq.trans (b := some (Fx.ret, St.mk [((6 : Nat), AV.ptr (Nm.slot (6 : Nat)) (0 : Nat))] [(Nm.arg (0 : Nat), AObj.cells [AV.d (D.list (List.map W.cells l)), AV.d (D.int IntKind.i64 z), AV.d (D.int IntKind.i64 e)]), (Nm.slot (6 : Nat), AObj.cells [AV.d (D.int IntKind.i64 (T.kind (T.mk xk xn xs xl))), AV.d (D.int IntKind.i64 (T.n (T.mk xk xn xs xl))), AV.d (D.str (T.name (T.mk xk xn xs xl))), AV.d (D.list (cellsL (T.kids (T.mk xk xn xs xl))))])])) (by kernel_rfl) ?_
      rfl
    · conv => lhs; whnf
      refine nextK_of c1 ?_
      conv => lhs; whnf
      refine nextK_of c2 ?_
      conv => lhs; whnf
      refine iteK_beq_f g1 ?_
      conv => lhs; whnf
      refine iteK_beq_f g1 ?_
      conv => lhs; whnf
      refine nextK_of c3 ?_
      conv => lhs; whnf
      refine iteK_beq_f g1 ?_
      conv => lhs; whnf
      refine iteK_beq_f g1 ?_
      conv => lhs; whnf
      refine iteK_beq_f g1 ?_
      conv => lhs; whnf
      refine iteK_bne_t g2 ?_
      conv => lhs; whnf
      refine iteK_bne_t g2 ?_
      conv => lhs; whnf
      refine iteK_bne_t g2 ?_
      conv => lhs; whnf
      refine iteK_bne_t g2 ?_
      conv => lhs; whnf
      refine iteK_bne_t g2 ?_
      conv => lhs; whnf
      refine Eq.trans (b := some (Fx.ret, St.mk [((6 : Nat), AV.ptr (Nm.slot (6 : Nat)) (0 : Nat))] [(Nm.arg (0 : Nat), AObj.cells [AV.d (D.list (List.map W.cells l)), AV.d (D.int IntKind.i64 z), AV.d (D.int IntKind.i64 e)]), (Nm.slot (6 : Nat), AObj.cells [AV.d (D.int IntKind.i64 (T.kind (T.mk xk xn xs xl))), AV.d (D.int IntKind.i64 (T.n (T.mk xk xn xs xl))), AV.d (D.str (T.name (T.mk xk xn xs xl))), AV.d (D.list (cellsL (T.kids (T.mk xk xn xs xl))))])])) (by kernel_rfl) ?_
      rfl
theorem l_next0 (l : List W) (i : Nat) (z e lo d n : Int) (hz : z = (i : Int)) (k : Nat) (hk : 3 < k) (x : T) (y : T) (z1 : Int) (q : Int) (hq : twoK (signL l i) = q) (g1 : q ≠ 0) (g2 : levelK q = lo) (g3 : ¬ (lo = 3 ∧ n > 1)) (h : icall Try.prog cfg k 21 [.ptr (.arg 0) 0, .d (.int .i64 (IntKind.i64.wrap (lo + 1))), .d (.int .i64 (IntKind.i64.wrap (d + 1)))] (paZ l (IntKind.i64.wrap (z + 1)) e) = some (.ret y.av, paZ l z1 e)) {lp : LP} (hlp : lp = lpOf Try.prog cfg (icall Try.prog cfg k) Try.f21.ntmps 21 k ((paZ l 0 0).map (·.1))) (lf : Nat) (st : St) (hp : prune [Nm.arg 0] [0, 1, 2, 6, 7, 8] st = some ⟨[(0, .ptr (.arg 0) 0), (1, .d (.int .i64 lo)), (2, .d (.int .i64 d)), (6, .ptr (.slot 6) 0), (7, .ptr (.slot 7) 0), (8, .d (.int .i64 n))], [(.arg 0, .cells [.d (.list (l.map W.cells)), .d (.int .i64 z), .d (.int .i64 e)]), (.slot 6, .cells [.d (.int .i64 0), .d (.int .i64 0), .d (.str []), .nilsl]), (.slot 7, .cells [.d (.int .i64 x.kind), .d (.int .i64 x.n), .d (.str x.name), .d (.list (cellsL x.kids))])]⟩) (r : Option (Fx × St))
    (hih : ∀ st', prune [Nm.arg 0] [0, 1, 2, 6, 7, 8] st' = some ⟨[(0, .ptr (.arg 0) 0), (1, .d (.int .i64 lo)), (2, .d (.int .i64 d)), (6, .ptr (.slot 6) 0), (7, .ptr (.slot 7) 0), (8, .d (.int .i64 (IntKind.i64.wrap (n + 1))))], [(.arg 0, .cells [.d (.list (l.map W.cells)), .d (.int .i64 z1), .d (.int .i64 e)]), (.slot 6, .cells [.d (.int .i64 0), .d (.int .i64 0), .d (.str []), .nilsl]), (.slot 7, .cells [.d (.int .i64 q), .d (.int .i64 0), .d (.str []), .own (.slot 57) 0 2]), ((.slot 57), .arr 25 4 0 [[.int .i64 x.kind, .int .i64 x.n, .str x.name, .list (cellsL x.kids)], [.int .i64 y.kind, .int .i64 y.n, .str y.name, .list (cellsL y.kids)]])]⟩ → loopK Try.prog cfg (icall Try.prog cfg k) lp Try.f21.ntmps 21 [Nm.arg 0] (bodyAt Try.f21 6) lf st' (exitP [Nm.arg 0] (some [6])) = r) :
    loopK Try.prog cfg (icall Try.prog cfg k) lp Try.f21.ntmps 21 [Nm.arg 0] (bodyAt Try.f21 6) (lf + 1) st (exitP [Nm.arg 0] (some [6])) = r := by
  have c1 := sign34z l i z e hz k (by omega)
  have c2 := two33 (signL l i) k (by omega)
  rw [hq] at c2
  have c3 := level35 q k (by omega)
  rw [g2] at c3
  generalize signL l i = s at *
  obtain ⟨xk, xn, xs, xl⟩ := x
  obtain ⟨yk, yn, ys, yl⟩ := y
  refine loop_step hp ?_
  by_cases g4 : lo = 3
  · subst g4
    have g5 : ¬ n > 1 := by omega
    conv => lhs; whnf
    refine nextK_of c1 ?_
    conv => lhs; whnf
    refine nextK_of c2 ?_
    conv => lhs; whnf
    refine iteK_beq_f g1 ?_
    conv => lhs; whnf
    refine iteK_beq_f g1 ?_
    conv => lhs; whnf
    refine nextK_of c3 ?_
    conv => lhs; whnf
    refine iteK_beq_f g1 ?_
    conv => lhs; whnf
    refine iteK_beq_f g1 ?_
    conv => lhs; whnf
    refine iteK_beq_f g1 ?_
    conv => lhs; whnf
    refine iteK_dec_f g5 ?_
    conv => lhs; whnf
    refine nextK_of h ?_
    conv => lhs; whnf
    refine iteO_t (by kernel_rfl) ?_
    conv => lhs; whnf
    refine nextK_of h ?_
    conv => lhs; whnf
    refine iteO_t (by kernel_rfl) ?_
    conv => lhs; whnf
    refine Eq.trans (hih _ rfl) ?_
    rfl
  · conv => lhs; whnf
    refine nextK_of c1 ?_
    conv => lhs; whnf
    refine nextK_of c2 ?_
    conv => lhs; whnf
    refine iteK_beq_f g1 ?_
    conv => lhs; whnf
    refine iteK_beq_f g1 ?_
    conv => lhs; whnf
    refine nextK_of c3 ?_
    conv => lhs; whnf
    refine iteK_beq_f g1 ?_
    conv => lhs; whnf
    refine iteK_beq_f g1 ?_
    conv => lhs; whnf
    refine iteK_beq_f g1 ?_
    conv => lhs; whnf
    refine iteK_bne (fun h1 => ?_) (fun h1 => ?_)
    · rw [bne_t h1]
      (exfalso; omega)
    · rw [bne_f h1]
      conv => lhs; whnf
      refine iteK_beq_f g4 ?_
      conv => lhs; whnf
      refine iteK_beq_f g4 ?_
      conv => lhs; whnf
      refine iteK_beq_f g4 ?_
      conv => lhs; whnf
      refine nextK_of h ?_
      conv => lhs; whnf
      refine iteO_t (by kernel_rfl) ?_
      conv => lhs; whnf
      refine nextK_of h ?_
      conv => lhs; whnf
      refine iteO_t (by kernel_rfl) ?_
      conv => lhs; whnf
      refine Eq.trans (hih _ rfl) ?_
      rfl
theorem l_pan0 (l : List W) (i : Nat) (z e lo d n : Int) (hz : z = (i : Int)) (k : Nat) (hk : 3 < k) (x : T) (er at' z1 : Int) (q : Int) (hq : twoK (signL l i) = q) (g1 : q ≠ 0) (g2 : levelK q = lo) (g3 : ¬ (lo = 3 ∧ n > 1)) (h : icall Try.prog cfg k 21 [.ptr (.arg 0) 0, .d (.int .i64 (IntKind.i64.wrap (lo + 1))), .d (.int .i64 (IntKind.i64.wrap (d + 1)))] (paZ l (IntKind.i64.wrap (z + 1)) e) = some (.pan (.iface 28 (.agg [.d (.int .i64 er), .d (.int .i64 at')])), paZ l z1 e)) {lp : LP} (hlp : lp = lpOf Try.prog cfg (icall Try.prog cfg k) Try.f21.ntmps 21 k ((paZ l 0 0).map (·.1))) :
    ∃ fr, ∀ (lf : Nat) (st : St), prune [Nm.arg 0] [0, 1, 2, 6, 7, 8] st = some ⟨[(0, .ptr (.arg 0) 0), (1, .d (.int .i64 lo)), (2, .d (.int .i64 d)), (6, .ptr (.slot 6) 0), (7, .ptr (.slot 7) 0), (8, .d (.int .i64 n))], [(.arg 0, .cells [.d (.list (l.map W.cells)), .d (.int .i64 z), .d (.int .i64 e)]), (.slot 6, .cells [.d (.int .i64 0), .d (.int .i64 0), .d (.str []), .nilsl]), (.slot 7, .cells [.d (.int .i64 x.kind), .d (.int .i64 x.n), .d (.str x.name), .d (.list (cellsL x.kids))])]⟩ → loopK Try.prog cfg (icall Try.prog cfg k) lp Try.f21.ntmps 21 [Nm.arg 0] (bodyAt Try.f21 6) (lf + 1) st (exitP [Nm.arg 0] (some [6])) = some (.pan (.iface 28 (.agg [.d (.int .i64 er), .d (.int .i64 at')])), ⟨fr, [(.arg 0, .cells [.d (.list (l.map W.cells)), .d (.int .i64 z1), .d (.int .i64 e)]), (.slot 6, .cells [.d (.int .i64 0), .d (.int .i64 0), .d (.str []), .nilsl]), (.slot 7, .cells [.d (.int .i64 x.kind), .d (.int .i64 x.n), .d (.str x.name), .d (.list (cellsL x.kids))])]⟩) := by
  have c1 := sign34z l i z e hz k (by omega)
  have c2 := two33 (signL l i) k (by omega)
  rw [hq] at c2
  have c3 := level35 q k (by omega)
  rw [g2] at c3
  generalize signL l i = s at *
  obtain ⟨xk, xn, xs, xl⟩ := x
  by_cases g4 : lo = 3
  · subst g4
    have g5 : ¬ n > 1 := by omega
    refine ⟨?_, fun lf st hp => ?_⟩
    rotate_left
    · refine loop_step hp ?_
      conv => lhs; whnf
      refine nextK_of c1 ?_
      conv => lhs; whnf
      refine nextK_of c2 ?_
      conv => lhs; whnf
      refine iteK_beq_f g1 ?_
      conv => lhs; whnf
      refine iteK_beq_f g1 ?_
      conv => lhs; whnf
      refine nextK_of c3 ?_
      conv => lhs; whnf
      refine iteK_beq_f g1 ?_
      conv => lhs; whnf
      refine iteK_beq_f g1 ?_
      conv => lhs; whnf
      refine iteK_beq_f g1 ?_
      conv => lhs; whnf
      refine iteK_dec_f g5 ?_
      conv => lhs; whnf
      refine nextK_of h ?_
      conv => lhs; whnf
      refine iteO_t (by kernel_rfl) ?_
      conv => lhs; whnf
      refine Eq.trans (b := some (Fx.pan (AV.iface (28 : Nat) (AV.agg [AV.d (D.int IntKind.i64 er), AV.d (D.int IntKind.i64 at')])), St.mk [((49 : Nat), AV.undef), ((50 : Nat), AV.undef), ((51 : Nat), AV.undef), ((52 : Nat), AV.undef), ((53 : Nat), AV.undef), ((54 : Nat), AV.undef), ((55 : Nat), AV.undef), ((56 : Nat), AV.undef), ((57 : Nat), AV.undef), ((58 : Nat), AV.undef), ((48 : Nat), AV.ptr (Nm.arg (0 : Nat)) (1 : Nat)), ((47 : Nat), AV.ptr (Nm.arg (0 : Nat)) (0 : Nat)), ((46 : Nat), AV.d (D.int IntKind.i64 (IntKind.wrap IntKind.i64 (z + (1 : Int))))), ((45 : Nat), AV.d (D.int IntKind.i64 z)), ((44 : Nat), AV.ptr (Nm.arg (0 : Nat)) (1 : Nat)), ((43 : Nat), AV.ptr (Nm.arg (0 : Nat)) (0 : Nat)), ((42 : Nat), AV.ptr (Nm.arg (0 : Nat)) (0 : Nat)), ((40 : Nat), AV.d (D.bool (decide (n > (1 : Int))))), ((39 : Nat), AV.d (D.bool (decide (n > (1 : Int))))), ((38 : Nat), AV.d (D.bool (decide (n > (1 : Int))))), ((37 : Nat), AV.d (D.int IntKind.i64 n)), ((36 : Nat), AV.d (D.bool true)), ((35 : Nat), AV.d (D.bool true)), ((34 : Nat), AV.d (D.int IntKind.i64 (3 : Int))), ((33 : Nat), AV.d (D.bool false)), ((32 : Nat), AV.d (D.bool false)), ((31 : Nat), AV.d (D.bool false)), ((30 : Nat), AV.d (D.int IntKind.i64 (3 : Int))), ((29 : Nat), AV.d (D.int IntKind.i64 (3 : Int))), ((28 : Nat), AV.d (D.int IntKind.i64 q)), ((27 : Nat), AV.d (D.bool (q == (0 : Int)))), ((26 : Nat), AV.d (D.bool (q == (0 : Int)))), ((25 : Nat), AV.d (D.int IntKind.i64 q)), ((9 : Nat), AV.d (D.int IntKind.i64 q)), ((24 : Nat), AV.d (D.int IntKind.i64 q)), ((23 : Nat), AV.d (D.str s)), ((22 : Nat), AV.ptr (Nm.arg (0 : Nat)) (0 : Nat)), ((0 : Nat), AV.ptr (Nm.arg (0 : Nat)) (0 : Nat)), ((1 : Nat), AV.d (D.int IntKind.i64 (3 : Int))), ((2 : Nat), AV.d (D.int IntKind.i64 d)), ((6 : Nat), AV.ptr (Nm.slot (6 : Nat)) (0 : Nat)), ((7 : Nat), AV.ptr (Nm.slot (7 : Nat)) (0 : Nat)), ((8 : Nat), AV.d (D.int IntKind.i64 n))] [(Nm.arg (0 : Nat), AObj.cells [AV.d (D.list (List.map W.cells l)), AV.d (D.int IntKind.i64 z1), AV.d (D.int IntKind.i64 e)]), (Nm.slot (6 : Nat), AObj.cells [AV.d (D.int IntKind.i64 (0 : Int)), AV.d (D.int IntKind.i64 (0 : Int)), AV.d (D.str []), AV.nilsl]), (Nm.slot (7 : Nat), AObj.cells [AV.d (D.int IntKind.i64 (T.kind (T.mk xk xn xs xl))), AV.d (D.int IntKind.i64 (T.n (T.mk xk xn xs xl))), AV.d (D.str (T.name (T.mk xk xn xs xl))), AV.d (D.list (cellsL (T.kids (T.mk xk xn xs xl))))])])) (by kernel_rfl) ?_
      rfl
  · refine ⟨?_, fun lf st hp => ?_⟩
    rotate_left
    · refine loop_step hp ?_
      conv => lhs; whnf
      refine nextK_of c1 ?_
      conv => lhs; whnf
      refine nextK_of c2 ?_
      conv => lhs; whnf
      refine iteK_beq_f g1 ?_
      conv => lhs; whnf
      refine iteK_beq_f g1 ?_
      conv => lhs; whnf
      refine nextK_of c3 ?_
      conv => lhs; whnf
      refine iteK_beq_f g1 ?_
      conv => lhs; whnf
      refine iteK_beq_f g1 ?_
      conv => lhs; whnf
      refine iteK_beq_f g1 ?_
      conv => lhs; whnf
      refine iteK_bne (fun h1 => ?_) (fun h1 => ?_)
      · rw [bne_t h1]
        (exfalso; omega)
      · rw [bne_f h1]
        conv => lhs; whnf
        refine iteK_beq_f g4 ?_
        conv => lhs; whnf
        refine iteK_beq_f g4 ?_
        conv => lhs; whnf
        refine iteK_beq_f g4 ?_
        conv => lhs; whnf
        refine nextK_of h ?_
        conv => lhs; whnf
        refine iteO_t (by kernel_rfl) ?_
        conv => lhs; whnf
        refine Eq.trans (b := some (Fx.pan (AV.iface (28 : Nat) (AV.agg [AV.d (D.int IntKind.i64 er), AV.d (D.int IntKind.i64 at')])), St.mk [((49 : Nat), AV.undef), ((50 : Nat), AV.undef), ((51 : Nat), AV.undef), ((52 : Nat), AV.undef), ((53 : Nat), AV.undef), ((54 : Nat), AV.undef), ((55 : Nat), AV.undef), ((56 : Nat), AV.undef), ((57 : Nat), AV.undef), ((58 : Nat), AV.undef), ((48 : Nat), AV.ptr (Nm.arg (0 : Nat)) (1 : Nat)), ((47 : Nat), AV.ptr (Nm.arg (0 : Nat)) (0 : Nat)), ((46 : Nat), AV.d (D.int IntKind.i64 (IntKind.wrap IntKind.i64 (z + (1 : Int))))), ((45 : Nat), AV.d (D.int IntKind.i64 z)), ((44 : Nat), AV.ptr (Nm.arg (0 : Nat)) (1 : Nat)), ((43 : Nat), AV.ptr (Nm.arg (0 : Nat)) (0 : Nat)), ((42 : Nat), AV.ptr (Nm.arg (0 : Nat)) (0 : Nat)), ((40 : Nat), AV.d (D.bool false)), ((39 : Nat), AV.d (D.bool false)), ((38 : Nat), AV.tuple []), ((37 : Nat), AV.tuple []), ((36 : Nat), AV.d (D.bool (lo == (3 : Int)))), ((35 : Nat), AV.d (D.bool (lo == (3 : Int)))), ((34 : Nat), AV.d (D.int IntKind.i64 lo)), ((33 : Nat), AV.d (D.bool false)), ((32 : Nat), AV.d (D.bool false)), ((31 : Nat), AV.d (D.bool false)), ((30 : Nat), AV.d (D.int IntKind.i64 lo)), ((29 : Nat), AV.d (D.int IntKind.i64 lo)), ((28 : Nat), AV.d (D.int IntKind.i64 q)), ((27 : Nat), AV.d (D.bool (q == (0 : Int)))), ((26 : Nat), AV.d (D.bool (q == (0 : Int)))), ((25 : Nat), AV.d (D.int IntKind.i64 q)), ((9 : Nat), AV.d (D.int IntKind.i64 q)), ((24 : Nat), AV.d (D.int IntKind.i64 q)), ((23 : Nat), AV.d (D.str s)), ((22 : Nat), AV.ptr (Nm.arg (0 : Nat)) (0 : Nat)), ((0 : Nat), AV.ptr (Nm.arg (0 : Nat)) (0 : Nat)), ((1 : Nat), AV.d (D.int IntKind.i64 lo)), ((2 : Nat), AV.d (D.int IntKind.i64 d)), ((6 : Nat), AV.ptr (Nm.slot (6 : Nat)) (0 : Nat)), ((7 : Nat), AV.ptr (Nm.slot (7 : Nat)) (0 : Nat)), ((8 : Nat), AV.d (D.int IntKind.i64 n))] [(Nm.arg (0 : Nat), AObj.cells [AV.d (D.list (List.map W.cells l)), AV.d (D.int IntKind.i64 z1), AV.d (D.int IntKind.i64 e)]), (Nm.slot (6 : Nat), AObj.cells [AV.d (D.int IntKind.i64 (0 : Int)), AV.d (D.int IntKind.i64 (0 : Int)), AV.d (D.str []), AV.nilsl]), (Nm.slot (7 : Nat), AObj.cells [AV.d (D.int IntKind.i64 (T.kind (T.mk xk xn xs xl))), AV.d (D.int IntKind.i64 (T.n (T.mk xk xn xs xl))), AV.d (D.str (T.name (T.mk xk xn xs xl))), AV.d (D.list (cellsL (T.kids (T.mk xk xn xs xl))))])])) (by kernel_rfl) ?_
        rfl
theorem l_exit1 (l : List W) (i : Nat) (z e lo d n : Int) (hz : z = (i : Int)) (k : Nat) (hk : 3 < k) (q0 : Int) (kl : List T) (hkl : kl.length = 2) (hex : twoK (signL l i) = 0 ∨ levelK (twoK (signL l i)) ≠ lo ∨ (lo = 3 ∧ n > 1)) {lp : LP} (hlp : lp = lpOf Try.prog cfg (icall Try.prog cfg k) Try.f21.ntmps 21 k ((paZ l 0 0).map (·.1))) (lf : Nat) (st : St) (hp : prune [Nm.arg 0] [0, 1, 2, 6, 7, 8] st = some ⟨[(0, .ptr (.arg 0) 0), (1, .d (.int .i64 lo)), (2, .d (.int .i64 d)), (6, .ptr (.slot 6) 0), (7, .ptr (.slot 7) 0), (8, .d (.int .i64 n))], [(.arg 0, .cells [.d (.list (l.map W.cells)), .d (.int .i64 z), .d (.int .i64 e)]), (.slot 6, .cells [.d (.int .i64 0), .d (.int .i64 0), .d (.str []), .nilsl]), (.slot 7, .cells [.d (.int .i64 q0), .d (.int .i64 0), .d (.str []), .own (.slot 57) 0 2]), ((.slot 57), .arr 25 4 0 (cellsL kl))]⟩) :
    loopK Try.prog cfg (icall Try.prog cfg k) lp Try.f21.ntmps 21 [Nm.arg 0] (bodyAt Try.f21 6) (lf + 1) st (exitP [Nm.arg 0] (some [6])) = some (.ret, ⟨[(6, .ptr (.slot 6) 0)], [(.arg 0, .cells [.d (.list (l.map W.cells)), .d (.int .i64 z), .d (.int .i64 e)]), (.slot 6, .cells [.d (.int .i64 q0), .d (.int .i64 0), .d (.str []), .own (.slot 57) 0 2]), ((.slot 57), .arr 25 4 0 (cellsL kl))]⟩) := by
  have c1 := sign34z l i z e hz k (by omega)
  have c2 := two33 (signL l i) k (by omega)
  have c3 := level35 (twoK (signL l i)) k (by omega)
  generalize signL l i = s at *
  generalize twoK s = q at *
  generalize levelK q = v at *
  refine loop_step hp ?_
  by_cases g1 : q = 0
  · subst g1
    conv => lhs; whnf
    refine nextK_of c1 ?_
    conv => lhs; whnf
    refine nextK_of c2 ?_
    conv => lhs; whnf
    refine Eq.trans (b := some (Fx.ret, St.mk [((6 : Nat), AV.ptr (Nm.slot (6 : Nat)) (0 : Nat))] [(Nm.arg (0 : Nat), AObj.cells [AV.d (D.list (List.map W.cells l)), AV.d (D.int IntKind.i64 z), AV.d (D.int IntKind.i64 e)]), (Nm.slot (6 : Nat), AObj.cells [AV.d (D.int IntKind.i64 q0), AV.d (D.int IntKind.i64 (0 : Int)), AV.d (D.str []), AV.own (Nm.slot (57 : Nat)) (nat_lit 0) (2 : Nat)]), (Nm.slot (57 : Nat), AObj.arr (25 : Nat) (4 : Nat) (nat_lit 0) (cellsL kl))])) (by kernel_rfl) ?_
    rfl
  · by_cases g2 : v = lo
    · subst g2
      have g3 : v = 3 := by omega
      have g4 : n > 1 := by omega
      subst g3
      conv => lhs; whnf
      refine nextK_of c1 ?_
      conv => lhs; whnf
      refine nextK_of c2 ?_
      conv => lhs; whnf
      refine iteK_beq_f g1 ?_
      conv => lhs; whnf
      refine iteK_beq_f g1 ?_
      conv => lhs; whnf
      refine nextK_of c3 ?_
      conv => lhs; whnf
      refine iteK_beq_f g1 ?_
      conv => lhs; whnf
      refine iteK_beq_f g1 ?_
      conv => lhs; whnf
      refine iteK_beq_f g1 ?_
      conv => lhs; whnf
      refine iteK_dec_t g4 ?_
      conv => lhs; whnf
      refine Eq.trans (b := some (Fx.ret, St.mk [((6 : Nat), AV.ptr (Nm.slot (6 : Nat)) (0 : Nat))] [(Nm.arg (0 : Nat), AObj.cells [AV.d (D.list (List.map W.cells l)), AV.d (D.int IntKind.i64 z), AV.d (D.int IntKind.i64 e)]), (Nm.slot (6 : Nat), AObj.cells [AV.d (D.int IntKind.i64 q0), AV.d (D.int IntKind.i64 (0 : Int)), AV.d (D.str []), AV.own (Nm.slot (57 : Nat)) (nat_lit 0) (2 : Nat)]), (Nm.slot (57 : Nat), AObj.arr (25 : Nat) (4 : Nat) (nat_lit 0) (cellsL kl))])) (by kernel_rfl) ?_
      rfl
    · conv => lhs; whnf
      refine nextK_of c1 ?_
      conv => lhs; whnf
      refine nextK_of c2 ?_
      conv => lhs; whnf
      refine iteK_beq_f g1 ?_
      conv => lhs; whnf
      refine iteK_beq_f g1 ?_
      conv => lhs; whnf
      refine nextK_of c3 ?_
      conv => lhs; whnf
      refine iteK_beq_f g1 ?_
      conv => lhs; whnf
      refine iteK_beq_f g1 ?_
      conv => lhs; whnf
      refine iteK_beq_f g1 ?_
      conv => lhs; whnf
      refine iteK_bne_t g2 ?_
      conv => lhs; whnf
      refine iteK_bne_t g2 ?_
      conv => lhs; whnf
      refine iteK_bne_t g2 ?_
      conv => lhs; whnf
      refine iteK_bne_t g2 ?_
      conv => lhs; whnf
      refine iteK_bne_t g2 ?_
      conv => lhs; whnf
      refine Eq.trans (b := some (Fx.ret, St.mk [((6 : Nat), AV.ptr (Nm.slot (6 : Nat)) (0 : Nat))] [(Nm.arg (0 : Nat), AObj.cells [AV.d (D.list (List.map W.cells l)), AV.d (D.int IntKind.i64 z), AV.d (D.int IntKind.i64 e)]), (Nm.slot (6 : Nat), AObj.cells [AV.d (D.int IntKind.i64 q0), AV.d (D.int IntKind.i64 (0 : Int)), AV.d (D.str []), AV.own (Nm.slot (57 : Nat)) (nat_lit 0) (2 : Nat)]), (Nm.slot (57 : Nat), AObj.arr (25 : Nat) (4 : Nat) (nat_lit 0) (cellsL kl))])) (by kernel_rfl) ?_
      rfl
theorem l_next1 (l : List W) (i : Nat) (z e lo d n : Int) (hz : z = (i : Int)) (k : Nat) (hk : 3 < k) (q0 : Int) (kl : List T) (hkl : kl.length = 2) (y : T) (z1 : Int) (q : Int) (hq : twoK (signL l i) = q) (g1 : q ≠ 0) (g2 : levelK q = lo) (g3 : ¬ (lo = 3 ∧ n > 1)) (h : icall Try.prog cfg k 21 [.ptr (.arg 0) 0, .d (.int .i64 (IntKind.i64.wrap (lo + 1))), .d (.int .i64 (IntKind.i64.wrap (d + 1)))] (paZ l (IntKind.i64.wrap (z + 1)) e) = some (.ret y.av, paZ l z1 e)) {lp : LP} (hlp : lp = lpOf Try.prog cfg (icall Try.prog cfg k) Try.f21.ntmps 21 k ((paZ l 0 0).map (·.1))) (lf : Nat) (st : St) (hp : prune [Nm.arg 0] [0, 1, 2, 6, 7, 8] st = some ⟨[(0, .ptr (.arg 0) 0), (1, .d (.int .i64 lo)), (2, .d (.int .i64 d)), (6, .ptr (.slot 6) 0), (7, .ptr (.slot 7) 0), (8, .d (.int .i64 n))], [(.arg 0, .cells [.d (.list (l.map W.cells)), .d (.int .i64 z), .d (.int .i64 e)]), (.slot 6, .cells [.d (.int .i64 0), .d (.int .i64 0), .d (.str []), .nilsl]), (.slot 7, .cells [.d (.int .i64 q0), .d (.int .i64 0), .d (.str []), .own (.slot 57) 0 2]), ((.slot 57), .arr 25 4 0 (cellsL kl))]⟩) (r : Option (Fx × St))
    (hih : ∀ st', prune [Nm.arg 0] [0, 1, 2, 6, 7, 8] st' = some ⟨[(0, .ptr (.arg 0) 0), (1, .d (.int .i64 lo)), (2, .d (.int .i64 d)), (6, .ptr (.slot 6) 0), (7, .ptr (.slot 7) 0), (8, .d (.int .i64 (IntKind.i64.wrap (n + 1))))], [(.arg 0, .cells [.d (.list (l.map W.cells)), .d (.int .i64 z1), .d (.int .i64 e)]), (.slot 6, .cells [.d (.int .i64 0), .d (.int .i64 0), .d (.str []), .nilsl]), (.slot 7, .cells [.d (.int .i64 q), .d (.int .i64 0), .d (.str []), .own (.cell (.slot 57) 0) 0 2]), ((.cell (.slot 57) 0), .arr 25 4 0 [[.int .i64 q0, .int .i64 0, .str [], .list ((cellsL kl).take 2)], [.int .i64 y.kind, .int .i64 y.n, .str y.name, .list (cellsL y.kids)]])]⟩ → loopK Try.prog cfg (icall Try.prog cfg k) lp Try.f21.ntmps 21 [Nm.arg 0] (bodyAt Try.f21 6) lf st' (exitP [Nm.arg 0] (some [6])) = r) :
    loopK Try.prog cfg (icall Try.prog cfg k) lp Try.f21.ntmps 21 [Nm.arg 0] (bodyAt Try.f21 6) (lf + 1) st (exitP [Nm.arg 0] (some [6])) = r := by
  have c1 := sign34z l i z e hz k (by omega)
  have c2 := two33 (signL l i) k (by omega)
  rw [hq] at c2
  have c3 := level35 q k (by omega)
  rw [g2] at c3
  generalize signL l i = s at *
  obtain ⟨yk, yn, ys, yl⟩ := y
  refine loop_step hp ?_
  by_cases g4 : lo = 3
  · subst g4
    have g5 : ¬ n > 1 := by omega
    conv => lhs; whnf
    refine nextK_of c1 ?_
    conv => lhs; whnf
    refine nextK_of c2 ?_
    conv => lhs; whnf
    refine iteK_beq_f g1 ?_
    conv => lhs; whnf
    refine iteK_beq_f g1 ?_
    conv => lhs; whnf
    refine nextK_of c3 ?_
    conv => lhs; whnf
    refine iteK_beq_f g1 ?_
    conv => lhs; whnf
    refine iteK_beq_f g1 ?_
    conv => lhs; whnf
    refine iteK_beq_f g1 ?_
    conv => lhs; whnf
    refine iteK_dec_f g5 ?_
    conv => lhs; whnf
    refine nextK_of h ?_
    conv => lhs; whnf
    refine iteO_t (by kernel_rfl) ?_
    conv => lhs; whnf
    refine nextK_of h ?_
    conv => lhs; whnf
    refine iteO_t (by kernel_rfl) ?_
    conv => lhs; whnf
    refine Eq.trans (hih _ rfl) ?_
    rfl
  · conv => lhs; whnf
    refine nextK_of c1 ?_
    conv => lhs; whnf
    refine nextK_of c2 ?_
    conv => lhs; whnf
    refine iteK_beq_f g1 ?_
    conv => lhs; whnf
    refine iteK_beq_f g1 ?_
    conv => lhs; whnf
    refine nextK_of c3 ?_
    conv => lhs; whnf
    refine iteK_beq_f g1 ?_
    conv => lhs; whnf
    refine iteK_beq_f g1 ?_
    conv => lhs; whnf
    refine iteK_beq_f g1 ?_
    conv => lhs; whnf
    refine iteK_bne (fun h1 => ?_) (fun h1 => ?_)
    · rw [bne_t h1]
      (exfalso; omega)
    · rw [bne_f h1]
      conv => lhs; whnf
      refine iteK_beq_f g4 ?_
      conv => lhs; whnf
      refine iteK_beq_f g4 ?_
      conv => lhs; whnf
      refine iteK_beq_f g4 ?_
      conv => lhs; whnf
      refine nextK_of h ?_
      conv => lhs; whnf
      refine iteO_t (by kernel_rfl) ?_
      conv => lhs; whnf
      refine nextK_of h ?_
      conv => lhs; whnf
      refine iteO_t (by kernel_rfl) ?_
      conv => lhs; whnf
      refine Eq.trans (hih _ rfl) ?_
      rfl
theorem l_pan1 (l : List W) (i : Nat) (z e lo d n : Int) (hz : z = (i : Int)) (k : Nat) (hk : 3 < k) (q0 : Int) (kl : List T) (hkl : kl.length = 2) (er at' z1 : Int) (q : Int) (hq : twoK (signL l i) = q) (g1 : q ≠ 0) (g2 : levelK q = lo) (g3 : ¬ (lo = 3 ∧ n > 1)) (h : icall Try.prog cfg k 21 [.ptr (.arg 0) 0, .d (.int .i64 (IntKind.i64.wrap (lo + 1))), .d (.int .i64 (IntKind.i64.wrap (d + 1)))] (paZ l (IntKind.i64.wrap (z + 1)) e) = some (.pan (.iface 28 (.agg [.d (.int .i64 er), .d (.int .i64 at')])), paZ l z1 e)) {lp : LP} (hlp : lp = lpOf Try.prog cfg (icall Try.prog cfg k) Try.f21.ntmps 21 k ((paZ l 0 0).map (·.1))) :
    ∃ fr, ∀ (lf : Nat) (st : St), prune [Nm.arg 0] [0, 1, 2, 6, 7, 8] st = some ⟨[(0, .ptr (.arg 0) 0), (1, .d (.int .i64 lo)), (2, .d (.int .i64 d)), (6, .ptr (.slot 6) 0), (7, .ptr (.slot 7) 0), (8, .d (.int .i64 n))], [(.arg 0, .cells [.d (.list (l.map W.cells)), .d (.int .i64 z), .d (.int .i64 e)]), (.slot 6, .cells [.d (.int .i64 0), .d (.int .i64 0), .d (.str []), .nilsl]), (.slot 7, .cells [.d (.int .i64 q0), .d (.int .i64 0), .d (.str []), .own (.slot 57) 0 2]), ((.slot 57), .arr 25 4 0 (cellsL kl))]⟩ → loopK Try.prog cfg (icall Try.prog cfg k) lp Try.f21.ntmps 21 [Nm.arg 0] (bodyAt Try.f21 6) (lf + 1) st (exitP [Nm.arg 0] (some [6])) = some (.pan (.iface 28 (.agg [.d (.int .i64 er), .d (.int .i64 at')])), ⟨fr, [(.arg 0, .cells [.d (.list (l.map W.cells)), .d (.int .i64 z1), .d (.int .i64 e)]), (.slot 6, .cells [.d (.int .i64 0), .d (.int .i64 0), .d (.str []), .nilsl]), (.slot 7, .cells [.d (.int .i64 q0), .d (.int .i64 0), .d (.str []), .own (.slot 57) 0 2]), ((.slot 57), .arr 25 4 0 (cellsL kl))]⟩) := by
  have c1 := sign34z l i z e hz k (by omega)
  have c2 := two33 (signL l i) k (by omega)
  rw [hq] at c2
  have c3 := level35 q k (by omega)
  rw [g2] at c3
  generalize signL l i = s at *
  by_cases g4 : lo = 3
  · subst g4
    have g5 : ¬ n > 1 := by omega
    refine ⟨?_, fun lf st hp => ?_⟩
    rotate_left
    · refine loop_step hp ?_
      conv => lhs; whnf
      refine nextK_of c1 ?_
      conv => lhs; whnf
      refine nextK_of c2 ?_
      conv => lhs; whnf
      refine iteK_beq_f g1 ?_
      conv => lhs; whnf
      refine iteK_beq_f g1 ?_
      conv => lhs; whnf
      refine nextK_of c3 ?_
      conv => lhs; whnf
      refine iteK_beq_f g1 ?_
      conv => lhs; whnf
      refine iteK_beq_f g1 ?_
      conv => lhs; whnf
      refine iteK_beq_f g1 ?_
      conv => lhs; whnf
      refine iteK_dec_f g5 ?_
      conv => lhs; whnf
      refine nextK_of h ?_
      conv => lhs; whnf
      refine iteO_t (by kernel_rfl) ?_
      conv => lhs; whnf
      refine Eq.trans (b := some (Fx.pan (AV.iface (28 : Nat) (AV.agg [AV.d (D.int IntKind.i64 er), AV.d (D.int IntKind.i64 at')])), St.mk [((49 : Nat), AV.undef), ((50 : Nat), AV.undef), ((51 : Nat), AV.undef), ((52 : Nat), AV.undef), ((53 : Nat), AV.undef), ((54 : Nat), AV.undef), ((55 : Nat), AV.undef), ((56 : Nat), AV.undef), ((57 : Nat), AV.undef), ((58 : Nat), AV.undef), ((48 : Nat), AV.ptr (Nm.arg (0 : Nat)) (1 : Nat)), ((47 : Nat), AV.ptr (Nm.arg (0 : Nat)) (0 : Nat)), ((46 : Nat), AV.d (D.int IntKind.i64 (IntKind.wrap IntKind.i64 (z + (1 : Int))))), ((45 : Nat), AV.d (D.int IntKind.i64 z)), ((44 : Nat), AV.ptr (Nm.arg (0 : Nat)) (1 : Nat)), ((43 : Nat), AV.ptr (Nm.arg (0 : Nat)) (0 : Nat)), ((42 : Nat), AV.ptr (Nm.arg (0 : Nat)) (0 : Nat)), ((40 : Nat), AV.d (D.bool (decide (n > (1 : Int))))), ((39 : Nat), AV.d (D.bool (decide (n > (1 : Int))))), ((38 : Nat), AV.d (D.bool (decide (n > (1 : Int))))), ((37 : Nat), AV.d (D.int IntKind.i64 n)), ((36 : Nat), AV.d (D.bool true)), ((35 : Nat), AV.d (D.bool true)), ((34 : Nat), AV.d (D.int IntKind.i64 (3 : Int))), ((33 : Nat), AV.d (D.bool false)), ((32 : Nat), AV.d (D.bool false)), ((31 : Nat), AV.d (D.bool false)), ((30 : Nat), AV.d (D.int IntKind.i64 (3 : Int))), ((29 : Nat), AV.d (D.int IntKind.i64 (3 : Int))), ((28 : Nat), AV.d (D.int IntKind.i64 q)), ((27 : Nat), AV.d (D.bool (q == (0 : Int)))), ((26 : Nat), AV.d (D.bool (q == (0 : Int)))), ((25 : Nat), AV.d (D.int IntKind.i64 q)), ((9 : Nat), AV.d (D.int IntKind.i64 q)), ((24 : Nat), AV.d (D.int IntKind.i64 q)), ((23 : Nat), AV.d (D.str s)), ((22 : Nat), AV.ptr (Nm.arg (0 : Nat)) (0 : Nat)), ((0 : Nat), AV.ptr (Nm.arg (0 : Nat)) (0 : Nat)), ((1 : Nat), AV.d (D.int IntKind.i64 (3 : Int))), ((2 : Nat), AV.d (D.int IntKind.i64 d)), ((6 : Nat), AV.ptr (Nm.slot (6 : Nat)) (0 : Nat)), ((7 : Nat), AV.ptr (Nm.slot (7 : Nat)) (0 : Nat)), ((8 : Nat), AV.d (D.int IntKind.i64 n))] [(Nm.arg (0 : Nat), AObj.cells [AV.d (D.list (List.map W.cells l)), AV.d (D.int IntKind.i64 z1), AV.d (D.int IntKind.i64 e)]), (Nm.slot (6 : Nat), AObj.cells [AV.d (D.int IntKind.i64 (0 : Int)), AV.d (D.int IntKind.i64 (0 : Int)), AV.d (D.str []), AV.nilsl]), (Nm.slot (7 : Nat), AObj.cells [AV.d (D.int IntKind.i64 q0), AV.d (D.int IntKind.i64 (0 : Int)), AV.d (D.str []), AV.own (Nm.slot (57 : Nat)) (0 : Nat) (2 : Nat)]), (Nm.slot (57 : Nat), AObj.arr (25 : Nat) (4 : Nat) (0 : Nat) (cellsL kl))])) (by kernel_rfl) ?_
      rfl
  · refine ⟨?_, fun lf st hp => ?_⟩
    rotate_left
    · refine loop_step hp ?_
      conv => lhs; whnf
      refine nextK_of c1 ?_
      conv => lhs; whnf
      refine nextK_of c2 ?_
      conv => lhs; whnf
      refine iteK_beq_f g1 ?_
      conv => lhs; whnf
      refine iteK_beq_f g1 ?_
      conv => lhs; whnf
      refine nextK_of c3 ?_
      conv => lhs; whnf
      refine iteK_beq_f g1 ?_
      conv => lhs; whnf
      refine iteK_beq_f g1 ?_
      conv => lhs; whnf
      refine iteK_beq_f g1 ?_
      conv => lhs; whnf
      refine iteK_bne (fun h1 => ?_) (fun h1 => ?_)
      · rw [bne_t h1]
        (exfalso; omega)
      · rw [bne_f h1]
        conv => lhs; whnf
        refine iteK_beq_f g4 ?_
        conv => lhs; whnf
        refine iteK_beq_f g4 ?_
        conv => lhs; whnf
        refine iteK_beq_f g4 ?_
        conv => lhs; whnf
        refine nextK_of h ?_
        conv => lhs; whnf
        refine iteO_t (by kernel_rfl) ?_
        conv => lhs; whnf
        refine Eq.trans (b := some (Fx.pan (AV.iface (28 : Nat) (AV.agg [AV.d (D.int IntKind.i64 er), AV.d (D.int IntKind.i64 at')])), St.mk [((49 : Nat), AV.undef), ((50 : Nat), AV.undef), ((51 : Nat), AV.undef), ((52 : Nat), AV.undef), ((53 : Nat), AV.undef), ((54 : Nat), AV.undef), ((55 : Nat), AV.undef), ((56 : Nat), AV.undef), ((57 : Nat), AV.undef), ((58 : Nat), AV.undef), ((48 : Nat), AV.ptr (Nm.arg (0 : Nat)) (1 : Nat)), ((47 : Nat), AV.ptr (Nm.arg (0 : Nat)) (0 : Nat)), ((46 : Nat), AV.d (D.int IntKind.i64 (IntKind.wrap IntKind.i64 (z + (1 : Int))))), ((45 : Nat), AV.d (D.int IntKind.i64 z)), ((44 : Nat), AV.ptr (Nm.arg (0 : Nat)) (1 : Nat)), ((43 : Nat), AV.ptr (Nm.arg (0 : Nat)) (0 : Nat)), ((42 : Nat), AV.ptr (Nm.arg (0 : Nat)) (0 : Nat)), ((40 : Nat), AV.d (D.bool false)), ((39 : Nat), AV.d (D.bool false)), ((38 : Nat), AV.tuple []), ((37 : Nat), AV.tuple []), ((36 : Nat), AV.d (D.bool (lo == (3 : Int)))), ((35 : Nat), AV.d (D.bool (lo == (3 : Int)))), ((34 : Nat), AV.d (D.int IntKind.i64 lo)), ((33 : Nat), AV.d (D.bool false)), ((32 : Nat), AV.d (D.bool false)), ((31 : Nat), AV.d (D.bool false)), ((30 : Nat), AV.d (D.int IntKind.i64 lo)), ((29 : Nat), AV.d (D.int IntKind.i64 lo)), ((28 : Nat), AV.d (D.int IntKind.i64 q)), ((27 : Nat), AV.d (D.bool (q == (0 : Int)))), ((26 : Nat), AV.d (D.bool (q == (0 : Int)))), ((25 : Nat), AV.d (D.int IntKind.i64 q)), ((9 : Nat), AV.d (D.int IntKind.i64 q)), ((24 : Nat), AV.d (D.int IntKind.i64 q)), ((23 : Nat), AV.d (D.str s)), ((22 : Nat), AV.ptr (Nm.arg (0 : Nat)) (0 : Nat)), ((0 : Nat), AV.ptr (Nm.arg (0 : Nat)) (0 : Nat)), ((1 : Nat), AV.d (D.int IntKind.i64 lo)), ((2 : Nat), AV.d (D.int IntKind.i64 d)), ((6 : Nat), AV.ptr (Nm.slot (6 : Nat)) (0 : Nat)), ((7 : Nat), AV.ptr (Nm.slot (7 : Nat)) (0 : Nat)), ((8 : Nat), AV.d (D.int IntKind.i64 n))] [(Nm.arg (0 : Nat), AObj.cells [AV.d (D.list (List.map W.cells l)), AV.d (D.int IntKind.i64 z1), AV.d (D.int IntKind.i64 e)]), (Nm.slot (6 : Nat), AObj.cells [AV.d (D.int IntKind.i64 (0 : Int)), AV.d (D.int IntKind.i64 (0 : Int)), AV.d (D.str []), AV.nilsl]), (Nm.slot (7 : Nat), AObj.cells [AV.d (D.int IntKind.i64 q0), AV.d (D.int IntKind.i64 (0 : Int)), AV.d (D.str []), AV.own (Nm.slot (57 : Nat)) (0 : Nat) (2 : Nat)]), (Nm.slot (57 : Nat), AObj.arr (25 : Nat) (4 : Nat) (0 : Nat) (cellsL kl))])) (by kernel_rfl) ?_
        rfl
theorem l_exit2 (l : List W) (i : Nat) (z e lo d n : Int) (hz : z = (i : Int)) (k : Nat) (hk : 3 < k) (q0 : Int) (kl : List T) (hkl : kl.length = 2) (hex : twoK (signL l i) = 0 ∨ levelK (twoK (signL l i)) ≠ lo ∨ (lo = 3 ∧ n > 1)) {lp : LP} (hlp : lp = lpOf Try.prog cfg (icall Try.prog cfg k) Try.f21.ntmps 21 k ((paZ l 0 0).map (·.1))) (lf : Nat) (st : St) (hp : prune [Nm.arg 0] [0, 1, 2, 6, 7, 8] st = some ⟨[(0, .ptr (.arg 0) 0), (1, .d (.int .i64 lo)), (2, .d (.int .i64 d)), (6, .ptr (.slot 6) 0), (7, .ptr (.slot 7) 0), (8, .d (.int .i64 n))], [(.arg 0, .cells [.d (.list (l.map W.cells)), .d (.int .i64 z), .d (.int .i64 e)]), (.slot 6, .cells [.d (.int .i64 0), .d (.int .i64 0), .d (.str []), .nilsl]), (.slot 7, .cells [.d (.int .i64 q0), .d (.int .i64 0), .d (.str []), .own (.cell (.slot 57) 0) 0 2]), ((.cell (.slot 57) 0), .arr 25 4 0 (cellsL kl))]⟩) :
    loopK Try.prog cfg (icall Try.prog cfg k) lp Try.f21.ntmps 21 [Nm.arg 0] (bodyAt Try.f21 6) (lf + 1) st (exitP [Nm.arg 0] (some [6])) = some (.ret, ⟨[(6, .ptr (.slot 6) 0)], [(.arg 0, .cells [.d (.list (l.map W.cells)), .d (.int .i64 z), .d (.int .i64 e)]), (.slot 6, .cells [.d (.int .i64 q0), .d (.int .i64 0), .d (.str []), .own (.cell (.slot 57) 0) 0 2]), ((.cell (.slot 57) 0), .arr 25 4 0 (cellsL kl))]⟩) := by
  have c1 := sign34z l i z e hz k (by omega)
  have c2 := two33 (signL l i) k (by omega)
  have c3 := level35 (twoK (signL l i)) k (by omega)
  generalize signL l i = s at *
  generalize twoK s = q at *
  generalize levelK q = v at *
  refine loop_step hp ?_
  by_cases g1 : q = 0
  · subst g1
    conv => lhs; whnf
    refine nextK_of c1 ?_
    conv => lhs; whnf
    refine nextK_of c2 ?_
    conv => lhs; whnf
    refine Eq.trans (b := some (Fx.ret, St.mk [((6 : Nat), AV.ptr (Nm.slot (6 : Nat)) (0 : Nat))] [(Nm.arg (0 : Nat), AObj.cells [AV.d (D.list (List.map W.cells l)), AV.d (D.int IntKind.i64 z), AV.d (D.int IntKind.i64 e)]), (Nm.slot (6 : Nat), AObj.cells [AV.d (D.int IntKind.i64 q0), AV.d (D.int IntKind.i64 (0 : Int)), AV.d (D.str []), AV.own (Nm.cell (Nm.slot (57 : Nat)) (0 : Nat)) (nat_lit 0) (2 : Nat)]), (Nm.cell (Nm.slot (57 : Nat)) (0 : Nat), AObj.arr (25 : Nat) (4 : Nat) (nat_lit 0) (cellsL kl))])) (by kernel_rfl) ?_
    rfl
  · by_cases g2 : v = lo
    · subst g2
      have g3 : v = 3 := by omega
      have g4 : n > 1 := by omega
      subst g3
      conv => lhs; whnf
      refine nextK_of c1 ?_
      conv => lhs; whnf
      refine nextK_of c2 ?_
      conv => lhs; whnf
      refine iteK_beq_f g1 ?_
      conv => lhs; whnf
      refine iteK_beq_f g1 ?_
      conv => lhs; whnf
      refine nextK_of c3 ?_
      conv => lhs; whnf
      refine iteK_beq_f g1 ?_
      conv => lhs; whnf
      refine iteK_beq_f g1 ?_
      conv => lhs; whnf
      refine iteK_beq_f g1 ?_
      conv => lhs; whnf
      refine iteK_dec_t g4 ?_
      conv => lhs; whnf
      refine Eq.trans (b := some (Fx.ret, St.mk [((6 : Nat), AV.ptr (Nm.slot (6 : Nat)) (0 : Nat))] [(Nm.arg (0 : Nat), AObj.cells [AV.d (D.list (List.map W.cells l)), AV.d (D.int IntKind.i64 z), AV.d (D.int IntKind.i64 e)]), (Nm.slot (6 : Nat), AObj.cells [AV.d (D.int IntKind.i64 q0), AV.d (D.int IntKind.i64 (0 : Int)), AV.d (D.str []), AV.own (Nm.cell (Nm.slot (57 : Nat)) (0 : Nat)) (nat_lit 0) (2 : Nat)]), (Nm.cell (Nm.slot (57 : Nat)) (0 : Nat), AObj.arr (25 : Nat) (4 : Nat) (nat_lit 0) (cellsL kl))])) (by kernel_rfl) ?_
      rfl
    · conv => lhs; whnf
      refine nextK_of c1 ?_
      conv => lhs; whnf
      refine nextK_of c2 ?_
      conv => lhs; whnf
      refine iteK_beq_f g1 ?_
      conv => lhs; whnf
      refine iteK_beq_f g1 ?_
      conv => lhs; whnf
      refine nextK_of c3 ?_
      conv => lhs; whnf
      refine iteK_beq_f g1 ?_
      conv => lhs; whnf
      refine iteK_beq_f g1 ?_
      conv => lhs; whnf
      refine iteK_beq_f g1 ?_
      conv => lhs; whnf
      refine iteK_bne_t g2 ?_
      conv => lhs; whnf
      refine iteK_bne_t g2 ?_
      conv => lhs; whnf
      refine iteK_bne_t g2 ?_
      conv => lhs; whnf
      refine iteK_bne_t g2 ?_
      conv => lhs; whnf
      refine iteK_bne_t g2 ?_
      conv => lhs; whnf
      refine Eq.trans (b := some (Fx.ret, St.mk [((6 : Nat), AV.ptr (Nm.slot (6 : Nat)) (0 : Nat))] [(Nm.arg (0 : Nat), AObj.cells [AV.d (D.list (List.map W.cells l)), AV.d (D.int IntKind.i64 z), AV.d (D.int IntKind.i64 e)]), (Nm.slot (6 : Nat), AObj.cells [AV.d (D.int IntKind.i64 q0), AV.d (D.int IntKind.i64 (0 : Int)), AV.d (D.str []), AV.own (Nm.cell (Nm.slot (57 : Nat)) (0 : Nat)) (nat_lit 0) (2 : Nat)]), (Nm.cell (Nm.slot (57 : Nat)) (0 : Nat), AObj.arr (25 : Nat) (4 : Nat) (nat_lit 0) (cellsL kl))])) (by kernel_rfl) ?_
      rfl
theorem l_next2 (l : List W) (i : Nat) (z e lo d n : Int) (hz : z = (i : Int)) (k : Nat) (hk : 3 < k) (q0 : Int) (kl : List T) (hkl : kl.length = 2) (y : T) (z1 : Int) (q : Int) (hq : twoK (signL l i) = q) (g1 : q ≠ 0) (g2 : levelK q = lo) (g3 : ¬ (lo = 3 ∧ n > 1)) (h : icall Try.prog cfg k 21 [.ptr (.arg 0) 0, .d (.int .i64 (IntKind.i64.wrap (lo + 1))), .d (.int .i64 (IntKind.i64.wrap (d + 1)))] (paZ l (IntKind.i64.wrap (z + 1)) e) = some (.ret y.av, paZ l z1 e)) {lp : LP} (hlp : lp = lpOf Try.prog cfg (icall Try.prog cfg k) Try.f21.ntmps 21 k ((paZ l 0 0).map (·.1))) (lf : Nat) (st : St) (hp : prune [Nm.arg 0] [0, 1, 2, 6, 7, 8] st = some ⟨[(0, .ptr (.arg 0) 0), (1, .d (.int .i64 lo)), (2, .d (.int .i64 d)), (6, .ptr (.slot 6) 0), (7, .ptr (.slot 7) 0), (8, .d (.int .i64 n))], [(.arg 0, .cells [.d (.list (l.map W.cells)), .d (.int .i64 z), .d (.int .i64 e)]), (.slot 6, .cells [.d (.int .i64 0), .d (.int .i64 0), .d (.str []), .nilsl]), (.slot 7, .cells [.d (.int .i64 q0), .d (.int .i64 0), .d (.str []), .own (.cell (.slot 57) 0) 0 2]), ((.cell (.slot 57) 0), .arr 25 4 0 (cellsL kl))]⟩) (r : Option (Fx × St))
    (hih : ∀ st', prune [Nm.arg 0] [0, 1, 2, 6, 7, 8] st' = some ⟨[(0, .ptr (.arg 0) 0), (1, .d (.int .i64 lo)), (2, .d (.int .i64 d)), (6, .ptr (.slot 6) 0), (7, .ptr (.slot 7) 0), (8, .d (.int .i64 (IntKind.i64.wrap (n + 1))))], [(.arg 0, .cells [.d (.list (l.map W.cells)), .d (.int .i64 z1), .d (.int .i64 e)]), (.slot 6, .cells [.d (.int .i64 0), .d (.int .i64 0), .d (.str []), .nilsl]), (.slot 7, .cells [.d (.int .i64 q), .d (.int .i64 0), .d (.str []), .own (.slot 57) 0 2]), ((.slot 57), .arr 25 4 0 [[.int .i64 q0, .int .i64 0, .str [], .list ((cellsL kl).take 2)], [.int .i64 y.kind, .int .i64 y.n, .str y.name, .list (cellsL y.kids)]])]⟩ → loopK Try.prog cfg (icall Try.prog cfg k) lp Try.f21.ntmps 21 [Nm.arg 0] (bodyAt Try.f21 6) lf st' (exitP [Nm.arg 0] (some [6])) = r) :
    loopK Try.prog cfg (icall Try.prog cfg k) lp Try.f21.ntmps 21 [Nm.arg 0] (bodyAt Try.f21 6) (lf + 1) st (exitP [Nm.arg 0] (some [6])) = r := by
  have c1 := sign34z l i z e hz k (by omega)
  have c2 := two33 (signL l i) k (by omega)
  rw [hq] at c2
  have c3 := level35 q k (by omega)
  rw [g2] at c3
  generalize signL l i = s at *
  obtain ⟨yk, yn, ys, yl⟩ := y
  refine loop_step hp ?_
  by_cases g4 : lo = 3
  · subst g4
    have g5 : ¬ n > 1 := by omega
    conv => lhs; whnf
    refine nextK_of c1 ?_
    conv => lhs; whnf
    refine nextK_of c2 ?_
    conv => lhs; whnf
    refine iteK_beq_f g1 ?_
    conv => lhs; whnf
    refine iteK_beq_f g1 ?_
    conv => lhs; whnf
    refine nextK_of c3 ?_
    conv => lhs; whnf
    refine iteK_beq_f g1 ?_
    conv => lhs; whnf
    refine iteK_beq_f g1 ?_
    conv => lhs; whnf
    refine iteK_beq_f g1 ?_
    conv => lhs; whnf
    refine iteK_dec_f g5 ?_
    conv => lhs; whnf
    refine nextK_of h ?_
    conv => lhs; whnf
    refine iteO_t (by kernel_rfl) ?_
    conv => lhs; whnf
    refine nextK_of h ?_
    conv => lhs; whnf
    refine iteO_t (by kernel_rfl) ?_
    conv => lhs; whnf
    refine Eq.trans (hih _ rfl) ?_
    rfl
  · conv => lhs; whnf
    refine nextK_of c1 ?_
    conv => lhs; whnf
    refine nextK_of c2 ?_
    conv => lhs; whnf
    refine iteK_beq_f g1 ?_
    conv => lhs; whnf
    refine iteK_beq_f g1 ?_
    conv => lhs; whnf
    refine nextK_of c3 ?_
    conv => lhs; whnf
    refine iteK_beq_f g1 ?_
    conv => lhs; whnf
    refine iteK_beq_f g1 ?_
    conv => lhs; whnf
    refine iteK_beq_f g1 ?_
    conv => lhs; whnf
    refine iteK_bne (fun h1 => ?_) (fun h1 => ?_)
    · rw [bne_t h1]
      (exfalso; omega)
    · rw [bne_f h1]
      conv => lhs; whnf
      refine iteK_beq_f g4 ?_
      conv => lhs; whnf
      refine iteK_beq_f g4 ?_
      conv => lhs; whnf
      refine iteK_beq_f g4 ?_
      conv => lhs; whnf
      refine nextK_of h ?_
      conv => lhs; whnf
      refine iteO_t (by kernel_rfl) ?_
      conv => lhs; whnf
      refine nextK_of h ?_
      conv => lhs; whnf
      refine iteO_t (by kernel_rfl) ?_
      conv => lhs; whnf
      refine Eq.trans (hih _ rfl) ?_
      rfl
theorem l_pan2 (l : List W) (i : Nat) (z e lo d n : Int) (hz : z = (i : Int)) (k : Nat) (hk : 3 < k) (q0 : Int) (kl : List T) (hkl : kl.length = 2) (er at' z1 : Int) (q : Int) (hq : twoK (signL l i) = q) (g1 : q ≠ 0) (g2 : levelK q = lo) (g3 : ¬ (lo = 3 ∧ n > 1)) (h : icall Try.prog cfg k 21 [.ptr (.arg 0) 0, .d (.int .i64 (IntKind.i64.wrap (lo + 1))), .d (.int .i64 (IntKind.i64.wrap (d + 1)))] (paZ l (IntKind.i64.wrap (z + 1)) e) = some (.pan (.iface 28 (.agg [.d (.int .i64 er), .d (.int .i64 at')])), paZ l z1 e)) {lp : LP} (hlp : lp = lpOf Try.prog cfg (icall Try.prog cfg k) Try.f21.ntmps 21 k ((paZ l 0 0).map (·.1))) :
    ∃ fr, ∀ (lf : Nat) (st : St), prune [Nm.arg 0] [0, 1, 2, 6, 7, 8] st = some ⟨[(0, .ptr (.arg 0) 0), (1, .d (.int .i64 lo)), (2, .d (.int .i64 d)), (6, .ptr (.slot 6) 0), (7, .ptr (.slot 7) 0), (8, .d (.int .i64 n))], [(.arg 0, .cells [.d (.list (l.map W.cells)), .d (.int .i64 z), .d (.int .i64 e)]), (.slot 6, .cells [.d (.int .i64 0), .d (.int .i64 0), .d (.str []), .nilsl]), (.slot 7, .cells [.d (.int .i64 q0), .d (.int .i64 0), .d (.str []), .own (.cell (.slot 57) 0) 0 2]), ((.cell (.slot 57) 0), .arr 25 4 0 (cellsL kl))]⟩ → loopK Try.prog cfg (icall Try.prog cfg k) lp Try.f21.ntmps 21 [Nm.arg 0] (bodyAt Try.f21 6) (lf + 1) st (exitP [Nm.arg 0] (some [6])) = some (.pan (.iface 28 (.agg [.d (.int .i64 er), .d (.int .i64 at')])), ⟨fr, [(.arg 0, .cells [.d (.list (l.map W.cells)), .d (.int .i64 z1), .d (.int .i64 e)]), (.slot 6, .cells [.d (.int .i64 0), .d (.int .i64 0), .d (.str []), .nilsl]), (.slot 7, .cells [.d (.int .i64 q0), .d (.int .i64 0), .d (.str []), .own (.cell (.slot 57) 0) 0 2]), ((.cell (.slot 57) 0), .arr 25 4 0 (cellsL kl))]⟩) := by
  have c1 := sign34z l i z e hz k (by omega)
  have c2 := two33 (signL l i) k (by omega)
  rw [hq] at c2
  have c3 := level35 q k (by omega)
  rw [g2] at c3
  generalize signL l i = s at *
  by_cases g4 : lo = 3
  · subst g4
    have g5 : ¬ n > 1 := by omega
    refine ⟨?_, fun lf st hp => ?_⟩
    rotate_left
    · refine loop_step hp ?_
      conv => lhs; whnf
      refine nextK_of c1 ?_
      conv => lhs; whnf
      refine nextK_of c2 ?_
      conv => lhs; whnf
      refine iteK_beq_f g1 ?_
      conv => lhs; whnf
      refine iteK_beq_f g1 ?_
      conv => lhs; whnf
      refine nextK_of c3 ?_
      conv => lhs; whnf
      refine iteK_beq_f g1 ?_
      conv => lhs; whnf
      refine iteK_beq_f g1 ?_
      conv => lhs; whnf
      refine iteK_beq_f g1 ?_
      conv => lhs; whnf
      refine iteK_dec_f g5 ?_
      conv => lhs; whnf
      refine nextK_of h ?_
      conv => lhs; whnf
      refine iteO_t (by kernel_rfl) ?_
      conv => lhs; whnf
      refine Eq.trans (b := some (Fx.pan (AV.iface (28 : Nat) (AV.agg [AV.d (D.int IntKind.i64 er), AV.d (D.int IntKind.i64 at')])), St.mk [((49 : Nat), AV.undef), ((50 : Nat), AV.undef), ((51 : Nat), AV.undef), ((52 : Nat), AV.undef), ((53 : Nat), AV.undef), ((54 : Nat), AV.undef), ((55 : Nat), AV.undef), ((56 : Nat), AV.undef), ((57 : Nat), AV.undef), ((58 : Nat), AV.undef), ((48 : Nat), AV.ptr (Nm.arg (0 : Nat)) (1 : Nat)), ((47 : Nat), AV.ptr (Nm.arg (0 : Nat)) (0 : Nat)), ((46 : Nat), AV.d (D.int IntKind.i64 (IntKind.wrap IntKind.i64 (z + (1 : Int))))), ((45 : Nat), AV.d (D.int IntKind.i64 z)), ((44 : Nat), AV.ptr (Nm.arg (0 : Nat)) (1 : Nat)), ((43 : Nat), AV.ptr (Nm.arg (0 : Nat)) (0 : Nat)), ((42 : Nat), AV.ptr (Nm.arg (0 : Nat)) (0 : Nat)), ((40 : Nat), AV.d (D.bool (decide (n > (1 : Int))))), ((39 : Nat), AV.d (D.bool (decide (n > (1 : Int))))), ((38 : Nat), AV.d (D.bool (decide (n > (1 : Int))))), ((37 : Nat), AV.d (D.int IntKind.i64 n)), ((36 : Nat), AV.d (D.bool true)), ((35 : Nat), AV.d (D.bool true)), ((34 : Nat), AV.d (D.int IntKind.i64 (3 : Int))), ((33 : Nat), AV.d (D.bool false)), ((32 : Nat), AV.d (D.bool false)), ((31 : Nat), AV.d (D.bool false)), ((30 : Nat), AV.d (D.int IntKind.i64 (3 : Int))), ((29 : Nat), AV.d (D.int IntKind.i64 (3 : Int))), ((28 : Nat), AV.d (D.int IntKind.i64 q)), ((27 : Nat), AV.d (D.bool (q == (0 : Int)))), ((26 : Nat), AV.d (D.bool (q == (0 : Int)))), ((25 : Nat), AV.d (D.int IntKind.i64 q)), ((9 : Nat), AV.d (D.int IntKind.i64 q)), ((24 : Nat), AV.d (D.int IntKind.i64 q)), ((23 : Nat), AV.d (D.str s)), ((22 : Nat), AV.ptr (Nm.arg (0 : Nat)) (0 : Nat)), ((0 : Nat), AV.ptr (Nm.arg (0 : Nat)) (0 : Nat)), ((1 : Nat), AV.d (D.int IntKind.i64 (3 : Int))), ((2 : Nat), AV.d (D.int IntKind.i64 d)), ((6 : Nat), AV.ptr (Nm.slot (6 : Nat)) (0 : Nat)), ((7 : Nat), AV.ptr (Nm.slot (7 : Nat)) (0 : Nat)), ((8 : Nat), AV.d (D.int IntKind.i64 n))] [(Nm.arg (0 : Nat), AObj.cells [AV.d (D.list (List.map W.cells l)), AV.d (D.int IntKind.i64 z1), AV.d (D.int IntKind.i64 e)]), (Nm.slot (6 : Nat), AObj.cells [AV.d (D.int IntKind.i64 (0 : Int)), AV.d (D.int IntKind.i64 (0 : Int)), AV.d (D.str []), AV.nilsl]), (Nm.slot (7 : Nat), AObj.cells [AV.d (D.int IntKind.i64 q0), AV.d (D.int IntKind.i64 (0 : Int)), AV.d (D.str []), AV.own (Nm.cell (Nm.slot (57 : Nat)) (0 : Nat)) (0 : Nat) (2 : Nat)]), (Nm.cell (Nm.slot (57 : Nat)) (0 : Nat), AObj.arr (25 : Nat) (4 : Nat) (0 : Nat) (cellsL kl))])) (by kernel_rfl) ?_
      rfl
  · refine ⟨?_, fun lf st hp => ?_⟩
    rotate_left
    · refine loop_step hp ?_
      conv => lhs; whnf
      refine nextK_of c1 ?_
      conv => lhs; whnf
      refine nextK_of c2 ?_
      conv => lhs; whnf
      refine iteK_beq_f g1 ?_
      conv => lhs; whnf
      refine iteK_beq_f g1 ?_
      conv => lhs; whnf
      refine nextK_of c3 ?_
      conv => lhs; whnf
      refine iteK_beq_f g1 ?_
      conv => lhs; whnf
      refine iteK_beq_f g1 ?_
      conv => lhs; whnf
      refine iteK_beq_f g1 ?_
      conv => lhs; whnf
      refine iteK_bne (fun h1 => ?_) (fun h1 => ?_)
      · rw [bne_t h1]
        (exfalso; omega)
      · rw [bne_f h1]
        conv => lhs; whnf
        refine iteK_beq_f g4 ?_
        conv => lhs; whnf
        refine iteK_beq_f g4 ?_
        conv => lhs; whnf
        refine iteK_beq_f g4 ?_
        conv => lhs; whnf
        refine nextK_of h ?_
        conv => lhs; whnf
        refine iteO_t (by kernel_rfl) ?_
        conv => lhs; whnf
        refine Eq.trans (b := some (Fx.pan (AV.iface (28 : Nat) (AV.agg [AV.d (D.int IntKind.i64 er), AV.d (D.int IntKind.i64 at')])), St.mk [((49 : Nat), AV.undef), ((50 : Nat), AV.undef), ((51 : Nat), AV.undef), ((52 : Nat), AV.undef), ((53 : Nat), AV.undef), ((54 : Nat), AV.undef), ((55 : Nat), AV.undef), ((56 : Nat), AV.undef), ((57 : Nat), AV.undef), ((58 : Nat), AV.undef), ((48 : Nat), AV.ptr (Nm.arg (0 : Nat)) (1 : Nat)), ((47 : Nat), AV.ptr (Nm.arg (0 : Nat)) (0 : Nat)), ((46 : Nat), AV.d (D.int IntKind.i64 (IntKind.wrap IntKind.i64 (z + (1 : Int))))), ((45 : Nat), AV.d (D.int IntKind.i64 z)), ((44 : Nat), AV.ptr (Nm.arg (0 : Nat)) (1 : Nat)), ((43 : Nat), AV.ptr (Nm.arg (0 : Nat)) (0 : Nat)), ((42 : Nat), AV.ptr (Nm.arg (0 : Nat)) (0 : Nat)), ((40 : Nat), AV.d (D.bool false)), ((39 : Nat), AV.d (D.bool false)), ((38 : Nat), AV.tuple []), ((37 : Nat), AV.tuple []), ((36 : Nat), AV.d (D.bool (lo == (3 : Int)))), ((35 : Nat), AV.d (D.bool (lo == (3 : Int)))), ((34 : Nat), AV.d (D.int IntKind.i64 lo)), ((33 : Nat), AV.d (D.bool false)), ((32 : Nat), AV.d (D.bool false)), ((31 : Nat), AV.d (D.bool false)), ((30 : Nat), AV.d (D.int IntKind.i64 lo)), ((29 : Nat), AV.d (D.int IntKind.i64 lo)), ((28 : Nat), AV.d (D.int IntKind.i64 q)), ((27 : Nat), AV.d (D.bool (q == (0 : Int)))), ((26 : Nat), AV.d (D.bool (q == (0 : Int)))), ((25 : Nat), AV.d (D.int IntKind.i64 q)), ((9 : Nat), AV.d (D.int IntKind.i64 q)), ((24 : Nat), AV.d (D.int IntKind.i64 q)), ((23 : Nat), AV.d (D.str s)), ((22 : Nat), AV.ptr (Nm.arg (0 : Nat)) (0 : Nat)), ((0 : Nat), AV.ptr (Nm.arg (0 : Nat)) (0 : Nat)), ((1 : Nat), AV.d (D.int IntKind.i64 lo)), ((2 : Nat), AV.d (D.int IntKind.i64 d)), ((6 : Nat), AV.ptr (Nm.slot (6 : Nat)) (0 : Nat)), ((7 : Nat), AV.ptr (Nm.slot (7 : Nat)) (0 : Nat)), ((8 : Nat), AV.d (D.int IntKind.i64 n))] [(Nm.arg (0 : Nat), AObj.cells [AV.d (D.list (List.map W.cells l)), AV.d (D.int IntKind.i64 z1), AV.d (D.int IntKind.i64 e)]), (Nm.slot (6 : Nat), AObj.cells [AV.d (D.int IntKind.i64 (0 : Int)), AV.d (D.int IntKind.i64 (0 : Int)), AV.d (D.str []), AV.nilsl]), (Nm.slot (7 : Nat), AObj.cells [AV.d (D.int IntKind.i64 q0), AV.d (D.int IntKind.i64 (0 : Int)), AV.d (D.str []), AV.own (Nm.cell (Nm.slot (57 : Nat)) (0 : Nat)) (0 : Nat) (2 : Nat)]), (Nm.cell (Nm.slot (57 : Nat)) (0 : Nat), AObj.arr (25 : Nat) (4 : Nat) (0 : Nat) (cellsL kl))])) (by kernel_rfl) ?_
        rfl
theorem e_first0 (l : List W) (z e lo d : Int) (k : Nat) (hk : 3 < k) (hlo : ¬ lo > 5) (x : T) (z1 : Int) (h : icall Try.prog cfg k 21 [.ptr (.arg 0) 0, .d (.int .i64 (IntKind.i64.wrap (lo + 1))), .d (.int .i64 d)] (paZ l z e) = some (.ret x.av, paZ l z1 e)) (x' : T) (z2 : Int)
    (hl : ∀ lp, lp = lpOf Try.prog cfg (icall Try.prog cfg k) Try.f21.ntmps 21 k ((paZ l 0 0).map (·.1)) → ∀ st, prune [Nm.arg 0] [0, 1, 2, 6, 7, 8] st = some ⟨[(0, .ptr (.arg 0) 0), (1, .d (.int .i64 lo)), (2, .d (.int .i64 d)), (6, .ptr (.slot 6) 0), (7, .ptr (.slot 7) 0), (8, .d (.int .i64 1))], [(.arg 0, .cells [.d (.list (l.map W.cells)), .d (.int .i64 z1), .d (.int .i64 e)]), (.slot 6, .cells [.d (.int .i64 0), .d (.int .i64 0), .d (.str []), .nilsl]), (.slot 7, .cells [.d (.int .i64 x.kind), .d (.int .i64 x.n), .d (.str x.name), .d (.list (cellsL x.kids))])]⟩ → loopK Try.prog cfg (icall Try.prog cfg k) lp Try.f21.ntmps 21 [Nm.arg 0] (bodyAt Try.f21 6) k st (exitP [Nm.arg 0] (some [6])) = some (.ret, ⟨[(6, .ptr (.slot 6) 0)], [(.arg 0, .cells [.d (.list (l.map W.cells)), .d (.int .i64 z2), .d (.int .i64 e)]), (.slot 6, .cells [.d (.int .i64 x'.kind), .d (.int .i64 x'.n), .d (.str x'.name), .d (.list (cellsL x'.kids))])]⟩)) : icall Try.prog cfg (k + 1) 21 [.ptr (.arg 0) 0, .d (.int .i64 lo), .d (.int .i64 d)] (paZ l z e) = some (.ret x'.av, paZ l z2 e) := by
  obtain ⟨xk, xn, xs, xl⟩ := x
  obtain ⟨yk, yn, ys, yl⟩ := x'
  rw [icall_body rfl Try.func21]
  obtain ⟨lp, hlp⟩ : ∃ lp, lp = lpOf Try.prog cfg (icall Try.prog cfg k) Try.f21.ntmps 21 k ((paZ l z e).map (·.1)) := ⟨_, rfl⟩
  rw [← hlp]
  conv => lhs; whnf
  refine iteK_dec_f hlo ?_
  conv => lhs; whnf
  refine nextK_of h ?_
  conv => lhs; whnf
  refine nextK_of (loop_at hlp (hl lp hlp _ rfl)) ?_
  conv => lhs; whnf
  refine Eq.trans (b := some (Res.ret (AV.agg [AV.d (D.int IntKind.i64 (T.kind (T.mk yk yn ys yl))), AV.d (D.int IntKind.i64 (T.n (T.mk yk yn ys yl))), AV.d (D.str (T.name (T.mk yk yn ys yl))), AV.d (D.list (cellsL (T.kids (T.mk yk yn ys yl))))]), [(Nm.arg (0 : Nat), AObj.cells [AV.d (D.list (List.map W.cells l)), AV.d (D.int IntKind.i64 z2), AV.d (D.int IntKind.i64 e)])])) (by kernel_rfl) ?_
  rfl
theorem e_firstP0 (l : List W) (z e lo d : Int) (k : Nat) (hk : 3 < k) (hlo : ¬ lo > 5) (x : T) (z1 : Int) (h : icall Try.prog cfg k 21 [.ptr (.arg 0) 0, .d (.int .i64 (IntKind.i64.wrap (lo + 1))), .d (.int .i64 d)] (paZ l z e) = some (.ret x.av, paZ l z1 e)) (x' : T) (er at' z2 : Int) (fr : Fr)
    (hl : ∀ lp, lp = lpOf Try.prog cfg (icall Try.prog cfg k) Try.f21.ntmps 21 k ((paZ l 0 0).map (·.1)) → ∀ st, prune [Nm.arg 0] [0, 1, 2, 6, 7, 8] st = some ⟨[(0, .ptr (.arg 0) 0), (1, .d (.int .i64 lo)), (2, .d (.int .i64 d)), (6, .ptr (.slot 6) 0), (7, .ptr (.slot 7) 0), (8, .d (.int .i64 1))], [(.arg 0, .cells [.d (.list (l.map W.cells)), .d (.int .i64 z1), .d (.int .i64 e)]), (.slot 6, .cells [.d (.int .i64 0), .d (.int .i64 0), .d (.str []), .nilsl]), (.slot 7, .cells [.d (.int .i64 x.kind), .d (.int .i64 x.n), .d (.str x.name), .d (.list (cellsL x.kids))])]⟩ → loopK Try.prog cfg (icall Try.prog cfg k) lp Try.f21.ntmps 21 [Nm.arg 0] (bodyAt Try.f21 6) k st (exitP [Nm.arg 0] (some [6])) = some (.pan (.iface 28 (.agg [.d (.int .i64 er), .d (.int .i64 at')])), ⟨fr, [(.arg 0, .cells [.d (.list (l.map W.cells)), .d (.int .i64 z2), .d (.int .i64 e)]), (.slot 6, .cells [.d (.int .i64 0), .d (.int .i64 0), .d (.str []), .nilsl]), (.slot 7, .cells [.d (.int .i64 x'.kind), .d (.int .i64 x'.n), .d (.str x'.name), .d (.list (cellsL x'.kids))])]⟩)) : icall Try.prog cfg (k + 1) 21 [.ptr (.arg 0) 0, .d (.int .i64 lo), .d (.int .i64 d)] (paZ l z e) = some (.pan (.iface 28 (.agg [.d (.int .i64 er), .d (.int .i64 at')])), paZ l z2 e) := by
  obtain ⟨xk, xn, xs, xl⟩ := x
  obtain ⟨yk, yn, ys, yl⟩ := x'
  rw [icall_body rfl Try.func21]
  obtain ⟨lp, hlp⟩ : ∃ lp, lp = lpOf Try.prog cfg (icall Try.prog cfg k) Try.f21.ntmps 21 k ((paZ l z e).map (·.1)) := ⟨_, rfl⟩
  rw [← hlp]
  conv => lhs; whnf
  refine iteK_dec_f hlo ?_
  conv => lhs; whnf
  refine nextK_of h ?_
  conv => lhs; whnf
  refine nextK_of (loop_at hlp (hl lp hlp _ rfl)) ?_
  conv => lhs; whnf
  refine Eq.trans (b := some (Res.pan (AV.iface (28 : Nat) (AV.agg [AV.d (D.int IntKind.i64 er), AV.d (D.int IntKind.i64 at')])), [(Nm.arg (0 : Nat), AObj.cells [AV.d (D.list (List.map W.cells l)), AV.d (D.int IntKind.i64 z2), AV.d (D.int IntKind.i64 e)])])) (by kernel_rfl) ?_
  rfl
theorem e_first1 (l : List W) (z e lo d : Int) (k : Nat) (hk : 3 < k) (hlo : ¬ lo > 5) (x : T) (z1 : Int) (h : icall Try.prog cfg k 21 [.ptr (.arg 0) 0, .d (.int .i64 (IntKind.i64.wrap (lo + 1))), .d (.int .i64 d)] (paZ l z e) = some (.ret x.av, paZ l z1 e)) (q0 : Int) (kl : List T) (hkl : kl.length = 2) (z2 : Int)
    (hl : ∀ lp, lp = lpOf Try.prog cfg (icall Try.prog cfg k) Try.f21.ntmps 21 k ((paZ l 0 0).map (·.1)) → ∀ st, prune [Nm.arg 0] [0, 1, 2, 6, 7, 8] st = some ⟨[(0, .ptr (.arg 0) 0), (1, .d (.int .i64 lo)), (2, .d (.int .i64 d)), (6, .ptr (.slot 6) 0), (7, .ptr (.slot 7) 0), (8, .d (.int .i64 1))], [(.arg 0, .cells [.d (.list (l.map W.cells)), .d (.int .i64 z1), .d (.int .i64 e)]), (.slot 6, .cells [.d (.int .i64 0), .d (.int .i64 0), .d (.str []), .nilsl]), (.slot 7, .cells [.d (.int .i64 x.kind), .d (.int .i64 x.n), .d (.str x.name), .d (.list (cellsL x.kids))])]⟩ → loopK Try.prog cfg (icall Try.prog cfg k) lp Try.f21.ntmps 21 [Nm.arg 0] (bodyAt Try.f21 6) k st (exitP [Nm.arg 0] (some [6])) = some (.ret, ⟨[(6, .ptr (.slot 6) 0)], [(.arg 0, .cells [.d (.list (l.map W.cells)), .d (.int .i64 z2), .d (.int .i64 e)]), (.slot 6, .cells [.d (.int .i64 q0), .d (.int .i64 0), .d (.str []), .own (.slot 57) 0 2]), ((.slot 57), .arr 25 4 0 (cellsL kl))]⟩)) : icall Try.prog cfg (k + 1) 21 [.ptr (.arg 0) 0, .d (.int .i64 lo), .d (.int .i64 d)] (paZ l z e) = some (.ret (T.mk q0 0 [] kl).av, paZ l z2 e) := by
  obtain ⟨xk, xn, xs, xl⟩ := x
  have ht : (cellsL kl).take 2 = cellsL kl := List.take_of_length_le (by rw [cellsL_len]; omega)
  show _ = some (Res.ret (.agg [.d (.int .i64 q0), .d (.int .i64 0), .d (.str []), .d (.list (cellsL kl))]), paZ l z2 e)
  generalize cellsL kl = KL at *
  rw [icall_body rfl Try.func21]
  obtain ⟨lp, hlp⟩ : ∃ lp, lp = lpOf Try.prog cfg (icall Try.prog cfg k) Try.f21.ntmps 21 k ((paZ l z e).map (·.1)) := ⟨_, rfl⟩
  rw [← hlp]
  conv => lhs; whnf
  refine iteK_dec_f hlo ?_
  conv => lhs; whnf
  refine nextK_of h ?_
  conv => lhs; whnf
  refine nextK_of (loop_at hlp (hl lp hlp _ rfl)) ?_
  conv => lhs; whnf
  refine Eq.trans (b := some (Res.ret (AV.agg [AV.d (D.int IntKind.i64 q0), AV.d (D.int IntKind.i64 (0 : Int)), AV.d (D.str []), AV.d (D.list (List.take (2 : Nat) KL))]), [(Nm.arg (0 : Nat), AObj.cells [AV.d (D.list (List.map W.cells l)), AV.d (D.int IntKind.i64 z2), AV.d (D.int IntKind.i64 e)])])) (by kernel_rfl) ?_
  (exact congrArg (fun q => some (Res.ret (.agg [.d (.int .i64 q0), .d (.int .i64 0), .d (.str []), .d (.list q)]), paZ l z2 e)) ht)
theorem e_firstP1 (l : List W) (z e lo d : Int) (k : Nat) (hk : 3 < k) (hlo : ¬ lo > 5) (x : T) (z1 : Int) (h : icall Try.prog cfg k 21 [.ptr (.arg 0) 0, .d (.int .i64 (IntKind.i64.wrap (lo + 1))), .d (.int .i64 d)] (paZ l z e) = some (.ret x.av, paZ l z1 e)) (q0 : Int) (kl : List T) (hkl : kl.length = 2) (er at' z2 : Int) (fr : Fr)
    (hl : ∀ lp, lp = lpOf Try.prog cfg (icall Try.prog cfg k) Try.f21.ntmps 21 k ((paZ l 0 0).map (·.1)) → ∀ st, prune [Nm.arg 0] [0, 1, 2, 6, 7, 8] st = some ⟨[(0, .ptr (.arg 0) 0), (1, .d (.int .i64 lo)), (2, .d (.int .i64 d)), (6, .ptr (.slot 6) 0), (7, .ptr (.slot 7) 0), (8, .d (.int .i64 1))], [(.arg 0, .cells [.d (.list (l.map W.cells)), .d (.int .i64 z1), .d (.int .i64 e)]), (.slot 6, .cells [.d (.int .i64 0), .d (.int .i64 0), .d (.str []), .nilsl]), (.slot 7, .cells [.d (.int .i64 x.kind), .d (.int .i64 x.n), .d (.str x.name), .d (.list (cellsL x.kids))])]⟩ → loopK Try.prog cfg (icall Try.prog cfg k) lp Try.f21.ntmps 21 [Nm.arg 0] (bodyAt Try.f21 6) k st (exitP [Nm.arg 0] (some [6])) = some (.pan (.iface 28 (.agg [.d (.int .i64 er), .d (.int .i64 at')])), ⟨fr, [(.arg 0, .cells [.d (.list (l.map W.cells)), .d (.int .i64 z2), .d (.int .i64 e)]), (.slot 6, .cells [.d (.int .i64 0), .d (.int .i64 0), .d (.str []), .nilsl]), (.slot 7, .cells [.d (.int .i64 q0), .d (.int .i64 0), .d (.str []), .own (.slot 57) 0 2]), ((.slot 57), .arr 25 4 0 (cellsL kl))]⟩)) : icall Try.prog cfg (k + 1) 21 [.ptr (.arg 0) 0, .d (.int .i64 lo), .d (.int .i64 d)] (paZ l z e) = some (.pan (.iface 28 (.agg [.d (.int .i64 er), .d (.int .i64 at')])), paZ l z2 e) := by
  obtain ⟨xk, xn, xs, xl⟩ := x
  rw [icall_body rfl Try.func21]
  obtain ⟨lp, hlp⟩ : ∃ lp, lp = lpOf Try.prog cfg (icall Try.prog cfg k) Try.f21.ntmps 21 k ((paZ l z e).map (·.1)) := ⟨_, rfl⟩
  rw [← hlp]
  conv => lhs; whnf
  refine iteK_dec_f hlo ?_
  conv => lhs; whnf
  refine nextK_of h ?_
  conv => lhs; whnf
  refine nextK_of (loop_at hlp (hl lp hlp _ rfl)) ?_
  conv => lhs; whnf
  refine Eq.trans (b := some (Res.pan (AV.iface (28 : Nat) (AV.agg [AV.d (D.int IntKind.i64 er), AV.d (D.int IntKind.i64 at')])), [(Nm.arg (0 : Nat), AObj.cells [AV.d (D.list (List.map W.cells l)), AV.d (D.int IntKind.i64 z2), AV.d (D.int IntKind.i64 e)])])) (by kernel_rfl) ?_
  rfl
theorem e_first2 (l : List W) (z e lo d : Int) (k : Nat) (hk : 3 < k) (hlo : ¬ lo > 5) (x : T) (z1 : Int) (h : icall Try.prog cfg k 21 [.ptr (.arg 0) 0, .d (.int .i64 (IntKind.i64.wrap (lo + 1))), .d (.int .i64 d)] (paZ l z e) = some (.ret x.av, paZ l z1 e)) (q0 : Int) (kl : List T) (hkl : kl.length = 2) (z2 : Int)
    (hl : ∀ lp, lp = lpOf Try.prog cfg (icall Try.prog cfg k) Try.f21.ntmps 21 k ((paZ l 0 0).map (·.1)) → ∀ st, prune [Nm.arg 0] [0, 1, 2, 6, 7, 8] st = some ⟨[(0, .ptr (.arg 0) 0), (1, .d (.int .i64 lo)), (2, .d (.int .i64 d)), (6, .ptr (.slot 6) 0), (7, .ptr (.slot 7) 0), (8, .d (.int .i64 1))], [(.arg 0, .cells [.d (.list (l.map W.cells)), .d (.int .i64 z1), .d (.int .i64 e)]), (.slot 6, .cells [.d (.int .i64 0), .d (.int .i64 0), .d (.str []), .nilsl]), (.slot 7, .cells [.d (.int .i64 x.kind), .d (.int .i64 x.n), .d (.str x.name), .d (.list (cellsL x.kids))])]⟩ → loopK Try.prog cfg (icall Try.prog cfg k) lp Try.f21.ntmps 21 [Nm.arg 0] (bodyAt Try.f21 6) k st (exitP [Nm.arg 0] (some [6])) = some (.ret, ⟨[(6, .ptr (.slot 6) 0)], [(.arg 0, .cells [.d (.list (l.map W.cells)), .d (.int .i64 z2), .d (.int .i64 e)]), (.slot 6, .cells [.d (.int .i64 q0), .d (.int .i64 0), .d (.str []), .own (.cell (.slot 57) 0) 0 2]), ((.cell (.slot 57) 0), .arr 25 4 0 (cellsL kl))]⟩)) : icall Try.prog cfg (k + 1) 21 [.ptr (.arg 0) 0, .d (.int .i64 lo), .d (.int .i64 d)] (paZ l z e) = some (.ret (T.mk q0 0 [] kl).av, paZ l z2 e) := by
  obtain ⟨xk, xn, xs, xl⟩ := x
  have ht : (cellsL kl).take 2 = cellsL kl := List.take_of_length_le (by rw [cellsL_len]; omega)
  show _ = some (Res.ret (.agg [.d (.int .i64 q0), .d (.int .i64 0), .d (.str []), .d (.list (cellsL kl))]), paZ l z2 e)
  generalize cellsL kl = KL at *
  rw [icall_body rfl Try.func21]
  obtain ⟨lp, hlp⟩ : ∃ lp, lp = lpOf Try.prog cfg (icall Try.prog cfg k) Try.f21.ntmps 21 k ((paZ l z e).map (·.1)) := ⟨_, rfl⟩
  rw [← hlp]
  conv => lhs; whnf
  refine iteK_dec_f hlo ?_
  conv => lhs; whnf
  refine nextK_of h ?_
  conv => lhs; whnf
  refine nextK_of (loop_at hlp (hl lp hlp _ rfl)) ?_
  conv => lhs; whnf
  refine Eq.trans (b := some (Res.ret (AV.agg [AV.d (D.int IntKind.i64 q0), AV.d (D.int IntKind.i64 (0 : Int)), AV.d (D.str []), AV.d (D.list (List.take (2 : Nat) KL))]), [(Nm.arg (0 : Nat), AObj.cells [AV.d (D.list (List.map W.cells l)), AV.d (D.int IntKind.i64 z2), AV.d (D.int IntKind.i64 e)])])) (by kernel_rfl) ?_
  (exact congrArg (fun q => some (Res.ret (.agg [.d (.int .i64 q0), .d (.int .i64 0), .d (.str []), .d (.list q)]), paZ l z2 e)) ht)
theorem e_firstP2 (l : List W) (z e lo d : Int) (k : Nat) (hk : 3 < k) (hlo : ¬ lo > 5) (x : T) (z1 : Int) (h : icall Try.prog cfg k 21 [.ptr (.arg 0) 0, .d (.int .i64 (IntKind.i64.wrap (lo + 1))), .d (.int .i64 d)] (paZ l z e) = some (.ret x.av, paZ l z1 e)) (q0 : Int) (kl : List T) (hkl : kl.length = 2) (er at' z2 : Int) (fr : Fr)
    (hl : ∀ lp, lp = lpOf Try.prog cfg (icall Try.prog cfg k) Try.f21.ntmps 21 k ((paZ l 0 0).map (·.1)) → ∀ st, prune [Nm.arg 0] [0, 1, 2, 6, 7, 8] st = some ⟨[(0, .ptr (.arg 0) 0), (1, .d (.int .i64 lo)), (2, .d (.int .i64 d)), (6, .ptr (.slot 6) 0), (7, .ptr (.slot 7) 0), (8, .d (.int .i64 1))], [(.arg 0, .cells [.d (.list (l.map W.cells)), .d (.int .i64 z1), .d (.int .i64 e)]), (.slot 6, .cells [.d (.int .i64 0), .d (.int .i64 0), .d (.str []), .nilsl]), (.slot 7, .cells [.d (.int .i64 x.kind), .d (.int .i64 x.n), .d (.str x.name), .d (.list (cellsL x.kids))])]⟩ → loopK Try.prog cfg (icall Try.prog cfg k) lp Try.f21.ntmps 21 [Nm.arg 0] (bodyAt Try.f21 6) k st (exitP [Nm.arg 0] (some [6])) = some (.pan (.iface 28 (.agg [.d (.int .i64 er), .d (.int .i64 at')])), ⟨fr, [(.arg 0, .cells [.d (.list (l.map W.cells)), .d (.int .i64 z2), .d (.int .i64 e)]), (.slot 6, .cells [.d (.int .i64 0), .d (.int .i64 0), .d (.str []), .nilsl]), (.slot 7, .cells [.d (.int .i64 q0), .d (.int .i64 0), .d (.str []), .own (.cell (.slot 57) 0) 0 2]), ((.cell (.slot 57) 0), .arr 25 4 0 (cellsL kl))]⟩)) : icall Try.prog cfg (k + 1) 21 [.ptr (.arg 0) 0, .d (.int .i64 lo), .d (.int .i64 d)] (paZ l z e) = some (.pan (.iface 28 (.agg [.d (.int .i64 er), .d (.int .i64 at')])), paZ l z2 e) := by
  obtain ⟨xk, xn, xs, xl⟩ := x
  rw [icall_body rfl Try.func21]
  obtain ⟨lp, hlp⟩ : ∃ lp, lp = lpOf Try.prog cfg (icall Try.prog cfg k) Try.f21.ntmps 21 k ((paZ l z e).map (·.1)) := ⟨_, rfl⟩
  rw [← hlp]
  conv => lhs; whnf
  refine iteK_dec_f hlo ?_
  conv => lhs; whnf
  refine nextK_of h ?_
  conv => lhs; whnf
  refine nextK_of (loop_at hlp (hl lp hlp _ rfl)) ?_
  conv => lhs; whnf
  refine Eq.trans (b := some (Res.pan (AV.iface (28 : Nat) (AV.agg [AV.d (D.int IntKind.i64 er), AV.d (D.int IntKind.i64 at')])), [(Nm.arg (0 : Nat), AObj.cells [AV.d (D.list (List.map W.cells l)), AV.d (D.int IntKind.i64 z2), AV.d (D.int IntKind.i64 e)])])) (by kernel_rfl) ?_
  rfl
end Go.Rx07.P
