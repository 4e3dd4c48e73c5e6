/- A part of the proof of the law: what functions of the program come to, walked by Rx, or plain facts on it. -/
import Derived.Test.YtbeppoonnbfdeaaRPar1
open Go Go.Rx Go.Proofs Go.Rx07.P Go.RxTree
set_option maxRecDepth 1000000
set_option maxHeartbeats 4000000
set_option linter.unusedVariables false
set_option linter.unusedSimpArgs false
namespace Go.Rx07.P
abbrev paZ (l : List W) (z e : Int) : Hp := [(.arg 0, .cells [.d (.list (l.map W.cells)), .d (.int .i64 z), .d (.int .i64 e)])]
theorem sign34z (l : List W) (i : Nat) (z e : Int) (hz : z = (i : Int)) (k : Nat) (hk : 0 < k) : icall Try.prog cfg k 34 [.ptr (.arg 0) 0] (paZ l z e) = some (.ret (.d (.str (signL l i))), paZ l z e) := by
  subst hz; exact sign34 l i e k hk
theorem fail22z (l : List W) (i : Nat) (z e : Int) (hz : z = (i : Int)) (er : Int) (k : Nat) (hk : 0 < k) : icall Try.prog cfg k 22 [.ptr (.arg 0) 0, .d (.int .i64 er)] (paZ l z e) = some (.pan (.iface 28 (.agg [.d (.int .i64 er), .d (.int .i64 (atL l i e))])), paZ l z e) := by
  subst hz; exact fail22 l i e er k hk
theorem o_lim (l : List W) (i : Nat) (z e d : Int) (hz : z = (i : Int)) (k : Nat) (hk : 3 < k) (hd : d > 16) : icall Try.prog cfg (k + 1) 32 [.ptr (.arg 0) 0, .d (.int .i64 d)] (paZ l z e) = some (.pan (.iface 28 (.agg [.d (.int .i64 6), .d (.int .i64 (atL l i e))])), paZ l z e) := by
  have c1 := fail22z l i z e hz 6 k (by omega)
  rw [icall_body rfl Try.func32]
  obtain ⟨lp, hlp⟩ : ∃ lp, lp = lpOf Try.prog cfg (icall Try.prog cfg k) Try.f32.ntmps 32 k ((paZ l z e).map (·.1)) := ⟨_, rfl⟩
  rw [← hlp]
  conv => lhs; whnf
  refine iteK_dec_t hd ?_
  conv => lhs; whnf
  refine nextK_of c1 ?_
  conv => lhs; whnf
  refine Eq.trans (b := some (Res.pan (AV.iface (28 : Nat) (AV.agg [AV.d (D.int IntKind.i64 (6 : Int)), AV.d (D.int IntKind.i64 (atL l i e))])), [(Nm.arg (0 : Nat), AObj.cells [AV.d (D.list (List.map W.cells l)), AV.d (D.int IntKind.i64 z), AV.d (D.int IntKind.i64 e)])])) (by kernel_rfl) ?_
  rfl
theorem o_un (l : List W) (i : Nat) (z e d : Int) (hz : z = (i : Int)) (k : Nat) (hk : 3 < k) (hd : ¬ d > 16) (c : UInt8) (kk : Int) (hs : signL l i = [c]) (hc : (c = 45 ∧ kk = 5) ∨ (c = 33 ∧ kk = 6)) (x : T) (z1 : Int) (h : icall Try.prog cfg k 32 [.ptr (.arg 0) 0, .d (.int .i64 (IntKind.i64.wrap (d + 1)))] (paZ l (IntKind.i64.wrap (z + 1)) e) = some (.ret x.av, paZ l z1 e)) : icall Try.prog cfg (k + 1) 32 [.ptr (.arg 0) 0, .d (.int .i64 d)] (paZ l z e) = some (.ret (T.mk kk 0 [] [x]).av, paZ l z1 e) := by
  have c1 := sign34z l i z e hz k (by omega)
  rw [hs] at c1
  obtain ⟨xk, xn, xs, xl⟩ := x
  rcases hc with ⟨rfl, rfl⟩ | ⟨rfl, rfl⟩
  · rw [icall_body rfl Try.func32]
    obtain ⟨lp, hlp⟩ : ∃ lp, lp = lpOf Try.prog cfg (icall Try.prog cfg k) Try.f32.ntmps 32 k ((paZ l z e).map (·.1)) := ⟨_, rfl⟩
    rw [← hlp]
    conv => lhs; whnf
    refine iteK_dec_f hd ?_
    conv => lhs; whnf
    refine nextK_of c1 ?_
    conv => lhs; whnf
    refine nextK_of h ?_
    conv => lhs; whnf
    refine Eq.trans (b := some (Res.ret (AV.agg [AV.d (D.int IntKind.i64 (5 : Int)), AV.d (D.int IntKind.i64 (0 : Int)), AV.d (D.str []), AV.d (D.list [[D.int IntKind.i64 (T.kind (T.mk xk xn xs xl)), D.int IntKind.i64 (T.n (T.mk xk xn xs xl)), D.str (T.name (T.mk xk xn xs xl)), D.list (cellsL (T.kids (T.mk xk xn xs xl)))]])]), [(Nm.arg (0 : Nat), AObj.cells [AV.d (D.list (List.map W.cells l)), AV.d (D.int IntKind.i64 z1), AV.d (D.int IntKind.i64 e)])])) (by kernel_rfl) ?_
    rfl
  · rw [icall_body rfl Try.func32]
    obtain ⟨lp, hlp⟩ : ∃ lp, lp = lpOf Try.prog cfg (icall Try.prog cfg k) Try.f32.ntmps 32 k ((paZ l z e).map (·.1)) := ⟨_, rfl⟩
    rw [← hlp]
    conv => lhs; whnf
    refine iteK_dec_f hd ?_
    conv => lhs; whnf
    refine nextK_of c1 ?_
    conv => lhs; whnf
    refine nextK_of h ?_
    conv => lhs; whnf
    refine Eq.trans (b := some (Res.ret (AV.agg [AV.d (D.int IntKind.i64 (6 : Int)), AV.d (D.int IntKind.i64 (0 : Int)), AV.d (D.str []), AV.d (D.list [[D.int IntKind.i64 (T.kind (T.mk xk xn xs xl)), D.int IntKind.i64 (T.n (T.mk xk xn xs xl)), D.str (T.name (T.mk xk xn xs xl)), D.list (cellsL (T.kids (T.mk xk xn xs xl)))]])]), [(Nm.arg (0 : Nat), AObj.cells [AV.d (D.list (List.map W.cells l)), AV.d (D.int IntKind.i64 z1), AV.d (D.int IntKind.i64 e)])])) (by kernel_rfl) ?_
    rfl
theorem o_unP (l : List W) (i : Nat) (z e d : Int) (hz : z = (i : Int)) (k : Nat) (hk : 3 < k) (hd : ¬ d > 16) (c : UInt8) (hs : signL l i = [c]) (hc : c = 45 ∨ c = 33) (er at' z1 : Int) (h : icall Try.prog cfg k 32 [.ptr (.arg 0) 0, .d (.int .i64 (IntKind.i64.wrap (d + 1)))] (paZ l (IntKind.i64.wrap (z + 1)) e) = some (.pan (.iface 28 (.agg [.d (.int .i64 er), .d (.int .i64 at')])), paZ l z1 e)) : icall Try.prog cfg (k + 1) 32 [.ptr (.arg 0) 0, .d (.int .i64 d)] (paZ l z e) = some (.pan (.iface 28 (.agg [.d (.int .i64 er), .d (.int .i64 at')])), paZ l z1 e) := by
  have c1 := sign34z l i z e hz k (by omega)
  rw [hs] at c1
  rcases hc with rfl | rfl
  · rw [icall_body rfl Try.func32]
    obtain ⟨lp, hlp⟩ : ∃ lp, lp = lpOf Try.prog cfg (icall Try.prog cfg k) Try.f32.ntmps 32 k ((paZ l z e).map (·.1)) := ⟨_, rfl⟩
    rw [← hlp]
    conv => lhs; whnf
    refine iteK_dec_f hd ?_
    conv => lhs; whnf
    refine nextK_of c1 ?_
    conv => lhs; whnf
    refine nextK_of h ?_
    conv => lhs; whnf
    refine Eq.trans (b := some (Res.pan (AV.iface (28 : Nat) (AV.agg [AV.d (D.int IntKind.i64 er), AV.d (D.int IntKind.i64 at')])), [(Nm.arg (0 : Nat), AObj.cells [AV.d (D.list (List.map W.cells l)), AV.d (D.int IntKind.i64 z1), AV.d (D.int IntKind.i64 e)])])) (by kernel_rfl) ?_
    rfl
  · rw [icall_body rfl Try.func32]
    obtain ⟨lp, hlp⟩ : ∃ lp, lp = lpOf Try.prog cfg (icall Try.prog cfg k) Try.f32.ntmps 32 k ((paZ l z e).map (·.1)) := ⟨_, rfl⟩
    rw [← hlp]
    conv => lhs; whnf
    refine iteK_dec_f hd ?_
    conv => lhs; whnf
    refine nextK_of c1 ?_
    conv => lhs; whnf
    refine nextK_of h ?_
    conv => lhs; whnf
    refine Eq.trans (b := some (Res.pan (AV.iface (28 : Nat) (AV.agg [AV.d (D.int IntKind.i64 er), AV.d (D.int IntKind.i64 at')])), [(Nm.arg (0 : Nat), AObj.cells [AV.d (D.list (List.map W.cells l)), AV.d (D.int IntKind.i64 z1), AV.d (D.int IntKind.i64 e)])])) (by kernel_rfl) ?_
    rfl
theorem o_br (l : List W) (i : Nat) (z e d : Int) (hz : z = (i : Int)) (k : Nat) (hk : 3 < k) (hd : ¬ d > 16) (hs : signL l i = [40]) (x : T) (i1 : Nat) (z1 : Int) (hz1 : z1 = (i1 : Int)) (h : icall Try.prog cfg k 21 [.ptr (.arg 0) 0, .d (.int .i64 1), .d (.int .i64 (IntKind.i64.wrap (d + 1)))] (paZ l (IntKind.i64.wrap (z + 1)) e) = some (.ret x.av, paZ l z1 e)) (hs1 : signL l i1 = [41]) : icall Try.prog cfg (k + 1) 32 [.ptr (.arg 0) 0, .d (.int .i64 d)] (paZ l z e) = some (.ret x.av, paZ l (IntKind.i64.wrap (z1 + 1)) e) := by
  have c1 := sign34z l i z e hz k (by omega)
  rw [hs] at c1
  have c2 := sign34z l i1 z1 e hz1 k (by omega)
  rw [hs1] at c2
  obtain ⟨xk, xn, xs, xl⟩ := x
  rw [icall_body rfl Try.func32]
  obtain ⟨lp, hlp⟩ : ∃ lp, lp = lpOf Try.prog cfg (icall Try.prog cfg k) Try.f32.ntmps 32 k ((paZ l z e).map (·.1)) := ⟨_, rfl⟩
  rw [← hlp]
  conv => lhs; whnf
  refine iteK_dec_f hd ?_
  conv => lhs; whnf
  refine nextK_of c1 ?_
  conv => lhs; whnf
  refine nextK_of h ?_
  conv => lhs; whnf
  refine nextK_of c2 ?_
  conv => lhs; whnf
  refine Eq.trans (b := some (Res.ret (AV.agg [AV.d (D.int IntKind.i64 (T.kind (T.mk xk xn xs xl))), AV.d (D.int IntKind.i64 (T.n (T.mk xk xn xs xl))), AV.d (D.str (T.name (T.mk xk xn xs xl))), AV.d (D.list (cellsL (T.kids (T.mk xk xn xs xl))))]), [(Nm.arg (0 : Nat), AObj.cells [AV.d (D.list (List.map W.cells l)), AV.d (D.int IntKind.i64 (IntKind.wrap IntKind.i64 (z1 + (1 : Int)))), AV.d (D.int IntKind.i64 e)])])) (by kernel_rfl) ?_
  rfl
theorem o_brF (l : List W) (i : Nat) (z e d : Int) (hz : z = (i : Int)) (k : Nat) (hk : 3 < k) (hd : ¬ d > 16) (hs : signL l i = [40]) (x : T) (i1 : Nat) (z1 : Int) (hz1 : z1 = (i1 : Int)) (h : icall Try.prog cfg k 21 [.ptr (.arg 0) 0, .d (.int .i64 1), .d (.int .i64 (IntKind.i64.wrap (d + 1)))] (paZ l (IntKind.i64.wrap (z + 1)) e) = some (.ret x.av, paZ l z1 e)) (hs1 : signL l i1 ≠ [41]) : icall Try.prog cfg (k + 1) 32 [.ptr (.arg 0) 0, .d (.int .i64 d)] (paZ l z e) = some (.pan (.iface 28 (.agg [.d (.int .i64 3), .d (.int .i64 (atL l i1 e))])), paZ l z1 e) := by
  have c1 := sign34z l i z e hz k (by omega)
  rw [hs] at c1
  have c2 := sign34z l i1 z1 e hz1 k (by omega)
  have c3 := fail22z l i1 z1 e hz1 3 k (by omega)
  obtain ⟨xk, xn, xs, xl⟩ := x
  generalize signL l i1 = s1 at *
  rw [icall_body rfl Try.func32]
  obtain ⟨lp, hlp⟩ : ∃ lp, lp = lpOf Try.prog cfg (icall Try.prog cfg k) Try.f32.ntmps 32 k ((paZ l z e).map (·.1)) := ⟨_, rfl⟩
  rw [← hlp]
  conv => lhs; whnf
  refine iteK_dec_f hd ?_
  conv => lhs; whnf
  refine nextK_of c1 ?_
  conv => lhs; whnf
  refine nextK_of h ?_
  conv => lhs; whnf
  refine nextK_of c2 ?_
  conv => lhs; whnf
  refine iteK_not ?_
  conv => lhs; whnf
  refine iteK_beq_f hs1 ?_
  conv => lhs; whnf
  refine nextK_of c3 ?_
  conv => lhs; whnf
  refine Eq.trans (b := some (Res.pan (AV.iface (28 : Nat) (AV.agg [AV.d (D.int IntKind.i64 (3 : Int)), AV.d (D.int IntKind.i64 (atL l i1 e))])), [(Nm.arg (0 : Nat), AObj.cells [AV.d (D.list (List.map W.cells l)), AV.d (D.int IntKind.i64 z1), AV.d (D.int IntKind.i64 e)])])) (by kernel_rfl) ?_
  rfl
theorem o_brP (l : List W) (i : Nat) (z e d : Int) (hz : z = (i : Int)) (k : Nat) (hk : 3 < k) (hd : ¬ d > 16) (hs : signL l i = [40]) (er at' z1 : Int) (h : icall Try.prog cfg k 21 [.ptr (.arg 0) 0, .d (.int .i64 1), .d (.int .i64 (IntKind.i64.wrap (d + 1)))] (paZ l (IntKind.i64.wrap (z + 1)) e) = some (.pan (.iface 28 (.agg [.d (.int .i64 er), .d (.int .i64 at')])), paZ l z1 e)) : icall Try.prog cfg (k + 1) 32 [.ptr (.arg 0) 0, .d (.int .i64 d)] (paZ l z e) = some (.pan (.iface 28 (.agg [.d (.int .i64 er), .d (.int .i64 at')])), paZ l z1 e) := by
  have c1 := sign34z l i z e hz k (by omega)
  rw [hs] at c1
  rw [icall_body rfl Try.func32]
  obtain ⟨lp, hlp⟩ : ∃ lp, lp = lpOf Try.prog cfg (icall Try.prog cfg k) Try.f32.ntmps 32 k ((paZ l z e).map (·.1)) := ⟨_, rfl⟩
  rw [← hlp]
  conv => lhs; whnf
  refine iteK_dec_f hd ?_
  conv => lhs; whnf
  refine nextK_of c1 ?_
  conv => lhs; whnf
  refine nextK_of h ?_
  conv => lhs; whnf
  refine Eq.trans (b := some (Res.pan (AV.iface (28 : Nat) (AV.agg [AV.d (D.int IntKind.i64 er), AV.d (D.int IntKind.i64 at')])), [(Nm.arg (0 : Nat), AObj.cells [AV.d (D.list (List.map W.cells l)), AV.d (D.int IntKind.i64 z1), AV.d (D.int IntKind.i64 e)])])) (by kernel_rfl) ?_
  rfl
theorem o_bad (l : List W) (i : Nat) (z e d : Int) (hz : z = (i : Int)) (k : Nat) (hk : 3 < k) (hd : ¬ d > 16) (g1 : signL l i ≠ [45]) (g2 : signL l i ≠ [33]) (g3 : signL l i ≠ [40]) (g4 : signL l i ≠ [] ∨ l.length ≤ i) : icall Try.prog cfg (k + 1) 32 [.ptr (.arg 0) 0, .d (.int .i64 d)] (paZ l z e) = some (.pan (.iface 28 (.agg [.d (.int .i64 3), .d (.int .i64 (atL l i e))])), paZ l z e) := by
  have c1 := sign34z l i z e hz k (by omega)
  have c3 := fail22z l i z e hz 3 k (by omega)
  have hl : (l.map W.cells).length = l.length := List.length_map ..
  generalize signL l i = s1 at *
  by_cases g5 : s1 = []
  · subst g5
    have g6 : z ≥ ((l.map W.cells).length : Int) := by
      rcases g4 with g | g
      · exact absurd rfl g
      · omega
    rw [icall_body rfl Try.func32]
    obtain ⟨lp, hlp⟩ : ∃ lp, lp = lpOf Try.prog cfg (icall Try.prog cfg k) Try.f32.ntmps 32 k ((paZ l z e).map (·.1)) := ⟨_, rfl⟩
    rw [← hlp]
    conv => lhs; whnf
    refine iteK_dec_f hd ?_
    conv => lhs; whnf
    refine nextK_of c1 ?_
    conv => lhs; whnf
    refine iteO_t (by kernel_rfl) ?_
    conv => lhs; whnf
    refine iteO_t (by kernel_rfl) ?_
    conv => lhs; whnf
    refine iteK_dec_t g6 ?_
    conv => lhs; whnf
    refine nextK_of c3 ?_
    conv => lhs; whnf
    refine Eq.trans (b := some (Res.pan (AV.iface (28 : Nat) (AV.agg [AV.d (D.int IntKind.i64 (3 : Int)), AV.d (D.int IntKind.i64 (atL l i e))])), [(Nm.arg (0 : Nat), AObj.cells [AV.d (D.list (List.map W.cells l)), AV.d (D.int IntKind.i64 z), AV.d (D.int IntKind.i64 e)])])) (by kernel_rfl) ?_
    rfl
  · rw [icall_body rfl Try.func32]
    obtain ⟨lp, hlp⟩ : ∃ lp, lp = lpOf Try.prog cfg (icall Try.prog cfg k) Try.f32.ntmps 32 k ((paZ l z e).map (·.1)) := ⟨_, rfl⟩
    rw [← hlp]
    conv => lhs; whnf
    refine iteK_dec_f hd ?_
    conv => lhs; whnf
    refine nextK_of c1 ?_
    conv => lhs; whnf
    refine iteK_beq_f g1 ?_
    conv => lhs; whnf
    refine iteK_beq_f g1 ?_
    conv => lhs; whnf
    refine iteK_beq_f g1 ?_
    conv => lhs; whnf
    refine iteK_beq_f g2 ?_
    conv => lhs; whnf
    refine iteK_beq_f g3 ?_
    conv => lhs; whnf
    refine iteO_t (by kernel_rfl) ?_
    conv => lhs; whnf
    refine iteK_not ?_
    conv => lhs; whnf
    refine iteK_beq_f g5 ?_
    conv => lhs; whnf
    refine iteK_not ?_
    conv => lhs; whnf
    refine iteK_beq_f g5 ?_
    conv => lhs; whnf
    refine iteK_not ?_
    conv => lhs; whnf
    refine iteK_beq_f g5 ?_
    conv => lhs; whnf
    refine iteK_not ?_
    conv => lhs; whnf
    refine iteK_beq_f g5 ?_
    conv => lhs; whnf
    refine iteK_not ?_
    conv => lhs; whnf
    refine iteK_beq_f g5 ?_
    conv => lhs; whnf
    refine iteK_not ?_
    conv => lhs; whnf
    refine iteK_beq_f g5 ?_
    conv => lhs; whnf
    refine iteK_not ?_
    conv => lhs; whnf
    refine iteK_beq_f g5 ?_
    conv => lhs; whnf
    refine iteK_not ?_
    conv => lhs; whnf
    refine iteK_beq_f g5 ?_
    conv => lhs; whnf
    refine iteK_not ?_
    conv => lhs; whnf
    refine iteK_beq_f g5 ?_
    conv => lhs; whnf
    refine iteK_not ?_
    conv => lhs; whnf
    refine iteK_beq_f g5 ?_
    conv => lhs; whnf
    refine iteK_not ?_
    conv => lhs; whnf
    refine iteK_beq_f g5 ?_
    conv => lhs; whnf
    refine iteO_t (by kernel_rfl) ?_
    conv => lhs; whnf
    refine nextK_of c3 ?_
    conv => lhs; whnf
    refine Eq.trans (b := some (Res.pan (AV.iface (28 : Nat) (AV.agg [AV.d (D.int IntKind.i64 (3 : Int)), AV.d (D.int IntKind.i64 (atL l i e))])), [(Nm.arg (0 : Nat), AObj.cells [AV.d (D.list (List.map W.cells l)), AV.d (D.int IntKind.i64 z), AV.d (D.int IntKind.i64 e)])])) (by kernel_rfl) ?_
    rfl
theorem o_word (l : List W) (i : Nat) (z e d : Int) (hz : z = (i : Int)) (k : Nat) (hk : 3 < k) (hd : ¬ d > 16) (hs : signL l i = []) (w : W) (hw : l[i]? = some w) : icall Try.prog cfg (k + 1) 32 [.ptr (.arg 0) 0, .d (.int .i64 d)] (paZ l z e) = some (.ret (if w.k = 1 then T.mk 1 w.n [] [] else if w.t = [121, 101, 115] then T.mk 3 0 [] [] else if w.t = [110, 111] then T.mk 4 0 [] [] else T.mk 2 0 w.t []).av, paZ l (IntKind.i64.wrap (z + 1)) e) := by
  have c1 := sign34z l i z e hz k (by omega)
  rw [hs] at c1
  have hl : (l.map W.cells).length = l.length := List.length_map ..
  have hi := (List.getElem?_eq_some_iff.1 hw).1
  have hend : ¬ z ≥ ((l.map W.cells).length : Int) := by omega
  by_cases g1 : w.k = 1
  · rw [if_pos g1]
    rw [icall_body rfl Try.func32]
    obtain ⟨lp, hlp⟩ : ∃ lp, lp = lpOf Try.prog cfg (icall Try.prog cfg k) Try.f32.ntmps 32 k ((paZ l z e).map (·.1)) := ⟨_, rfl⟩
    rw [← hlp]
    conv => lhs; whnf
    refine iteK_dec_f hd ?_
    conv => lhs; whnf
    refine nextK_of c1 ?_
    conv => lhs; whnf
    refine iteO_t (by kernel_rfl) ?_
    conv => lhs; whnf
    refine iteO_t (by kernel_rfl) ?_
    conv => lhs; whnf
    refine iteK_dec_f hend ?_
    conv => lhs; whnf
    refine iteO_t (by kernel_rfl) ?_
    conv => lhs; whnf
    refine nextK_of (aop_ix rfl rfl rfl rfl (ixL_at' (n := i) hz (word_get hw) rfl)) ?_
    conv => lhs; whnf
    refine iteO_t (by kernel_rfl) ?_
    conv => lhs; whnf
    refine iteK_beq_t g1 ?_
    conv => lhs; whnf
    refine Eq.trans (b := some (Res.ret (AV.agg [AV.d (D.int IntKind.i64 (1 : Int)), AV.d (D.int IntKind.i64 w.n), AV.d (D.str []), AV.d (D.list [])]), [(Nm.arg (0 : Nat), AObj.cells [AV.d (D.list (List.map W.cells l)), AV.d (D.int IntKind.i64 (IntKind.wrap IntKind.i64 (z + (1 : Int)))), AV.d (D.int IntKind.i64 e)])])) (by kernel_rfl) ?_
    rfl
  · rw [if_neg g1]
    by_cases g2 : w.t = [121, 101, 115]
    · rw [if_pos g2]
      rw [icall_body rfl Try.func32]
      obtain ⟨lp, hlp⟩ : ∃ lp, lp = lpOf Try.prog cfg (icall Try.prog cfg k) Try.f32.ntmps 32 k ((paZ l z e).map (·.1)) := ⟨_, rfl⟩
      rw [← hlp]
      conv => lhs; whnf
      refine iteK_dec_f hd ?_
      conv => lhs; whnf
      refine nextK_of c1 ?_
      conv => lhs; whnf
      refine iteO_t (by kernel_rfl) ?_
      conv => lhs; whnf
      refine iteO_t (by kernel_rfl) ?_
      conv => lhs; whnf
      refine iteK_dec_f hend ?_
      conv => lhs; whnf
      refine iteO_t (by kernel_rfl) ?_
      conv => lhs; whnf
      refine nextK_of (aop_ix rfl rfl rfl rfl (ixL_at' (n := i) hz (word_get hw) rfl)) ?_
      conv => lhs; whnf
      refine iteO_t (by kernel_rfl) ?_
      conv => lhs; whnf
      refine iteK_beq_f g1 ?_
      conv => lhs; whnf
      refine iteK_beq_t g2 ?_
      conv => lhs; whnf
      refine Eq.trans (b := some (Res.ret (AV.agg [AV.d (D.int IntKind.i64 (3 : Int)), AV.d (D.int IntKind.i64 (0 : Int)), AV.d (D.str []), AV.d (D.list [])]), [(Nm.arg (0 : Nat), AObj.cells [AV.d (D.list (List.map W.cells l)), AV.d (D.int IntKind.i64 (IntKind.wrap IntKind.i64 (z + (1 : Int)))), AV.d (D.int IntKind.i64 e)])])) (by kernel_rfl) ?_
      rfl
    · rw [if_neg g2]
      by_cases g3 : w.t = [110, 111]
      · rw [if_pos g3]
        rw [icall_body rfl Try.func32]
        obtain ⟨lp, hlp⟩ : ∃ lp, lp = lpOf Try.prog cfg (icall Try.prog cfg k) Try.f32.ntmps 32 k ((paZ l z e).map (·.1)) := ⟨_, rfl⟩
        rw [← hlp]
        conv => lhs; whnf
        refine iteK_dec_f hd ?_
        conv => lhs; whnf
        refine nextK_of c1 ?_
        conv => lhs; whnf
        refine iteO_t (by kernel_rfl) ?_
        conv => lhs; whnf
        refine iteO_t (by kernel_rfl) ?_
        conv => lhs; whnf
        refine iteK_dec_f hend ?_
        conv => lhs; whnf
        refine iteO_t (by kernel_rfl) ?_
        conv => lhs; whnf
        refine nextK_of (aop_ix rfl rfl rfl rfl (ixL_at' (n := i) hz (word_get hw) rfl)) ?_
        conv => lhs; whnf
        refine iteO_t (by kernel_rfl) ?_
        conv => lhs; whnf
        refine iteK_beq_f g1 ?_
        conv => lhs; whnf
        refine iteK_beq_f g2 ?_
        conv => lhs; whnf
        refine iteK_beq_t g3 ?_
        conv => lhs; whnf
        refine Eq.trans (b := some (Res.ret (AV.agg [AV.d (D.int IntKind.i64 (4 : Int)), AV.d (D.int IntKind.i64 (0 : Int)), AV.d (D.str []), AV.d (D.list [])]), [(Nm.arg (0 : Nat), AObj.cells [AV.d (D.list (List.map W.cells l)), AV.d (D.int IntKind.i64 (IntKind.wrap IntKind.i64 (z + (1 : Int)))), AV.d (D.int IntKind.i64 e)])])) (by kernel_rfl) ?_
        rfl
      · rw [if_neg g3]
        rw [icall_body rfl Try.func32]
        obtain ⟨lp, hlp⟩ : ∃ lp, lp = lpOf Try.prog cfg (icall Try.prog cfg k) Try.f32.ntmps 32 k ((paZ l z e).map (·.1)) := ⟨_, rfl⟩
        rw [← hlp]
        conv => lhs; whnf
        refine iteK_dec_f hd ?_
        conv => lhs; whnf
        refine nextK_of c1 ?_
        conv => lhs; whnf
        refine iteO_t (by kernel_rfl) ?_
        conv => lhs; whnf
        refine iteO_t (by kernel_rfl) ?_
        conv => lhs; whnf
        refine iteK_dec_f hend ?_
        conv => lhs; whnf
        refine iteO_t (by kernel_rfl) ?_
        conv => lhs; whnf
        refine nextK_of (aop_ix rfl rfl rfl rfl (ixL_at' (n := i) hz (word_get hw) rfl)) ?_
        conv => lhs; whnf
        refine iteO_t (by kernel_rfl) ?_
        conv => lhs; whnf
        refine iteK_beq_f g1 ?_
        conv => lhs; whnf
        refine iteK_beq_f g2 ?_
        conv => lhs; whnf
        refine iteK_beq_f g3 ?_
        conv => lhs; whnf
        refine Eq.trans (b := some (Res.ret (AV.agg [AV.d (D.int IntKind.i64 (2 : Int)), AV.d (D.int IntKind.i64 (0 : Int)), AV.d (D.str w.t), AV.d (D.list [])]), [(Nm.arg (0 : Nat), AObj.cells [AV.d (D.list (List.map W.cells l)), AV.d (D.int IntKind.i64 (IntKind.wrap IntKind.i64 (z + (1 : Int)))), AV.d (D.int IntKind.i64 e)])])) (by kernel_rfl) ?_
        rfl
theorem e_one (l : List W) (z e lo d : Int) (k : Nat) (hk : 3 < k) (hlo : lo > 5) (x : T) (z1 : Int) (h : icall Try.prog cfg k 32 [.ptr (.arg 0) 0, .d (.int .i64 d)] (paZ l z e) = some (.ret x.av, paZ l z1 e)) : icall Try.prog cfg (k + 1) 21 [.ptr (.arg 0) 0, .d (.int .i64 lo), .d (.int .i64 d)] (paZ l z e) = some (.ret x.av, paZ l z1 e) := by
  obtain ⟨xk, xn, xs, xl⟩ := x
  rw [icall_body rfl Try.func21]
  obtain ⟨lp, hlp⟩ : ∃ lp, lp = lpOf Try.prog cfg (icall Try.prog cfg k) Try.f21.ntmps 21 k ((paZ l z e).map (·.1)) := ⟨_, rfl⟩
  rw [← hlp]
  conv => lhs; whnf
  refine iteK_dec_t hlo ?_
  conv => lhs; whnf
  refine nextK_of h ?_
  conv => lhs; whnf
  refine Eq.trans (b := some (Res.ret (AV.agg [AV.d (D.int IntKind.i64 (T.kind (T.mk xk xn xs xl))), AV.d (D.int IntKind.i64 (T.n (T.mk xk xn xs xl))), AV.d (D.str (T.name (T.mk xk xn xs xl))), AV.d (D.list (cellsL (T.kids (T.mk xk xn xs xl))))]), [(Nm.arg (0 : Nat), AObj.cells [AV.d (D.list (List.map W.cells l)), AV.d (D.int IntKind.i64 z1), AV.d (D.int IntKind.i64 e)])])) (by kernel_rfl) ?_
  rfl
theorem e_oneP (l : List W) (z e lo d : Int) (k : Nat) (hk : 3 < k) (hlo : lo > 5) (er at' z1 : Int) (h : icall Try.prog cfg k 32 [.ptr (.arg 0) 0, .d (.int .i64 d)] (paZ l z e) = some (.pan (.iface 28 (.agg [.d (.int .i64 er), .d (.int .i64 at')])), paZ l z1 e)) : icall Try.prog cfg (k + 1) 21 [.ptr (.arg 0) 0, .d (.int .i64 lo), .d (.int .i64 d)] (paZ l z e) = some (.pan (.iface 28 (.agg [.d (.int .i64 er), .d (.int .i64 at')])), paZ l z1 e) := by
  rw [icall_body rfl Try.func21]
  obtain ⟨lp, hlp⟩ : ∃ lp, lp = lpOf Try.prog cfg (icall Try.prog cfg k) Try.f21.ntmps 21 k ((paZ l z e).map (·.1)) := ⟨_, rfl⟩
  rw [← hlp]
  conv => lhs; whnf
  refine iteK_dec_t hlo ?_
  conv => lhs; whnf
  refine nextK_of h ?_
  conv => lhs; whnf
  refine Eq.trans (b := some (Res.pan (AV.iface (28 : Nat) (AV.agg [AV.d (D.int IntKind.i64 er), AV.d (D.int IntKind.i64 at')])), [(Nm.arg (0 : Nat), AObj.cells [AV.d (D.list (List.map W.cells l)), AV.d (D.int IntKind.i64 z1), AV.d (D.int IntKind.i64 e)])])) (by kernel_rfl) ?_
  rfl
theorem e_firstP (l : List W) (z e lo d : Int) (k : Nat) (hk : 3 < k) (hlo : ¬ lo > 5) (er at' z1 : Int) (h : icall Try.prog cfg k 21 [.ptr (.arg 0) 0, .d (.int .i64 (IntKind.i64.wrap (lo + 1))), .d (.int .i64 d)] (paZ l z e) = some (.pan (.iface 28 (.agg [.d (.int .i64 er), .d (.int .i64 at')])), paZ l z1 e)) : icall Try.prog cfg (k + 1) 21 [.ptr (.arg 0) 0, .d (.int .i64 lo), .d (.int .i64 d)] (paZ l z e) = some (.pan (.iface 28 (.agg [.d (.int .i64 er), .d (.int .i64 at')])), paZ l z1 e) := by
  rw [icall_body rfl Try.func21]
  obtain ⟨lp, hlp⟩ : ∃ lp, lp = lpOf Try.prog cfg (icall Try.prog cfg k) Try.f21.ntmps 21 k ((paZ l z e).map (·.1)) := ⟨_, rfl⟩
  rw [← hlp]
  conv => lhs; whnf
  refine iteK_dec_f hlo ?_
  conv => lhs; whnf
  refine nextK_of h ?_
  conv => lhs; whnf
  refine Eq.trans (b := some (Res.pan (AV.iface (28 : Nat) (AV.agg [AV.d (D.int IntKind.i64 er), AV.d (D.int IntKind.i64 at')])), [(Nm.arg (0 : Nat), AObj.cells [AV.d (D.list (List.map W.cells l)), AV.d (D.int IntKind.i64 z1), AV.d (D.int IntKind.i64 e)])])) (by kernel_rfl) ?_
  rfl
end Go.Rx07.P
