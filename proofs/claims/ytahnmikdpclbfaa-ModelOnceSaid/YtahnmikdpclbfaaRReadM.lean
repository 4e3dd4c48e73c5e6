/- A part of the proof of the law: what functions of the program come to, walked by Rx, or plain facts on it. -/
import Derived.Test.YtahnmikdpclbfaaRReadR
open Go Go.Rx Go.Proofs Go.Rx11 Go.RxTree
set_option maxRecDepth 1000000
set_option maxHeartbeats 4000000
set_option linter.unusedVariables false
set_option linter.unusedSimpArgs false
namespace Go.Rx11
theorem m24EN (j : Nat) (L : Nat) (hL : L ≤ LB) (hj : 7 * L + 20000 < j) (id : List UInt8) (n0 i0 : Int) (kd : Int) (nm : List UInt8) (nv : Int) (al : List (List D)) (n : Nat) (hn16 : n ≤ 1000000) {lp : LP} (hlp : lp = lpOf Try.prog cfg (icall Try.prog cfg j) Try.f24.ntmps 24 j (([] : Hp).map (·.1))) (mb : List UInt8) (e : Int) (z : Int) (he : e ≠ 0 ∨ ¬ z < (n : Int)) (lf : Nat) (hlf : 0 < lf) (st : St)
    (hp : prune [] [2, 4, 5, 6, 7, 8, 9, 10] st = some ⟨[(2, .ptr (.slot 2) 0), (4, .ptr (.slot 14) 0), (5, .ptr (.slot 5) 0), (6, .d (.int .i64 n0)), (7, .d (.int .i64 i0)), (8, .ptr (.slot 8) 0), (9, .d (.int .i64 n)), (10, .d (.int .i64 z))], [(.slot 2, .cells [.d (.str []), .nilsl]), (.slot 14, .cells [.d (.list (bL mb)), .d (.int .i64 e)]), (.slot 5, .cells [.d (.str id), .nilsl]), (.slot 8, .cells [.d (.int .i64 kd), .d (.str nm), .d (.int .i64 nv), .d (.list al), .nilsl])]⟩) :
    loopK Try.prog cfg (icall Try.prog cfg j) lp Try.f24.ntmps 24 [] (bodyAt Try.f24 10) lf st (exitP [] (some [2, 4, 5, 6, 7, 8])) = some (.exit 2, ⟨[(2, .ptr (.slot 2) 0), (4, .ptr (.slot 14) 0), (5, .ptr (.slot 5) 0), (6, .d (.int .i64 n0)), (7, .d (.int .i64 i0)), (8, .ptr (.slot 8) 0)], [(.slot 2, .cells [.d (.str []), .nilsl]), (.slot 14, .cells [.d (.list (bL mb)), .d (.int .i64 e)]), (.slot 5, .cells [.d (.str id), .nilsl]), (.slot 8, .cells [.d (.int .i64 kd), .d (.str nm), .d (.int .i64 nv), .d (.list al), .nilsl])]⟩) := by
  obtain ⟨lf, rfl⟩ : ∃ n, lf = n + 1 := ⟨lf - 1, by omega⟩
  refine loop_step hp ?_
  conv => lhs; whnf
  refine iteK_dec (fun h1 => ?_) (fun h1 => ?_)
  · rw [dec_t h1]
    conv => lhs; whnf
    refine iteK_beq (fun h2 => ?_) (fun h2 => ?_)
    · obtain rfl : e = (0 : Int) := h2
      (exfalso; omega)
    · rw [beq_f h2]
      conv => lhs; whnf
      refine Eq.trans (b := some (Fx.exit (2 : Nat), St.mk [((2 : Nat), AV.ptr (Nm.slot (2 : Nat)) (0 : Nat)), ((4 : Nat), AV.ptr (Nm.slot (14 : Nat)) (0 : Nat)), ((5 : Nat), AV.ptr (Nm.slot (5 : Nat)) (0 : Nat)), ((6 : Nat), AV.d (D.int IntKind.i64 n0)), ((7 : Nat), AV.d (D.int IntKind.i64 i0)), ((8 : Nat), AV.ptr (Nm.slot (8 : Nat)) (0 : Nat))] [(Nm.slot (2 : Nat), AObj.cells [AV.d (D.str []), AV.nilsl]), (Nm.slot (14 : Nat), AObj.cells [AV.d (D.list (bL mb)), AV.d (D.int IntKind.i64 e)]), (Nm.slot (5 : Nat), AObj.cells [AV.d (D.str id), AV.nilsl]), (Nm.slot (8 : Nat), AObj.cells [AV.d (D.int IntKind.i64 kd), AV.d (D.str nm), AV.d (D.int IntKind.i64 nv), AV.d (D.list al), AV.nilsl])])) (by kernel_rfl) ?_
      rfl
  · rw [dec_f h1]
    conv => lhs; whnf
    refine Eq.trans (b := some (Fx.exit (2 : Nat), St.mk [((2 : Nat), AV.ptr (Nm.slot (2 : Nat)) (0 : Nat)), ((4 : Nat), AV.ptr (Nm.slot (14 : Nat)) (0 : Nat)), ((5 : Nat), AV.ptr (Nm.slot (5 : Nat)) (0 : Nat)), ((6 : Nat), AV.d (D.int IntKind.i64 n0)), ((7 : Nat), AV.d (D.int IntKind.i64 i0)), ((8 : Nat), AV.ptr (Nm.slot (8 : Nat)) (0 : Nat))] [(Nm.slot (2 : Nat), AObj.cells [AV.d (D.str []), AV.nilsl]), (Nm.slot (14 : Nat), AObj.cells [AV.d (D.list (bL mb)), AV.d (D.int IntKind.i64 e)]), (Nm.slot (5 : Nat), AObj.cells [AV.d (D.str id), AV.nilsl]), (Nm.slot (8 : Nat), AObj.cells [AV.d (D.int IntKind.i64 kd), AV.d (D.str nm), AV.d (D.int IntKind.i64 nv), AV.d (D.list al), AV.nilsl])])) (by kernel_rfl) ?_
    rfl
theorem m24FN (j : Nat) (L : Nat) (hL : L ≤ LB) (hj : 7 * L + 20000 < j) (id : List UInt8) (n0 i0 : Int) (kd : Int) (nm : List UInt8) (nv : Int) (al : List (List D)) (n : Nat) (hn16 : n ≤ 1000000) {lp : LP} (hlp : lp = lpOf Try.prog cfg (icall Try.prog cfg j) Try.f24.ntmps 24 j (([] : Hp).map (·.1))) (es : List (List D)) (q : Nat) (mb : List UInt8) (e : Int) (z : Int) (he : e ≠ 0 ∨ ¬ z < (n : Int)) (lf : Nat) (hlf : 0 < lf) (st : St)
    (hp : prune [] [2, 4, 5, 6, 7, 8, 9, 10] st = some ⟨[(2, .ptr (.slot 2) 0), (4, .ptr (.slot 14) 0), (5, .ptr (.slot 5) 0), (6, .d (.int .i64 n0)), (7, .d (.int .i64 i0)), (8, .ptr (.slot 8) 0), (9, .d (.int .i64 n)), (10, .d (.int .i64 z))], [(.slot 2, .cells [.d (.str []), .nilsl]), (.slot 14, .cells [.d (.list (bL mb)), .d (.int .i64 e)]), (.slot 5, .cells [.d (.str id), .nilsl]), (.slot 8, .cells [.d (.int .i64 kd), .d (.str nm), .d (.int .i64 nv), .d (.list al), .own (.slot 63) 0 q]), (.slot 63, .arr 71 2 0 es)]⟩) :
    loopK Try.prog cfg (icall Try.prog cfg j) lp Try.f24.ntmps 24 [] (bodyAt Try.f24 10) lf st (exitP [] (some [2, 4, 5, 6, 7, 8])) = some (.exit 2, ⟨[(2, .ptr (.slot 2) 0), (4, .ptr (.slot 14) 0), (5, .ptr (.slot 5) 0), (6, .d (.int .i64 n0)), (7, .d (.int .i64 i0)), (8, .ptr (.slot 8) 0)], [(.slot 2, .cells [.d (.str []), .nilsl]), (.slot 14, .cells [.d (.list (bL mb)), .d (.int .i64 e)]), (.slot 5, .cells [.d (.str id), .nilsl]), (.slot 8, .cells [.d (.int .i64 kd), .d (.str nm), .d (.int .i64 nv), .d (.list al), .own (.slot 63) 0 q]), (.slot 63, .arr 71 2 0 es)]⟩) := by
  obtain ⟨lf, rfl⟩ : ∃ n, lf = n + 1 := ⟨lf - 1, by omega⟩
  refine loop_step hp ?_
  conv => lhs; whnf
  refine iteK_dec (fun h1 => ?_) (fun h1 => ?_)
  · rw [dec_t h1]
    conv => lhs; whnf
    refine iteK_beq (fun h2 => ?_) (fun h2 => ?_)
    · obtain rfl : e = (0 : Int) := h2
      (exfalso; omega)
    · rw [beq_f h2]
      conv => lhs; whnf
      refine Eq.trans (b := some (Fx.exit (2 : Nat), St.mk [((2 : Nat), AV.ptr (Nm.slot (2 : Nat)) (0 : Nat)), ((4 : Nat), AV.ptr (Nm.slot (14 : Nat)) (0 : Nat)), ((5 : Nat), AV.ptr (Nm.slot (5 : Nat)) (0 : Nat)), ((6 : Nat), AV.d (D.int IntKind.i64 n0)), ((7 : Nat), AV.d (D.int IntKind.i64 i0)), ((8 : Nat), AV.ptr (Nm.slot (8 : Nat)) (0 : Nat))] [(Nm.slot (2 : Nat), AObj.cells [AV.d (D.str []), AV.nilsl]), (Nm.slot (14 : Nat), AObj.cells [AV.d (D.list (bL mb)), AV.d (D.int IntKind.i64 e)]), (Nm.slot (5 : Nat), AObj.cells [AV.d (D.str id), AV.nilsl]), (Nm.slot (8 : Nat), AObj.cells [AV.d (D.int IntKind.i64 kd), AV.d (D.str nm), AV.d (D.int IntKind.i64 nv), AV.d (D.list al), AV.own (Nm.slot (63 : Nat)) (nat_lit 0) q]), (Nm.slot (63 : Nat), AObj.arr (71 : Nat) (2 : Nat) (nat_lit 0) es)])) (by kernel_rfl) ?_
      rfl
  · rw [dec_f h1]
    conv => lhs; whnf
    refine Eq.trans (b := some (Fx.exit (2 : Nat), St.mk [((2 : Nat), AV.ptr (Nm.slot (2 : Nat)) (0 : Nat)), ((4 : Nat), AV.ptr (Nm.slot (14 : Nat)) (0 : Nat)), ((5 : Nat), AV.ptr (Nm.slot (5 : Nat)) (0 : Nat)), ((6 : Nat), AV.d (D.int IntKind.i64 n0)), ((7 : Nat), AV.d (D.int IntKind.i64 i0)), ((8 : Nat), AV.ptr (Nm.slot (8 : Nat)) (0 : Nat))] [(Nm.slot (2 : Nat), AObj.cells [AV.d (D.str []), AV.nilsl]), (Nm.slot (14 : Nat), AObj.cells [AV.d (D.list (bL mb)), AV.d (D.int IntKind.i64 e)]), (Nm.slot (5 : Nat), AObj.cells [AV.d (D.str id), AV.nilsl]), (Nm.slot (8 : Nat), AObj.cells [AV.d (D.int IntKind.i64 kd), AV.d (D.str nm), AV.d (D.int IntKind.i64 nv), AV.d (D.list al), AV.own (Nm.slot (63 : Nat)) (nat_lit 0) q]), (Nm.slot (63 : Nat), AObj.arr (71 : Nat) (2 : Nat) (nat_lit 0) es)])) (by kernel_rfl) ?_
    rfl
theorem m24LN (j : Nat) (L : Nat) (hL : L ≤ LB) (hj : 7 * L + 20000 < j) (id : List UInt8) (n0 i0 : Int) (kd : Int) (nm : List UInt8) (nv : Int) (al : List (List D)) (n : Nat) (hn16 : n ≤ 1000000) {lp : LP} (hlp : lp = lpOf Try.prog cfg (icall Try.prog cfg j) Try.f24.ntmps 24 j (([] : Hp).map (·.1))) :
    ∀ (m i : Nat) (z : Int) (s : Sg) (mb : List UInt8) (e : Int) (q : Nat) (es : List (List D)), n - i = m → i ≤ n → z = (i : Int) → Rl L mb s → s.2 = e → es.length = q → q ≤ 2000000 + i →
    ∃ mb', Rl L mb' (sFlows m s).2 ∧ ∀ (lf : Nat) (st : St), m + 1 < lf → prune [] [2, 4, 5, 6, 7, 8, 9, 10] st = some ⟨[(2, .ptr (.slot 2) 0), (4, .ptr (.slot 14) 0), (5, .ptr (.slot 5) 0), (6, .d (.int .i64 n0)), (7, .d (.int .i64 i0)), (8, .ptr (.slot 8) 0), (9, .d (.int .i64 n)), (10, .d (.int .i64 z))], [(.slot 2, .cells [.d (.str []), .nilsl]), (.slot 14, .cells [.d (.list (bL mb)), .d (.int .i64 e)]), (.slot 5, .cells [.d (.str id), .nilsl]), (.slot 8, .cells [.d (.int .i64 kd), .d (.str nm), .d (.int .i64 nv), .d (.list al), .own (.slot 63) 0 q]), (.slot 63, .arr 71 2 0 es)]⟩ →
    loopK Try.prog cfg (icall Try.prog cfg j) lp Try.f24.ntmps 24 [] (bodyAt Try.f24 10) lf st (exitP [] (some [2, 4, 5, 6, 7, 8])) = some (.exit 2, ⟨[(2, .ptr (.slot 2) 0), (4, .ptr (.slot 14) 0), (5, .ptr (.slot 5) 0), (6, .d (.int .i64 n0)), (7, .d (.int .i64 i0)), (8, .ptr (.slot 8) 0)], [(.slot 2, .cells [.d (.str []), .nilsl]), (.slot 14, .cells [.d (.list (bL mb')), .d (.int .i64 (sFlows m s).2.2)]), (.slot 5, .cells [.d (.str id), .nilsl]), (.slot 8, .cells [.d (.int .i64 kd), .d (.str nm), .d (.int .i64 nv), .d (.list al), .own (.slot 63) 0 (es ++ (sFlows m s).1.map FlowT.cells).length]), (.slot 63, .arr 71 2 0 (es ++ (sFlows m s).1.map FlowT.cells))]⟩) := by
  intro m
  have hmx : 1000001 ≤ maxLen := by decide
  induction m with
  | zero =>
    intro i z s mb e q es hi hle hz h he hl hb
    refine ⟨mb, h, fun lf st hlf hp => ?_⟩
    rw [m24FN j L hL hj id n0 i0 kd nm nv al n hn16 hlp es q mb e z (.inr (by omega)) lf (by omega) st hp]
    rw [sFlows, List.map_nil, List.append_nil, hl, he]
  | succ m ihm =>
    intro i z s mb e q es hi hle hz h he hl hb
    by_cases g0 : e ≠ 0
    · refine ⟨mb, by rw [sFlows_e _ (by omega)]; exact h, fun lf st hlf hp => ?_⟩
      rw [m24FN j L hL hj id n0 i0 kd nm nv al n hn16 hlp es q mb e z (.inl g0) lf (by omega) st hp]
      rw [sFlows_e _ (by omega), List.map_nil, List.append_nil, hl, he]
    · have g1 : s.2 = 0 := by omega
      obtain rfl : e = 0 := by omega
      rw [sFlows_1 _ g1]
      obtain ⟨a1, h1, c1⟩ := qUint hL 4096 (by omega) h
      obtain ⟨a2, h2, c2⟩ := qMaybe hL h1
      replace c1 := c1 j (by omega)
      replace c2 := c2 j (by omega)
      have hR : es.take q ++ [[D.int .i64 ((sN 4096 s).1 : Int), D.list (cellsL (sM (sN 4096 s).2).1)]] = es ++ [FlowT.cells (sFlow s).1] := by rw [List.take_of_length_le (by omega)]; rfl
      have hRl : (es ++ [FlowT.cells (sFlow s).1]).length = q + 1 := by rw [List.length_append, hl]; rfl
      obtain ⟨a3, h3, hih⟩ := ihm (i + 1) (IntKind.i64.wrap (z + 1)) (sFlow s).2 a2 _ (q + 1) (es ++ [FlowT.cells (sFlow s).1]) (by omega) (by omega) (wrap_up hz (by omega)) h2 rfl hRl (by omega)
      refine ⟨a3, h3, fun lf st hlf hp => ?_⟩
      have hA : es ++ ((sFlow s).1 :: (sFlows m (sFlow s).2).1).map FlowT.cells = (es ++ [FlowT.cells (sFlow s).1]) ++ (sFlows m (sFlow s).2).1.map FlowT.cells := by rw [List.append_assoc]; rfl
      rw [hA]
      rw [← hR] at hih ⊢
      have hend : z < (n : Int) := by omega
      rw [g1] at c1
      have hf2 : (sFlow s).2.2 = (sM (sN 4096 s).2).2.2 := rfl
      rw [hf2] at hih
      generalize sFlows m (sFlow s).2 = rr at *
      generalize sN 4096 s = r1 at *
      obtain ⟨v1, s1⟩ := r1
      generalize sM s1 = r2 at *
      obtain ⟨v2, s2⟩ := r2
      dsimp only at c1 c2 hih ⊢
      obtain ⟨lf, rfl⟩ : ∃ n, lf = n + 1 := ⟨lf - 1, by omega⟩
      refine loop_step hp ?_
      conv => lhs; whnf
      refine iteK_dec_t hend ?_
      conv => lhs; whnf
      refine iteK_dec_t hend ?_
      conv => lhs; whnf
      refine iteK_dec_t hend ?_
      conv => lhs; whnf
      refine iteK_dec_t hend ?_
      conv => lhs; whnf
      refine iteK_dec_t hend ?_
      conv => lhs; whnf
      refine iteK_dec_t hend ?_
      conv => lhs; whnf
      refine iteO_t (by kernel_rfl) ?_
      conv => lhs; whnf
      refine nextK_of c1 ?_
      conv => lhs; whnf
      refine nextK_of c2 ?_
      conv => lhs; whnf
      refine nextK_of (aop_app rfl rfl rfl rfl rfl rfl rfl rfl rfl rfl rfl rfl (lenF (by omega))) ?_
      conv => lhs; whnf
      refine iteO_t (by kernel_rfl) ?_
      conv => lhs; whnf
      refine Eq.trans (hih lf _ (by omega) rfl) ?_
      rfl
theorem m24SN (j : Nat) (L : Nat) (hL : L ≤ LB) (hj : 7 * L + 20000 < j) (id : List UInt8) (n0 i0 : Int) (kd : Int) (nm : List UInt8) (nv : Int) (al : List (List D)) (n : Nat) (hn16 : n ≤ 1000000) {lp : LP} (hlp : lp = lpOf Try.prog cfg (icall Try.prog cfg j) Try.f24.ntmps 24 j (([] : Hp).map (·.1))) (m : Nat) (hm : n = m + 1) (s : Sg) (mb : List UInt8) (h : Rl L mb s) (g1 : s.2 = 0) :
    ∃ mb', Rl L mb' (sFlows (m + 1) s).2 ∧ ∀ (lf : Nat) (st : St), m + 3 < lf → prune [] [2, 4, 5, 6, 7, 8, 9, 10] st = some ⟨[(2, .ptr (.slot 2) 0), (4, .ptr (.slot 14) 0), (5, .ptr (.slot 5) 0), (6, .d (.int .i64 n0)), (7, .d (.int .i64 i0)), (8, .ptr (.slot 8) 0), (9, .d (.int .i64 n)), (10, .d (.int .i64 0))], [(.slot 2, .cells [.d (.str []), .nilsl]), (.slot 14, .cells [.d (.list (bL mb)), .d (.int .i64 0)]), (.slot 5, .cells [.d (.str id), .nilsl]), (.slot 8, .cells [.d (.int .i64 kd), .d (.str nm), .d (.int .i64 nv), .d (.list al), .nilsl])]⟩ →
    loopK Try.prog cfg (icall Try.prog cfg j) lp Try.f24.ntmps 24 [] (bodyAt Try.f24 10) lf st (exitP [] (some [2, 4, 5, 6, 7, 8])) = some (.exit 2, ⟨[(2, .ptr (.slot 2) 0), (4, .ptr (.slot 14) 0), (5, .ptr (.slot 5) 0), (6, .d (.int .i64 n0)), (7, .d (.int .i64 i0)), (8, .ptr (.slot 8) 0)], [(.slot 2, .cells [.d (.str []), .nilsl]), (.slot 14, .cells [.d (.list (bL mb')), .d (.int .i64 (sFlows (m + 1) s).2.2)]), (.slot 5, .cells [.d (.str id), .nilsl]), (.slot 8, .cells [.d (.int .i64 kd), .d (.str nm), .d (.int .i64 nv), .d (.list al), .own (.slot 63) 0 ((sFlows (m + 1) s).1.map FlowT.cells).length]), (.slot 63, .arr 71 2 0 ((sFlows (m + 1) s).1.map FlowT.cells))]⟩) := by
  rw [sFlows_1 _ g1]
  obtain ⟨a1, h1, c1⟩ := qUint hL 4096 (by omega) h
  obtain ⟨a2, h2, c2⟩ := qMaybe hL h1
  replace c1 := c1 j (by omega)
  replace c2 := c2 j (by omega)
  obtain ⟨a3, h3, hih⟩ := m24LN j L hL hj id n0 i0 kd nm nv al n hn16 hlp m 1 1 (sFlow s).2 a2 _ 1 [FlowT.cells (sFlow s).1] (by omega) (by omega) rfl h2 rfl rfl (by omega)
  refine ⟨a3, h3, fun lf st hlf hp => ?_⟩
  have hend : (0 : Int) < (n : Int) := by omega
  rw [g1] at c1
  have hA : ((sFlow s).1 :: (sFlows m (sFlow s).2).1).map FlowT.cells = [FlowT.cells (sFlow s).1] ++ (sFlows m (sFlow s).2).1.map FlowT.cells := rfl
  rw [hA]
  have hfc : FlowT.cells (sFlow s).1 = [D.int .i64 ((sN 4096 s).1 : Int), D.list (cellsL (sM (sN 4096 s).2).1)] := rfl
  have hf2 : (sFlow s).2.2 = (sM (sN 4096 s).2).2.2 := rfl
  rw [hfc] at hih ⊢
  rw [hf2] at hih
  generalize sFlows m (sFlow s).2 = rr at *
  generalize sN 4096 s = r1 at *
  obtain ⟨v1, s1⟩ := r1
  generalize sM s1 = r2 at *
  obtain ⟨v2, s2⟩ := r2
  dsimp only at c1 c2 hih ⊢
  obtain ⟨lf, rfl⟩ : ∃ n, lf = n + 1 := ⟨lf - 1, by omega⟩
  refine loop_step hp ?_
  conv => lhs; whnf
  refine iteK_dec_t hend ?_
  conv => lhs; whnf
  refine iteK_dec_t hend ?_
  conv => lhs; whnf
  refine iteK_dec_t hend ?_
  conv => lhs; whnf
  refine iteK_dec_t hend ?_
  conv => lhs; whnf
  refine iteK_dec_t hend ?_
  conv => lhs; whnf
  refine iteK_dec_t hend ?_
  conv => lhs; whnf
  refine iteO_t (by kernel_rfl) ?_
  conv => lhs; whnf
  refine nextK_of c1 ?_
  conv => lhs; whnf
  refine nextK_of c2 ?_
  conv => lhs; whnf
  refine iteO_t (by kernel_rfl) ?_
  conv => lhs; whnf
  refine Eq.trans (hih lf _ (by omega) rfl) ?_
  rfl
theorem m24EO (j : Nat) (L : Nat) (hL : L ≤ LB) (hj : 7 * L + 20000 < j) (id : List UInt8) (l : Nat) (ps : List (List D)) (n0 i0 : Int) (kd : Int) (nm : List UInt8) (nv : Int) (al : List (List D)) (n : Nat) (hn16 : n ≤ 1000000) {lp : LP} (hlp : lp = lpOf Try.prog cfg (icall Try.prog cfg j) Try.f24.ntmps 24 j (([] : Hp).map (·.1))) (mb : List UInt8) (e : Int) (z : Int) (he : e ≠ 0 ∨ ¬ z < (n : Int)) (lf : Nat) (hlf : 0 < lf) (st : St)
    (hp : prune [] [2, 4, 5, 6, 7, 8, 9, 10] st = some ⟨[(2, .ptr (.slot 2) 0), (4, .ptr (.slot 14) 0), (5, .ptr (.slot 5) 0), (6, .d (.int .i64 n0)), (7, .d (.int .i64 i0)), (8, .ptr (.slot 8) 0), (9, .d (.int .i64 n)), (10, .d (.int .i64 z))], [(.slot 2, .cells [.d (.str []), .nilsl]), (.slot 14, .cells [.d (.list (bL mb)), .d (.int .i64 e)]), (.slot 5, .cells [.d (.str id), .own (.slot 69) 0 l]), (.slot 8, .cells [.d (.int .i64 kd), .d (.str nm), .d (.int .i64 nv), .d (.list al), .nilsl]), (.slot 69, .arr 57 5 0 ps)]⟩) :
    loopK Try.prog cfg (icall Try.prog cfg j) lp Try.f24.ntmps 24 [] (bodyAt Try.f24 10) lf st (exitP [] (some [2, 4, 5, 6, 7, 8])) = some (.exit 2, ⟨[(2, .ptr (.slot 2) 0), (4, .ptr (.slot 14) 0), (5, .ptr (.slot 5) 0), (6, .d (.int .i64 n0)), (7, .d (.int .i64 i0)), (8, .ptr (.slot 8) 0)], [(.slot 2, .cells [.d (.str []), .nilsl]), (.slot 14, .cells [.d (.list (bL mb)), .d (.int .i64 e)]), (.slot 5, .cells [.d (.str id), .own (.slot 69) 0 l]), (.slot 8, .cells [.d (.int .i64 kd), .d (.str nm), .d (.int .i64 nv), .d (.list al), .nilsl]), (.slot 69, .arr 57 5 0 ps)]⟩) := by
  obtain ⟨lf, rfl⟩ : ∃ n, lf = n + 1 := ⟨lf - 1, by omega⟩
  refine loop_step hp ?_
  conv => lhs; whnf
  refine iteK_dec (fun h1 => ?_) (fun h1 => ?_)
  · rw [dec_t h1]
    conv => lhs; whnf
    refine iteK_beq (fun h2 => ?_) (fun h2 => ?_)
    · obtain rfl : e = (0 : Int) := h2
      (exfalso; omega)
    · rw [beq_f h2]
      conv => lhs; whnf
      refine Eq.trans (b := some (Fx.exit (2 : Nat), St.mk [((2 : Nat), AV.ptr (Nm.slot (2 : Nat)) (0 : Nat)), ((4 : Nat), AV.ptr (Nm.slot (14 : Nat)) (0 : Nat)), ((5 : Nat), AV.ptr (Nm.slot (5 : Nat)) (0 : Nat)), ((6 : Nat), AV.d (D.int IntKind.i64 n0)), ((7 : Nat), AV.d (D.int IntKind.i64 i0)), ((8 : Nat), AV.ptr (Nm.slot (8 : Nat)) (0 : Nat))] [(Nm.slot (2 : Nat), AObj.cells [AV.d (D.str []), AV.nilsl]), (Nm.slot (14 : Nat), AObj.cells [AV.d (D.list (bL mb)), AV.d (D.int IntKind.i64 e)]), (Nm.slot (5 : Nat), AObj.cells [AV.d (D.str id), AV.own (Nm.slot (69 : Nat)) (nat_lit 0) l]), (Nm.slot (8 : Nat), AObj.cells [AV.d (D.int IntKind.i64 kd), AV.d (D.str nm), AV.d (D.int IntKind.i64 nv), AV.d (D.list al), AV.nilsl]), (Nm.slot (69 : Nat), AObj.arr (57 : Nat) (5 : Nat) (nat_lit 0) ps)])) (by kernel_rfl) ?_
      rfl
  · rw [dec_f h1]
    conv => lhs; whnf
    refine Eq.trans (b := some (Fx.exit (2 : Nat), St.mk [((2 : Nat), AV.ptr (Nm.slot (2 : Nat)) (0 : Nat)), ((4 : Nat), AV.ptr (Nm.slot (14 : Nat)) (0 : Nat)), ((5 : Nat), AV.ptr (Nm.slot (5 : Nat)) (0 : Nat)), ((6 : Nat), AV.d (D.int IntKind.i64 n0)), ((7 : Nat), AV.d (D.int IntKind.i64 i0)), ((8 : Nat), AV.ptr (Nm.slot (8 : Nat)) (0 : Nat))] [(Nm.slot (2 : Nat), AObj.cells [AV.d (D.str []), AV.nilsl]), (Nm.slot (14 : Nat), AObj.cells [AV.d (D.list (bL mb)), AV.d (D.int IntKind.i64 e)]), (Nm.slot (5 : Nat), AObj.cells [AV.d (D.str id), AV.own (Nm.slot (69 : Nat)) (nat_lit 0) l]), (Nm.slot (8 : Nat), AObj.cells [AV.d (D.int IntKind.i64 kd), AV.d (D.str nm), AV.d (D.int IntKind.i64 nv), AV.d (D.list al), AV.nilsl]), (Nm.slot (69 : Nat), AObj.arr (57 : Nat) (5 : Nat) (nat_lit 0) ps)])) (by kernel_rfl) ?_
    rfl
theorem m24FO (j : Nat) (L : Nat) (hL : L ≤ LB) (hj : 7 * L + 20000 < j) (id : List UInt8) (l : Nat) (ps : List (List D)) (n0 i0 : Int) (kd : Int) (nm : List UInt8) (nv : Int) (al : List (List D)) (n : Nat) (hn16 : n ≤ 1000000) {lp : LP} (hlp : lp = lpOf Try.prog cfg (icall Try.prog cfg j) Try.f24.ntmps 24 j (([] : Hp).map (·.1))) (es : List (List D)) (q : Nat) (mb : List UInt8) (e : Int) (z : Int) (he : e ≠ 0 ∨ ¬ z < (n : Int)) (lf : Nat) (hlf : 0 < lf) (st : St)
    (hp : prune [] [2, 4, 5, 6, 7, 8, 9, 10] st = some ⟨[(2, .ptr (.slot 2) 0), (4, .ptr (.slot 14) 0), (5, .ptr (.slot 5) 0), (6, .d (.int .i64 n0)), (7, .d (.int .i64 i0)), (8, .ptr (.slot 8) 0), (9, .d (.int .i64 n)), (10, .d (.int .i64 z))], [(.slot 2, .cells [.d (.str []), .nilsl]), (.slot 14, .cells [.d (.list (bL mb)), .d (.int .i64 e)]), (.slot 5, .cells [.d (.str id), .own (.slot 69) 0 l]), (.slot 8, .cells [.d (.int .i64 kd), .d (.str nm), .d (.int .i64 nv), .d (.list al), .own (.slot 63) 0 q]), (.slot 69, .arr 57 5 0 ps), (.slot 63, .arr 71 2 0 es)]⟩) :
    loopK Try.prog cfg (icall Try.prog cfg j) lp Try.f24.ntmps 24 [] (bodyAt Try.f24 10) lf st (exitP [] (some [2, 4, 5, 6, 7, 8])) = some (.exit 2, ⟨[(2, .ptr (.slot 2) 0), (4, .ptr (.slot 14) 0), (5, .ptr (.slot 5) 0), (6, .d (.int .i64 n0)), (7, .d (.int .i64 i0)), (8, .ptr (.slot 8) 0)], [(.slot 2, .cells [.d (.str []), .nilsl]), (.slot 14, .cells [.d (.list (bL mb)), .d (.int .i64 e)]), (.slot 5, .cells [.d (.str id), .own (.slot 69) 0 l]), (.slot 8, .cells [.d (.int .i64 kd), .d (.str nm), .d (.int .i64 nv), .d (.list al), .own (.slot 63) 0 q]), (.slot 69, .arr 57 5 0 ps), (.slot 63, .arr 71 2 0 es)]⟩) := by
  obtain ⟨lf, rfl⟩ : ∃ n, lf = n + 1 := ⟨lf - 1, by omega⟩
  refine loop_step hp ?_
  conv => lhs; whnf
  refine iteK_dec (fun h1 => ?_) (fun h1 => ?_)
  · rw [dec_t h1]
    conv => lhs; whnf
    refine iteK_beq (fun h2 => ?_) (fun h2 => ?_)
    · obtain rfl : e = (0 : Int) := h2
      (exfalso; omega)
    · rw [beq_f h2]
      conv => lhs; whnf
      refine Eq.trans (b := some (Fx.exit (2 : Nat), St.mk [((2 : Nat), AV.ptr (Nm.slot (2 : Nat)) (0 : Nat)), ((4 : Nat), AV.ptr (Nm.slot (14 : Nat)) (0 : Nat)), ((5 : Nat), AV.ptr (Nm.slot (5 : Nat)) (0 : Nat)), ((6 : Nat), AV.d (D.int IntKind.i64 n0)), ((7 : Nat), AV.d (D.int IntKind.i64 i0)), ((8 : Nat), AV.ptr (Nm.slot (8 : Nat)) (0 : Nat))] [(Nm.slot (2 : Nat), AObj.cells [AV.d (D.str []), AV.nilsl]), (Nm.slot (14 : Nat), AObj.cells [AV.d (D.list (bL mb)), AV.d (D.int IntKind.i64 e)]), (Nm.slot (5 : Nat), AObj.cells [AV.d (D.str id), AV.own (Nm.slot (69 : Nat)) (nat_lit 0) l]), (Nm.slot (8 : Nat), AObj.cells [AV.d (D.int IntKind.i64 kd), AV.d (D.str nm), AV.d (D.int IntKind.i64 nv), AV.d (D.list al), AV.own (Nm.slot (63 : Nat)) (nat_lit 0) q]), (Nm.slot (69 : Nat), AObj.arr (57 : Nat) (5 : Nat) (nat_lit 0) ps), (Nm.slot (63 : Nat), AObj.arr (71 : Nat) (2 : Nat) (nat_lit 0) es)])) (by kernel_rfl) ?_
      rfl
  · rw [dec_f h1]
    conv => lhs; whnf
    refine Eq.trans (b := some (Fx.exit (2 : Nat), St.mk [((2 : Nat), AV.ptr (Nm.slot (2 : Nat)) (0 : Nat)), ((4 : Nat), AV.ptr (Nm.slot (14 : Nat)) (0 : Nat)), ((5 : Nat), AV.ptr (Nm.slot (5 : Nat)) (0 : Nat)), ((6 : Nat), AV.d (D.int IntKind.i64 n0)), ((7 : Nat), AV.d (D.int IntKind.i64 i0)), ((8 : Nat), AV.ptr (Nm.slot (8 : Nat)) (0 : Nat))] [(Nm.slot (2 : Nat), AObj.cells [AV.d (D.str []), AV.nilsl]), (Nm.slot (14 : Nat), AObj.cells [AV.d (D.list (bL mb)), AV.d (D.int IntKind.i64 e)]), (Nm.slot (5 : Nat), AObj.cells [AV.d (D.str id), AV.own (Nm.slot (69 : Nat)) (nat_lit 0) l]), (Nm.slot (8 : Nat), AObj.cells [AV.d (D.int IntKind.i64 kd), AV.d (D.str nm), AV.d (D.int IntKind.i64 nv), AV.d (D.list al), AV.own (Nm.slot (63 : Nat)) (nat_lit 0) q]), (Nm.slot (69 : Nat), AObj.arr (57 : Nat) (5 : Nat) (nat_lit 0) ps), (Nm.slot (63 : Nat), AObj.arr (71 : Nat) (2 : Nat) (nat_lit 0) es)])) (by kernel_rfl) ?_
    rfl
theorem m24LO (j : Nat) (L : Nat) (hL : L ≤ LB) (hj : 7 * L + 20000 < j) (id : List UInt8) (l : Nat) (ps : List (List D)) (n0 i0 : Int) (kd : Int) (nm : List UInt8) (nv : Int) (al : List (List D)) (n : Nat) (hn16 : n ≤ 1000000) {lp : LP} (hlp : lp = lpOf Try.prog cfg (icall Try.prog cfg j) Try.f24.ntmps 24 j (([] : Hp).map (·.1))) :
    ∀ (m i : Nat) (z : Int) (s : Sg) (mb : List UInt8) (e : Int) (q : Nat) (es : List (List D)), n - i = m → i ≤ n → z = (i : Int) → Rl L mb s → s.2 = e → es.length = q → q ≤ 2000000 + i →
    ∃ mb', Rl L mb' (sFlows m s).2 ∧ ∀ (lf : Nat) (st : St), m + 1 < lf → prune [] [2, 4, 5, 6, 7, 8, 9, 10] st = some ⟨[(2, .ptr (.slot 2) 0), (4, .ptr (.slot 14) 0), (5, .ptr (.slot 5) 0), (6, .d (.int .i64 n0)), (7, .d (.int .i64 i0)), (8, .ptr (.slot 8) 0), (9, .d (.int .i64 n)), (10, .d (.int .i64 z))], [(.slot 2, .cells [.d (.str []), .nilsl]), (.slot 14, .cells [.d (.list (bL mb)), .d (.int .i64 e)]), (.slot 5, .cells [.d (.str id), .own (.slot 69) 0 l]), (.slot 8, .cells [.d (.int .i64 kd), .d (.str nm), .d (.int .i64 nv), .d (.list al), .own (.slot 63) 0 q]), (.slot 69, .arr 57 5 0 ps), (.slot 63, .arr 71 2 0 es)]⟩ →
    loopK Try.prog cfg (icall Try.prog cfg j) lp Try.f24.ntmps 24 [] (bodyAt Try.f24 10) lf st (exitP [] (some [2, 4, 5, 6, 7, 8])) = some (.exit 2, ⟨[(2, .ptr (.slot 2) 0), (4, .ptr (.slot 14) 0), (5, .ptr (.slot 5) 0), (6, .d (.int .i64 n0)), (7, .d (.int .i64 i0)), (8, .ptr (.slot 8) 0)], [(.slot 2, .cells [.d (.str []), .nilsl]), (.slot 14, .cells [.d (.list (bL mb')), .d (.int .i64 (sFlows m s).2.2)]), (.slot 5, .cells [.d (.str id), .own (.slot 69) 0 l]), (.slot 8, .cells [.d (.int .i64 kd), .d (.str nm), .d (.int .i64 nv), .d (.list al), .own (.slot 63) 0 (es ++ (sFlows m s).1.map FlowT.cells).length]), (.slot 69, .arr 57 5 0 ps), (.slot 63, .arr 71 2 0 (es ++ (sFlows m s).1.map FlowT.cells))]⟩) := by
  intro m
  have hmx : 1000001 ≤ maxLen := by decide
  induction m with
  | zero =>
    intro i z s mb e q es hi hle hz h he hl hb
    refine ⟨mb, h, fun lf st hlf hp => ?_⟩
    rw [m24FO j L hL hj id l ps n0 i0 kd nm nv al n hn16 hlp es q mb e z (.inr (by omega)) lf (by omega) st hp]
    rw [sFlows, List.map_nil, List.append_nil, hl, he]
  | succ m ihm =>
    intro i z s mb e q es hi hle hz h he hl hb
    by_cases g0 : e ≠ 0
    · refine ⟨mb, by rw [sFlows_e _ (by omega)]; exact h, fun lf st hlf hp => ?_⟩
      rw [m24FO j L hL hj id l ps n0 i0 kd nm nv al n hn16 hlp es q mb e z (.inl g0) lf (by omega) st hp]
      rw [sFlows_e _ (by omega), List.map_nil, List.append_nil, hl, he]
    · have g1 : s.2 = 0 := by omega
      obtain rfl : e = 0 := by omega
      rw [sFlows_1 _ g1]
      obtain ⟨a1, h1, c1⟩ := qUint hL 4096 (by omega) h
      obtain ⟨a2, h2, c2⟩ := qMaybe hL h1
      replace c1 := c1 j (by omega)
      replace c2 := c2 j (by omega)
      have hR : es.take q ++ [[D.int .i64 ((sN 4096 s).1 : Int), D.list (cellsL (sM (sN 4096 s).2).1)]] = es ++ [FlowT.cells (sFlow s).1] := by rw [List.take_of_length_le (by omega)]; rfl
      have hRl : (es ++ [FlowT.cells (sFlow s).1]).length = q + 1 := by rw [List.length_append, hl]; rfl
      obtain ⟨a3, h3, hih⟩ := ihm (i + 1) (IntKind.i64.wrap (z + 1)) (sFlow s).2 a2 _ (q + 1) (es ++ [FlowT.cells (sFlow s).1]) (by omega) (by omega) (wrap_up hz (by omega)) h2 rfl hRl (by omega)
      refine ⟨a3, h3, fun lf st hlf hp => ?_⟩
      have hA : es ++ ((sFlow s).1 :: (sFlows m (sFlow s).2).1).map FlowT.cells = (es ++ [FlowT.cells (sFlow s).1]) ++ (sFlows m (sFlow s).2).1.map FlowT.cells := by rw [List.append_assoc]; rfl
      rw [hA]
      rw [← hR] at hih ⊢
      have hend : z < (n : Int) := by omega
      rw [g1] at c1
      have hf2 : (sFlow s).2.2 = (sM (sN 4096 s).2).2.2 := rfl
      rw [hf2] at hih
      generalize sFlows m (sFlow s).2 = rr at *
      generalize sN 4096 s = r1 at *
      obtain ⟨v1, s1⟩ := r1
      generalize sM s1 = r2 at *
      obtain ⟨v2, s2⟩ := r2
      dsimp only at c1 c2 hih ⊢
      obtain ⟨lf, rfl⟩ : ∃ n, lf = n + 1 := ⟨lf - 1, by omega⟩
      refine loop_step hp ?_
      conv => lhs; whnf
      refine iteK_dec_t hend ?_
      conv => lhs; whnf
      refine iteK_dec_t hend ?_
      conv => lhs; whnf
      refine iteK_dec_t hend ?_
      conv => lhs; whnf
      refine iteK_dec_t hend ?_
      conv => lhs; whnf
      refine iteK_dec_t hend ?_
      conv => lhs; whnf
      refine iteK_dec_t hend ?_
      conv => lhs; whnf
      refine iteO_t (by kernel_rfl) ?_
      conv => lhs; whnf
      refine nextK_of c1 ?_
      conv => lhs; whnf
      refine nextK_of c2 ?_
      conv => lhs; whnf
      refine nextK_of (aop_app rfl rfl rfl rfl rfl rfl rfl rfl rfl rfl rfl rfl (lenF (by omega))) ?_
      conv => lhs; whnf
      refine iteO_t (by kernel_rfl) ?_
      conv => lhs; whnf
      refine Eq.trans (hih lf _ (by omega) rfl) ?_
      rfl
theorem m24SO (j : Nat) (L : Nat) (hL : L ≤ LB) (hj : 7 * L + 20000 < j) (id : List UInt8) (l : Nat) (ps : List (List D)) (n0 i0 : Int) (kd : Int) (nm : List UInt8) (nv : Int) (al : List (List D)) (n : Nat) (hn16 : n ≤ 1000000) {lp : LP} (hlp : lp = lpOf Try.prog cfg (icall Try.prog cfg j) Try.f24.ntmps 24 j (([] : Hp).map (·.1))) (m : Nat) (hm : n = m + 1) (s : Sg) (mb : List UInt8) (h : Rl L mb s) (g1 : s.2 = 0) :
    ∃ mb', Rl L mb' (sFlows (m + 1) s).2 ∧ ∀ (lf : Nat) (st : St), m + 3 < lf → prune [] [2, 4, 5, 6, 7, 8, 9, 10] st = some ⟨[(2, .ptr (.slot 2) 0), (4, .ptr (.slot 14) 0), (5, .ptr (.slot 5) 0), (6, .d (.int .i64 n0)), (7, .d (.int .i64 i0)), (8, .ptr (.slot 8) 0), (9, .d (.int .i64 n)), (10, .d (.int .i64 0))], [(.slot 2, .cells [.d (.str []), .nilsl]), (.slot 14, .cells [.d (.list (bL mb)), .d (.int .i64 0)]), (.slot 5, .cells [.d (.str id), .own (.slot 69) 0 l]), (.slot 8, .cells [.d (.int .i64 kd), .d (.str nm), .d (.int .i64 nv), .d (.list al), .nilsl]), (.slot 69, .arr 57 5 0 ps)]⟩ →
    loopK Try.prog cfg (icall Try.prog cfg j) lp Try.f24.ntmps 24 [] (bodyAt Try.f24 10) lf st (exitP [] (some [2, 4, 5, 6, 7, 8])) = some (.exit 2, ⟨[(2, .ptr (.slot 2) 0), (4, .ptr (.slot 14) 0), (5, .ptr (.slot 5) 0), (6, .d (.int .i64 n0)), (7, .d (.int .i64 i0)), (8, .ptr (.slot 8) 0)], [(.slot 2, .cells [.d (.str []), .nilsl]), (.slot 14, .cells [.d (.list (bL mb')), .d (.int .i64 (sFlows (m + 1) s).2.2)]), (.slot 5, .cells [.d (.str id), .own (.slot 69) 0 l]), (.slot 8, .cells [.d (.int .i64 kd), .d (.str nm), .d (.int .i64 nv), .d (.list al), .own (.slot 63) 0 ((sFlows (m + 1) s).1.map FlowT.cells).length]), (.slot 69, .arr 57 5 0 ps), (.slot 63, .arr 71 2 0 ((sFlows (m + 1) s).1.map FlowT.cells))]⟩) := by
  rw [sFlows_1 _ g1]
  obtain ⟨a1, h1, c1⟩ := qUint hL 4096 (by omega) h
  obtain ⟨a2, h2, c2⟩ := qMaybe hL h1
  replace c1 := c1 j (by omega)
  replace c2 := c2 j (by omega)
  obtain ⟨a3, h3, hih⟩ := m24LO j L hL hj id l ps n0 i0 kd nm nv al n hn16 hlp m 1 1 (sFlow s).2 a2 _ 1 [FlowT.cells (sFlow s).1] (by omega) (by omega) rfl h2 rfl rfl (by omega)
  refine ⟨a3, h3, fun lf st hlf hp => ?_⟩
  have hend : (0 : Int) < (n : Int) := by omega
  rw [g1] at c1
  have hA : ((sFlow s).1 :: (sFlows m (sFlow s).2).1).map FlowT.cells = [FlowT.cells (sFlow s).1] ++ (sFlows m (sFlow s).2).1.map FlowT.cells := rfl
  rw [hA]
  have hfc : FlowT.cells (sFlow s).1 = [D.int .i64 ((sN 4096 s).1 : Int), D.list (cellsL (sM (sN 4096 s).2).1)] := rfl
  have hf2 : (sFlow s).2.2 = (sM (sN 4096 s).2).2.2 := rfl
  rw [hfc] at hih ⊢
  rw [hf2] at hih
  generalize sFlows m (sFlow s).2 = rr at *
  generalize sN 4096 s = r1 at *
  obtain ⟨v1, s1⟩ := r1
  generalize sM s1 = r2 at *
  obtain ⟨v2, s2⟩ := r2
  dsimp only at c1 c2 hih ⊢
  obtain ⟨lf, rfl⟩ : ∃ n, lf = n + 1 := ⟨lf - 1, by omega⟩
  refine loop_step hp ?_
  conv => lhs; whnf
  refine iteK_dec_t hend ?_
  conv => lhs; whnf
  refine iteK_dec_t hend ?_
  conv => lhs; whnf
  refine iteK_dec_t hend ?_
  conv => lhs; whnf
  refine iteK_dec_t hend ?_
  conv => lhs; whnf
  refine iteK_dec_t hend ?_
  conv => lhs; whnf
  refine iteK_dec_t hend ?_
  conv => lhs; whnf
  refine iteO_t (by kernel_rfl) ?_
  conv => lhs; whnf
  refine nextK_of c1 ?_
  conv => lhs; whnf
  refine nextK_of c2 ?_
  conv => lhs; whnf
  refine iteO_t (by kernel_rfl) ?_
  conv => lhs; whnf
  refine Eq.trans (hih lf _ (by omega) rfl) ?_
  rfl
end Go.Rx11
