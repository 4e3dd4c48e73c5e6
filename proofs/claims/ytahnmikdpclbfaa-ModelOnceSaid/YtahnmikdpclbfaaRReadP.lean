/- A part of the proof of the law: what functions of the program come to, walked by Rx, or plain facts on it. -/
import Derived.Test.YtahnmikdpclbfaaRReadQ
open Go Go.Rx Go.Proofs Go.Rx11 Go.RxTree
set_option maxRecDepth 1000000
set_option maxHeartbeats 4000000
set_option linter.unusedVariables false
set_option linter.unusedSimpArgs false
namespace Go.Rx11
theorem lenF {n : Nat} (h : n ≤ 50000000) : (n + 1) * (32 + 1) ≤ lim := by unfold lim; omega
theorem sFlows_e (n : Nat) {s : Sg} (h : s.2 ≠ 0) : sFlows n s = ([], s) := by
  cases n with
  | zero => rfl
  | succ n => rw [sFlows, if_pos h]
theorem sFlows_1 (n : Nat) {s : Sg} (h : s.2 = 0) : sFlows (n + 1) s = ((sFlow s).1 :: (sFlows n (sFlow s).2).1, (sFlows n (sFlow s).2).2) := by
  rw [sFlows, if_neg (by omega)]
theorem p55E (j : Nat) (B : List UInt8) (hB : B.length ≤ LB) (hj : 7 * B.length + 100 < j) (kd : Int) (nm : List UInt8) (nv : Int) (al : List (List D)) (n : Nat) (hn16 : n ≤ 1000000) {lp : LP} {e0 : Int} {a0 : Nat} (hlp : lp = lpOf Try.prog cfg (icall Try.prog cfg j) Try.f55.ntmps 55 j ((rfH B a0 e0).map (·.1))) (s : Sg) (a : Nat) (e : Int) (z : Int) (he : e ≠ 0 ∨ ¬ z < (n : Int)) (lf : Nat) (hlf : 0 < lf) (st : St)
    (hp : prune [Nm.arg 0] [0, 2, 3, 4, 5] st = some ⟨[(0, .ptr (.arg 0) 0), (2, .ptr (.slot 2) 0), (3, .ptr (.slot 3) 0), (4, .d (.int .i64 n)), (5, .d (.int .i64 z))], [(.arg 0, .cells [.d (.list (bL B)), .d (.int .i64 a), .d (.int .i64 e)]), (.slot 2, .cells [.d (.int .i64 0), .d (.str []), .d (.int .i64 0), .nilsl, .nilsl]), (.slot 3, .cells [.d (.int .i64 kd), .d (.str nm), .d (.int .i64 nv), .d (.list al), .nilsl])]⟩) :
    loopK Try.prog cfg (icall Try.prog cfg j) lp Try.f55.ntmps 55 [Nm.arg 0] (bodyAt Try.f55 8) lf st (exitP [Nm.arg 0] (some [2, 3])) = some (.exit 0, ⟨[(2, .ptr (.slot 2) 0), (3, .ptr (.slot 3) 0)], [(.arg 0, .cells [.d (.list (bL B)), .d (.int .i64 a), .d (.int .i64 e)]), (.slot 2, .cells [.d (.int .i64 0), .d (.str []), .d (.int .i64 0), .nilsl, .nilsl]), (.slot 3, .cells [.d (.int .i64 kd), .d (.str nm), .d (.int .i64 nv), .d (.list al), .nilsl])]⟩) := by
  obtain ⟨lf, rfl⟩ : ∃ n, lf = n + 1 := ⟨lf - 1, by omega⟩
  refine loop_step hp ?_
  conv => lhs; whnf
  refine iteK_dec (fun h1 => ?_) (fun h1 => ?_)
  · rw [dec_t h1]
    conv => lhs; whnf
    refine iteK_beq (fun h2 => ?_) (fun h2 => ?_)
    · obtain rfl : e = (0 : Int) := h2
      (exfalso; omega)
    · rw [beq_f h2]
      conv => lhs; whnf
      refine Eq.trans (b := some (Fx.exit (0 : Nat), St.mk [((2 : Nat), AV.ptr (Nm.slot (2 : Nat)) (0 : Nat)), ((3 : Nat), AV.ptr (Nm.slot (3 : Nat)) (0 : Nat))] [(Nm.arg (0 : Nat), AObj.cells [AV.d (D.list (bL B)), AV.d (D.int IntKind.i64 ↑a), AV.d (D.int IntKind.i64 e)]), (Nm.slot (2 : Nat), AObj.cells [AV.d (D.int IntKind.i64 (0 : Int)), AV.d (D.str []), AV.d (D.int IntKind.i64 (0 : Int)), AV.nilsl, AV.nilsl]), (Nm.slot (3 : Nat), AObj.cells [AV.d (D.int IntKind.i64 kd), AV.d (D.str nm), AV.d (D.int IntKind.i64 nv), AV.d (D.list al), AV.nilsl])])) (by kernel_rfl) ?_
      rfl
  · rw [dec_f h1]
    conv => lhs; whnf
    refine Eq.trans (b := some (Fx.exit (0 : Nat), St.mk [((2 : Nat), AV.ptr (Nm.slot (2 : Nat)) (0 : Nat)), ((3 : Nat), AV.ptr (Nm.slot (3 : Nat)) (0 : Nat))] [(Nm.arg (0 : Nat), AObj.cells [AV.d (D.list (bL B)), AV.d (D.int IntKind.i64 ↑a), AV.d (D.int IntKind.i64 e)]), (Nm.slot (2 : Nat), AObj.cells [AV.d (D.int IntKind.i64 (0 : Int)), AV.d (D.str []), AV.d (D.int IntKind.i64 (0 : Int)), AV.nilsl, AV.nilsl]), (Nm.slot (3 : Nat), AObj.cells [AV.d (D.int IntKind.i64 kd), AV.d (D.str nm), AV.d (D.int IntKind.i64 nv), AV.d (D.list al), AV.nilsl])])) (by kernel_rfl) ?_
    rfl
theorem p55F (j : Nat) (B : List UInt8) (hB : B.length ≤ LB) (hj : 7 * B.length + 100 < j) (kd : Int) (nm : List UInt8) (nv : Int) (al : List (List D)) (n : Nat) (hn16 : n ≤ 1000000) {lp : LP} {e0 : Int} {a0 : Nat} (hlp : lp = lpOf Try.prog cfg (icall Try.prog cfg j) Try.f55.ntmps 55 j ((rfH B a0 e0).map (·.1))) (es : List (List D)) (l : Nat) (s : Sg) (a : Nat) (e : Int) (z : Int) (he : e ≠ 0 ∨ ¬ z < (n : Int)) (lf : Nat) (hlf : 0 < lf) (st : St)
    (hp : prune [Nm.arg 0] [0, 2, 3, 4, 5] st = some ⟨[(0, .ptr (.arg 0) 0), (2, .ptr (.slot 2) 0), (3, .ptr (.slot 3) 0), (4, .d (.int .i64 n)), (5, .d (.int .i64 z))], [(.arg 0, .cells [.d (.list (bL B)), .d (.int .i64 a), .d (.int .i64 e)]), (.slot 2, .cells [.d (.int .i64 0), .d (.str []), .d (.int .i64 0), .nilsl, .nilsl]), (.slot 3, .cells [.d (.int .i64 kd), .d (.str nm), .d (.int .i64 nv), .d (.list al), .own (.slot 45) 0 l]), (.slot 45, .arr 71 2 0 es)]⟩) :
    loopK Try.prog cfg (icall Try.prog cfg j) lp Try.f55.ntmps 55 [Nm.arg 0] (bodyAt Try.f55 8) lf st (exitP [Nm.arg 0] (some [2, 3])) = some (.exit 0, ⟨[(2, .ptr (.slot 2) 0), (3, .ptr (.slot 3) 0)], [(.arg 0, .cells [.d (.list (bL B)), .d (.int .i64 a), .d (.int .i64 e)]), (.slot 2, .cells [.d (.int .i64 0), .d (.str []), .d (.int .i64 0), .nilsl, .nilsl]), (.slot 3, .cells [.d (.int .i64 kd), .d (.str nm), .d (.int .i64 nv), .d (.list al), .own (.slot 45) 0 l]), (.slot 45, .arr 71 2 0 es)]⟩) := by
  obtain ⟨lf, rfl⟩ : ∃ n, lf = n + 1 := ⟨lf - 1, by omega⟩
  refine loop_step hp ?_
  conv => lhs; whnf
  refine iteK_dec (fun h1 => ?_) (fun h1 => ?_)
  · rw [dec_t h1]
    conv => lhs; whnf
    refine iteK_beq (fun h2 => ?_) (fun h2 => ?_)
    · obtain rfl : e = (0 : Int) := h2
      (exfalso; omega)
    · rw [beq_f h2]
      conv => lhs; whnf
      refine Eq.trans (b := some (Fx.exit (0 : Nat), St.mk [((2 : Nat), AV.ptr (Nm.slot (2 : Nat)) (0 : Nat)), ((3 : Nat), AV.ptr (Nm.slot (3 : Nat)) (0 : Nat))] [(Nm.arg (0 : Nat), AObj.cells [AV.d (D.list (bL B)), AV.d (D.int IntKind.i64 ↑a), AV.d (D.int IntKind.i64 e)]), (Nm.slot (2 : Nat), AObj.cells [AV.d (D.int IntKind.i64 (0 : Int)), AV.d (D.str []), AV.d (D.int IntKind.i64 (0 : Int)), AV.nilsl, AV.nilsl]), (Nm.slot (3 : Nat), AObj.cells [AV.d (D.int IntKind.i64 kd), AV.d (D.str nm), AV.d (D.int IntKind.i64 nv), AV.d (D.list al), AV.own (Nm.slot (45 : Nat)) (nat_lit 0) l]), (Nm.slot (45 : Nat), AObj.arr (71 : Nat) (2 : Nat) (nat_lit 0) es)])) (by kernel_rfl) ?_
      rfl
  · rw [dec_f h1]
    conv => lhs; whnf
    refine Eq.trans (b := some (Fx.exit (0 : Nat), St.mk [((2 : Nat), AV.ptr (Nm.slot (2 : Nat)) (0 : Nat)), ((3 : Nat), AV.ptr (Nm.slot (3 : Nat)) (0 : Nat))] [(Nm.arg (0 : Nat), AObj.cells [AV.d (D.list (bL B)), AV.d (D.int IntKind.i64 ↑a), AV.d (D.int IntKind.i64 e)]), (Nm.slot (2 : Nat), AObj.cells [AV.d (D.int IntKind.i64 (0 : Int)), AV.d (D.str []), AV.d (D.int IntKind.i64 (0 : Int)), AV.nilsl, AV.nilsl]), (Nm.slot (3 : Nat), AObj.cells [AV.d (D.int IntKind.i64 kd), AV.d (D.str nm), AV.d (D.int IntKind.i64 nv), AV.d (D.list al), AV.own (Nm.slot (45 : Nat)) (nat_lit 0) l]), (Nm.slot (45 : Nat), AObj.arr (71 : Nat) (2 : Nat) (nat_lit 0) es)])) (by kernel_rfl) ?_
    rfl
theorem p55L (j : Nat) (B : List UInt8) (hB : B.length ≤ LB) (hj : 7 * B.length + 100 < j) (kd : Int) (nm : List UInt8) (nv : Int) (al : List (List D)) (n : Nat) (hn16 : n ≤ 1000000) {lp : LP} {e0 : Int} {a0 : Nat} (hlp : lp = lpOf Try.prog cfg (icall Try.prog cfg j) Try.f55.ntmps 55 j ((rfH B a0 e0).map (·.1))) :
    ∀ (m i : Nat) (z : Int) (s : Sg) (a : Nat) (e : Int) (l : Nat) (es : List (List D)), n - i = m → i ≤ n → z = (i : Int) → Rf B a s → s.2 = e → es.length = l → l ≤ 2000000 + i →
    ∃ a', Rf B a' (sFlows m s).2 ∧ ∀ (lf : Nat) (st : St), m + 1 < lf → prune [Nm.arg 0] [0, 2, 3, 4, 5] st = some ⟨[(0, .ptr (.arg 0) 0), (2, .ptr (.slot 2) 0), (3, .ptr (.slot 3) 0), (4, .d (.int .i64 n)), (5, .d (.int .i64 z))], [(.arg 0, .cells [.d (.list (bL B)), .d (.int .i64 a), .d (.int .i64 e)]), (.slot 2, .cells [.d (.int .i64 0), .d (.str []), .d (.int .i64 0), .nilsl, .nilsl]), (.slot 3, .cells [.d (.int .i64 kd), .d (.str nm), .d (.int .i64 nv), .d (.list al), .own (.slot 45) 0 l]), (.slot 45, .arr 71 2 0 es)]⟩ →
    loopK Try.prog cfg (icall Try.prog cfg j) lp Try.f55.ntmps 55 [Nm.arg 0] (bodyAt Try.f55 8) lf st (exitP [Nm.arg 0] (some [2, 3])) = some (.exit 0, ⟨[(2, .ptr (.slot 2) 0), (3, .ptr (.slot 3) 0)], [(.arg 0, .cells [.d (.list (bL B)), .d (.int .i64 a'), .d (.int .i64 (sFlows m s).2.2)]), (.slot 2, .cells [.d (.int .i64 0), .d (.str []), .d (.int .i64 0), .nilsl, .nilsl]), (.slot 3, .cells [.d (.int .i64 kd), .d (.str nm), .d (.int .i64 nv), .d (.list al), .own (.slot 45) 0 (es ++ (sFlows m s).1.map FlowT.cells).length]), (.slot 45, .arr 71 2 0 (es ++ (sFlows m s).1.map FlowT.cells))]⟩) := by
  intro m
  have hmx : 1000001 ≤ maxLen := by decide
  induction m with
  | zero =>
    intro i z s a e l es hi hle hz h he hl hb
    refine ⟨a, h, fun lf st hlf hp => ?_⟩
    rw [p55F j B hB hj kd nm nv al n hn16 hlp es l s a e z (.inr (by omega)) lf (by omega) st hp]
    rw [sFlows, List.map_nil, List.append_nil, hl, he]
  | succ m ihm =>
    intro i z s a e l es hi hle hz h he hl hb
    by_cases g0 : e ≠ 0
    · refine ⟨a, by rw [sFlows_e _ (by omega)]; exact h, fun lf st hlf hp => ?_⟩
      rw [p55F j B hB hj kd nm nv al n hn16 hlp es l s a e z (.inl g0) lf (by omega) st hp]
      rw [sFlows_e _ (by omega), List.map_nil, List.append_nil, hl, he]
    · have g1 : s.2 = 0 := by omega
      obtain rfl : e = 0 := by omega
      rw [sFlows_1 _ g1]
      obtain ⟨a1, h1, c1⟩ := pUint hB 4096 (by omega) h
      obtain ⟨a2, h2, c2⟩ := pMaybe hB h1
      replace c1 := c1 j hj
      replace c2 := c2 j hj
      have hR : es.take l ++ [[D.int .i64 ((sN 4096 s).1 : Int), D.list (cellsL (sM (sN 4096 s).2).1)]] = es ++ [FlowT.cells (sFlow s).1] := by rw [List.take_of_length_le (by omega)]; rfl
      have hRl : (es ++ [FlowT.cells (sFlow s).1]).length = l + 1 := by rw [List.length_append, hl]; rfl
      obtain ⟨a3, h3, hih⟩ := ihm (i + 1) (IntKind.i64.wrap (z + 1)) (sFlow s).2 a2 _ (l + 1) (es ++ [FlowT.cells (sFlow s).1]) (by omega) (by omega) (wrap_up hz (by omega)) h2 rfl hRl (by omega)
      refine ⟨a3, h3, fun lf st hlf hp => ?_⟩
      have hA : es ++ ((sFlow s).1 :: (sFlows m (sFlow s).2).1).map FlowT.cells = (es ++ [FlowT.cells (sFlow s).1]) ++ (sFlows m (sFlow s).2).1.map FlowT.cells := by rw [List.append_assoc]; rfl
      rw [hA]
      rw [← hR] at hih ⊢
      have hend : z < (n : Int) := by omega
      rw [g1] at c1
      change ∀ (lf : Nat) (st : St), _ → prune _ _ _ = some ⟨_, [(_, .cells [_, _, .d (.int .i64 (sM (sN 4096 s).2).2.2)]), _, _, _]⟩ → _ at hih
      generalize sFlows m (sFlow s).2 = rr at *
      generalize sN 4096 s = r1 at *
      obtain ⟨v1, s1⟩ := r1
      generalize sM s1 = r2 at *
      obtain ⟨v2, s2⟩ := r2
      dsimp only at c1 c2 hih ⊢
      obtain ⟨lf, rfl⟩ : ∃ n, lf = n + 1 := ⟨lf - 1, by omega⟩
      refine loop_step hp ?_
      conv => lhs; whnf
      refine iteK_dec_t hend ?_
      conv => lhs; whnf
      refine iteK_dec_t hend ?_
      conv => lhs; whnf
      refine iteK_dec_t hend ?_
      conv => lhs; whnf
      refine iteK_dec_t hend ?_
      conv => lhs; whnf
      refine iteK_dec_t hend ?_
      conv => lhs; whnf
      refine iteK_dec_t hend ?_
      conv => lhs; whnf
      refine nextK_of c1 ?_
      conv => lhs; whnf
      refine nextK_of c2 ?_
      conv => lhs; whnf
      refine nextK_of (aop_app rfl rfl rfl rfl rfl rfl rfl rfl rfl rfl rfl rfl (lenF (by omega))) ?_
      conv => lhs; whnf
      refine Eq.trans (hih lf _ (by omega) rfl) ?_
      rfl
theorem p55S (j : Nat) (B : List UInt8) (hB : B.length ≤ LB) (hj : 7 * B.length + 100 < j) (kd : Int) (nm : List UInt8) (nv : Int) (al : List (List D)) (n : Nat) (hn16 : n ≤ 1000000) {lp : LP} {e0 : Int} {a0 : Nat} (hlp : lp = lpOf Try.prog cfg (icall Try.prog cfg j) Try.f55.ntmps 55 j ((rfH B a0 e0).map (·.1))) (m : Nat) (hm : n = m + 1) (s : Sg) (a : Nat) (h : Rf B a s) (g1 : s.2 = 0) :
    ∃ a', Rf B a' (sFlows (m + 1) s).2 ∧ ∀ (lf : Nat) (st : St), m + 3 < lf → prune [Nm.arg 0] [0, 2, 3, 4, 5] st = some ⟨[(0, .ptr (.arg 0) 0), (2, .ptr (.slot 2) 0), (3, .ptr (.slot 3) 0), (4, .d (.int .i64 n)), (5, .d (.int .i64 0))], [(.arg 0, .cells [.d (.list (bL B)), .d (.int .i64 a), .d (.int .i64 0)]), (.slot 2, .cells [.d (.int .i64 0), .d (.str []), .d (.int .i64 0), .nilsl, .nilsl]), (.slot 3, .cells [.d (.int .i64 kd), .d (.str nm), .d (.int .i64 nv), .d (.list al), .nilsl])]⟩ →
    loopK Try.prog cfg (icall Try.prog cfg j) lp Try.f55.ntmps 55 [Nm.arg 0] (bodyAt Try.f55 8) lf st (exitP [Nm.arg 0] (some [2, 3])) = some (.exit 0, ⟨[(2, .ptr (.slot 2) 0), (3, .ptr (.slot 3) 0)], [(.arg 0, .cells [.d (.list (bL B)), .d (.int .i64 a'), .d (.int .i64 (sFlows (m + 1) s).2.2)]), (.slot 2, .cells [.d (.int .i64 0), .d (.str []), .d (.int .i64 0), .nilsl, .nilsl]), (.slot 3, .cells [.d (.int .i64 kd), .d (.str nm), .d (.int .i64 nv), .d (.list al), .own (.slot 45) 0 ((sFlows (m + 1) s).1.map FlowT.cells).length]), (.slot 45, .arr 71 2 0 ((sFlows (m + 1) s).1.map FlowT.cells))]⟩) := by
  rw [sFlows_1 _ g1]
  obtain ⟨a1, h1, c1⟩ := pUint hB 4096 (by omega) h
  obtain ⟨a2, h2, c2⟩ := pMaybe hB h1
  replace c1 := c1 j hj
  replace c2 := c2 j hj
  obtain ⟨a3, h3, hih⟩ := p55L j B hB hj kd nm nv al n hn16 hlp m 1 1 (sFlow s).2 a2 _ 1 [FlowT.cells (sFlow s).1] (by omega) (by omega) rfl h2 rfl rfl (by omega)
  refine ⟨a3, h3, fun lf st hlf hp => ?_⟩
  have hend : (0 : Int) < (n : Int) := by omega
  rw [g1] at c1
  have hA : ((sFlow s).1 :: (sFlows m (sFlow s).2).1).map FlowT.cells = [FlowT.cells (sFlow s).1] ++ (sFlows m (sFlow s).2).1.map FlowT.cells := rfl
  rw [hA]
  have hfc : FlowT.cells (sFlow s).1 = [D.int .i64 ((sN 4096 s).1 : Int), D.list (cellsL (sM (sN 4096 s).2).1)] := rfl
  have hf2 : (sFlow s).2.2 = (sM (sN 4096 s).2).2.2 := rfl
  rw [hfc] at hih ⊢
  rw [hf2] at hih
  generalize sFlows m (sFlow s).2 = rr at *
  generalize sN 4096 s = r1 at *
  obtain ⟨v1, s1⟩ := r1
  generalize sM s1 = r2 at *
  obtain ⟨v2, s2⟩ := r2
  dsimp only at c1 c2 hih ⊢
  obtain ⟨lf, rfl⟩ : ∃ n, lf = n + 1 := ⟨lf - 1, by omega⟩
  refine loop_step hp ?_
  conv => lhs; whnf
  refine iteK_dec_t hend ?_
  conv => lhs; whnf
  refine iteK_dec_t hend ?_
  conv => lhs; whnf
  refine iteK_dec_t hend ?_
  conv => lhs; whnf
  refine iteK_dec_t hend ?_
  conv => lhs; whnf
  refine iteK_dec_t hend ?_
  conv => lhs; whnf
  refine iteK_dec_t hend ?_
  conv => lhs; whnf
  refine nextK_of c1 ?_
  conv => lhs; whnf
  refine nextK_of c2 ?_
  conv => lhs; whnf
  refine Eq.trans (hih lf _ (by omega) rfl) ?_
  rfl
theorem place55 (B : List UInt8) (hB : B.length ≤ LB) (a : Nat) (s : Sg) (h : Rf B a s) (k : Nat) (hk : 7 * B.length + 20000 < k) : ∃ a', Rf B a' (sPlace s).2 ∧ icall Try.prog cfg k 55 [.ptr (.arg 0) 0] (rfH B a s.2) = some (.ret (sPlace s).1.av, rfH B a' (sPlace s).2.2) := by
  obtain ⟨k, rfl⟩ : ∃ j, k = j + 1 := ⟨k - 1, by omega⟩
  obtain ⟨a1, h1, c1⟩ := pOne hB h
  obtain ⟨a2, h2, c2⟩ := pText hB h1
  obtain ⟨a3, h3, c3⟩ := pUint hB 9 (by omega) h2
  obtain ⟨a4, h4, c4⟩ := pMaybe hB h3
  obtain ⟨a5, h5, c5⟩ := pUint hB 16 (by omega) h4
  replace c1 := c1 k (by omega)
  replace c2 := c2 k (by omega)
  replace c3 := c3 k (by omega)
  replace c4 := c4 k (by omega)
  replace c5 := c5 k (by omega)
  have hn16 := sN_most 16 (sM (sN 9 (sT (sO s).2).2).2).2
  have hP : sPlace s = (⟨(sO s).1, (sT (sO s).2).1, (sN 9 (sT (sO s).2).2).1, (sM (sN 9 (sT (sO s).2).2).2).1, (sFlows (sN 16 (sM (sN 9 (sT (sO s).2).2).2).2).1 (sN 16 (sM (sN 9 (sT (sO s).2).2).2).2).2).1⟩, (sFlows (sN 16 (sM (sN 9 (sT (sO s).2).2).2).2).1 (sN 16 (sM (sN 9 (sT (sO s).2).2).2).2).2).2) := rfl
  rw [hP]
  clear hP
  generalize sO s = r1 at *
  obtain ⟨v1, s1⟩ := r1
  dsimp only at c1 c2 c3 c4 c5 hn16 h1 h2 h3 h4 h5 ⊢
  generalize sT s1 = r2 at *
  obtain ⟨v2, s2⟩ := r2
  dsimp only at c2 c3 c4 c5 hn16 h2 h3 h4 h5 ⊢
  generalize sN 9 s2 = r3 at *
  obtain ⟨v3, s3⟩ := r3
  dsimp only at c3 c4 c5 hn16 h3 h4 h5 ⊢
  generalize sM s3 = r4 at *
  obtain ⟨v4, s4⟩ := r4
  dsimp only at c4 c5 hn16 h4 h5 ⊢
  generalize sN 16 s4 = r5 at *
  obtain ⟨n, s5⟩ := r5
  dsimp only at c5 hn16 h5 ⊢
  obtain ⟨b0, e0⟩ := s
  obtain ⟨b1, e1⟩ := s1
  obtain ⟨b2, e2⟩ := s2
  obtain ⟨b3, e3⟩ := s3
  obtain ⟨b4, e4⟩ := s4
  obtain ⟨b5, e5⟩ := s5
  dsimp only at c1 c2 c3 c4 c5
  by_cases g0 : e5 ≠ 0 ∨ n = 0
  · have hf : sFlows n (b5, e5) = ([], b5, e5) := by
      rcases g0 with g | rfl
      · exact sFlows_e n g
      · rfl
    rw [hf]
    refine ⟨a5, h5, ?_⟩
    show icall Try.prog cfg _ _ _ _ = some (.ret (.agg [.d (.int .i64 (v1 : Int)), .d (.str v2), .d (.int .i64 (v3 : Int)), .d (.list (cellsL v4)), .d (.list [])]), rfH B a5 e5)
    rw [icall_body rfl Try.func55]
    obtain ⟨lp, hlp⟩ : ∃ lp, lp = lpOf Try.prog cfg (icall Try.prog cfg k) Try.f55.ntmps 55 k ((rfH B a e0).map (·.1)) := ⟨_, rfl⟩
    rw [← hlp]
    conv => lhs; whnf
    refine nextK_of c1 ?_
    conv => lhs; whnf
    refine nextK_of c2 ?_
    conv => lhs; whnf
    refine nextK_of c3 ?_
    conv => lhs; whnf
    refine nextK_of c4 ?_
    conv => lhs; whnf
    refine nextK_of c5 ?_
    conv => lhs; whnf
    refine nextK_of (loop_at hlp (p55E k B hB (by omega) v1 v2 v3 (cellsL v4) n (by omega) hlp (b5, e5) a5 e5 0 (by omega) k (by omega) _ rfl)) ?_
    conv => lhs; whnf
    refine Eq.trans (b := some (Res.ret (AV.agg [AV.d (D.int IntKind.i64 ↑v1), AV.d (D.str v2), AV.d (D.int IntKind.i64 ↑v3), AV.d (D.list (cellsL v4)), AV.d (D.list [])]), [(Nm.arg (0 : Nat), AObj.cells [AV.d (D.list (bL B)), AV.d (D.int IntKind.i64 ↑a5), AV.d (D.int IntKind.i64 e5)])])) (by kernel_rfl) ?_
    rfl
  · obtain ⟨m, rfl⟩ : ∃ m, n = m + 1 := ⟨n - 1, by omega⟩
    obtain rfl : e5 = 0 := by omega
    obtain ⟨lp, hlp⟩ : ∃ lp, lp = lpOf Try.prog cfg (icall Try.prog cfg k) Try.f55.ntmps 55 k ((rfH B a e0).map (·.1)) := ⟨_, rfl⟩
    obtain ⟨a6, h6, hl6⟩ := p55S k B hB (by omega) v1 v2 v3 (cellsL v4) (m + 1) (by omega) hlp m rfl (b5, 0) a5 h5 rfl
    refine ⟨a6, h6, ?_⟩
    generalize sFlows (m + 1) (b5, 0) = rr at *
    obtain ⟨fl, b6, e6⟩ := rr
    dsimp only at hl6 ⊢
    show icall Try.prog cfg _ _ _ _ = some (.ret (.agg [.d (.int .i64 (v1 : Int)), .d (.str v2), .d (.int .i64 (v3 : Int)), .d (.list (cellsL v4)), .d (.list (fl.map FlowT.cells))]), rfH B a6 e6)
    generalize fl.map FlowT.cells = R at *
    have ht : R.take R.length = R := List.take_length
    rw [icall_body rfl Try.func55]
    rw [← hlp]
    conv => lhs; whnf
    refine nextK_of c1 ?_
    conv => lhs; whnf
    refine nextK_of c2 ?_
    conv => lhs; whnf
    refine nextK_of c3 ?_
    conv => lhs; whnf
    refine nextK_of c4 ?_
    conv => lhs; whnf
    refine nextK_of c5 ?_
    conv => lhs; whnf
    refine nextK_of (loop_at hlp (hl6 k _ (by omega) rfl)) ?_
    conv => lhs; whnf
    refine Eq.trans (b := some (Res.ret (AV.agg [AV.d (D.int IntKind.i64 ↑v1), AV.d (D.str v2), AV.d (D.int IntKind.i64 ↑v3), AV.d (D.list (cellsL v4)), AV.d (D.list (List.take (List.length R) R))]), [(Nm.arg (0 : Nat), AObj.cells [AV.d (D.list (bL B)), AV.d (D.int IntKind.i64 ↑a6), AV.d (D.int IntKind.i64 e6)])])) (by kernel_rfl) ?_
    (exact congrArg (fun q => some (Res.ret (.agg [.d (.int .i64 (v1 : Int)), .d (.str v2), .d (.int .i64 (v3 : Int)), .d (.list (cellsL v4)), .d (.list q)]), rfH B a6 e6)) ht)
end Go.Rx11
