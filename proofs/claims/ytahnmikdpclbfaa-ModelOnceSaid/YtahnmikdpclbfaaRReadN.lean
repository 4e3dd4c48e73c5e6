/- A part of the proof of the law: what functions of the program come to, walked by Rx, or plain facts on it. -/
import Derived.Test.YtahnmikdpclbfaaRReadM
open Go Go.Rx Go.Proofs Go.Rx11 Go.RxTree
set_option maxRecDepth 1000000
set_option maxHeartbeats 4000000
set_option linter.unusedVariables false
set_option linter.unusedSimpArgs false
namespace Go.Rx11
theorem o24EN (j : Nat) (L : Nat) (hL : L ≤ LB) (hj : 7 * L + 20000 < j) (id : List UInt8) (n : Nat) (hn16 : n ≤ 1000000) {lp : LP} (hlp : lp = lpOf Try.prog cfg (icall Try.prog cfg j) Try.f24.ntmps 24 j (([] : Hp).map (·.1))) (mb : List UInt8) (e : Int) (z : Int) (he : e ≠ 0 ∨ ¬ z < (n : Int)) (lf : Nat) (hlf : 0 < lf) (st : St)
    (hp : prune [] [2, 4, 5, 6, 7] st = some ⟨[(2, .ptr (.slot 2) 0), (4, .ptr (.slot 14) 0), (5, .ptr (.slot 5) 0), (6, .d (.int .i64 n)), (7, .d (.int .i64 z))], [(.slot 2, .cells [.d (.str []), .nilsl]), (.slot 14, .cells [.d (.list (bL mb)), .d (.int .i64 e)]), (.slot 5, .cells [.d (.str id), .nilsl])]⟩) :
    loopK Try.prog cfg (icall Try.prog cfg j) lp Try.f24.ntmps 24 [] (bodyAt Try.f24 5) lf st (exitP [] (some [2, 4, 5])) = some (.exit 0, ⟨[(2, .ptr (.slot 2) 0), (4, .ptr (.slot 14) 0), (5, .ptr (.slot 5) 0)], [(.slot 2, .cells [.d (.str []), .nilsl]), (.slot 14, .cells [.d (.list (bL mb)), .d (.int .i64 e)]), (.slot 5, .cells [.d (.str id), .nilsl])]⟩) := by
  obtain ⟨lf, rfl⟩ : ∃ n, lf = n + 1 := ⟨lf - 1, by omega⟩
  refine loop_step hp ?_
  conv => lhs; whnf
  refine iteK_dec (fun h1 => ?_) (fun h1 => ?_)
  · rw [dec_t h1]
    conv => lhs; whnf
    refine iteK_beq (fun h2 => ?_) (fun h2 => ?_)
    · obtain rfl : e = (0 : Int) := h2
      (exfalso; omega)
    · rw [beq_f h2]
      conv => lhs; whnf
      refine Eq.trans (b := some (Fx.exit (0 : Nat), St.mk [((2 : Nat), AV.ptr (Nm.slot (2 : Nat)) (0 : Nat)), ((4 : Nat), AV.ptr (Nm.slot (14 : Nat)) (0 : Nat)), ((5 : Nat), AV.ptr (Nm.slot (5 : Nat)) (0 : Nat))] [(Nm.slot (2 : Nat), AObj.cells [AV.d (D.str []), AV.nilsl]), (Nm.slot (14 : Nat), AObj.cells [AV.d (D.list (bL mb)), AV.d (D.int IntKind.i64 e)]), (Nm.slot (5 : Nat), AObj.cells [AV.d (D.str id), AV.nilsl])])) (by kernel_rfl) ?_
      rfl
  · rw [dec_f h1]
    conv => lhs; whnf
    refine Eq.trans (b := some (Fx.exit (0 : Nat), St.mk [((2 : Nat), AV.ptr (Nm.slot (2 : Nat)) (0 : Nat)), ((4 : Nat), AV.ptr (Nm.slot (14 : Nat)) (0 : Nat)), ((5 : Nat), AV.ptr (Nm.slot (5 : Nat)) (0 : Nat))] [(Nm.slot (2 : Nat), AObj.cells [AV.d (D.str []), AV.nilsl]), (Nm.slot (14 : Nat), AObj.cells [AV.d (D.list (bL mb)), AV.d (D.int IntKind.i64 e)]), (Nm.slot (5 : Nat), AObj.cells [AV.d (D.str id), AV.nilsl])])) (by kernel_rfl) ?_
    rfl
theorem o24RN (j : Nat) (L : Nat) (hL : L ≤ LB) (hj : 7 * L + 20000 < j) (id : List UInt8) (n : Nat) (hn16 : n ≤ 1000000) {lp : LP} (hlp : lp = lpOf Try.prog cfg (icall Try.prog cfg j) Try.f24.ntmps 24 j (([] : Hp).map (·.1))) (z : Int) (hend : z < (n : Int)) (s : Sg) (mb : List UInt8) (h : Rl L mb s) (g1 : s.2 = 0) (p : PlaceT) (hpp : p = (sPlace s).1) (e' : Int) (hee : e' = (sPlace s).2.2) :
    ∃ mb', Rl L mb' (sPlace s).2 ∧ ∀ (r : Option (Fx × St)) (lf : Nat) (st : St), (∀ st', prune [] [2, 4, 5, 6, 7] st' = some ⟨[(2, .ptr (.slot 2) 0), (4, .ptr (.slot 14) 0), (5, .ptr (.slot 5) 0), (6, .d (.int .i64 n)), (7, .d (.int .i64 (IntKind.i64.wrap (z + 1))))], [(.slot 2, .cells [.d (.str []), .nilsl]), (.slot 14, .cells [.d (.list (bL mb')), .d (.int .i64 e')]), (.slot 5, .cells [.d (.str id), .own (.slot 69) 0 1]), (.slot 69, .arr 57 5 0 [p.cells])]⟩ → loopK Try.prog cfg (icall Try.prog cfg j) lp Try.f24.ntmps 24 [] (bodyAt Try.f24 5) lf st' (exitP [] (some [2, 4, 5])) = r) →
    prune [] [2, 4, 5, 6, 7] st = some ⟨[(2, .ptr (.slot 2) 0), (4, .ptr (.slot 14) 0), (5, .ptr (.slot 5) 0), (6, .d (.int .i64 n)), (7, .d (.int .i64 z))], [(.slot 2, .cells [.d (.str []), .nilsl]), (.slot 14, .cells [.d (.list (bL mb)), .d (.int .i64 0)]), (.slot 5, .cells [.d (.str id), .nilsl])]⟩ → loopK Try.prog cfg (icall Try.prog cfg j) lp Try.f24.ntmps 24 [] (bodyAt Try.f24 5) (lf + 1) st (exitP [] (some [2, 4, 5])) = r := by
  have hP : sPlace s = (⟨(sO s).1, (sT (sO s).2).1, (sN 9 (sT (sO s).2).2).1, (sM (sN 9 (sT (sO s).2).2).2).1, (sFlows (sN 16 (sM (sN 9 (sT (sO s).2).2).2).2).1 (sN 16 (sM (sN 9 (sT (sO s).2).2).2).2).2).1⟩, (sFlows (sN 16 (sM (sN 9 (sT (sO s).2).2).2).2).1 (sN 16 (sM (sN 9 (sT (sO s).2).2).2).2).2).2) := rfl
  have hn5 := sN_most 16 (sM (sN 9 (sT (sO s).2).2).2).2
  obtain ⟨a1, h1, c1⟩ := qOne hL h
  obtain ⟨a2, h2, c2⟩ := qText hL h1
  obtain ⟨a3, h3, c3⟩ := qUint hL 9 (by omega) h2
  obtain ⟨a4, h4, c4⟩ := qMaybe hL h3
  obtain ⟨a5, h5, c5⟩ := qUint hL 16 (by omega) h4
  replace c1 := c1 j (by omega)
  replace c2 := c2 j (by omega)
  replace c3 := c3 j (by omega)
  replace c4 := c4 j (by omega)
  replace c5 := c5 j (by omega)
  rw [g1] at c1
  generalize sPlace s = pp at *
  subst hP
  generalize sO s = r1 at *
  obtain ⟨v1, b1, e1⟩ := r1
  dsimp only at *
  generalize sT (b1, e1) = r1 at *
  obtain ⟨v2, b2, e2⟩ := r1
  dsimp only at *
  generalize sN 9 (b2, e2) = r1 at *
  obtain ⟨v3, b3, e3⟩ := r1
  dsimp only at *
  generalize sM (b3, e3) = r1 at *
  obtain ⟨v4, b4, e4⟩ := r1
  dsimp only at *
  generalize sN 16 (b4, e4) = r1 at *
  obtain ⟨v5, b5, e5⟩ := r1
  dsimp only at *
  by_cases g0 : e5 ≠ 0 ∨ v5 = 0
  · have hf : sFlows v5 (b5, e5) = ([], b5, e5) := by
      rcases g0 with g | rfl
      · exact sFlows_e v5 g
      · rfl
    rw [hf] at hpp hee ⊢
    dsimp only at hpp hee
    subst hpp hee
    refine ⟨a5, h5, fun r lf st hih hp => ?_⟩
    try dsimp only at hih
    · refine loop_step hp ?_
      have hR : PlaceT.cells ⟨v1, v2, v3, v4, []⟩ = [D.int .i64 (v1 : Int), D.str v2, D.int .i64 (v3 : Int), D.list (cellsL v4), D.list []] := by rfl
      rw [hR] at hih
      conv => lhs; whnf
      refine iteK_dec_t hend ?_
      conv => lhs; whnf
      refine iteK_dec_t hend ?_
      conv => lhs; whnf
      refine iteK_dec_t hend ?_
      conv => lhs; whnf
      refine iteK_dec_t hend ?_
      conv => lhs; whnf
      refine iteK_dec_t hend ?_
      conv => lhs; whnf
      refine iteK_dec_t hend ?_
      conv => lhs; whnf
      refine nextK_of c1 ?_
      conv => lhs; whnf
      refine nextK_of c2 ?_
      conv => lhs; whnf
      refine nextK_of c3 ?_
      conv => lhs; whnf
      refine nextK_of c4 ?_
      conv => lhs; whnf
      refine nextK_of c5 ?_
      conv => lhs; whnf
      refine nextK_of (loop_at hlp (m24EN j L hL hj id n z v1 v2 v3 (cellsL v4) v5 (by omega) hlp a5 _ 0 (by omega) j (by omega) _ rfl)) ?_
      conv => lhs; whnf
      refine Eq.trans (hih _ rfl) ?_
      rfl
  · obtain ⟨m, rfl⟩ : ∃ m, v5 = m + 1 := ⟨v5 - 1, by omega⟩
    obtain rfl : e5 = 0 := by omega
    obtain ⟨a6, h6, hl6⟩ := m24SN j L hL hj id n z v1 v2 v3 (cellsL v4) (m + 1) (by omega) hlp m rfl (b5, 0) a5 h5 rfl
    replace hl6 := fun st => hl6 j st (by omega)
    generalize sFlows (m + 1) (b5, 0) = rr at *
    obtain ⟨fl, b6, e6⟩ := rr
    dsimp only at hl6 hpp hee ⊢
    subst hpp hee
    refine ⟨a6, h6, fun r lf st hih hp => ?_⟩
    · refine loop_step hp ?_
      have hR : PlaceT.cells ⟨v1, v2, v3, v4, fl⟩ = [D.int .i64 (v1 : Int), D.str v2, D.int .i64 (v3 : Int), D.list (cellsL v4), D.list ((fl.map FlowT.cells).take (fl.map FlowT.cells).length)] := by (try rw [List.take_length]); rfl
      rw [hR] at hih
      generalize fl.map FlowT.cells = R at *
      conv => lhs; whnf
      refine iteK_dec_t hend ?_
      conv => lhs; whnf
      refine iteK_dec_t hend ?_
      conv => lhs; whnf
      refine iteK_dec_t hend ?_
      conv => lhs; whnf
      refine iteK_dec_t hend ?_
      conv => lhs; whnf
      refine iteK_dec_t hend ?_
      conv => lhs; whnf
      refine iteK_dec_t hend ?_
      conv => lhs; whnf
      refine nextK_of c1 ?_
      conv => lhs; whnf
      refine nextK_of c2 ?_
      conv => lhs; whnf
      refine nextK_of c3 ?_
      conv => lhs; whnf
      refine nextK_of c4 ?_
      conv => lhs; whnf
      refine nextK_of c5 ?_
      conv => lhs; whnf
      refine nextK_of (loop_at hlp (hl6 _ rfl)) ?_
      conv => lhs; whnf
      refine Eq.trans (hih _ rfl) ?_
      rfl
theorem o24EO (j : Nat) (L : Nat) (hL : L ≤ LB) (hj : 7 * L + 20000 < j) (id : List UInt8) (n : Nat) (hn16 : n ≤ 1000000) {lp : LP} (hlp : lp = lpOf Try.prog cfg (icall Try.prog cfg j) Try.f24.ntmps 24 j (([] : Hp).map (·.1))) (l : Nat) (ps : List (List D)) (mb : List UInt8) (e : Int) (z : Int) (he : e ≠ 0 ∨ ¬ z < (n : Int)) (lf : Nat) (hlf : 0 < lf) (st : St)
    (hp : prune [] [2, 4, 5, 6, 7] st = some ⟨[(2, .ptr (.slot 2) 0), (4, .ptr (.slot 14) 0), (5, .ptr (.slot 5) 0), (6, .d (.int .i64 n)), (7, .d (.int .i64 z))], [(.slot 2, .cells [.d (.str []), .nilsl]), (.slot 14, .cells [.d (.list (bL mb)), .d (.int .i64 e)]), (.slot 5, .cells [.d (.str id), .own (.slot 69) 0 l]), (.slot 69, .arr 57 5 0 ps)]⟩) :
    loopK Try.prog cfg (icall Try.prog cfg j) lp Try.f24.ntmps 24 [] (bodyAt Try.f24 5) lf st (exitP [] (some [2, 4, 5])) = some (.exit 0, ⟨[(2, .ptr (.slot 2) 0), (4, .ptr (.slot 14) 0), (5, .ptr (.slot 5) 0)], [(.slot 2, .cells [.d (.str []), .nilsl]), (.slot 14, .cells [.d (.list (bL mb)), .d (.int .i64 e)]), (.slot 5, .cells [.d (.str id), .own (.slot 69) 0 l]), (.slot 69, .arr 57 5 0 ps)]⟩) := by
  obtain ⟨lf, rfl⟩ : ∃ n, lf = n + 1 := ⟨lf - 1, by omega⟩
  refine loop_step hp ?_
  conv => lhs; whnf
  refine iteK_dec (fun h1 => ?_) (fun h1 => ?_)
  · rw [dec_t h1]
    conv => lhs; whnf
    refine iteK_beq (fun h2 => ?_) (fun h2 => ?_)
    · obtain rfl : e = (0 : Int) := h2
      (exfalso; omega)
    · rw [beq_f h2]
      conv => lhs; whnf
      refine Eq.trans (b := some (Fx.exit (0 : Nat), St.mk [((2 : Nat), AV.ptr (Nm.slot (2 : Nat)) (0 : Nat)), ((4 : Nat), AV.ptr (Nm.slot (14 : Nat)) (0 : Nat)), ((5 : Nat), AV.ptr (Nm.slot (5 : Nat)) (0 : Nat))] [(Nm.slot (2 : Nat), AObj.cells [AV.d (D.str []), AV.nilsl]), (Nm.slot (14 : Nat), AObj.cells [AV.d (D.list (bL mb)), AV.d (D.int IntKind.i64 e)]), (Nm.slot (5 : Nat), AObj.cells [AV.d (D.str id), AV.own (Nm.slot (69 : Nat)) (nat_lit 0) l]), (Nm.slot (69 : Nat), AObj.arr (57 : Nat) (5 : Nat) (nat_lit 0) ps)])) (by kernel_rfl) ?_
      rfl
  · rw [dec_f h1]
    conv => lhs; whnf
    refine Eq.trans (b := some (Fx.exit (0 : Nat), St.mk [((2 : Nat), AV.ptr (Nm.slot (2 : Nat)) (0 : Nat)), ((4 : Nat), AV.ptr (Nm.slot (14 : Nat)) (0 : Nat)), ((5 : Nat), AV.ptr (Nm.slot (5 : Nat)) (0 : Nat))] [(Nm.slot (2 : Nat), AObj.cells [AV.d (D.str []), AV.nilsl]), (Nm.slot (14 : Nat), AObj.cells [AV.d (D.list (bL mb)), AV.d (D.int IntKind.i64 e)]), (Nm.slot (5 : Nat), AObj.cells [AV.d (D.str id), AV.own (Nm.slot (69 : Nat)) (nat_lit 0) l]), (Nm.slot (69 : Nat), AObj.arr (57 : Nat) (5 : Nat) (nat_lit 0) ps)])) (by kernel_rfl) ?_
    rfl
theorem o24RO (j : Nat) (L : Nat) (hL : L ≤ LB) (hj : 7 * L + 20000 < j) (id : List UInt8) (n : Nat) (hn16 : n ≤ 1000000) {lp : LP} (hlp : lp = lpOf Try.prog cfg (icall Try.prog cfg j) Try.f24.ntmps 24 j (([] : Hp).map (·.1))) (l : Nat) (ps : List (List D)) (z : Int) (hend : z < (n : Int)) (s : Sg) (mb : List UInt8) (h : Rl L mb s) (g1 : s.2 = 0) (hl : ps.length = l) (hb : l ≤ 4000000) (p : PlaceT) (hpp : p = (sPlace s).1) (e' : Int) (hee : e' = (sPlace s).2.2) :
    ∃ mb', Rl L mb' (sPlace s).2 ∧ ∀ (r : Option (Fx × St)) (lf : Nat) (st : St), (∀ st', prune [] [2, 4, 5, 6, 7] st' = some ⟨[(2, .ptr (.slot 2) 0), (4, .ptr (.slot 14) 0), (5, .ptr (.slot 5) 0), (6, .d (.int .i64 n)), (7, .d (.int .i64 (IntKind.i64.wrap (z + 1))))], [(.slot 2, .cells [.d (.str []), .nilsl]), (.slot 14, .cells [.d (.list (bL mb')), .d (.int .i64 e')]), (.slot 5, .cells [.d (.str id), .own (.slot 69) 0 (l + 1)]), (.slot 69, .arr 57 5 0 (ps ++ [p.cells]))]⟩ → loopK Try.prog cfg (icall Try.prog cfg j) lp Try.f24.ntmps 24 [] (bodyAt Try.f24 5) lf st' (exitP [] (some [2, 4, 5])) = r) →
    prune [] [2, 4, 5, 6, 7] st = some ⟨[(2, .ptr (.slot 2) 0), (4, .ptr (.slot 14) 0), (5, .ptr (.slot 5) 0), (6, .d (.int .i64 n)), (7, .d (.int .i64 z))], [(.slot 2, .cells [.d (.str []), .nilsl]), (.slot 14, .cells [.d (.list (bL mb)), .d (.int .i64 0)]), (.slot 5, .cells [.d (.str id), .own (.slot 69) 0 l]), (.slot 69, .arr 57 5 0 ps)]⟩ → loopK Try.prog cfg (icall Try.prog cfg j) lp Try.f24.ntmps 24 [] (bodyAt Try.f24 5) (lf + 1) st (exitP [] (some [2, 4, 5])) = r := by
  have hP : sPlace s = (⟨(sO s).1, (sT (sO s).2).1, (sN 9 (sT (sO s).2).2).1, (sM (sN 9 (sT (sO s).2).2).2).1, (sFlows (sN 16 (sM (sN 9 (sT (sO s).2).2).2).2).1 (sN 16 (sM (sN 9 (sT (sO s).2).2).2).2).2).1⟩, (sFlows (sN 16 (sM (sN 9 (sT (sO s).2).2).2).2).1 (sN 16 (sM (sN 9 (sT (sO s).2).2).2).2).2).2) := rfl
  have hn5 := sN_most 16 (sM (sN 9 (sT (sO s).2).2).2).2
  obtain ⟨a1, h1, c1⟩ := qOne hL h
  obtain ⟨a2, h2, c2⟩ := qText hL h1
  obtain ⟨a3, h3, c3⟩ := qUint hL 9 (by omega) h2
  obtain ⟨a4, h4, c4⟩ := qMaybe hL h3
  obtain ⟨a5, h5, c5⟩ := qUint hL 16 (by omega) h4
  replace c1 := c1 j (by omega)
  replace c2 := c2 j (by omega)
  replace c3 := c3 j (by omega)
  replace c4 := c4 j (by omega)
  replace c5 := c5 j (by omega)
  rw [g1] at c1
  generalize sPlace s = pp at *
  subst hP
  generalize sO s = r1 at *
  obtain ⟨v1, b1, e1⟩ := r1
  dsimp only at *
  generalize sT (b1, e1) = r1 at *
  obtain ⟨v2, b2, e2⟩ := r1
  dsimp only at *
  generalize sN 9 (b2, e2) = r1 at *
  obtain ⟨v3, b3, e3⟩ := r1
  dsimp only at *
  generalize sM (b3, e3) = r1 at *
  obtain ⟨v4, b4, e4⟩ := r1
  dsimp only at *
  generalize sN 16 (b4, e4) = r1 at *
  obtain ⟨v5, b5, e5⟩ := r1
  dsimp only at *
  by_cases g0 : e5 ≠ 0 ∨ v5 = 0
  · have hf : sFlows v5 (b5, e5) = ([], b5, e5) := by
      rcases g0 with g | rfl
      · exact sFlows_e v5 g
      · rfl
    rw [hf] at hpp hee ⊢
    dsimp only at hpp hee
    subst hpp hee
    refine ⟨a5, h5, fun r lf st hih hp => ?_⟩
    try dsimp only at hih
    · refine loop_step hp ?_
      have hR : ps.take l ++ [[D.int .i64 (v1 : Int), D.str v2, D.int .i64 (v3 : Int), D.list (cellsL v4), D.list []]] = ps ++ [PlaceT.cells ⟨v1, v2, v3, v4, []⟩] := by rw [List.take_of_length_le (by omega)]; rfl
      rw [← hR] at hih
      conv => lhs; whnf
      refine iteK_dec_t hend ?_
      conv => lhs; whnf
      refine iteK_dec_t hend ?_
      conv => lhs; whnf
      refine iteK_dec_t hend ?_
      conv => lhs; whnf
      refine iteK_dec_t hend ?_
      conv => lhs; whnf
      refine iteK_dec_t hend ?_
      conv => lhs; whnf
      refine iteK_dec_t hend ?_
      conv => lhs; whnf
      refine nextK_of c1 ?_
      conv => lhs; whnf
      refine nextK_of c2 ?_
      conv => lhs; whnf
      refine nextK_of c3 ?_
      conv => lhs; whnf
      refine nextK_of c4 ?_
      conv => lhs; whnf
      refine nextK_of c5 ?_
      conv => lhs; whnf
      refine nextK_of (loop_at hlp (m24EO j L hL hj id l ps n z v1 v2 v3 (cellsL v4) v5 (by omega) hlp a5 _ 0 (by omega) j (by omega) _ rfl)) ?_
      conv => lhs; whnf
      refine nextK_of (aop_app rfl rfl rfl rfl rfl rfl rfl rfl rfl rfl rfl rfl (lenP (by omega))) ?_
      conv => lhs; whnf
      refine Eq.trans (hih _ rfl) ?_
      rfl
  · obtain ⟨m, rfl⟩ : ∃ m, v5 = m + 1 := ⟨v5 - 1, by omega⟩
    obtain rfl : e5 = 0 := by omega
    obtain ⟨a6, h6, hl6⟩ := m24SO j L hL hj id l ps n z v1 v2 v3 (cellsL v4) (m + 1) (by omega) hlp m rfl (b5, 0) a5 h5 rfl
    replace hl6 := fun st => hl6 j st (by omega)
    generalize sFlows (m + 1) (b5, 0) = rr at *
    obtain ⟨fl, b6, e6⟩ := rr
    dsimp only at hl6 hpp hee ⊢
    subst hpp hee
    refine ⟨a6, h6, fun r lf st hih hp => ?_⟩
    · refine loop_step hp ?_
      have hR : ps.take l ++ [[D.int .i64 (v1 : Int), D.str v2, D.int .i64 (v3 : Int), D.list (cellsL v4), D.list ((fl.map FlowT.cells).take (fl.map FlowT.cells).length)]] = ps ++ [PlaceT.cells ⟨v1, v2, v3, v4, fl⟩] := by rw [List.take_of_length_le (by omega)]; (try rw [List.take_length]); rfl
      rw [← hR] at hih
      generalize fl.map FlowT.cells = R at *
      conv => lhs; whnf
      refine iteK_dec_t hend ?_
      conv => lhs; whnf
      refine iteK_dec_t hend ?_
      conv => lhs; whnf
      refine iteK_dec_t hend ?_
      conv => lhs; whnf
      refine iteK_dec_t hend ?_
      conv => lhs; whnf
      refine iteK_dec_t hend ?_
      conv => lhs; whnf
      refine iteK_dec_t hend ?_
      conv => lhs; whnf
      refine nextK_of c1 ?_
      conv => lhs; whnf
      refine nextK_of c2 ?_
      conv => lhs; whnf
      refine nextK_of c3 ?_
      conv => lhs; whnf
      refine nextK_of c4 ?_
      conv => lhs; whnf
      refine nextK_of c5 ?_
      conv => lhs; whnf
      refine nextK_of (loop_at hlp (hl6 _ rfl)) ?_
      conv => lhs; whnf
      refine nextK_of (aop_app rfl rfl rfl rfl rfl rfl rfl rfl rfl rfl rfl rfl (lenP (by omega))) ?_
      conv => lhs; whnf
      refine Eq.trans (hih _ rfl) ?_
      rfl
theorem o24L (j : Nat) (L : Nat) (hL : L ≤ LB) (hj : 7 * L + 20000 < j) (id : List UInt8) (n : Nat) (hn16 : n ≤ 1000000) {lp : LP} (hlp : lp = lpOf Try.prog cfg (icall Try.prog cfg j) Try.f24.ntmps 24 j (([] : Hp).map (·.1))) :
    ∀ (m i : Nat) (z : Int) (s : Sg) (mb : List UInt8) (e : Int) (l : Nat) (ps : List (List D)), n - i = m → i ≤ n → z = (i : Int) → Rl L mb s → s.2 = e → ps.length = l → l ≤ 2000000 + i →
    ∃ mb', Rl L mb' (sPlaces m s).2 ∧ ∀ (lf : Nat) (st : St), m + 1 < lf → prune [] [2, 4, 5, 6, 7] st = some ⟨[(2, .ptr (.slot 2) 0), (4, .ptr (.slot 14) 0), (5, .ptr (.slot 5) 0), (6, .d (.int .i64 n)), (7, .d (.int .i64 z))], [(.slot 2, .cells [.d (.str []), .nilsl]), (.slot 14, .cells [.d (.list (bL mb)), .d (.int .i64 e)]), (.slot 5, .cells [.d (.str id), .own (.slot 69) 0 l]), (.slot 69, .arr 57 5 0 ps)]⟩ →
    loopK Try.prog cfg (icall Try.prog cfg j) lp Try.f24.ntmps 24 [] (bodyAt Try.f24 5) lf st (exitP [] (some [2, 4, 5])) = some (.exit 0, ⟨[(2, .ptr (.slot 2) 0), (4, .ptr (.slot 14) 0), (5, .ptr (.slot 5) 0)], [(.slot 2, .cells [.d (.str []), .nilsl]), (.slot 14, .cells [.d (.list (bL mb')), .d (.int .i64 (sPlaces m s).2.2)]), (.slot 5, .cells [.d (.str id), .own (.slot 69) 0 (ps ++ (sPlaces m s).1.map PlaceT.cells).length]), (.slot 69, .arr 57 5 0 (ps ++ (sPlaces m s).1.map PlaceT.cells))]⟩) := by
  intro m
  have hmx : 1000001 ≤ maxLen := by decide
  induction m with
  | zero =>
    intro i z s mb e l ps hi hle hz h he hl hb
    refine ⟨mb, h, fun lf st hlf hp => ?_⟩
    rw [o24EO j L hL hj id n hn16 hlp l ps mb e z (.inr (by omega)) lf (by omega) st hp]
    rw [sPlaces, List.map_nil, List.append_nil, hl, he]
  | succ m ihm =>
    intro i z s mb e l ps hi hle hz h he hl hb
    by_cases g0 : e ≠ 0
    · refine ⟨mb, by rw [sPlaces_e _ (by omega)]; exact h, fun lf st hlf hp => ?_⟩
      rw [o24EO j L hL hj id n hn16 hlp l ps mb e z (.inl g0) lf (by omega) st hp]
      rw [sPlaces_e _ (by omega), List.map_nil, List.append_nil, hl, he]
    · have g1 : s.2 = 0 := by omega
      obtain rfl : e = 0 := by omega
      rw [sPlaces_1 _ g1]
      obtain ⟨a1, h1, hr⟩ := o24RO j L hL hj id n hn16 hlp l ps z (by omega) s mb h g1 hl (by omega) _ rfl _ rfl
      have hRl : (ps ++ [(sPlace s).1.cells]).length = l + 1 := by rw [List.length_append, hl]; rfl
      obtain ⟨a3, h3, hih⟩ := ihm (i + 1) (IntKind.i64.wrap (z + 1)) (sPlace s).2 a1 _ (l + 1) (ps ++ [(sPlace s).1.cells]) (by omega) (by omega) (wrap_up hz (by omega)) h1 rfl hRl (by omega)
      refine ⟨a3, h3, fun lf st hlf hp => ?_⟩
      have hA : ps ++ ((sPlace s).1 :: (sPlaces m (sPlace s).2).1).map PlaceT.cells = (ps ++ [(sPlace s).1.cells]) ++ (sPlaces m (sPlace s).2).1.map PlaceT.cells := by rw [List.append_assoc]; rfl
      rw [hA]
      obtain ⟨lf, rfl⟩ : ∃ n, lf = n + 1 := ⟨lf - 1, by omega⟩
      exact hr _ lf st (fun st' hp' => hih lf st' (by omega) hp') hp
theorem o24S (j : Nat) (L : Nat) (hL : L ≤ LB) (hj : 7 * L + 20000 < j) (id : List UInt8) (n : Nat) (hn16 : n ≤ 1000000) {lp : LP} (hlp : lp = lpOf Try.prog cfg (icall Try.prog cfg j) Try.f24.ntmps 24 j (([] : Hp).map (·.1))) (m : Nat) (hm : n = m + 1) (s : Sg) (mb : List UInt8) (h : Rl L mb s) (g1 : s.2 = 0) :
    ∃ mb', Rl L mb' (sPlaces (m + 1) s).2 ∧ ∀ (lf : Nat) (st : St), m + 3 < lf → prune [] [2, 4, 5, 6, 7] st = some ⟨[(2, .ptr (.slot 2) 0), (4, .ptr (.slot 14) 0), (5, .ptr (.slot 5) 0), (6, .d (.int .i64 n)), (7, .d (.int .i64 0))], [(.slot 2, .cells [.d (.str []), .nilsl]), (.slot 14, .cells [.d (.list (bL mb)), .d (.int .i64 0)]), (.slot 5, .cells [.d (.str id), .nilsl])]⟩ →
    loopK Try.prog cfg (icall Try.prog cfg j) lp Try.f24.ntmps 24 [] (bodyAt Try.f24 5) lf st (exitP [] (some [2, 4, 5])) = some (.exit 0, ⟨[(2, .ptr (.slot 2) 0), (4, .ptr (.slot 14) 0), (5, .ptr (.slot 5) 0)], [(.slot 2, .cells [.d (.str []), .nilsl]), (.slot 14, .cells [.d (.list (bL mb')), .d (.int .i64 (sPlaces (m + 1) s).2.2)]), (.slot 5, .cells [.d (.str id), .own (.slot 69) 0 ((sPlaces (m + 1) s).1.map PlaceT.cells).length]), (.slot 69, .arr 57 5 0 ((sPlaces (m + 1) s).1.map PlaceT.cells))]⟩) := by
  rw [sPlaces_1 _ g1]
  obtain ⟨a1, h1, hr⟩ := o24RN j L hL hj id n hn16 hlp 0 (by omega) s mb h g1 _ rfl _ rfl
  obtain ⟨a3, h3, hih⟩ := o24L j L hL hj id n hn16 hlp m 1 (IntKind.i64.wrap (0 + 1)) (sPlace s).2 a1 _ 1 [(sPlace s).1.cells] (by omega) (by omega) (by decide) h1 rfl rfl (by omega)
  refine ⟨a3, h3, fun lf st hlf hp => ?_⟩
  have hA : ((sPlace s).1 :: (sPlaces m (sPlace s).2).1).map PlaceT.cells = [(sPlace s).1.cells] ++ (sPlaces m (sPlace s).2).1.map PlaceT.cells := rfl
  rw [hA]
  obtain ⟨lf, rfl⟩ : ∃ n, lf = n + 1 := ⟨lf - 1, by omega⟩
  exact hr _ lf st (fun st' hp' => hih lf st' (by omega) hp') hp
end Go.Rx11
